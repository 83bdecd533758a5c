/- What is packed is parsed, one behind the other; cut anywhere it is too short, or has fewer deeds. No condition beyond the given statement. -/
import Derived.Test.YtfhgmpeplfjmcaaYcP10
import Derived.Test.YtfhgmpeplfjmcaaCxAm
import Derived.Test.YtfhgmpeplfjmcaaRows
import Derived.WalkKit
import Derived.ProofKit
import Derived.OpenShut
import Derived.ShutString
import Derived.ChangeOld
import Derived.Below
namespace Go.Proofs.Ytfhgmpeplfjmcaa.PackBackDone
open Go.Proofs.Ytfhgmpeplfjmcaa
open Go.Cx Go.Cx.AV Go.ChangeShapes Go.WideShapes Go.ChangeAt Go.RowKit
set_option linter.unusedVariables false

theorem own : ownKnob Try.prog.godebug = none := by kernel_rfl
theorem laidOut : laidOutB Try.prog = true := by kernel_rfl

section
attribute [local irreducible] Tr.fold T_comptoirlaw21_PackBack E_comptoirlaw21_PackBack bodyK headC headL stepC stepL wpX callA M_comptoirlaw21_PackBack L_comptoirlaw21_PackBack b_comptoirlaw21_PackBack
set_option maxRecDepth 100000 in
theorem law (ls : List AV) (h : WfArgs Try.prog 8 Try.f10.params.toList ls) (hbk : bulkL ls ≤ 1048576) : callA E_comptoirlaw21_PackBack Try.f10 ls [] (fun r _ => r = .bool true) := by
  have hp : Try.f10.params.toList.map (shA Try.prog 8) = [.slice 38 (.agg [(.int .i64), (.int .u64), (.int .i64), (.int .i64), (.int .i64), (.int .i64), (.int .i64), (.int .i64), (.int .i64), (.int .u64), (.int .i64), (.int .i64), .str, .str, .str, .str, (.int .u64), .str, .str, .str, .str, (.int .i64), .str, .str, (.int .i64), .str, (.slice 2 (.agg [(.int .i64), (.slice 1 (.int .u8))])), .str, .str, (.slice 2 (.agg [.str, .str])), (.slice 2 (.agg [(.int .i64), (.slice 1 (.int .u8))])), (.int .i64), (.int .u64), .str, .str, .str, (.slice 2 (.agg [.str, .str])), (.slice 2 (.agg [(.int .i64), (.slice 1 (.int .u8))]))]), .int .i64] := by kernel_rfl
  generalize hts : Try.f10.params.toList = ts at h hp
  match ts, ls, h, hp, hbk with
  | [t0, t1], [a0, a1], h, hp, hbk =>
    simp only [List.map_cons, List.map_nil, List.cons.injEq, and_true] at hp
    simp only [WfArgs, and_true] at h
    obtain ⟨p0, p1⟩ := hp
    obtain ⟨q0, q1⟩ := h
    rw [p0] at q0
    rw [p1] at q1
    obtain ⟨x0, rfl, w0, v0⟩ := q0
    obtain ⟨n1, rfl, w1⟩ := q1
    have c : ∀ Rv : Bool → Prop, callA E_comptoirlaw21_PackBack Try.f10 [.slice 38 (.agg [(.int .i64), (.int .u64), (.int .i64), (.int .i64), (.int .i64), (.int .i64), (.int .i64), (.int .i64), (.int .i64), (.int .u64), (.int .i64), (.int .i64), .str, .str, .str, .str, (.int .u64), .str, .str, .str, .str, (.int .i64), .str, .str, (.int .i64), .str, (.slice 2 (.agg [(.int .i64), (.slice 1 (.int .u8))])), .str, .str, (.slice 2 (.agg [.str, .str])), (.slice 2 (.agg [(.int .i64), (.slice 1 (.int .u8))])), (.int .i64), (.int .u64), .str, .str, .str, (.slice 2 (.agg [.str, .str])), (.slice 2 (.agg [(.int .i64), (.slice 1 (.int .u8))]))]) x0 .ro, .int .i64 n1] [] (outP (.leaf .bool) fun ls => Rv (getB (ls.getD 0 .junk))) = (T_comptoirlaw21_PackBack x0 n1).fold False (Sum.elim (L_comptoirlaw21_PackBack x0 n1 Rv) Rv) := fun Rv => by kernel_rfl
    have g : g_comptoirlaw21_PackBack x0 n1 = some true := pback_eq x0 n1 v0 (by simp only [bulkL, bulkV] at hbk; omega)
    exact law_mach (step := M_comptoirlaw21_PackBack x0 n1) (T := T_comptoirlaw21_PackBack x0 n1) (L := L_comptoirlaw21_PackBack x0 n1) c (fun Rv => h_comptoirlaw21_PackBack x0 n1 Rv) g
end

theorem bulk (H : Type) : Bulk (H := H) Rows.uptoBulk Rows.uptoBulkAll :=
  ⟨fun l => by cases l <;> simp [Rows.uptoBulk], fun _ => by simp [Rows.uptoBulk], by simp [Rows.uptoBulk], fun _ _ => by simp [Rows.uptoBulk], fun _ => by simp [Rows.uptoBulk], by simp [Rows.uptoBulkAll], fun _ _ => by simp [Rows.uptoBulkAll]⟩

set_option maxRecDepth 100000 in
theorem lifted (os : Os) (started : os.Started) (H : Type) (enc : TypeId × Value → H) (F : Stop.Interp) :
    ReturnsInHanded {} Try.checked os 10 .any ((Rows.OpenSpec.upto Rows.packBackSpec).pre6 enc Try.prog Try.f10 Rows.packBackUptoRow.domain false) (((Rows.OpenSpec.upto Rows.packBackSpec).at F).post enc Try.prog Try.f10 false true false false) := by
  refine returnsInHanded_of_cond (C := Try.checked) (s := Rows.OpenSpec.upto Rows.packBackSpec) (k := Rows.uptoSmall) rfl own started (by kernel_rfl) Try.func10
    (OpenSpec.witness (enc := enc) (C := Try.checked) (s := Rows.OpenSpec.upto Rows.packBackSpec) (k := Rows.uptoSmall) rfl false ⟨#[], #[.slice none 0 0, .int .i64 0], []⟩ 8 (by kernel_rfl) (by kernel_rfl) (by kernel_rfl) (x := ([.nil, .lit (.int .i64 0)], [], [])) (by kernel_rfl) (by kernel_rfl) (by kernel_rfl) (by kernel_rfl)) ?_
  intro W base args ds gs before hval hW hcnd hk _
  exact law_end_B (bulk H) (N := 1048576) (E := E_comptoirlaw21_PackBack) eok_comptoirlaw21_PackBack mixed rfl Try.func10 (c := Try.f10.body.getD .skip) (by kernel_rfl) laidOut (by kernel_rfl) (tb := Try.f10.resultTypes.getD 0 0) (by kernel_rfl) (by kernel_rfl) law (s := (Rows.OpenSpec.upto Rows.packBackSpec).at F) rfl
    (fun ds hl => by
      obtain ⟨d0, d1, rfl⟩ : ∃ d0 d1, ds = [d0, d1] := by
        have : Try.f10.params.toList.length = 2 := by kernel_rfl
        rw [this] at hl
        match ds, hl with
        | [d0, d1], _ => exact ⟨d0, d1, rfl⟩
      rfl) hval hW (of_decide_eq_true hk)

theorem over : Rows.packBackUptoRow.holds Try.pinned (Rows.OpenSpec.upto Rows.packBackSpec) :=
  OpenClaim.holds_of_cond 10 Try.f10 rfl rfl rfl rfl rfl rfl rfl ⟨rfl, rfl, rfl, rfl, rfl⟩ rfl rfl rfl rfl rfl (by kernel_rfl) Try.func10 (by kernel_rfl)
    (of_decide_eq_true (by kernel_rfl)) (by unfold Func.isWrapper; first | (rw [if_pos (by decide +kernel)]; kernel_rfl) | (rw [if_neg (by decide +kernel)]; exact ⟨rfl, rfl⟩))
    (fun os started H enc _ F => lifted os started H enc F)

theorem proved : Rows.PackBackUptoSaid := over

end Go.Proofs.Ytfhgmpeplfjmcaa.PackBackDone
