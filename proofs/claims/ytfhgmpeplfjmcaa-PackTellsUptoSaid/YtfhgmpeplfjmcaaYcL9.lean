/- Any deeds as bytes, and any bytes as deeds, or why not; what is handed in stays. No condition beyond the given statement. -/
import Derived.Test.YtfhgmpeplfjmcaaYcP9
import Derived.Test.YtfhgmpeplfjmcaaCxAm
import Derived.Test.YtfhgmpeplfjmcaaRows
import Derived.WalkKit
import Derived.ProofKit
import Derived.OpenShut
import Derived.ShutString
import Derived.ChangeOld
import Derived.Below
namespace Go.Proofs.Ytfhgmpeplfjmcaa.PackTellsDone
open Go.Proofs.Ytfhgmpeplfjmcaa
open Go.Cx Go.Cx.AV Go.ChangeShapes Go.WideShapes Go.ChangeAt Go.RowKit
set_option linter.unusedVariables false

theorem own : ownKnob Try.prog.godebug = none := by kernel_rfl
theorem laidOut : laidOutB Try.prog = true := by kernel_rfl

section
attribute [local irreducible] Tr.fold T_comptoirlaw21_PackTells E_comptoirlaw21_PackTells bodyK headC headL stepC stepL wpX callA M_comptoirlaw21_PackTells L_comptoirlaw21_PackTells b_comptoirlaw21_PackTells
set_option maxRecDepth 100000 in
theorem law (ls : List AV) (h : WfArgs Try.prog 8 Try.f9.params.toList ls) (hbk : bulkL ls ≤ 1048576) : callA E_comptoirlaw21_PackTells Try.f9 ls [] (fun r _ => r = .bool true) := by
  have hp : Try.f9.params.toList.map (shA Try.prog 8) = [.slice 38 (.agg [(.int .i64), (.int .u64), (.int .i64), (.int .i64), (.int .i64), (.int .i64), (.int .i64), (.int .i64), (.int .i64), (.int .u64), (.int .i64), (.int .i64), .str, .str, .str, .str, (.int .u64), .str, .str, .str, .str, (.int .i64), .str, .str, (.int .i64), .str, (.slice 2 (.agg [(.int .i64), (.slice 1 (.int .u8))])), .str, .str, (.slice 2 (.agg [.str, .str])), (.slice 2 (.agg [(.int .i64), (.slice 1 (.int .u8))])), (.int .i64), (.int .u64), .str, .str, .str, (.slice 2 (.agg [.str, .str])), (.slice 2 (.agg [(.int .i64), (.slice 1 (.int .u8))]))]), .slice 1 (.int .u8)] := by kernel_rfl
  generalize hts : Try.f9.params.toList = ts at h hp
  match ts, ls, h, hp, hbk with
  | [t0, t1], [a0, a1], h, hp, hbk =>
    simp only [List.map_cons, List.map_nil, List.cons.injEq, and_true] at hp
    simp only [WfArgs, and_true] at h
    obtain ⟨p0, p1⟩ := hp
    obtain ⟨q0, q1⟩ := h
    rw [p0] at q0
    rw [p1] at q1
    obtain ⟨x0, rfl, w0, v0⟩ := q0
    obtain ⟨b1, rfl, w1⟩ := wf_bytes q1
    have c : ∀ Rv : Bool → Prop, callA E_comptoirlaw21_PackTells Try.f9 [.slice 38 (.agg [(.int .i64), (.int .u64), (.int .i64), (.int .i64), (.int .i64), (.int .i64), (.int .i64), (.int .i64), (.int .i64), (.int .u64), (.int .i64), (.int .i64), .str, .str, .str, .str, (.int .u64), .str, .str, .str, .str, (.int .i64), .str, .str, (.int .i64), .str, (.slice 2 (.agg [(.int .i64), (.slice 1 (.int .u8))])), .str, .str, (.slice 2 (.agg [.str, .str])), (.slice 2 (.agg [(.int .i64), (.slice 1 (.int .u8))])), (.int .i64), (.int .u64), .str, .str, .str, (.slice 2 (.agg [.str, .str])), (.slice 2 (.agg [(.int .i64), (.slice 1 (.int .u8))]))]) x0 .ro, .slice 1 (.int .u8) (bl b1) .ro] [] (outP (.leaf .bool) fun ls => Rv (getB (ls.getD 0 .junk))) = (T_comptoirlaw21_PackTells x0 (bl b1)).fold False (Sum.elim (L_comptoirlaw21_PackTells x0 (bl b1) Rv) Rv) := fun Rv => by kernel_rfl
    have g : g_comptoirlaw21_PackTells x0 (bl b1) = some true := ptells_eq x0 b1 (by simp only [bulkL, bulkV] at hbk; omega) w1
    exact law_mach (step := M_comptoirlaw21_PackTells x0 (bl b1)) (T := T_comptoirlaw21_PackTells x0 (bl b1)) (L := L_comptoirlaw21_PackTells x0 (bl b1)) c (fun Rv => h_comptoirlaw21_PackTells x0 (bl b1) Rv) g
end

theorem bulk (H : Type) : Bulk (H := H) Rows.uptoBulk Rows.uptoBulkAll :=
  ⟨fun l => by cases l <;> simp [Rows.uptoBulk], fun _ => by simp [Rows.uptoBulk], by simp [Rows.uptoBulk], fun _ _ => by simp [Rows.uptoBulk], fun _ => by simp [Rows.uptoBulk], by simp [Rows.uptoBulkAll], fun _ _ => by simp [Rows.uptoBulkAll]⟩

set_option maxRecDepth 100000 in
theorem lifted (os : Os) (started : os.Started) (H : Type) (enc : TypeId × Value → H) (F : Stop.Interp) :
    ReturnsInHanded {} Try.checked os 9 .any ((Rows.OpenSpec.upto Rows.packTellsSpec).pre6 enc Try.prog Try.f9 Rows.packTellsUptoRow.domain false) (((Rows.OpenSpec.upto Rows.packTellsSpec).at F).post enc Try.prog Try.f9 false true false false) := by
  refine returnsInHanded_of_cond (C := Try.checked) (s := Rows.OpenSpec.upto Rows.packTellsSpec) (k := Rows.uptoSmall) rfl own started (by kernel_rfl) Try.func9
    (OpenSpec.witness (enc := enc) (C := Try.checked) (s := Rows.OpenSpec.upto Rows.packTellsSpec) (k := Rows.uptoSmall) rfl false ⟨#[], #[.slice none 0 0, .slice none 0 0], []⟩ 8 (by kernel_rfl) (by kernel_rfl) (by kernel_rfl) (x := ([.nil, .nil], [], [])) (by kernel_rfl) (by kernel_rfl) (by kernel_rfl) (by kernel_rfl)) ?_
  intro W base args ds gs before hval hW hcnd hk _
  exact law_end_B (bulk H) (N := 1048576) (E := E_comptoirlaw21_PackTells) eok_comptoirlaw21_PackTells mixed rfl Try.func9 (c := Try.f9.body.getD .skip) (by kernel_rfl) laidOut (by kernel_rfl) (tb := Try.f9.resultTypes.getD 0 0) (by kernel_rfl) (by kernel_rfl) law (s := (Rows.OpenSpec.upto Rows.packTellsSpec).at F) rfl
    (fun ds hl => by
      obtain ⟨d0, d1, rfl⟩ : ∃ d0 d1, ds = [d0, d1] := by
        have : Try.f9.params.toList.length = 2 := by kernel_rfl
        rw [this] at hl
        match ds, hl with
        | [d0, d1], _ => exact ⟨d0, d1, rfl⟩
      rfl) hval hW (of_decide_eq_true hk)

theorem over : Rows.packTellsUptoRow.holds Try.pinned (Rows.OpenSpec.upto Rows.packTellsSpec) :=
  OpenClaim.holds_of_cond 9 Try.f9 rfl rfl rfl rfl rfl rfl rfl ⟨rfl, rfl, rfl, rfl, rfl⟩ rfl rfl rfl rfl rfl (by kernel_rfl) Try.func9 (by kernel_rfl)
    (of_decide_eq_true (by kernel_rfl)) (by unfold Func.isWrapper; first | (rw [if_pos (by decide +kernel)]; kernel_rfl) | (rw [if_neg (by decide +kernel)]; exact ⟨rfl, rfl⟩))
    (fun os started H enc _ F => lifted os started H enc F)

theorem proved : Rows.PackTellsUptoSaid := over

end Go.Proofs.Ytfhgmpeplfjmcaa.PackTellsDone
