/- the deeds that lead to a state, applied to a new one, are it; and so are deeds that were done, in whatever parts. No condition beyond the given statement. -/
import Derived.Test.YtfhgmpeplfjmcaaYcP4
import Derived.Test.YtfhgmpeplfjmcaaCxAm
import Derived.Test.YtfhgmpeplfjmcaaRows
import Derived.WalkKit
import Derived.ProofKit
import Derived.OpenShut
import Derived.ShutString
import Derived.ChangeOld
import Derived.Below
namespace Go.Proofs.Ytfhgmpeplfjmcaa.StateWholeDone
open Go.Proofs.Ytfhgmpeplfjmcaa
open Go.Cx Go.Cx.AV Go.ChangeShapes Go.WideShapes Go.ChangeAt Go.RowKit
set_option linter.unusedVariables false

theorem own : ownKnob Try.prog.godebug = none := by kernel_rfl
theorem laidOut : laidOutB Try.prog = true := by kernel_rfl

section
attribute [local irreducible] Tr.fold T_comptoirlaw24_StateWhole E_comptoirlaw24_StateWhole bodyK headC headL stepC stepL wpX callA
set_option maxRecDepth 100000 in
theorem law (ls : List AV) (h : WfArgs Try.prog 8 Try.f4.params.toList ls) (hbk : bulkL ls ≤ 1048576) : callA E_comptoirlaw24_StateWhole Try.f4 ls [] (fun r _ => r = .bool true) := by
  have hp : Try.f4.params.toList.map (shA Try.prog 8) = [.slice 38 (.agg [.int .i64, .int .u64, .int .i64, .int .i64, .int .i64, .int .i64, .int .i64, .int .i64, .int .i64, .int .u64, .int .i64, .int .i64, .str, .str, .str, .str, .int .u64, .str, .str, .str, .str, .int .i64, .str, .str, .int .i64, .str, .slice 2 (.agg [.int .i64, .slice 1 (.int .u8)]), .str, .str, .slice 2 (.agg [.str, .str]), .slice 2 (.agg [.int .i64, .slice 1 (.int .u8)]), .int .i64, .int .u64, .str, .str, .str, .slice 2 (.agg [.str, .str]), .slice 2 (.agg [.int .i64, .slice 1 (.int .u8)])]), .int .i64] := by kernel_rfl
  generalize hts : Try.f4.params.toList = ts at h hp
  match ts, ls, h, hp, hbk with
  | [t0, t1], [a0, a1], h, hp, hbk =>
    simp only [List.map_cons, List.map_nil, List.cons.injEq, and_true] at hp
    simp only [WfArgs, and_true] at h
    obtain ⟨p0, p1⟩ := hp
    obtain ⟨q0, q1⟩ := h
    rw [p0] at q0
    rw [p1] at q1
    obtain ⟨x0, rfl, w0, v0⟩ := q0
    obtain ⟨n1, rfl, w1⟩ := q1
    have c : ∀ Rv : Bool → Prop, callA E_comptoirlaw24_StateWhole Try.f4 [.slice 38 (.agg [.int .i64, .int .u64, .int .i64, .int .i64, .int .i64, .int .i64, .int .i64, .int .i64, .int .i64, .int .u64, .int .i64, .int .i64, .str, .str, .str, .str, .int .u64, .str, .str, .str, .str, .int .i64, .str, .str, .int .i64, .str, .slice 2 (.agg [.int .i64, .slice 1 (.int .u8)]), .str, .str, .slice 2 (.agg [.str, .str]), .slice 2 (.agg [.int .i64, .slice 1 (.int .u8)]), .int .i64, .int .u64, .str, .str, .str, .slice 2 (.agg [.str, .str]), .slice 2 (.agg [.int .i64, .slice 1 (.int .u8)])]) x0 .ro, .int .i64 n1] [] (outP (.leaf .bool) fun ls => Rv (getB (ls.getD 0 .junk))) = (T_comptoirlaw24_StateWhole x0 n1).fold False Rv := fun Rv => by kernel_rfl
    have g : g_comptoirlaw24_StateWhole x0 n1 = some true := by
      obtain ⟨D, rfl, hD⟩ := deeds_of v0 (by simp only [bulkL, bulkV] at hbk; omega)
      exact swhole_eq D hD n1
    exact law_flat (T := T_comptoirlaw24_StateWhole x0 n1) c g
end

theorem bulk (H : Type) : Bulk (H := H) Rows.uptoBulk Rows.uptoBulkAll :=
  ⟨fun l => by cases l <;> simp [Rows.uptoBulk], fun _ => by simp [Rows.uptoBulk], by simp [Rows.uptoBulk], fun _ _ => by simp [Rows.uptoBulk], fun _ => by simp [Rows.uptoBulk], by simp [Rows.uptoBulkAll], fun _ _ => by simp [Rows.uptoBulkAll]⟩

set_option maxRecDepth 100000 in
theorem lifted (os : Os) (started : os.Started) (H : Type) (enc : TypeId × Value → H) (F : Stop.Interp) :
    ReturnsInHanded {} Try.checked os 4 .any ((Rows.OpenSpec.upto Rows.stateWholeSpec).pre6 enc Try.prog Try.f4 Rows.stateWholeUptoRow.domain false) (((Rows.OpenSpec.upto Rows.stateWholeSpec).at F).post enc Try.prog Try.f4 false true false false) := by
  refine returnsInHanded_of_cond (C := Try.checked) (s := Rows.OpenSpec.upto Rows.stateWholeSpec) (k := Rows.uptoSmall) rfl own started (by kernel_rfl) Try.func4
    (OpenSpec.witness (enc := enc) (C := Try.checked) (s := Rows.OpenSpec.upto Rows.stateWholeSpec) (k := Rows.uptoSmall) rfl false ⟨#[], #[.slice none 0 0, .int .i64 0], []⟩ 8 (by kernel_rfl) (by kernel_rfl) (by kernel_rfl) (x := ([.nil, .lit (.int .i64 0)], [], [])) (by kernel_rfl) (by kernel_rfl) (by kernel_rfl) (by kernel_rfl)) ?_
  intro W base args ds gs before hval hW hcnd hk _
  exact law_end_B (bulk H) (N := 1048576) (E := E_comptoirlaw24_StateWhole) eok_comptoirlaw24_StateWhole mixed rfl Try.func4 (c := Try.f4.body.getD .skip) (by kernel_rfl) laidOut (by kernel_rfl) (tb := Try.f4.resultTypes.getD 0 0) (by kernel_rfl) (by kernel_rfl) law (s := (Rows.OpenSpec.upto Rows.stateWholeSpec).at F) rfl
    (fun ds hl => by
      obtain ⟨d0, d1, rfl⟩ : ∃ d0 d1, ds = [d0, d1] := by
        have : Try.f4.params.toList.length = 2 := by kernel_rfl
        rw [this] at hl
        match ds, hl with
        | [d0, d1], _ => exact ⟨d0, d1, rfl⟩
      rfl) hval hW (of_decide_eq_true hk)

theorem over : Rows.stateWholeUptoRow.holds Try.pinned (Rows.OpenSpec.upto Rows.stateWholeSpec) :=
  OpenClaim.holds_of_cond 4 Try.f4 rfl rfl rfl rfl rfl rfl rfl ⟨rfl, rfl, rfl, rfl, rfl⟩ rfl rfl rfl rfl rfl (by kernel_rfl) Try.func4 (by kernel_rfl)
    (of_decide_eq_true (by kernel_rfl)) (by unfold Func.isWrapper; first | (rw [if_pos (by decide +kernel)]; kernel_rfl) | (rw [if_neg (by decide +kernel)]; exact ⟨rfl, rfl⟩))
    (fun os started H enc _ F => lifted os started H enc F)

theorem proved : Rows.StateWholeUptoSaid := over

end Go.Proofs.Ytfhgmpeplfjmcaa.StateWholeDone
