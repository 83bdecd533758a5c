/- A list that says that it has more than there is, is too short. No condition beyond the given statement. -/
import Derived.Test.YtfhgmpeplfjmcaaYcP13
import Derived.Test.YtfhgmpeplfjmcaaCxAm
import Derived.Test.YtfhgmpeplfjmcaaRows
import Derived.WalkKit
import Derived.ProofKit
import Derived.OpenShut
import Derived.ShutString
import Derived.ChangeOld
import Derived.Below
namespace Go.Proofs.Ytfhgmpeplfjmcaa.PackListsDone
open Go.Proofs.Ytfhgmpeplfjmcaa
open Go.Cx Go.Cx.AV Go.ChangeShapes Go.WideShapes Go.ChangeAt Go.RowKit
set_option linter.unusedVariables false

theorem own : ownKnob Try.prog.godebug = none := by kernel_rfl
theorem laidOut : laidOutB Try.prog = true := by kernel_rfl

section
attribute [local irreducible] Tr.fold T_comptoirlaw21_PackLists E_comptoirlaw21_PackLists bodyK headC headL stepC stepL wpX callA M_comptoirlaw21_PackLists L_comptoirlaw21_PackLists b_comptoirlaw21_PackLists
set_option maxRecDepth 100000 in
theorem law (ls : List AV) (h : WfArgs Try.prog 8 Try.f13.params.toList ls) (hbk : bulkL ls ≤ 1048576) : callA E_comptoirlaw21_PackLists Try.f13 ls [] (fun r _ => r = .bool true) := by
  have hp : Try.f13.params.toList.map (shA Try.prog 8) = [.int .u32, .agg [.str, .str, .str, (.slice 2 (.agg [.str, .str])), (.slice 2 (.agg [(.int .i64), (.slice 1 (.int .u8))]))]] := by kernel_rfl
  generalize hts : Try.f13.params.toList = ts at h hp
  match ts, ls, h, hp, hbk with
  | [t0, t1], [a0, a1], h, hp, hbk =>
    simp only [List.map_cons, List.map_nil, List.cons.injEq, and_true] at hp
    simp only [WfArgs, and_true] at h
    obtain ⟨p0, p1⟩ := hp
    obtain ⟨q0, q1⟩ := h
    rw [p0] at q0
    rw [p1] at q1
    obtain ⟨n0, rfl, w0⟩ := q0
    obtain ⟨cs1, rfl, hw1⟩ : ∃ cs, a1 = .agg cs ∧ WfL [(.str), (.str), (.str), (.slice 2 (.agg [.str, .str])), (.slice 2 (.agg [(.int .i64), (.slice 1 (.int .u8))]))] cs := q1
    have hl1 : cs1.length = 5 := WfL.length hw1
    obtain ⟨e1_0, e1_1, e1_2, e1_3, e1_4, rfl⟩ : ∃ e1_0 e1_1 e1_2 e1_3 e1_4, cs1 = [e1_0, e1_1, e1_2, e1_3, e1_4] := by
      match cs1, hl1 with
      | [e1_0, e1_1, e1_2, e1_3, e1_4], _ => exact ⟨e1_0, e1_1, e1_2, e1_3, e1_4, rfl⟩
    have p1_0 : Wf (.str) e1_0 := wfL_get hw1 0 _ rfl
    obtain ⟨s1_0, rfl, w1_0⟩ := p1_0
    have p1_1 : Wf (.str) e1_1 := wfL_get hw1 1 _ rfl
    obtain ⟨s1_1, rfl, w1_1⟩ := p1_1
    have p1_2 : Wf (.str) e1_2 := wfL_get hw1 2 _ rfl
    obtain ⟨s1_2, rfl, w1_2⟩ := p1_2
    have p1_3 : Wf (.slice 2 (.agg [.str, .str])) e1_3 := wfL_get hw1 3 _ rfl
    obtain ⟨x1_3, rfl, w1_3, v1_3⟩ := p1_3
    have p1_4 : Wf (.slice 2 (.agg [(.int .i64), (.slice 1 (.int .u8))])) e1_4 := wfL_get hw1 4 _ rfl
    obtain ⟨x1_4, rfl, w1_4, v1_4⟩ := p1_4
    have c : ∀ Rv : Bool → Prop, callA E_comptoirlaw21_PackLists Try.f13 [.int .u32 n0, .agg [.str s1_0, .str s1_1, .str s1_2, .slice 2 (.agg [.str, .str]) x1_3 .ro, .slice 2 (.agg [(.int .i64), (.slice 1 (.int .u8))]) x1_4 .ro]] [] (outP (.leaf .bool) fun ls => Rv (getB (ls.getD 0 .junk))) = (T_comptoirlaw21_PackLists n0 s1_0 s1_1 s1_2 x1_3 x1_4).fold False (Sum.elim (L_comptoirlaw21_PackLists n0 s1_0 s1_1 s1_2 x1_3 x1_4 Rv) Rv) := fun Rv => by kernel_rfl
    have g : g_comptoirlaw21_PackLists n0 s1_0 s1_1 s1_2 x1_3 x1_4 = some true := plists_eq n0 s1_0 s1_1 s1_2 x1_3 x1_4 (by simp [Lit.wf, IntKind.min, IntKind.max, IntKind.signed, IntKind.bits] at w0; omega) (by simp only [bulkL, bulkV] at hbk; omega)
    exact law_mach (step := M_comptoirlaw21_PackLists n0 s1_0 s1_1 s1_2 x1_3 x1_4) (T := T_comptoirlaw21_PackLists n0 s1_0 s1_1 s1_2 x1_3 x1_4) (L := L_comptoirlaw21_PackLists n0 s1_0 s1_1 s1_2 x1_3 x1_4) c (fun Rv => h_comptoirlaw21_PackLists n0 s1_0 s1_1 s1_2 x1_3 x1_4 Rv) g
end

theorem bulk (H : Type) : Bulk (H := H) Rows.uptoBulk Rows.uptoBulkAll :=
  ⟨fun l => by cases l <;> simp [Rows.uptoBulk], fun _ => by simp [Rows.uptoBulk], by simp [Rows.uptoBulk], fun _ _ => by simp [Rows.uptoBulk], fun _ => by simp [Rows.uptoBulk], by simp [Rows.uptoBulkAll], fun _ _ => by simp [Rows.uptoBulkAll]⟩

set_option maxRecDepth 100000 in
theorem lifted (os : Os) (started : os.Started) (H : Type) (enc : TypeId × Value → H) (F : Stop.Interp) :
    ReturnsInHanded {} Try.checked os 13 .any ((Rows.OpenSpec.upto Rows.packListsSpec).pre6 enc Try.prog Try.f13 Rows.packListsUptoRow.domain false) (((Rows.OpenSpec.upto Rows.packListsSpec).at F).post enc Try.prog Try.f13 false true false false) := by
  refine returnsInHanded_of_cond (C := Try.checked) (s := Rows.OpenSpec.upto Rows.packListsSpec) (k := Rows.uptoSmall) rfl own started (by kernel_rfl) Try.func13
    (OpenSpec.witness (enc := enc) (C := Try.checked) (s := Rows.OpenSpec.upto Rows.packListsSpec) (k := Rows.uptoSmall) rfl false ⟨#[], #[.int .u32 0, .agg #[.string .empty, .string .empty, .string .empty, .slice none 0 0, .slice none 0 0]], []⟩ 8 (by kernel_rfl) (by kernel_rfl) (by kernel_rfl) (x := ([.lit (.int .u32 0), .agg [.lit (.string []), .lit (.string []), .lit (.string []), .nil, .nil]], [], [])) (by kernel_rfl) (by kernel_rfl) (by kernel_rfl) (by kernel_rfl)) ?_
  intro W base args ds gs before hval hW hcnd hk _
  exact law_end_B (bulk H) (N := 1048576) (E := E_comptoirlaw21_PackLists) eok_comptoirlaw21_PackLists mixed rfl Try.func13 (c := Try.f13.body.getD .skip) (by kernel_rfl) laidOut (by kernel_rfl) (tb := Try.f13.resultTypes.getD 0 0) (by kernel_rfl) (by kernel_rfl) law (s := (Rows.OpenSpec.upto Rows.packListsSpec).at F) rfl
    (fun ds hl => by
      obtain ⟨d0, d1, rfl⟩ : ∃ d0 d1, ds = [d0, d1] := by
        have : Try.f13.params.toList.length = 2 := by kernel_rfl
        rw [this] at hl
        match ds, hl with
        | [d0, d1], _ => exact ⟨d0, d1, rfl⟩
      rfl) hval hW (of_decide_eq_true hk)

theorem over : Rows.packListsUptoRow.holds Try.pinned (Rows.OpenSpec.upto Rows.packListsSpec) :=
  OpenClaim.holds_of_cond 13 Try.f13 rfl rfl rfl rfl rfl rfl rfl ⟨rfl, rfl, rfl, rfl, rfl⟩ rfl rfl rfl rfl rfl (by kernel_rfl) Try.func13 (by kernel_rfl)
    (of_decide_eq_true (by kernel_rfl)) (by unfold Func.isWrapper; first | (rw [if_pos (by decide +kernel)]; kernel_rfl) | (rw [if_neg (by decide +kernel)]; exact ⟨rfl, rfl⟩))
    (fun os started H enc _ F => lifted os started H enc F)

theorem proved : Rows.PackListsUptoSaid := over

end Go.Proofs.Ytfhgmpeplfjmcaa.PackListsDone
