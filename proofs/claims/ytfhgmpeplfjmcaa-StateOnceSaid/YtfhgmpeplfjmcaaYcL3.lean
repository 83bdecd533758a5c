/- what is put is there once, what is dropped is not; parked things likewise. No condition beyond the given statement. -/
import Derived.Test.YtfhgmpeplfjmcaaYcP3
import Derived.Test.YtfhgmpeplfjmcaaCxAl
import Derived.Test.YtfhgmpeplfjmcaaRows
import Derived.WalkKit
import Derived.ProofKit
import Derived.OpenShut
import Derived.ShutString
import Derived.ChangeOld
import Derived.Below
namespace Go.Proofs.Ytfhgmpeplfjmcaa.StateOnceDone
open Go.Proofs.Ytfhgmpeplfjmcaa
open Go.Cx Go.Cx.AV Go.ChangeShapes Go.WideShapes Go.ChangeAt Go.RowKit
set_option linter.unusedVariables false

theorem own : ownKnob Try.prog.godebug = none := by kernel_rfl
theorem laidOut : laidOutB Try.prog = true := by kernel_rfl

section
attribute [local irreducible] Tr.fold T_comptoirlaw24_StateOnce E_comptoirlaw24_StateOnce bodyK headC headL stepC stepL wpX callA M_comptoirlaw24_StateOnce L_comptoirlaw24_StateOnce b_comptoirlaw24_StateOnce
set_option maxRecDepth 100000 in
theorem law (ls : List AV) (h : WfArgs Try.prog 8 Try.f3.params.toList ls) : callA E_comptoirlaw24_StateOnce Try.f3 ls [] (fun r _ => r = .bool true) := by
  have hp : Try.f3.params.toList.map (shA Try.prog 8) = [.slice 1 (.int .i64), .int .i64] := by kernel_rfl
  generalize hts : Try.f3.params.toList = ts at h hp
  match ts, ls, h, hp with
  | [t0, t1], [a0, a1], h, hp =>
    simp only [List.map_cons, List.map_nil, List.cons.injEq, and_true] at hp
    simp only [WfArgs, and_true] at h
    obtain ⟨p0, p1⟩ := hp
    obtain ⟨q0, q1⟩ := h
    rw [p0] at q0
    rw [p1] at q1
    obtain ⟨x0, rfl, w0, v0⟩ := q0
    obtain ⟨n1, rfl, w1⟩ := q1
    have c : ∀ Rv : Bool → Prop, callA E_comptoirlaw24_StateOnce Try.f3 [.slice 1 (.int .i64) x0 .ro, .int .i64 n1] [] (outP (.leaf .bool) fun ls => Rv (getB (ls.getD 0 .junk))) = (T_comptoirlaw24_StateOnce x0 n1).fold False (Sum.elim (L_comptoirlaw24_StateOnce x0 n1 Rv) Rv) := fun Rv => by kernel_rfl
    have g : g_comptoirlaw24_StateOnce x0 n1 = some true := once_eq x0 n1
    exact law_mach (step := M_comptoirlaw24_StateOnce x0 n1) (T := T_comptoirlaw24_StateOnce x0 n1) (L := L_comptoirlaw24_StateOnce x0 n1) c (fun Rv => h_comptoirlaw24_StateOnce x0 n1 Rv) g
end

set_option maxRecDepth 100000 in
theorem lifted (os : Os) (started : os.Started) (H : Type) (enc : TypeId × Value → H) :
    ReturnsInHanded {} Try.checked os 3 .any (Rows.stateOnceSpec.pre6 enc Try.prog Try.f3 Rows.stateOnceRow.domain false) (Rows.stateOnceSpec.post enc Try.prog Try.f3 false true false false) := by
  refine returnsInHanded_of_change (C := Try.checked) own started (by kernel_rfl) Try.func3
    (ChangeSpec.witness6 (enc := enc) (C := Try.checked) false ⟨#[], #[.slice none 0 0, .int .i64 0], []⟩ 8 (by kernel_rfl) (by kernel_rfl) (by kernel_rfl) (by kernel_rfl)) ?_
  intro W base args ds gs before hval hW hcnd _
  exact law_end (E := E_comptoirlaw24_StateOnce) eok_comptoirlaw24_StateOnce mixed rfl Try.func3 (c := Try.f3.body.getD .skip) (by kernel_rfl) laidOut (by kernel_rfl) (tb := Try.f3.resultTypes.getD 0 0) (by kernel_rfl) (by kernel_rfl) law rfl
    (fun ds hl => by
      obtain ⟨d0, d1, rfl⟩ : ∃ d0 d1, ds = [d0, d1] := by
        have : Try.f3.params.toList.length = 2 := by kernel_rfl
        rw [this] at hl
        match ds, hl with
        | [d0, d1], _ => exact ⟨d0, d1, rfl⟩
      rfl) hval hW

theorem over : Rows.stateOnceRow.holds Try.pinned (OpenSpec.ofChange Rows.stateOnceSpec) :=
  OpenClaim.holds_of_wide 3 Try.f3 rfl rfl rfl rfl rfl rfl rfl ⟨rfl, rfl, rfl, rfl, rfl⟩ rfl rfl rfl rfl rfl (by kernel_rfl) Try.func3 (by kernel_rfl)
    (of_decide_eq_true (by kernel_rfl)) (by unfold Func.isWrapper; first | (rw [if_pos (by decide +kernel)]; kernel_rfl) | (rw [if_neg (by decide +kernel)]; exact ⟨rfl, rfl⟩))
    (fun os started H enc _ => lifted os started H enc)

theorem proved : Rows.StateOnceSaid := over

end Go.Proofs.Ytfhgmpeplfjmcaa.StateOnceDone
