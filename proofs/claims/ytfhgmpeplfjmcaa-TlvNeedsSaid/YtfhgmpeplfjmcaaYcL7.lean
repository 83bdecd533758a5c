/- What tags may be. No condition beyond the given statement. -/
import Derived.Test.YtfhgmpeplfjmcaaYcP7
import Derived.Test.YtfhgmpeplfjmcaaCxAl
import Derived.Test.YtfhgmpeplfjmcaaRows
import Derived.WalkKit
import Derived.ProofKit
import Derived.OpenShut
import Derived.ShutString
import Derived.ChangeOld
import Derived.Below
namespace Go.Proofs.Ytfhgmpeplfjmcaa.TlvNeedsDone
open Go.Proofs.Ytfhgmpeplfjmcaa
open Go.Cx Go.Cx.AV Go.ChangeShapes Go.WideShapes Go.ChangeAt Go.RowKit
set_option linter.unusedVariables false

theorem own : ownKnob Try.prog.godebug = none := by kernel_rfl
theorem laidOut : laidOutB Try.prog = true := by kernel_rfl

section
attribute [local irreducible] Tr.fold T_comptoirlaw14_TlvNeeds E_comptoirlaw14_TlvNeeds bodyK headC headL stepC stepL wpX callA M_comptoirlaw14_TlvNeeds L_comptoirlaw14_TlvNeeds b_comptoirlaw14_TlvNeeds
set_option maxRecDepth 100000 in
theorem law (ls : List AV) (h : WfArgs Try.prog 8 Try.f7.params.toList ls) : callA E_comptoirlaw14_TlvNeeds Try.f7 ls [] (fun r _ => r = .bool true) := by
  have hp : Try.f7.params.toList.map (shA Try.prog 8) = [.int .i64, .int .i64, .int .i64] := by kernel_rfl
  generalize hts : Try.f7.params.toList = ts at h hp
  match ts, ls, h, hp with
  | [t0, t1, t2], [a0, a1, a2], h, hp =>
    simp only [List.map_cons, List.map_nil, List.cons.injEq, and_true] at hp
    simp only [WfArgs, and_true] at h
    obtain ⟨p0, p1, p2⟩ := hp
    obtain ⟨q0, q1, q2⟩ := h
    rw [p0] at q0
    rw [p1] at q1
    rw [p2] at q2
    obtain ⟨n0, rfl, w0⟩ := q0
    obtain ⟨n1, rfl, w1⟩ := q1
    obtain ⟨n2, rfl, w2⟩ := q2
    have c : ∀ Rv : Bool → Prop, callA E_comptoirlaw14_TlvNeeds Try.f7 [.int .i64 n0, .int .i64 n1, .int .i64 n2] [] (outP (.leaf .bool) fun ls => Rv (getB (ls.getD 0 .junk))) = (T_comptoirlaw14_TlvNeeds n0 n1 n2).fold False (Sum.elim (L_comptoirlaw14_TlvNeeds n0 n1 n2 Rv) Rv) := fun Rv => by kernel_rfl
    have g : g_comptoirlaw14_TlvNeeds n0 n1 n2 = some true := needs_eq n0 n1 n2
    exact law_mach (step := M_comptoirlaw14_TlvNeeds n0 n1 n2) (T := T_comptoirlaw14_TlvNeeds n0 n1 n2) (L := L_comptoirlaw14_TlvNeeds n0 n1 n2) c (fun Rv => h_comptoirlaw14_TlvNeeds n0 n1 n2 Rv) g
end

set_option maxRecDepth 100000 in
theorem lifted (os : Os) (started : os.Started) (H : Type) (enc : TypeId × Value → H) :
    ReturnsInHanded {} Try.checked os 7 .any (Rows.tlvNeedsSpec.pre6 enc Try.prog Try.f7 Rows.tlvNeedsRow.domain false) (Rows.tlvNeedsSpec.post enc Try.prog Try.f7 false true false false) := by
  refine returnsInHanded_of_change (C := Try.checked) own started (by kernel_rfl) Try.func7
    (ChangeSpec.witness6 (enc := enc) (C := Try.checked) false ⟨#[], #[.int .i64 0, .int .i64 0, .int .i64 0], []⟩ 8 (by kernel_rfl) (by kernel_rfl) (by kernel_rfl) (by kernel_rfl)) ?_
  intro W base args ds gs before hval hW hcnd _
  exact law_end (E := E_comptoirlaw14_TlvNeeds) eok_comptoirlaw14_TlvNeeds mixed rfl Try.func7 (c := Try.f7.body.getD .skip) (by kernel_rfl) laidOut (by kernel_rfl) (tb := Try.f7.resultTypes.getD 0 0) (by kernel_rfl) (by kernel_rfl) law rfl
    (fun ds hl => by
      obtain ⟨d0, d1, d2, rfl⟩ : ∃ d0 d1 d2, ds = [d0, d1, d2] := by
        have : Try.f7.params.toList.length = 3 := by kernel_rfl
        rw [this] at hl
        match ds, hl with
        | [d0, d1, d2], _ => exact ⟨d0, d1, d2, rfl⟩
      rfl) hval hW

theorem over : Rows.tlvNeedsRow.holds Try.pinned (OpenSpec.ofChange Rows.tlvNeedsSpec) :=
  OpenClaim.holds_of_wide 7 Try.f7 rfl rfl rfl rfl rfl rfl rfl ⟨rfl, rfl, rfl, rfl, rfl⟩ rfl rfl rfl rfl rfl (by kernel_rfl) Try.func7 (by kernel_rfl)
    (of_decide_eq_true (by kernel_rfl)) (by unfold Func.isWrapper; first | (rw [if_pos (by decide +kernel)]; kernel_rfl) | (rw [if_neg (by decide +kernel)]; exact ⟨rfl, rfl⟩))
    (fun os started H enc _ => lifted os started H enc)

theorem proved : Rows.TlvNeedsSaid := over

end Go.Proofs.Ytfhgmpeplfjmcaa.TlvNeedsDone
