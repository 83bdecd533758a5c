/- Lengths of tags. No condition beyond the given statement. -/
import Derived.Test.YtfhgmpeplfjmcaaYcP8
import Derived.Test.YtfhgmpeplfjmcaaCxAl
import Derived.Test.YtfhgmpeplfjmcaaRows
import Derived.WalkKit
import Derived.ProofKit
import Derived.OpenShut
import Derived.ShutString
import Derived.ChangeOld
import Derived.Below
namespace Go.Proofs.Ytfhgmpeplfjmcaa.TlvLengthsDone
open Go.Proofs.Ytfhgmpeplfjmcaa
open Go.Cx Go.Cx.AV Go.ChangeShapes Go.WideShapes Go.ChangeAt Go.RowKit
set_option linter.unusedVariables false

theorem own : ownKnob Try.prog.godebug = none := by kernel_rfl
theorem laidOut : laidOutB Try.prog = true := by kernel_rfl

section
attribute [local irreducible] Tr.fold T_comptoirlaw14_TlvLengths E_comptoirlaw14_TlvLengths bodyK headC headL stepC stepL wpX callA M_comptoirlaw14_TlvLengths L_comptoirlaw14_TlvLengths b_comptoirlaw14_TlvLengths
set_option maxRecDepth 100000 in
theorem law (ls : List AV) (h : WfArgs Try.prog 8 Try.f8.params.toList ls) : callA E_comptoirlaw14_TlvLengths Try.f8 ls [] (fun r _ => r = .bool true) := by
  have hp : Try.f8.params.toList.map (shA Try.prog 8) = [.int .i64, .int .u8] := by kernel_rfl
  generalize hts : Try.f8.params.toList = ts at h hp
  match ts, ls, h, hp with
  | [t0, t1], [a0, a1], h, hp =>
    simp only [List.map_cons, List.map_nil, List.cons.injEq, and_true] at hp
    simp only [WfArgs, and_true] at h
    obtain ⟨p0, p1⟩ := hp
    obtain ⟨q0, q1⟩ := h
    rw [p0] at q0
    rw [p1] at q1
    obtain ⟨n0, rfl, w0⟩ := q0
    obtain ⟨n1, rfl, w1⟩ := q1
    have c : ∀ Rv : Bool → Prop, callA E_comptoirlaw14_TlvLengths Try.f8 [.int .i64 n0, .int .u8 n1] [] (outP (.leaf .bool) fun ls => Rv (getB (ls.getD 0 .junk))) = (T_comptoirlaw14_TlvLengths n0 n1).fold False (Sum.elim (L_comptoirlaw14_TlvLengths n0 n1 Rv) Rv) := fun Rv => by kernel_rfl
    have g : g_comptoirlaw14_TlvLengths n0 n1 = some true := lengths_all n0 (lit_u8 w1)
    exact law_mach (step := M_comptoirlaw14_TlvLengths n0 n1) (T := T_comptoirlaw14_TlvLengths n0 n1) (L := L_comptoirlaw14_TlvLengths n0 n1) c (fun Rv => h_comptoirlaw14_TlvLengths n0 n1 Rv) g
end

set_option maxRecDepth 100000 in
theorem lifted (os : Os) (started : os.Started) (H : Type) (enc : TypeId × Value → H) :
    ReturnsInHanded {} Try.checked os 8 .any (Rows.tlvLengthsSpec.pre6 enc Try.prog Try.f8 Rows.tlvLengthsRow.domain false) (Rows.tlvLengthsSpec.post enc Try.prog Try.f8 false true false false) := by
  refine returnsInHanded_of_change (C := Try.checked) own started (by kernel_rfl) Try.func8
    (ChangeSpec.witness6 (enc := enc) (C := Try.checked) false ⟨#[], #[.int .i64 0, .int .u8 0], []⟩ 8 (by kernel_rfl) (by kernel_rfl) (by kernel_rfl) (by kernel_rfl)) ?_
  intro W base args ds gs before hval hW hcnd _
  exact law_end (E := E_comptoirlaw14_TlvLengths) eok_comptoirlaw14_TlvLengths mixed rfl Try.func8 (c := Try.f8.body.getD .skip) (by kernel_rfl) laidOut (by kernel_rfl) (tb := Try.f8.resultTypes.getD 0 0) (by kernel_rfl) (by kernel_rfl) law rfl
    (fun ds hl => by
      obtain ⟨d0, d1, rfl⟩ : ∃ d0 d1, ds = [d0, d1] := by
        have : Try.f8.params.toList.length = 2 := by kernel_rfl
        rw [this] at hl
        match ds, hl with
        | [d0, d1], _ => exact ⟨d0, d1, rfl⟩
      rfl) hval hW

theorem over : Rows.tlvLengthsRow.holds Try.pinned (OpenSpec.ofChange Rows.tlvLengthsSpec) :=
  OpenClaim.holds_of_wide 8 Try.f8 rfl rfl rfl rfl rfl rfl rfl ⟨rfl, rfl, rfl, rfl, rfl⟩ rfl rfl rfl rfl rfl (by kernel_rfl) Try.func8 (by kernel_rfl)
    (of_decide_eq_true (by kernel_rfl)) (by unfold Func.isWrapper; first | (rw [if_pos (by decide +kernel)]; kernel_rfl) | (rw [if_neg (by decide +kernel)]; exact ⟨rfl, rfl⟩))
    (fun os started H enc _ => lifted os started H enc)

theorem proved : Rows.TlvLengthsSaid := over

end Go.Proofs.Ytfhgmpeplfjmcaa.TlvLengthsDone
