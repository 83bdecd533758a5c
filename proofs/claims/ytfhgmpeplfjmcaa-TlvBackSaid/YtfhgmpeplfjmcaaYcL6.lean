/- what is written is parsed; what is parsed is written as it was; cut within it is too short, or has fewer tags. No condition beyond the given statement. -/
import Derived.Test.YtfhgmpeplfjmcaaYcP6
import Derived.Test.YtfhgmpeplfjmcaaCxAl
import Derived.Test.YtfhgmpeplfjmcaaRows
import Derived.WalkKit
import Derived.ProofKit
import Derived.OpenShut
import Derived.ShutString
import Derived.ChangeOld
import Derived.Below
namespace Go.Proofs.Ytfhgmpeplfjmcaa.TlvBackDone
open Go.Proofs.Ytfhgmpeplfjmcaa
open Go.Cx Go.Cx.AV Go.ChangeShapes Go.WideShapes Go.ChangeAt Go.RowKit
set_option linter.unusedVariables false

theorem own : ownKnob Try.prog.godebug = none := by kernel_rfl
theorem laidOut : laidOutB Try.prog = true := by kernel_rfl

section
attribute [local irreducible] Tr.fold T_comptoirlaw14_TlvBack E_comptoirlaw14_TlvBack bodyK headC headL stepC stepL wpX callA M_comptoirlaw14_TlvBack L_comptoirlaw14_TlvBack b_comptoirlaw14_TlvBack
set_option maxRecDepth 100000 in
theorem law (ls : List AV) (h : WfArgs Try.prog 8 Try.f6.params.toList ls) : callA E_comptoirlaw14_TlvBack Try.f6 ls [] (fun r _ => r = .bool true) := by
  have hp : Try.f6.params.toList.map (shA Try.prog 8) = [.slice 2 (.agg [.int .i64, .slice 1 (.int .u8)]), .slice 1 (.int .u8), .int .i64] := by kernel_rfl
  generalize hts : Try.f6.params.toList = ts at h hp
  match ts, ls, h, hp with
  | [t0, t1, t2], [a0, a1, a2], h, hp =>
    simp only [List.map_cons, List.map_nil, List.cons.injEq, and_true] at hp
    simp only [WfArgs, and_true] at h
    obtain ⟨p0, p1, p2⟩ := hp
    obtain ⟨q0, q1, q2⟩ := h
    rw [p0] at q0
    rw [p1] at q1
    rw [p2] at q2
    obtain ⟨x0, rfl, w0, v0⟩ := q0
    obtain ⟨b1, rfl, w1⟩ := wf_bytes q1
    obtain ⟨n2, rfl, w2⟩ := q2
    have c : ∀ Rv : Bool → Prop, callA E_comptoirlaw14_TlvBack Try.f6 [.slice 2 (.agg [.int .i64, .slice 1 (.int .u8)]) x0 .ro, .slice 1 (.int .u8) (bl b1) .ro, .int .i64 n2] [] (outP (.leaf .bool) fun ls => Rv (getB (ls.getD 0 .junk))) = (T_comptoirlaw14_TlvBack x0 (bl b1) n2).fold False (Sum.elim (L_comptoirlaw14_TlvBack x0 (bl b1) n2 Rv) Rv) := fun Rv => by kernel_rfl
    have g : g_comptoirlaw14_TlvBack x0 (bl b1) n2 = some true := by
      obtain ⟨L, rfl, -⟩ := wf_tgs v0
      exact tlvback_eq L b1 n2
    exact law_mach (step := M_comptoirlaw14_TlvBack x0 (bl b1) n2) (T := T_comptoirlaw14_TlvBack x0 (bl b1) n2) (L := L_comptoirlaw14_TlvBack x0 (bl b1) n2) c (fun Rv => h_comptoirlaw14_TlvBack x0 (bl b1) n2 Rv) g
end

set_option maxRecDepth 100000 in
theorem lifted (os : Os) (started : os.Started) (H : Type) (enc : TypeId × Value → H) :
    ReturnsInHanded {} Try.checked os 6 .any (Rows.tlvBackSpec.pre6 enc Try.prog Try.f6 Rows.tlvBackRow.domain false) (Rows.tlvBackSpec.post enc Try.prog Try.f6 false true false false) := by
  refine returnsInHanded_of_change (C := Try.checked) own started (by kernel_rfl) Try.func6
    (ChangeSpec.witness6 (enc := enc) (C := Try.checked) false ⟨#[], #[.slice none 0 0, .slice none 0 0, .int .i64 0], []⟩ 8 (by kernel_rfl) (by kernel_rfl) (by kernel_rfl) (by kernel_rfl)) ?_
  intro W base args ds gs before hval hW hcnd _
  exact law_end (E := E_comptoirlaw14_TlvBack) eok_comptoirlaw14_TlvBack mixed rfl Try.func6 (c := Try.f6.body.getD .skip) (by kernel_rfl) laidOut (by kernel_rfl) (tb := Try.f6.resultTypes.getD 0 0) (by kernel_rfl) (by kernel_rfl) law rfl
    (fun ds hl => by
      obtain ⟨d0, d1, d2, rfl⟩ : ∃ d0 d1 d2, ds = [d0, d1, d2] := by
        have : Try.f6.params.toList.length = 3 := by kernel_rfl
        rw [this] at hl
        match ds, hl with
        | [d0, d1, d2], _ => exact ⟨d0, d1, d2, rfl⟩
      rfl) hval hW

theorem over : Rows.tlvBackRow.holds Try.pinned (OpenSpec.ofChange Rows.tlvBackSpec) :=
  OpenClaim.holds_of_wide 6 Try.f6 rfl rfl rfl rfl rfl rfl rfl ⟨rfl, rfl, rfl, rfl, rfl⟩ rfl rfl rfl rfl rfl (by kernel_rfl) Try.func6 (by kernel_rfl)
    (of_decide_eq_true (by kernel_rfl)) (by unfold Func.isWrapper; first | (rw [if_pos (by decide +kernel)]; kernel_rfl) | (rw [if_neg (by decide +kernel)]; exact ⟨rfl, rfl⟩))
    (fun os started H enc _ => lifted os started H enc)

theorem proved : Rows.TlvBackSaid := over

end Go.Proofs.Ytfhgmpeplfjmcaa.TlvBackDone
