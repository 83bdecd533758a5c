/- TlvTells: any bytes as tags, or why not; any tags as bytes, or why not; what is handed in stays. No condition beyond the given statement. -/
import Derived.Test.YtfhgmpeplfjmcaaYcP5
import Derived.Test.YtfhgmpeplfjmcaaCxAl
import Derived.Test.YtfhgmpeplfjmcaaRows
import Derived.WalkKit
import Derived.ProofKit
import Derived.OpenShut
import Derived.ShutString
import Derived.ChangeOld
import Derived.Below
namespace Go.Proofs.Ytfhgmpeplfjmcaa.TlvTellsDone
open Go.Proofs.Ytfhgmpeplfjmcaa
open Go.Cx Go.Cx.AV Go.ChangeShapes Go.WideShapes Go.ChangeAt Go.RowKit
set_option linter.unusedVariables false

theorem own : ownKnob Try.prog.godebug = none := by kernel_rfl
theorem laidOut : laidOutB Try.prog = true := by kernel_rfl

section
attribute [local irreducible] Tr.fold T_comptoirlaw14_TlvTells E_comptoirlaw14_TlvTells bodyK headC headL stepC stepL wpX callA M_comptoirlaw14_TlvTells L_comptoirlaw14_TlvTells b_comptoirlaw14_TlvTells
set_option maxRecDepth 100000 in
theorem law (ls : List AV) (h : WfArgs Try.prog 8 Try.f5.params.toList ls) : callA E_comptoirlaw14_TlvTells Try.f5 ls [] (fun r _ => r = .bool true) := by
  have hp : Try.f5.params.toList.map (shA Try.prog 8) = [.slice 1 (.int .u8), .slice 2 (.agg [.int .i64, .slice 1 (.int .u8)])] := by kernel_rfl
  generalize hts : Try.f5.params.toList = ts at h hp
  match ts, ls, h, hp with
  | [t0, t1], [a0, a1], h, hp =>
    simp only [List.map_cons, List.map_nil, List.cons.injEq, and_true] at hp
    simp only [WfArgs, and_true] at h
    obtain ⟨p0, p1⟩ := hp
    obtain ⟨q0, q1⟩ := h
    rw [p0] at q0
    rw [p1] at q1
    obtain ⟨b0, rfl, w0⟩ := wf_bytes q0
    obtain ⟨x1, rfl, w1, v1⟩ := q1
    have c : ∀ Rv : Bool → Prop, callA E_comptoirlaw14_TlvTells Try.f5 [.slice 1 (.int .u8) (bl b0) .ro, .slice 2 (.agg [.int .i64, .slice 1 (.int .u8)]) x1 .ro] [] (outP (.leaf .bool) fun ls => Rv (getB (ls.getD 0 .junk))) = (T_comptoirlaw14_TlvTells (bl b0) x1).fold False (Sum.elim (L_comptoirlaw14_TlvTells (bl b0) x1 Rv) Rv) := fun Rv => by kernel_rfl
    have g : g_comptoirlaw14_TlvTells (bl b0) x1 = some true := by
      obtain ⟨L, rfl, -⟩ := wf_tgs v1
      exact tlvtells_eq b0 L (by simpa [tgs] using w1)
    exact law_mach (step := M_comptoirlaw14_TlvTells (bl b0) x1) (T := T_comptoirlaw14_TlvTells (bl b0) x1) (L := L_comptoirlaw14_TlvTells (bl b0) x1) c (fun Rv => h_comptoirlaw14_TlvTells (bl b0) x1 Rv) g
end

set_option maxRecDepth 100000 in
theorem lifted (os : Os) (started : os.Started) (H : Type) (enc : TypeId × Value → H) :
    ReturnsInHanded {} Try.checked os 5 .any (Rows.tlvTellsSpec.pre6 enc Try.prog Try.f5 Rows.tlvTellsRow.domain false) (Rows.tlvTellsSpec.post enc Try.prog Try.f5 false true false false) := by
  refine returnsInHanded_of_change (C := Try.checked) own started (by kernel_rfl) Try.func5
    (ChangeSpec.witness6 (enc := enc) (C := Try.checked) false ⟨#[], #[.slice none 0 0, .slice none 0 0], []⟩ 8 (by kernel_rfl) (by kernel_rfl) (by kernel_rfl) (by kernel_rfl)) ?_
  intro W base args ds gs before hval hW hcnd _
  exact law_end (E := E_comptoirlaw14_TlvTells) eok_comptoirlaw14_TlvTells mixed rfl Try.func5 (c := Try.f5.body.getD .skip) (by kernel_rfl) laidOut (by kernel_rfl) (tb := Try.f5.resultTypes.getD 0 0) (by kernel_rfl) (by kernel_rfl) law rfl
    (fun ds hl => by
      obtain ⟨d0, d1, rfl⟩ : ∃ d0 d1, ds = [d0, d1] := by
        have : Try.f5.params.toList.length = 2 := by kernel_rfl
        rw [this] at hl
        match ds, hl with
        | [d0, d1], _ => exact ⟨d0, d1, rfl⟩
      rfl) hval hW

theorem over : Rows.tlvTellsRow.holds Try.pinned (OpenSpec.ofChange Rows.tlvTellsSpec) :=
  OpenClaim.holds_of_wide 5 Try.f5 rfl rfl rfl rfl rfl rfl rfl ⟨rfl, rfl, rfl, rfl, rfl⟩ rfl rfl rfl rfl rfl (by kernel_rfl) Try.func5 (by kernel_rfl)
    (of_decide_eq_true (by kernel_rfl)) (by unfold Func.isWrapper; first | (rw [if_pos (by decide +kernel)]; kernel_rfl) | (rw [if_neg (by decide +kernel)]; exact ⟨rfl, rfl⟩))
    (fun os started H enc _ => lifted os started H enc)

theorem proved : Rows.TlvTellsSaid := over

end Go.Proofs.Ytfhgmpeplfjmcaa.TlvTellsDone
