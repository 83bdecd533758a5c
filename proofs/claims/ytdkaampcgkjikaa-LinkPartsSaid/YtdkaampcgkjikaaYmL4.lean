/- In whatever parts frames come, they are the same, in order. No condition beyond the given statement. -/
import Derived.Test.YtdkaampcgkjikaaYmP4
import Derived.Test.YtdkaampcgkjikaaCxAl
import Derived.Test.YtdkaampcgkjikaaRows
import Derived.WalkKit
import Derived.ProofKit
import Derived.OpenShut
import Derived.ShutString
import Derived.ChangeOld
import Derived.Below
namespace Go.Proofs.Ytdkaampcgkjikaa.LinkPartsDone
open Go.Proofs.Ytdkaampcgkjikaa
open Go.Cx Go.Cx.AV Go.ChangeShapes Go.WideShapes Go.ChangeAt Go.RowKit
set_option linter.unusedVariables false

theorem own : ownKnob Try.prog.godebug = none := by kernel_rfl
theorem laidOut : laidOutB Try.prog = true := by kernel_rfl

section
attribute [local irreducible] Tr.fold T_comptoirlaw06_LinkParts E_comptoirlaw06_LinkParts bodyK headC headL stepC stepL wpX callA M_comptoirlaw06_LinkParts L_comptoirlaw06_LinkParts b_comptoirlaw06_LinkParts
set_option maxRecDepth 100000 in
theorem law (ls : List AV) (h : WfArgs Try.prog 8 Try.f4.params.toList ls) : callA E_comptoirlaw06_LinkParts Try.f4 ls [] (fun r _ => r = .bool true) := by
  have hp : Try.f4.params.toList.map (shA Try.prog 8) = [.slice 1 (.int .i64), .slice 1 (.int .i64)] := by kernel_rfl
  generalize hts : Try.f4.params.toList = ts at h hp
  match ts, ls, h, hp with
  | [t0, t1], [a0, a1], h, hp =>
    simp only [List.map_cons, List.map_nil, List.cons.injEq, and_true] at hp
    simp only [WfArgs, and_true] at h
    obtain ⟨p0, p1⟩ := hp
    obtain ⟨q0, q1⟩ := h
    rw [p0] at q0
    rw [p1] at q1
    obtain ⟨x0, rfl, w0, v0⟩ := q0
    obtain ⟨x1, rfl, w1, v1⟩ := q1
    have c : ∀ Rv : Bool → Prop, callA E_comptoirlaw06_LinkParts Try.f4 [.slice 1 (.int .i64) x0 .ro, .slice 1 (.int .i64) x1 .ro] [] (outP (.leaf .bool) fun ls => Rv (getB (ls.getD 0 .junk))) = (T_comptoirlaw06_LinkParts x0 x1).fold False (Sum.elim (L_comptoirlaw06_LinkParts x0 x1 Rv) Rv) := fun Rv => by kernel_rfl
    have g : g_comptoirlaw06_LinkParts x0 x1 = some true := lparts_eq x0 x1 w1 w0
    exact law_mach (step := M_comptoirlaw06_LinkParts x0 x1) (T := T_comptoirlaw06_LinkParts x0 x1) (L := L_comptoirlaw06_LinkParts x0 x1) c (fun Rv => h_comptoirlaw06_LinkParts x0 x1 Rv) g
end

set_option maxRecDepth 100000 in
theorem lifted (os : Os) (started : os.Started) (H : Type) (enc : TypeId × Value → H) :
    ReturnsInHanded {} Try.checked os 4 .any (Rows.linkPartsSpec.pre6 enc Try.prog Try.f4 Rows.linkPartsRow.domain false) (Rows.linkPartsSpec.post enc Try.prog Try.f4 false true false false) := by
  refine returnsInHanded_of_change (C := Try.checked) own started (by kernel_rfl) Try.func4
    (ChangeSpec.witness6 (enc := enc) (C := Try.checked) false ⟨#[], #[.slice none 0 0, .slice none 0 0], []⟩ 8 (by kernel_rfl) (by kernel_rfl) (by kernel_rfl) (by kernel_rfl)) ?_
  intro W base args ds gs before hval hW hcnd _
  exact law_end (E := E_comptoirlaw06_LinkParts) eok_comptoirlaw06_LinkParts mixed rfl Try.func4 (c := Try.f4.body.getD .skip) (by kernel_rfl) laidOut (by kernel_rfl) (tb := Try.f4.resultTypes.getD 0 0) (by kernel_rfl) (by kernel_rfl) law rfl
    (fun ds hl => by
      obtain ⟨d0, d1, rfl⟩ : ∃ d0 d1, ds = [d0, d1] := by
        have : Try.f4.params.toList.length = 2 := by kernel_rfl
        rw [this] at hl
        match ds, hl with
        | [d0, d1], _ => exact ⟨d0, d1, rfl⟩
      rfl) hval hW

theorem over : Rows.linkPartsRow.holds Try.pinned (OpenSpec.ofChange Rows.linkPartsSpec) :=
  OpenClaim.holds_of_wide 4 Try.f4 rfl rfl rfl rfl rfl rfl rfl ⟨rfl, rfl, rfl, rfl, rfl⟩ rfl rfl rfl rfl rfl (by kernel_rfl) Try.func4 (by kernel_rfl)
    (of_decide_eq_true (by kernel_rfl)) (by unfold Func.isWrapper; first | (rw [if_pos (by decide +kernel)]; kernel_rfl) | (rw [if_neg (by decide +kernel)]; exact ⟨rfl, rfl⟩))
    (fun os started H enc _ => lifted os started H enc)

theorem proved : Rows.LinkPartsSaid := over

end Go.Proofs.Ytdkaampcgkjikaa.LinkPartsDone
