/- CursorBack: whatever the bytes, the numbers and their sizes, the call returns true. No condition beyond the given statement. -/
import Derived.Test.YthocnaabefdokaaYaP9
import Derived.Test.YthocnaabefdokaaCxAl
import Derived.Test.YthocnaabefdokaaRows
import Derived.WalkKit
import Derived.ProofKit
import Derived.OpenShut
import Derived.ShutString
import Derived.ChangeOld
import Derived.Below
namespace Go.Proofs.Ythocnaabefdokaa.CursorBackDone
open Go.Proofs.Ythocnaabefdokaa
open Go.Cx Go.Cx.AV Go.ChangeShapes Go.WideShapes Go.ChangeAt Go.RowKit
set_option linter.unusedVariables false

theorem own : ownKnob Try.prog.godebug = none := by kernel_rfl
theorem laidOut : laidOutB Try.prog = true := by kernel_rfl

section
attribute [local irreducible] Tr.fold T_comptoirlaw01_CursorBack E_comptoirlaw01_CursorBack bodyK headC headL stepC stepL wpX callA M_comptoirlaw01_CursorBack L_comptoirlaw01_CursorBack b_comptoirlaw01_CursorBack
set_option maxRecDepth 100000 in
theorem law (ls : List AV) (h : WfArgs Try.prog 8 Try.f9.params.toList ls) : callA E_comptoirlaw01_CursorBack Try.f9 ls [] (fun r _ => r = .bool true) := by
  have hp : Try.f9.params.toList.map (shA Try.prog 8) = [.slice 1 (.int .u8), .slice 1 (.int .u64), .slice 1 (.int .i64)] := by kernel_rfl
  generalize hts : Try.f9.params.toList = ts at h hp
  match ts, ls, h, hp with
  | [t0, t1, t2], [a0, a1, a2], h, hp =>
    simp only [List.map_cons, List.map_nil, List.cons.injEq, and_true] at hp
    simp only [WfArgs, and_true] at h
    obtain ⟨p0, p1, p2⟩ := hp
    obtain ⟨q0, q1, q2⟩ := h
    rw [p0] at q0
    rw [p1] at q1
    rw [p2] at q2
    obtain ⟨b0, rfl, w0⟩ := wf_bytes q0
    obtain ⟨x1, rfl, w1, v1⟩ := q1
    obtain ⟨x2, rfl, w2, v2⟩ := q2
    have c : ∀ Rv : Bool → Prop, callA E_comptoirlaw01_CursorBack Try.f9 [.slice 1 (.int .u8) (bl b0) .ro, .slice 1 (.int .u64) x1 .ro, .slice 1 (.int .i64) x2 .ro] [] (outP (.leaf .bool) fun ls => Rv (getB (ls.getD 0 .junk))) = (T_comptoirlaw01_CursorBack (bl b0) x1 x2).fold False (Sum.elim (L_comptoirlaw01_CursorBack (bl b0) x1 x2 Rv) Rv) := fun Rv => by kernel_rfl
    have g : g_comptoirlaw01_CursorBack (bl b0) x1 x2 = some true := back_eq _ x1 x2 (wf_u64 v1) w1 w2
    exact law_mach (step := M_comptoirlaw01_CursorBack (bl b0) x1 x2) (T := T_comptoirlaw01_CursorBack (bl b0) x1 x2) (L := L_comptoirlaw01_CursorBack (bl b0) x1 x2) c (fun Rv => h_comptoirlaw01_CursorBack (bl b0) x1 x2 Rv) g
end

set_option maxRecDepth 100000 in
theorem lifted (os : Os) (started : os.Started) (H : Type) (enc : TypeId × Value → H) :
    ReturnsInHanded {} Try.checked os 9 .any (Rows.cursorBackSpec.pre6 enc Try.prog Try.f9 Rows.cursorBackRow.domain false) (Rows.cursorBackSpec.post enc Try.prog Try.f9 false true false false) := by
  refine returnsInHanded_of_change (C := Try.checked) own started (by kernel_rfl) Try.func9
    (ChangeSpec.witness6 (enc := enc) (C := Try.checked) false ⟨#[], #[.slice none 0 0, .slice none 0 0, .slice none 0 0], []⟩ 8 (by kernel_rfl) (by kernel_rfl) (by kernel_rfl) (by kernel_rfl)) ?_
  intro W base args ds gs before hval hW hcnd _
  exact law_end (E := E_comptoirlaw01_CursorBack) eok_comptoirlaw01_CursorBack mixed rfl Try.func9 (c := Try.f9.body.getD .skip) (by kernel_rfl) laidOut (by kernel_rfl) (tb := Try.f9.resultTypes.getD 0 0) (by kernel_rfl) (by kernel_rfl) law rfl
    (fun ds hl => by
      obtain ⟨d0, d1, d2, rfl⟩ : ∃ d0 d1 d2, ds = [d0, d1, d2] := by
        have : Try.f9.params.toList.length = 3 := by kernel_rfl
        rw [this] at hl
        match ds, hl with
        | [d0, d1, d2], _ => exact ⟨d0, d1, d2, rfl⟩
      rfl) hval hW

theorem over : Rows.cursorBackRow.holds Try.pinned (OpenSpec.ofChange Rows.cursorBackSpec) :=
  OpenClaim.holds_of_wide 9 Try.f9 rfl rfl rfl rfl rfl rfl rfl ⟨rfl, rfl, rfl, rfl, rfl⟩ rfl rfl rfl rfl rfl (by kernel_rfl) Try.func9 (by kernel_rfl)
    (of_decide_eq_true (by kernel_rfl)) (by unfold Func.isWrapper; first | (rw [if_pos (by decide +kernel)]; kernel_rfl) | (rw [if_neg (by decide +kernel)]; exact ⟨rfl, rfl⟩))
    (fun os started H enc _ => lifted os started H enc)

theorem proved : Rows.CursorBackSaid := over

end Go.Proofs.Ythocnaabefdokaa.CursorBackDone
