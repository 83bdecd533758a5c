/- CursorPlays: whatever the bytes and the steps, the call returns true. No condition beyond the given statement. -/
import Derived.Test.YthocnaabefdokaaYaP8
import Derived.Test.YthocnaabefdokaaCxAl
import Derived.Test.YthocnaabefdokaaRows
import Derived.WalkKit
import Derived.ProofKit
import Derived.OpenShut
import Derived.ShutString
import Derived.ChangeOld
import Derived.Below
namespace Go.Proofs.Ythocnaabefdokaa.CursorPlaysDone
open Go.Proofs.Ythocnaabefdokaa
open Go.Cx Go.Cx.AV Go.ChangeShapes Go.WideShapes Go.ChangeAt Go.RowKit
set_option linter.unusedVariables false

theorem own : ownKnob Try.prog.godebug = none := by kernel_rfl
theorem laidOut : laidOutB Try.prog = true := by kernel_rfl

section
attribute [local irreducible] Tr.fold T_comptoirlaw01_CursorPlays E_comptoirlaw01_CursorPlays bodyK headC headL stepC stepL wpX callA M_comptoirlaw01_CursorPlays L_comptoirlaw01_CursorPlays b_comptoirlaw01_CursorPlays
set_option maxRecDepth 100000 in
theorem law (ls : List AV) (h : WfArgs Try.prog 8 Try.f8.params.toList ls) : callA E_comptoirlaw01_CursorPlays Try.f8 ls [] (fun r _ => r = .bool true) := by
  have hp : Try.f8.params.toList.map (shA Try.prog 8) = [.slice 1 (.int .u8), .slice 2 (.agg [.int .i64, .int .i64])] := by kernel_rfl
  generalize hts : Try.f8.params.toList = ts at h hp
  match ts, ls, h, hp with
  | [t0, t1], [a0, a1], h, hp =>
    simp only [List.map_cons, List.map_nil, List.cons.injEq, and_true] at hp
    simp only [WfArgs, and_true] at h
    obtain ⟨p0, p1⟩ := hp
    obtain ⟨q0, q1⟩ := h
    rw [p0] at q0
    rw [p1] at q1
    obtain ⟨b0, rfl, w0⟩ := wf_bytes q0
    obtain ⟨x1, rfl, w1, v1⟩ := q1
    have c : ∀ Rv : Bool → Prop, callA E_comptoirlaw01_CursorPlays Try.f8 [.slice 1 (.int .u8) (bl b0) .ro, .slice 2 (.agg [.int .i64, .int .i64]) x1 .ro] [] (outP (.leaf .bool) fun ls => Rv (getB (ls.getD 0 .junk))) = (T_comptoirlaw01_CursorPlays (bl b0) x1).fold False (Sum.elim (L_comptoirlaw01_CursorPlays (bl b0) x1 Rv) Rv) := fun Rv => by kernel_rfl
    have g : g_comptoirlaw01_CursorPlays (bl b0) x1 = some true := plays_eq _ x1 w1
    exact law_mach (step := M_comptoirlaw01_CursorPlays (bl b0) x1) (T := T_comptoirlaw01_CursorPlays (bl b0) x1) (L := L_comptoirlaw01_CursorPlays (bl b0) x1) c (fun Rv => h_comptoirlaw01_CursorPlays (bl b0) x1 Rv) g
end

set_option maxRecDepth 100000 in
theorem lifted (os : Os) (started : os.Started) (H : Type) (enc : TypeId × Value → H) :
    ReturnsInHanded {} Try.checked os 8 .any (Rows.cursorPlaysSpec.pre6 enc Try.prog Try.f8 Rows.cursorPlaysRow.domain false) (Rows.cursorPlaysSpec.post enc Try.prog Try.f8 false true false false) := by
  refine returnsInHanded_of_change (C := Try.checked) own started (by kernel_rfl) Try.func8
    (ChangeSpec.witness6 (enc := enc) (C := Try.checked) false ⟨#[], #[.slice none 0 0, .slice none 0 0], []⟩ 8 (by kernel_rfl) (by kernel_rfl) (by kernel_rfl) (by kernel_rfl)) ?_
  intro W base args ds gs before hval hW hcnd _
  exact law_end (E := E_comptoirlaw01_CursorPlays) eok_comptoirlaw01_CursorPlays mixed rfl Try.func8 (c := Try.f8.body.getD .skip) (by kernel_rfl) laidOut (by kernel_rfl) (tb := Try.f8.resultTypes.getD 0 0) (by kernel_rfl) (by kernel_rfl) law rfl
    (fun ds hl => by
      obtain ⟨d0, d1, rfl⟩ : ∃ d0 d1, ds = [d0, d1] := by
        have : Try.f8.params.toList.length = 2 := by kernel_rfl
        rw [this] at hl
        match ds, hl with
        | [d0, d1], _ => exact ⟨d0, d1, rfl⟩
      rfl) hval hW

theorem over : Rows.cursorPlaysRow.holds Try.pinned (OpenSpec.ofChange Rows.cursorPlaysSpec) :=
  OpenClaim.holds_of_wide 8 Try.f8 rfl rfl rfl rfl rfl rfl rfl ⟨rfl, rfl, rfl, rfl, rfl⟩ rfl rfl rfl rfl rfl (by kernel_rfl) Try.func8 (by kernel_rfl)
    (of_decide_eq_true (by kernel_rfl)) (by unfold Func.isWrapper; first | (rw [if_pos (by decide +kernel)]; kernel_rfl) | (rw [if_neg (by decide +kernel)]; exact ⟨rfl, rfl⟩))
    (fun os started H enc _ => lifted os started H enc)

theorem proved : Rows.CursorPlaysSaid := over

end Go.Proofs.Ythocnaabefdokaa.CursorPlaysDone
