/- Whatever is written, erased, torn, and mended: each answer, both slots, and whether it is torn; what is handed in stays. No condition beyond the given statement. -/
import Derived.Test.YtdkaampcgkjikaaYmP3
import Derived.Test.YtdkaampcgkjikaaCxAl
import Derived.Test.YtdkaampcgkjikaaRows
import Derived.WalkKit
import Derived.ProofKit
import Derived.OpenShut
import Derived.ShutString
import Derived.ChangeOld
import Derived.Below
namespace Go.Proofs.Ytdkaampcgkjikaa.DiskPlaysDone
open Go.Proofs.Ytdkaampcgkjikaa
open Go.Cx Go.Cx.AV Go.ChangeShapes Go.WideShapes Go.ChangeAt Go.RowKit
set_option linter.unusedVariables false

theorem own : ownKnob Try.prog.godebug = none := by kernel_rfl
theorem laidOut : laidOutB Try.prog = true := by kernel_rfl

section
attribute [local irreducible] Tr.fold T_comptoirlaw22_DiskPlays E_comptoirlaw22_DiskPlays bodyK headC headL stepC stepL wpX callA M_comptoirlaw22_DiskPlays L_comptoirlaw22_DiskPlays b_comptoirlaw22_DiskPlays
set_option maxRecDepth 100000 in
theorem law (ls : List AV) (h : WfArgs Try.prog 8 Try.f3.params.toList ls) : callA E_comptoirlaw22_DiskPlays Try.f3 ls [] (fun r _ => r = .bool true) := by
  have hp : Try.f3.params.toList.map (shA Try.prog 8) = [.slice 4 (.agg [.int .i64, .int .i64, .int .i64, .slice 1 (.int .u8)])] := by kernel_rfl
  generalize hts : Try.f3.params.toList = ts at h hp
  match ts, ls, h, hp with
  | [t0], [a0], h, hp =>
    simp only [List.map_cons, List.map_nil, List.cons.injEq, and_true] at hp
    simp only [WfArgs, and_true] at h
    have p0 := hp
    have q0 := h
    rw [p0] at q0
    obtain ⟨x0, rfl, w0, v0⟩ := q0
    have c : ∀ Rv : Bool → Prop, callA E_comptoirlaw22_DiskPlays Try.f3 [.slice 4 (.agg [.int .i64, .int .i64, .int .i64, .slice 1 (.int .u8)]) x0 .ro] [] (outP (.leaf .bool) fun ls => Rv (getB (ls.getD 0 .junk))) = (T_comptoirlaw22_DiskPlays x0).fold False (Sum.elim (L_comptoirlaw22_DiskPlays x0 Rv) Rv) := fun Rv => by kernel_rfl
    have g : g_comptoirlaw22_DiskPlays x0 = some true := dplays_eq x0 v0
    exact law_mach (step := M_comptoirlaw22_DiskPlays x0) (T := T_comptoirlaw22_DiskPlays x0) (L := L_comptoirlaw22_DiskPlays x0) c (fun Rv => h_comptoirlaw22_DiskPlays x0 Rv) g
end

set_option maxRecDepth 100000 in
theorem lifted (os : Os) (started : os.Started) (H : Type) (enc : TypeId × Value → H) :
    ReturnsInHanded {} Try.checked os 3 .any (Rows.diskPlaysSpec.pre6 enc Try.prog Try.f3 Rows.diskPlaysRow.domain false) (Rows.diskPlaysSpec.post enc Try.prog Try.f3 false true false false) := by
  refine returnsInHanded_of_change (C := Try.checked) own started (by kernel_rfl) Try.func3
    (ChangeSpec.witness6 (enc := enc) (C := Try.checked) false ⟨#[], #[.slice none 0 0], []⟩ 8 (by kernel_rfl) (by kernel_rfl) (by kernel_rfl) (by kernel_rfl)) ?_
  intro W base args ds gs before hval hW hcnd _
  exact law_end (E := E_comptoirlaw22_DiskPlays) eok_comptoirlaw22_DiskPlays mixed rfl Try.func3 (c := Try.f3.body.getD .skip) (by kernel_rfl) laidOut (by kernel_rfl) (tb := Try.f3.resultTypes.getD 0 0) (by kernel_rfl) (by kernel_rfl) law rfl
    (fun ds hl => by
      obtain ⟨d0, rfl⟩ : ∃ d0, ds = [d0] := by
        have : Try.f3.params.toList.length = 1 := by kernel_rfl
        rw [this] at hl
        match ds, hl with
        | [d0], _ => exact ⟨d0, rfl⟩
      rfl) hval hW

theorem over : Rows.diskPlaysRow.holds Try.pinned (OpenSpec.ofChange Rows.diskPlaysSpec) :=
  OpenClaim.holds_of_wide 3 Try.f3 rfl rfl rfl rfl rfl rfl rfl ⟨rfl, rfl, rfl, rfl, rfl⟩ rfl rfl rfl rfl rfl (by kernel_rfl) Try.func3 (by kernel_rfl)
    (of_decide_eq_true (by kernel_rfl)) (by unfold Func.isWrapper; first | (rw [if_pos (by decide +kernel)]; kernel_rfl) | (rw [if_neg (by decide +kernel)]; exact ⟨rfl, rfl⟩))
    (fun os started H enc _ => lifted os started H enc)

theorem proved : Rows.DiskPlaysSaid := over

end Go.Proofs.Ytdkaampcgkjikaa.DiskPlaysDone
