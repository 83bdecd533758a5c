/- DigitsHalves: whatever the slice of bytes, the call returns true, and the slice reads behind the call as it read before. No condition beyond the given statement. -/
import Derived.Test.YthocnaabefdokaaYaP3
import Derived.Test.YthocnaabefdokaaCxAl
import Derived.Test.YthocnaabefdokaaRows
import Derived.WalkKit
import Derived.ProofKit
import Derived.OpenShut
import Derived.ShutString
import Derived.ChangeOld
import Derived.Below
namespace Go.Proofs.Ythocnaabefdokaa.DigitsHalvesDone
open Go.Cx Go.Cx.AV Go.ChangeShapes Go.WideShapes Go.ChangeAt Go.RowKit
set_option linter.unusedVariables false

theorem own : ownKnob Try.prog.godebug = none := by kernel_rfl
theorem laidOut : laidOutB Try.prog = true := by kernel_rfl

theorem e3 : EnOK E3 := TblOK.enK TYaG110t_ok _ _ _ _ _

set_option maxRecDepth 100000 in
theorem plain (ls : List AV) (h : WfArgs Try.prog 4 Try.f3.params.toList ls) : ∃ b : List UInt8, ls = [.slice 1 (.int .u8) (bl b) .ro] := by
  have hp : Try.f3.params.toList.map (shA Try.prog 4) = [.slice 1 (.int .u8)] := by kernel_rfl
  generalize hts : Try.f3.params.toList = ts at h hp
  match ts, ls, h, hp with
  | [t], [a], h, hp =>
    obtain ⟨b, rfl, -⟩ := wf_bytes (a := a) (by have := h.1; simp only [List.map_cons, List.map_nil, List.cons.injEq, and_true] at hp; rw [hp] at this; exact this)
    exact ⟨b, rfl⟩

set_option maxRecDepth 100000 in
theorem law (ls : List AV) (h : WfArgs Try.prog 4 Try.f3.params.toList ls) : callA E3 Try.f3 ls [] (fun r _ => r = .bool true) := by
  obtain ⟨b, rfl⟩ := plain ls h
  exact law_mach (c3 [.slice 1 (.int .u8) (bl b) .ro]) (fun Rv s => match s with
    | (v0, v1) => fun h => LP.unfold (Eq.mpr (l3_0 _ Rv v0 v1) h)) (g3_eq b)

set_option maxRecDepth 100000 in
theorem lifted (os : Os) (started : os.Started) (H : Type) (enc : TypeId × Value → H) :
    ReturnsInHanded {} Try.checked os 3 .any (Rows.digitsHalvesSpec.pre6 enc Try.prog Try.f3 Rows.digitsHalvesRow.domain false) (Rows.digitsHalvesSpec.post enc Try.prog Try.f3 false true false false) := by
  refine returnsInHanded_of_change (C := Try.checked) own started (by kernel_rfl) Try.func3
    (ChangeSpec.witness6 (enc := enc) (C := Try.checked) false ⟨#[], #[.slice none 0 0], []⟩ 8 (by kernel_rfl) (by kernel_rfl) (by kernel_rfl) (by kernel_rfl)) ?_
  intro W base args ds gs before hval hW hcnd _
  exact law_end (E := E3) e3 mixed rfl Try.func3 (c := Try.f3.body.getD .skip) (by kernel_rfl) laidOut (by kernel_rfl) (tb := Try.f3.resultTypes.getD 0 0) (by kernel_rfl) (by kernel_rfl) law rfl
    (fun ds hl => by
      obtain ⟨d, rfl⟩ : ∃ d, ds = [d] := by
        have : Try.f3.params.toList.length = 1 := by kernel_rfl
        rw [this] at hl
        match ds, hl with
        | [d], _ => exact ⟨d, rfl⟩
      rfl) hval hW

theorem over : Rows.digitsHalvesRow.holds Try.pinned (OpenSpec.ofChange Rows.digitsHalvesSpec) :=
  OpenClaim.holds_of_wide 3 Try.f3 rfl rfl rfl rfl rfl rfl rfl ⟨rfl, rfl, rfl, rfl, rfl⟩ rfl rfl rfl rfl rfl (by kernel_rfl) Try.func3 (by kernel_rfl)
    (of_decide_eq_true (by kernel_rfl)) (by unfold Func.isWrapper; first | (rw [if_pos (by decide +kernel)]; kernel_rfl) | (rw [if_neg (by decide +kernel)]; exact ⟨rfl, rfl⟩))
    (fun os started H enc _ => lifted os started H enc)

theorem proved : Rows.DigitsHalvesSaid := over

end Go.Proofs.Ythocnaabefdokaa.DigitsHalvesDone
