/- Summaries written by hand: copies of slices of bytes. -/
import Derived.Test.YtgjgfmeepgiddaaGreatCxAv
import Derived.Test.YtgjgfmeepgiddaaGreatProg
import Derived.LoopN
import Derived.Handy
import Derived.Lib.Slices
import Derived.Lib.Walk
import Derived.Laws.MakeOwn
import Derived.WalkKit
namespace Go.Proofs.YtgjgfmeepgiddaaGreat
open Go.Cx Go.Cx.AV Go.RowKit
set_option linter.unusedSimpArgs false
set_option linter.unusedVariables false
theorem mixed : Tryz.prog.follows .mixedOrders = true := by kernel_rfl
noncomputable def EClonePair : En := enK Tryz.prog (fun _ => none) [5] [] [] [] 0
noncomputable def SClonePair : Cx.Spec := cloneF 2 33 (.agg [.str, .str])
theorem SClonePair_ok : Sound Tryz.prog 95 SClonePair := cloneF_ok (E := EClonePair) ((TblOK.none _).enK _ _ _ _ _) mixed rfl Tryz.func95 (c := Tryz.f95.body.getD .skip) (by kernel_rfl) (by kernel_rfl) (fun xs R => by kernel_rfl) (fun R => by kernel_rfl)
noncomputable def EClone : En := enK Tryz.prog (fun _ => none) [5] [] [] [] 0
noncomputable def SClone : Cx.Spec := cloneF 1 2 (.int .u8)
theorem SClone_ok : Sound Tryz.prog 62 SClone := cloneF_ok (E := EClone) ((TblOK.none _).enK _ _ _ _ _) mixed rfl Tryz.func62 (c := Tryz.f62.body.getD .skip) (by kernel_rfl) (by kernel_rfl) (fun xs R => by kernel_rfl) (fun R => by kernel_rfl)
noncomputable def ECloneO : En := enK Tryz.prog (fun _ => none) [5] [] [] [] 1
noncomputable def SCloneO : Cx.Spec := cloneO 5 1 2 (.int .u8)
theorem SCloneO_ok : Sound Tryz.prog 62 SCloneO := cloneO_ok (E := ECloneO) ((TblOK.none _).enK _ _ _ _ _) mixed Tryz.func62 (c := Tryz.f62.body.getD .skip) (by kernel_rfl) (by kernel_rfl) (by decide) (fun xs R => by kernel_rfl) (fun R => by kernel_rfl)
noncomputable def SNv123 : Cx.Spec := fun _ _ => .bad
theorem SNv123_ok : Sound Tryz.prog 123 SNv123 := Sound.never Tryz.func123 (c := Tryz.f123.body.getD .skip) (by kernel_rfl) (by kernel_rfl) (fun _ _ => rfl)
noncomputable def SNv124 : Cx.Spec := fun _ _ => .bad
theorem SNv124_ok : Sound Tryz.prog 124 SNv124 := Sound.never Tryz.func124 (c := Tryz.f124.body.getD .skip) (by kernel_rfl) (by kernel_rfl) (fun _ _ => rfl)
noncomputable def SNv125 : Cx.Spec := fun _ _ => .bad
theorem SNv125_ok : Sound Tryz.prog 125 SNv125 := Sound.never Tryz.func125 (c := Tryz.f125.body.getD .skip) (by kernel_rfl) (by kernel_rfl) (fun _ _ => rfl)
noncomputable def SNv126 : Cx.Spec := fun _ _ => .bad
theorem SNv126_ok : Sound Tryz.prog 126 SNv126 := Sound.never Tryz.func126 (c := Tryz.f126.body.getD .skip) (by kernel_rfl) (by kernel_rfl) (fun _ _ => rfl)
noncomputable def SNv127 : Cx.Spec := fun _ _ => .bad
theorem SNv127_ok : Sound Tryz.prog 127 SNv127 := Sound.never Tryz.func127 (c := Tryz.f127.body.getD .skip) (by kernel_rfl) (by kernel_rfl) (fun _ _ => rfl)
noncomputable def SNv122 : Cx.Spec := fun _ _ => .bad
theorem SNv122_ok : Sound Tryz.prog 122 SNv122 := Sound.never Tryz.func122 (c := Tryz.f122.body.getD .skip) (by kernel_rfl) (by kernel_rfl) (fun _ _ => rfl)
noncomputable def SNv91 : Cx.Spec := fun _ _ => .bad
theorem SNv91_ok : Sound Tryz.prog 91 SNv91 := Sound.never Tryz.func91 (c := Tryz.f91.body.getD .skip) (by kernel_rfl) (by kernel_rfl) (fun _ _ => rfl)
noncomputable def SNv92 : Cx.Spec := fun _ _ => .bad
theorem SNv92_ok : Sound Tryz.prog 92 SNv92 := Sound.never Tryz.func92 (c := Tryz.f92.body.getD .skip) (by kernel_rfl) (by kernel_rfl) (fun _ _ => rfl)
noncomputable def SNv138 : Cx.Spec := fun _ _ => .bad
theorem SNv138_ok : Sound Tryz.prog 138 SNv138 := Sound.never Tryz.func138 (c := Tryz.f138.body.getD .skip) (by kernel_rfl) (by kernel_rfl) (fun _ _ => rfl)
noncomputable def SNv139 : Cx.Spec := fun _ _ => .bad
theorem SNv139_ok : Sound Tryz.prog 139 SNv139 := Sound.never Tryz.func139 (c := Tryz.f139.body.getD .skip) (by kernel_rfl) (by kernel_rfl) (fun _ _ => rfl)
noncomputable def SNv137 : Cx.Spec := fun _ _ => .bad
theorem SNv137_ok : Sound Tryz.prog 137 SNv137 := Sound.never Tryz.func137 (c := Tryz.f137.body.getD .skip) (by kernel_rfl) (by kernel_rfl) (fun _ _ => rfl)
noncomputable def SNv64 : Cx.Spec := fun _ _ => .bad
theorem SNv64_ok : Sound Tryz.prog 64 SNv64 := Sound.never Tryz.func64 (c := Tryz.f64.body.getD .skip) (by kernel_rfl) (by kernel_rfl) (fun _ _ => rfl)
noncomputable def SNv66 : Cx.Spec := fun _ _ => .bad
theorem SNv66_ok : Sound Tryz.prog 66 SNv66 := Sound.never Tryz.func66 (c := Tryz.f66.body.getD .skip) (by kernel_rfl) (by kernel_rfl) (fun _ _ => rfl)
noncomputable def SNv46 : Cx.Spec := fun _ _ => .bad
theorem SNv46_ok : Sound Tryz.prog 46 SNv46 := Sound.never Tryz.func46 (c := Tryz.f46.body.getD .skip) (by kernel_rfl) (by kernel_rfl) (fun _ _ => rfl)
noncomputable def SNv47 : Cx.Spec := fun _ _ => .bad
theorem SNv47_ok : Sound Tryz.prog 47 SNv47 := Sound.never Tryz.func47 (c := Tryz.f47.body.getD .skip) (by kernel_rfl) (by kernel_rfl) (fun _ _ => rfl)
noncomputable def SNv45 : Cx.Spec := fun _ _ => .bad
theorem SNv45_ok : Sound Tryz.prog 45 SNv45 := Sound.never Tryz.func45 (c := Tryz.f45.body.getD .skip) (by kernel_rfl) (by kernel_rfl) (fun _ _ => rfl)
noncomputable def T0t : FuncId → Option Cx.Spec := addT (addT (addT (addT (addT (addT (addT (addT (addT (addT (addT (addT (addT (addT (addT (addT (addT (addT ((fun _ => none)) 95 SClonePair) 62 SClone) 123 SNv123) 124 SNv124) 125 SNv125) 126 SNv126) 127 SNv127) 122 SNv122) 91 SNv91) 92 SNv92) 138 SNv138) 139 SNv139) 137 SNv137) 64 SNv64) 66 SNv66) 46 SNv46) 47 SNv47) 45 SNv45
theorem T0t_ok : TblOK Tryz.prog T0t := (((((((((((((((((((TblOK.none _).add SClonePair_ok).add SClone_ok).add SNv123_ok).add SNv124_ok).add SNv125_ok).add SNv126_ok).add SNv127_ok).add SNv122_ok).add SNv91_ok).add SNv92_ok).add SNv138_ok).add SNv139_ok).add SNv137_ok).add SNv64_ok).add SNv66_ok).add SNv46_ok).add SNv47_ok).add SNv45_ok)
end Go.Proofs.YtgjgfmeepgiddaaGreat
