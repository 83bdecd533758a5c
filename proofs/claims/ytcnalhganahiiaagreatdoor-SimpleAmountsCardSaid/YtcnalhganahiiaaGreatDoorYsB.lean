/- The table of what is written by hand; what an amount does not reach is never. -/
import Derived.Test.YtcnalhganahiiaaGreatDoorYsB3
namespace Go.Proofs.YtcnalhganahiiaaGreatDoor
open Go.Cx Go.Cx.AV
noncomputable def SNvT : Cx.Spec := fun _ _ => .bad
theorem SNvT_ok : Sound Tryz.prog 65 SNvT := Sound.never Tryz.func65 (c := Tryz.f65.body.getD .skip) (by kernel_rfl) (by kernel_rfl) (fun _ _ => rfl)
noncomputable def SNvP : Cx.Spec := fun _ _ => .bad
theorem SNvP_ok : Sound Tryz.prog 63 SNvP := Sound.never Tryz.func63 (c := Tryz.f63.body.getD .skip) (by kernel_rfl) (by kernel_rfl) (fun _ _ => rfl)
noncomputable def SNvA : Cx.Spec := fun _ _ => .bad
theorem SNvA_ok : Sound Tryz.prog 67 SNvA := Sound.never Tryz.func67 (c := Tryz.f67.body.getD .skip) (by kernel_rfl) (by kernel_rfl) (fun _ _ => rfl)
noncomputable def SNvH : Cx.Spec := fun _ _ => .bad
theorem SNvH_ok : Sound Tryz.prog 68 SNvH := Sound.never Tryz.func68 (c := Tryz.f68.body.getD .skip) (by kernel_rfl) (by kernel_rfl) (fun _ _ => rfl)
noncomputable def T0t : FuncId → Option Cx.Spec := addT (addT (addT (addT (addT (addT (addT (addT (addT (addT (addT (fun _ => none) 65 SNvT) 63 SNvP) 67 SNvA) 68 SNvH) 87 S28) 34 STrl) 118 STrm) 28 SRpl) 23 SDg) 54 SFmt) 55 SRep
theorem T0t_ok : TblOK Tryz.prog T0t := (((((((((((TblOK.none _).add SNvT_ok).add SNvP_ok).add SNvA_ok).add SNvH_ok).add S28_ok).add STrl_ok).add STrm_ok).add SRpl_ok).add SDg_ok).add SFmt_ok).add SRep_ok
end Go.Proofs.YtcnalhganahiiaaGreatDoor
