/- The table of what is written by hand; what SimpleChecks does not reach is never. -/
import Derived.Test.YtcnalhganahiiaaGreatDoorYsB4
namespace Go.Proofs.YtcnalhganahiiaaGreatDoor
open Go.Cx Go.Cx.AV
noncomputable def SNvT : Cx.Spec := fun _ _ => .bad
theorem SNvT_ok : Sound Tryz.prog 65 SNvT := Sound.never Tryz.func65 (c := Tryz.f65.body.getD .skip) (by kernel_rfl) (by kernel_rfl) (fun _ _ => rfl)
noncomputable def SNvM : Cx.Spec := fun _ _ => .bad
theorem SNvM_ok : Sound Tryz.prog 66 SNvM := Sound.never Tryz.func66 (c := Tryz.f66.body.getD .skip) (by kernel_rfl) (by kernel_rfl) (fun _ _ => rfl)
noncomputable def T0t : FuncId → Option Cx.Spec := addT (addT (addT (addT (addT (addT (addT (addT (addT (addT (addT (addT (fun _ => none) 65 SNvT) 66 SNvM) 135 SVal) 75 SRun) 136 SIdx) 83 SPre) 117 SSuf) 87 S28) 34 STrl) 118 STrm) 54 SFmt) 55 SRep
theorem T0t_ok : TblOK Tryz.prog T0t := ((((((((((((TblOK.none _).add SNvT_ok).add SNvM_ok).add SVal_ok).add SRun_ok).add SIdx_ok).add SPre_ok).add SSuf_ok).add S28_ok).add STrl_ok).add STrm_ok).add SFmt_ok).add SRep_ok
end Go.Proofs.YtcnalhganahiiaaGreatDoor
