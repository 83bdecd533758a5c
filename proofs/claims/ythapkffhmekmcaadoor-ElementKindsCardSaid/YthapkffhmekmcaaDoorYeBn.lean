/- The table of what is written by hand. -/
import Derived.Test.YthapkffhmekmcaaDoorYeB1
namespace Go.Proofs.YthapkffhmekmcaaDoor
open Go.Cx Go.Cx.AV
noncomputable def T0t : FuncId → Option Cx.Spec := addT (addT (addT (addT (fun _ => none) 64 S28) 30 SDg) 37 SFmt) 38 SRep
theorem T0t_ok : TblOK Tryd.prog T0t := ((((TblOK.none _).add S28_ok).add SDg_ok).add SFmt_ok).add SRep_ok
end Go.Proofs.YthapkffhmekmcaaDoor
