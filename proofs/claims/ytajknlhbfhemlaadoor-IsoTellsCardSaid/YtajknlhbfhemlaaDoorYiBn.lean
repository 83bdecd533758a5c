/- The table of what is written by hand. -/
import Derived.Test.YtajknlhbfhemlaaDoorYiC
namespace Go.Proofs.YtajknlhbfhemlaaDoor
open Go.Cx Go.Cx.AV
noncomputable def T0t : FuncId → Option Cx.Spec := addT (addT (addT (addT (addT (addT (fun _ => none) 54 S28) 63 SDg) 61 SFmt) 62 SRep) 32 SClone) 7 SOwn
theorem T0t_ok : TblOK Tryd.prog T0t := ((((((TblOK.none _).add S28_ok).add SDg_ok).add SFmt_ok).add SRep_ok).add SClone_ok).add SOwn_ok
end Go.Proofs.YtajknlhbfhemlaaDoor
