/- The table of what is written by hand. -/
import Derived.Test.YtbgklljidmoahaaDoorYdB2
namespace Go.Proofs.YtbgklljidmoahaaDoor
open Go.Cx Go.Cx.AV
noncomputable def T0t : FuncId → Option Cx.Spec := addT (addT (addT (addT (addT (addT (fun _ => none) 28 S28) 39 S65) 31 S60) 6 SDg) 23 SFmt) 24 SRep
theorem T0t_ok : TblOK Tryd.prog T0t := ((((((TblOK.none _).add S28_ok).add S65_ok).add S60_ok).add SDg_ok).add SFmt_ok).add SRep_ok
end Go.Proofs.YtbgklljidmoahaaDoor
