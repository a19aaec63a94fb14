/- The plain law: a call that is served twice is done once. -/
import Derived.Test.YtacbkfginiknaaaDoorPDrawServe
import Derived.Test.YtacbkfginiknaaaDoorPServeS
import Derived.Test.YtacbkfginiknaaaDoorPSame
namespace Go.Proofs.YtacbkfginiknaaaDoor
open Go Go.Proofs.YtacbkfginiknaaaDoor.V
theorem same_right {r:RegT} (h:RegP r):w_sameReg (r,r)=some true:=sameReg_refl r (by have:=h.v6;omega) (by have:=h.a3;omega) (by have:=h.s6;omega)
end Go.Proofs.YtacbkfginiknaaaDoor
