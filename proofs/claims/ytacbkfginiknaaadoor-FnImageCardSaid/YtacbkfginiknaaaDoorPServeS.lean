/- The plain law: serving a call: the reference's own. -/
import Derived.Test.YtacbkfginiknaaaDoorPServeC
namespace Go.Proofs.YtacbkfginiknaaaDoor
open Go Go.Proofs.YtacbkfginiknaaaDoor.V
theorem s_Serve_is (r:RegT) (cl se:Int) (o:OpT) (ix:Int):s_Serve (r,cl,se,o,ix)=some (ServeP r cl se o ix):=by
 unfold s_Serve ServeP
 simp only[s_RegOk_is,Option.bind_some]
 cases h:regB r with
 |false=>rfl
 |true=>
  have hr:=regB_iff.1 h
  simp only[Bool.not_true,cond_false,s_copy_is hr,Option.bind_some,s_serve_is hr,if_true]
end Go.Proofs.YtacbkfginiknaaaDoor
