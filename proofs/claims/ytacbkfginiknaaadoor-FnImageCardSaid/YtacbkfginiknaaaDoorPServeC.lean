/- The plain law: Serve, on a registry of its own. -/
import Derived.Test.YtacbkfginiknaaaDoorPServeI
namespace Go.Proofs.YtacbkfginiknaaaDoor
open Go Go.Proofs.YtacbkfginiknaaaDoor.V
theorem s_copy_is {r:RegT} (hr:RegP r):s_l12Copy r=some r:=by
 have h6:=hr.v6
 have h3:=hr.a3
 have hs:=hr.s6
 unfold s_l12Copy
 rw[decide_eq_true (show 0+r.1.length<=4294967296 by omega),cond_true,decide_eq_true (show 0+r.2.1.length<=4294967296 by omega),cond_true,decide_eq_true (show 0+r.2.2.length<=4294967296 by omega)]
 rfl
noncomputable def ServeP (r:RegT) (cl se:Int) (o:OpT) (ix:Int):RegT×Ans×Bool:=if regB r=true then servP r cl se o ix else(([],[],[]),ans0,false)
theorem i_Serve_is (r:RegT) (cl se:Int) (o:OpT) (ix:Int):i_Serve (r,cl,se,o,ix)=some (ServeP r cl se o ix):=by
 unfold i_Serve ServeP
 simp only[i_RegOk_is,Option.bind_some]
 cases h:regB r with
 |false=>rfl
 |true=>
  have hr:=regB_iff.1 h
  simp only[Bool.not_true,cond_false,i_copy_is hr,Option.bind_some,i_serve_is hr,if_true]
end Go.Proofs.YtacbkfginiknaaaDoor
