/- The plain law: numbers in a row, and answers: the program's readers are the reference's. -/
import Derived.Test.YtacbkfginiknaaaDoorPReadVar
namespace Go.Proofs.YtacbkfginiknaaaDoor
open Go Go.Proofs.YtacbkfginiknaaaDoor.V
theorem rvI_bounds {s:List UInt8}:∀f i,0<=(rvI s f i).2/\(rvI s f i).2<=(s.length:Int):=by
 intro f
 induction f with
 |zero=>intro i;simp[rvI]
 |succ f ih=>
  intro i
  rw[rvI]
  split
  ·split
   ·split
    ·simp only;omega
    ·simp
   ·exact ih _
  ·simp
theorem rv_pos (s:List UInt8):0<=(rv s).2:=(rvI_bounds 7 0).1
theorem rv_le (s:List UInt8):(rv s).2<=(s.length:Int):=(rvI_bounds 7 0).2
def numP (x:List UInt8×Bool):Int×List UInt8×Bool:=if x.2=true\/(rv x.1).2=0 then(0,x.1,true) else((rv x.1).1,x.1.drop (rv x.1).2.toNat,x.2)
theorem scan_num_is (x:List UInt8×Bool):i_scan_num x=some (numP x):=by
 obtain⟨r,b⟩:=x
 unfold i_scan_num numP
 simp only[i_ReadVar_is,Option.bind_some]
 cases b with
 |true=>simp
 |false=>
  have h1:decide ((0:Int)<=(rv r).2)=true:=by simpa using rv_pos r
  have h2:decide ((rv r).2<=(↑r.length:Int))=true:=by simpa using rv_le r
  by_cases h:(rv r).2=0
  ·simp[h]
  ·simp[h,h1,h2]
theorem varText_len (x:Int):(varText x).length<=9:=by
 unfold varText
 split
 ·have:=varPre_len 8 x.toNat (by omega)
  simp;omega
 ·simp
theorem answerOk_same (x):s_AnswerOk x=i_AnswerOk x:=by
 simp only[s_AnswerOk,i_AnswerOk,in_s,in_i]
theorem answerOk_is (x):∃b,i_AnswerOk x=some b/\(b=true->x.2.2.2.1.length<=32):=by
 obtain⟨a,b,c,h,d,e⟩:=x
 simp only[i_AnswerOk,in_i,Option.bind_some]
 generalize (decide (0<=a)&&decide (a<=5))=p1
 generalize (decide (0<=b)&&decide (b<=6))=p2
 generalize (decide (0<=c)&&decide (c<=4))=p3
 generalize (decide (0<=d)&&decide (d<=250))=p4
 generalize (decide (0<=e)&&decide (e<=100000))=p5
 by_cases h0:(h.length:Int)=0
 ·have h0':decide ((h.length:Int)=0)=true:=by simpa using h0
  simp only[h0']
  cases p1<;>cases p2<;>cases p3<;>cases p4<;>cases p5<;>simp<;>omega
 ·by_cases h1:(h.length:Int)=32
  ·have h0':decide ((h.length:Int)=0)=false:=by simpa using h0
   have h1':decide ((h.length:Int)=32)=true:=by simpa using h1
   simp only[h0',h1']
   cases p1<;>cases p2<;>cases p3<;>cases p4<;>cases p5<;>simp<;>omega
  ·have h0':decide ((h.length:Int)=0)=false:=by simpa using h0
   have h1':decide ((h.length:Int)=32)=false:=by simpa using h1
   simp only[h0',h1']
   cases p1<;>cases p2<;>cases p3<;>cases p4<;>cases p5<;>simp
end Go.Proofs.YtacbkfginiknaaaDoor
