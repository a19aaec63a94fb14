/- The plain law: numbers in a row, and answers: the program's readers are the reference's. -/
import Derived.Test.YtibidhcmenljoaaDoorPReadVar
namespace Go.Proofs.YtibidhcmenljoaaDoor
open Go Go.Proofs.YtibidhcmenljoaaDoor.V
theorem rvI_bounds {s:List UInt8}:∀f i,0<=(rvI s f i).2/\(rvI s f i).2<=(s.length:Int):=by
 intro f
 induction f with
 |zero=>intro i;simp[rvI]
 |succ f ih=>
  intro i
  rw[rvI]
  split
  ·split
   ·split
    ·simp only;omega
    ·simp
   ·exact ih _
  ·simp
theorem rv_pos (s:List UInt8):0<=(rv s).2:=(rvI_bounds 7 0).1
theorem rv_le (s:List UInt8):(rv s).2<=(s.length:Int):=(rvI_bounds 7 0).2
def numP (x:List UInt8×Bool):Int×List UInt8×Bool:=if x.2=true\/(rv x.1).2=0 then(0,x.1,true) else((rv x.1).1,x.1.drop (rv x.1).2.toNat,x.2)
theorem scan_num_is (x:List UInt8×Bool):i_scan_num x=some (numP x):=by
 obtain⟨r,b⟩:=x
 unfold i_scan_num numP
 simp only[i_ReadVar_is,Option.bind_some]
 cases b with
 |true=>simp
 |false=>
  have h1:decide ((0:Int)<=(rv r).2)=true:=by simpa using rv_pos r
  have h2:decide ((rv r).2<=(↑r.length:Int))=true:=by simpa using rv_le r
  by_cases h:(rv r).2=0
  ·simp[h]
  ·simp[h,h1,h2]
theorem varText_len (x:Int):(varText x).length<=9:=by
 unfold varText
 split
 ·have:=varPre_len 8 x.toNat (by omega)
  simp;omega
 ·simp
end Go.Proofs.YtibidhcmenljoaaDoor
