/- The plain law: drawn texts come back, and stay short. -/
import Derived.Test.YtacbkfginiknaaaDoorPDraw
namespace Go.Proofs.YtacbkfginiknaaaDoor
open Go Go.Proofs.YtacbkfginiknaaaDoor.V
theorem text_step (most:Int) (hm:most<=1000) (go) (x:Cur×List Int×Int×Int) (hx:CI x.1/\0<=x.2.2.2/\(x.2.1.length:Int)+x.2.2.2<=most)
  (hgo:∀y:Cur×List Int×Int×Int,(CI y.1/\0<=y.2.2.2/\(y.2.1.length:Int)+y.2.2.2<=most)->y.2.2.2.toNat<x.2.2.2.toNat->Tot (go y) (fun z=>(z.1.length:Int)<=most/\CI z.2)):
  Tot (s_l1Text_L11 go x) (fun z=>(z.1.length:Int)<=most/\CI z.2):=by
 obtain⟨c,acc,st,n⟩:=x
 obtain⟨hc,h0,h1⟩:=hx
 simp only at h0 h1 hgo hc
 unfold s_l1Text_L11
 refine tot_bif (fun h=>tot_bind (byte_tot _ hc) fun y ⟨_,_,hy⟩=>?_) (fun h=>tot_some ⟨?_,hc⟩)
 ·have hn:0<n:=by simpa using h
  have hw:IntKind.i64.wrap (n-1)=n-1:=w64 (by omega) (by omega)
  simp only[hw]
  refine tot_bif (fun _=>tot_bif (fun _=>?_) (fun _=>?_)) (fun _=>tot_bif (fun _=>?_) (fun _=>?_))<;>
   exact tot_ok (by simp;omega) (hgo _ ⟨hy,by simp only;omega,by simp;omega⟩ (by simp only;omega))
 ·have hn:¬0<n:=by simpa using h
  simp only;omega
theorem text_tot (c:Cur) (most:Int) (h0:0<=most) (hm:most<=1000) (hc:CI c):Tot (s_l1Text (c,most)) (fun y=>(y.1.length:Int)<=most/\CI y.2):=by
 unfold s_l1Text
 have hw:IntKind.i64.wrap (most+1)=most+1:=w64 (by omega) (by omega)
 simp only[hw]
 refine tot_bind (below_tot c _ hc) fun s ⟨_,_,_,hs⟩=>tot_bind (below_tot _ _ hs) fun n ⟨n0,n1,_,hn⟩=>?_
 refine tot_bind (iter_tot (S:=s_l1Text_L11) (fun x=>x.2.2.2.toNat) (fun x=>CI x.1/\0<=x.2.2.2/\(x.2.1.length:Int)+x.2.2.2<=most) (fun z=>(z.1.length:Int)<=most/\CI z.2) (text_step most hm) FUEL _ ⟨hn,n0,?_⟩ (fuel_lt ?_)) fun z ⟨z1,z2⟩=>tot_some ⟨?_,z2⟩
 ·have:=n1 (by omega)
  simp;omega
 ·have:=n1 (by omega)
  simp only;omega
 ·simpa using z1
theorem spoil_tot (c:Cur) (s:List UInt8) (hl:s.length<=1000) (hc:CI c):Tot (s_l1Spoil (c,s)) (fun y=>y.1.length<=s.length+3/\CI y.2):=by
 unfold s_l1Spoil
 refine tot_bif (fun _=>tot_bind (text_tot c 3 (by omega) (by omega) hc) fun y ⟨h1,h2⟩=>tot_some ⟨by simp only;omega,h2⟩) (fun h=>?_)
 have hs:¬ ((s.length:Int)=0):=by simpa using h
 refine tot_bind (below_tot c _ hc) fun k ⟨k0,k1,_,hk⟩=>tot_bind (below_tot _ _ hk) fun d ⟨_,_,_,hd⟩=>?_
 have k2:=k1 (by simp only;omega)
 simp only at k2
 have hw:IntKind.i64.wrap (k.1+1)=k.1+1:=w64 (by omega) (by omega)
 have g1:decide (k.1<=(↑(List.length s):Int))=true:=by simp;omega
 have g2:decide (k.1+1<=(↑(List.length s):Int))=true:=by simp;omega
 have g3:decide (0<=k.1)=true:=by simpa using k0
 have g4:decide (0<=k.1+1)=true:=by simp;omega
 simp only[hw,g1,g2,g3,g4,Bool.and_self,cond_true]
 refine tot_bif (fun _=>?_) (fun _=>tot_bif (fun _=>?_) (fun _=>tot_bif (fun _=>?_) (fun _=>?_)))
 ·exact tot_ok (by simp;omega) (tot_some ⟨by simp;omega,hd⟩)
 ·exact tot_bind (byte_tot _ hd) fun y ⟨_,_,hy⟩=>tot_ok (by simp;omega) (tot_ok (by simp;omega) (tot_some ⟨by simp;omega,hy⟩))
 ·exact tot_some ⟨by simp;omega,hd⟩
 ·exact tot_get (by omega) fun x _=>tot_bind (below_tot _ _ hd) fun y ⟨_,_,_,hy⟩=>tot_ok (by simp;omega) (tot_ok (by simp;omega) (tot_some ⟨by simp;omega,hy⟩))
end Go.Proofs.YtacbkfginiknaaaDoor
