/- The plain law: drawn calls and registries come back. -/
import Derived.Test.YtacbkfginiknaaaDoorPSDo
import Derived.Test.YtacbkfginiknaaaDoorPText
namespace Go.Proofs.YtacbkfginiknaaaDoor
open Go Go.Proofs.YtacbkfginiknaaaDoor.V
theorem vocabOk_tot (v:List (Int×Int)×PUnit):TotT (s_VocabOk v):=by rw[s_VocabOk_is];exact totT_some _
theorem canon_tot (v:List (Int×Int)×PUnit) (_:v.1.length<=3):Tot (s_Canon v) (fun z=>z.length<=244):=by
 rw[s_Canon_is]
 refine tot_some ?_
 unfold canon
 split
 ·rename_i h;exact(canonOf_len h).2
 ·simp
theorem d18_tot (c:Cur) (n:Int) (b:Bool) (hc:CI c):Tot (s_l7Draw_L18 (c,n,b)) (fun z=>CI z.2):=by
 unfold s_l7Draw_L18
 exact tot_bif (fun _=>tot_bind (pick_tot _ _ (by simp) hc) fun z ⟨_,hc⟩=>tot_some hc) (fun _=>tot_some hc)
theorem d9_step (m:Int) (hm:m<=59) (go) (x:Cur×(List (Int×Int)×PUnit)×Int) (hx:CI x.1/\0<=x.2.2/\(x.2.1.1.length:Int)+x.2.2<=m)
  (hgo:∀y:Cur×(List (Int×Int)×PUnit)×Int,(CI y.1/\0<=y.2.2/\(y.2.1.1.length:Int)+y.2.2<=m)->y.2.2.toNat<x.2.2.toNat->Tot (go y) (fun z=>CI z.1/\(z.2.1.length:Int)<=m)):Tot (s_l7Draw_L9 go x) (fun z=>CI z.1/\(z.2.1.length:Int)<=m):=by
 obtain⟨c,⟨v,u⟩,n⟩:=x
 obtain⟨hc,h2,h3⟩:=hx
 simp only at hc h2 h3 hgo
 unfold s_l7Draw_L9
 refine tot_bif (fun h=>?_) (fun _=>tot_some ⟨hc,by show(v.length:Int)<=m;omega⟩)
 have hn:0<n:=by simpa using h
 have e:IntKind.i64.wrap (n-1)=n-1:=w64 (by omega) (by omega)
 simp only[e]
 repeat' first
  |exact hgo _ ⟨hc,by simp only;omega,by simp;omega⟩ (by simp only;omega)
  |refine tot_bind (below_tot _ _ hc) (fun _ ⟨_,_,_,hc⟩=>?_)
  |refine tot_bind (once_tot _ _ hc) (fun _ hc=>?_)
  |refine tot_bind (d18_tot _ _ _ hc) (fun _ hc=>?_)
  |refine tot_bindT (vocabOk_tot _) (fun _=>?_)
  |refine tot_ok (by simp;omega) ?_
  |refine tot_bif (fun _=>?_) (fun _=>?_)
theorem draw7_totM (c:Cur) (m:Int) (h0:0<=m) (hm:m<=59) (hc:CI c):Tot (s_l7Draw (c,m)) (fun z=>(z.1.1.length:Int)<=m/\CI z.2):=by
 unfold s_l7Draw
 have e:IntKind.i64.wrap (m+1)=m+1:=w64 (by omega) (by omega)
 simp only[e]
 refine tot_bind (below_tot _ _ hc) fun n ⟨n0,n1,_,hc⟩=>tot_bind (iter_tot (S:=s_l7Draw_L9) (fun x=>x.2.2.toNat) (fun x=>CI x.1/\0<=x.2.2/\(x.2.1.1.length:Int)+x.2.2<=m) (fun z=>CI z.1/\(z.2.1.length:Int)<=m) (d9_step m hm) FUEL _ ⟨hc,n0,?_⟩ (fuel_lt ?_)) fun z ⟨z1,z2⟩=>tot_some ⟨z2,z1⟩
 ·have:=n1 (by omega);simp;omega
 ·have:=n1 (by omega);simp only;omega
theorem draw7_tot (c:Cur) (hc:CI c):Tot (s_l7Draw (c,3)) (fun z=>z.1.1.length<=3/\CI z.2):=(draw7_totM c 3 (by omega) (by omega) hc).mono fun _ ⟨h1,h2⟩=>⟨by omega,h2⟩
theorem l43_step (n0:Int) (hn:n0<=1000) (go) (x:Int×List Int) (hx:x.1=n0/\(x.2.length:Int)<=1000)
  (hgo:∀y:Int×List Int,(y.1=n0/\(y.2.length:Int)<=1000)->(1000-y.2.length)<(1000-x.2.length)->Tot (go y) (fun z=>z.length<=1000)):Tot (s_l12Op_L43 go x) (fun z=>z.length<=1000):=by
 obtain⟨n,l⟩:=x
 obtain⟨h1,h2⟩:=hx
 simp only at h1 h2 hgo
 subst h1
 unfold s_l12Op_L43
 refine tot_bif (fun h=>?_) (fun _=>tot_some (by show l.length<=1000;omega))
 have hi:(l.length:Int)<n:=by simpa using h
 exact tot_ok (by simp;omega) (hgo _ ⟨rfl,by simp only[len_push];omega⟩ (by simp only[len_push];omega))
theorem l43_tot (n:Int) (hn:n<=1000):Tot (iter s_l12Op_L43 FUEL (n,List.replicate 0 0)) (fun z=>z.length<=1000):=
 iter_tot (S:=s_l12Op_L43) (fun x=>1000-x.2.length) (fun x=>x.1=n/\(x.2.length:Int)<=1000) (fun z=>z.length<=1000) (l43_step n hn) FUEL _ ⟨rfl,by simp⟩ (fuel_lt (by simp))
theorem new9_step (go) (x:List Int×Int×Int) (hx:0<=x.2.2/\x.2.2<=4000)
  (hgo:∀y:List Int×Int×Int,(0<=y.2.2/\y.2.2<=4000)->(4000-y.2.2).toNat<(4000-x.2.2).toNat->Tot (go y) (fun _=>True)):Tot (s_l1New_L9 go x) (fun _=>True):=by
 obtain⟨b,h,i⟩:=x
 obtain⟨h1,h2⟩:=hx
 simp only at h1 h2 hgo
 unfold s_l1New_L9
 have e:(bif decide (i<(↑(List.length b):Int)) then some (decide (i<4000)) else some false)=some (decide (i<(↑(List.length b):Int))&&decide (i<4000)):=by
  cases decide (i<(↑(List.length b):Int))<;>rfl
 simp only[e,Option.bind_some]
 refine tot_bif (fun h=>?_) (fun _=>tot_some trivial)
 simp only[Bool.and_eq_true,decide_eq_true_eq] at h
 have hw:IntKind.i64.wrap (i+1)=i+1:=w64 (by omega) (by omega)
 simp only[hw]
 exact tot_ok (by simpa using h1) (tot_get (by omega) fun _ _=>hgo _ ⟨by simp only;omega,by simp only;omega⟩ (by simp only;omega))
theorem new_tot (b:List Int) (hb:b.length<=1048576):Tot (s_l1New b) CI:=by
 unfold s_l1New
 exact tot_bind (iter_tot (S:=s_l1New_L9) (fun x=>(4000-x.2.2).toNat) (fun x=>0<=x.2.2/\x.2.2<=4000) (fun _=>True) new9_step FUEL _ ⟨by simp,by simp⟩ (fuel_lt (by simp))) fun z _=>tot_some ⟨by simp,by simp,hb⟩
theorem below_pos (c:Cur) (n:Int) (hn:0<n) (hc:CI c):Tot (s_l1Below (c,n)) (fun y=>0<=y.1/\y.1<n/\CI y.2):=
 (below_tot c n hc).mono fun _ ⟨h0,h1,_,h3⟩=>⟨h0,h1 hn,h3⟩
theorem l22_tot (c:Cur) (o1 o2 o3 k:Int) (b:Bool) (hc:CI c):Tot (s_l12Op_L22 (c,(o1,o2,o3,[]),k,b)) (fun z=>z.2.2.2.2.length<=1000/\CI z.1):=by
 unfold s_l12Op_L22
 repeat' first
  |exact tot_some ⟨by simp,by assumption⟩
  |refine tot_bind (below_tot _ _ (by assumption)) (fun _ ⟨_,_,_,_⟩=>?_)
  |refine tot_bind (once_tot _ _ (by assumption)) (fun _ _=>?_)
  |refine tot_bif (fun _=>?_) (fun _=>?_)
theorem l43_is (n:Int) (hn:n<2) (h0:0<=n):Tot (iter s_l12Op_L43 FUEL (IntKind.i64.wrap (250+n),List.replicate 0 0)) (fun z=>z.length<=1000):=
 l43_tot _ (by rw[w64 (by omega) (by omega)];omega)
theorem op_tot (c:Cur) (hc:CI c):Tot (s_l12Op c) (fun z=>z.1.2.2.2.length<=1000/\CI z.2):=by
 unfold s_l12Op
 repeat' first
  |exact tot_some ⟨by first|assumption|omega|(simp only[List.length_map];omega),by assumption⟩
  |refine tot_bind (below_pos _ _ (by omega) (by assumption)) (fun _ ⟨_,_,_⟩=>?_)
  |refine tot_bind (once_tot _ _ (by assumption)) (fun _ _=>?_)
  |refine tot_bind (pick_tot _ _ (by simp) (by assumption)) (fun _ ⟨_,_⟩=>?_)
  |refine tot_bind (draw7_tot _ (by assumption)) (fun _ ⟨_,_⟩=>?_)
  |refine tot_bind (canon_tot _ (by assumption)) (fun _ _=>?_)
  |refine tot_bind (spoil_tot _ _ (by omega) (by assumption)) (fun _ ⟨_,_⟩=>?_)
  |refine tot_bind (l22_tot _ _ _ _ _ _ (by assumption)) (fun _ ⟨_,_⟩=>?_)
  |refine tot_bind (l43_is _ (by omega) (by omega)) (fun _ _=>?_)
  |refine tot_bif (fun _=>?_) (fun _=>?_)
end Go.Proofs.YtacbkfginiknaaaDoor
