/- The plain law: the digest comes back. -/
import Derived.Test.YtacbkfginiknaaaDoorPVar
namespace Go.Proofs.YtacbkfginiknaaaDoor
open Go Go.Proofs.YtacbkfginiknaaaDoor.V
theorem g_push {n:Nat} (h:n<=4294967295):decide (n+1<=4294967296)=true:=by simp;omega
theorem len_push {α:Type} (l:List α) (a:α):(l++[a]).length=l.length+1:=by simp
theorem u64_nn (n:Int):decide (0<=IntKind.u64.wrap n)=true:=by
 have h:IntKind.u64.wrap n=n%(2^IntKind.u64.bits:Int):=rfl
 rw[h,decide_eq_true_eq]
 exact Int.emod_nonneg _ (by decide)
theorem turn_tot (x n:Int):TotT (s_l2Turn (x,n)):=by
 unfold s_l2Turn
 rw[u64_nn,u64_nn]
 exact totT_some _
theorem b9_step (go) (x:List UInt8×List Int×Int) (hx:x.1.length=64/\0<=x.2.2/\x.2.2<=16/\(x.2.1.length:Int)=x.2.2)
  (hgo:∀y:List UInt8×List Int×Int,(y.1.length=64/\0<=y.2.2/\y.2.2<=16/\(y.2.1.length:Int)=y.2.2)->(16-y.2.2).toNat<(16-x.2.2).toNat->Tot (go y) (fun z=>z.length=16)):Tot (s_l2Block_L9 go x) (fun z=>z.length=16):=by
 obtain⟨b,w,i⟩:=x
 obtain⟨h1,h2,h3,h4⟩:=hx
 simp only at h1 h2 h3 h4 hgo
 unfold s_l2Block_L9
 refine tot_bif (fun h=>?_) (fun h=>tot_some ?_)
 ·have hi:i<16:=by simpa using h
  have e0:IntKind.i64.wrap (4*i)=4*i:=w64 (by omega) (by omega)
  have e1:IntKind.i64.wrap (4*i+1)=4*i+1:=w64 (by omega) (by omega)
  have e2:IntKind.i64.wrap (4*i+2)=4*i+2:=w64 (by omega) (by omega)
  have e3:IntKind.i64.wrap (4*i+3)=4*i+3:=w64 (by omega) (by omega)
  have e4:IntKind.i64.wrap (i+1)=i+1:=w64 (by omega) (by omega)
  simp only[e0,e1,e2,e3,e4]
  refine tot_ok (by simp;omega) (tot_get (by omega) fun _ _=>tot_ok (by simp;omega) (tot_get (by omega) fun _ _=>tot_ok (by simp;omega) (tot_get (by omega) fun _ _=>tot_ok (by simp;omega) (tot_get (by omega) fun _ _=>?_))))
  exact tot_ok (g_push (by omega)) (hgo _ ⟨h1,by simp only;omega,by simp only;omega,by simp only[len_push];omega⟩ (by simp only;omega))
 ·have hi:¬i<16:=by simpa using h
  show w.length=16;omega
theorem b17_step (go) (x:List Int×Int) (hx:16<=x.2/\x.2<=64/\(x.1.length:Int)=x.2)
  (hgo:∀y:List Int×Int,(16<=y.2/\y.2<=64/\(y.1.length:Int)=y.2)->(64-y.2).toNat<(64-x.2).toNat->Tot (go y) (fun z=>z.length=64)):Tot (s_l2Block_L17 go x) (fun z=>z.length=64):=by
 obtain⟨w,i⟩:=x
 obtain⟨h1,h2,h3⟩:=hx
 simp only at h1 h2 h3 hgo
 unfold s_l2Block_L17
 refine tot_bif (fun h=>?_) (fun h=>tot_some ?_)
 ·have hi:i<64:=by simpa using h
  have e0:IntKind.i64.wrap (i-15)=i-15:=w64 (by omega) (by omega)
  have e1:IntKind.i64.wrap (i-2)=i-2:=w64 (by omega) (by omega)
  have e2:IntKind.i64.wrap (i-16)=i-16:=w64 (by omega) (by omega)
  have e3:IntKind.i64.wrap (i-7)=i-7:=w64 (by omega) (by omega)
  have e4:IntKind.i64.wrap (i+1)=i+1:=w64 (by omega) (by omega)
  have d0:decide (0<=i-15)=true:=by simp;omega
  have d1:decide (0<=i-2)=true:=by simp;omega
  have d2:decide (0<=i-16)=true:=by simp;omega
  have d3:decide (0<=i-7)=true:=by simp;omega
  simp only[e0,e1,e2,e3,e4,d0,d1,d2,d3,cond_true]
  repeat' first
   |exact tot_ok (g_push (by omega)) (hgo _ ⟨by simp only;omega,by simp only;omega,by simp only[len_push];omega⟩ (by simp only;omega))
   |refine tot_get (by omega) (fun _ _=>?_)
   |refine tot_bindT (turn_tot _ _) (fun _=>?_)
 ·have hi:¬i<64:=by simpa using h
  show w.length=64;omega
theorem turn_fun:∃t:Int->Int->Int,∀x n,s_l2Turn (x,n)=some (t x n):=
 ⟨fun x n=>(s_l2Turn (x,n)).getD 0,fun x n=>by obtain⟨y,hy⟩:=turn_tot x n;simp only[hy,Option.getD_some]⟩
theorem b31_step (go) (x:List Int×List Int×List Int×Int) (hx:x.1.length=64/\x.2.1.length=64/\x.2.2.1.length=8/\0<=x.2.2.2/\x.2.2.2<=64)
  (hgo:∀y:List Int×List Int×List Int×Int,(y.1.length=64/\y.2.1.length=64/\y.2.2.1.length=8/\0<=y.2.2.2/\y.2.2.2<=64)->(64-y.2.2.2).toNat<(64-x.2.2.2).toNat->Tot (go y) (fun z=>z.length=8)):Tot (s_l2Block_L31 go x) (fun z=>z.length=8):=by
 obtain⟨k,w,v,i⟩:=x
 obtain⟨h1,h2,h3,h4,h5⟩:=hx
 simp only at h1 h2 h3 h4 h5 hgo
 obtain⟨t,ht⟩:=turn_fun
 by_cases hi:i<64
 ·have e4:IntKind.i64.wrap (i+1)=i+1:=w64 (by omega) (by omega)
  have d0:decide (0<=i)=true:=by simp;omega
  have d1:decide (i<64)=true:=by simpa using hi
  obtain⟨kv,hk⟩:∃kv,k[i.toNat]?=some kv:=⟨_,List.getElem?_eq_getElem (by omega)⟩
  obtain⟨wv,hw⟩:∃wv,w[i.toNat]?=some wv:=⟨_,List.getElem?_eq_getElem (by omega)⟩
  match v,h3 with
  |[a,b,c,d,e,f,g,h],_=>
   simp only[s_l2Block_L31,d1,e4,d0,hk,hw,ht,cond_true,Option.bind_some,Int.reduceToNat,List.getElem?_cons_zero,List.getElem?_cons_succ]
   exact hgo _ ⟨h1,h2,by simp,by simp only;omega,by simp only;omega⟩ (by simp only;omega)
 ·have d1:decide (i<64)=false:=by simpa using hi
  simp only[s_l2Block_L31,d1,cond_false]
  exact tot_some h3
theorem b49_step (go) (x:List Int×List Int×List Int×Int) (hx:x.1.length=8/\x.2.1.length=8/\(x.2.2.1.length:Int)=x.2.2.2/\0<=x.2.2.2/\x.2.2.2<=8)
  (hgo:∀y:List Int×List Int×List Int×Int,(y.1.length=8/\y.2.1.length=8/\(y.2.2.1.length:Int)=y.2.2.2/\0<=y.2.2.2/\y.2.2.2<=8)->(8-y.2.2.2).toNat<(8-x.2.2.2).toNat->Tot (go y) (fun z=>z.length=8)):Tot (s_l2Block_L49 go x) (fun z=>z.length=8):=by
 obtain⟨k,w,v,i⟩:=x
 obtain⟨h1,h2,h3,h4,h5⟩:=hx
 simp only at h1 h2 h3 h4 h5 hgo
 unfold s_l2Block_L49
 refine tot_bif (fun h=>?_) (fun h=>tot_some ?_)
 ·have hi:i<8:=by simpa using h
  have e4:IntKind.i64.wrap (i+1)=i+1:=w64 (by omega) (by omega)
  have d0:decide (0<=i)=true:=by simp;omega
  simp only[e4,d0,cond_true]
  exact tot_get (by omega) fun _ _=>tot_get (by omega) fun _ _=>tot_ok (g_push (by omega)) (hgo _ ⟨h1,h2,by simp only[len_push];omega,by simp only;omega,by simp only;omega⟩ (by simp only;omega))
 ·have hi:¬i<8:=by simpa using h
  show v.length=8;omega
theorem block_tot (h k:List Int) (b:List UInt8) (h1:h.length=8) (h2:k.length=64) (h3:b.length=64):Tot (s_l2Block (h,k,b)) (fun z=>z.length=8):=by
 unfold s_l2Block
 refine tot_bind (iter_tot (S:=s_l2Block_L9) (fun x=>(16-x.2.2).toNat) (fun x=>x.1.length=64/\0<=x.2.2/\x.2.2<=16/\(x.2.1.length:Int)=x.2.2) (fun z=>z.length=16) b9_step FUEL _ ⟨h3,by simp,by simp,by simp⟩ (fuel_lt (by simp))) fun w hw=>?_
 refine tot_bind (iter_tot (S:=s_l2Block_L17) (fun x=>(64-x.2).toNat) (fun x=>16<=x.2/\x.2<=64/\(x.1.length:Int)=x.2) (fun z=>z.length=64) b17_step FUEL _ ⟨by simp,by simp,by simp only;omega⟩ (fuel_lt (by simp))) fun w' hw'=>?_
 refine tot_ok (by simp;omega) ?_
 refine tot_bind (iter_tot (S:=s_l2Block_L31) (fun x=>(64-x.2.2.2).toNat) (fun x=>x.1.length=64/\x.2.1.length=64/\x.2.2.1.length=8/\0<=x.2.2.2/\x.2.2.2<=64) (fun z=>z.length=8) b31_step FUEL _ ⟨h2,hw',by simpa using h1,by simp,by simp⟩ (fuel_lt (by simp))) fun v hv=>?_
 exact tot_bind (iter_tot (S:=s_l2Block_L49) (fun x=>(8-x.2.2.2).toNat) (fun x=>x.1.length=8/\x.2.1.length=8/\(x.2.2.1.length:Int)=x.2.2.2/\0<=x.2.2.2/\x.2.2.2<=8) (fun z=>z.length=8) b49_step FUEL _ ⟨h1,hv,by simp,by simp,by simp⟩ (fuel_lt (by simp))) fun z hz=>tot_some hz
theorem fixed_step (go) (x:Int×Int×List UInt8×Int) (hx:x.2.1<=7/\0<=x.2.2.2/\x.2.2.2<=7/\(x.2.2.1.length:Int)=x.2.2.2)
  (hgo:∀y:Int×Int×List UInt8×Int,(y.2.1<=7/\0<=y.2.2.2/\y.2.2.2<=7/\(y.2.2.1.length:Int)=y.2.2.2)->(7-y.2.2.2).toNat<(7-x.2.2.2).toNat->Tot (go y) (fun z=>z.2.length<=7)):Tot (s_Fixed_L13 go x) (fun z=>z.2.length<=7):=by
 obtain⟨n,w,s,i⟩:=x
 obtain⟨h1,h2,h3,h4⟩:=hx
 simp only at h1 h2 h3 h4 hgo
 unfold s_Fixed_L13
 refine tot_bif (fun h=>?_) (fun h=>tot_some ?_)
 ·have hi:i<w:=by simpa using h
  have e4:IntKind.i64.wrap (i+1)=i+1:=w64 (by omega) (by omega)
  simp only[e4]
  exact tot_ok (by simp;omega) (hgo _ ⟨h1,by simp only;omega,by simp only;omega,by simp;omega⟩ (by simp only;omega))
 ·show s.length<=7;omega
theorem fixed_tot (n w:Int):Tot (s_Fixed (n,w)) (fun z=>z.length<=7):=by
 unfold s_Fixed
 simp only[in_s,Option.bind_some]
 by_cases hw:1<=w/\w<=7
 ·refine tot_bindT (totT_bif (fun _=>totT_some _) (fun _=>totT_some _)) fun b=>?_
  refine tot_bif (fun _=>tot_some (by simp)) (fun _=>?_)
  exact tot_bind (iter_tot (S:=s_Fixed_L13) (fun x=>(7-x.2.2.2).toNat) (fun x=>x.2.1<=7/\0<=x.2.2.2/\x.2.2.2<=7/\(x.2.2.1.length:Int)=x.2.2.2) (fun z=>z.2.length<=7) fixed_step FUEL _ ⟨hw.2,by simp,by simp,by simp⟩ (fuel_lt (by simp))) fun z hz=>tot_bif (fun _=>tot_some (by simp)) (fun _=>tot_some hz)
 ·have e:(decide (1<=w)&&decide (w<=7))=false:=by
   rw[Bool.eq_false_iff];simpa using hw
  simp only[e,Bool.not_false,Bool.not_true,cond_false,Option.bind_some,cond_true]
  exact tot_some (by simp)
theorem sha11_step (go) (x:List UInt8×List Int) (hx:x.1.length<=1000/\x.2.length+(6456-(x.1.length+x.2.length))%64<=65)
  (hgo:∀y:List UInt8×List Int,(y.1.length<=1000/\y.2.length+(6456-(y.1.length+y.2.length))%64<=65)->(6456-(y.1.length+y.2.length))%64<(6456-(x.1.length+x.2.length))%64->Tot (go y) (fun z=>z.length<=65)):Tot (s_Sha_L11 go x) (fun z=>z.length<=65):=by
 obtain⟨s,p⟩:=x
 obtain⟨h1,h2⟩:=hx
 simp only at h1 h2 hgo
 unfold s_Sha_L11
 have hw:IntKind.i64.wrap ((s.length:Int)+(p.length:Int))=((s.length+p.length:Nat):Int):=by rw[w64 (by omega) (by omega)];omega
 have ht:Int.tmod ((s.length+p.length:Nat):Int) 64=(((s.length+p.length)%64:Nat):Int):=rfl
 simp only[hw,ht]
 refine tot_bif (fun h=>?_) (fun h=>tot_some (by show p.length<=65;omega))
 have hn:¬ (((s.length+p.length)%64:Nat):Int)=56:=by simpa using h
 refine tot_ok (by simp;omega) (hgo _ ⟨h1,?_⟩ ?_)
 ·simp only[len_push];omega
 ·simp only[len_push];omega
theorem sha21_step (go) (x:List UInt8×List Int×List Int×Int×Int) (hx:x.1.length<=1000/\x.2.1.length=8/\x.2.2.1.length=64/\∃p q:Nat,x.2.2.2.1=64*q/\x.2.2.2.2=64*p/\64*q<=x.1.length)
  (hgo:∀y:List UInt8×List Int×List Int×Int×Int,(y.1.length<=1000/\y.2.1.length=8/\y.2.2.1.length=64/\∃p q:Nat,y.2.2.2.1=64*q/\y.2.2.2.2=64*p/\64*q<=y.1.length)->(y.2.2.2.1-y.2.2.2.2).toNat<(x.2.2.2.1-x.2.2.2.2).toNat->Tot (go y) (fun z=>z.length=8)):Tot (s_Sha_L21 go x) (fun z=>z.length=8):=by
 obtain⟨s,h,k,a,i⟩:=x
 obtain⟨h1,h2,h3,p,q,h4,h5,h6⟩:=hx
 simp only at h1 h2 h3 h4 h5 h6 hgo
 subst h4;subst h5
 unfold s_Sha_L21
 refine tot_bif (fun hc=>?_) (fun _=>tot_some h2)
 have hi:(64:Int)*p<64*q:=by simpa using hc
 have e4:IntKind.i64.wrap (64*(p:Int)+64)=64*(p:Int)+64:=w64 (by omega) (by omega)
 simp only[e4]
 refine tot_ok (by simp;omega) (tot_bind (block_tot _ _ _ h2 h3 (by simp;omega)) fun z hz=>hgo _ ⟨h1,hz,h3,p+1,q,rfl,by simp only;omega,h6⟩ (by simp only;omega))
theorem sha31_step (go) (x:List Int×List Int×List UInt8×Int) (hx:x.1.length=8/\x.2.1.length=64/\x.2.2.1.length<=2000/\0<=x.2.2.2/\x.2.2.2<=2000)
  (hgo:∀y:List Int×List Int×List UInt8×Int,(y.1.length=8/\y.2.1.length=64/\y.2.2.1.length<=2000/\0<=y.2.2.2/\y.2.2.2<=2000)->(2000-y.2.2.2).toNat<(2000-x.2.2.2).toNat->Tot (go y) (fun z=>z.length=8)):Tot (s_Sha_L31 go x) (fun z=>z.length=8):=by
 obtain⟨h,k,s,i⟩:=x
 obtain⟨h1,h2,h3,h4,h5⟩:=hx
 simp only at h1 h2 h3 h4 h5 hgo
 unfold s_Sha_L31
 have e4:IntKind.i64.wrap (i+64)=i+64:=w64 (by omega) (by omega)
 simp only[e4]
 refine tot_bif (fun hc=>?_) (fun _=>tot_some h1)
 have hi:i+64<=(s.length:Int):=by simpa using hc
 refine tot_ok (by simp;omega) (tot_bind (block_tot _ _ _ h1 h2 (by simp;omega)) fun z hz=>hgo _ ⟨hz,h2,h3,by simp only;omega,by simp only;omega⟩ (by simp only;omega))
theorem sha41_step (go) (x:List Int×List UInt8×Int) (hx:x.1.length=8/\(x.2.1.length:Int)<=7*x.2.2/\0<=x.2.2/\x.2.2<=8)
  (hgo:∀y:List Int×List UInt8×Int,(y.1.length=8/\(y.2.1.length:Int)<=7*y.2.2/\0<=y.2.2/\y.2.2<=8)->(8-y.2.2).toNat<(8-x.2.2).toNat->Tot (go y) (fun z=>z.length<=56)):Tot (s_Sha_L41 go x) (fun z=>z.length<=56):=by
 obtain⟨h,s,i⟩:=x
 obtain⟨h1,h2,h3,h4⟩:=hx
 simp only at h1 h2 h3 h4 hgo
 unfold s_Sha_L41
 refine tot_bif (fun hc=>?_) (fun _=>tot_some (by show s.length<=56;omega))
 have hi:i<8:=by simpa using hc
 have e4:IntKind.i64.wrap (i+1)=i+1:=w64 (by omega) (by omega)
 simp only[e4]
 exact tot_ok (by simp;omega) (tot_get (by omega) fun _ _=>tot_bind (fixed_tot _ _) fun z hz=>tot_ok (by simp;omega) (hgo _ ⟨h1,by simp only[List.length_append];omega,by simp only;omega,by simp only;omega⟩ (by simp only;omega)))
theorem sha_tot (s:List UInt8) (hs:s.length<=1000):Tot (s_Sha s) (fun z=>z.length<=56):=by
 unfold s_Sha
 have hb:s_l2Begin ()=some (((((((((List.replicate 8 0).set 0 1779033703).set 1 3144134277).set 2 1013904242).set 3 2773480762).set 4 1359893119).set 5 2600822924).set 6 528734635).set 7 1541459225):=rfl
 have ht:∃k:List Int,s_l2Table ()=some k/\k.length=64:=⟨_,rfl,by simp⟩
 obtain⟨k,hk,hkl⟩:=ht
 obtain⟨h,hh,hhl⟩:∃h:List Int,s_l2Begin ()=some h/\h.length=8:=⟨_,hb,by simp⟩
 simp only[hk,hh,Option.bind_some]
 refine tot_bind (iter_tot (S:=s_Sha_L11) (fun x=>(6456-(x.1.length+x.2.length))%64) (fun x=>x.1.length<=1000/\x.2.length+(6456-(x.1.length+x.2.length))%64<=65) (fun z=>z.length<=65) sha11_step FUEL _ ⟨hs,by simp;omega⟩ (fuel_lt (by simp only;omega))) fun p hp=>?_
 refine tot_ok (by simp;omega) (tot_bind (fixed_tot _ _) fun f hf=>tot_ok (by simp;omega) ?_)
 have e1:Int.tdiv ((s.length:Nat):Int) 64=((s.length/64:Nat):Int):=rfl
 have e2:IntKind.i64.wrap ((s.length/64:Nat):Int)=((s.length/64:Nat):Int):=w64 (by omega) (by omega)
 have e3:IntKind.i64.wrap (((s.length/64:Nat):Int)*64)=((64*(s.length/64):Nat):Int):=by rw[w64 (by omega) (by omega)];omega
 simp only[e1,e2,e3]
 refine tot_bind (iter_tot (S:=s_Sha_L21) (fun x=>(x.2.2.2.1-x.2.2.2.2).toNat) (fun x=>x.1.length<=1000/\x.2.1.length=8/\x.2.2.1.length=64/\∃p q:Nat,x.2.2.2.1=64*q/\x.2.2.2.2=64*p/\64*q<=x.1.length) (fun z=>z.length=8) sha21_step FUEL _ ⟨hs,hhl,hkl,0,s.length/64,by simp only;omega,by simp,by simp only;omega⟩ (fuel_lt (by simp only;omega))) fun g hg=>?_
 refine tot_ok (by simp;omega) (tot_ok (by simp;omega) ?_)
 refine tot_bind (iter_tot (S:=s_Sha_L31) (fun x=>(2000-x.2.2.2).toNat) (fun x=>x.1.length=8/\x.2.1.length=64/\x.2.2.1.length<=2000/\0<=x.2.2.2/\x.2.2.2<=2000) (fun z=>z.length=8) sha31_step FUEL _ ⟨hg,hkl,by simp;omega,by simp,by simp⟩ (fuel_lt (by simp))) fun g' hg'=>?_
 exact tot_bind (iter_tot (S:=s_Sha_L41) (fun x=>(8-x.2.2).toNat) (fun x=>x.1.length=8/\(x.2.1.length:Int)<=7*x.2.2/\0<=x.2.2/\x.2.2<=8) (fun z=>z.length<=56) sha41_step FUEL _ ⟨hg',by simp,by simp,by simp⟩ (fuel_lt (by simp))) fun z hz=>tot_some hz
end Go.Proofs.YtacbkfginiknaaaDoor
