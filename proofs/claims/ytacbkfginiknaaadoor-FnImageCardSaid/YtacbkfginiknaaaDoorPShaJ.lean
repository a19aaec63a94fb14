/- The plain law: the program's digest is the reference's (second part). -/
import Derived.Test.YtacbkfginiknaaaDoorPShaI
namespace Go.Proofs.YtacbkfginiknaaaDoor
open Go Go.Proofs.YtacbkfginiknaaaDoor.V
def L49R (h:List Int) (x:List Int×List Int×Int) (y:List Int×List Int×List Int×Int):Prop:=
 y.1=h/\h.length=8/\x.1=y.2.2.1++h.drop y.2.2.1.length/\x.2.1=y.2.1/\x.2.2=(y.2.2.1.length:Int)/\y.2.2.2=(y.2.2.1.length:Int)/\y.2.2.1.length<=8
theorem l49_lock (h:List Int) (go1 go2) (x y) (hr:L49R h x y) (hgo:∀x' y',L49R h x' y'->go1 x'=(go2 y').map id):i_shaBlock_L57 go1 x=(s_l2Block_L49 go2 y).map id:=by
 obtain⟨s,v,i⟩:=x
 obtain⟨h',v2,o,i2⟩:=y
 obtain⟨h1,h2,h3,h4,h5,h6,h7⟩:=hr
 simp only at h1 h2 h3 h4 h5 h6 h7
 subst h1 h3 h4 h5 h6
 unfold i_shaBlock_L57 s_l2Block_L49
 simp only
 by_cases hi:o.length<8
 ·have d:decide ((o.length:Int)<8)=true:=by simp;omega
  have g:(o++h'.drop o.length)[o.length]?=h'[o.length]?:=by
   rw[List.getElem?_append_right (Nat.le_refl _),Nat.sub_self,List.getElem?_drop];rfl
  simp only[d,nnN,cond_true,Bool.and_self,Int.toNat_natCast,g]
  rw[List.getElem?_eq_getElem (show o.length<h'.length by omega)]
  simp only[Option.bind_some]
  cases v[o.length]? with
  |none=>rfl
  |some a=>
   simp only[Option.bind_some]
   rw[decide_eq_true (show o.length+1<=4294967296 by omega),cond_true,wSucc (by omega)]
   refine hgo _ _ ⟨rfl,h2,?_,rfl,by simp,by simp,by simp;omega⟩
   simp only[List.length_append,List.length_singleton]
   rw[List.set_append_right _ _ (Nat.le_refl _),Nat.sub_self,drop_at (show o.length<h'.length by omega),List.set_cons_zero,List.append_assoc]
   rfl
 ·have d:decide ((o.length:Int)<8)=false:=by simp;omega
  simp only[d,cond_false,Option.map_some,id]
  rw[List.drop_eq_nil_of_le (by omega),List.append_nil]
theorem block_is {h:List Int} {b:Bs} (hh:h.length=8) (hb:b.length=64):i_shaBlock (h,b)=s_l2Block (h,gv0,b):=by
 unfold i_shaBlock s_l2Block
 simp only
 have e1:=iter_lock L9R pad0 l9_lock FUEL (b,List.replicate 64 0,0) (b,List.replicate 0 0,0) ⟨rfl,hb,rfl,rfl,rfl,by simp⟩
 rw[e1]
 obtain⟨w,hw,hwl⟩:=iter_tot (S:=s_l2Block_L9) (fun x=>(16-x.2.2).toNat) (fun x=>x.1.length=64/\0<=x.2.2/\x.2.2<=16/\(x.2.1.length:Int)=x.2.2) (fun z=>z.length=16) b9_step FUEL (b,List.replicate 0 0,0) ⟨hb,by simp,by simp,by simp⟩ (fuel_lt (by simp))
 rw[hw]
 simp only[Option.map_some,Option.bind_some]
 have e2:=iter_lock L17R pad0 l17_lock FUEL (pad0 w,16) (w,16) ⟨rfl,by simp only;omega,by simp only;omega,by simp only;omega,by simp only;omega⟩
 rw[e2]
 obtain⟨w2,hw2,hwl2⟩:=iter_tot (S:=s_l2Block_L17) (fun x=>(64-x.2).toNat) (fun x=>16<=x.2/\x.2<=64/\(x.1.length:Int)=x.2) (fun z=>z.length=64) b17_step FUEL (w,16) ⟨by simp,by simp,by simp only;omega⟩ (fuel_lt (by simp))
 rw[hw2]
 simp only[Option.map_some,Option.bind_some]
 have hp:pad0 w2=w2:=by unfold pad0;rw[hwl2];simp
 rw[hp,decide_eq_true (show 0+h.length<=4294967296 by omega),cond_true]
 have e3:=iter_lock L31R id l31_lock FUEL (w2,h,0) (gv0,w2,h,0) ⟨rfl,rfl,hh,rfl,rfl⟩
 rw[e3]
 obtain⟨v,hv,hvl⟩:=iter_tot (S:=s_l2Block_L31) (fun x=>(64-x.2.2.2).toNat) (fun x=>x.1.length=64/\x.2.1.length=64/\x.2.2.1.length=8/\0<=x.2.2.2/\x.2.2.2<=64) (fun z=>z.length=8) b31_step FUEL (gv0,w2,h,0) ⟨by rfl,hwl2,hh,by simp,by simp⟩ (fuel_lt (by simp))
 rw[hv]
 simp only[Option.map_some,Option.bind_some,id]
 have e4:=iter_lock (L49R h) id (l49_lock h) FUEL (h,v,0) (h,v,List.replicate 0 0,0) ⟨rfl,hh,rfl,rfl,rfl,rfl,by simp⟩
 rw[e4]
 simp
def fixN:Nat->Nat->List Nat
 |0,_=>[]
 |k+1,n=>fixN k (n/256)++[n%256]
theorem fixN_len:∀k n,(fixN k n).length=k:=by
 intro k
 induction k with
 |zero=>intro n;rfl
 |succ k ih=>intro n;simp[fixN,ih]
def FxI (x:Int×List Int×Int):Prop:=∃ (n k:Nat) (t:List Int),x.1=(n:Int)/\n<9223372036854775808/\x.2.1=List.replicate k 0++t/\x.2.2=(k:Int)-1/\k<=7
def fxG (x:Int×List Int×Int):Option (List Int):=some ((fixN (x.2.2+1).toNat x.1.toNat).map (fun(n:Nat)=>(n:Int))++x.2.1.drop (x.2.2+1).toNat)
theorem and255n (n:Nat) (h:n<9223372036854775808):(BitVec.ofInt IntKind.i64.bits (n:Int)&&&BitVec.ofInt IntKind.i64.bits 255).toNat=n%256:=by
 show(BitVec.ofInt 64 (n:Int)&&&BitVec.ofInt 64 255).toNat=n%256
 rw[BitVec.toNat_and,BitVec.toNat_ofInt,show(BitVec.ofInt 64 255).toNat=2^8-1 from rfl,Nat.and_two_pow_sub_one_eq_mod]
 omega
theorem fdiv8 (n:Nat):(n:Int).fdiv (2^min (Int.toNat 8) IntKind.i64.bits)=((n/256:Nat):Int):=by
 rw[show((2:Int)^min (Int.toNat 8) IntKind.i64.bits)=((256:Nat):Int) from rfl]
 rw[Int.fdiv_eq_ediv_of_nonneg _ (by omega)]
 rfl
theorem fx_step (go) (x:Int×List Int×Int) (hx:FxI x) (hgo:∀y,FxI y->(y.2.2+1).toNat<(x.2.2+1).toNat->go y=fxG y):i_Fixed_L13 go x=fxG x:=by
 obtain⟨m,l,i⟩:=x
 obtain⟨n,k,t,h1,h2,h3,h4,h5⟩:=hx
 simp only at h1 h3 h4 hgo
 subst h1 h3 h4
 unfold i_Fixed_L13
 cases k with
 |zero=>simp[fxG,fixN]
 |succ k=>
  have hi:(((k+1:Nat):Int)-1)=(k:Int):=by omega
  have hr:(List.replicate (k+1) (0:Int)++t)[k]?=some 0:=by
   rw[List.getElem?_append_left (by simp),List.getElem?_replicate,if_pos (by omega)]
  have e1:IntKind.i64.wrap ((n%256:Nat):Int)=((n%256:Nat):Int):=w64 (by omega) (by omega)
  have e2:IntKind.u8.wrap ((n%256:Nat):Int)=((n%256:Nat):Int):=w8 (by omega) (by omega)
  have e3:IntKind.i64.wrap ((k:Int)-1)=(k:Int)-1:=w64 (by omega) (by omega)
  simp only[hi,nnN,cond_true,Int.toNat_natCast,hr,Option.bind_some,and255n n h2,e1,e2,e3,fdiv8]
  have hs:(List.replicate (k+1) (0:Int)++t).set k ((n%256:Nat):Int)=List.replicate k 0++(((n%256:Nat):Int)::t):=by
   rw[List.replicate_succ',List.append_assoc,List.set_append_right _ _ (by simp)]
   simp
  rw[hs,hgo (((n/256:Nat):Int),List.replicate k 0++(((n%256:Nat):Int)::t),(k:Int)-1) ⟨n/256,k,_,rfl,by omega,rfl,rfl,by omega⟩ (by simp only;omega)]
  simp only[fxG,show((k:Int)-1+1).toNat=k by omega,show((k:Int)+1).toNat=k+1 by omega,Int.toNat_natCast,fixN]
  rw[List.drop_left' (by simp),List.drop_left' (by simp)]
  simp
def FsI (x:Int×Int×List UInt8×Int):Prop:=∃ (n w i:Nat),x.1=(n:Int)/\n<9223372036854775808/\x.2.1=(w:Int)/\x.2.2.2=(i:Int)/\i<=w/\w<=7/\x.2.2.1.length=i
def fsG (x:Int×Int×List UInt8×Int):Option (Int×List UInt8):=some (((x.1.toNat/256^(x.2.1-x.2.2.2).toNat:Nat):Int),(fixN (x.2.1-x.2.2.2).toNat x.1.toNat).map (fun n=>UInt8.ofNat n)++x.2.2.1)
theorem fs_step (go) (x:Int×Int×List UInt8×Int) (hx:FsI x) (hgo:∀y,FsI y->(y.2.1-y.2.2.2).toNat<(x.2.1-x.2.2.2).toNat->go y=fsG y):s_Fixed_L13 go x=fsG x:=by
 obtain⟨m,wi,t,ii⟩:=x
 obtain⟨n,w,i,h1,h2,h3,h4,h5,h6,h7⟩:=hx
 simp only at h1 h3 h4 h7 hgo
 subst h1 h3 h4
 unfold s_Fixed_L13
 simp only[decN]
 by_cases hi:i<w
 ·have e1:Int.tmod (n:Int) 256=((n%256:Nat):Int):=rfl
  have e2:Int.tdiv (n:Int) 256=((n/256:Nat):Int):=rfl
  have e3:IntKind.u8.wrap ((n%256:Nat):Int)=((n%256:Nat):Int):=w8 (by omega) (by omega)
  have e4:IntKind.i64.wrap ((n/256:Nat):Int)=((n/256:Nat):Int):=w64 (by omega) (by omega)
  rw[decide_eq_true hi,cond_true]
  simp only[e1,e2,e3,e4]
  rw[decide_eq_true (by simp;omega),cond_true,wSucc (by omega),hgo (((n/256:Nat):Int),(w:Int),_,((i+1:Nat):Int)) ⟨n/256,w,i+1,rfl,by omega,rfl,rfl,hi,h6,by simp;omega⟩ (by simp only;omega)]
  simp only[fsG]
  obtain⟨d,hd⟩:∃d,w-i=d+1:=⟨w-i-1,by omega⟩
  rw[show((w:Int)-((i+1:Nat):Int)).toNat=d by omega,show((w:Int)-(i:Int)).toNat=d+1 by omega]
  simp only[Int.toNat_natCast,fixN,Nat.div_div_eq_div_mul,Nat.pow_succ,Nat.mul_comm]
  have em:((n:Int)%256).toNat=n%256:=by omega
  simp[em]
 ·rw[decide_eq_false hi,cond_false]
  simp only[fsG,show((w:Int)-(i:Int)).toNat=0 by omega,fixN]
  simp
theorem fixed_is (n:Int) {w:Int} (hw:w=4\/w=7) (hn:n<=9223372036854775807):i_Fixed (n,w)=s_Fixed (n,w):=by
 unfold i_Fixed s_Fixed
 have hin:(decide (1<=w)&&decide (w<=7))=true:=by rcases hw with rfl|rfl<;>rfl
 simp only[in_i,in_s,hin,Option.bind_some,Bool.not_true,Bool.not_false,cond_true]
 by_cases h0:n<0
 ·simp[h0]
 ·obtain⟨m,rfl⟩:∃m:Nat,n=(m:Int):=⟨n.toNat,by omega⟩
  rw[decide_eq_false h0]
  simp only[Bool.not_false,cond_true,cond_false]
  obtain⟨k,rfl,hk⟩:∃k:Nat,w=(k:Int)/\(k=4\/k=7):=by
   rcases hw with rfl|rfl
   ·exact⟨4,rfl,.inl rfl⟩
   ·exact⟨7,rfl,.inr rfl⟩
  have c1:decide (0<=IntKind.i64.wrap (8*(k:Int)))=true:=by rcases hk with rfl|rfl<;>decide
  have c2:IntKind.i64.wrap (1*2^min (IntKind.i64.wrap (8*(k:Int))).toNat IntKind.i64.bits)=((256^k:Nat):Int):=by rcases hk with rfl|rfl<;>decide
  have c3:IntKind.i64.wrap ((k:Int)-1)=(k:Int)-1:=by rcases hk with rfl|rfl<;>decide
  have c4:(decide (0<=(k:Int))&&decide ((k:Int)<=(k:Int))&&decide ((k:Int)<=(4294967296:Nat)))=true:=by rcases hk with rfl|rfl<;>decide
  have hk7:k<=7:=by omega
  rw[c1,cond_true,c2,c3]
  have es:=iter_is (S:=s_Fixed_L13) (g:=fsG) (fun x=>(x.2.1-x.2.2.2).toNat) FsI fs_step FUEL ((m:Int),(k:Int),[],0) ⟨m,k,0,rfl,by omega,rfl,rfl,by omega,hk7,rfl⟩ (fuel_lt (by simp only;omega))
  have ei:=iter_is (S:=i_Fixed_L13) (g:=fxG) (fun x=>(x.2.2+1).toNat) FxI fx_step FUEL ((m:Int),List.replicate (Int.toNat (k:Int)) 0,(k:Int)-1) ⟨m,k,[],rfl,by omega,by simp,rfl,hk7⟩ (fuel_lt (by simp only;omega))
  rw[es,ei]
  simp only[fsG,fxG,Option.bind_some,Int.toNat_natCast,show((k:Int)-0).toNat=k by omega,show((k:Int)-1+1).toNat=k by omega]
  by_cases hb:256^k<=m
  ·have d1:decide (((256^k:Nat):Int)<=(m:Int))=true:=by rw[decide_eq_true_eq];exact Int.ofNat_le.2 hb
   have d2:decide ((0:Int)<((m/256^k:Nat):Int))=true:=by
    rw[decide_eq_true_eq]
    have:=Nat.div_pos hb (Nat.pow_pos (by omega))
    omega
   rw[d1,d2];rfl
  ·have d1:decide (((256^k:Nat):Int)<=(m:Int))=false:=by rw[decide_eq_false_iff_not];exact fun h=>hb (Int.ofNat_le.1 h)
   have d2:decide ((0:Int)<((m/256^k:Nat):Int))=false:=by
    rw[Nat.div_eq_of_lt (by omega)];rfl
   rw[d1,d2]
   simp only[Option.bind_some,cond_false]
   rw[show(decide (0<=(k:Int))&&decide ((k:Int)<=(k:Int))&&decide ((k:Int)<=(↑4294967296:Int)))=true from c4,cond_true]
   rw[List.drop_eq_nil_of_le (by simp)]
   simp[Function.comp_def]
noncomputable def foldB:Nat->List Int->Bs->Option (List Int)
 |0,h,_=>some h
 |n+1,h,l=>(s_l2Block (h,gv0,l.take 64)).bind fun h'=>foldB n h' (l.drop 64)
theorem foldB_add:∀ (a b:Nat) (h:List Int) (x y:Bs),x.length=64*a->foldB (a+b) h (x++y)=(foldB a h x).bind fun h'=>foldB b h' y:=by
 intro a
 induction a with
 |zero=>
  intro b h x y hx
  have:x=[]:=List.length_eq_zero_iff.1 (by omega)
  subst this
  simp[foldB]
 |succ a ih=>
  intro b h x y hx
  rw[show a+1+b=(a+b)+1 by omega,foldB,foldB,List.take_append_of_le_length (by omega),List.drop_append_of_le_length (by omega),Option.bind_assoc]
  congr 1
  funext h'
  exact ih b h' _ y (by simp;omega)
theorem gv0_len:gv0.length=64:=rfl
theorem block_some {h:List Int} {b:Bs} (hh:h.length=8) (hb:b.length=64):∃z,s_l2Block (h,gv0,b)=some z/\z.length=8:=block_tot h gv0 b hh gv0_len hb
theorem foldB_some:∀ (n:Nat) (h:List Int) (l:Bs),h.length=8->64*n<=l.length->∃z,foldB n h l=some z/\z.length=8:=by
 intro n
 induction n with
 |zero=>intro h l hh _;exact⟨h,rfl,hh⟩
 |succ n ih=>
  intro h l hh hl
  obtain⟨z,hz,hzl⟩:=block_some hh (show(l.take 64).length=64 by simp;omega)
  rw[foldB,hz]
  exact ih z _ hzl (by simp;omega)
theorem sub64 {l:Bs} {q:Nat}:List.drop (64*q) (List.take (64*q+64) l)=(l.drop (64*q)).take 64:=by
 rw[List.drop_take];congr 1;omega
def I15 (x:Bs×List Int×Int):Prop:=∃q n:Nat,x.2.2=((64*q:Nat):Int)/\x.1.length=64*n/\q<=n/\n<=1000/\x.2.1.length=8
noncomputable def g15 (x:Bs×List Int×Int):Option (List Int):=foldB (x.1.length/64-x.2.2.toNat/64) x.2.1 (x.1.drop x.2.2.toNat)
theorem i15_step (go) (x:Bs×List Int×Int) (hx:I15 x) (hgo:∀y,I15 y->((y.1.length:Int)-y.2.2).toNat<((x.1.length:Int)-x.2.2).toNat->go y=g15 y):i_Sha_L15 go x=g15 x:=by
 obtain⟨s,h,i⟩:=x
 obtain⟨q,n,h1,h2,h3,h4,h5⟩:=hx
 simp only at h1 h2 h5 hgo
 subst h1
 unfold i_Sha_L15 g15
 simp only[decN,Int.toNat_natCast]
 by_cases hq:q<n
 ·have e:IntKind.i64.wrap (((64*q:Nat):Int)+64)=((64*q+64:Nat):Int):=by rw[w64 (by omega) (by omega)];omega
  rw[decide_eq_true (show 64*q<s.length by omega),cond_true,e]
  simp only[decL,nnN,Int.toNat_natCast,Bool.true_and,Bool.and_true]
  rw[decide_eq_true (show 64*q<=64*q+64 by omega),decide_eq_true (show 64*q+64<=s.length by omega)]
  simp only[Bool.and_self,cond_true]
  rw[sub64,block_is h5 (by simp;omega)]
  obtain⟨z,hz,hzl⟩:=block_some h5 (show((s.drop (64*q)).take 64).length=64 by simp;omega)
  rw[show s.length/64-64*q/64=(n-(q+1))+1 by omega,foldB,hz,Option.bind_some,Option.bind_some,
   hgo (s,z,((64*q+64:Nat):Int)) ⟨q+1,n,rfl,h2,hq,h4,hzl⟩ (by simp only;omega)]
  unfold g15
  simp only[Int.toNat_natCast]
  rw[show s.length/64-(64*q+64)/64=n-(q+1) by omega,List.drop_drop]
 ·rw[decide_eq_false (show ¬64*q<s.length by omega),cond_false,show s.length/64-64*q/64=0 by omega]
  rfl
def I21 (x:Bs×List Int×List Int×Int×Int):Prop:=∃q n:Nat,x.2.2.2.2=((64*q:Nat):Int)/\x.2.2.2.1=((64*n:Nat):Int)/\64*n<=x.1.length/\q<=n/\n<=1000/\x.2.1.length=8/\x.2.2.1=gv0
noncomputable def g21 (x:Bs×List Int×List Int×Int×Int):Option (List Int):=foldB (x.2.2.2.1.toNat/64-x.2.2.2.2.toNat/64) x.2.1 ((x.1.take x.2.2.2.1.toNat).drop x.2.2.2.2.toNat)
theorem i21_step (go) (x:Bs×List Int×List Int×Int×Int) (hx:I21 x) (hgo:∀y,I21 y->(y.2.2.2.1-y.2.2.2.2).toNat<(x.2.2.2.1-x.2.2.2.2).toNat->go y=g21 y):s_Sha_L21 go x=g21 x:=by
 obtain⟨s,h,k,m,i⟩:=x
 obtain⟨q,n,h1,h2,h3,h4,h5,h6,h7⟩:=hx
 simp only at h1 h2 h3 h6 h7 hgo
 subst h1 h2 h7
 unfold s_Sha_L21 g21
 simp only[decN,Int.toNat_natCast]
 by_cases hq:q<n
 ·have e:IntKind.i64.wrap (((64*q:Nat):Int)+64)=((64*q+64:Nat):Int):=by rw[w64 (by omega) (by omega)];omega
  rw[decide_eq_true (show 64*q<64*n by omega),cond_true,e]
  simp only[decL,nnN,Int.toNat_natCast,Bool.true_and,Bool.and_true]
  rw[decide_eq_true (show 64*q<=64*q+64 by omega),decide_eq_true (show 64*q+64<=s.length by omega)]
  simp only[Bool.and_self,cond_true]
  have et:((s.take (64*n)).drop (64*q)).take 64=List.drop (64*q) (List.take (64*q+64) s):=by
   rw[sub64,List.drop_take,List.take_take];congr 1;omega
  obtain⟨z,hz,hzl⟩:=block_some h6 (show(List.drop (64*q) (List.take (64*q+64) s)).length=64 by simp;omega)
  rw[show 64*n/64-64*q/64=(n-(q+1))+1 by omega,foldB,et,hz,Option.bind_some,Option.bind_some,
   hgo (s,z,gv0,((64*n:Nat):Int),((64*q+64:Nat):Int)) ⟨q+1,n,rfl,rfl,h3,hq,h5,hzl,rfl⟩ (by simp only;omega)]
  unfold g21
  simp only[Int.toNat_natCast]
  rw[show 64*n/64-(64*q+64)/64=n-(q+1) by omega,List.drop_drop]
 ·rw[decide_eq_false (show ¬64*q<64*n by omega),cond_false,show 64*n/64-64*q/64=0 by omega]
  rfl
def I31 (x:List Int×List Int×Bs×Int):Prop:=∃q n:Nat,x.2.2.2=((64*q:Nat):Int)/\x.2.2.1.length=64*n/\q<=n/\n<=1000/\x.1.length=8/\x.2.1=gv0
noncomputable def g31 (x:List Int×List Int×Bs×Int):Option (List Int):=foldB (x.2.2.1.length/64-x.2.2.2.toNat/64) x.1 (x.2.2.1.drop x.2.2.2.toNat)
theorem i31_step (go) (x:List Int×List Int×Bs×Int) (hx:I31 x) (hgo:∀y,I31 y->((y.2.2.1.length:Int)-y.2.2.2).toNat<((x.2.2.1.length:Int)-x.2.2.2).toNat->go y=g31 y):s_Sha_L31 go x=g31 x:=by
 obtain⟨h,k,s,i⟩:=x
 obtain⟨q,n,h1,h2,h3,h4,h5,h7⟩:=hx
 simp only at h1 h2 h5 h7 hgo
 subst h1 h7
 unfold s_Sha_L31 g31
 have e:IntKind.i64.wrap (((64*q:Nat):Int)+64)=((64*q+64:Nat):Int):=by rw[w64 (by omega) (by omega)];omega
 simp only[e,decL,Int.toNat_natCast]
 by_cases hq:q<n
 ·rw[decide_eq_true (show 64*q+64<=s.length by omega),cond_true]
  simp only[nnN,Bool.true_and,Bool.and_true]
  rw[decide_eq_true (show 64*q<=64*q+64 by omega)]
  simp only[cond_true]
  rw[sub64]
  obtain⟨z,hz,hzl⟩:=block_some h5 (show((s.drop (64*q)).take 64).length=64 by simp;omega)
  rw[show s.length/64-64*q/64=(n-(q+1))+1 by omega,foldB,hz,Option.bind_some,Option.bind_some,
   hgo (z,gv0,s,((64*q+64:Nat):Int)) ⟨q+1,n,rfl,h2,hq,h4,hzl,rfl⟩ (by simp only;omega)]
  unfold g31
  simp only[Int.toNat_natCast]
  rw[show s.length/64-(64*q+64)/64=n-(q+1) by omega,List.drop_drop]
 ·rw[decide_eq_false (show ¬64*q+64<=s.length by omega),cond_false,show s.length/64-64*q/64=0 by omega]
  rfl
def L41R (x:Bs×List Int×Int) (y:List Int×Bs×Int):Prop:=x.1=y.2.1/\x.2.1=y.1/\x.2.2=y.2.2
theorem wrap_le (n:Int):IntKind.i64.wrap n<=9223372036854775807:=by
 rw[IntKind.wrap_i64];omega
theorem l41_lock (go1 go2) (x y) (hr:L41R x y) (hgo:∀x' y',L41R x' y'->go1 x'=(go2 y').map id):i_Sha_L25 go1 x=(s_Sha_L41 go2 y).map id:=by
 obtain⟨o,h,i⟩:=x
 obtain⟨h2,o2,i2⟩:=y
 obtain⟨e1,e2,e3⟩:=hr
 simp only at e1 e2 e3
 subst e1 e2 e3
 unfold i_Sha_L25 s_Sha_L41
 simp only
 cases decide (i<8) with
 |false=>rfl
 |true=>
  simp only[cond_true]
  cases decide (0<=i) with
  |false=>rfl
  |true=>
   simp only[cond_true]
   cases h[i.toNat]? with
   |none=>rfl
   |some a=>
    simp only[Option.bind_some,fixed_is _ (.inl rfl) (wrap_le a)]
    cases s_Fixed (IntKind.i64.wrap a,4) with
    |none=>rfl
    |some f=>
     simp only[Option.bind_some]
     cases decide (o.length+f.length<=4611686018427387904) with
     |false=>rfl
     |true=>exact hgo _ _ ⟨rfl,rfl,rfl⟩
theorem sha11_is (s:Bs) (hs:s.length<=1000):iter s_Sha_L11 FUEL (s,[128])=some (128::List.replicate ((64-(s.length+9)%64)%64) 0):=by
 refine(iter_is (S:=s_Sha_L11) (g:=fun x=>some (128::List.replicate ((64-(x.1.length+9)%64)%64) 0)) (fun x=>66-x.2.length) (fun x=>x.1.length<=1000/\∃j,j<=(64-(x.1.length+9)%64)%64/\x.2=128::List.replicate j 0) (fun go x hx hgo=>?_) FUEL (s,[128]) ⟨hs,0,by simp,rfl⟩ (fuel_lt (by simp)))
 obtain⟨s,p⟩:=x
 obtain⟨h1,j,hj,h2⟩:=hx
 simp only at h1 h2 hj hgo
 subst h2
 unfold s_Sha_L11
 simp only[List.length_cons,List.length_replicate]
 have e:IntKind.i64.wrap ((s.length:Int)+((j+1:Nat):Int))=((s.length+(j+1):Nat):Int):=by rw[w64 (by omega) (by omega)];omega
 have e2:Int.tmod ((s.length+(j+1):Nat):Int) 64=(((s.length+(j+1))%64:Nat):Int):=rfl
 rw[e,e2]
 by_cases hd:(s.length+(j+1))%64=56
 ·rw[decide_eq_true (show(((s.length+(j+1))%64:Nat):Int)=56 by omega)]
  simp only[Bool.not_true,cond_false,Option.some.injEq]
  rw[show j=(64-(s.length+9)%64)%64 by omega]
 ·rw[decide_eq_false (show ¬ (((s.length+(j+1))%64:Nat):Int)=56 by omega)]
  simp only[Bool.not_false,cond_true]
  rw[decide_eq_true (show j+1+1<=4294967296 by omega)]
  simp only[Bool.or_true,Bool.and_true,Bool.true_and,cond_true]
  have hrep:(128::List.replicate j (0:Int))++[0]=128::List.replicate (j+1) 0:=by rw[List.replicate_succ'];rfl
  rw[hrep]
  exact hgo _ ⟨h1,j+1,by simp only;omega,rfl⟩ (by simp only[List.length_cons,List.length_replicate];omega)
theorem sha_same (s:Bs) (hs:s.length<=1000):i_Sha s=s_Sha s:=by
 unfold i_Sha s_Sha
 have hb:s_l2Begin ()=some [1779033703,3144134277,1013904242,2773480762,1359893119,2600822924,528734635,1541459225]:=rfl
 have ht:s_l2Table ()=some gv0:=by rfl
 have z1:IntKind.i64.wrap ((s.length:Int)+9)=((s.length+9:Nat):Int):=by rw[w64 (by omega) (by omega)];omega
 have z2:IntKind.i64.wrap (64-Int.tmod ((s.length+9:Nat):Int) 64)=((64-(s.length+9)%64:Nat):Int):=by
  rw[show Int.tmod ((s.length+9:Nat):Int) 64=(((s.length+9)%64:Nat):Int) from rfl,w64 (by omega) (by omega)];omega
 have z3:IntKind.i64.wrap (Int.tmod ((64-(s.length+9)%64:Nat):Int) 64+1)=(((64-(s.length+9)%64)%64+1:Nat):Int):=by
  rw[show Int.tmod ((64-(s.length+9)%64:Nat):Int) 64=(((64-(s.length+9)%64)%64:Nat):Int) from rfl,w64 (by omega) (by omega)];omega
 generalize hz:(64-(s.length+9)%64)%64=z at *
 have e1:Int.tdiv ((s.length:Nat):Int) 64=((s.length/64:Nat):Int):=rfl
 have e2:IntKind.i64.wrap ((s.length/64:Nat):Int)=((s.length/64:Nat):Int):=w64 (by omega) (by omega)
 have e3:IntKind.i64.wrap (((s.length/64:Nat):Int)*64)=((64*(s.length/64):Nat):Int):=by rw[w64 (by omega) (by omega)];omega
 have hs11:=sha11_is s hs
 rw[hz] at hs11
 have hm:List.map (fun(b:Int)=>UInt8.ofNat b.toNat) (128::List.replicate z 0)=(128:UInt8)::List.replicate z 0:=by simp
 have hm0:List.map (fun(b:Int)=>UInt8.ofNat b.toNat) [0]=[(0:UInt8)]:=rfl
 have hmr:List.map (fun(b:Int)=>UInt8.ofNat b.toNat) (List.replicate (z+1) 0)=List.replicate (z+1) (0:UInt8):=by simp
 simp only[z1,z2,z3,hb,ht,hs11,hm,hm0,e1,e2,e3,Option.bind_some,Int.toNat_natCast,hmr,nnN,decL]
 obtain⟨f,hf,hfl⟩:∃f,s_Fixed (IntKind.i64.wrap (8*(s.length:Int)),7)=some f/\f.length=7:=by
  have e8:IntKind.i64.wrap (8*(s.length:Int))=((8*s.length:Nat):Int):=by rw[w64 (by omega) (by omega)];omega
  rw[e8]
  unfold s_Fixed
  have es:=iter_is (S:=s_Fixed_L13) (g:=fsG) (fun x=>(x.2.1-x.2.2.2).toNat) FsI fs_step FUEL (((8*s.length:Nat):Int),7,[],0) ⟨8*s.length,7,0,rfl,by omega,rfl,rfl,by omega,by omega,rfl⟩ (fuel_lt (by simp))
  simp only[in_s,es,Option.bind_some]
  rw[decide_eq_false (show ¬ (((8*s.length:Nat):Int)<0) by omega)]
  have hd:8*s.length/256^7=0:=Nat.div_eq_of_lt (by omega)
  refine⟨(fixN 7 (8*s.length)).map (fun n=>UInt8.ofNat n),?_,by simp[fixN_len]⟩
  have e9:(decide ((1:Int)<=7)&&decide ((7:Int)<=7))=true:=rfl
  have e10:fsG (((8*s.length:Nat):Int),7,[],0)=some (0,(fixN 7 (8*s.length)).map (fun n=>UInt8.ofNat n)):=by
   simp only[fsG,Int.toNat_natCast,show((7:Int)-0).toNat=7 from rfl,hd,List.append_nil];rfl
  rw[e9,e10];rfl
 rw[fixed_is _ (.inr rfl) (wrap_le _),hf]
 simp only[Option.bind_some]
 rw[decide_eq_true (show s.length+1<=4611686018427387904 by omega),decide_eq_true (show z+1<=z+1 by omega),decide_eq_true (show(((z+1:Nat):Int)<=4294967296) by omega)]
 simp only[Bool.and_self,cond_true]
 rw[decide_eq_true (by simp;omega),cond_true,decide_eq_true (by simp;omega),cond_true,decide_eq_true (by simp;omega),cond_true,decide_eq_true (by simp;omega),cond_true]
  -- the blocks
 have hall:(s++[128]++List.replicate (z+1) (0:UInt8)++f).length=64*((s.length+9+z)/64):=by simp[hfl];omega
 rw[iter_is (S:=i_Sha_L15) (g:=g15) (fun x=>((x.1.length:Int)-x.2.2).toNat) I15 i15_step FUEL _ ⟨0,(s.length+9+z)/64,rfl,hall,by omega,by omega,rfl⟩ (fuel_lt (by simp only[hall];omega)),
  iter_is (S:=s_Sha_L21) (g:=g21) (fun x=>(x.2.2.2.1-x.2.2.2.2).toNat) I21 i21_step FUEL _ ⟨0,s.length/64,rfl,rfl,by simp only;omega,by omega,by omega,rfl,rfl⟩ (fuel_lt (by simp only;omega))]
 simp only[g15,g21,Int.toNat_zero,Int.toNat_natCast,Nat.zero_div,Nat.sub_zero,List.drop_zero]
 obtain⟨h1,hh1,hh1l⟩:=foldB_some (64*(s.length/64)/64) [1779033703,3144134277,1013904242,2773480762,1359893119,2600822924,528734635,1541459225] (s.take (64*(s.length/64))) rfl (by simp;omega)
 rw[hh1]
 simp only[Option.bind_some]
 rw[decide_eq_true (show 64*(s.length/64)<=s.length by omega)]
 simp only[Bool.and_self,cond_true]
 rw[decide_eq_true (by simp;omega),cond_true]
 have hrest:(s.drop (64*(s.length/64))++((128:UInt8)::List.replicate z 0++[0]++f)).length=64*((s.length+9+z)/64-s.length/64):=by simp[hfl];omega
 rw[iter_is (S:=s_Sha_L31) (g:=g31) (fun x=>((x.2.2.1.length:Int)-x.2.2.2).toNat) I31 i31_step FUEL _ ⟨0,(s.length+9+z)/64-s.length/64,rfl,hrest,by omega,by omega,hh1l,rfl⟩ (fuel_lt (by simp only[hrest];omega))]
 simp only[g31,Int.toNat_zero,Nat.zero_div,Nat.sub_zero,List.drop_zero]
 have hsplit:s++[128]++List.replicate (z+1) (0:UInt8)++f=s.take (64*(s.length/64))++(s.drop (64*(s.length/64))++((128:UInt8)::List.replicate z 0++[0]++f)):=by
  rw[<-List.append_assoc,List.take_append_drop,List.replicate_succ']
  simp
 rw[hall,hsplit,show 64*((s.length+9+z)/64)/64=64*(s.length/64)/64+((s.length+9+z)/64-s.length/64) by omega,foldB_add _ _ _ _ _ (by simp;omega),hh1,hrest,show 64*((s.length+9+z)/64-s.length/64)/64=(s.length+9+z)/64-s.length/64 by omega]
 simp only[Option.bind_some]
 congr 1
 funext h2
 have:=iter_lock L41R id l41_lock FUEL ([],h2,0) (h2,[],0) ⟨rfl,rfl,rfl⟩
 rw[this]
 simp
end Go.Proofs.YtacbkfginiknaaaDoor
