/- The plain law: the numbers' text (Var, ReadVar) of the program is the reference's. -/
import Derived.Test.YtacbkfginiknaaaDoorFR
import Derived.IntWalk
namespace Go.Proofs.YtacbkfginiknaaaDoor
open Go Go.Proofs.YtacbkfginiknaaaDoor.V
def TotT {α:Type} (o:Option α):Prop:=∃y,o=some y
theorem totT_some {α:Type} (a:α):TotT (some a):=⟨a,rfl⟩
theorem totT_bif {α:Type} {b:Bool} {x y:Option α} (h:b=true->TotT x) (k:b=false->TotT y):TotT (bif b then x else y):=by
 cases b with
 |true=>exact h rfl
 |false=>exact k rfl
def Tot {α:Type} (o:Option α) (Q:α->Prop):Prop:=∃y,o=some y/\Q y
theorem tot_some {α:Type} {a:α} {Q:α->Prop} (h:Q a):Tot (some a) Q:=⟨a,rfl,h⟩
theorem tot_bind {α β:Type} {o:Option α} {f:α->Option β} {Q:α->Prop} {Q':β->Prop} (h:Tot o Q) (k:∀y,Q y->Tot (f y) Q'):Tot (o.bind f) Q':=by
 obtain⟨y,hy,hq⟩:=h;rw[hy];exact k y hq
theorem tot_bindT {α β:Type} {o:Option α} {f:α->Option β} {Q':β->Prop} (h:TotT o) (k:∀y,Tot (f y) Q'):Tot (o.bind f) Q':=by
 obtain⟨y,hy⟩:=h;rw[hy];exact k y
theorem tot_bif {α:Type} {b:Bool} {x y:Option α} {Q:α->Prop} (h:b=true->Tot x Q) (k:b=false->Tot y Q):Tot (bif b then x else y) Q:=by
 cases b with
 |true=>exact h rfl
 |false=>exact k rfl
theorem tot_ok {α:Type} {b:Bool} {x:Option α} {Q:α->Prop} (h:b=true) (k:Tot x Q):Tot (bif b then x else none) Q:=by
 rw[h];exact k
theorem Tot.mono {α:Type} {o:Option α} {Q Q':α->Prop} (h:Tot o Q) (k:∀y,Q y->Q' y):Tot o Q':=by
 obtain⟨y,hy,hq⟩:=h;exact⟨y,hy,k y hq⟩
theorem Tot.t {α:Type} {o:Option α} {Q:α->Prop} (h:Tot o Q):TotT o:=by
 obtain⟨y,hy,_⟩:=h;exact⟨y,hy⟩
theorem tot_get {α β:Type} {l:List α} {i:Nat} {f:α->Option β} {Q:β->Prop} (h:i<l.length) (k:∀x∈l,Tot (f x) Q):Tot (l[i]?.bind f) Q:=by
 rw[List.getElem?_eq_getElem h];exact k _ (List.getElem_mem h)
theorem iter_tot {α β:Type} {S:(α->Option β)->α->Option β} (μ:α->Nat) (I:α->Prop) (Q:β->Prop)
  (h:∀go x,I x->(∀y,I y->μ y<μ x->Tot (go y) Q)->Tot (S go x) Q):∀n x,I x->μ x<n->Tot (iter S n x) Q:=by
 intro n
 induction n with
 |zero=>intro x _ h;omega
 |succ n ih=>intro x hx hn;exact h _ x hx fun y hy hm=>ih y hy (by omega)
theorem iter_is {α β:Type} {S:(α->Option β)->α->Option β} {g:α->Option β} (μ:α->Nat) (I:α->Prop)
  (h:∀go x,I x->(∀y,I y->μ y<μ x->go y=g y)->S go x=g x):∀n x,I x->μ x<n->iter S n x=g x:=by
 intro n
 induction n with
 |zero=>intro x _ h;omega
 |succ n ih=>intro x hx hn;exact h _ x hx fun y hy hm=>ih y hy (by omega)
theorem in_s (a lo hi:Int):s_l1In (a,lo,hi)=some (decide (lo<=a)&&decide (a<=hi)):=by
 simp only[s_l1In];cases decide (lo<=a)<;>rfl
theorem in_i (a lo hi:Int):i_within (a,lo,hi)=some (decide (lo<=a)&&decide (a<=hi)):=by
 simp only[i_within];cases decide (lo<=a)<;>rfl
def varPre (n:Nat):List Int:=if n<128 then[] else((128+n%128:Nat):Int)::varPre (n/128)
termination_by n
decreasing_by omega
def varLast (n:Nat):Nat:=if n<128 then n else varLast (n/128)
termination_by n
decreasing_by omega
theorem and127 (n:Nat) (h:n<9223372036854775808):(BitVec.ofInt IntKind.i64.bits (n:Int)&&&BitVec.ofInt IntKind.i64.bits 127).toNat=n%128:=by
 show(BitVec.ofInt 64 (n:Int)&&&BitVec.ofInt 64 127).toNat=n%128
 rw[BitVec.toNat_and,BitVec.toNat_ofInt,BitVec.toNat_ofInt]
 have h1:((n:Int)%((2^64:Nat):Int)).toNat=n:=by omega
 have h2:((127:Int)%((2^64:Nat):Int)).toNat=127:=by decide
 rw[h1,h2]
 exact Nat.and_two_pow_sub_one_eq_mod n 7
theorem or128 (n:Nat) (h:n<128):(BitVec.ofInt IntKind.i64.bits (n:Int)|||BitVec.ofInt IntKind.i64.bits 128).toNat=128+n:=by
 show(BitVec.ofInt 64 (n:Int)|||BitVec.ofInt 64 128).toNat=128+n
 rw[BitVec.toNat_or,BitVec.toNat_ofInt,BitVec.toNat_ofInt]
 have h1:((n:Int)%((2^64:Nat):Int)).toNat=n:=by omega
 have h2:((128:Int)%((2^64:Nat):Int)).toNat=128:=by decide
 rw[h1,h2,Nat.or_comm]
 have:=Nat.two_pow_add_eq_or_of_lt (i:=7) (b:=n) h 1
 simpa using this.symm
theorem tmodN (n:Nat):(n:Int).tmod 128=((n%128:Nat):Int):=rfl
theorem tdivN (n:Nat):(n:Int).tdiv 128=((n/128:Nat):Int):=rfl
theorem fdivN (n:Nat):(n:Int).fdiv (2^min (Int.toNat 7) IntKind.i64.bits)=((n/128:Nat):Int):=by
 have:((2:Int)^min (Int.toNat 7) IntKind.i64.bits)=((128:Nat):Int):=by decide
 rw[this,Int.fdiv_eq_ediv_of_nonneg _ (by omega)]
 omega
theorem w64 {n:Int} (h0: -9223372036854775808<=n) (h1:n<=9223372036854775807):IntKind.i64.wrap n=n:=IntWalk.i64_in n ⟨h0,h1⟩
theorem w8 {n:Int} (h0:0<=n) (h1:n<=255):IntKind.u8.wrap n=n:=IntWalk.u8_in n ⟨h0,h1⟩
def VarI (x:Int×List Int):Prop:=∃n k:Nat,x.1=n/\n<128^k/\k<=8/\x.2.length+k<=100
theorem pow_le8 {k:Nat} (h:k<=8):128^k<=72057594037927936:=by
 have:=Nat.pow_le_pow_right (n:=128) (by omega) h
 simpa using this
theorem var_step {n k:Nat} (hn:n<128^k) (h:¬n<128):∃j,k=j+1/\n/128<128^j:=by
 cases k with
 |zero=>simp at hn;omega
 |succ j=>exact⟨j,rfl,by rw[Nat.pow_succ] at hn;omega⟩
theorem sVar_step (go) (x:Int×List Int) (hx:VarI x) (hgo:∀y,VarI y->y.1.toNat<x.1.toNat->go y=some (((varLast y.1.toNat:Nat):Int),y.2++varPre y.1.toNat)):
  s_Var_L11 go x=some (((varLast x.1.toNat:Nat):Int),x.2++varPre x.1.toNat):=by
 obtain⟨m,acc⟩:=x
 obtain⟨n,k,rfl,hn,hk,ha⟩:=hx
 have hb:=pow_le8 hk
 unfold s_Var_L11
 by_cases h:n<128
 ·have h1:decide ((128:Int)<=((n:Nat):Int))=false:=by simp;omega
  simp only[h1,cond_false,Int.toNat_natCast]
  rw[varLast,varPre,if_pos h,if_pos h];simp
 ·have h1:decide ((128:Int)<=((n:Nat):Int))=true:=by simp;omega
  obtain⟨j,rfl,hj⟩:=var_step hn h
  have h2:IntKind.i64.wrap (128+Int.tmod (n:Int) 128)=((128+n%128:Nat):Int):=by rw[tmodN,w64 (by omega) (by omega)];omega
  have h3:IntKind.u8.wrap ((128+n%128:Nat):Int)=((128+n%128:Nat):Int):=w8 (by omega) (by omega)
  have h4:IntKind.i64.wrap (Int.tdiv (n:Int) 128)=((n/128:Nat):Int):=by rw[tdivN,w64 (by omega) (by omega)]
  simp only at ha
  have h5:acc.length+1<=4294967296:=by omega
  simp only[h1,cond_true,h2,h3,h4,List.replicate,List.set,List.length_cons,List.length_nil]
  have h6:decide (acc.length+1<=4294967296)=true:=by simp;omega
  rw[show decide (acc.length+1<=4294967296)=true from h6,cond_true,
   hgo _ ⟨n/128,j,rfl,hj,by omega,by simp;omega⟩ (by simp;omega)]
  simp only[Int.toNat_natCast]
  rw[varLast.eq_1 n,varPre.eq_1 n,if_neg h,if_neg h];simp
theorem iVar_step (go) (x:Int×List Int) (hx:VarI x) (hgo:∀y,VarI y->y.1.toNat<x.1.toNat->go y=some (((varLast y.1.toNat:Nat):Int),y.2++varPre y.1.toNat)):
  i_Var_L11 go x=some (((varLast x.1.toNat:Nat):Int),x.2++varPre x.1.toNat):=by
 obtain⟨m,acc⟩:=x
 obtain⟨n,k,rfl,hn,hk,ha⟩:=hx
 have hb:=pow_le8 hk
 unfold i_Var_L11
 by_cases h:n<128
 ·have h1:decide ((127:Int)<((n:Nat):Int))=false:=by simp;omega
  simp only[h1,cond_false,Int.toNat_natCast]
  rw[varLast,varPre,if_pos h,if_pos h];simp
 ·have h1:decide ((127:Int)<((n:Nat):Int))=true:=by simp;omega
  obtain⟨j,rfl,hj⟩:=var_step hn h
  have h2:IntKind.i64.wrap ((n%128:Nat):Int)=((n%128:Nat):Int):=w64 (by omega) (by omega)
  have h2':IntKind.i64.wrap ((128+n%128:Nat):Int)=((128+n%128:Nat):Int):=w64 (by omega) (by omega)
  have h3:IntKind.u8.wrap ((128+n%128:Nat):Int)=((128+n%128:Nat):Int):=w8 (by omega) (by omega)
  simp only at ha
  simp only[h1,cond_true,and127 n (by omega),h2,or128 (n%128) (by omega),h2',h3,fdivN,List.replicate,List.set,List.length_cons,List.length_nil]
  have h6:decide (acc.length+1<=4294967296)=true:=by simp;omega
  rw[show decide (acc.length+1<=4294967296)=true from h6,cond_true,
   hgo _ ⟨n/128,j,rfl,hj,by omega,by simp;omega⟩ (by simp;omega)]
  simp only[Int.toNat_natCast]
  rw[varLast.eq_1 n,varPre.eq_1 n,if_neg h,if_neg h];simp
theorem fuel_lt {n:Nat} (h:n<=72057594037927936):n<FUEL:=by unfold FUEL;omega
theorem sVar_loop {n k:Nat} {acc:List Int} (h:n<128^k) (hk:k<=8) (ha:acc.length+k<=100):iter s_Var_L11 FUEL ((n:Int),acc)=some (((varLast n:Nat):Int),acc++varPre n):=by
 have:=iter_is (S:=s_Var_L11) (g:=fun x=>some (((varLast x.1.toNat:Nat):Int),x.2++varPre x.1.toNat)) (fun x=>x.1.toNat) VarI sVar_step FUEL ((n:Int),acc) ⟨n,k,rfl,h,hk,ha⟩ (fuel_lt (by have:=pow_le8 hk;simp;omega))
 simpa using this
theorem iVar_loop {n k:Nat} {acc:List Int} (h:n<128^k) (hk:k<=8) (ha:acc.length+k<=100):iter i_Var_L11 FUEL ((n:Int),acc)=some (((varLast n:Nat):Int),acc++varPre n):=by
 have:=iter_is (S:=i_Var_L11) (g:=fun x=>some (((varLast x.1.toNat:Nat):Int),x.2++varPre x.1.toNat)) (fun x=>x.1.toNat) VarI iVar_step FUEL ((n:Int),acc) ⟨n,k,rfl,h,hk,ha⟩ (fuel_lt (by have:=pow_le8 hk;simp;omega))
 simpa using this
def varText (x:Int):List UInt8:=if 0<=x/\x<=562949953421311 then(varPre x.toNat++[((varLast x.toNat:Nat):Int)]).map (fun b=>UInt8.ofNat b.toNat) else[]
theorem varLast_lt (n:Nat):varLast n<128:=by
 induction n using Nat.strongRecOn with
 |_ n ih=>
  rw[varLast]
  split
  ·assumption
  ·exact ih _ (by omega)
theorem varPre_len:∀ (k n:Nat),n<128^k->(varPre n).length<=k:=by
 intro k
 induction k with
 |zero=>intro n h;simp at h;subst h;rw[varPre];simp
 |succ k ih=>
  intro n h
  rw[varPre]
  split
  ·simp
  ·rw[Nat.pow_succ] at h
   have:=ih (n/128) (by omega)
   simp;omega
theorem s_Var_is (x:Int):s_Var x=some (varText x):=by
 unfold s_Var varText
 rw[in_s,Option.bind_some]
 by_cases h:0<=x/\x<=562949953421311
 ·have h1:(decide (0<=x)&&decide (x<=562949953421311))=true:=by simp[h.1,h.2]
  obtain⟨n,rfl⟩:=Int.eq_ofNat_of_zero_le h.1
  have hl:=varLast_lt n
  have hp:=varPre_len 8 n (by omega)
  rw[h1,if_pos h]
  simp only[Bool.not_true,cond_false,List.replicate]
  rw[sVar_loop (k:=8) (by omega) (by omega) (by simp),Option.bind_some]
  simp only[List.nil_append,w8 (n:=((varLast n:Nat):Int)) (by omega) (by omega),List.set,List.length_cons,List.length_nil,Int.toNat_natCast]
  have h6:decide ((varPre n).length+1<=4294967296)=true:=by simp;omega
  rw[h6,cond_true]
 ·have h1:(decide (0<=x)&&decide (x<=562949953421311))=false:=by
   rw[Bool.eq_false_iff];simpa using h
  rw[h1,if_neg h];rfl
theorem i_Var_is (x:Int):i_Var x=some (varText x):=by
 unfold i_Var varText
 rw[in_i,Option.bind_some]
 by_cases h:0<=x/\x<=562949953421311
 ·have h1:(decide (0<=x)&&decide (x<=562949953421311))=true:=by simp[h.1,h.2]
  obtain⟨n,rfl⟩:=Int.eq_ofNat_of_zero_le h.1
  have hl:=varLast_lt n
  have hp:=varPre_len 8 n (by omega)
  rw[h1,if_pos h]
  simp only[Bool.not_true,cond_false,List.replicate]
  rw[iVar_loop (k:=8) (by omega) (by omega) (by simp),Option.bind_some]
  simp only[List.nil_append,w8 (n:=((varLast n:Nat):Int)) (by omega) (by omega),List.set,List.length_cons,List.length_nil,Int.toNat_natCast]
  have h6:decide ((varPre n).length+1<=4294967296)=true:=by simp;omega
  rw[h6,cond_true]
 ·have h1:(decide (0<=x)&&decide (x<=562949953421311))=false:=by
   rw[Bool.eq_false_iff];simpa using h
  rw[h1,if_neg h];rfl
end Go.Proofs.YtacbkfginiknaaaDoor
