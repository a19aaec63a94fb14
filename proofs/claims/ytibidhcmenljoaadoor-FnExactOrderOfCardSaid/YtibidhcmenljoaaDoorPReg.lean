/- The plain law: the program's RegOk is the reference's. -/
import Derived.Test.YtibidhcmenljoaaDoorPShaJ
namespace Go.Proofs.YtibidhcmenljoaaDoor
open Go Go.Proofs.YtibidhcmenljoaaDoor.V
abbrev Ver:=Bs×Bs×Int
abbrev Ans:=Int×Int×Int×Bs×Int×Int
abbrev Ses:=Int×Int×Ans
abbrev RegT:=List Ver×List Int×List Ses
theorem bAnd (p q:Bool):(bif p then some q else some false)=some (p&&q):=by cases p<;>rfl
theorem bOr (p q:Bool):(bif p then some q else some true)=some (!p||q):=by cases p<;>rfl
noncomputable def sha (s:Bs):Bs:=(s_Sha s).getD []
theorem s_sha_is {s:Bs} (h:s.length<=1000):s_Sha s=some (sha s):=by
 obtain⟨y,hy,_⟩:=sha_tot s h
 unfold sha;rw[hy];rfl
theorem i_sha_is {s:Bs} (h:s.length<=1000):i_Sha s=some (sha s):=by rw[sha_same s h,s_sha_is h]
theorem rc_len {s:Bs} (h:(rc s).2=true):s.length<=244:=by
 obtain⟨h1,h2⟩:=(rc_spec s).1 h
 rw[<-h2];exact(canonOf_len h1).2
def allFrom (ok:Nat->Bool):Nat->Nat->Bool
 |0,_=>true
 |k+1,i=>ok i&&allFrom ok k (i+1)
theorem allFrom_iff {ok:Nat->Bool}:∀ {k i:Nat},allFrom ok k i=true↔∀j,i<=j->j<i+k->ok j=true:=by
 intro k
 induction k with
 |zero=>intro i;simp[allFrom];intro j h1 h2;omega
 |succ k ih=>
  intro i
  simp only[allFrom,Bool.and_eq_true,ih]
  constructor
  ·rintro⟨h1,h2⟩ j h3 h4
   by_cases hj:j=i
   ·subst hj;exact h1
   ·exact h2 j (by omega) (by omega)
  ·intro h
   exact⟨h i (Nat.le_refl _) (by omega),fun j h1 h2=>h j (by omega) (by omega)⟩
def IfI (x:List Ver×(Bs×PUnit)×Int×Int):Prop:=∃i:Nat,x.2.2.2=(i:Int)/\x.2.2.1=(x.1.length:Int)/\i<=x.1.length/\x.1.length<=4294967296
theorem ixf_step (go) (x:List Ver×(Bs×PUnit)×Int×Int) (hx:IfI x) (hgo:∀y,IfI y->(y.2.2.1-y.2.2.2).toNat<(x.2.2.1-x.2.2.2).toNat->go y=some (foundI (findI (fun b=>decide (b.1=y.2.1.1)) (y.1.drop y.2.2.2.toNat) y.2.2.2.toNat))):
  g_slices_IndexFunc_impl_Version_impl_Version_L7 go x=some (foundI (findI (fun b=>decide (b.1=x.2.1.1)) (x.1.drop x.2.2.2.toNat) x.2.2.2.toNat)):=by
 obtain⟨l,v,n,i⟩:=x
 obtain⟨k,h1,h2,h3,h4⟩:=hx
 simp only at h1 h2 h3 h4 hgo
 subst h1 h2
 unfold g_slices_IndexFunc_impl_Version_impl_Version_L7
 simp only[decN,Int.toNat_natCast,nnN,cond_true,i_Reg_has_1]
 by_cases hk:k<l.length
 ·rw[decide_eq_true hk,cond_true,List.getElem?_eq_getElem hk,Option.bind_some,Option.bind_some,drop_at hk,findI]
  cases hv:decide (l[k].1=v.1) with
  |true=>rfl
  |false=>
   simp only[cond_false,Bool.false_eq_true,if_false]
   rw[wSucc (by omega)]
   exact hgo (l,(v.1,()),(l.length:Int),((k+1:Nat):Int)) ⟨k+1,rfl,rfl,hk,h4⟩ (by simp only;omega)
 ·rw[decide_eq_false hk,cond_false,List.drop_eq_nil_of_le (by omega)];rfl
def hasN (l:List Ver) (b:Bs):Nat:=match findI (fun(v:Ver)=>decide (v.1=b)) l 0 with
 |none=>0
 |some j=>j+1
theorem i_has_is {r:RegT} {b:Bs} (h:r.1.length<=4294967296):i_Reg_has (r,b)=some (hasN r.1 b:Int):=by
 unfold i_Reg_has g_slices_IndexFunc_impl_Version_impl_Version hasN
 simp only
 rw[iter_is (g:=fun x=>some (foundI (findI (fun b=>decide (b.1=x.2.1.1)) (x.1.drop x.2.2.2.toNat) x.2.2.2.toNat))) (fun x=>(x.2.2.1-x.2.2.2).toNat) IfI ixf_step FUEL _ ⟨0,rfl,rfl,by simp,h⟩ (fuel_lt (by simp only;omega))]
 simp only[Option.bind_some,Int.toNat_zero,List.drop_zero]
 cases hf:findI (fun(v:Ver)=>decide (v.1=b)) r.1 0 with
 |none=>rfl
 |some j=>
  obtain⟨k,a,e1,e2,_⟩:=findI_some hf
  have:=(List.getElem?_eq_some_iff.1 e2).1
  simp only[foundI,sumK,Option.bind_some,Option.some.injEq]
  rw[w64 (by omega) (by omega)];omega
def LbI (x:List Ver×Bs×Int):Prop:=∃i:Nat,x.2.2=(i:Int)/\i<=x.1.length/\x.1.length<=4294967296
def found1 (o:Option Nat):PUnit⊕Int:=match o with
 |none=>.inl ()
 |some j=>.inr ((j+1:Nat):Int)
theorem lb_step (go) (x:List Ver×Bs×Int) (hx:LbI x) (hgo:∀y,LbI y->((y.1.length:Int)-y.2.2).toNat<((x.1.length:Int)-x.2.2).toNat->go y=some (found1 (findI (fun b=>decide (b.1=y.2.1)) (y.1.drop y.2.2.toNat) y.2.2.toNat))):
  s_l12Body_L7 go x=some (found1 (findI (fun b=>decide (b.1=x.2.1)) (x.1.drop x.2.2.toNat) x.2.2.toNat)):=by
 obtain⟨l,v,i⟩:=x
 obtain⟨k,h1,h3,h4⟩:=hx
 simp only at h1 h3 h4 hgo
 subst h1
 unfold s_l12Body_L7
 simp only[decN,Int.toNat_natCast,nnN,cond_true]
 by_cases hk:k<l.length
 ·rw[decide_eq_true hk,cond_true,List.getElem?_eq_getElem hk,Option.bind_some,drop_at hk,findI]
  cases hv:decide (l[k].1=v) with
  |true=>rw[wSucc (by omega)];rfl
  |false=>
   simp only[cond_false,Bool.false_eq_true,if_false]
   rw[wSucc (by omega)]
   exact hgo (l,v,((k+1:Nat):Int)) ⟨k+1,rfl,hk,h4⟩ (by simp only;omega)
 ·rw[decide_eq_false hk,cond_false,List.drop_eq_nil_of_le (by omega)];rfl
theorem s_body_is {l:List Ver} {b:Bs} (h:l.length<=4294967296):s_l12Body (l,b)=some (hasN l b:Int):=by
 unfold s_l12Body hasN
 simp only
 rw[iter_is (g:=fun x=>some (found1 (findI (fun b=>decide (b.1=x.2.1)) (x.1.drop x.2.2.toNat) x.2.2.toNat))) (fun x=>((x.1.length:Int)-x.2.2).toNat) LbI lb_step FUEL _ ⟨0,rfl,by simp,h⟩ (fuel_lt (by simp only;omega))]
 simp only[Option.bind_some,Int.toNat_zero,List.drop_zero]
 cases findI (fun(v:Ver)=>decide (v.1=b)) l 0<;>rfl
theorem hasN_zero {l:List Ver} {b:Bs}:hasN l b=0↔∀y∈l,y.1≠b:=by
 unfold hasN
 cases hf:findI (fun(v:Ver)=>decide (v.1=b)) l 0 with
 |none=>
  have:=findI_none.1 hf
  simp only[true_iff]
  exact fun y hy=>by simpa using this y hy
 |some j=>
  obtain⟨k,a,_,h2,h3,_⟩:=findI_some hf
  constructor
  ·intro h;simp at h
  ·intro h
   exact absurd (by simpa using h3) (h a (List.mem_of_getElem? h2))
theorem hasN_some {l:List Ver} {b:Bs} (h:0<hasN l b):∃x,l[hasN l b-1]?=some x/\x.1=b/\hasN l b<=l.length:=by
 unfold hasN at h ⊢
 cases hf:findI (fun(v:Ver)=>decide (v.1=b)) l 0 with
 |none=>rw[hf] at h;simp at h
 |some j=>
  obtain⟨k,a,e1,e2,e3,_⟩:=findI_some hf
  have:=(List.getElem?_eq_some_iff.1 e2).1
  simp only[Nat.add_sub_cancel]
  exact⟨a,by rw[e1,Nat.zero_add];exact e2,by simpa using e3,by omega⟩
def cnt (n:Int) (l:List Int):Nat:=l.count n
end Go.Proofs.YtibidhcmenljoaaDoor
