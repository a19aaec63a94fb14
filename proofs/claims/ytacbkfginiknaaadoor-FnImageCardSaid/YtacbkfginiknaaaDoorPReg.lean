/- The plain law: the program's RegOk is the reference's. -/
import Derived.Test.YtacbkfginiknaaaDoorPShaJ
namespace Go.Proofs.YtacbkfginiknaaaDoor
open Go Go.Proofs.YtacbkfginiknaaaDoor.V
abbrev Ver:=Bs×Bs×Int
abbrev Ans:=Int×Int×Int×Bs×Int×Int
abbrev Ses:=Int×Int×Ans
abbrev RegT:=List Ver×List Int×List Ses
theorem bAnd (p q:Bool):(bif p then some q else some false)=some (p&&q):=by cases p<;>rfl
theorem bOr (p q:Bool):(bif p then some q else some true)=some (!p||q):=by cases p<;>rfl
noncomputable def sha (s:Bs):Bs:=(s_Sha s).getD []
theorem s_sha_is {s:Bs} (h:s.length<=1000):s_Sha s=some (sha s):=by
 obtain⟨y,hy,_⟩:=sha_tot s h
 unfold sha;rw[hy];rfl
theorem i_sha_is {s:Bs} (h:s.length<=1000):i_Sha s=some (sha s):=by rw[sha_same s h,s_sha_is h]
theorem rc_len {s:Bs} (h:(rc s).2=true):s.length<=244:=by
 obtain⟨h1,h2⟩:=(rc_spec s).1 h
 rw[<-h2];exact(canonOf_len h1).2
def allFrom (ok:Nat->Bool):Nat->Nat->Bool
 |0,_=>true
 |k+1,i=>ok i&&allFrom ok k (i+1)
theorem allFrom_iff {ok:Nat->Bool}:∀ {k i:Nat},allFrom ok k i=true↔∀j,i<=j->j<i+k->ok j=true:=by
 intro k
 induction k with
 |zero=>intro i;simp[allFrom];intro j h1 h2;omega
 |succ k ih=>
  intro i
  simp only[allFrom,Bool.and_eq_true,ih]
  constructor
  ·rintro⟨h1,h2⟩ j h3 h4
   by_cases hj:j=i
   ·subst hj;exact h1
   ·exact h2 j (by omega) (by omega)
  ·intro h
   exact⟨h i (Nat.le_refl _) (by omega),fun j h1 h2=>h j (by omega) (by omega)⟩
def chk (b:Bool):PUnit⊕Bool:=bif b then .inl () else .inr false
theorem chk_step {b c:Bool} {o:Option (PUnit⊕Bool)} (h:o=some (chk c)):(bif b then o else some (.inr false))=some (chk (b&&c)):=by
 subst h;cases b<;>rfl
theorem iter_chk {α:Type} {S:(α->Option (PUnit⊕Bool))->α->Option (PUnit⊕Bool)} (st:Nat->α) (n:Nat) (ok:Nat->Bool) (hn:n<=72057594037927936)
  (h1:∀go i,i<n->S go (st i)=bif ok i then go (st (i+1)) else some (.inr false)) (h2:∀go,S go (st n)=some (.inl ())):iter S FUEL (st 0)=some (chk (allFrom ok n 0)):=by
 have:∀ (k f i:Nat),n-i=k->i<=n->k<f->iter S f (st i)=some (chk (allFrom ok (n-i) i)):=by
  intro k
  induction k with
  |zero=>
   intro f i hk hi hf
   obtain⟨f,rfl⟩:∃g,f=g+1:=⟨f-1,by omega⟩
   have:i=n:=by omega
   subst this
   rw[Nat.sub_self]
   exact h2 _
  |succ k ih=>
   intro f i hk hi hf
   obtain⟨f,rfl⟩:∃g,f=g+1:=⟨f-1,by omega⟩
   have e:iter S (f+1) (st i)=S (iter S f) (st i):=rfl
   rw[e,h1 _ i (by omega),show n-i=(n-(i+1))+1 by omega,allFrom]
   exact chk_step (ih f (i+1) (by omega) (by omega) (by omega))
 exact this n FUEL 0 (by omega) (by omega) (fuel_lt hn)
def IfI (x:List Ver×(Bs×PUnit)×Int×Int):Prop:=∃i:Nat,x.2.2.2=(i:Int)/\x.2.2.1=(x.1.length:Int)/\i<=x.1.length/\x.1.length<=4294967296
theorem ixf_step (go) (x:List Ver×(Bs×PUnit)×Int×Int) (hx:IfI x) (hgo:∀y,IfI y->(y.2.2.1-y.2.2.2).toNat<(x.2.2.1-x.2.2.2).toNat->go y=some (foundI (findI (fun b=>decide (b.1=y.2.1.1)) (y.1.drop y.2.2.2.toNat) y.2.2.2.toNat))):
  g_slices_IndexFunc_impl_Version_impl_Version_L7 go x=some (foundI (findI (fun b=>decide (b.1=x.2.1.1)) (x.1.drop x.2.2.2.toNat) x.2.2.2.toNat)):=by
 obtain⟨l,v,n,i⟩:=x
 obtain⟨k,h1,h2,h3,h4⟩:=hx
 simp only at h1 h2 h3 h4 hgo
 subst h1 h2
 unfold g_slices_IndexFunc_impl_Version_impl_Version_L7
 simp only[decN,Int.toNat_natCast,nnN,cond_true,i_Reg_has_1]
 by_cases hk:k<l.length
 ·rw[decide_eq_true hk,cond_true,List.getElem?_eq_getElem hk,Option.bind_some,Option.bind_some,drop_at hk,findI]
  cases hv:decide (l[k].1=v.1) with
  |true=>rfl
  |false=>
   simp only[cond_false,Bool.false_eq_true,if_false]
   rw[wSucc (by omega)]
   exact hgo (l,(v.1,()),(l.length:Int),((k+1:Nat):Int)) ⟨k+1,rfl,rfl,hk,h4⟩ (by simp only;omega)
 ·rw[decide_eq_false hk,cond_false,List.drop_eq_nil_of_le (by omega)];rfl
def hasN (l:List Ver) (b:Bs):Nat:=match findI (fun(v:Ver)=>decide (v.1=b)) l 0 with
 |none=>0
 |some j=>j+1
theorem i_has_is {r:RegT} {b:Bs} (h:r.1.length<=4294967296):i_Reg_has (r,b)=some (hasN r.1 b:Int):=by
 unfold i_Reg_has g_slices_IndexFunc_impl_Version_impl_Version hasN
 simp only
 rw[iter_is (g:=fun x=>some (foundI (findI (fun b=>decide (b.1=x.2.1.1)) (x.1.drop x.2.2.2.toNat) x.2.2.2.toNat))) (fun x=>(x.2.2.1-x.2.2.2).toNat) IfI ixf_step FUEL _ ⟨0,rfl,rfl,by simp,h⟩ (fuel_lt (by simp only;omega))]
 simp only[Option.bind_some,Int.toNat_zero,List.drop_zero]
 cases hf:findI (fun(v:Ver)=>decide (v.1=b)) r.1 0 with
 |none=>rfl
 |some j=>
  obtain⟨k,a,e1,e2,_⟩:=findI_some hf
  have:=(List.getElem?_eq_some_iff.1 e2).1
  simp only[foundI,sumK,Option.bind_some,Option.some.injEq]
  rw[w64 (by omega) (by omega)];omega
def LbI (x:List Ver×Bs×Int):Prop:=∃i:Nat,x.2.2=(i:Int)/\i<=x.1.length/\x.1.length<=4294967296
def found1 (o:Option Nat):PUnit⊕Int:=match o with
 |none=>.inl ()
 |some j=>.inr ((j+1:Nat):Int)
theorem lb_step (go) (x:List Ver×Bs×Int) (hx:LbI x) (hgo:∀y,LbI y->((y.1.length:Int)-y.2.2).toNat<((x.1.length:Int)-x.2.2).toNat->go y=some (found1 (findI (fun b=>decide (b.1=y.2.1)) (y.1.drop y.2.2.toNat) y.2.2.toNat))):
  s_l12Body_L7 go x=some (found1 (findI (fun b=>decide (b.1=x.2.1)) (x.1.drop x.2.2.toNat) x.2.2.toNat)):=by
 obtain⟨l,v,i⟩:=x
 obtain⟨k,h1,h3,h4⟩:=hx
 simp only at h1 h3 h4 hgo
 subst h1
 unfold s_l12Body_L7
 simp only[decN,Int.toNat_natCast,nnN,cond_true]
 by_cases hk:k<l.length
 ·rw[decide_eq_true hk,cond_true,List.getElem?_eq_getElem hk,Option.bind_some,drop_at hk,findI]
  cases hv:decide (l[k].1=v) with
  |true=>rw[wSucc (by omega)];rfl
  |false=>
   simp only[cond_false,Bool.false_eq_true,if_false]
   rw[wSucc (by omega)]
   exact hgo (l,v,((k+1:Nat):Int)) ⟨k+1,rfl,hk,h4⟩ (by simp only;omega)
 ·rw[decide_eq_false hk,cond_false,List.drop_eq_nil_of_le (by omega)];rfl
theorem s_body_is {l:List Ver} {b:Bs} (h:l.length<=4294967296):s_l12Body (l,b)=some (hasN l b:Int):=by
 unfold s_l12Body hasN
 simp only
 rw[iter_is (g:=fun x=>some (found1 (findI (fun b=>decide (b.1=x.2.1)) (x.1.drop x.2.2.toNat) x.2.2.toNat))) (fun x=>((x.1.length:Int)-x.2.2).toNat) LbI lb_step FUEL _ ⟨0,rfl,by simp,h⟩ (fuel_lt (by simp only;omega))]
 simp only[Option.bind_some,Int.toNat_zero,List.drop_zero]
 cases findI (fun(v:Ver)=>decide (v.1=b)) l 0<;>rfl
theorem hasN_zero {l:List Ver} {b:Bs}:hasN l b=0↔∀y∈l,y.1≠b:=by
 unfold hasN
 cases hf:findI (fun(v:Ver)=>decide (v.1=b)) l 0 with
 |none=>
  have:=findI_none.1 hf
  simp only[true_iff]
  exact fun y hy=>by simpa using this y hy
 |some j=>
  obtain⟨k,a,_,h2,h3,_⟩:=findI_some hf
  constructor
  ·intro h;simp at h
  ·intro h
   exact absurd (by simpa using h3) (h a (List.mem_of_getElem? h2))
theorem hasN_at {l:List Ver} {b:Bs} {i:Nat} {x:Ver} (hx:l[i]?=some x) (hb:x.1=b):hasN l b=i+1↔∀ (j:Nat) (y:Ver),j<i->l[j]?=some y->y.1≠b:=by
 constructor
 ·intro h j y hj hy
  unfold hasN at h
  cases hf:findI (fun(v:Ver)=>decide (v.1=b)) l 0 with
  |none=>rw[hf] at h;simp at h
  |some m=>
   rw[hf] at h
   obtain⟨k,a,e1,_,_,e4⟩:=findI_some hf
   have:=e4 j y (by simp at h;omega) hy
   simpa using this
 ·intro h
  unfold hasN
  rw[findI_of (p:=fun(v:Ver)=>decide (v.1=b)) hx (by simpa using hb) (fun m y hm hy=>by simpa using h m y hm hy)]
  simp
theorem hasN_some {l:List Ver} {b:Bs} (h:0<hasN l b):∃x,l[hasN l b-1]?=some x/\x.1=b/\hasN l b<=l.length:=by
 unfold hasN at h ⊢
 cases hf:findI (fun(v:Ver)=>decide (v.1=b)) l 0 with
 |none=>rw[hf] at h;simp at h
 |some j=>
  obtain⟨k,a,e1,e2,e3,_⟩:=findI_some hf
  have:=(List.getElem?_eq_some_iff.1 e2).1
  simp only[Nat.add_sub_cancel]
  exact⟨a,by rw[e1,Nat.zero_add];exact e2,by simpa using e3,by omega⟩
def cnt (n:Int) (l:List Int):Nat:=l.count n
theorem cnt_drop {n:Int} {l:List Int} {k:Nat} (h:k<l.length):cnt n (l.drop k)=(if l[k]=n then 1 else 0)+cnt n (l.drop (k+1)):=by
 unfold cnt
 rw[drop_at h,List.count_cons]
 by_cases hc:l[k]=n
 ·rw[if_pos (by simpa using hc),if_pos hc];omega
 ·rw[if_neg (by simpa using hc),if_neg hc];omega
def IaI (x:Int×Int×List Int×Int×Int):Prop:=∃k i:Nat,x.2.1=(k:Int)/\x.2.2.2.2=(i:Int)/\x.2.2.2.1=(x.2.2.1.length:Int)/\i<=x.2.2.1.length/\k<=i/\x.2.2.1.length<=4294967296
theorem ia_step (go) (x:Int×Int×List Int×Int×Int) (hx:IaI x) (hgo:∀y,IaI y->(y.2.2.2.1-y.2.2.2.2).toNat<(x.2.2.2.1-x.2.2.2.2).toNat->go y=some (y.2.1+(cnt y.1 (y.2.2.1.drop y.2.2.2.2.toNat):Int))):
  i_Reg_isActive_L9 go x=some (x.2.1+(cnt x.1 (x.2.2.1.drop x.2.2.2.2.toNat):Int)):=by
 obtain⟨n,m,l,z,j⟩:=x
 obtain⟨k,i,h1,h2,h3,h4,h5,h6⟩:=hx
 simp only at h1 h2 h3 h4 h6 hgo
 subst h1 h2 h3
 unfold i_Reg_isActive_L9
 simp only[decN,Int.toNat_natCast,nnN,cond_true]
 by_cases hi:i<l.length
 ·rw[decide_eq_true hi,cond_true,List.getElem?_eq_getElem hi,Option.bind_some,wSucc (by omega),wSucc (by omega),cnt_drop hi]
  by_cases hc:l[i]=n
  ·rw[decide_eq_true hc,cond_true,if_pos hc,hgo (n,((k+1:Nat):Int),l,(l.length:Int),((i+1:Nat):Int)) ⟨k+1,i+1,rfl,rfl,rfl,hi,by omega,h6⟩ (by simp only;omega)]
   simp only[Int.toNat_natCast,Option.some.injEq];omega
  ·rw[decide_eq_false hc,cond_false,if_neg hc,hgo (n,(k:Int),l,(l.length:Int),((i+1:Nat):Int)) ⟨k,i+1,rfl,rfl,rfl,hi,by omega,h6⟩ (by simp only;omega)]
   simp only[Int.toNat_natCast,Option.some.injEq];omega
 ·rw[decide_eq_false hi,cond_false,List.drop_eq_nil_of_le (by omega)];simp[cnt]
theorem i_active_is {r:RegT} {n:Int} (h:r.2.1.length<=4294967296):i_Reg_isActive (r,n)=some (decide (cnt n r.2.1=1)):=by
 unfold i_Reg_isActive
 simp only
 rw[iter_is (g:=fun x=>some (x.2.1+(cnt x.1 (x.2.2.1.drop x.2.2.2.2.toNat):Int))) (fun x=>(x.2.2.2.1-x.2.2.2.2).toNat) IaI ia_step FUEL _ ⟨0,0,rfl,rfl,rfl,by simp,by simp,h⟩ (fuel_lt (by simp only;omega))]
 simp only[Option.bind_some,Int.toNat_zero,List.drop_zero,Option.some.injEq,decide_eq_decide]
 omega
def ScI (x:RegT×Int×Int×Int):Prop:=∃k i m:Nat,x.2.1=(m:Int)/\x.2.2.1=(k:Int)/\x.2.2.2=(i:Int)/\i<=x.1.2.1.length/\k<=i/\x.1.2.1.length<=4294967296/\m<=1000
theorem sc_step (go) (x:RegT×Int×Int×Int) (hx:ScI x) (hgo:∀y,ScI y->((y.1.2.1.length:Int)-y.2.2.2).toNat<((x.1.2.1.length:Int)-x.2.2.2).toNat->go y=some (y.2.2.1+(cnt (y.2.1+1) (y.1.2.1.drop y.2.2.2.toNat):Int))):
  s_RegOk_L27 go x=some (x.2.2.1+(cnt (x.2.1+1) (x.1.2.1.drop x.2.2.2.toNat):Int)):=by
 obtain⟨r,mi,n,j⟩:=x
 obtain⟨k,i,m,h0,h1,h2,h4,h5,h6,h7⟩:=hx
 simp only at h0 h1 h2 h4 h6 hgo
 subst h0 h1 h2
 unfold s_RegOk_L27
 simp only[decN,Int.toNat_natCast,nnN,cond_true]
 by_cases hi:i<r.2.1.length
 ·rw[decide_eq_true hi,cond_true,List.getElem?_eq_getElem hi,Option.bind_some,wSucc (by omega),wSucc (by omega),wSucc (by omega),cnt_drop hi]
  have hm:((m+1:Nat):Int)=(m:Int)+1:=by omega
  by_cases hc:r.2.1[i]=(m:Int)+1
  ·rw[hm,decide_eq_true hc,cond_true,if_pos hc,hgo (r,(m:Int),((k+1:Nat):Int),((i+1:Nat):Int)) ⟨k+1,i+1,m,rfl,rfl,rfl,hi,by omega,h6,h7⟩ (by simp only;omega)]
   simp only[Int.toNat_natCast,Option.some.injEq];omega
  ·rw[hm,decide_eq_false hc,cond_false,if_neg hc,hgo (r,(m:Int),(k:Int),((i+1:Nat):Int)) ⟨k,i+1,m,rfl,rfl,rfl,hi,by omega,h6,h7⟩ (by simp only;omega)]
   simp only[Int.toNat_natCast,Option.some.injEq];omega
 ·rw[decide_eq_false hi,cond_false,List.drop_eq_nil_of_le (by omega)];simp[cnt]
theorem s_count_is {r:RegT} {m:Nat} (h:r.2.1.length<=4294967296) (hm:m<=1000):iter s_RegOk_L27 FUEL (r,(m:Int),0,0)=some (cnt ((m:Int)+1) r.2.1:Int):=by
 rw[iter_is (g:=fun x=>some (x.2.2.1+(cnt (x.2.1+1) (x.1.2.1.drop x.2.2.2.toNat):Int))) (fun x=>((x.1.2.1.length:Int)-x.2.2.2).toNat) ScI sc_step FUEL _ ⟨0,0,m,rfl,rfl,rfl,by simp,by simp,h,hm⟩ (fuel_lt (by simp only;omega))]
 simp
end Go.Proofs.YtacbkfginiknaaaDoor
