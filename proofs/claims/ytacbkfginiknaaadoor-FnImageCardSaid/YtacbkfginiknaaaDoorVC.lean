/- A typed evaluator of the program's code and its soundness (part VC). Of a function it shows what it computes, as a plain function on numbers, bools, strings, lists and pairs. -/
import Derived.Test.YtacbkfginiknaaaDoorVB
import Derived.Stop.Looks
open Array renaming getD_eq_getD_getElem?->AC,getElem?_eq_some_iff->AD,getElem?_eq_getElem->AP,getElem?_setIfInBounds_self_of_lt->AQ,size_setIfInBounds->AX,getElem?_eq_none->Ac,all_eq_true_iff_forall_mem->Am,getElem?_setIfInBounds_ne->Ax,ext_getElem?->B5,getElem?_modify->BJ,any_eq_true'->BM,toList_map->BQ,toList_inj->BS
open Bool renaming and_eq_true->A4,or_eq_true->A8,not_eq_true'->AG,not_true->Ak,false_eq_true->B4,false_or->B6
open Classical renaming byContradiction->BC
open Go.Region renaming waitsFor->A5,ready->AH,waitsFor_spec->AL,wanted->AO,noSelect_spec->AY,binds->Ar,noSelect->BA
open Go.Result renaming andThen_ok->Aa,andThen_halt->BL
open Go.Sem renaming run_bind->Ai,run_pure->Aj,Looks->BH
open Go.World renaming setRow->BE,setCell->BV,cell?->BW
open List renaming mem_range->A6,nodup_append->A7,mem_append_right->A9,mem_append_left->AE,mem_cons_of_mem->AI,all_eq_true->AJ,mem_append->AM,mem_cons_self->AN,getD_eq_getElem?_getD->AR,mem_cons->AS,getElem?_eq_some_iff->AT,range->AV,mem_map->AZ,mem_filter->Ae,contains_iff_mem->Af,map_cons->Al,mem_filterMap->An,getElem?_set_ne->Aq,countP_eq_zero->Av,countP_pos_iff->Aw,nodup_cons->Ay,eq_nil_of_length_eq_zero->Az,any_eq_true->B0,nodup_range->B1,map_congr_left->B2,length_cons->B7,mem_flatMap->B8,cons_append->B9,range'->BB,getElem?_cons_succ->BF,length_nil->BG,pairwise_lt_range->BI,Pairwise->BK,mem_singleton->BO,map_nil->BP,nil_append->BT
open Nat renaming lt_of_lt_of_le->AB,le_refl->AW,le_trans->Ab,lt_or_ge->Ah,zero_add->Ao,lt_succ_of_lt->As,le_of_not_lt->Au,strongRecOn->B3,ne_of_lt->BN,lt_succ_self->BR,le_succ->BX
open Option renaming bind_some->AU,getD_some->BD
open Option.some renaming inj->A3,injEq->Ad
open Prod.mk renaming injEq->BU
namespace Go.Proofs.YtacbkfginiknaaaDoor.V
open Go
section
variable {P:Program} {X:Ctx} {E:Env} {σ0:St} {A0:Array Value} {a:Act} {w:World} {R:Type} {ops:Array Oper} {D:List Nat} {m nn:Nat}
structure SameB (σ0 σ:St):Prop where
 bx:σ.bx=σ0.bx
 al:σ.al=σ0.al
 fz:σ.fz=σ0.fz
 ln:σ.ln=σ0.ln
 nt:σ.nt=σ0.nt
 len:σ.fr.length=σ0.fr.length
theorem SameB.refl (σ:St):SameB σ σ:=⟨rfl,rfl,rfl,rfl,rfl,rfl⟩
theorem SameB.eq {σ0 σ:St} (h:SameB σ0 σ):σ={σ0 with fr:=σ.fr}:=by
 obtain⟨fr,bx,al,fz,ln,nt⟩:=σ
 obtain⟨h1,h2,h3,h4,h5,_⟩:=h
 simp only at h1 h2 h3 h4 h5
 subst h1;subst h2;subst h3;subst h4;subst h5;rfl
theorem SameB.put {σ0 σ:St} (h:SameB σ0 σ) (d:Option Tmp) (s:Slot):SameB σ0 (σ.put d s):=by
 cases d with
 |none=>exact h
 |some d=>exact⟨h.bx,h.al,h.fz,h.ln,h.nt,by simp[St.put,h.len]⟩
theorem SameB.clear {σ0 σ:St} (h:SameB σ0 σ) (g:List (Oper×Nat)):SameB σ0 (clearD g σ):=by
 obtain⟨h1,h2,h3,h4,h5,h6,_⟩:=clearD_fr g σ
 exact⟨h1.trans h.bx,h2.trans h.al,h3.trans h.fz,h4.trans h.ln,h5.trans h.nt,h6.trans h.len⟩
theorem hideL_len (D l:List Nat):∀ (fr:List Slot) (i:Nat),(hideL D l i fr).length=fr.length:=by
 intro fr
 induction fr with
 |nil=>intro i;rfl
 |cons s fr ih=>intro i;simp[hideL,ih]
theorem hideL_at (D l:List Nat):∀ (fr:List Slot) (i t:Nat),(hideL D l i fr)[t]?=(fr[t]?).map fun s=>bif D.contains (i+t)&& !l.contains (i+t) then .no else s:=by
 intro fr
 induction fr with
 |nil=>intro i t;simp[hideL]
 |cons s fr ih=>
  intro i t
  cases t with
  |zero=>simp[hideL]
  |succ t=>
   simp only[hideL,BF]
   rw[ih,show i+1+t=i+(t+1) by omega]
theorem SameB.hide {σ0 σ:St} (h:SameB σ0 σ) (l:List Nat):SameB σ0 (hide D l σ):=⟨h.bx,h.al,h.fz,h.ln,h.nt,(hideL_len D l σ.fr 0).trans h.len⟩
theorem hide_at {l:List Nat} {σ:St} {t:Nat} {s:Slot} (h:(hide D l σ).fr[t]?=some s):s= .no\/(σ.fr[t]?=some s/\(t∈D->t∈l)):=by
 simp only[hide,hideL_at,Option.map_eq_some_iff,Ao] at h
 obtain⟨s',h1,h2⟩:=h
 cases hb:D.contains t&& !l.contains t with
 |true=>rw[hb] at h2;exact .inl h2.symm
 |false=>
  rw[hb] at h2
  simp only[cond_false] at h2
  subst h2
  refine .inr ⟨h1,fun hD=>?_⟩
  simp only[Bool.and_eq_false_iff,Bool.not_eq_false',List.contains_eq_mem,decide_eq_false_iff_not,decide_eq_true_eq] at hb
  rcases hb with hb|hb
  ·exact absurd hD hb
  ·exact hb
theorem opd_hide {l:List Nat} {σ:St} {x:Operand} (h:∀t,x= .tmp t->t∈l):opd (hide D l σ) x=opd σ x:=by
 cases x with
 |tmp t=>
  simp only[opd,AR,hide,hideL_at,Ao]
  have:l.contains t=true:=by simpa using h t rfl
  rw[this]
  cases σ.fr[t]?<;>simp
 |const v=>
  cases v with
  |slice a n c=>cases a<;>cases n<;>cases c<;>rfl
  |_=>rfl
 |_=>rfl
structure Walk (ops:Array Oper) (S:Nat->Slot) (σ0 σ:St) (i:Nat):Prop where
 same:SameB σ0 σ
 slot:∀t s,σ.fr[t]?=some s->s= .no\/((∀j p,j<i->ops[j]?=some p->p.dst≠some t)/\σ0.fr[t]?=some s)\/∃j p,j<i/\ops[j]?=some p/\p.dst=some t/\s=S j
structure Sees (D:List Nat) (ops:Array Oper) (S:Nat->Slot) (σ0 σ:St) (i:Nat) (o:Oper):Prop where
 same:SameB σ0 σ
 slot:∀t s,σ.fr[t]?=some s->s= .no\/(t∉D/\σ0.fr[t]?=some s)\/∃j p,j<i/\ops[j]?=some p/\p.dst=some t/\t∈o.looksAt ops/\s=S j
structure HeadOk (ops:Array Oper) (D:List Nat) (m n:Nat):Prop where
 le:m<=n
 mem:∀t,t∈D↔∃j p,j<n/\ops[j]?=some p/\p.dst=some t
 dep:∀i o j p t,i<m->ops[i]?=some o->j<n->ops[j]?=some p->p.dst=some t->t∈o.looksAt ops->j<i
 inj:∀i o j p t,i<n->ops[i]?=some o->j<n->ops[j]?=some p->o.dst=some t->p.dst=some t->i=j
theorem Walk.sees (H:HeadOk ops D m nn) {S:Nat->Slot} {σ:St} {i:Nat} {o:Oper} (h:Walk ops S σ0 σ i) (him:i<m) (ho:ops[i]?=some o):Sees D ops S σ0 (hide D (o.looksAt ops) σ) i o:=by
 refine⟨h.same.hide _,fun t s hs=>?_⟩
 rcases hide_at hs with hn|⟨h1,h2⟩
 ·exact .inl hn
 ·rcases h.slot t s h1 with h3|⟨h3,h4⟩|⟨j,p,h3,h4,h5,h6⟩
  ·exact .inl h3
  ·refine .inr (.inl ⟨fun hD=>?_,h4⟩)
   obtain⟨j,p,q1,q2,q3⟩:=(H.mem t).1 hD
   exact h3 j p (H.dep i o j p t him ho q1 q2 q3 (h2 hD)) q2 q3
  ·exact .inr (.inr ⟨j,p,h3,h4,h5,h2 ((H.mem t).2 ⟨j,p,AB (Nat.lt_trans h3 him) H.le,h4,h5⟩),h6⟩)
def Guards (ops:Array Oper) (S:Nat->Slot) (sk:Nat->Bool) (n i j:Nat) (w:Bool):Prop:=
 j<i/\sk j=false/\∃c,dstOf ops j=some c/\c<n/\∃ms h,S j= .val ⟨.bool,w,ms⟩ h
def CertAt (P:Program) (X:Ctx) (D:List Nat) (ops:Array Oper) (S:Nat->Slot) (sk:Nat->Bool) (σ0:St) (i:Nat) (o:Oper):Prop:=
 (sk i=true/\S i= .no/\∃j w,o.guard=some (j,w)/\j<i/\(sk j=true\/∃v,v≠w/\Guards ops S sk σ0.fr.length i j v))\/
 (sk i=false/\(∀j w,o.guard=some (j,w)->Guards ops S sk σ0.fr.length i j w)/\∃σ,Sees D ops S σ0 σ i o/\∀ (E:Env) (a:Act) (w:World),RelE X E σ a.tmps w->slotUpon P X E σ w (S i) ((execOp a.eval o).run P w))
theorem Guards.congr {S S':Nat->Slot} {sk sk':Nat->Bool} {n i j:Nat} {w:Bool} (h:Guards ops S sk n i j w) (hs:∀k,k<i->S' k=S k/\sk' k=sk k):Guards ops S' sk' n i j w:=by
 obtain⟨h1,h2,c,h3,h4,ms,hm,h5⟩:=h
 exact⟨h1,(hs j h1).2.trans h2,c,h3,h4,ms,hm,(hs j h1).1.trans h5⟩
theorem Sees.congr {S S':Nat->Slot} {σ:St} {i:Nat} {o:Oper} (h:Sees D ops S σ0 σ i o) (hs:∀k,k<i->S' k=S k):Sees D ops S' σ0 σ i o:=
 ⟨h.same,fun t s ht=>by
  rcases h.slot t s ht with h1|h1|⟨j,p,h1,h2,h3,h4,h5⟩
  ·exact .inl h1
  ·exact .inr (.inl h1)
  ·exact .inr (.inr ⟨j,p,h1,h2,h3,h4,h5.trans (hs j h1).symm⟩)⟩
theorem Walk.congr {S S':Nat->Slot} {σ:St} {i:Nat} (h:Walk ops S σ0 σ i) (hs:∀k,k<i->S' k=S k):Walk ops S' σ0 σ i:=
 ⟨h.same,fun t s ht=>by
  rcases h.slot t s ht with h1|h1|⟨j,p,h1,h2,h3,h5⟩
  ·exact .inl h1
  ·exact .inr (.inl h1)
  ·exact .inr (.inr ⟨j,p,h1,h2,h3,h5.trans (hs j h1).symm⟩)⟩
theorem CertAt.congr {S S':Nat->Slot} {sk sk':Nat->Bool} {i:Nat} {o:Oper} (h:CertAt P X D ops S sk σ0 i o) (hs:∀k,k<i+1->S' k=S k/\sk' k=sk k):CertAt P X D ops S' sk' σ0 i o:=by
 have hs':∀k,k<i->S' k=S k/\sk' k=sk k:=fun k hk=>hs k (by omega)
 have hi:=hs i (by omega)
 rcases h with⟨h1,h2,j,w,h3,h4,h5⟩|⟨h1,h2,σ,h3,h4⟩
 ·refine .inl ⟨hi.2.trans h1,hi.1.trans h2,j,w,h3,h4,?_⟩
  rcases h5 with h5|⟨v,h5,h6⟩
  ·exact .inl ((hs' j h4).2.trans h5)
  ·exact .inr ⟨v,h5,h6.congr hs'⟩
 ·refine .inr ⟨hi.2.trans h1,fun j w hg=>(h2 j w hg).congr hs',σ,h3.congr (fun k hk=>(hs' k hk).1),fun E a w hr=>?_⟩
  rw[hi.1];exact h4 E a w hr
theorem Walk.put {S:Nat->Slot} {σ:St} {i:Nat} {o:Oper} (h:Walk ops S σ0 σ i) (ho:ops[i]?=some o) {d:Tmp} (hd:o.dst=some d) (s:Slot) (S':Nat->Slot) (hS:∀k,k<i->S' k=S k) (hSi:S' i=s):Walk ops S' σ0 (σ.put o.dst s) (i+1):=by
 refine⟨h.same.put _ _,fun t u ht=>?_⟩
 rw[hd] at ht
 simp only[St.put] at ht
 by_cases htd:d=t
 ·subst htd
  rw[List.getElem?_set_self (by have:=(AT.1 ht).1;simpa using this)] at ht
  injection ht with ht
  exact .inr (.inr ⟨i,o,by omega,ho,hd,by rw[hSi,ht]⟩)
 ·rw[Aq htd] at ht
  rcases h.slot t u ht with h1|⟨h1,h2⟩|⟨j,p,h1,h2,h3,h5⟩
  ·exact .inl h1
  ·refine .inr (.inl ⟨fun j p hj hp he=>?_,h2⟩)
   rcases Ah j i with hji|hji
   ·exact h1 j p hji hp he
   ·have:j=i:=by omega
    subst this
    rw[ho] at hp
    have:=A3 hp
    subst this
    rw[hd] at he
    exact htd (A3 he)
  ·exact .inr (.inr ⟨j,p,by omega,h2,h3,h5.trans (hS j h1).symm⟩)
theorem Walk.clear {S S':Nat->Slot} {σ:St} {i n:Nat} {g:List (Oper×Nat)} (h:Walk ops S σ0 σ i) (hS:∀k,k<i->S' k=S k) (hn:i<=n) (hg:∀j p,i<=j->j<n->ops[j]?=some p->(p,j)∈g):Walk ops S' σ0 (clearD g σ) n:=by
 refine⟨h.same.clear g,fun t u ht=>?_⟩
 obtain⟨_,_,_,_,_,_,h7⟩:=clearD_fr g σ
 rcases h7 t u ht with h1|⟨h1,h2⟩
 ·exact .inl h1
 ·rcases h.slot t u h1 with h3|⟨h3,h4⟩|⟨j,p,q1,q2,q3,q5⟩
  ·exact .inl h3
  ·refine .inr (.inl ⟨fun j p hj hp he=>?_,h4⟩)
   rcases Ah j i with hji|hji
   ·exact h3 j p hji hp he
   ·exact h2 (p,j) (hg j p hji hj hp) he
  ·exact .inr (.inr ⟨j,p,by omega,q2,q3,q5.trans (hS j q1).symm⟩)
theorem contig_mem:∀ {l:List (Oper×Nat)} {i:Nat},Contig i l->∀q∈l,i<=q.2/\q.2<i+l.length:=by
 intro l
 induction l with
 |nil=>intro i _ q hq;cases hq
 |cons x l ih=>
  intro i h q hq
  rcases AS.1 hq with rfl|hq
  ·have:=h.1;simp;omega
  ·have:=ih h.2 q hq;simp;omega
theorem contig_has:∀ {l:List (Oper×Nat)} {i:Nat},Contig i l->(∀q∈l,ops[q.2]?=some q.1)->∀j p,i<=j->j<i+l.length->ops[j]?=some p->(p,j)∈l:=by
 intro l
 induction l with
 |nil=>intro i _ _ j p h1 h2;simp at h2;omega
 |cons x l ih=>
  intro i h hi j p h1 h2 hp
  by_cases hj:j=i
  ·subst hj
   have:=hi x AN
   rw[h.1,hp] at this
   have e:=A3 this
   have:(p,j)=x:=Prod.ext e h.1.symm
   rw[this];exact AN
  ·exact AI _ (ih h.2 (fun q hq=>hi q (AI _ hq)) j p (by omega) (by simp at h2;omega) hp)
theorem boolOf_some {s:Slot} {v:Bool} (h:boolOf s=some v):∃ms hm,s= .val ⟨.bool,v,ms⟩ hm:=by
 unfold boolOf at h
 split at h
 ·rename_i b ms hm
  injection h with h;subst h;exact⟨ms,hm,rfl⟩
 ·cases h
theorem pick_upon {σ:St} {o:Oper} {c:Tmp} {x y:Operand} (ho:o.op= .pick (.tmp c) x y) {v t:Bool} (hc:boolOf (opd σ (.tmp c))=some v) (ht:boolOf (opd σ (bif v then x else y))=some t) (hr:RelE X E σ a.tmps w):
  slotUpon P X E σ w (.val ⟨.bool,t,[]⟩ none) ((execOp a.eval o).run P w):=by
 obtain⟨ms,hm,e1⟩:=boolOf_some hc
 obtain⟨ms',hm',e2⟩:=boolOf_some ht
 have h1:a.eval (.tmp c)= .bool v:=val_bool (slot_of_opd hr e1)
 have h2:a.eval (bif v then x else y)= .bool t:=val_bool (slot_of_opd hr e2)
 have hx:(execOp a.eval o).run P w= .ok (.value (.bool t)) w:=by
  simp only[execOp,ho,h1,asBool,Ai,Aj,Aa]
  rw[<-h2]
  cases v<;>simp
 rw[hx]
 exact⟨Ext.refl w,slot_bool t none⟩
theorem bool_yes {v w:Bool} (h:(bif w then v else !v)=true):v=w:=by cases v<;>cases w<;>simp_all
theorem bool_no {v w:Bool} (h:(bif w then v else !v)=false):v= !w:=by cases v<;>cases w<;>simp_all
theorem clear_at {u:Tmp}:∀ (g:List (Oper×Nat)) (σ:St),(∀q∈g,q.1.dst≠some u)->(clearD g σ).fr[u]?=σ.fr[u]?:=by
 intro g
 induction g with
 |nil=>intro σ _;rfl
 |cons q g ihg=>
  intro σ hq
  have e:clearD (q::g) σ=clearD g (σ.put q.1.dst .no):=rfl
  rw[e,ihg _ (fun q' hq'=>hq q' (AI _ hq'))]
  cases hdq:q.1.dst with
  |none=>rfl
  |some dq=>simp only[St.put];rw[Aq (fun e=>hq q AN (by rw[hdq,e]))]
theorem head_cert (T:Tabs) (hT:TabOk P T.T) (hF:FOk P T.F) (H:HeadOk ops D m nn):∀ (n:Nat) {act:List (Nat×Bool)} {R:Type} {l:List (Oper×Nat)} {i:Nat} {σ:St} {k:St->Option R} {r:R} {S:Nat->Slot} {sk:Nat->Bool},
  headK T D ops n act R l σ k=some r->Contig i l->(∀q∈l,ops[q.2]?=some q.1)->i+l.length<=m->(∀q∈l,headOp T q.1.op=true/\∃d,q.1.dst=some d)->Walk ops S σ0 σ i->(∀j,j<i->sk j=true->S j= .no)->
  (∀g∈act,Guards ops S sk σ0.fr.length i g.1 g.2)->
  ∃S' sk' σ',(∀j,j<i->S' j=S j/\sk' j=sk j)/\(∀j o,i<=j->j<i+l.length->ops[j]?=some o->CertAt P X D ops S' sk' σ0 j o)/\Walk ops S' σ0 σ' (i+l.length)/\(∀j,j<i+l.length->sk' j=true->S' j= .no)/\k σ'=some r/\
   ∀t,(∀q∈l,q.1.dst≠some t)->σ'.fr[t]?=σ.fr[t]?:=by
 intro n
 induction n with
 |zero=>
  intro act R l i σ k r S sk h hc hi hm hh hw hsk _
  cases l with
  |nil=>exact⟨S,sk,σ,fun _ _=>⟨rfl,rfl⟩,fun j o h1 h2=>by simp at h2;omega,hw,hsk,by simpa[headK] using h,fun _ _=>rfl⟩
  |cons o l=>simp[headK] at h
 |succ n ih=>
  intro act R l i σ k r S sk h hc hi hm hh hw hsk hact
  cases l with
  |nil=>exact⟨S,sk,σ,fun _ _=>⟨rfl,rfl⟩,fun j o h1 h2=>by simp at h2;omega,hw,hsk,by simpa[headK] using h,fun _ _=>rfl⟩
  |cons o l=>
   simp only[headK] at h
   have ho:=hi o AN
   have ho2:o.2=i:=hc.1
   rw[ho2] at ho
   have him:i<m:=by simp at hm;omega
   obtain⟨hhd,d,hd⟩:=hh o AN
   split at h
   ·rename_i hg
    have hgs:∀j w,o.1.guard=some (j,w)->Guards ops S sk σ0.fr.length i j w:=by
     intro j w hgu
     unfold openG at hg
     rw[hgu] at hg
     simp only at hg
     cases hcon:act.contains (j,w) with
     |false=>rw[hcon] at hg;simp at hg
     |true=>exact hact (j,w) (by simpa using hcon)
    obtain⟨s,h1,h2⟩:=slotK_nat T hhd h
    have hS1:∀j,j<i->(fun j=>if j=i then s else S j) j=S j:=fun j hj=>if_neg (by omega)
    have hsk1:∀j,j<i->(fun j=>if j=i then false else sk j) j=sk j:=fun j hj=>if_neg (by omega)
    have hbth:∀j,j<i->(fun j=>if j=i then s else S j) j=S j/\(fun j=>if j=i then false else sk j) j=sk j:=fun j hj=>⟨hS1 j hj,hsk1 j hj⟩
    obtain⟨S',sk',σ',q1,q2,q3,q4,q5,q6⟩:=ih h1 hc.2 (fun q hq=>hi q (AI _ hq)) (by simp at hm;omega) (fun q hq=>hh q (AI _ hq))
     (hw.put ho hd s (fun j=>if j=i then s else S j) hS1 (if_pos rfl)) (sk:=fun j=>if j=i then false else sk j) (fun j hj hs=>by
      by_cases hji:j=i
      ·simp[hji] at hs
      ·simp only[if_neg hji] at hs ⊢;exact hsk j (by omega) hs)
     (fun g hg=>by
      have:=(hact g hg).congr hbth
      exact⟨by have:=this.1;omega,this.2⟩)
    refine⟨S',sk',σ',fun j hj=>⟨((q1 j (by omega)).1).trans (hS1 j hj),((q1 j (by omega)).2).trans (hsk1 j hj)⟩,fun j p h3 h4 hp=>?_,?_,fun j hj=>q4 j (by simp at hj;omega),q5,fun t ht=>?_⟩
    ·by_cases hji:j=i
     ·subst hji
      rw[ho] at hp
      have:=A3 hp
      subst this
      have hcert:CertAt P X D ops (fun k=>if k=j then s else S k) (fun k=>if k=j then false else sk k) σ0 j o.1:=
       .inr ⟨if_pos rfl,fun j' w hg'=>(hgs j' w hg').congr hbth,_,(hw.sees H him ho).congr hS1,fun E a w hr=>by
        simp only[if_pos]
        exact slotK_ok T hT hF hhd (h2 _ _) hr⟩
      exact hcert.congr fun k hk=>q1 k (by omega)
     ·exact q2 j p (by omega) (by simp at h4;omega) hp
    ·rw[B7,show i+(l.length+1)=i+1+l.length by omega];exact q3
    ·rw[q6 t (fun q hq=>ht q (AI _ hq)),hd]
     simp only[St.put]
     rw[Aq (fun e=>ht o AN (by rw[hd,e]))]
   ·rename_i j w0 hg
    split at h
    ·rename_i x1 x2 g d' c x y ty pos af pg i' r' hsp
     have hl:=spanG_eq j _ hsp
     cases hb1:((decide (j<o.2)&&dstOf ops j==some c)&&g.all fun q=>okG T o.snd j w0 c q.fst q.snd)&&pgOk act pg with
     |false=>rw[hb1] at h;simp at h
     |true=>
      rw[hb1] at h
      simp only[cond_true] at h
      simp only[A4,beq_iff_eq,AJ,decide_eq_true_eq] at hb1
      obtain⟨⟨⟨hji,hdst⟩,hall⟩,hpg⟩:=hb1
      rw[ho2] at hji hall
      cases hv:boolOf (σ.fr.getD c .no) with
      |none=>rw[hv] at h;simp at h
      |some v=>
       rw[hv] at h
       simp only[Option.bind_eq_some_iff] at h
       obtain⟨t,ht,hk⟩:=h
       have hgd:Guards ops S sk σ0.fr.length i j v:=by
        obtain⟨ms,hm',e⟩:=boolOf_some hv
        rw[AR] at e
        cases hz:σ.fr[c]? with
        |none=>rw[hz] at e;cases e
        |some u=>
         rw[hz] at e
         simp only[BD] at e
         subst e
         have hlt:c<σ0.fr.length:=by rw[<-hw.same.len];exact(AT.1 hz).1
         obtain⟨pj,hpj,hpd⟩:∃pj,ops[j]?=some pj/\pj.dst=some c:=by
          unfold dstOf at hdst
          cases hp:ops[j]? with
          |none=>rw[hp] at hdst;cases hdst
          |some pj=>rw[hp] at hdst;exact⟨pj,rfl,hdst⟩
         have hSj: .val ⟨.bool,v,ms⟩ hm'=S j:=by
          rcases hw.slot c _ hz with h1|⟨h1,_⟩|⟨j',p',h1,h2,h3,h4⟩
          ·cases h1
          ·exact absurd hpd (h1 j pj hji hpj)
          ·have:=H.inj j' p' j pj c (by have:=H.le;omega) h2 (by have:=H.le;omega) hpj h3 hpd
           subst this
           exact h4
         refine⟨hji,?_,c,hdst,hlt,ms,hm',hSj.symm⟩
         cases hs:sk j with
         |false=>rfl
         |true=>rw[hsk j hji hs] at hSj;cases hSj
       have hgc:∀q∈g,q.1.dst≠some c:=fun q hq=>by
        have:=hall q hq
        simp only[okG,okH,A4,AG,beq_eq_false_iff_ne,ne_eq] at this
        exact this.1.2
       rw[hl] at hc hi hm hh ⊢
       obtain⟨hc1,hc2⟩:=contig_append hc
       have hi'2:i'=i+g.length:=hc2.1
       have hmem:∀q∈g,q∈g++(⟨some d',.pick (.tmp c) x y,ty,pos,af,pg⟩,i')::r':=fun q hq=>AE _ hq
       have hmem2:∀q∈r',q∈g++((⟨some d',.pick (.tmp c) x y,ty,pos,af,pg⟩:Oper),i')::r':=fun q hq=>A9 _ (AI _ hq)
       have hpi:ops[i']?=some ⟨some d',.pick (.tmp c) x y,ty,pos,af,pg⟩:=hi _ (A9 _ AN)
       have hlen:(g++((⟨some d',.pick (.tmp c) x y,ty,pos,af,pg⟩:Oper),i')::r').length=g.length+1+r'.length:=by simp;omega
       rw[hlen] at hm ⊢
       have hgin:=contig_has hc1 (fun q hq=>hi q (hmem q hq))
       have fin:∀ (S1:Nat->Slot) (sk1:Nat->Bool) (σ1:St),(∀k,k<i->S1 k=S k/\sk1 k=sk k)->(∀k o,i<=k->k<i'->ops[k]?=some o->CertAt P X D ops S1 sk1 σ0 k o)->(∀k,k<i'->sk1 k=true->S1 k= .no)->Walk ops S1 σ0 σ1 i'->
         boolOf (σ1.fr.getD c .no)=some v->boolOf (opd σ1 (bif v then x else y))=some t->
         ∃S' sk' σ',(∀k,k<i->S' k=S k/\sk' k=sk k)/\(∀k o,i<=k->k<i+(g.length+1+r'.length)->ops[k]?=some o->CertAt P X D ops S' sk' σ0 k o)/\Walk ops S' σ0 σ' (i+(g.length+1+r'.length))/\(∀k,k<i+(g.length+1+r'.length)->sk' k=true->S' k= .no)/\k σ'=some r/\
          ∀t,(∀q∈g++((⟨some d',.pick (.tmp c) x y,ty,pos,af,pg⟩:Oper),i')::r',q.1.dst≠some t)->σ'.fr[t]?=σ.fr[t]?:=by
        intro S1 sk1 σ1 e1 e2 e3 e4 e5 e6
        have hS2:∀k,k<i'->(fun k=>if k=i' then Slot.val ⟨.bool,t,[]⟩ none else S1 k) k=S1 k:=fun k hk=>if_neg (by omega)
        have hsk2:∀k,k<i'->(fun k=>if k=i' then false else sk1 k) k=sk1 k:=fun k hk=>if_neg (by omega)
        have hb2:∀k,k<i'->(fun k=>if k=i' then Slot.val ⟨.bool,t,[]⟩ none else S1 k) k=S1 k/\(fun k=>if k=i' then false else sk1 k) k=sk1 k:=fun k hk=>⟨hS2 k hk,hsk2 k hk⟩
        have hb3:∀k,k<i->(fun k=>if k=i' then Slot.val ⟨.bool,t,[]⟩ none else S1 k) k=S k/\(fun k=>if k=i' then false else sk1 k) k=sk k:=fun k hk=>⟨(hS2 k (by omega)).trans (e1 k hk).1,(hsk2 k (by omega)).trans (e1 k hk).2⟩
        have hwk:Walk ops (fun k=>if k=i' then Slot.val ⟨.bool,t,[]⟩ none else S1 k) σ0 ((clearD g σ).put (some d') (.val ⟨.bool,t,[]⟩ none)) (i'+1):=by
         have h1:=hw.clear (S':=S1) (n:=i') (g:=g) (fun k hk=>(e1 k hk).1) (by omega) (fun j p h1 h2 hp=>hgin j p h1 (by omega) hp)
         exact h1.put hpi (d:=d') rfl _ _ hS2 (if_pos rfl)
        have hact2:∀q∈act,Guards ops (fun k=>if k=i' then Slot.val ⟨.bool,t,[]⟩ none else S1 k) (fun k=>if k=i' then false else sk1 k) σ0.fr.length (i'+1) q.1 q.2:=fun q hq=>by
         have h1:=(hact q hq).congr hb3
         exact⟨by have:=h1.1;omega,h1.2⟩
        obtain⟨S',sk',σ',q1,q2,q3,q4,q5,q6⟩:=ih hk (by have:=hc2.2;rwa [<-hi'2] at this) (fun q hq=>hi q (hmem2 q hq)) (by omega) (fun q hq=>hh q (hmem2 q hq)) hwk (sk:=fun k=>if k=i' then false else sk1 k) (fun k hk hs=>by
          by_cases hki:k=i'
          ·simp[hki] at hs
          ·simp only[if_neg hki] at hs ⊢;exact e3 k (by omega) hs) hact2
        have hlen2:i+(g.length+1+r'.length)=i'+1+r'.length:=by omega
        rw[hlen2]
        refine⟨S',sk',σ',fun k hk=>⟨((q1 k (by omega)).1).trans (hb3 k hk).1,((q1 k (by omega)).2).trans (hb3 k hk).2⟩,fun k p h1 h2 hp=>?_,q3,q4,q5,fun u hu=>?_⟩
        ·rcases Ah k i' with hki|hki
         ·exact(e2 k p h1 hki hp).congr fun z hz=>⟨((q1 z (by omega)).1).trans (hS2 z (by omega)),((q1 z (by omega)).2).trans (hsk2 z (by omega))⟩
         ·by_cases hk2:k=i'
          ·subst hk2
           rw[hpi] at hp
           have:=A3 hp
           subst this
           have hcert:CertAt P X D ops (fun z=>if z=k then Slot.val ⟨.bool,t,[]⟩ none else S1 z) (fun z=>if z=k then false else sk1 z) σ0 k ⟨some d',.pick (.tmp c) x y,ty,pos,af,pg⟩:=by
            refine .inr ⟨if_pos rfl,fun j' w hg'=>?_,_,(e4.sees H (by omega) hpi).congr hS2,fun E a w hr=>?_⟩
            ·have hg2:pg=some (j',w):=hg'
             subst hg2
             have h1:=(hact (j',w) (by simpa[pgOk] using hpg)).congr hb3
             exact⟨by have:=h1.1;omega,h1.2⟩
            ·simp only[if_pos]
             have hlc:c∈Oper.looksAt ops ⟨some d',.pick (.tmp c) x y,ty,pos,af,pg⟩:=AE _ (An.2 ⟨.tmp c,by simp[Op.operands],rfl⟩)
             refine pick_upon rfl (v:=v) (t:=t) ?_ ?_ hr
             ·rw[opd_hide (fun u hu=>by cases hu;exact hlc)];exact e5
             ·have hop:opd (hide D (Oper.looksAt ops ⟨some d',.pick (.tmp c) x y,ty,pos,af,pg⟩) σ1) (bif v then x else y)=opd σ1 (bif v then x else y):=opd_hide fun u hu=>AE _ (An.2 ⟨.tmp u,by rw[<-hu];cases v<;>simp[Op.operands],rfl⟩)
              rw[hop];exact e6
           exact hcert.congr fun z hz=>q1 z (by omega)
          ·exact q2 k p (by omega) (by omega) hp
        ·rw[q6 u (fun q hq=>hu q (hmem2 q hq))]
         simp only[St.put]
         rw[Aq (fun e=>hu _ (A9 _ AN) (by rw[e]))]
         exact clear_at g σ (fun q hq=>hu q (hmem q hq))
       cases hvw:(bif w0 then v else !v) with
       |true=>
        rw[hvw] at ht
        simp only[cond_true] at ht
        have hvw':v=w0:=bool_yes hvw
        subst hvw'
        obtain⟨S1,sk1,σ1,e1,e2,e3,e4,e5,e6⟩:=ih ht hc1 (fun q hq=>hi q (hmem q hq)) (by omega) (fun q hq=>hh q (hmem q hq)) hw hsk (by
         intro q hq
         rcases AS.1 hq with rfl|hq
         ·exact hgd
         ·exact hact q hq)
        rw[<-hi'2] at e2 e3 e4
        refine fin S1 sk1 σ1 e1 e2 e4 e3 ?_ e5
        rw[AR,e6 c hgc,<-AR];exact hv
       |false=>
        rw[hvw] at ht
        simp only[cond_false] at ht
        have hvw':v= !w0:=bool_no hvw
        have hwc:Walk ops (fun k=>if i<=k then .no else S k) σ0 (clearD g σ) i':=hw.clear (fun k hk=>if_neg (by omega)) (by omega) (fun j p h1 h2 hp=>hgin j p h1 (by omega) hp)
        refine fin (fun k=>if i<=k then .no else S k) (fun k=>if i<=k then true else sk k) (clearD g σ) (fun k hk=>⟨if_neg (by omega),if_neg (by omega)⟩) (fun k p h1 h2 hp=>?_) (fun k hk hs=>?_) hwc ?_ ?_
        ·have hin:=hgin k p h1 (by omega) hp
         have:=hall _ hin
         simp only[okG,okH,A4,AG,beq_eq_false_iff_ne,ne_eq] at this
         refine .inl ⟨if_pos h1,if_pos h1,?_⟩
         cases hgu:p.guard with
         |none=>rw[hgu] at this;exact absurd this.1.1 (by simp)
         |some z=>
          obtain⟨j',w'⟩:=z
          rw[hgu] at this
          simp only[A8,A4,beq_iff_eq,decide_eq_true_eq] at this
          rcases this.1.1 with⟨rfl,rfl⟩|⟨k1,k2⟩
          ·refine⟨j',w',rfl,by omega,.inr ⟨v,by rw[hvw'];cases w'<;>simp,?_⟩⟩
           have h3:=hgd.congr (S':=fun k=>if i<=k then .no else S k) (sk':=fun k=>if i<=k then true else sk k) (fun k hk=>⟨if_neg (by omega),if_neg (by omega)⟩)
           exact⟨by omega,h3.2⟩
          ·exact⟨j',w',rfl,k2,.inl (if_pos k1)⟩
        ·by_cases hk2:i<=k
         ·simp only[if_pos hk2]
         ·simp only[if_neg hk2] at hs ⊢;exact hsk k (by omega) hs
        ·have h8:(clearD g σ).fr[c]?=σ.fr[c]?:=clear_at g σ hgc
         rw[AR,h8,<-AR];exact hv
        ·have hxy:(bif v then x else y)=(bif w0 then y else x):=by rw[hvw'];cases w0<;>rfl
         rw[hxy];exact ht
    ·cases h
end
end Go.Proofs.YtacbkfginiknaaaDoor.V
namespace Go.Proofs.YtacbkfginiknaaaDoor.V
open Go
section
variable {P:Program} {X:Ctx} {E:Env} {σ0:St} {a:Act} {w:World} {R:Type} {ops:Array Oper} {D:List Nat} {m n:Nat} {inf:Nat->Tmp×Array Value×TypeId} {S:Nat->Slot} {sk:Nat->Bool}
theorem RelE.frames {A0 A1:Array Value} {σ:St} (hr:RelE X E σ0 A0 w) (hs:SameB σ0 σ) (hl:A1.size=A0.size) (h:∀ (i:Nat) s v,σ.fr[i]?=some s->A1[i]?=some v->SlotOk w (Fz X E σ0 w) E σ0 s v):RelE X E σ A1 w:=by
 rw[hs.eq]
 exact {hr with
  len:=by show σ.fr.length=_;rw[hs.len,hr.len,hl]
  slot:=fun i s v hs' hv=>(h i s v hs' hv).fr hr.ge
  bx:=fun b hb=>(hr.bx b hb).fr (hr.idlt b hb) hr.ge}
theorem SlotOk.frs {A:Nat->Prop} {σ:St} {s:Slot} {v:Value} (hs:SameB σ0 σ) (hge:∀τ∈σ0.al,2<=τ/\τ∉σ0.fz) (h:SlotOk w A E σ s v):SlotOk w A E σ0 s v:=by
 have h2:σ0={σ with fr:=σ0.fr}:=by
  obtain⟨fr,bx,al,fz,ln,nt⟩:=σ0
  obtain⟨h1,h2,h3,h4,h5,_⟩:=hs
  simp only at h1 h2 h3 h4 h5
  subst h1;subst h2;subst h3;subst h4;subst h5;rfl
 rw[h2]
 refine SlotOk.fr h (fun τ ht=>?_)
 rw[hs.al] at ht
 rw[hs.fz]
 exact hge τ ht
theorem fz_same {σ:St} (hs:SameB σ0 σ):Fz X E σ w=Fz X E σ0 w:=by
 funext b
 simp only[Fz,owned,hs.bx,hs.al]
theorem upon_same {σ:St} (hs:SameB σ0 σ) (hge:∀τ∈σ0.al,2<=τ/\τ∉σ0.fz) {s:Slot} {q:Result Next} (h:slotUpon P X E σ w s q):slotUpon P X E σ0 w s q:=by
 cases q with
 |halt x w2=>exact h
 |ok n w2=>
  cases n with
  |value u=>exact⟨h.1,by have:=h.2;rw[fz_same hs] at this;exact this.frs hs hge⟩
  |enter f args=>exact⟨h.1,h.2.mono fun e w3 ⟨v,h1,h2,h3⟩=>⟨v,h1,h2,by rw[fz_same hs] at h3;exact h3.frs hs hge⟩⟩
  |_=>exact h
theorem keep_outs {A0:Array Value} {l l':List Nat} {w1:World} (hr:RelE X (E.outs l) σ0 A0 w) (hx:Ext w w1) (hl:∀b∈l',b∈l\/w.heap.size<=b):Keep w w1 (Fz X (E.outs l) σ0 w) (Fz X (E.outs l') σ0 w1) (E.outs l) (E.outs l') σ0 σ0:=by
 have K:=hr.keepExt hx
 refine⟨fun b hb=>⟨⟨hb.1,AB hb.2.1 hx.size,fun ho=>hb.2.2 ?_⟩,hx.block b hb.2.1⟩,K.nt,fun _ _=>rfl,fun _ _=>rfl,fun _ _ h=>.inl h,K.al,K.ge,K.pin⟩
 simp only[owned,AM] at ho ⊢
 rcases ho with ho|ho|ho
 ·exact .inl ho
 ·exact .inr (.inl ho)
 ·rcases hl b ho with h|h
  ·exact .inr (.inr h)
  ·have:=hb.2.1;omega
structure HInv (X:Ctx) (E:Env) (ops:Array Oper) (m n:Nat) (inf:Nat->Tmp×Array Value×TypeId) (S:Nat->Slot) (sk:Nat->Bool) (σ0:St) (a:Act) (w:World) (bl:Nat->Nat) (l:List Nat) (listed:Array Bool) (a':Act) (w':World):Prop where
 head:HeadInv .any ops n listed
 ext:Ext w w'
 dfr:a'.defers=a.defers
 siz:a'.tmps.size=a.tmps.size
 oth:∀t,(∀i o,i<n->ops[i]?=some o->o.dst≠some t)->a'.tmps[t]?=a.tmps[t]?
 slt:∀i o d u,i<m->ops[i]?=some o->o.dst=some d->listed.getD i false=true->a'.tmps[d]?=some u->SlotOk w' (Fz X (E.outs (l++E.out)) σ0 w') (E.outs (l++E.out)) σ0 (S i) u
 skp:∀i o d u,i<m->ops[i]?=some o->o.dst=some d->listed.getD i false=true->sk i=true->a'.tmps[d]?=some u->u=undef
 new:∀i,m<=i->i<n->listed.getD i false=true->(∀b:Act,b.tmps.size=a.tmps.size->a'.tmps[(inf i).1]?=(b.put (some (inf i).1) (.pointer (some ⟨bl i,0,none⟩))).tmps[(inf i).1]?)/\
  w.heap.size<=bl i/\bl i<w'.heap.size/\w'.heap[bl i]?=some (.cells (inf i).2.1 (inf i).2.2 (0,0))
 inj:∀i j,m<=i->i<n->m<=j->j<n->listed.getD i false=true->listed.getD j false=true->bl i=bl j->i=j
 lnd:l.Nodup
 lfr:∀b∈l,w.heap.size<=b/\b<w'.heap.size
 lmem:∀i,m<=i->i<n->listed.getD i false=true->bl i∈l
theorem HInv.base {bl:Nat->Nat} {l:List Nat} {listed:Array Bool} {a':Act} {w':World} (inv:HInv X E ops m n inf S sk σ0 a w bl l listed a' w') (hr:RelE X E σ0 a.tmps w):RelE X (E.outs (l++E.out)) σ0 a.tmps w':=by
 refine(hr.world (w1:=w') (l:=l++E.out) (fun b hb _=>inv.ext.block b hb) (hr.fr.ext inv.ext) inv.ext.size ?_ (fun b hb=>?_)).1
 ·have ho:E.out.Nodup:=by
   have:=hr.nodup
   simp only[owned] at this
   exact(A7.1 (A7.1 this).2.1).2.1
  refine A7.2 ⟨inv.lnd,ho,fun b hb c hc he=>?_⟩
  have h1:=(inv.lfr b hb).1
  have h2:c<w.heap.size:=(hr.lt c (mem_out hr hc)).1
  omega
 ·rcases AM.1 hb with h|h
  ·exact⟨.inr (inv.lfr b h).1,(inv.lfr b h).2⟩
  ·exact⟨.inl h,AB (hr.lt b (mem_out hr h)).1 inv.ext.size⟩
theorem HInv.rel {bl:Nat->Nat} {l:List Nat} {listed:Array Bool} {a':Act} {w':World} (inv:HInv X E ops m n inf S sk σ0 a w bl l listed a' w') (hr:RelE X E σ0 a.tmps w) {σ:St} (hs:SameB σ0 σ)
  (h:∀t s,σ.fr[t]?=some s->s= .no\/((∀j p,j<n->ops[j]?=some p->p.dst≠some t)/\σ0.fr[t]?=some s)\/∃j p,j<m/\ops[j]?=some p/\p.dst=some t/\listed.getD j false=true/\s=S j):RelE X (E.outs (l++E.out)) σ a'.tmps w':=by
 have hr':=inv.base hr
 refine hr'.frames hs inv.siz (fun t s v h1 h2=>?_)
 rcases h t s h1 with h3|⟨h3,h4⟩|⟨j,p,q1,q2,q3,q4,q5⟩
 ·subst h3;trivial
 ·rw[inv.oth t h3] at h2
  exact hr'.slot t s v h4 h2
 ·subst q5
  exact inv.slt j p t v q1 q2 q3 q4 h2
theorem bare_upon {o:Oper} {s:Slot} {σ:St} (hb:bareOp o=true) (h:slotUpon P X E σ w s ((execOp a.eval o).run P w)):∃v,(execOp a.eval o).run P w= .ok (.value v) w/\Yields P ops o v a:=by
 simp only[bareOp,A4] at hb
 have hg:o.guard=none:=by simpa using hb.1
 have hw:AO o (yielded ops a.tmps)=true:=by simp[AO,hg]
 have h2:=hb.2
 split at h2
 ·rename_i x i ho
  simp only[execOp,ho,Ai] at h ⊢
  cases hx:a.eval x<;>simp[hx,Instr.extract,slotUpon] at h ⊢
  rename_i vs
  cases hi:vs[i]? with
  |none=>rw[hi] at h;simp[slotUpon] at h
  |some u=>
   simp only[Aj,Aa]
   exact⟨u,rfl,.inl ⟨hw,fun w'=>by simp[execOp,ho,hx,Instr.extract,hi]⟩⟩
 ·rename_i x ho
  exact⟨a.eval x,by simp[execOp,ho],.inl ⟨hw,fun w'=>by simp[execOp,ho]⟩⟩
 ·rename_i x ho
  exact⟨a.eval x,by simp[execOp,ho],.inl ⟨hw,fun w'=>by simp[execOp,ho]⟩⟩
 ·cases h2
theorem head_any {Q:Exit->Act->World->Prop} (hQp:∀c a w,¬Q (.panic c) a w) (hB:mixB ops m n=true) (H:HeadOk ops D m n) (hr:RelE X E σ0 a.tmps w) (hcert:∀i o,i<m->ops[i]?=some o->CertAt P X D ops S sk σ0 i o)
  (hnew:∀i,m<=i->i<n->∃o,ops[i]?=some o/\NewAt P o (inf i).1 (inf i).2.1 (inf i).2.2)
  (hQ:∀ (a':Act) (w':World) (bl:Nat->Nat) (l:List Nat) (listed:Array Bool),(∀i,i<n->listed.getD i false=true)->HInv X E ops m n inf S sk σ0 a w bl l listed a' w'->wpOps P ops Q (BB n (ops.size-n)) a' w'):
  ∀ (k:Nat) (listed:Array Bool) (a':Act) (w':World) (bl:Nat->Nat) (l:List Nat),(AV n).countP (fun i=> !listed.getD i true)=k->HInv X E ops m n inf S sk σ0 a w bl l listed a' w'->wpAny P .any ops Q (k+(ops.size-n)) listed a' w':=by
 simp only[mixB,A4,decide_eq_true_eq,AJ,A6] at hB
 obtain⟨⟨⟨⟨hsel,hmn⟩,hns⟩,hops⟩,htail⟩:=hB
 have hop:∀i,i<n->∃o d,ops[i]?=some o/\o.dst=some d/\(∀e∈o.after,Ar .any e=true->e.on<i)/\(∀j p,j<n->j≠i->ops[j]?=some p->p.dst≠some d)/\
   (i<m->∀j p t,j<n->ops[j]?=some p->p.dst=some t->t∈o.looksAt ops->j<i/\A5 .any ops i j=true)/\
   (n<ops.size->(lateB ops m n i=true->bareOp o=true/\∀j p,ops[j]?=some p->j≠i->A5 .any ops j i=true\/A5 .any ops i j=true\/o.apart ops p=true)/\
    (lateB ops m n i=false->∃j,j<=n/\i<j/\A5 .any ops j i=true/\(j=n\/lateB ops m n j=false))):=by
  intro i hi
  have h:=hops i hi
  cases ho:ops[i]? with
  |none=>rw[ho] at h;simp at h
  |some o=>
   rw[ho] at h
   simp only[A4,AJ,A6] at h
   obtain⟨⟨⟨⟨h1,h2⟩,h3⟩,h4⟩,h5⟩:=h
   cases hd:o.dst with
   |none=>rw[hd] at h1;simp at h1
   |some d=>
    refine⟨o,d,rfl,hd,fun e he hb=>?_,fun j p hj hne hp he=>?_,fun him j p t hj hp ht hl=>?_,fun hlt=>?_⟩
    ·have:=Am.1 h2 e he
     simp only[hb,Ak,B6,decide_eq_true_eq] at this
     exact this
    ·have:=h3 j hj
     rw[hp] at this
     simp only[A8,beq_iff_eq,AG,beq_eq_false_iff_ne,ne_eq] at this
     rcases this with h|h
     ·exact hne h
     ·exact h (he.trans hd.symm)
    ·simp only[A8,decide_eq_true_eq,AJ,A6] at h4
     rcases h4 with h|h
     ·omega
     ·have:=h j hj
      rw[hp] at this
      simp only[AU,ht,A8,AG,A4,decide_eq_true_eq] at this
      rcases this with h|h
      ·simp[Af,hl] at h
      ·exact⟨h.1.2,h.2⟩
    ·have h6:(bif lateB ops m n i then bareOp o&&(AV ops.size).all (fun j=>j==i||A5 .any ops j i||A5 .any ops i j||(match ops[j]? with|some p=>o.apart ops p|none=>true))
       else(AV (n+1)).any (fun j=>decide (i<j)&&A5 .any ops j i&&(j==n|| !lateB ops m n j)))=true:=by
      rcases A8 _ _▸h5 with h|h
      ·have:n=ops.size:=by simpa using h
       omega
      ·exact h
     refine⟨fun hla=>?_,fun hla=>?_⟩
     ·rw[hla] at h6
      simp only[cond_true,A4,AJ,A6] at h6
      refine⟨h6.1,fun j p hp hne=>?_⟩
      have:=h6.2 j (AD.1 hp).1
      rw[hp] at this
      simp only[A8,beq_iff_eq] at this
      rcases this with((h|h)|h)|h
      ·exact absurd h hne
      ·exact .inl h
      ·exact .inr (.inl h)
      ·exact .inr (.inr h)
     ·rw[hla] at h6
      simp only[cond_false,B0,A6,A4,decide_eq_true_eq,A8,beq_iff_eq,AG] at h6
      obtain⟨j,h7,⟨h8,h9⟩,h10⟩:=h6
      exact⟨j,by omega,h8,h9,h10⟩
 intro k
 induction k with
 |zero=>
  intro listed a' w' bl l hk inv
  have hall:∀i,i<n->listed.getD i false=true:=by
   intro i hi
   refine listed_of_not (by rw[inv.head.size];omega) (fun h=>?_)
   have:=Av.1 hk i (A6.2 hi)
   simp[h] at this
  rw[Ao]
  exact any_of_tail hQp hsel hns htail inv.head hall (hQ a' w' bl l listed hall inv)
 |succ k ih=>
  intro listed a' w' bl l hk inv
  rw[show k+1+(ops.size-n)=(k+(ops.size-n))+1 by omega]
  have hex:∃i,i<n/\listed.getD i true=false:=by
   obtain⟨i,hi,h⟩:=Aw.1 (show 0<(AV n).countP (fun i=> !listed.getD i true) by omega)
   exact⟨i,A6.1 hi,by simpa using h⟩
  have hmin:∃i,i<n/\listed.getD i true=false/\i∈AH .any ops listed:=by
   obtain⟨i,hi,h⟩:=hex
   induction i using B3 with
   |_ i ihi=>
    by_cases hlow:∃j,j<i/\listed.getD j true=false
    ·obtain⟨j,hj,hj2⟩:=hlow
     exact ihi j hj (by omega) hj2
    ·obtain⟨o,d,e1,_,e3,_⟩:=hop i hi
     refine⟨i,hi,h,mem_ready.2 ⟨h,o,e1,fun e he hb=>?_⟩⟩
     have hlt:=e3 e he hb
     exact listed_of_not (by rw[inv.head.size];omega) (fun hn=>hlow ⟨e.on,hlt,hn⟩)
  have hcount:∀i,i<n->listed.getD i true=false->(AV n).countP (fun j=> !(listed.setIfInBounds i true).getD j true)=k:=by
   intro i hin hun
   have:=countP_one (f:=fun j=> !listed.getD j true) (g:=fun j=> !(listed.setIfInBounds i true).getD j true) (i:=i) (B1) (A6.2 hin) (by simp only[hun];rfl)
    (by
     have hlt:i<listed.size:=by rw[inv.head.size];omega
     simp[AC,hlt])
    (fun j _ hj=>by
     have:=getD_set_ne (listed:=listed) true (Ne.symm hj)
     simp only[this])
   omega
  have hnext:∀i oi d v w2,i<m->ops[i]?=some oi->oi.dst=some d->i∈AH .any ops listed->Ext w' w2->SlotOk w2 (Fz X (E.outs (l++E.out)) σ0 w2) (E.outs (l++E.out)) σ0 (S i) v->(sk i=true->v=undef)->HInv X E ops m n inf S sk σ0 a w bl l (listed.setIfInBounds i true) (a'.put oi.dst v) w2:=by
   intro i oi d v w2 him hoi hd hi hw2 hv hs
   have hin:i<n:=by have:=H.le;omega
   obtain⟨o',d',e1,e2,_,e4,_,_⟩:=hop i hin
   rw[hoi] at e1
   have:=A3 e1
   subst this
   rw[hd] at e2
   have:=A3 e2
   subst this
   have head':=inv.head.set hi hin
   have K:=(inv.base hr).keepExt hw2
   have hput:∀t,t≠d->(a'.put oi.dst v).tmps[t]?=a'.tmps[t]?:=fun t ht=>put_other _ _ t (fun e=>ht (by rw[hd] at e;exact A3 e))
   have hself:∀u,(a'.put oi.dst v).tmps[d]?=some u->u=v:=by
    intro u hu
    rw[hd] at hu
    simp only[Act.put] at hu
    by_cases hlt:d<a'.tmps.size
    ·rw[AQ hlt] at hu;exact(A3 hu).symm
    ·rw[Ac (by rw[AX];exact Au hlt)] at hu;cases hu
   refine⟨head',inv.ext.trans hw2,(put_defers _ _).trans inv.dfr,(put_size _ _).trans inv.siz,fun t ht=>?_,fun j p t u hj hp hpt hlj hu=>?_,fun j p t u hj hp hpt hlj hsj hu=>?_,fun j h1 h2 hlj=>?_,fun j l h1 h2 h3 h4 h5 h6=>?_,inv.lnd,fun b hb=>⟨(inv.lfr b hb).1,AB (inv.lfr b hb).2 hw2.size⟩,fun j h1 h2 hlj=>inv.lmem j h1 h2 (listed_set hlj (by omega))⟩
   ·rw[hput t (fun e=>ht i oi hin hoi (by rw[hd,e]))]
    exact inv.oth t ht
   ·by_cases hji:j=i
    ·subst hji
     rw[hoi] at hp
     have:=A3 hp
     subst this
     rw[hd] at hpt
     have:=A3 hpt
     subst this
     rw[hself u hu];exact hv
    ·rw[hput t (fun e=>e4 j p (by have:=H.le;omega) hji hp (by rw[hpt,e]))] at hu
     exact K.slot (inv.slt j p t u hj hp hpt (listed_set hlj hji) hu)
   ·by_cases hji:j=i
    ·subst hji
     rw[hoi] at hp
     have:=A3 hp
     subst this
     rw[hd] at hpt
     have:=A3 hpt
     subst this
     rw[hself u hu];exact hs hsj
    ·rw[hput t (fun e=>e4 j p (by have:=H.le;omega) hji hp (by rw[hpt,e]))] at hu
     exact inv.skp j p t u hj hp hpt (listed_set hlj hji) hsj hu
   ·have hji:j≠i:=by omega
    obtain⟨n1,n2,n3,n4⟩:=inv.new j h1 h2 (listed_set hlj hji)
    obtain⟨oj,hoj,hN⟩:=hnew j h1 h2
    refine⟨fun b hb=>?_,n2,AB n3 hw2.size,(hw2.block _ n3).trans n4⟩
    rw[hput _ (fun e=>e4 j oj h2 hji hoj (by rw[hN.dst,e]))]
    exact n1 b hb
   ·exact inv.inj j l h1 h2 h3 h4 (listed_set h5 (by omega)) (listed_set h6 (by omega))
  have hdo:∀i,i∈AH .any ops listed->i<m->∃oi d,ops[i]?=some oi/\oi.dst=some d/\((AO oi (yielded ops a'.tmps)=false/\sk i=true/\S i= .no)\/(AO oi (yielded ops a'.tmps)=true/\sk i=false/\slotUpon P X (E.outs (l++E.out)) σ0 w' (S i) ((execOp a'.eval oi).run P w'))):=by
   intro i hi hin
   obtain⟨hun,o',ho',hwait⟩:=mem_ready.1 hi
   have hle:=H.le
   obtain⟨oi,d,hoi,hd,e3,e4,e5,_⟩:=hop i (by omega)
   rw[hoi] at ho'
   have:=A3 ho'
   subst this
   refine⟨oi,d,hoi,hd,?_⟩
   have hlist:∀j p t,j<n->ops[j]?=some p->p.dst=some t->t∈oi.looksAt ops->listed.getD j false=true:=by
    intro j p t hj hp hpt ht
    obtain⟨_,hw⟩:=e5 hin j p t hj hp hpt ht
    obtain⟨o2,ho2,e,he,hb,hon⟩:=AL hw
    rw[hoi] at ho2
    have:=A3 ho2
    subst this
    have:=hwait e he hb
    rwa [hon] at this
   have hguard:∀j w,oi.guard=some (j,w)->j<i->∀c,dstOf ops j=some c->∃pj,ops[j]?=some pj/\pj.dst=some c/\listed.getD j false=true:=by
    intro j w hg hji c hc
    have hc':=hc
    unfold dstOf at hc'
    cases hp:ops[j]? with
    |none=>rw[hp] at hc';cases hc'
    |some pj=>
     rw[hp] at hc'
     refine⟨pj,rfl,hc',hlist j pj c (by omega) hp hc' ?_⟩
     refine A9 _ ?_
     rw[hg]
     simp only[hp,AU]
     rw[show pj.dst=some c from hc']
     simp
   have hyes:∀j w v,oi.guard=some (j,w)->Guards ops S sk σ0.fr.length i j v->yielded ops a'.tmps j=some v:=by
    intro j w v hg hG
    obtain⟨h1,h2,c,h3,h4,ms,hm',h5⟩:=hG
    obtain⟨pj,q1,q2,q3⟩:=hguard j w hg h1 c h3
    have hlt:c<a'.tmps.size:=by rw[inv.siz,<-hr.len];exact h4
    have hs:=inv.slt j pj c _ (by omega) q1 q2 q3 (AP hlt)
    rw[h5] at hs
    rw[yielded_dst h3,AP hlt,val_bool hs]
   rcases hcert i oi hin hoi with⟨h1,h2,j,w,h3,h4,h5⟩|⟨h1,h2,σ,h3,h4⟩
   ·refine .inl ⟨?_,h1,h2⟩
    unfold AO
    rw[h3]
    rcases h5 with h5|⟨v,h5,h6⟩
    ·have:yielded ops a'.tmps j=none:=by
      cases hc:dstOf ops j with
      |none=>exact yielded_none hc
      |some c=>
       obtain⟨pj,q1,q2,q3⟩:=hguard j w h3 h4 c hc
       rw[yielded_dst hc]
       cases hz:a'.tmps[c]? with
       |none=>rfl
       |some u=>rw[inv.skp j pj c u (by omega) q1 q2 q3 h5 hz];rfl
     simp[this]
    ·have:=hyes j w v h3 h6
     simp[this,h5]
   ·refine .inr ⟨?_,h1,?_⟩
    ·unfold AO
     cases hg:oi.guard with
     |none=>rfl
     |some z=>
      obtain⟨j,w⟩:=z
      have:=hyes j w w hg (h2 j w hg)
      simp[this]
    ·refine upon_same h3.same hr.ge (h4 _ a' w' (inv.rel hr h3.same fun t s ht=>?_))
     rcases h3.slot t s ht with q1|⟨q1,q2⟩|⟨j,p,q1,q2,q3,q4,q5⟩
     ·exact .inl q1
     ·refine .inr (.inl ⟨fun j p hj hp he=>q1 ((H.mem t).2 ⟨j,p,hj,hp,he⟩),q2⟩)
     ·exact .inr (.inr ⟨j,p,by omega,q2,q3,hlist j p t (by omega) q2 q3 q4,q5⟩)
  by_cases hlt:∃i,i∈AH .any ops listed/\n<ops.size/\lateB ops m n i=true
  ·obtain⟨i,hi,hns',hla⟩:=hlt
   have him:i<m:=by simp only[lateB,A4,decide_eq_true_eq] at hla;exact hla.1
   obtain⟨hun,_,_,hwait⟩:=mem_ready.1 hi
   obtain⟨oi,d,hoi,hd,hcase⟩:=hdo i hi him
   have hle:=H.le
   obtain⟨o,d',e1,e2,e3,e4,e5,e6⟩:=hop i (by omega)
   rw[hoi] at e1
   have:=A3 e1
   subst this
   obtain⟨hbare,hap⟩:=(e6 hns').1 hla
   have hgn:oi.guard=none:=by simp only[bareOp,A4] at hbare;simpa using hbare.1
   rcases hcase with⟨h1,_⟩|⟨_,h2,h3⟩
   ·simp[AO,hgn] at h1
   ·obtain⟨v,hv,hy⟩:=bare_upon (ops:=ops) hbare h3
    rw[hv] at h3
    refine wpAny_first hoi (fun j oj cs b hj=>AY hsel j oj cs b hj) (fun c a w h=>absurd h (hQp c _ w)) _ _ _ _ (fun j oj hj hji hju hno=>?_) hi hy (ih _ _ _ bl l (hcount i (by omega) hun) (hnext i oi d v w' him hoi hd hi (Ext.refl _) h3.2 (fun h=>by rw[h2] at h;cases h)))
    rcases hap j oj hj hji with h|h|h
    ·obtain⟨o',ho',e,he,hb,hon⟩:=AL h
     rw[hj] at ho'
     have:=A3 ho'
     subst this
     exact absurd hon (hno e he hb)
    ·obtain⟨o',ho',e,he,hb,hon⟩:=AL h
     obtain⟨_,o2,ho2,hw2⟩:=mem_ready.1 hi
     rw[ho'] at ho2
     have:=A3 ho2
     subst this
     have h1:=hw2 e he hb
     rw[hon,getD_both hju] at h1
     cases h1
    ·exact h
  have hlow:∀i∈AH .any ops listed,i<n:=by
   intro i hi
   obtain⟨hun,oi,hoi,_⟩:=mem_ready.1 hi
   have hlt':i<ops.size:=(AD.1 hoi).1
   rcases Ah i n with h|h
   ·exact h
   ·exfalso
    rcases(Or.inr htail:n=ops.size\/tailB ops n=true) with h'|h2
    ·omega
    ·obtain⟨j,hj,hj2,hj3⟩:=hmin
     have hnl:lateB ops m n j=false:=by
      cases hla:lateB ops m n j with
      |false=>rfl
      |true=>exact absurd ⟨j,hj3,by omega,hla⟩ hlt
     exact tail_waits2 (fun i hi hl=>((hop i hi).choose_spec.choose_spec.2.2.2.2.2 (by omega)).2 hl) h2 (by omega) inv.head _ j rfl hj hnl hj2 i h hi
  refine⟨fun h=>?_,fun i hi=>?_⟩
  ·obtain⟨i,_,_,hi⟩:=hmin
   rw[h] at hi;cases hi
  ·have hin:=hlow i hi
   obtain⟨hun,_,_,_⟩:=mem_ready.1 hi
   by_cases him:i<m
   ·obtain⟨oi,d,hoi,hd,hcase⟩:=hdo i hi him
    unfold wpOp
    simp only[hoi]
    rcases hcase with⟨h1,h2,h3⟩|⟨h1,h2,h3⟩
    ·simp only[h1,B4,if_false]
     exact ih _ _ _ bl l (hcount i hin hun) (hnext i oi d undef w' him hoi hd hi (Ext.refl _) (by rw[h3];trivial) (fun _=>rfl))
    ·simp only[h1,if_true]
     left
     unfold Oper.wp
     generalize (execOp a'.eval oi).run P w'=q at h3
     cases q with
     |halt x w2=>exact h3.elim
     |ok n w2=>
      cases n with
      |value u=>simp only[Oper.upon];exact ih _ _ _ bl l (hcount i hin hun) (hnext i oi d u w2 him hoi hd hi h3.1 h3.2 (fun h=>by rw[h2] at h;cases h))
      |enter f args=>
       obtain⟨e1,hc⟩:=h3
       simp only[Oper.upon]
       rw[e1]
       exact hc.mono fun e w3 ⟨v,he,hx,hs⟩=>by
        subst he
        exact ih _ _ _ bl l (hcount i hin hun) (hnext i oi d v w3 him hoi hd hi hx hs (fun h=>by rw[h2] at h;cases h))
      |_=>exact h3.elim
   ·-- a new box
    obtain⟨oi,d,hoi,e2,e3,e4,e5,_⟩:=hop i hin
    obtain⟨oj,hoj,hN⟩:=hnew i (by omega) hin
    rw[hoi] at hoj
    have:=A3 hoj
    subst this
    have head':=inv.head.set hi hin
    have hd:d=(inf i).1:=by have:=hN.dst;rw[e2] at this;exact A3 this
    unfold wpOp
    simp only[hoi,AO,hN.guard,if_true]
    left
    unfold Oper.wp
    rw[hN.run a' w',Oper.upon_value]
    have hext:=Ext.alloc w' (.cells (inf i).2.1 (inf i).2.2)
    have K:=keep_outs (l':=(w'.heap.size::l)++E.out) (inv.base hr) hext (fun b hb=>by
     rcases AS.1 hb with rfl|hb
     ·exact .inr (AW _)
     ·exact .inl hb)
    refine ih _ _ _ (fun j=>if j=i then w'.heap.size else bl j) (w'.heap.size::l) (hcount i hin hun) ?_
    have hput:∀t,t≠d->(a'.put oi.dst (.pointer (some ⟨w'.heap.size,0,none⟩))).tmps[t]?=a'.tmps[t]?:=fun t ht=>put_other _ _ t (fun e=>ht (by rw[e2] at e;exact A3 e))
    refine⟨head',inv.ext.trans hext,(put_defers _ _).trans inv.dfr,(put_size _ _).trans inv.siz,fun t ht=>?_,fun j p t u hj hp hpt hlj hu=>?_,fun j p t u hj hp hpt hlj hsj hu=>?_,fun j h1 h2 hlj=>?_,fun j l h1 h2 h3 h4 h5 h6 h7=>?_,?_,fun b hb=>?_,fun j h1 h2 hlj=>?_⟩
    ·rw[hput t (fun e=>ht i oi hin hoi (by rw[e2,e]))]
     exact inv.oth t ht
    ·have hji:j≠i:=by omega
     rw[hput t (fun e=>e4 j p (by omega) hji hp (by rw[hpt,e]))] at hu
     exact K.slot (inv.slt j p t u hj hp hpt (listed_set hlj hji) hu)
    ·have hji:j≠i:=by omega
     rw[hput t (fun e=>e4 j p (by omega) hji hp (by rw[hpt,e]))] at hu
     exact inv.skp j p t u hj hp hpt (listed_set hlj hji) hsj hu
    ·by_cases hji:j=i
     ·subst hji
      simp only[if_true]
      refine⟨fun b hb=>?_,inv.ext.size,by simp,heap_alloc_new w' _⟩
      rw[e2,<-hd]
      exact put_same (inv.siz.trans hb.symm)
     ·simp only[if_neg hji]
      obtain⟨n1,n2,n3,n4⟩:=inv.new j h1 h2 (listed_set hlj hji)
      obtain⟨oj,hoj,hNj⟩:=hnew j h1 h2
      refine⟨fun b hb=>?_,n2,AB n3 hext.size,(hext.block _ n3).trans n4⟩
      rw[hput _ (fun e=>e4 j oj h2 hji hoj (by rw[hNj.dst,e]))]
      exact n1 b hb
    ·by_cases hji:j=i
     ·by_cases hli:l=i
      ·omega
      ·simp only[hji,if_true,if_neg hli] at h7
       have:=(inv.new l h3 h4 (listed_set h6 hli)).2.2.1
       omega
     ·by_cases hli:l=i
      ·simp only[hli,if_true,if_neg hji] at h7
       have:=(inv.new j h1 h2 (listed_set h5 hji)).2.2.1
       omega
      ·simp only[if_neg hji,if_neg hli] at h7
       exact inv.inj j l h1 h2 h3 h4 (listed_set h5 hji) (listed_set h6 hli) h7
    ·refine Ay.2 ⟨fun h=>?_,inv.lnd⟩
     have:=(inv.lfr _ h).2
     omega
    ·rcases AS.1 hb with rfl|hb
     ·exact⟨inv.ext.size,by simp⟩
     ·exact⟨(inv.lfr b hb).1,AB (inv.lfr b hb).2 hext.size⟩
    ·by_cases hji:j=i
     ·simp[hji]
     ·simp only[if_neg hji]
      exact AI _ (inv.lmem j h1 h2 (listed_set hlj hji))
end
end Go.Proofs.YtacbkfginiknaaaDoor.V
namespace Go.Proofs.YtacbkfginiknaaaDoor.V
open Go
section
variable {P:Program} {X:Ctx} {E:Env} {σ:St} {A0:Array Value} {a:Act} {w:World} {R:Type} {ops:Array Oper} {D:List Nat} {m n q:Nat} {inf:Nat->Tmp×Array Value×TypeId} {S:Nat->Slot} {sk:Nat->Bool} {ids:List Nat} {idf:Nat->Nat}
theorem poison_mem {b:Bx} (h:b∈(poison ids σ).bx):(b.id∈ids/\b.x=⟨.unit,(),[]⟩/\∃c∈σ.bx,c.id=b.id)\/(b∈σ.bx/\b.id∉ids):=by
 simp only[poison,AZ] at h
 obtain⟨c,hc,he⟩:=h
 cases hb:ids.contains c.id with
 |true=>
  rw[hb] at he
  simp only[cond_true] at he
  subst he
  exact .inl ⟨by simpa using hb,rfl,c,hc,rfl⟩
 |false=>
  rw[hb] at he
  simp only[cond_false] at he
  subst he
  exact .inr ⟨hc,by simpa using hb⟩
theorem mem_poison {c:Bx} (hc:c∈σ.bx) (hi:c.id∈ids):⟨c.id,⟨.unit,(),[]⟩⟩∈(poison ids σ).bx:=by
 simp only[poison,AZ]
 exact⟨c,hc,by simp[hi]⟩
theorem poison_ids:(poison ids σ).bx.map (·.id)=σ.bx.map (·.id):=by
 simp only[poison,List.map_map]
 apply B2
 intro b _
 simp only[Function.comp]
 cases ids.contains b.id<;>rfl
theorem owned_ids {σ1 σ2:St} (h1:σ1.bx.map (·.id)=σ2.bx.map (·.id)) (h2:σ1.al=σ2.al):owned E σ1=owned E σ2:=by
 have h3:∀l:List Bx,l.map (fun b=>(E.ad b.id).1)=(l.map (·.id)).map (fun i=>(E.ad i).1):=fun l=>by simp
 simp only[owned,h3,h1,h2]
theorem fz_ids {σ1 σ2:St} (h1:σ1.bx.map (·.id)=σ2.bx.map (·.id)) (h2:σ1.al=σ2.al):Fz X E σ1 w=Fz X E σ2 w:=by
 funext b
 simp only[Fz,owned_ids h1 h2]
theorem keep_bx {σ1 σ2:St} (h1:σ2.bx.map (·.id)=σ1.bx.map (·.id)) (h2:σ2.al=σ1.al) (h3:σ2.fz=σ1.fz) (h4:σ2.nt=σ1.nt) (hge:∀τ∈σ1.al,2<=τ/\τ∉σ1.fz):Keep w w (Fz X E σ1 w) (Fz X E σ2 w) E E σ1 σ2:=
 ⟨fun b hb=>⟨by rw[fz_ids h1 h2];exact hb,rfl⟩,by rw[h4];exact AW _,fun _ _=>rfl,fun _ _=>rfl,fun τ _ h=>.inl (by rw[h3] at h;exact h),fun τ _ h=>⟨by rw[h2] at h;exact h,fun _ _=>rfl⟩,hge,fun _ h=>⟨h,rfl⟩⟩
theorem RelE.poison (hr:RelE X E σ A0 w) (ids:List Nat):RelE X E (poison ids σ) A0 w:=by
 have K:Keep w w (Fz X E σ w) (Fz X E (V.poison ids σ) w) E E σ (V.poison ids σ):=keep_bx poison_ids rfl rfl rfl hr.ge
 have ho:owned E (V.poison ids σ)=owned E σ:=owned_ids poison_ids rfl
 refine {hr with
  slot:=fun i s v hs hv=>K.slot (hr.slot i s v hs hv)
  bx:=fun b hb=>?_
  nodup:=by rw[ho];exact hr.nodup
  lt:=fun b hb=>hr.lt b (by rw[ho] at hb;exact hb)
  ids:=by rw[poison_ids];exact hr.ids
  idlt:=fun b hb=>?_
  srcb:=fun b hb=>?_
  pinlt:=fun b hb=>by rw[ho];exact hr.pinlt b hb}
 ·rcases poison_mem hb with⟨_,h2,c,h3,h4⟩|⟨h1,_⟩
  ·obtain⟨cs,cc,e,_,_,k3,k4,_⟩:=hr.bx c h3
   rw[h4] at k3 k4
   refine⟨[],cc,e,?_,?_,k3,by simp;omega,fun j v hv=>by simp at hv⟩
   ·rw[h2];rfl
   ·rw[h2];rfl
  ·exact K.bx (hr.bx b h1) (hr.idlt b h1) rfl
 ·rcases poison_mem hb with⟨_,_,c,h3,h4⟩|⟨h1,_⟩
  ·rw[<-h4];exact hr.idlt c h3
  ·exact hr.idlt b h1
 ·rcases poison_mem hb with⟨_,h2,c,h3,h4⟩|⟨h1,_⟩
  ·have:=hr.srcb c h3
   rw[h4] at this
   refine this.imp (fun⟨s,h5,h6⟩=>⟨s,?_,h6⟩) id
   rw[h2];exact Nat.zero_le _
  ·exact hr.srcb b h1
theorem RelE.poke (hr:RelE X E σ A0 w) {id:Nat} (hmem:⟨id,⟨.unit,(),[]⟩⟩∈σ.bx) {cur:Array Value} {e:TypeId} {cs:List Value} (hb:w.heap[(E.ad id).1]?=some (.cells cur e (0,0))) (hfit:(E.ad id).2+cs.length<=cur.size)
  (hM:(∃s,cs.length<=s/\(id,E.ad id,s)∈X.pbx)\/X.w0.heap.size<=(E.ad id).1):
  RelE X E σ A0 (w.setRow (E.ad id).1 (splice cur (E.ad id).2 cs))/\Keep w (w.setRow (E.ad id).1 (splice cur (E.ad id).2 cs)) (Fz X E σ w) (Fz X E σ (w.setRow (E.ad id).1 (splice cur (E.ad id).2 cs))) E E σ σ:=by
 have hne:∀b,b∈σ.bx->b.id≠id->(E.ad b.id).1≠(E.ad id).1:=by
  intro b hb' hbid he
  have hn:=hr.nodup
  simp only[owned] at hn
  have hn1:=(A7.1 hn).1
  have hinj:=inj_of_nodup (f:=fun b:Bx=>(E.ad b.id).1) hn1 hb' hmem he
  exact hbid (by rw[hinj])
 have hal:∀τ∈σ.al,∀g,E.hd τ=some g->g≠(E.ad id).1:=by
  intro τ hτ g hg he
  have hn:=hr.nodup
  simp only[owned] at hn
  exact(A7.1 hn).2.2 _ (AZ.2 ⟨_,hmem,rfl⟩) g (AE _ (B8.2 ⟨τ,hτ,by simp[tokB,hg]⟩)) he.symm
 have hother:∀b,b≠(E.ad id).1->(w.setRow (E.ad id).1 (splice cur (E.ad id).2 cs)).heap[b]?=w.heap[b]?:=fun b hb'=>setRow_other w _ b _ hb'
 have K:Keep w (w.setRow (E.ad id).1 (splice cur (E.ad id).2 cs)) (Fz X E σ w) (Fz X E σ (w.setRow (E.ad id).1 (splice cur (E.ad id).2 cs))) E E σ σ:=
  ⟨fun b hb'=>⟨⟨hb'.1,by simpa[BE] using hb'.2.1,hb'.2.2⟩,hother b (fun he=>hb'.2.2 (he▸mem_owned_bx hmem))⟩,AW _,fun _ _=>rfl,fun _ _=>rfl,fun _ _ h=>.inl h,fun τ _ hτ=>⟨hτ,fun g hg=>hother g (hal τ hτ g hg)⟩,hr.ge,fun b hb'=>⟨hb',hother b (fun he=>(hr.pinlt b hb').2 (he▸mem_owned_bx hmem))⟩⟩
 refine⟨{hr with
  slot:=fun i s u hs hu=>K.slot (hr.slot i s u hs hu)
  bx:=fun b hb'=>?_
  lt:=fun b hb'=>⟨by simpa[BE] using(hr.lt b hb').1,(hr.lt b hb').2⟩
  fr:=hr.fr.setRow hb (splice_size hfit) (fun hlt o ho=>?_)
  pinlt:=fun b hb'=>⟨by simpa[BE] using(hr.pinlt b hb').1,(hr.pinlt b hb').2⟩},K⟩
 ·by_cases hbi:b.id=id
  ·obtain⟨c1,c2,c3,h1,h2,h3,h4,h5⟩:=hr.bx b hb'
   have hx:b=⟨id,⟨.unit,(),[]⟩⟩:=inj_of_nodup (f:=fun b:Bx=>b.id) hr.ids hb' hmem hbi
   subst hx
   refine⟨[],_,e,rfl,rfl,setRow_heap w _ cur _ e _ hb,?_,fun j v hv=>by simp at hv⟩
   rw[splice_size hfit]
   simp only[BG]
   omega
  ·exact K.bx (hr.bx b hb') (hr.idlt b hb') (hother _ (hne b hb' hbi))
 ·rw[splice_get hfit]
  rcases hM with⟨s,h0,h1⟩|h1
  ·split
   ·rfl
   ·split
    ·exact absurd (hr.pbm _ h1 o (by dsimp only;omega) (by dsimp only;omega)) ho
    ·rfl
  ·omega
theorem RelE.fill (hr:RelE X E σ A0 w) {σ':St} {id:Nat} {x:Val} {cs:List Value} {cur:Array Value} {e:TypeId} (h1:σ'.bx.map (·.id)=σ.bx.map (·.id)) (h2:σ'.al=σ.al) (h3:σ'.fz=σ.fz) (h4:σ'.nt=σ.nt) (h5:σ'.ln=σ.ln) (h6:σ'.fr=σ.fr)
  (hbx:∀b∈σ'.bx,b=⟨id,x⟩\/b∈σ.bx) (hid:id<σ.nt) (hv:Rv w (Fz X E σ w) E σ x.t x.v x.ms cs) (hms:x.ms.length=x.t.nl) (hb:w.heap[(E.ad id).1]?=some (.cells cur e (0,0))) (hfit:(E.ad id).2+cs.length<=cur.size) (hat:At w (E.ad id).1 (E.ad id).2 cs)
  (hM:(∃s,x.t.size<=s/\(id,E.ad id,s)∈X.pbx)\/X.w0.heap.size<=(E.ad id).1):RelE X E σ' A0 w:=by
 have K:Keep w w (Fz X E σ w) (Fz X E σ' w) E E σ σ':=keep_bx h1 h2 h3 h4 hr.ge
 have ho:owned E σ'=owned E σ:=owned_ids h1 h2
 exact {hr with
  len:=by rw[h6];exact hr.len
  slot:=fun i s v hs hv=>K.slot (hr.slot i s v (by rw[h6] at hs;exact hs) hv)
  bx:=fun b hb'=>by
   rcases hbx b hb' with rfl|hb'
   ·exact⟨cs,cur,e,K.rv hv,hms,hb,hfit,hat⟩
   ·exact K.bx (hr.bx b hb') (hr.idlt b hb') rfl
  nodup:=by rw[ho];exact hr.nodup
  lt:=fun b hb=>hr.lt b (by rw[ho] at hb;exact hb)
  ids:=by rw[h1];exact hr.ids
  idlt:=fun b hb'=>by
   rw[h4]
   rcases hbx b hb' with rfl|hb'
   ·exact hid
   ·exact hr.idlt b hb'
  aln:=by rw[h2];exact hr.aln
  alr:=fun τ hτ=>by rw[h2] at hτ;rw[h3,h4];exact hr.alr τ hτ
  fzr:=fun τ hτ=>by rw[h3] at hτ;rw[h4];exact hr.fzr τ hτ
  nt2:=by rw[h4];exact hr.nt2
  srct:=fun τ hτ=>hr.srct τ (by rw[h2] at hτ;exact hτ)
  srcb:=fun b hb'=>by
   rcases hbx b hb' with rfl|hb'
   ·exact hM
   ·exact hr.srcb b hb'
  lnr:=fun p hp=>hr.lnr p (by rw[h5] at hp;exact hp)
  lnlt:=fun p hp=>by rw[h5] at hp;rw[h4];exact hr.lnlt p hp
  pinlt:=fun b hb=>by rw[ho];exact hr.pinlt b hb
  adx:=fun p hp=>by rw[h4];exact hr.adx p hp
  hdx:=fun p hp=>by rw[h4];exact hr.hdx p hp}
def StoreAt (T:Tabs) (σ σ1:St) (D:List Nat) (o:Oper) (id:Nat):Prop:=
 o.guard=none/\o.dst=none/\∃t p x tt r t' y v ms,o.op= .store t (.tmp p) x/\T.T t=some tt/\p∉D/\σ.fr[p]?=some (.ptr id r [] t')/\⟨id,y⟩∈σ.bx/\y.t=tt/\coe tt (opd σ1 x)=some (v,ms)
structure EInv (T:Tabs) (X:Ctx) (E:Env) (ops:Array Oper) (m n q:Nat) (inf:Nat->Tmp×Array Value×TypeId) (S:Nat->Slot) (sk:Nat->Bool) (σ:St) (ids:List Nat) (idf:Nat->Nat) (a:Act) (w:World) (bl:Nat->Nat) (l:List Nat) (listed:Array Bool) (a':Act) (w':World):Prop where
 head:HeadInv .any ops q listed
 base:RelE X (E.outs (l++E.out)) (poison ids σ) a.tmps w'
 hsz:w.heap.size<=w'.heap.size
 dfr:a'.defers=a.defers
 siz:a'.tmps.size=a.tmps.size
 oth:∀t,(∀i o,i<n->ops[i]?=some o->o.dst≠some t)->a'.tmps[t]?=a.tmps[t]?
 slt:∀i o d u,i<m->ops[i]?=some o->o.dst=some d->listed.getD i false=true->a'.tmps[d]?=some u->SlotOk w' (Fz X (E.outs (l++E.out)) (poison ids σ) w') (E.outs (l++E.out)) (poison ids σ) (S i) u
 skp:∀i o d u,i<m->ops[i]?=some o->o.dst=some d->listed.getD i false=true->sk i=true->a'.tmps[d]?=some u->u=undef
 new:∀i,m<=i->i<n->listed.getD i false=true->(∀b:Act,b.tmps.size=a.tmps.size->a'.tmps[(inf i).1]?=(b.put (some (inf i).1) (.pointer (some ⟨bl i,0,none⟩))).tmps[(inf i).1]?)/\
  w.heap.size<=bl i/\bl i<w'.heap.size/\w'.heap[bl i]?=some (.cells (inf i).2.1 (inf i).2.2 (0,0))
 inj:∀i j,m<=i->i<n->m<=j->j<n->listed.getD i false=true->listed.getD j false=true->bl i=bl j->i=j
 lfr:∀b∈l,w.heap.size<=b/\b<w'.heap.size
 lmem:∀i,m<=i->i<n->listed.getD i false=true->bl i∈l
 sto:∀i o t p x tt,n<=i->i<q->ops[i]?=some o->o.op= .store t (.tmp p) x->T.T t=some tt->∃cur e,w'.heap[(E.ad (idf i)).1]?=some (.cells cur e (0,0))/\(E.ad (idf i)).2+tt.size<=cur.size/\
  (listed.getD i false=true->∀ (j:Nat) u,(a'.eval x).cells[j]?=some u->cur[(E.ad (idf i)).2+j]?=some u)
theorem EInv.rel {T:Tabs} {bl:Nat->Nat} {l:List Nat} {listed:Array Bool} {a':Act} {w':World} (inv:EInv T X E ops m n q inf S sk σ ids idf a w bl l listed a' w') {σ2:St} (hs:SameB (poison ids σ) σ2)
  (h:∀t s,σ2.fr[t]?=some s->s= .no\/((∀j p,j<n->ops[j]?=some p->p.dst≠some t)/\σ.fr[t]?=some s)\/∃j p,j<m/\ops[j]?=some p/\p.dst=some t/\listed.getD j false=true/\s=S j):RelE X (E.outs (l++E.out)) σ2 a'.tmps w':=by
 refine inv.base.frames hs inv.siz (fun t s v h1 h2=>?_)
 rcases h t s h1 with h3|⟨h3,h4⟩|⟨j,p,q1,q2,q3,q4,q5⟩
 ·subst h3;trivial
 ·rw[inv.oth t h3] at h2
  exact inv.base.slot t s v h4 h2
 ·subst q5
  exact inv.slt j p t v q1 q2 q3 q4 h2
theorem early_any (T:Tabs) (hT:TabOk P T.T) {σ1:St} {Q:Exit->Act->World->Prop} (hQp:∀c a w,¬Q (.panic c) a w) (hB:earlyB ops m n q=true) (H:HeadOk ops D m n) (hr:RelE X E σ a.tmps w) (hcert:∀i o,i<m->ops[i]?=some o->CertAt P X D ops S sk (poison ids σ) i o)
  (hw1:Walk ops S (poison ids σ) σ1 m) (hst:∀i o,n<=i->i<q->ops[i]?=some o->StoreAt T σ σ1 D o (idf i)/\idf i∈ids) (hidf:∀i j,n<=i->i<q->n<=j->j<q->idf i=idf j->i=j)
  (hnew:∀i,m<=i->i<n->∃o,ops[i]?=some o/\NewAt P o (inf i).1 (inf i).2.1 (inf i).2.2)
  (hQ:∀ (a':Act) (w':World) (bl:Nat->Nat) (l:List Nat) (listed:Array Bool),(∀i,i<q->listed.getD i false=true)->EInv T X E ops m n q inf S sk σ ids idf a w bl l listed a' w'->wpOps P ops Q (BB q (ops.size-q)) a' w'):
  ∀ (k:Nat) (listed:Array Bool) (a':Act) (w':World) (bl:Nat->Nat) (l:List Nat),(AV q).countP (fun i=> !listed.getD i true)=k->EInv T X E ops m n q inf S sk σ ids idf a w bl l listed a' w'->wpAny P .any ops Q (k+(ops.size-q)) listed a' w':=by
 simp only[earlyB,A4,decide_eq_true_eq,AJ,A6] at hB
 obtain⟨⟨⟨⟨⟨hsel,hmn⟩,hnq⟩,hns⟩,hops⟩,htail⟩:=hB
 have hop:∀i,i<q->∃o,ops[i]?=some o/\(∀e∈o.after,Ar .any e=true->e.on<i)/\(i<n->∃d,o.dst=some d/\∀j p,j<n->j≠i->ops[j]?=some p->p.dst≠some d)/\
   ((i<m\/n<=i)->∀j p t,j<n->ops[j]?=some p->p.dst=some t->t∈o.looksAt ops->j<m/\j<i/\A5 .any ops i j=true)/\
   (q<ops.size->(lateB ops m q i=true->bareOp o=true/\∀j p,ops[j]?=some p->j≠i->A5 .any ops j i=true\/A5 .any ops i j=true\/o.apart ops p=true)/\
    (lateB ops m q i=false->∃j,j<=q/\i<j/\A5 .any ops j i=true/\(j=q\/lateB ops m q j=false))):=by
  intro i hi
  have h:=hops i hi
  cases ho:ops[i]? with
  |none=>rw[ho] at h;simp at h
  |some o=>
   rw[ho] at h
   simp only[A4,AJ,A6] at h
   obtain⟨⟨⟨h2,h13⟩,h4⟩,h5⟩:=h
   refine⟨o,rfl,fun e he hb=>?_,fun hin=>?_,fun him j p t hj hp ht hl=>?_,fun hlt=>?_⟩
   ·have:=Am.1 h2 e he
    simp only[hb,Ak,B6,decide_eq_true_eq] at this
    exact this
   ·simp only[A8,decide_eq_true_eq,A4,AJ,A6] at h13
    rcases h13 with h|⟨h1,h3⟩
    ·omega
    ·cases hd:o.dst with
     |none=>rw[hd] at h1;simp at h1
     |some d=>
      refine⟨d,rfl,fun j p hj hne hp he=>?_⟩
      have:=h3 j hj
      rw[hp] at this
      simp only[beq_iff_eq,AG,beq_eq_false_iff_ne,ne_eq] at this
      rcases this with h|h
      ·exact hne h
      ·exact h (he.trans hd.symm)
   ·simp only[A8,A4,decide_eq_true_eq,AJ,A6] at h4
    rcases h4 with h|h
    ·omega
    ·have:=h j hj
     rw[hp] at this
     simp only[AU,ht,A8,AG,A4,decide_eq_true_eq] at this
     rcases this with h|h
     ·simp[Af,hl] at h
     ·exact⟨h.1.1,h.1.2,h.2⟩
   ·have h6:(bif lateB ops m q i then bareOp o&&(AV ops.size).all (fun j=>j==i||A5 .any ops j i||A5 .any ops i j||(match ops[j]? with|some p=>o.apart ops p|none=>true))
      else(AV (q+1)).any (fun j=>decide (i<j)&&A5 .any ops j i&&(j==q|| !lateB ops m q j)))=true:=by
     rcases A8 _ _▸h5 with h|h
     ·have:q=ops.size:=by simpa using h
      omega
     ·exact h
    refine⟨fun hla=>?_,fun hla=>?_⟩
    ·rw[hla] at h6
     simp only[cond_true,A4,AJ,A6] at h6
     refine⟨h6.1,fun j p hp hne=>?_⟩
     have:=h6.2 j (AD.1 hp).1
     rw[hp] at this
     simp only[A8,beq_iff_eq] at this
     rcases this with((h|h)|h)|h
     ·exact absurd h hne
     ·exact .inl h
     ·exact .inr (.inl h)
     ·exact .inr (.inr h)
    ·rw[hla] at h6
     simp only[cond_false,B0,A6,A4,decide_eq_true_eq,A8,beq_iff_eq,AG] at h6
     obtain⟨j,h7,⟨h8,h9⟩,h10⟩:=h6
     exact⟨j,by omega,h8,h9,h10⟩
 have hdD:∀t,t∉D->∀i o,i<n->ops[i]?=some o->o.dst≠some t:=fun t ht i o hi ho he=>ht ((H.mem t).2 ⟨i,o,hi,ho,he⟩)
 intro k
 induction k with
 |zero=>
  intro listed a' w' bl l hk inv
  have hall:∀i,i<q->listed.getD i false=true:=by
   intro i hi
   refine listed_of_not (by rw[inv.head.size];omega) (fun h=>?_)
   have:=Av.1 hk i (A6.2 hi)
   simp[h] at this
  rw[Ao]
  exact any_of_tail hQp hsel hns htail inv.head hall (hQ a' w' bl l listed hall inv)
 |succ k ih=>
  intro listed a' w' bl l hk inv
  rw[show k+1+(ops.size-q)=(k+(ops.size-q))+1 by omega]
  have hex:∃i,i<q/\listed.getD i true=false:=by
   obtain⟨i,hi,h⟩:=Aw.1 (show 0<(AV q).countP (fun i=> !listed.getD i true) by omega)
   exact⟨i,A6.1 hi,by simpa using h⟩
  have hmin:∃i,i<q/\listed.getD i true=false/\i∈AH .any ops listed:=by
   obtain⟨i,hi,h⟩:=hex
   induction i using B3 with
   |_ i ihi=>
    by_cases hlow:∃j,j<i/\listed.getD j true=false
    ·obtain⟨j,hj,hj2⟩:=hlow
     exact ihi j hj (by omega) hj2
    ·obtain⟨o,e1,e3,_⟩:=hop i hi
     refine⟨i,hi,h,mem_ready.2 ⟨h,o,e1,fun e he hb=>?_⟩⟩
     have hlt:=e3 e he hb
     exact listed_of_not (by rw[inv.head.size];omega) (fun hn=>hlow ⟨e.on,hlt,hn⟩)
  have hcount:∀i,i<q->listed.getD i true=false->(AV q).countP (fun j=> !(listed.setIfInBounds i true).getD j true)=k:=by
   intro i hin hun
   have:=countP_one (f:=fun j=> !listed.getD j true) (g:=fun j=> !(listed.setIfInBounds i true).getD j true) (i:=i) (B1) (A6.2 hin) (by simp only[hun];rfl)
    (by
     have hlt:i<listed.size:=by rw[inv.head.size];omega
     simp[AC,hlt])
    (fun j _ hj=>by
     have:=getD_set_ne (listed:=listed) true (Ne.symm hj)
     simp only[this])
   omega
  have hlist:∀i oi,i∈AH .any ops listed->ops[i]?=some oi->i<q->(i<m\/n<=i)->∀j p t,j<n->ops[j]?=some p->p.dst=some t->t∈oi.looksAt ops->j<m/\listed.getD j false=true:=by
   intro i oi hi hoi hiq him j p t hj hp hpt ht
   obtain⟨hun,o',ho',hwait⟩:=mem_ready.1 hi
   rw[hoi] at ho'
   have:=A3 ho'
   subst this
   obtain⟨o2,e1,_,_,e5,_⟩:=hop i hiq
   rw[hoi] at e1
   have:=A3 e1
   subst this
   obtain⟨hjm,_,hw⟩:=e5 him j p t hj hp hpt ht
   obtain⟨o2,ho2,e,he,hb,hon⟩:=AL hw
   rw[hoi] at ho2
   have:=A3 ho2
   subst this
   have:=hwait e he hb
   rw[hon] at this
   exact⟨hjm,this⟩
  have hkeep:∀i oi t p x,n<=i->i<q->ops[i]?=some oi->oi.op= .store t (.tmp p) x->listed.getD i false=true->∀j pj d v,j<n->ops[j]?=some pj->pj.dst=some d->listed.getD j true=false->(a'.put (some d) v).eval x=a'.eval x:=by
   intro i oi t p x hni hiq hoi hop' hli j pj d v hj hpj hpd hun
   cases x with
   |tmp u=>
    by_cases hu:u=d
    ·exfalso
     subst hu
     obtain⟨o2,e1,_,_,e5,_⟩:=hop i hiq
     rw[hoi] at e1
     have:=A3 e1
     subst this
     obtain⟨_,_,hw⟩:=e5 (.inr hni) j pj u hj hpj hpd (AE _ (An.2 ⟨.tmp u,by rw[hop'];simp[Op.operands],rfl⟩))
     obtain⟨o2,ho2,e,he,hb,hon⟩:=AL hw
     have h2:=inv.head.closed i o2 ho2 hli e he hb
     rw[hon,getD_both hun] at h2
     cases h2
    ·show(a'.put (some d) v).tmps.getD u undef=a'.tmps.getD u undef
     rw[AC,AC,put_other _ _ u (fun e=>hu (A3 e))]
   |_=>rfl
  have hnext:∀i oi d v w2,i<m->ops[i]?=some oi->oi.dst=some d->i∈AH .any ops listed->Ext w' w2->SlotOk w2 (Fz X (E.outs (l++E.out)) (poison ids σ) w2) (E.outs (l++E.out)) (poison ids σ) (S i) v->(sk i=true->v=undef)->EInv T X E ops m n q inf S sk σ ids idf a w bl l (listed.setIfInBounds i true) (a'.put oi.dst v) w2:=by
   intro i oi d v w2 him hoi hd hi hw2 hv hs
   have hin:i<n:=by have:=H.le;omega
   have hun:=(mem_ready.1 hi).1
   obtain⟨o',e1,_,e24,_,_⟩:=hop i (by omega)
   rw[hoi] at e1
   have:=A3 e1
   subst this
   obtain⟨d',e2,e4⟩:=e24 hin
   rw[hd] at e2
   have:=A3 e2
   subst this
   have head':=inv.head.set hi (by omega)
   have K:=inv.base.keepExt hw2
   have hput:∀t,t≠d->(a'.put oi.dst v).tmps[t]?=a'.tmps[t]?:=fun t ht=>put_other _ _ t (fun e=>ht (by rw[hd] at e;exact A3 e))
   have hself:∀u,(a'.put oi.dst v).tmps[d]?=some u->u=v:=by
    intro u hu
    rw[hd] at hu
    simp only[Act.put] at hu
    by_cases hlt:d<a'.tmps.size
    ·rw[AQ hlt] at hu;exact(A3 hu).symm
    ·rw[Ac (by rw[AX];exact Au hlt)] at hu;cases hu
   refine⟨head',inv.base.ext hw2,Ab inv.hsz hw2.size,(put_defers _ _).trans inv.dfr,(put_size _ _).trans inv.siz,fun t ht=>?_,fun j p t u hj hp hpt hlj hu=>?_,fun j p t u hj hp hpt hlj hsj hu=>?_,fun j h1 h2 hlj=>?_,fun j l h1 h2 h3 h4 h5 h6=>?_,fun b hb=>⟨(inv.lfr b hb).1,AB (inv.lfr b hb).2 hw2.size⟩,fun j h1 h2 hlj=>inv.lmem j h1 h2 (listed_set hlj (by omega)),fun j oj t p x tt h1 h2 hoj hop' hTt=>?_⟩
   ·rw[hput t (fun e=>ht i oi hin hoi (by rw[hd,e]))]
    exact inv.oth t ht
   ·by_cases hji:j=i
    ·subst hji
     rw[hoi] at hp
     have:=A3 hp
     subst this
     rw[hd] at hpt
     have:=A3 hpt
     subst this
     rw[hself u hu];exact hv
    ·rw[hput t (fun e=>e4 j p (by omega) hji hp (by rw[hpt,e]))] at hu
     exact K.slot (inv.slt j p t u hj hp hpt (listed_set hlj hji) hu)
   ·by_cases hji:j=i
    ·subst hji
     rw[hoi] at hp
     have:=A3 hp
     subst this
     rw[hd] at hpt
     have:=A3 hpt
     subst this
     rw[hself u hu];exact hs hsj
    ·rw[hput t (fun e=>e4 j p (by omega) hji hp (by rw[hpt,e]))] at hu
     exact inv.skp j p t u hj hp hpt (listed_set hlj hji) hsj hu
   ·have hji:j≠i:=by omega
    obtain⟨n1,n2,n3,n4⟩:=inv.new j h1 h2 (listed_set hlj hji)
    obtain⟨oj,hoj,hN⟩:=hnew j h1 h2
    refine⟨fun b hb=>?_,n2,AB n3 hw2.size,(hw2.block _ n3).trans n4⟩
    rw[hput _ (fun e=>e4 j oj h2 hji hoj (by rw[hN.dst,e]))]
    exact n1 b hb
   ·exact inv.inj j l h1 h2 h3 h4 (listed_set h5 (by omega)) (listed_set h6 (by omega))
   ·obtain⟨cur,e,s1,s2,s3⟩:=inv.sto j oj t p x tt h1 h2 hoj hop' hTt
    have hlt:(E.ad (idf j)).1<w'.heap.size:=(AD.1 s1).1
    refine⟨cur,e,(hw2.block _ hlt).trans s1,s2,fun hlj=>?_⟩
    have hlj':=listed_set hlj (show j≠i by omega)
    rw[hd,hkeep j oj t p x h1 h2 hoj hop' hlj' i oi d v hin hoi hd hun]
    exact s3 hlj'
  have hdo:∀i,i∈AH .any ops listed->i<m->∃oi d,ops[i]?=some oi/\oi.dst=some d/\((AO oi (yielded ops a'.tmps)=false/\sk i=true/\S i= .no)\/(AO oi (yielded ops a'.tmps)=true/\sk i=false/\slotUpon P X (E.outs (l++E.out)) (poison ids σ) w' (S i) ((execOp a'.eval oi).run P w'))):=by
   intro i hi hin
   have hle:=H.le
   obtain⟨oi,hoi,e3,e24,e5,_⟩:=hop i (by omega)
   obtain⟨d,hd,e4⟩:=e24 (by omega)
   refine⟨oi,d,hoi,hd,?_⟩
   have hlist':∀j p t,j<n->ops[j]?=some p->p.dst=some t->t∈oi.looksAt ops->listed.getD j false=true:=fun j p t hj hp hpt ht=>(hlist i oi hi hoi (by omega) (.inl hin) j p t hj hp hpt ht).2
   have hguard:∀j w,oi.guard=some (j,w)->j<i->∀c,dstOf ops j=some c->∃pj,ops[j]?=some pj/\pj.dst=some c/\listed.getD j false=true:=by
    intro j w hg hji c hc
    have hc':=hc
    unfold dstOf at hc'
    cases hp:ops[j]? with
    |none=>rw[hp] at hc';cases hc'
    |some pj=>
     rw[hp] at hc'
     refine⟨pj,rfl,hc',hlist' j pj c (by omega) hp hc' ?_⟩
     refine A9 _ ?_
     rw[hg]
     simp only[hp,AU]
     rw[show pj.dst=some c from hc']
     simp
   have hyes:∀j w v,oi.guard=some (j,w)->Guards ops S sk (poison ids σ).fr.length i j v->yielded ops a'.tmps j=some v:=by
    intro j w v hg hG
    obtain⟨h1,h2,c,h3,h4,ms,hm',h5⟩:=hG
    obtain⟨pj,q1,q2,q3⟩:=hguard j w hg h1 c h3
    have hlt:c<a'.tmps.size:=by rw[inv.siz,<-hr.len];exact h4
    have hs:=inv.slt j pj c _ (by omega) q1 q2 q3 (AP hlt)
    rw[h5] at hs
    rw[yielded_dst h3,AP hlt,val_bool hs]
   rcases hcert i oi hin hoi with⟨h1,h2,j,w,h3,h4,h5⟩|⟨h1,h2,σs,h3,h4⟩
   ·refine .inl ⟨?_,h1,h2⟩
    unfold AO
    rw[h3]
    rcases h5 with h5|⟨v,h5,h6⟩
    ·have:yielded ops a'.tmps j=none:=by
      cases hc:dstOf ops j with
      |none=>exact yielded_none hc
      |some c=>
       obtain⟨pj,q1,q2,q3⟩:=hguard j w h3 h4 c hc
       rw[yielded_dst hc]
       cases hz:a'.tmps[c]? with
       |none=>rfl
       |some u=>rw[inv.skp j pj c u (by omega) q1 q2 q3 h5 hz];rfl
     simp[this]
    ·have:=hyes j w v h3 h6
     simp[this,h5]
   ·refine .inr ⟨?_,h1,?_⟩
    ·unfold AO
     cases hg:oi.guard with
     |none=>rfl
     |some z=>
      obtain⟨j,w⟩:=z
      have:=hyes j w w hg (h2 j w hg)
      simp[this]
    ·refine upon_same h3.same inv.base.ge (h4 _ a' w' (inv.rel h3.same fun t s ht=>?_))
     rcases h3.slot t s ht with q1|⟨q1,q2⟩|⟨j,p,q1,q2,q3,q4,q5⟩
     ·exact .inl q1
     ·exact .inr (.inl ⟨hdD t q1,q2⟩)
     ·exact .inr (.inr ⟨j,p,by omega,q2,q3,hlist' j p t (by omega) q2 q3 q4,q5⟩)
  by_cases hlt:∃i,i∈AH .any ops listed/\q<ops.size/\lateB ops m q i=true
  ·obtain⟨i,hi,hns',hla⟩:=hlt
   have him:i<m:=by simp only[lateB,A4,decide_eq_true_eq] at hla;exact hla.1
   obtain⟨hun,_,_,hwait⟩:=mem_ready.1 hi
   obtain⟨oi,d,hoi,hd,hcase⟩:=hdo i hi him
   have hle:=H.le
   obtain⟨o,e1,e3,_,_,e6⟩:=hop i (by omega)
   rw[hoi] at e1
   have:=A3 e1
   subst this
   obtain⟨hbare,hap⟩:=(e6 hns').1 hla
   have hgn:oi.guard=none:=by simp only[bareOp,A4] at hbare;simpa using hbare.1
   rcases hcase with⟨h1,_⟩|⟨_,h2,h3⟩
   ·simp[AO,hgn] at h1
   ·obtain⟨v,hv,hy⟩:=bare_upon (ops:=ops) hbare h3
    rw[hv] at h3
    refine wpAny_first hoi (fun j oj cs b hj=>AY hsel j oj cs b hj) (fun c a w h=>absurd h (hQp c _ w)) _ _ _ _ (fun j oj hj hji hju hno=>?_) hi hy (ih _ _ _ bl l (hcount i (by omega) hun) (hnext i oi d v w' him hoi hd hi (Ext.refl _) h3.2 (fun h=>by rw[h2] at h;cases h)))
    rcases hap j oj hj hji with h|h|h
    ·obtain⟨o',ho',e,he,hb,hon⟩:=AL h
     rw[hj] at ho'
     have:=A3 ho'
     subst this
     exact absurd hon (hno e he hb)
    ·obtain⟨o',ho',e,he,hb,hon⟩:=AL h
     obtain⟨_,o2,ho2,hw2⟩:=mem_ready.1 hi
     rw[ho'] at ho2
     have:=A3 ho2
     subst this
     have h1:=hw2 e he hb
     rw[hon,getD_both hju] at h1
     cases h1
    ·exact h
  have hlow:∀i∈AH .any ops listed,i<q:=by
   intro i hi
   obtain⟨hun,oi,hoi,_⟩:=mem_ready.1 hi
   have hlt':i<ops.size:=(AD.1 hoi).1
   rcases Ah i q with h|h
   ·exact h
   ·exfalso
    rcases(Or.inr htail:q=ops.size\/tailB ops q=true) with h'|h2
    ·omega
    ·obtain⟨j,hj,hj2,hj3⟩:=hmin
     have hnl:lateB ops m q j=false:=by
      cases hla:lateB ops m q j with
      |false=>rfl
      |true=>exact absurd ⟨j,hj3,by omega,hla⟩ hlt
     exact tail_waits2 (fun i hi hl=>((hop i hi).choose_spec.2.2.2.2 (by omega)).2 hl) h2 (by omega) inv.head _ j rfl hj hnl hj2 i h hi
  refine⟨fun h=>?_,fun i hi=>?_⟩
  ·obtain⟨i,_,_,hi⟩:=hmin
   rw[h] at hi;cases hi
  ·have hiq:=hlow i hi
   obtain⟨hun,_,_,_⟩:=mem_ready.1 hi
   by_cases him:i<m
   ·obtain⟨oi,d,hoi,hd,hcase⟩:=hdo i hi him
    unfold wpOp
    simp only[hoi]
    rcases hcase with⟨h1,h2,h3⟩|⟨h1,h2,h3⟩
    ·simp only[h1,B4,if_false]
     exact ih _ _ _ bl l (hcount i hiq hun) (hnext i oi d undef w' him hoi hd hi (Ext.refl _) (by rw[h3];trivial) (fun _=>rfl))
    ·simp only[h1,if_true]
     left
     unfold Oper.wp
     generalize (execOp a'.eval oi).run P w'=r at h3
     cases r with
     |halt x w2=>exact h3.elim
     |ok nx w2=>
      cases nx with
      |value u=>simp only[Oper.upon];exact ih _ _ _ bl l (hcount i hiq hun) (hnext i oi d u w2 him hoi hd hi h3.1 h3.2 (fun h=>by rw[h2] at h;cases h))
      |enter f args=>
       obtain⟨e1,hc⟩:=h3
       simp only[Oper.upon]
       rw[e1]
       exact hc.mono fun e w3 ⟨v,he,hx,hs⟩=>by
        subst he
        exact ih _ _ _ bl l (hcount i hiq hun) (hnext i oi d v w3 him hoi hd hi hx hs (fun h=>by rw[h2] at h;cases h))
      |_=>exact h3.elim
   ·by_cases hin:i<n
    ·-- a new box
     obtain⟨oi,hoi,e3,e24,e5,_⟩:=hop i hiq
     obtain⟨d,e2,e4⟩:=e24 hin
     obtain⟨oj,hoj,hN⟩:=hnew i (by omega) hin
     rw[hoi] at hoj
     have:=A3 hoj
     subst this
     have head':=inv.head.set hi hiq
     have hd:d=(inf i).1:=by have:=hN.dst;rw[e2] at this;exact A3 this
     unfold wpOp
     simp only[hoi,AO,hN.guard,if_true]
     left
     unfold Oper.wp
     rw[hN.run a' w',Oper.upon_value]
     have hext:=Ext.alloc w' (.cells (inf i).2.1 (inf i).2.2)
     have K:=keep_outs (l':=(w'.heap.size::l)++E.out) inv.base hext (fun b hb=>by
      rcases AS.1 hb with rfl|hb
      ·exact .inr (AW _)
      ·exact .inl hb)
     have hnd:(l++E.out).Nodup:=by
      have:=inv.base.nodup
      simp only[owned] at this
      exact(A7.1 (A7.1 this).2.1).2.1
     have hltE:∀b∈l++E.out,b<w'.heap.size:=fun b hb=>(inv.base.lt b (mem_out inv.base hb)).1
     have hbase:RelE X (E.outs ((w'.heap.size::l)++E.out)) (poison ids σ) a.tmps (w'.alloc (.cells (inf i).2.1 (inf i).2.2)):=
      (inv.base.world (w1:=w'.alloc (.cells (inf i).2.1 (inf i).2.2)) (l:=(w'.heap.size::l)++E.out) (fun b hb _=>hext.block b hb) (inv.base.fr.ext hext) hext.size (by
       rw[B9]
       exact Ay.2 ⟨fun h=>by have:=hltE _ h;omega,hnd⟩) (fun b hb=>by
       rw[B9] at hb
       rcases AS.1 hb with rfl|hb
       ·exact⟨.inr (AW _),by simp⟩
       ·exact⟨.inl hb,AB (hltE b hb) hext.size⟩)).1
     refine ih _ _ _ (fun j=>if j=i then w'.heap.size else bl j) (w'.heap.size::l) (hcount i hiq hun) ?_
     have hput:∀t,t≠d->(a'.put oi.dst (.pointer (some ⟨w'.heap.size,0,none⟩))).tmps[t]?=a'.tmps[t]?:=fun t ht=>put_other _ _ t (fun e=>ht (by rw[e2] at e;exact A3 e))
     refine⟨head',hbase,Ab inv.hsz hext.size,(put_defers _ _).trans inv.dfr,(put_size _ _).trans inv.siz,fun t ht=>?_,fun j p t u hj hp hpt hlj hu=>?_,fun j p t u hj hp hpt hlj hsj hu=>?_,fun j h1 h2 hlj=>?_,fun j l h1 h2 h3 h4 h5 h6 h7=>?_,fun b hb=>?_,fun j h1 h2 hlj=>?_,fun j oj t p x tt h1 h2 hoj hop' hTt=>?_⟩
     ·rw[hput t (fun e=>ht i oi hin hoi (by rw[e2,e]))]
      exact inv.oth t ht
     ·have hji:j≠i:=by omega
      rw[hput t (fun e=>e4 j p (by omega) hji hp (by rw[hpt,e]))] at hu
      exact K.slot (inv.slt j p t u hj hp hpt (listed_set hlj hji) hu)
     ·have hji:j≠i:=by omega
      rw[hput t (fun e=>e4 j p (by omega) hji hp (by rw[hpt,e]))] at hu
      exact inv.skp j p t u hj hp hpt (listed_set hlj hji) hsj hu
     ·by_cases hji:j=i
      ·subst hji
       simp only[if_true]
       refine⟨fun b hb=>?_,inv.hsz,by simp,heap_alloc_new w' _⟩
       rw[e2,<-hd]
       exact put_same (inv.siz.trans hb.symm)
      ·simp only[if_neg hji]
       obtain⟨n1,n2,n3,n4⟩:=inv.new j h1 h2 (listed_set hlj hji)
       obtain⟨oj,hoj,hNj⟩:=hnew j h1 h2
       refine⟨fun b hb=>?_,n2,AB n3 hext.size,(hext.block _ n3).trans n4⟩
       rw[hput _ (fun e=>e4 j oj h2 hji hoj (by rw[hNj.dst,e]))]
       exact n1 b hb
     ·by_cases hji:j=i
      ·by_cases hli:l=i
       ·omega
       ·simp only[hji,if_true,if_neg hli] at h7
        have:=(inv.new l h3 h4 (listed_set h6 hli)).2.2.1
        omega
      ·by_cases hli:l=i
       ·simp only[hli,if_true,if_neg hji] at h7
        have:=(inv.new j h1 h2 (listed_set h5 hji)).2.2.1
        omega
       ·simp only[if_neg hji,if_neg hli] at h7
        exact inv.inj j l h1 h2 h3 h4 (listed_set h5 hji) (listed_set h6 hli) h7
     ·rcases AS.1 hb with rfl|hb
      ·exact⟨inv.hsz,by simp⟩
      ·exact⟨(inv.lfr b hb).1,AB (inv.lfr b hb).2 hext.size⟩
     ·by_cases hji:j=i
      ·simp[hji]
      ·simp only[if_neg hji]
       exact AI _ (inv.lmem j h1 h2 (listed_set hlj hji))
     ·obtain⟨cur,e,s1,s2,s3⟩:=inv.sto j oj t p x tt h1 h2 hoj hop' hTt
      have hlt:(E.ad (idf j)).1<w'.heap.size:=(AD.1 s1).1
      refine⟨cur,e,(hext.block _ hlt).trans s1,s2,fun hlj=>?_⟩
      have hlj':=listed_set hlj (show j≠i by omega)
      rw[e2,hkeep j oj t p x h1 h2 hoj hop' hlj' i oi d _ hin hoi e2 hun]
      exact s3 hlj'
    ·-- a store
     obtain⟨oi,hoi,e3,_,e5,_⟩:=hop i hiq
     have hni:n<=i:=by omega
     obtain⟨⟨hg,hdn,t,p,x,tt,r,t',y,v,ms,hop',hTt,hpD,hptr,hy,hyt,hco⟩,hidm⟩:=hst i oi hni hiq hoi
     have head':=inv.head.set hi hiq
     obtain⟨cur,e,s1,s2,_⟩:=inv.sto i oi t p x tt hni hiq hoi hop' hTt
     obtain⟨tn,htt⟩:=hT.ty t _ hTt
     have hlp:p<a.tmps.size:=by rw[<-hr.len];exact(AT.1 hptr).1
     have hpe:a'.eval (.tmp p)= .pointer (some ⟨(E.ad (idf i)).1,(E.ad (idf i)).2,none⟩):=by
      show a'.tmps.getD p undef=_
      rw[AC,inv.oth p (hdD p hpD),AP hlp]
      obtain⟨_,b,o',h1,h2⟩:=hr.slot p _ _ hptr (AP hlp)
      rw[BD,h1]
      cases hr':r<;>rw[hr'] at h2<;>simp[addr] at h2<;>obtain⟨_,h2⟩:=h2<;>rw[h2]
     have hrel:RelE X (E.outs (l++E.out)) (hide D (oi.looksAt ops) σ1) a'.tmps w':=inv.rel (hw1.same.hide _) fun u s hu=>by
      rcases hide_at hu with h1|⟨h1,h2⟩
      ·exact .inl h1
      ·rcases hw1.slot u s h1 with h3|⟨h3,h4⟩|⟨j,pj,h3,h4,h5,h6⟩
       ·exact .inl h3
       ·refine .inr (.inl ⟨hdD u fun hD=>?_,h4⟩)
        obtain⟨j,pj,q1,q2,q3⟩:=(H.mem u).1 hD
        exact h3 j pj (hlist i oi hi hoi hiq (.inr hni) j pj u q1 q2 q3 (h2 hD)).1 q2 q3
       ·exact .inr (.inr ⟨j,pj,h3,h4,h5,(hlist i oi hi hoi hiq (.inr hni) j pj u (by have:=H.le;omega) h4 h5 (h2 ((H.mem u).2 ⟨j,pj,by have:=H.le;omega,h4,h5⟩))).2,h6⟩)
     have hlx:∀u,x= .tmp u->u∈oi.looksAt ops:=fun u hu=>AE _ (An.2 ⟨.tmp u,by rw[hop',<-hu];simp[Op.operands],rfl⟩)
     obtain⟨cs,c1,c2,c3⟩:=hrel.coe (show V.coe tt (opd (hide D (oi.looksAt ops) σ1) x)=some (v,ms) by rw[opd_hide hlx];exact hco)
     have hcl:(a'.eval x).cells=cs.toArray:=by rw[c2];exact cells_toVal c1 (tyB_scalar htt)
     have hfit:(E.ad (idf i)).2+cs.length<=cur.size:=by rw[c1.length];exact s2
     have hrun:(execOp a'.eval oi).run P w'= .ok .skip (w'.setRow (E.ad (idf i)).1 (splice cur (E.ad (idf i)).2 cs)):=by
      simp only[execOp,hop',hpe,Ai,run_storeAt_ty htt hcl c1.length c1.one s1 hfit,Aa,Aj]
     unfold wpOp
     simp only[hoi,AO,hg,if_true]
     left
     unfold Oper.wp
     rw[hrun]
     simp only[Oper.upon,hdn]
     have hM:(∃s,cs.length<=s/\(idf i,E.ad (idf i),s)∈X.pbx)\/X.w0.heap.size<=(E.ad (idf i)).1:=by
      have:=hr.srcb _ hy
      dsimp only at this
      rw[hyt,<-c1.length] at this
      exact this
     obtain⟨hbase,K⟩:=inv.base.poke (id:=idf i) (cs:=cs) (mem_poison hy hidm) s1 hfit hM
     have hsize:(w'.setRow (E.ad (idf i)).1 (splice cur (E.ad (idf i)).2 cs)).heap.size=w'.heap.size:=by simp[BE]
     have hbw:(E.ad (idf i)).1<w.heap.size:=(hr.lt _ (mem_owned_bx hy)).1
     refine ih _ _ _ bl l (hcount i hiq hun) ?_
     show EInv T X E ops m n q inf S sk σ ids idf a w bl l _ a' _
     refine⟨head',hbase,by rw[hsize];exact inv.hsz,inv.dfr,inv.siz,inv.oth,fun j pj d u hj hp hpt hlj hu=>K.slot (inv.slt j pj d u hj hp hpt (listed_set hlj (by omega)) hu),fun j pj d u hj hp hpt hlj=>inv.skp j pj d u hj hp hpt (listed_set hlj (by omega)),
      fun j h1 h2 hlj=>?_,fun j z h1 h2 h3 h4 h5 h6=>inv.inj j z h1 h2 h3 h4 (listed_set h5 (by omega)) (listed_set h6 (by omega)),fun b hb=>by rw[hsize];exact inv.lfr b hb,fun j h1 h2 hlj=>inv.lmem j h1 h2 (listed_set hlj (by omega)),fun j oj t2 p2 x2 tt2 h1 h2 hoj hop2 hTt2=>?_⟩
     ·obtain⟨n1,n2,n3,n4⟩:=inv.new j h1 h2 (listed_set hlj (by omega))
      refine⟨n1,n2,by rw[hsize];exact n3,?_⟩
      rw[setRow_other w' _ _ _ (by omega)]
      exact n4
     ·by_cases hji:j=i
      ·subst hji
       rw[hoi] at hoj
       have:=A3 hoj
       subst this
       rw[hop'] at hop2
       simp only[Op.store.injEq,Operand.tmp.injEq] at hop2
       obtain⟨rfl,rfl,rfl⟩:=hop2
       rw[hTt] at hTt2
       have:=A3 hTt2
       subst this
       refine⟨_,e,setRow_heap w' _ cur _ e _ s1,by rw[splice_size hfit];exact s2,fun _ z u hz=>?_⟩
       rw[hcl] at hz
       have hz':cs[z]?=some u:=by simpa using hz
       have hzl:=(AT.1 hz').1
       rw[splice_get hfit,if_neg (by omega),if_pos (by omega),show(E.ad (idf j)).2+z-(E.ad (idf j)).2=z by omega]
       exact hz'
      ·obtain⟨cur2,ec2,z1,z2,z3⟩:=inv.sto j oj t2 p2 x2 tt2 h1 h2 hoj hop2 hTt2
       obtain⟨⟨_,_,_,_,_,_,_,_,y2,_,_,_,_,_,_,hy2,_,_⟩,_⟩:=hst j oj h1 h2 hoj
       have hne:(E.ad (idf j)).1≠(E.ad (idf i)).1:=fun he=>by
        have hn:=hr.nodup
        simp only[owned] at hn
        have hn1:=(A7.1 hn).1
        have hinj:=inj_of_nodup (f:=fun b:Bx=>(E.ad b.id).1) hn1 hy2 hy he
        have:idf j=idf i:=congrArg Bx.id hinj
        exact hji (hidf j i h1 h2 hni hiq this)
       refine⟨cur2,ec2,?_,z2,fun hlj=>z3 (listed_set hlj hji)⟩
       rw[setRow_other w' _ _ _ hne]
       exact z1
end
end Go.Proofs.YtacbkfginiknaaaDoor.V
namespace Go.Proofs.YtacbkfginiknaaaDoor.V
open Go
section
variable {P:Program} {X:Ctx} {E:Env} {σ:St} {A0:Array Value} {a:Act} {w:World} {o:Oper} {R:Type}
theorem gather_mu:∀ {ks:List AK} {ss:List Slot} {k:Tup (tysOf ks)->St->Option R} {r:R},muOnly ks=true->gatherK ks ss σ k=some r->
  ∃x,k x σ=some r/\∀ (R':Type) (k':Tup (tysOf ks)->St->Option R'),gatherK ks ss σ k'=k' x σ:=by
 intro ks
 induction ks with
 |nil=>
  intro ss k r _ h
  cases ss with
  |nil=>exact⟨(),h,fun _ _=>rfl⟩
  |cons s ss=>simp[gatherK] at h
 |cons c ks ih=>
  intro ss k r hro h
  cases ss with
  |nil=>simp[gatherK] at h
  |cons s ss=>
   simp only[gatherK] at h
   cases c with
   |ro t=>
    simp only[muOnly] at hro
    simp only[oneK] at h
    cases hc:coe t s with
    |none=>rw[hc] at h;simp at h
    |some q=>
     obtain⟨v,ms⟩:=q
     rw[hc] at h
     simp only at h
     cases hu:allUs σ ms with
     |false=>rw[hu] at h;simp at h
     |true=>
      rw[hu] at h
      simp only[cond_true] at h
      obtain⟨x,h1,h2⟩:=ih hro h
      refine⟨Tup.cons (t:=t) (r:=tysOf ks) v x,h1,fun R' k'=>?_⟩
      simp only[gatherK,oneK,hc,hu,cond_true]
      exact h2 R' _
   |pin t=>
    simp only[muOnly] at hro
    simp only[oneK] at h
    obtain⟨x0,hm,h1,h2,_⟩:=readK_nat h
    cases hc:cast? t x0 with
    |none=>rw[hc] at h1;simp at h1
    |some q=>
     obtain⟨v,ms⟩:=q
     rw[hc] at h1
     simp only at h1
     cases hu:allUs σ ms with
     |false=>rw[hu] at h1;simp at h1
     |true=>
      rw[hu] at h1
      simp only[cond_true] at h1
      obtain⟨x,h3,h4⟩:=ih hro h1
      refine⟨Tup.cons (t:=t) (r:=tysOf ks) v x,h3,fun R' k'=>?_⟩
      simp only[gatherK,oneK]
      rw[h2]
      simp only[hc,hu,cond_true]
      exact h4 R' _
   |own t=>simp[muOnly] at hro
   |mu t=>
    simp only[muOnly] at hro
    have h':(readK σ s fun x _=>match cast? t x with
      |some (v,ms)=>bif allUs σ ms&&noneAl σ ms then gatherK ks ss σ fun x σ=>k (Tup.cons v x) σ else none
      |none=>none)=some r:=by
     cases s with
     |rptr τ x=>simp[oneK] at h
     |_=>exact h
    have hone:∀ {R':Type} (k':t.den->St->Option R'),oneK (.mu t) s σ k'=readK σ s fun x _=>match cast? t x with
      |some (v,ms)=>bif allUs σ ms&&noneAl σ ms then k' v σ else none
      |none=>none:=by
     intro R' k'
     cases s with
     |rptr τ x=>simp[oneK] at h
     |_=>rfl
    obtain⟨x0,hm,h1,h2,_⟩:=readK_nat h'
    cases hc:cast? t x0 with
    |none=>rw[hc] at h1;simp at h1
    |some q=>
     obtain⟨v,ms⟩:=q
     rw[hc] at h1
     simp only at h1
     cases hu:allUs σ ms&&noneAl σ ms with
     |false=>rw[hu] at h1;simp at h1
     |true=>
      rw[hu] at h1
      simp only[cond_true] at h1
      obtain⟨x,h3,h4⟩:=ih hro h1
      refine⟨Tup.cons (t:=t) (r:=tysOf ks) v x,h3,fun R' k'=>?_⟩
      simp only[gatherK]
      refine(hone _).trans ?_
      refine(h2 R' _).trans ?_
      simp only[hc,hu,cond_true]
      exact h4 R' _
   |pio t=>simp[muOnly] at hro
   |io t=>simp[muOnly] at hro
   |clo f n cs=>
    cases s with
    |clo f' n' caps=>
     simp only[oneK] at h
     cases hc:f'==f&&n'==n with
     |false=>rw[hc] at h;simp at h
     |true=>
      rw[hc] at h
      simp only[cond_true] at h
      obtain⟨v,h1,h2⟩:=capsK_nat h
      obtain⟨x,h3,h4⟩:=ih (by simpa[muOnly] using hro) h1
      refine⟨Tup.cons (t:=cloTy cs) (r:=tysOf ks) v x,h3,fun R' k'=>?_⟩
      simp only[gatherK,oneK,hc,cond_true]
      rw[h2]
      exact h4 R' _
    |_=>simp[oneK] at h
theorem lend_mnat {aks:List AK} {sh:Bool} {ss:List Slot} {k:Tup (tysOf aks)->St->Option R} {r:R} (hro:muOnly aks=true) (hno:sh=true->noneAl σ (roToks σ aks ss)=true) (h:lendK aks sh ss σ k=some r):
  ∃x,k x σ=some r/\∀ (R':Type) (k':Tup (tysOf aks)->St->Option R'),lendK aks sh ss σ k'=k' x σ:=by
 unfold lendK at h
 cases hg: !sh||noPins aks with
 |false=>rw[hg] at h;simp at h
 |true=>
  rw[hg] at h
  simp only[cond_true] at h
  have hf:(bif sh then σ.freeze (roToks σ aks ss) else σ)=σ:=by
   cases sh with
   |false=>rfl
   |true=>exact freeze_noop (hno rfl)
  rw[hf] at h
  obtain⟨x,h1,h2⟩:=gather_mu hro h
  cases hc:noDup (exclOf σ aks ss)&&lentOk σ (exclOf σ aks ss) aks ss with
  |false=>rw[hc] at h1;simp at h1
  |true=>
   rw[hc] at h1
   simp only[Ak,cond_false] at h1
   refine⟨x,h1,fun R' k'=>?_⟩
   unfold lendK
   rw[hg,hf]
   simp only[cond_true]
   rw[h2]
   simp only[hc,Ak,cond_false]
theorem rows_mu {A pin:Nat->Prop}:∀ {ks:List AK} {x:Tup (tysOf ks)} {us:List Value} {fs:List Foot},muOnly ks=true->ArgsOk w A pin ks x us fs->rowsOf fs=[]:=by
 intro ks
 induction ks with
 |nil=>intro x us fs _ h;cases us<;>cases fs<;>first|rfl|exact h.elim
 |cons c r ih=>
  intro x us fs hro h
  cases us with
  |nil=>cases fs<;>exact h.elim
  |cons u us=>
   cases fs with
   |nil=>exact h.elim
   |cons f fs=>
    have hf:f.rows=[]:=by
     have h1:=h.1
     cases c with
     |ro t=>rw[h1.2]
     |pin t=>rw[h1.2]
     |clo g n ks=>rw[h1.2]
     |mu t=>obtain⟨_,_,_,_,_,_,_,_,_,_,h1⟩:=h1;rw[h1]
     |_=>simp[muOnly] at hro
    have hro':muOnly r=true:=by cases c<;>simp[muOnly] at hro<;>exact hro
    show f.rows.filterMap id++rowsOf fs=[]
    rw[hf,ih hro' h.2];rfl
theorem lent_mu {aks:List AK} {sh:Bool} {ss:List Slot} {us:List Value} {x:Tup (tysOf aks)} (hro:muOnly aks=true) (hno:sh=true->noneAl σ (roToks σ aks ss)=true) (hr:RelE X E σ A0 w) (hlen:ss.length=us.length)
  (hsl:∀ (i:Nat) s u,ss[i]?=some s->us[i]?=some u->SlotOk w (Fz X E σ w) E σ s u) (h:lendK aks sh ss σ (fun x σ'=>some (x,σ'))=some (x,σ)):
  ∃fs A pin,Pre aks x w A pin us fs/\(sh=true->∀b,A b->Fz X E σ w b)/\lentOk σ (exclOf σ aks ss) aks ss=true:=by
 have h0:=h
 unfold lendK at h
 cases hg: !sh||noPins aks with
 |false=>rw[hg] at h;simp at h
 |true=>
  rw[hg] at h
  simp only[cond_true] at h
  have hf:(bif sh then σ.freeze (roToks σ aks ss) else σ)=σ:=by
   cases sh with
   |false=>rfl
   |true=>exact freeze_noop (hno rfl)
  rw[hf] at h
  obtain⟨x',σ1,E1,fs,q1,q2,q3,q4,q5⟩:=gather_ok hr hlen hsl h
  cases hc:noDup (exclOf σ1 aks ss)&&lentOk σ1 (exclOf σ1 aks ss) aks ss with
  |false=>rw[hc] at q1;simp at q1
  |true=>
   rw[hc] at q1
   simp only[Ak,cond_false,Ad,BU] at q1
   obtain⟨e1,e2⟩:=q1
   subst e1;subst e2
   simp only[A4] at hc
   have hsl1:∀ (i:Nat) s u,ss[i]?=some s->us[i]?=some u->SlotOk w (Fz X E1 σ1 w) E1 σ1 s u:=fun i s u h1 h2=>q3.K.slot (hsl i s u h1 h2)
   have hsh:ShOks σ1 sh aks ss:=shOks_of (ks0:=aks) (ss0:=ss) (σ:=σ1) (fun hs τ hτ hal=>noneAl_iff.1 (hno hs) τ hτ hal)
    (fun hs=>by rw[hs] at hg;simpa using hg) (fun _ h=>h) id
   obtain⟨w1,w2,w3⟩:=lend_all q2 hsl1 q5 hc.2 hsh
   obtain⟨w4,w5⟩:=lend_apart (sh:=sh) q2 q4 w2 w3 hc.1
   have hrow:=rows_mu hro w1
   refine⟨fs,_,_,⟨w1,w4,w5,fun b hb=>?_,fun b hb=>?_,fun p hp=>⟨(q2.glob hp).1,.inl (q2.glob hp).2⟩⟩,fun hs b hb=>?_,hc.2⟩
   ·rcases hb with h|⟨_,τ,h1,_,h2⟩
    ·exact h.2.1
    ·exact(q2.lt b (mem_owned_al h1 h2)).1
   ·rcases hb with h|⟨q,h1,_,rfl⟩|h|⟨τ,h1,_,h2⟩
    ·exact(q2.pinlt b h).1
    ·exact(q2.lt _ (mem_owned_bx h1)).1
    ·exact h.2.1
    ·exact(q2.lt b (mem_owned_al h1 h2)).1
   ·rcases hb with h|⟨h,_⟩
    ·refine⟨h.1,h.2.1,fun ho=>h.2.2 ?_⟩
     rw[hrow,BT] at q4
     simp only[owned,AM] at ho ⊢
     rcases ho with ho|ho|ho
     ·left
      obtain⟨q,hq,he⟩:=AZ.1 ho
      exact AZ.2 ⟨q,hq,by rw[q3.ad];exact he⟩
     ·right;left
      obtain⟨τ,hτ,he⟩:=B8.1 ho
      exact B8.2 ⟨τ,hτ,by simpa[tokB,q3.hd] using he⟩
     ·right;right;exact q4.mem_iff.2 ho
    ·rw[hs] at h;cases h
theorem lent_none {ex:List (Nat×Nat)}:∀ {ks:List AK} {ss:List Slot},muOnly ks=true->lentOk σ ex ks ss=true->ks.length=ss.length->exclOf σ ks ss=[]->roOnly ks=true:=by
 intro ks
 induction ks with
 |nil=>intro ss _ _ _ _;rfl
 |cons c ks ih=>
  intro ss hm hl hlen he
  cases ss with
  |nil=>simp at hlen
  |cons s ss=>
   simp only[lentOk,A4] at hl
   cases c with
   |ro t=>exact ih (by simpa[muOnly] using hm) hl.2.2 (by simpa using hlen) (by simpa[exclOf] using he)
   |pin t=>exact ih (by simpa[muOnly] using hm) hl.2.2 (by simpa using hlen) (by simpa[exclOf] using he)
   |clo g n cs=>exact ih (by simpa[muOnly] using hm) hl.2.2 (by simpa using hlen) (by simpa[exclOf] using he)
   |mu t=>
    exfalso
    have h1:=hl.1
    cases s<;>simp[lendAt] at h1
    simp[exclOf] at he
   |_=>simp[muOnly] at hm
theorem one_place {w':World} {AF A pin:Nat->Prop} {ex:List (Nat×Nat)}:∀ {ks:List AK} {ss:List Slot} {us:List Value} {x:Tup (tysOf ks)} {fs:List Foot} {bo:List (List (Option Nat))} {y:Tup (outsOf ks)},muOnly ks=true->(exclOf σ ks ss).length=1->lentOk σ ex ks ss=true->ss.length=us.length->
  ArgsOk w A pin ks x us fs->OutsOk w' AF ks y us fs bo->flatB bo=[]/\∃t v s b of cs,muSlot ks ss=some s/\muVal ks y=some ⟨t,v,List.replicate t.nl 0⟩/\(∃i:Nat,ss[i]?=some s/\us[i]?=some (Value.pointer (some ⟨b,of,none⟩)))/\Rf w' AF t v cs/\At w' b of cs/\
   (∀c j,footM ks fs c j->c=b/\of<=j/\j<of+t.size)/\(∃c e,w.heap[b]?=some (.cells c e (0,0))/\of+t.size<=c.size)/\(t.nl=0\/sharesO ks=true)/\b∈(placesOf fs).map (·.1):=by
 intro ks
 induction ks with
 |nil=>intro ss us x fs bo y _ h;simp[exclOf] at h
 |cons c ks ih=>
  intro ss us x fs bo y hm hex hl hlen hargs hout
  cases us with
  |nil=>cases fs<;>exact hargs.elim
  |cons u us=>
  cases fs with
  |nil=>exact hargs.elim
  |cons f fs=>
  cases bo with
  |nil=>exact hout.elim
  |cons bs bo=>
  cases ss with
  |nil=>simp at hlen
  |cons s ss=>
   obtain⟨a1,a2⟩:=hargs
   obtain⟨o1,o2⟩:=hout
   simp only[lentOk,A4] at hl
   have skip:muOnly ks=true->f=⟨[],none⟩->bs=[]->(exclOf σ ks ss).length=1->muSlot (c::ks) (s::ss)=muSlot ks ss->muVal (c::ks) y=muVal ks (Tup.snd (a:=c.outs) (b:=outsOf ks) y)->(sharesO ks=true->sharesO (c::ks)=true)->flatB (bs::bo)=[]/\∃t v s' b of cs,muSlot (c::ks) (s::ss)=some s'/\muVal (c::ks) y=some ⟨t,v,List.replicate t.nl 0⟩/\(∃i:Nat,(s::ss)[i]?=some s'/\(u::us)[i]?=some (.pointer (some ⟨b,of,none⟩)))/\Rf w' AF t v cs/\At w' b of cs/\
     (∀d j,footM (c::ks) (f::fs) d j->d=b/\of<=j/\j<of+t.size)/\(∃c e,w.heap[b]?=some (.cells c e (0,0))/\of+t.size<=c.size)/\(t.nl=0\/sharesO (c::ks)=true)/\b∈(placesOf (f::fs)).map (·.1):=by
    intro hm' hf hb he e1 e2 e3
    subst hf;subst hb
    obtain⟨h0,t,v,s',b,of,cs,h1,h2,⟨i,h3,h4⟩,h5,h6,h7,h8,h9,h10⟩:=ih hm' he hl.2.2 (by simpa using hlen) a2 o2
    refine⟨by rw[flatB_cons];exact h0,t,v,s',b,of,cs,e1.trans h1,e2.trans h2,⟨i+1,by simpa using h3,by simpa using h4⟩,h5,h6,fun d j h=>?_,h8,h9.imp id e3,by simpa[placesOf] using h10⟩
    rcases h with h|⟨p,h,_⟩|h
    ·cases h
    ·cases h
    ·exact h7 d j h
   cases c with
   |ro t=>exact skip (by simpa[muOnly] using hm) a1.2 o1 (by simpa[exclOf] using hex) rfl rfl (fun h=>by simp[sharesO,AK.outs,h])
   |pin t=>exact skip (by simpa[muOnly] using hm) a1.2 o1 (by simpa[exclOf] using hex) rfl rfl (fun h=>by simp[sharesO,AK.outs,h])
   |clo g n cs=>exact skip (by simpa[muOnly] using hm) a1.2 o1 (by simpa[exclOf] using hex) rfl rfl (fun h=>by simp[sharesO,AK.outs,h])
   |mu t=>
    obtain⟨b,of,cs0,c0,e0,g1,g2,g3,g4,g5,g6⟩:=a1
    subst g6
    obtain⟨rfl,b',of',cs,k1,k2,k3⟩:=o1
    rw[g1] at k1
    simp only[Value.pointer.injEq,Ad,Addr.mk.injEq,and_true] at k1
    obtain⟨rfl,rfl⟩:=k1
    have h1:=hl.1
    cases s<;>simp[lendAt] at h1
    rename_i id r0 p0 t0
    have hex2:exclOf σ ks ss=[]:=by
     simp only[exclOf,B7,Nat.add_eq_right,List.length_eq_zero_iff] at hex
     exact hex
    have klen:∀ {ks:List AK} {x:Tup (tysOf ks)} {us:List Value} {fs:List Foot},ArgsOk w A pin ks x us fs->ks.length=us.length:=by
     intro ks
     induction ks with
     |nil=>intro x us fs h;cases us<;>cases fs<;>first|rfl|exact h.elim
     |cons k ks ih=>
      intro x us fs h
      cases us with
      |nil=>cases fs<;>exact h.elim
      |cons u us=>cases fs with
       |nil=>exact h.elim
       |cons f fs=>simp[ih h.2]
    have hro:=lent_none (by simpa[muOnly] using hm) hl.2.2 (by rw[klen a2];simpa using hlen.symm) hex2
    have hlen0:=(show Rf w A t _ cs0 from g2).length
    refine⟨by rw[flatB_cons];exact outs_ro hro o2,t,_,_,b,of,cs,rfl,rfl,⟨0,rfl,by rw[g1];rfl⟩,k2,k3,fun d j h=>?_,⟨c0,e0,g4,by rw[<-hlen0];exact g5⟩,?_,by simp[placesOf]⟩
    ·rcases h with h|⟨p,h,h2,h3⟩|h
     ·cases h
     ·cases h
      exact⟨h2.symm,h3⟩
     ·exact absurd h (foot_ro hro a2 d j)
    ·by_cases hn:t.nl=0
     ·exact .inl hn
     ·right
      simp only[sharesO,A8]
      left;left
      simpa using hn
   |_=>simp[muOnly] at hm
theorem Fr.compose2 {M M':Nat->Nat->Prop} {w0 w w':World} (h:Fr M w0 w) (k:Fr M' w w') (hm:∀b o,b<w0.heap.size->M' b o->M b o):Fr M w0 w':=by
 refine⟨k.os.trans h.os,k.tape.trans h.tape,k.output.trans h.output,Ab h.size k.size,fun b hb=>?_⟩
 rcases k.block b (AB hb h.size) with h1|⟨c,c',e,h1,h2,h3,h4⟩
 ·rw[h1];exact h.block b hb
 ·rcases h.block b hb with q1|⟨d,d',e',q1,q2,q3,q4⟩
  ·exact .inr ⟨c,c',e,by rw[<-q1];exact h1,h2,h3,fun o ho=>h4 o fun hm'=>ho (hm b o hb hm')⟩
  ·rw[h1] at q2
   simp only[Ad,Obj.cells.injEq,and_true] at q2
   obtain⟨rfl,rfl⟩:=q2
   exact .inr ⟨d,c',e,q1,h2,h3.trans q3,fun o ho=>(h4 o fun hm'=>ho (hm b o hb hm')).trans (q4 o ho)⟩
theorem RelE.pokes (hr:RelE X E σ A0 w) {w3:World} {M:Nat->Nat->Prop} (hfr:Fr M w w3) {id:Nat} (hmem:⟨id,⟨.unit,(),[]⟩⟩∈σ.bx) {n:Nat} (hM:∀b j,M b j->b=(E.ad id).1/\(E.ad id).2<=j/\j<(E.ad id).2+n) (hX:(∃s,n<=s/\(id,E.ad id,s)∈X.pbx)\/X.w0.heap.size<=(E.ad id).1):
  RelE X E σ A0 w3/\Keep w w3 (Fz X E σ w) (Fz X E σ w3) E E σ σ/\(∀b,b<w.heap.size->b≠(E.ad id).1->w3.heap[b]?=w.heap[b]?):=by
 have hother:∀b,b<w.heap.size->b≠(E.ad id).1->w3.heap[b]?=w.heap[b]?:=by
  intro b hb hne
  rcases hfr.block b hb with h1|⟨c,c',e,h1,h2,_,h4⟩
  ·exact h1
  ·have:c'=c:=B5 fun o=>h4 o (fun hm=>hne (hM b o hm).1)
   rw[h2,this,h1]
 have hne:∀b,b∈σ.bx->b.id≠id->(E.ad b.id).1≠(E.ad id).1:=by
  intro b hb' hbid he
  have hn:=hr.nodup
  simp only[owned] at hn
  have hn1:=(A7.1 hn).1
  have hinj:=inj_of_nodup (f:=fun b:Bx=>(E.ad b.id).1) hn1 hb' hmem he
  exact hbid (by rw[hinj])
 have hal:∀τ∈σ.al,∀g,E.hd τ=some g->g≠(E.ad id).1:=by
  intro τ hτ g hg he
  have hn:=hr.nodup
  simp only[owned] at hn
  exact(A7.1 hn).2.2 _ (AZ.2 ⟨_,hmem,rfl⟩) g (AE _ (B8.2 ⟨τ,hτ,by simp[tokB,hg]⟩)) he.symm
 have K:Keep w w3 (Fz X E σ w) (Fz X E σ w3) E E σ σ:=
  ⟨fun b hb'=>⟨⟨hb'.1,AB hb'.2.1 hfr.size,hb'.2.2⟩,hother b hb'.2.1 (fun he=>hb'.2.2 (he▸mem_owned_bx hmem))⟩,AW _,fun _ _=>rfl,fun _ _=>rfl,fun _ _ h=>.inl h,fun τ _ hτ=>⟨hτ,fun g hg=>hother g (hr.lt g (mem_owned_al hτ hg)).1 (hal τ hτ g hg)⟩,hr.ge,fun b hb'=>⟨hb',hother b (hr.pinlt b hb').1 (fun he=>(hr.pinlt b hb').2 (he▸mem_owned_bx hmem))⟩⟩
 refine⟨{hr with
  slot:=fun i s u hs hu=>K.slot (hr.slot i s u hs hu)
  bx:=fun b hb'=>?_
  lt:=fun b hb'=>⟨AB (hr.lt b hb').1 hfr.size,(hr.lt b hb').2⟩
  fr:=?_
  pinlt:=fun b hb'=>⟨AB (hr.pinlt b hb').1 hfr.size,(hr.pinlt b hb').2⟩},K,hother⟩
 ·by_cases hbi:b.id=id
  ·obtain⟨c1,c2,c3,h1,h2,h3,h4,h5⟩:=hr.bx b hb'
   have hx:b=⟨id,⟨.unit,(),[]⟩⟩:=inj_of_nodup (f:=fun b:Bx=>b.id) hr.ids hb' hmem hbi
   subst hx
   dsimp only at h3 h4
   rcases hfr.block _ (AD.1 h3).1 with h6|⟨d,d',e',k1,k2,k3,_⟩
   ·exact⟨[],c2,c3,rfl,rfl,h6.trans h3,by simp only[BG];omega,fun j v hv=>by simp at hv⟩
   ·rw[h3] at k1
    simp only[Ad,Obj.cells.injEq,and_true] at k1
    obtain⟨rfl,rfl⟩:=k1
    exact⟨[],d',c3,rfl,rfl,k2,by simp only[BG];omega,fun j v hv=>by simp at hv⟩
  ·exact K.bx (hr.bx b hb') (hr.idlt b hb') (hother _ (hr.lt _ (mem_owned_bx hb')).1 (hne b hb' hbi))
 ·refine hr.fr.compose2 hfr (fun b o hb hm=>?_)
  obtain⟨rfl,h1,h2⟩:=hM b o hm
  rcases hX with⟨s,h3,h4⟩|h3
  ·exact hr.pbm _ h4 o h1 (by dsimp only;omega)
  ·omega
theorem fillK_nat {s:Slot} {x:Val} {k:Nat->Option R} {r:R} (h:fillK σ s x k=some r):∃id r0 t' y,s= .ptr id r0 [] t'/\σ.find id=some y/\y.t=r0/\y.t=x.t/\k id=some r/\
  ∀ (R':Type) (k':Nat->Option R'),fillK σ s x k'=k' id:=by
 unfold fillK at h
 split at h
 ·rename_i id r0 t'
  cases hf:σ.find id with
  |none=>rw[hf] at h;cases h
  |some y=>
   rw[hf] at h
   simp only at h
   cases hb:Ty.beq y.t r0&&Ty.beq y.t x.t with
   |false=>rw[hb] at h;cases h
   |true=>
    rw[hb] at h
    have hb2:=hb
    simp only[A4] at hb2
    exact⟨id,r0,t',y,rfl,hf,Ty.eq_of_beq hb2.1,Ty.eq_of_beq hb2.2,h,fun R' k'=>by simp only[fillK,hf,hb,cond_true]⟩
 ·cases h
theorem effK_nat (T:Tabs) {k:Nat->Val->Slot->Option R} {r:R} (h:effK T o σ k=some r):∃id x s,k id x s=some r/\∀ (R':Type) (k':Nat->Val->Slot->Option R'),effK T o σ k'=k' id x s:=by
 unfold effK at h
 split at h
 ·rename_i f args ats ho
  cases hf:T.F f with
  |none=>rw[hf] at h;cases h
  |some fn=>
   rw[hf] at h
   simp only at h
   cases hb: !fn.s.bx&&muOnly fn.s.args&&(exclOf σ fn.s.args (args.toList.map (opd σ))).length==1&&(!shares fn.s||noneAl σ (roToks σ fn.s.args (args.toList.map (opd σ)))) with
   |false=>rw[hb] at h;cases h
   |true=>
    rw[hb] at h
    simp only[cond_true] at h
    have hb2:=hb
    simp only[A4,A8,AG,beq_iff_eq] at hb2
    obtain⟨x,h1,h2⟩:=lend_mnat hb2.1.1.2 (fun hs=>hb2.2.resolve_left (by rw[hs];simp)) h
    cases hy:fn.f x with
    |none=>rw[hy] at h1;cases h1
    |some y=>
     rw[hy] at h1
     simp only[AU] at h1
     split at h1
     ·rename_i s v e1 e2
      obtain⟨id,r0,t2,yb,g1,g2,g3,g4,g5,g6⟩:=fillK_nat h1
      exact⟨id,v,_,g5,fun R' k'=>by simp only[effK,ho,hf,hb,cond_true];rw[h2,hy];simp only[AU,e1,e2];exact g6 R' _⟩
     ·cases h1
 ·cases h
def effUpon (P:Program) (X:Ctx) (E:Env) (σ σ':St) (A0:Array Value) (w:World) (s:Slot):Result Next->Prop
 | .ok (.enter f args) w2=>w2=w/\Calls P f args w (fun e w3=>∃v,e= .returned v/\RelE X E σ' A0 w3/\Keep w w3 (Fz X E σ w) (Fz X E σ' w3) E E σ σ'/\w.heap.size<=w3.heap.size/\(∀b∈E.out,w3.heap[b]?=w.heap[b]?)/\SlotOk w3 (Fz X E σ' w3) E σ' s v)
 |_=>False
theorem eff_ok (T:Tabs) (hT:TabOk P T.T) (hF:FOk P T.F) {id:Nat} {v:Val} {s:Slot} (h:effK T o σ (fun id x s=>some (id,x,s))=some (id,v,s)) (hr:RelE X E σ a.tmps w):
  effUpon P X E σ {σ with bx:=setBx id v σ.bx} a.tmps w s ((execOp a.eval o).run P w):=by
 unfold effK at h
 split at h
 ·rename_i f args ats ho
  cases hf:T.F f with
  |none=>rw[hf] at h;cases h
  |some fn=>
   rw[hf] at h
   simp only at h
   cases hb: !fn.s.bx&&muOnly fn.s.args&&(exclOf σ fn.s.args (args.toList.map (opd σ))).length==1&&(!shares fn.s||noneAl σ (roToks σ fn.s.args (args.toList.map (opd σ)))) with
   |false=>rw[hb] at h;cases h
   |true=>
    rw[hb] at h
    simp only[cond_true] at h
    simp only[A4,A8,AG,beq_iff_eq] at hb
    obtain⟨⟨⟨hbx,hmu⟩,hex⟩,hno0⟩:=hb
    have hno:shares fn.s=true->noneAl σ (roToks σ fn.s.args (args.toList.map (opd σ)))=true:=fun hs=>hno0.resolve_left (by rw[hs];simp)
    obtain⟨x,h1,h2⟩:=lend_mnat hmu hno h
    cases hy:fn.f x with
    |none=>rw[hy] at h1;cases h1
    |some y=>
     rw[hy] at h1
     simp only[AU] at h1
     split at h1
     ·rename_i s0 v0 e1 e2
      obtain⟨id0,r0,t2,yb,g1,g2,g3,g4,g5,_⟩:=fillK_nat h1
      simp only[Ad,BU] at g5
      obtain⟨g5,g6,g7⟩:=g5
      subst g5;subst g6;subst g7;subst g1
      obtain⟨hm,g,p1,p2,p3⟩:=hF f fn hf
      have hrun:(execOp a.eval o).run P w= .ok (.enter f (args.toList.map a.eval).toArray) w:=by
       have q1:a.eval (.func f)= .func (.func f) #[] #[]:=rfl
       have hb:¬g.body=none:=by intro h;rw[h] at p2;cases p2
       have hn:¬g.name="runtime.NumGoroutine":=by simpa using p3
       simp[execOp,ho,resolve,q1,Deferred.ofValue,invoke,callFunc,p1]
       rw[if_neg hn,if_neg hb,<-BQ]
      rw[hrun]
      refine⟨rfl,?_⟩
      have hlen:(args.toList.map (opd σ)).length=(args.toList.map a.eval).length:=by simp
      have hsl:∀ (i:Nat) s u,(args.toList.map (opd σ))[i]?=some s->(args.toList.map a.eval)[i]?=some u->SlotOk w (Fz X E σ w) E σ s u:=fun i s u q1 q2=>by
       rw[List.getElem?_map] at q1 q2
       cases hz:args.toList[i]? with
       |none=>rw[hz] at q1;simp at q1
       |some z=>
        rw[hz] at q1 q2
        simp only[Option.map_some,Ad] at q1 q2
        subst q1;subst q2
        exact slot_opd hr z
      obtain⟨fs,A,pin,hpre,hA,hlent⟩:=lent_mu hmu hno hr hlen hsl (h2 _ _)
      refine(hm x y hy w A pin _ fs hpre).mono fun e w3 he=>?_
      cases e with
      |panicked c=>exact he.elim
      |outgrown=>exact he.elim
      |returned u=>
       obtain⟨vs,rfl,hp⟩:=he.1 hbx
       obtain⟨bo,br,hnd,hrets,hres,houts⟩:=hp.ex
       obtain⟨hbo,t,vv,s1,b,of,cs,m1,m2,⟨i,m3,m4⟩,m5,m6,m7,⟨c0,ec,m8,m8'⟩,m9,_⟩:=one_place hmu hex hlent hlen hpre.args houts
       rw[e1] at m1
       rw[e2] at m2
       have m1':=A3 m1
       have m2':=A3 m2
       subst m1';subst m2'
       dsimp only at g4
       have hpl:(E.ad id0)=(b,of):=by
        obtain⟨_,b',o',k1,k2⟩:=hsl i _ _ m3 m4
        simp only[Value.pointer.injEq,Ad,Addr.mk.injEq,and_true] at k1
        obtain⟨k1,k3⟩:=k1
        subst k1;subst k3
        cases hr':r0<;>rw[hr'] at k2<;>simp[addr] at k2<;>exact k2.2
       have hb1:(E.ad id0).1=b:=by rw[hpl]
       have hb2:(E.ad id0).2=of:=by rw[hpl]
       have hmem:=find_mem g2
       have hX:(∃s,t.size<=s/\(id0,E.ad id0,s)∈X.pbx)\/X.w0.heap.size<=(E.ad id0).1:=by
        have:=hr.srcb _ hmem
        dsimp only at this
        rw[g4] at this
        exact this
       obtain⟨hr3,K1,hoth⟩:=(hr.poison [id0]).pokes hp.fr (mem_poison (c:=⟨id0,yb⟩) hmem AN) (n:=t.size) (fun c j hj=>by rw[hb1,hb2];exact m7 c j hj) hX
       have hKa:Keep w w (Fz X E σ w) (Fz X E (poison [id0] σ) w) E E σ (poison [id0] σ):=keep_bx poison_ids rfl rfl rfl hr.ge
       have hKc:Keep w3 w3 (Fz X E (poison [id0] σ) w3) (Fz X E ({σ with bx:=setBx id0 ⟨t,vv,List.replicate t.nl 0⟩ σ.bx}:St) w3) E E (poison [id0] σ) ({σ with bx:=setBx id0 ⟨t,vv,List.replicate t.nl 0⟩ σ.bx}:St):=
        keep_bx (by rw[poison_ids];exact setBx_ids σ.bx) rfl rfl rfl hr3.ge
       have K:=(hKa.trans K1).trans hKc
       have hrow:=rows_mu hmu hpre.args
       have hw0:X.w0.heap.size<=w.heap.size:=hr.fr.size
       have hfresh:∀c,w.heap.size<=c->c<w3.heap.size->Fz X E (poison [id0] σ) w3 c:=fun c q1 q2=>
        ⟨hr.new c (Ab hw0 q1),q2,fun hn=>by have:=((hr.poison [id0]).lt c hn).1;omega⟩
       have hAF:shares fn.s=true->∀c,After w w3 A fs (flatB bo++flatB br) c->Fz X E (poison [id0] σ) w3 c:=fun hs c hc=>by
        obtain⟨q1,q2,_⟩:=hc
        rcases q1 with q1|q1|q1
        ·exact((hKa.trans K1).A c (hA hs c q1)).1
        ·rw[hrow] at q1;cases q1
        ·exact hfresh c q1 q2
       have hrf:Rf w3 (Fz X E (poison [id0] σ) w3) t vv cs:=by
        rcases m9 with m9|m9
        ·exact rf_any m9 m5
        ·exact m5.mono (hAF (by simp only[shares,A8];exact .inr m9)) (fun _ _=>rfl)
       obtain⟨cur,hcur,hcsz⟩:∃cur,w3.heap[b]?=some (.cells cur ec (0,0))/\cur.size=c0.size:=by
        rcases hp.fr.block b (AD.1 m8).1 with q1|⟨d,d',e',q1,q2,q3,_⟩
        ·exact⟨c0,q1.trans m8,rfl⟩
        ·rw[m8] at q1
         simp only[Ad,Obj.cells.injEq,and_true] at q1
         obtain⟨rfl,rfl⟩:=q1
         exact⟨d',q2,q3⟩
       have hnt:0<(poison [id0] σ).nt:=by have:=hr.nt2;show 0<σ.nt;omega
       have hz:0∉(poison [id0] σ).al:=fun hn=>by have:=(hr.alr 0 hn).1;omega
       have hr4:RelE X E ({σ with bx:=setBx id0 ⟨t,vv,List.replicate t.nl 0⟩ σ.bx}:St) a.tmps w3:=
        hr3.fill (id:=id0) (x:=⟨t,vv,List.replicate t.nl 0⟩) (cs:=cs) (cur:=cur) (e:=ec) (by rw[poison_ids];exact setBx_ids σ.bx) rfl rfl rfl rfl rfl (fun b' hb'=>by
         rcases setBx_mem hr.ids hb' with rfl|⟨q1,q2⟩
         ·exact .inl rfl
         ·right
          simp only[poison,AZ]
          exact⟨b',q1,by simp[q2]⟩) (hr.idlt _ hmem) (rv_of_rf hnt hz hrf) (by simp) (by rw[hb1];exact hcur) (by rw[hb2,hrf.length,hcsz];exact m8') (by rw[hb1,hb2];exact m6) hX
       refine⟨_,rfl,hr4,K,hp.fr.size,fun c hc=>?_,?_⟩
       ·refine hoth c (hr.lt c (mem_out hr hc)).1 (fun he=>?_)
        have hn:=hr.nodup
        simp only[owned] at hn
        exact(A7.1 hn).2.2 _ (AZ.2 ⟨_,hmem,rfl⟩) c (A9 _ hc) he.symm
       ·obtain⟨k1,k2⟩:=res0_ok (w:=w3) (E:=E) (σ:=poison [id0] σ) (B:=Fz X E (poison [id0] σ) w3) hnt hz hres (fun b' hb'=>by
         obtain⟨q1,q2⟩:=hrets b' (A9 _ hb')
         rcases q1 with q1|q1
         ·rw[hrow] at q1;cases q1
         ·exact hfresh b' q1 q2) (by
         cases hs:shares fn.s with
         |false=>left;simp only[shares,Bool.or_eq_false_iff] at hs;exact hs.1
         |true=>right;exact hAF hs)
        exact hKc.slot (resVal_slot k1 k2)
     ·cases h1
 ·cases h
end
end Go.Proofs.YtacbkfginiknaaaDoor.V
namespace Go.Proofs.YtacbkfginiknaaaDoor.V
open Go
section
variable {P:Program} {ops:Array Oper} {a:Act} {w:World}
theorem storeCells_frame {b o:Nat}:∀ (vs:List Value) (i:Nat) {cur:Array Value} {e:TypeId} {w w2:World},w.heap[b]?=some (.cells cur e (0,0))->o+i+vs.length<=cur.size->(storeCells ⟨b,o,none⟩ vs i).run P w= .ok () w2->
  (∀c,c≠b->w2.heap[c]?=w.heap[c]?)/\∃cur',w2.heap[b]?=some (.cells cur' e (0,0))/\cur'.size=cur.size:=by
 intro vs
 induction vs with
 |nil=>
  intro i cur e w w2 hb _ h
  simp only[storeCells,Aj,Result.ok.injEq] at h
  rw[<-h.2]
  exact⟨fun _ _=>rfl,cur,hb,rfl⟩
 |cons v vs ih=>
  intro i cur e w w2 hb hlen h
  simp only[B7] at hlen
  have hadd:(⟨b,o,none⟩:Addr).add i=⟨b,o+i,none⟩:=by unfold Addr.add;split<;>simp_all
  have hlt:o+i<cur.size:=by omega
  have hc:w.cell? ⟨b,o+i,none⟩=some cur[o+i]:=by simp[BW,hb,hlt]
  have hf:w.frozen? ⟨b,o+i,none⟩=false:=by simp[World.frozen?,hb]
  cases h1:v.oneCell' with
  |false=>
   exfalso
   cases v<;>simp only[Value.oneCell',reduceCtorEq] at h1<;>simp[storeCells,store,Ai,Sem.run] at h
  |true=>
   simp only[storeCells,Ai] at h
   rw[hadd,run_store P w _ v _ h1,hc] at h
   simp only[hf,B4,if_false,Aa] at h
   have hb2:(w.setCell ⟨b,o+i,none⟩ v).heap[b]?=some (.cells (cur.setIfInBounds (o+i) v) e (0,0)):=by
    simp[BV,BJ,hb]
   obtain⟨h2,cur',h3,h4⟩:=ih (i+1) hb2 (by rw[AX];omega) h
   refine⟨fun c hcb=>?_,cur',h3,by rw[h4,AX]⟩
   rw[h2 c hcb]
   simp[BV,BJ,Ne.symm hcb]
theorem storeAt_frame {t:TypeId} {x:Value} {b o n:Nat} {cur:Array Value} {e:TypeId} {w w2:World} (hn:∀w,(sizeOf t).run P w= .ok n w) (hb:w.heap[b]?=some (.cells cur e (0,0))) (hlen:o+n<=cur.size) (h:(Instr.storeAt t (.pointer (some ⟨b,o,none⟩)) x).run P w= .ok () w2):
  (∀c,c≠b->w2.heap[c]?=w.heap[c]?)/\∃cur',w2.heap[b]?=some (.cells cur' e (0,0))/\cur'.size=cur.size:=by
 simp only[Instr.storeAt,Instr.sureAddr,storeVar,Ai,Aj,Aa,hn] at h
 by_cases hs:x.cells.size≠n
 ·simp[hs,stuck,Sem.run] at h
 ·simp only[hs,if_false,Aj,Ai,Aa] at h
  exact storeCells_frame x.cells.toList 0 hb (by simp at hs ⊢;omega) h
theorem any_first_inv {Q:Exit->Act->World->Prop} {J:Array Bool->Act->World->Prop} {i:Nat} {oi:Oper} {v:Value}
  (hyield:∀listed a w K,J listed a w->K (a.put oi.dst v) w->wpOp P ops Q i K a w)
  (hstep:∀listed a w j oj K,J listed a w->i∈AH .any ops listed->ops[j]?=some oj->j≠i->listed.getD j true=false->(∀e∈oj.after,Ar .any e=true->e.on≠i)->wpOp P ops Q j K (a.put oi.dst v) w->wpOp P ops Q j (fun a' w'=>J (listed.setIfInBounds j true) a' w'/\K (a'.put oi.dst v) w') a w):
  ∀ (fuel:Nat) (listed:Array Bool) (a:Act) (w:World),J listed a w->i∈AH .any ops listed->wpAny P .any ops Q fuel (listed.setIfInBounds i true) (a.put oi.dst v) w->wpAny P .any ops Q (fuel+1) listed a w:=by
 intro fuel
 induction fuel with
 |zero=>
  intro listed a w hJ hr H
  refine⟨fun h=>(by rw[h] at hr;cases hr),fun j hj=>?_⟩
  by_cases hji:j=i
  ·subst hji;exact hyield _ _ _ _ hJ H
  ·have:=ready_mono hj hji
   rw[H.1] at this
   cases this
 |succ fuel ih=>
  intro listed a w hJ hr H
  refine⟨fun h=>(by rw[h] at hr;cases hr),fun j hj=>?_⟩
  by_cases hji:j=i
  ·subst hji;exact hyield _ _ _ _ hJ H
  ·have h1:=H.2 j (ready_mono hj hji)
   obtain⟨hjun,oj,hoj,hall⟩:=mem_ready.1 hj
   have hnot:∀e∈oj.after,Ar .any e=true->e.on≠i:=fun e he hb heq=>by
    have h1:=hall e he hb
    rw[heq,getD_both (mem_ready.1 hr).1] at h1
    cases h1
   refine wpOp_mono (fun a' w' h3=>ih (listed.setIfInBounds j true) a' w' h3.1 (ready_mono hr (Ne.symm hji)) ?_) (hstep _ _ _ _ _ _ hJ hr hoj hji hjun hnot h1)
   rw[Array.setIfInBounds_comm _ _ hji]
   exact h3.2
def StoreQ (P:Program) (ops:Array Oper) (oj:Oper) (b1:Nat) (a:Act) (w:World):Prop:=
 oj.guard=none/\oj.dst=none/\∃ (t2:TypeId) (p2:Tmp) (x2:Operand) (b2 o2 n:Nat) (cur:Array Value) (e:TypeId),oj.op= .store t2 (.tmp p2) x2/\(∀ (j:Nat) (q:Oper),ops[j]?=some q->q.dst≠some p2)/\(∀w,(sizeOf t2).run P w= .ok n w)/\a.tmps.getD p2 undef= .pointer (some ⟨b2,o2,none⟩)/\b2≠b1/\w.heap[b2]?=some (.cells cur e (0,0))/\o2+n<=cur.size
theorem StoreQ.go {oj:Oper} {b1:Nat} {w2:World} {a a2:Act} (h:StoreQ P ops oj b1 a w) (hw:∀ (c:Nat) (cur:Array Value) (e:TypeId),w.heap[c]?=some (Obj.cells cur e (0,0))->∃cur':Array Value,w2.heap[c]?=some (Obj.cells cur' e (0,0))/\cur'.size=cur.size)
  (ha:∀p,(∀ (j:Nat) (q:Oper),ops[j]?=some q->q.dst≠some p)->a2.tmps.getD p undef=a.tmps.getD p undef):StoreQ P ops oj b1 a2 w2:=by
 obtain⟨h1,h2,t2,p2,x2,b2,o2,n,cur,e,h3,h0,h4,h5,h6,h7,h8⟩:=h
 obtain⟨cur',h9,h10⟩:=hw b2 cur e h7
 exact⟨h1,h2,t2,p2,x2,b2,o2,n,cur',e,h3,h0,h4,by rw[ha p2 h0];exact h5,h6,h9,by omega⟩
def LoadQ (oj:Oper):Prop:=oj.guard=none/\∃t p,oj.op= .load t (.tmp p)
theorem loadAt_looks (t:TypeId) (v:Value):(Instr.loadAt t v).Looks:=by
 unfold Instr.loadAt
 refine BH.bind ?_ (fun b=>?_)
 ·unfold Instr.sureAddr
  split<;>trivial
 ·unfold loadVar
  refine BH.bind ?_ (fun g=>?_)
  ·unfold isAgg
   refine BH.bind (underlying_looks t) (fun d=>?_)
   split<;>trivial
  ·split
   ·exact BH.bind (sizeOf_looks t) (fun n=>BH.bind (loadCells_looks b n) (fun c=>trivial))
   ·exact load_looks b _
theorem getD_put {a:Act} {d:Option Tmp} {v:Value} {p:Tmp} (h:d≠some p):(a.put d v).tmps.getD p undef=a.tmps.getD p undef:=by
 rw[AC,AC,put_other _ _ p (Ne.symm h)]
theorem load_first {Q:Exit->Act->World->Prop} (hQp:∀c a w,¬Q (.panic c) a w) (hsel:BA ops=true) {i:Nat} {oi:Oper} {t p:Nat} {v vp:Value} {b1:Nat} {ob1:Obj} (hi:ops[i]?=some oi) (hg:oi.guard=none) (hop:oi.op= .load t (.tmp p))
  (hv:∀w:World,w.heap[b1]?=some ob1->(Instr.loadAt t vp).run P w= .ok v w) (fuel:Nat) (listed:Array Bool) (a:Act) (w:World) (hp:a.tmps.getD p undef=vp) (hb:w.heap[b1]?=some ob1)
  (hall:∀j oj,ops[j]?=some oj->j≠i->listed.getD j true=false->(∀e∈oj.after,Ar .any e=true->e.on≠i)->oi.apart ops oj=true/\(bareOp oj=true\/LoadQ oj\/StoreQ P ops oj b1 a w))
  (hr:i∈AH .any ops listed) (h:wpAny P .any ops Q fuel (listed.setIfInBounds i true) (a.put oi.dst v) w):wpAny P .any ops Q (fuel+1) listed a w:=by
 have hpl:p∈oi.looksAt ops:=AE _ (An.2 ⟨.tmp p,by simp[hop,Op.operands],rfl⟩)
 refine any_first_inv (i:=i) (oi:=oi) (v:=v) (J:=fun listed a w=>a.tmps.getD p undef=vp/\w.heap[b1]?=some ob1/\∀j oj,ops[j]?=some oj->j≠i->listed.getD j true=false->(∀e∈oj.after,Ar .any e=true->e.on≠i)->oi.apart ops oj=true/\(bareOp oj=true\/LoadQ oj\/StoreQ P ops oj b1 a w))
  (fun listed a w K ⟨h1,h2,_⟩ hK=>?_) (fun listed a w j oj K ⟨h1,h2,h3⟩ hr hoj hji hju hno hK=>?_) fuel listed a w ⟨hp,hb,hall⟩ hr h
 ·unfold wpOp
  simp only[hi,AO,hg,if_true]
  left
  have:(execOp a.eval oi).run P w= .ok (.value v) w:=by
   have he:a.eval (.tmp p)=vp:=h1
   simp only[execOp,hop,he,Ai,hv w h2,Aa,Aj]
  unfold Oper.wp
  rw[this];exact hK
 ·obtain⟨hap,hcl⟩:=h3 j oj hoj hji hju hno
  obtain⟨q1,q2,q3⟩:=Oper.apart_spec hap
  have hsub:∀k,(listed.setIfInBounds j true).getD k true=false->listed.getD k true=false:=by
   intro k hk
   by_cases hkj:j=k
   ·subst hkj;exact hju
   ·rwa [getD_set_ne true hkj] at hk
  rcases hcl with hb|hld|hst
  ·obtain⟨u,hy,hK2⟩:=bare_step hQp hoj hb hK
   have hy2:Yields P ops oj u a:=hy.of_same (execOp_put oj (fun cs b=>AY hsel j oj cs b hoj) a oi.dst v q1).symm (wanted_put oj a oi.dst v q1).symm
   refine hy2.wpOp hoj ⟨⟨?_,h2,fun k ok hk hki hun hno2=>?_⟩,?_⟩
   ·rw[getD_put (fun he=>q3 p he hpl)];exact h1
   ·obtain⟨z1,z2⟩:=h3 k ok hk hki (hsub k hun) hno2
    exact⟨z1,z2.imp id fun z=>z.imp id fun z=>z.go (fun c cur e hc=>⟨cur,hc,rfl⟩) (fun p hp=>getD_put (hp j oj hoj))⟩
   ·rw[<-Act.put_comm a v u q2];exact hK2
  ·obtain⟨g1,t2,p2,g3⟩:=hld
   unfold wpOp at hK ⊢
   simp only[hoj,AO,g1,if_true] at hK ⊢
   have hex:=execOp_put oj (fun cs b=>AY hsel j oj cs b hoj) a oi.dst v q1
   rcases hK with hK|⟨hK,hl⟩
   ·left
    unfold Oper.wp at hK ⊢
    rw[hex] at hK
    simp only[execOp,g3,Ai] at hK ⊢
    cases hs:(Instr.loadAt t2 (a.eval (.tmp p2))).run P w with
    |ok u w2=>
     have hw2:w2=w:=(loadAt_looks _ _).ok hs
     subst hw2
     rw[hs] at hK
     simp only[Aa,Aj,Oper.upon] at hK ⊢
     refine⟨⟨?_,h2,fun k ok hk hki hun hno2=>?_⟩,?_⟩
     ·rw[getD_put (fun he=>q3 p he hpl)];exact h1
     ·obtain⟨z1,z2⟩:=h3 k ok hk hki (hsub k hun) hno2
      exact⟨z1,z2.imp id fun z=>z.imp id fun z=>z.go (fun c cur e hc=>⟨cur,hc,rfl⟩) (fun p hp=>getD_put (hp j oj hoj))⟩
     ·rw[<-Act.put_comm a v u q2];exact hK
    |halt x w2=>
     rw[hs] at hK
     cases x<;>simp only[BL,Oper.upon] at hK ⊢
     all_goals exact absurd hK (hQp _ _ _)
   ·right
    unfold Oper.asks at hK ⊢
    rw[hex] at hK
    exact⟨hK,hl⟩
  ·obtain⟨g1,g2,t2,p2,x2,b2,o2,n,cur,e,g3,g4,g5,g6,g7,g8,g9⟩:=hst
   unfold wpOp at hK ⊢
   simp only[hoj,AO,g1,if_true] at hK ⊢
   have hex:=execOp_put oj (fun cs b=>AY hsel j oj cs b hoj) a oi.dst v q1
   rcases hK with hK|⟨hK,hl⟩
   ·left
    unfold Oper.wp at hK ⊢
    rw[hex] at hK
    have he:a.eval (.tmp p2)= .pointer (some ⟨b2,o2,none⟩):=g6
    simp only[execOp,g3,he,Ai] at hK ⊢
    cases hs:(Instr.storeAt t2 (.pointer (some ⟨b2,o2,none⟩)) (a.eval x2)).run P w with
    |ok u w2=>
     rw[hs] at hK
     simp only[Aa,Aj,Oper.upon,g2] at hK ⊢
     obtain⟨k1,cur',k2,k3⟩:=storeAt_frame g5 g8 g9 hs
     refine⟨⟨h1,(k1 b1 (Ne.symm g7)).trans h2,fun k ok hk hki hun hno2=>?_⟩,hK⟩
     obtain⟨z1,z2⟩:=h3 k ok hk hki (hsub k hun) hno2
     refine⟨z1,z2.imp id fun z=>z.imp id fun z=>z.go (fun c cur2 e2 hc=>?_) (fun p _=>rfl)⟩
     by_cases hcb:c=b2
     ·subst hcb
      rw[g8] at hc
      simp only[Ad,Obj.cells.injEq,and_true] at hc
      exact⟨cur',by rw[k2,hc.2],by rw[k3,hc.1]⟩
     ·exact⟨cur2,(k1 c hcb).trans hc,rfl⟩
    |halt x w2=>
     rw[hs] at hK
     cases x<;>simp only[BL,Oper.upon] at hK ⊢
     all_goals exact absurd hK (hQp _ _ _)
   ·right
    unfold Oper.asks at hK ⊢
    rw[hex] at hK
    exact⟨hK,hl⟩
end
end Go.Proofs.YtacbkfginiknaaaDoor.V
namespace Go.Proofs.YtacbkfginiknaaaDoor.V
open Go
section
variable {P:Program} {X:Ctx} {E:Env} {σ:St} {a:Act} {w:World} {R:Type} {ops:Array Oper}
theorem perm_ready {d:List Nat} {o:Oper} (h:readyP d o=true):∀e∈o.after,Ar .any e=true->e.on∈d:=by
 intro e he hb
 unfold readyP at h
 have:=Array.all_eq_true'.1 h e he
 simp only[A8,AG,Af] at this
 rcases this with h|h
 ·rw[hb] at h;cases h
 ·exact h
theorem any_of_perm {Q:Exit->Act->World->Prop} (hQp:∀c a w,¬Q (.panic c) a w) (hsel:BA ops=true):∀ (π d:List Nat) (listed:Array Bool) (a:Act) (w:World),permGo ops d π=true->listed.size=ops.size->
  (∀i,listed.getD i false=true↔i∈d)->(∀i,i<ops.size->i∈d\/i∈π)->wpOps P ops Q π a w->wpAny P .any ops Q π.length listed a w:=by
 intro π
 induction π with
 |nil=>
  intro d listed a w hB hsz h1 h2 h
  refine⟨List.eq_nil_iff_forall_not_mem.2 fun i hi=>?_,h⟩
  obtain⟨hun,oi,hoi,_⟩:=mem_ready.1 hi
  have hlt:i<ops.size:=(AD.1 hoi).1
  have hd:i∈d:=by
   rcases h2 i hlt with h|h
   ·exact h
   ·cases h
  have:=(h1 i).2 hd
  rw[getD_both hun] at this
  cases this
 |cons n π ih=>
  intro d listed a w hB hsz h1 h2 h
  simp only[permGo,A4] at hB
  cases ho:ops[n]? with
  |none=>rw[ho] at hB;simp at hB
  |some o=>
   rw[ho] at hB
   simp only[A4,AG] at hB
   obtain⟨⟨⟨hnd,hrd⟩,halt⟩,hB'⟩:=hB
   have hnd':n∉d:=fun hm=>by rw[Af.2 hm] at hnd;cases hnd
   have hlt:n<ops.size:=(AD.1 ho).1
   have hdl:∀e,e∈d->listed.getD e true=true:=by
    intro e he
    have:=(h1 e).2 he
    rw[AC] at this ⊢
    cases hx:listed[e]? with
    |none=>rfl
    |some b=>rw[hx] at this;exact this
   have hunl:listed.getD n true=false:=by
    rw[AC,AP (by omega)]
    cases hx:listed[n]'(by omega) with
    |false=>simp[hx]
    |true=>
     exfalso
     refine hnd' ((h1 n).1 ?_)
     rw[AC,AP (by omega)];simp[hx]
   have hmem:n∈AH .any ops listed:=mem_ready.2 ⟨hunl,o,ho,fun e he hb=>(h1 e.on).2 (perm_ready hrd e he hb)⟩
   have hset:(listed.setIfInBounds n true).size=ops.size/\(∀i,(listed.setIfInBounds n true).getD i false=true↔i∈n::d)/\(∀i,i<ops.size->i∈n::d\/i∈π):=by
    refine⟨by simp[hsz],fun i=>?_,fun i hi=>?_⟩
    ·by_cases hin:i=n
     ·subst hin
      have:i<listed.size:=by omega
      simp[AC,this]
     ·rw[getD_set_ne false (Ne.symm hin),h1 i]
      simp[hin]
    ·rcases h2 i hi with h|h
     ·exact .inl (AI _ h)
     ·rcases AS.1 h with h|h
      ·exact .inl (by rw[h];exact AN)
      ·exact .inr h
   have hrest:∀j p,ops[j]?=some p->listed.getD j true=false->j≠n->j∈π:=by
    intro j p hp hun hjn
    have hjl:j<ops.size:=(AD.1 hp).1
    rcases h2 j hjl with h|h
    ·have:=hdl j h
     rw[hun] at this
     cases this
    ·rcases AS.1 h with h|h
     ·exact absurd h hjn
     ·exact h
   rw[B7]
   rw[wpOps_cons] at h
   rcases A8 _ _▸halt with halt|halt
   ·refine⟨fun h1=>(by rw[h1] at hmem;cases hmem),fun i hi=>?_⟩
    obtain⟨hun,oi,hoi,hall⟩:=mem_ready.1 hi
    have hin:i=n:=by
     refine BC fun hne=>?_
     have hj:=AJ.1 halt i (hrest i oi hoi hun hne)
     rw[hoi] at hj
     simp only at hj
     obtain⟨e,he,hb⟩:=BM.1 hj
     simp only[A4,AG] at hb
     have h3:=hall e he hb.1
     have hnm:e.on∉d:=fun hm=>by rw[Af.2 hm] at hb;cases hb.2
     exact hnm ((h1 e.on).1 h3)
    subst hin
    exact wpOp_mono (fun a' w' h'=>ih (i::d) _ a' w' hB' hset.1 hset.2.1 hset.2.2 h') h
   ·simp only[A4,AJ,A8] at halt
    obtain⟨v,hy,hK⟩:=bare_step hQp ho halt.1 h
    refine wpAny_first ho (fun j oj cs b hj=>AY hsel j oj cs b hj) (fun c a w h=>absurd h (hQp c _ w)) _ _ _ _ (fun j oj hj hji hju hno=>?_) hmem hy (ih (n::d) _ _ _ hB' hset.1 hset.2.1 hset.2.2 hK)
    have h':=halt.2 j (hrest j oj hj hju hji)
    rw[hj] at h'
    simp only[A8] at h'
    rcases h' with h'|h'
    ·obtain⟨e,he,hb⟩:=BM.1 h'
     simp only[A4,beq_iff_eq] at hb
     exact absurd hb.2 (hno e he hb.1)
    ·exact h'
theorem permGo_at:∀ {π d:List Nat},permGo ops d π=true->∀i∈π,∃o,ops[i]?=some o:=by
 intro π
 induction π with
 |nil=>intro d _ i hi;cases hi
 |cons n π ih=>
  intro d h i hi
  simp only[permGo,A4] at h
  rcases AS.1 hi with hi|hi
  ·rw[hi]
   cases ho:ops[n]? with
   |none=>rw[ho] at h;simp at h
   |some o=>exact⟨o,rfl⟩
  ·exact ih h.2 i hi
theorem steps_ok (T:Tabs) (hT:TabOk P T.T) (hF:FOk P T.F):∀ (l:List (Oper×Nat)) {R:Type} {σ:St} {k:St->Option R} {r:R} {a:Act} {w:World} {E:Env},
  stepsK T (l.map (·.1)) σ k=some r->RelE X E σ a.tmps w->(∀q∈l,ops[q.2]?=some q.1)->∀ (Q:Exit->Act->World->Prop),
  (∀a' w',End X T l a w (fun σ'=>k σ'=some r) a' w'->wpOps P ops Q [] a' w')->wpOps P ops Q (l.map (·.2)) a w:=by
 intro l
 induction l with
 |nil=>intro R σ k r a w E h hr _ Q hend;exact hend a w ⟨rfl,rfl,fun _ _=>rfl,fun _=>Ext.refl w,σ,h,E,hr⟩
 |cons o l ih=>
  intro R σ k r a w E h hr hi Q hend
  simp only[Al,stepsK] at h
  cases hg:o.1.guard.isNone with
  |false=>rw[hg] at h;simp at h
  |true=>
   rw[hg] at h
   simp only[cond_true] at h
   have hgn:o.1.guard=none:=by simpa using hg
   have ho:=hi o AN
   have hw:AO o.1 (yielded ops a.tmps)=true:=by simp[AO,hgn]
   simp only[Al,wpOps,ho,hw,if_true]
   left
   refine Oper.wp_mono (fun a1 w1 ⟨d1,s1,z1,x1,σ1,hk,E1,hr1⟩=>?_) (step_ok T hT hF h hr Q)
   exact ih hk hr1 (fun q hq=>hi q (AI _ hq)) Q (fun a2 w2 he=>hend a2 w2 (End.cons d1 z1 s1 x1 he))
end
end Go.Proofs.YtacbkfginiknaaaDoor.V
namespace Go.Proofs.YtacbkfginiknaaaDoor.V
open Go
section
variable {P:Program} {X:Ctx} {E:Env} {σ:St} {A0:Array Value} {w:World}
def Ctx.narrow (X:Ctx) (E:Env) (σ:St) (w:World) (l:List Nat):Ctx:=
 {w0:=w,ok:=fun b=>X.ok b/\b∉l,M:=fun b o=>(X.M b o\/X.w0.heap.size<=b)/\b∉l,
  fps:=X.fps++(owned E σ).filter (fun b=>decide (X.w0.heap.size<=b)),pbx:=X.pbx++σ.bx.map (fun b=>(b.id,E.ad b.id,b.x.t.size)),thx:=X.thx,pn:=fun b=>X.pn b/\b∉l}
theorem owned_outs {l:List Nat} {b:Nat}:b∈owned (E.outs (l++E.out)) σ↔b∈l\/b∈owned E σ:=by
 simp only[owned,Env.outs,AM]
 constructor
 ·rintro(h|h|h|h)
  ·exact .inr (.inl h)
  ·exact .inr (.inr (.inl h))
  ·exact .inl h
  ·exact .inr (.inr (.inr h))
 ·rintro(h|h|h|h)
  ·exact .inr (.inr (.inl h))
  ·exact .inl h
  ·exact .inr (.inl h)
  ·exact .inr (.inr (.inr h))
theorem Fr.refl' (M:Nat->Nat->Prop) (w:World):Fr M w w:=⟨rfl,rfl,rfl,AW _,fun _ _=>.inl rfl⟩
theorem RelE.narrow {l:List Nat} (hr:RelE X (E.outs (l++E.out)) σ A0 w) (hl:∀b∈l,X.w0.heap.size<=b):
  RelE (X.narrow E σ w l) E σ A0 w/\Keep w w (Fz X (E.outs (l++E.out)) σ w) (Fz (X.narrow E σ w l) E σ w) (E.outs (l++E.out)) E σ σ:=by
 have hap:∀b∈l,b∉owned E σ:=by
  intro b hb h
  have hn:=hr.nodup
  simp only[owned,Env.outs] at hn h
  have hn1:=A7.1 hn
  have hn2:=A7.1 hn1.2.1
  have hn3:=A7.1 hn2.2.1
  rcases AM.1 h with h|h
  ·exact hn1.2.2 b h b (A9 _ (AE _ hb)) rfl
  ·rcases AM.1 h with h|h
   ·exact hn2.2.2 b h b (AE _ hb) rfl
   ·exact hn3.2.2 b hb b h rfl
 have hlw:∀b∈l,b<w.heap.size:=fun b hb=>(hr.lt b (owned_outs.2 (.inl hb))).1
 have K:Keep w w (Fz X (E.outs (l++E.out)) σ w) (Fz (X.narrow E σ w l) E σ w) (E.outs (l++E.out)) E σ σ:=
  ⟨fun b hb=>⟨⟨⟨hb.1,fun h=>hb.2.2 (owned_outs.2 (.inl h))⟩,hb.2.1,fun h=>hb.2.2 (owned_outs.2 (.inr h))⟩,rfl⟩,AW _,fun _ _=>rfl,fun _ _=>rfl,fun _ _ h=>.inl h,fun _ _ h=>⟨h,fun _ _=>rfl⟩,hr.ge,fun _ h=>⟨h,rfl⟩⟩
 refine⟨⟨hr.len,fun i s v h1 h2=>K.slot (hr.slot i s v h1 h2),fun b hb=>K.bx (hr.bx b hb) (hr.idlt b hb) rfl,?_,fun b hb=>⟨(hr.lt b (owned_outs.2 (.inr hb))).1,(hr.lt b (owned_outs.2 (.inr hb))).2,fun h=>hap b h hb⟩,hr.ids,hr.idlt,hr.aln,hr.alr,hr.fzr,hr.nt2,hr.hd0,
  fun b hb=>⟨hr.new b (Ab hr.fr.size hb),fun h=>by have:=hlw b h;exact absurd hb (Nat.not_le.2 this)⟩,Fr.refl' _ _,fun τ ht b hb=>.inl ?_,fun b hb=>.inl ⟨b.x.t.size,AW _,A9 _ (AZ.2 ⟨b,hb,rfl⟩)⟩,?_,fun b hb=>.inl ?_,hr.lnr,hr.lnlt,?_,fun b hb=>⟨(hr.pinlt b hb).1,fun h=>(hr.pinlt b hb).2 (owned_outs.2 (.inr h))⟩,?_,hr.hdx,?_,⟨fun e he=>?_,fun b hb=>?_⟩,fun b hb=>⟨hr.pnx b hb,fun h=>(hr.pinlt b hb).2 (owned_outs.2 (.inl h))⟩⟩,K⟩
 ·have hn:=hr.nodup
  simp only[owned,Env.outs] at hn ⊢
  have hn1:=A7.1 hn
  have hn2:=A7.1 hn1.2.1
  have hn3:=A7.1 hn2.2.1
  refine A7.2 ⟨hn1.1,A7.2 ⟨hn2.1,hn3.2.1,fun a ha b hb=>hn2.2.2 a ha b (A9 _ hb)⟩,fun a ha b hb=>hn1.2.2 a ha b ?_⟩
  rcases AM.1 hb with h|h
  ·exact AE _ h
  ·exact A9 _ (A9 _ h)
 ·rcases hr.srct τ ht b hb with h|h
  ·exact AE _ h
  ·exact A9 _ (Ae.2 ⟨mem_owned_al ht hb,by simpa using h⟩)
 ·intro e he j h1 h2
  rcases AM.1 he with he|he
  ·exact⟨.inl (hr.pbm e he j h1 h2),fun h=>by have:=hl _ h;have:=hr.xlt.1 e he;omega⟩
  ·obtain⟨b,hb,rfl⟩:=AZ.1 he
   refine⟨?_,fun h=>hap _ h (mem_owned_bx hb)⟩
   rcases hr.srcb b hb with⟨s,g1,g2⟩|g
   ·exact .inl (hr.pbm _ g2 j h1 (AB h2 (Nat.add_le_add_left g1 _)))
   ·exact .inr g
 ·rcases hr.srco b (A9 _ hb) with h|h
  ·exact AE _ h
  ·exact A9 _ (Ae.2 ⟨A9 _ (A9 _ hb),by simpa using h⟩)
 ·intro b hb o
  rcases AM.1 hb with h|h
  ·exact⟨.inl (hr.fpm b h o),fun h'=>by have:=hl _ h';have:=hr.xlt.2 b h;omega⟩
  ·obtain⟨h1,h2⟩:=Ae.1 h
   exact⟨.inr (by simpa using h2),fun h'=>hap b h' h1⟩
 ·intro e he
  rcases AM.1 he with he|he
  ·exact hr.adx e he
  ·obtain⟨b,hb,rfl⟩:=AZ.1 he
   exact⟨hr.idlt b hb,rfl⟩
 ·intro p hp
  obtain⟨g1,g2⟩:=hr.glob hp
  obtain⟨_,q2,q3,q4,q5,q6⟩:=hr.gl p hp
  have hno:p.1∉owned E σ:=fun h=>g2.2.2 (owned_outs.2 (.inr h))
  have hnl:p.1∉l:=fun h=>g2.2.2 (owned_outs.2 (.inl h))
  refine⟨g1,⟨q2,hnl⟩,g2.2.1,fun o h=>?_,fun h=>?_,fun e he=>?_⟩
  ·rcases h.1 with h|h
   ·exact q4 o h
   ·omega
  ·rcases AM.1 h with h|h
   ·exact q5 h
   ·exact hno (Ae.1 h).1
  ·rcases AM.1 he with he|he
   ·exact q6 e he
   ·obtain⟨b,hb,rfl⟩:=AZ.1 he
    exact fun h=>hno (h▸mem_owned_bx hb)
 ·rcases AM.1 he with he|he
  ·exact AB (hr.xlt.1 e he) hr.fr.size
  ·obtain⟨b,hb,rfl⟩:=AZ.1 he
   exact(hr.lt _ (owned_outs.2 (.inr (mem_owned_bx hb)))).1
 ·rcases AM.1 hb with h|h
  ·exact AB (hr.xlt.2 b h) hr.fr.size
  ·exact(hr.lt b (owned_outs.2 (.inr (Ae.1 h).1))).1
theorem RelE.widen {l:List Nat} {E':Env} {σ':St} {A':Array Value} {w':World} (hr:RelE X (E.outs (l++E.out)) σ A0 w) (hl:∀b∈l,X.w0.heap.size<=b) (h:RelE (X.narrow E σ w l) E' σ' A' w'):
  RelE X (E'.outs (l++E'.out)) σ' A' w'/\∀b∈l,w'.heap[b]?=w.heap[b]?:=by
 have hlw:∀b∈l,b<w.heap.size:=fun b hb=>(hr.lt b (owned_outs.2 (.inl hb))).1
 have hsame:∀b∈l,w'.heap[b]?=w.heap[b]?:=by
  intro b hb
  rcases h.fr.block b (hlw b hb) with h1|⟨c,c',e,h1,h2,h3,h4⟩
  ·exact h1
  ·have:c'=c:=B5 fun o=>h4 o (fun hm=>hm.2 hb)
   rw[h2,this];exact h1.symm
 have hn3:(l++E.out).Nodup:=by
  have hn:=hr.nodup
  simp only[owned,Env.outs] at hn
  exact(A7.1 (A7.1 hn).2.1).2.1
 have hap:∀b∈l,b∉owned E' σ':=fun b hb h1=>(h.lt b h1).2.2 hb
 have K:Keep w' w' (Fz (X.narrow E σ w l) E' σ' w') (Fz X (E'.outs (l++E'.out)) σ' w') E' (E'.outs (l++E'.out)) σ' σ':=
  ⟨fun b hb=>⟨⟨hb.1.1,hb.2.1,fun h1=>(owned_outs.1 h1).elim hb.1.2 hb.2.2⟩,rfl⟩,AW _,fun _ _=>rfl,fun _ _=>rfl,fun _ _ h=>.inl h,fun _ _ h=>⟨h,fun _ _=>rfl⟩,h.ge,fun _ h=>⟨h,rfl⟩⟩
 have hsz:=Ab hr.fr.size h.fr.size
 have back:∀b,b∈(X.narrow E σ w l).fps\/w.heap.size<=b->b∈X.fps\/X.w0.heap.size<=b:=by
  rintro b (h1|h1)
  ·rcases AM.1 h1 with h1|h1
   ·exact .inl h1
   ·exact .inr (by simpa using(Ae.1 h1).2)
  ·exact .inr (Ab hr.fr.size h1)
 refine⟨⟨h.len,fun i s v h1 h2=>K.slot (h.slot i s v h1 h2),fun b hb=>K.bx (h.bx b hb) (h.idlt b hb) rfl,?_,fun b hb=>?_,h.ids,h.idlt,h.aln,h.alr,h.fzr,h.nt2,h.hd0,hr.new,
  hr.fr.compose2 h.fr (fun b o hb hm=>hm.1.resolve_right (by omega)),fun τ ht b hb=>back b (h.srct τ ht b hb),fun b hb=>?_,hr.pbm,fun b hb=>?_,h.lnr,h.lnlt,hr.fpm,fun b hb=>⟨(h.pinlt b hb).1,fun h1=>?_⟩,fun e he=>h.adx e (AE _ he),h.hdx,hr.gl,hr.xlt,fun b hb=>(h.pnx b hb).1⟩,hsame⟩
 ·have hn:=h.nodup
  simp only[owned,Env.outs] at hn ⊢
  have hn1:=A7.1 hn
  have hn2:=A7.1 hn1.2.1
  have hl':=(A7.1 hn3).1
  have out:∀a∈l,∀b∈E'.out,a≠b:=fun a ha b hb e=>hap a ha (by rw[e];exact A9 _ (A9 _ hb))
  refine A7.2 ⟨hn1.1,A7.2 ⟨hn2.1,A7.2 ⟨hl',hn2.2.1,out⟩,fun a ha b hb=>?_⟩,fun a ha b hb=>?_⟩
  ·rcases AM.1 hb with h1|h1
   ·exact fun e=>hap b h1 (by rw[<-e];exact A9 _ (AE _ ha))
   ·exact hn2.2.2 a ha b h1
  ·rcases AM.1 hb with h1|h1
   ·exact hn1.2.2 a ha b (AE _ h1)
   ·rcases AM.1 h1 with h1|h1
    ·exact fun e=>hap b h1 (by rw[<-e];exact AE _ ha)
    ·exact hn1.2.2 a ha b (A9 _ h1)
 ·rcases owned_outs.1 hb with h1|h1
  ·exact⟨AB (hlw b h1) h.fr.size,(hr.lt b (owned_outs.2 (.inl h1))).2⟩
  ·exact⟨(h.lt b h1).1,(h.lt b h1).2.1⟩
 ·rcases h.srcb b hb with⟨s,g1,g2⟩|g
  ·rcases AM.1 g2 with g2|g2
   ·exact .inl ⟨s,g1,g2⟩
   ·obtain⟨b',hb',e⟩:=AZ.1 g2
    have ea:E'.ad b.id=E.ad b'.id:=(congrArg (·.2.1) e).symm
    have es:b'.x.t.size=s:=congrArg (·.2.2) e
    have ei:b'.id=b.id:=congrArg (·.1) e
    rcases hr.srcb b' hb' with⟨s',k1,k2⟩|k
    ·refine .inl ⟨s',by omega,?_⟩
     show(b.id,E'.ad b.id,s')∈X.pbx
     rw[ea,<-ei];exact k2
    ·refine .inr ?_
     show X.w0.heap.size<=(E'.ad b.id).1
     rw[ea];exact k
  ·exact .inr (Ab hr.fr.size g)
 ·rcases AM.1 hb with h1|h1
  ·exact .inr (hl b h1)
  ·exact back b (h.srco b h1)
 ·rcases owned_outs.1 h1 with h2|h2
  ·exact(h.pnx b hb).2 h2
  ·exact(h.pinlt b hb).2 h2
theorem outs_apart {l:List Nat} (hr:RelE X (E.outs (l++E.out)) σ A0 w):l.Nodup/\(owned E σ).Nodup/\∀b∈l,b∉owned E σ:=by
 have hn:=hr.nodup
 simp only[owned,Env.outs] at hn ⊢
 have hn1:=A7.1 hn
 have hn2:=A7.1 hn1.2.1
 have hn3:=A7.1 hn2.2.1
 refine⟨hn3.1,A7.2 ⟨hn1.1,A7.2 ⟨hn2.1,hn3.2.1,fun a ha b hb=>hn2.2.2 a ha b (A9 _ hb)⟩,fun a ha b hb=>hn1.2.2 a ha b ?_⟩,fun b hb h=>?_⟩
 ·rcases AM.1 hb with h|h
  ·exact AE _ h
  ·exact A9 _ (A9 _ h)
 ·rcases AM.1 h with h|h
  ·exact hn1.2.2 b h b (A9 _ (AE _ hb)) rfl
  ·rcases AM.1 h with h|h
   ·exact hn2.2.2 b h b (AE _ hb) rfl
   ·exact hn3.2.2 b hb b h rfl
theorem RelE.tellBox {b0:Nat} {t:Ty} {v:t.den} {ms:List Nat} {cs:List Value} {e:TypeId} (hr:RelE X (E.outs ([b0]++E.out)) σ A0 w) (hb0:w.heap[b0]?=some (.cells cs.toArray e (0,0))) (hlb:X.w0.heap.size<=b0)
  (hv:Rv w (Fz X (E.outs ([b0]++E.out)) σ w) (E.outs ([b0]++E.out)) σ t v ms cs) (hms:ms.length=t.nl):
  ∃E',E'.out=E.out/\RelE X E' {σ with bx:=⟨σ.nt,⟨t,v,ms⟩⟩::σ.bx,nt:=σ.nt+1} A0 w/\
   SlotOk w (Fz X E' {σ with bx:=⟨σ.nt,⟨t,v,ms⟩⟩::σ.bx,nt:=σ.nt+1} w) E' {σ with bx:=⟨σ.nt,⟨t,v,ms⟩⟩::σ.bx,nt:=σ.nt+1} (.ptr σ.nt t [] t) (.pointer (some ⟨b0,0,none⟩)):=by
 let E':Env:=⟨fun i=>if i=σ.nt then(b0,0) else E.ad i,E.hd,E.out,E.pin⟩
 let σ':St:={σ with bx:=⟨σ.nt,⟨t,v,ms⟩⟩::σ.bx,nt:=σ.nt+1}
 obtain⟨_,hno,hap⟩:=outs_apart hr
 have hE:∀b∈σ.bx,E'.ad b.id=E.ad b.id:=fun b hb=>if_neg (BN (hr.idlt b hb))
 have hEn:E'.ad σ.nt=(b0,0):=if_pos rfl
 have hown:owned E' σ'=b0::owned E σ:=by
  show(E'.ad σ.nt).1::(σ.bx.map (fun b=>(E'.ad b.id).1))++_=_
  rw[hEn,B2 (fun b hb=>by rw[hE b hb])]
  rfl
 have hn:b0∉owned E σ:=hap b0 (BO.2 rfl)
 have hmem:∀b,b∈owned E' σ'↔b∈owned (E.outs ([b0]++E.out)) σ:=fun b=>by rw[hown,owned_outs,AS,BO]
 have K:Keep w w (Fz X (E.outs ([b0]++E.out)) σ w) (Fz X E' σ' w) (E.outs ([b0]++E.out)) E' σ σ':=
  ⟨fun b hb=>⟨⟨hb.1,hb.2.1,fun h=>hb.2.2 ((hmem b).1 h)⟩,rfl⟩,
   BX _,fun _ _=>rfl,fun i hi=>if_neg (BN hi),fun _ _ h=>.inl h,
   fun τ _ hτ=>⟨hτ,fun _ _=>rfl⟩,hr.ge,fun b hb=>⟨hb,rfl⟩⟩
 refine⟨E',rfl,{hr with
  slot:=fun i s u hs hu=>K.slot (hr.slot i s u hs hu)
  bx:=fun b hb=>?_
  nodup:=by rw[hown];exact Ay.2 ⟨hn,hno⟩
  lt:=fun b hb=>hr.lt b ((hmem b).1 hb)
  ids:=?_
  idlt:=fun b hb=>?_
  alr:=fun τ hτ=>⟨(hr.alr τ hτ).1,As (hr.alr τ hτ).2.1,(hr.alr τ hτ).2.2⟩
  fzr:=fun τ hτ=>⟨(hr.fzr τ hτ).1,As (hr.fzr τ hτ).2⟩
  nt2:=Nat.le_succ_of_le hr.nt2
  lnlt:=fun p hp=>⟨As (hr.lnlt p hp).1,As (hr.lnlt p hp).2⟩
  srcb:=fun b hb=>?_
  srco:=fun b hb=>hr.srco b (A9 _ hb)
  adx:=fun e he=>⟨As (hr.adx e he).1,(if_neg (BN (hr.adx e he).1)).trans (hr.adx e he).2⟩
  hdx:=fun e he=>⟨As (hr.hdx e he).1,(hr.hdx e he).2⟩
  pinlt:=fun b hb=>⟨(hr.pinlt b hb).1,fun h=>(hr.pinlt b hb).2 ((hmem b).1 h)⟩},BR _,b0,0,rfl,by rw[hEn];simp[addr]⟩
 ·rcases AS.1 hb with rfl|hb
  ·refine⟨cs,cs.toArray,e,K.rv hv,hms,by rw[hEn];exact hb0,by rw[hEn];simp,?_⟩
   rw[hEn]
   intro j u hu
   simp only[BW,hb0,Ao]
   simpa using hu
  ·exact K.bx (hr.bx b hb) (hr.idlt b hb) rfl
 ·show(σ.nt::σ.bx.map (·.id)).Nodup
  refine Ay.2 ⟨fun h=>?_,hr.ids⟩
  obtain⟨b,hb,he⟩:=AZ.1 h
  have:=hr.idlt b hb
  omega
 ·rcases AS.1 hb with rfl|hb
  ·exact BR _
  ·exact As (hr.idlt b hb)
 ·rcases AS.1 hb with rfl|hb
  ·right;rw[hEn];exact hlb
  ·rw[hE b hb];exact hr.srcb b hb
theorem step_apart {R:Type} {a:Act} {o:Oper} (T:Tabs) (hT:TabOk P T.T) (hF:FOk P T.F) {l:List Nat} {k:St->Option R} {r:R} (h:stepK T o σ k=some r) (hr:RelE X (E.outs (l++E.out)) σ a.tmps w) (hl:∀b∈l,X.w0.heap.size<=b) (Q:Exit->Act->World->Prop):
  o.wp P a w (fun a' w'=>a'.defers=a.defers/\(∀i,some i≠o.dst->a'.tmps[i]?=a.tmps[i]?)/\a'.tmps.size=a.tmps.size/\w.heap.size<=w'.heap.size/\
   ∃ (σ':St) (E':Env),k σ'=some r/\RelE X (E'.outs (l++E'.out)) σ' a'.tmps w'/\∀b∈l,w'.heap[b]?=w.heap[b]?) Q:=by
 refine Oper.wp_mono (fun a1 w1 ⟨d1,s1,z1,_,σ1,hk,E1,hr1⟩=>?_) (step_ok T hT hF h (hr.narrow hl).1 Q)
 obtain⟨q1,q2⟩:=hr.widen hl hr1
 exact⟨d1,s1,z1,hr1.fr.size,σ1,E1,hk,q1,q2⟩
end
end Go.Proofs.YtacbkfginiknaaaDoor.V
namespace Go.Proofs.YtacbkfginiknaaaDoor.V
open Go
section
variable {P:Program} {X:Ctx} {E:Env} {σ:St} {a:Act} {w:World} {R:Type} {ops:Array Oper} {D:List Nat} {m n:Nat} {inf:Nat->Tmp×Array Value×TypeId} {S:Nat->Slot} {ids:List Nat} {B:Nat->List Bx}
def efB (T:Tabs) (ops:Array Oper) (i:Nat):Bool:=match ops[i]? with
 |some o=>isEff T o.op
 |none=>false
def GCert (P:Program) (T:Tabs) (X:Ctx) (D:List Nat) (ops:Array Oper) (ids:List Nat) (S:Nat->Slot) (B:Nat->List Bx) (σ:St) (i:Nat) (o:Oper):Prop:=
 o.guard=none/\((efB T ops i=true/\∃σ2,Sees D ops S {σ with bx:=B i} σ2 i o/\∀ (E:Env) (a:Act) (w:World),RelE X E σ2 a.tmps w->effUpon P X E σ2 {σ2 with bx:=B (i+1)} a.tmps w (S i) ((execOp a.eval o).run P w))\/
  (efB T ops i=false/\B (i+1)=B i/\∃σ2,Sees D ops S (poison ids σ) σ2 i o/\∀ (E:Env) (a:Act) (w:World),RelE X E σ2 a.tmps w->slotUpon P X E σ2 w (S i) ((execOp a.eval o).run P w)))
theorem GCert.congr {T:Tabs} {S':Nat->Slot} {B':Nat->List Bx} {i:Nat} {o:Oper} (h:GCert P T X D ops ids S B σ i o) (hs:∀k,k<i+1->S' k=S k) (hb:∀k,k<=i+1->B' k=B k):GCert P T X D ops ids S' B' σ i o:=by
 obtain⟨h0,h⟩:=h
 refine⟨h0,?_⟩
 rw[hb (i+1) (by omega),hb i (by omega),hs i (by omega)]
 rcases h with⟨h1,σ2,h2,h3⟩|⟨h1,h2,σ2,h3,h4⟩
 ·exact .inl ⟨h1,σ2,h2.congr (fun k hk=>hs k (by omega)),h3⟩
 ·exact .inr ⟨h1,h2,σ2,h3.congr (fun k hk=>hs k (by omega)),h4⟩
theorem Walk.rebx {i:Nat} {σi:St} (h:Walk ops S σ σi i) (b:List Bx):Walk ops S {σ with bx:=b} {σi with bx:=b} i:=⟨⟨rfl,h.same.al,h.same.fz,h.same.ln,h.same.nt,h.same.len⟩,h.slot⟩
theorem poison_set {id:Nat} {x:Val} (hid:ids.contains id=true):∀ (l:List Bx),(setBx id x l).map (fun b=>bif ids.contains b.id then(⟨b.id,⟨.unit,(),[]⟩⟩:Bx) else b)=l.map (fun b=>bif ids.contains b.id then(⟨b.id,⟨.unit,(),[]⟩⟩:Bx) else b):=by
 intro l
 induction l with
 |nil=>rfl
 |cons b l ih=>
  simp only[setBx]
  by_cases hb:b.id=id
  ·rw[if_pos hb,Al,Al]
   congr 1
   rw[hb]
   simp only[hid,cond_true]
  ·rw[if_neg hb,Al,Al,ih]
theorem g_cert (T:Tabs) (hT:TabOk P T.T) (hF:FOk P T.F) (H:HeadOk ops D m n):∀ {l:List (Oper×Nat)} {i:Nat} {σi:St} {k:St->Option R} {r:R} {S:Nat->Slot} {B:Nat->List Bx},
  gK T D ops ids l σi k=some r->Contig i l->(∀q∈l,ops[q.2]?=some q.1)->i+l.length<=m->(∀q∈l,∃d,q.1.dst=some d)->Walk ops S {σ with bx:=B i} σi i->(∀j,j<=i->poison ids {σ with bx:=B j}=poison ids σ)->
  ∃S' B' σ',(∀j,j<i->S' j=S j)/\(∀j,j<=i->B' j=B j)/\(∀j o,i<=j->j<i+l.length->ops[j]?=some o->GCert P T X D ops ids S' B' σ j o)/\Walk ops S' {σ with bx:=B' (i+l.length)} σ' (i+l.length)/\
   (∀j,j<=i+l.length->poison ids {σ with bx:=B' j}=poison ids σ)/\k σ'=some r:=by
 intro l
 induction l with
 |nil=>intro i σi k r S B h hc hi hm hh hw hp;exact⟨S,B,σi,fun _ _=>rfl,fun _ _=>rfl,fun j o h1 h2=>by simp at h2;omega,hw,hp,h⟩
 |cons o l ih=>
  intro i σi k r S B h hc hi hm hh hw hp
  have ho:=hi o AN
  have ho2:o.2=i:=hc.1
  rw[ho2] at ho
  have him:i<m:=by simp at hm;omega
  obtain⟨d,hd⟩:=hh o AN
  have hbi:σi.bx=B i:=hw.same.bx
  have fin:∀ (s:Slot) (bn:List Bx) (σn:St),σn=({σi with bx:=bn}:St).put o.1.dst s->poison ids {σ with bx:=bn}=poison ids σ->gK T D ops ids l σn k=some r->(∀ (S':Nat->Slot) (B':Nat->List Bx),(∀j,j<i->S' j=S j)->S' i=s->(∀j,j<=i->B' j=B j)->B' (i+1)=bn->GCert P T X D ops ids S' B' σ i o.1)->
    ∃S' B' σ',(∀j,j<i->S' j=S j)/\(∀j,j<=i->B' j=B j)/\(∀j p,i<=j->j<i+(o::l).length->ops[j]?=some p->GCert P T X D ops ids S' B' σ j p)/\Walk ops S' {σ with bx:=B' (i+(o::l).length)} σ' (i+(o::l).length)/\
     (∀j,j<=i+(o::l).length->poison ids {σ with bx:=B' j}=poison ids σ)/\k σ'=some r:=by
   intro s bn σn hσ hpn hg hcert
   have hS1:∀j,j<i->(fun j=>if j=i then s else S j) j=S j:=fun j hj=>if_neg (by omega)
   have hB1:∀j,j<=i->(fun j=>if j=i+1 then bn else B j) j=B j:=fun j hj=>if_neg (by omega)
   have hw1:Walk ops (fun j=>if j=i then s else S j) {σ with bx:=(fun j=>if j=i+1 then bn else B j) (i+1)} σn (i+1):=by
    rw[hσ]
    have:=(hw.rebx bn).put (S':=fun j=>if j=i then s else S j) ho hd s hS1 (if_pos rfl)
    simpa using this
   obtain⟨S',B',σ',q1,q2,q3,q4,q5,q6⟩:=ih (S:=fun j=>if j=i then s else S j) (B:=fun j=>if j=i+1 then bn else B j) hg hc.2 (fun q hq=>hi q (AI _ hq)) (by simp at hm;omega) (fun q hq=>hh q (AI _ hq)) hw1 (fun j hj=>by
    by_cases hji:j=i+1
    ·simp only[hji,if_true];exact hpn
    ·simp only[if_neg hji];exact hp j (by omega))
   have hlen:i+(o::l).length=i+1+l.length:=by simp;omega
   rw[hlen]
   refine⟨S',B',σ',fun j hj=>(q1 j (by omega)).trans (hS1 j hj),fun j hj=>(q2 j (by omega)).trans (hB1 j hj),fun j p h3 h4 hp'=>?_,q4,q5,q6⟩
   by_cases hji:j=i
   ·subst hji
    rw[ho] at hp'
    have:=A3 hp'
    subst this
    exact hcert S' B' (fun k hk=>(q1 k (by omega)).trans (hS1 k hk)) ((q1 j (by omega)).trans (if_pos rfl)) (fun k hk=>(q2 k (by omega)).trans (hB1 k hk)) ((q2 (j+1) (by omega)).trans (if_pos rfl))
   ·exact q3 j p (by omega) h4 hp'
  simp only[gK] at h
  cases he:isEff T o.1.op with
  |true=>
   rw[he] at h
   simp only[cond_true] at h
   have hef:efB T ops i=true:=by simp only[efB,ho,he]
   cases hgu:o.1.guard.isNone with
   |false=>rw[hgu] at h;simp at h
   |true=>
    rw[hgu] at h
    simp only[cond_true] at h
    have hg0:o.1.guard=none:=by simpa using hgu
    obtain⟨id,x,s,h1,h2⟩:=effK_nat T h
    cases hid:ids.contains id with
    |false=>rw[hid] at h1;simp at h1
    |true=>
     rw[hid] at h1
     simp only[cond_true] at h1
     refine fin s (setBx id x σi.bx) _ rfl ?_ h1 (fun S' B' e1 e2 e3 e4=>⟨hg0,.inl ⟨hef,hide D (o.1.looksAt ops) σi,?_,fun E a w hr=>?_⟩⟩)
     ·rw[hbi]
      have:=hp i (AW i)
      simp only[poison] at this ⊢
      rw[poison_set hid]
      exact this
     ·have:=(hw.sees H him ho).congr e1
      rw[e3 i (AW i)];exact this
     ·rw[e2,e4]
      exact eff_ok T hT hF (h2 _ _) hr
  |false=>
   rw[he] at h
   simp only[cond_false] at h
   have hef:efB T ops i=false:=by simp only[efB,ho,he]
   cases hgu:o.1.guard.isNone&&headOp T o.1.op with
   |false=>rw[hgu] at h;simp at h
   |true=>
    rw[hgu] at h
    simp only[cond_true] at h
    simp only[A4] at hgu
    have hg0:o.1.guard=none:=by simpa using hgu.1
    obtain⟨s,h1,h2⟩:=slotK_nat T hgu.2 h
    refine fin s (B i) _ (by rw[<-hbi]) (hp i (AW i)) h1 (fun S' B' e1 e2 e3 e4=>⟨hg0,.inr ⟨hef,by rw[e4,e3 i (AW i)],hide D (o.1.looksAt ops) (poison ids σi),?_,fun E a w hr=>?_⟩⟩)
    ·have hwp:Walk ops S (poison ids σ) (poison ids σi) i:=by
      have h3:=hp i (AW i)
      have h4:(poison ids σi).bx=(poison ids σ).bx:=by rw[<-h3];simp only[poison,hbi]
      exact⟨⟨h4,hw.same.al,hw.same.fz,hw.same.ln,hw.same.nt,hw.same.len⟩,hw.slot⟩
     exact(hwp.sees H him ho).congr e1
    ·rw[e2]
     exact slotK_ok T hT hF hgu.2 (h2 _ _) hr
structure GInv (T:Tabs) (X:Ctx) (E:Env) (ops:Array Oper) (m n:Nat) (inf:Nat->Tmp×Array Value×TypeId) (S:Nat->Slot) (B:Nat->List Bx) (σ:St) (ids:List Nat) (a:Act) (w:World) (bl:Nat->Nat) (l:List Nat) (listed:Array Bool) (a':Act) (w':World):Prop where
 head:HeadInv .any ops n listed
 full:∃c,c<=m/\RelE X (E.outs (l++E.out)) {σ with bx:=B c} a.tmps w'/\∀i,i<m->efB T ops i=true->(listed.getD i false=true↔i<c)
 hsz:w.heap.size<=w'.heap.size
 dfr:a'.defers=a.defers
 siz:a'.tmps.size=a.tmps.size
 oth:∀t,(∀i o,i<n->ops[i]?=some o->o.dst≠some t)->a'.tmps[t]?=a.tmps[t]?
 slt:∀i o d u,i<m->ops[i]?=some o->o.dst=some d->listed.getD i false=true->a'.tmps[d]?=some u->SlotOk w' (Fz X (E.outs (l++E.out)) (poison ids σ) w') (E.outs (l++E.out)) (poison ids σ) (S i) u
 new:∀i,m<=i->i<n->listed.getD i false=true->(∀b:Act,b.tmps.size=a.tmps.size->a'.tmps[(inf i).1]?=(b.put (some (inf i).1) (.pointer (some ⟨bl i,0,none⟩))).tmps[(inf i).1]?)/\
  w.heap.size<=bl i/\bl i<w'.heap.size/\w'.heap[bl i]?=some (.cells (inf i).2.1 (inf i).2.2 (0,0))
 inj:∀i j,m<=i->i<n->m<=j->j<n->listed.getD i false=true->listed.getD j false=true->bl i=bl j->i=j
 lfr:∀b∈l,w.heap.size<=b/\b<w'.heap.size
 lmem:∀i,m<=i->i<n->listed.getD i false=true->bl i∈l
section
variable {T:Tabs} {bl:Nat->Nat} {l:List Nat} {listed:Array Bool} {a':Act} {w':World}
theorem GInv.base (inv:GInv T X E ops m n inf S B σ ids a w bl l listed a' w') (hP:∀c,c<=m->poison ids {σ with bx:=B c}=poison ids σ):RelE X (E.outs (l++E.out)) (poison ids σ) a.tmps w':=by
 obtain⟨c,hc,hr,_⟩:=inv.full
 have:=hr.poison ids
 rwa [hP c hc] at this
theorem GInv.rel (inv:GInv T X E ops m n inf S B σ ids a w bl l listed a' w') {σ0 σ2:St} (hr:RelE X (E.outs (l++E.out)) σ0 a.tmps w') (hK:Keep w' w' (Fz X (E.outs (l++E.out)) (poison ids σ) w') (Fz X (E.outs (l++E.out)) σ0 w') (E.outs (l++E.out)) (E.outs (l++E.out)) (poison ids σ) σ0) (hs:SameB σ0 σ2)
  (h:∀t s,σ2.fr[t]?=some s->s= .no\/((∀j p,j<n->ops[j]?=some p->p.dst≠some t)/\σ0.fr[t]?=some s)\/∃j p,j<m/\ops[j]?=some p/\p.dst=some t/\listed.getD j false=true/\s=S j):RelE X (E.outs (l++E.out)) σ2 a'.tmps w':=by
 refine hr.frames hs inv.siz (fun t s v h1 h2=>?_)
 rcases h t s h1 with h3|⟨h3,h4⟩|⟨j,p,q1,q2,q3,q4,q5⟩
 ·subst h3;trivial
 ·rw[inv.oth t h3] at h2
  exact hr.slot t s v h4 h2
 ·subst q5
  exact hK.slot (inv.slt j p t v q1 q2 q3 q4 h2)
end
theorem Keep.self {σ0:St} {A0:Array Value} (hr:RelE X E σ0 A0 w):Keep w w (Fz X E σ0 w) (Fz X E σ0 w) E E σ0 σ0:=keep_bx rfl rfl rfl rfl hr.ge
theorem alloc_out {l:List Nat} {σ0:St} {A0:Array Value} (hr:RelE X (E.outs (l++E.out)) σ0 A0 w) (ob:Obj):RelE X (E.outs ((w.heap.size::l)++E.out)) σ0 A0 (w.alloc ob):=by
 have hext:=Ext.alloc w ob
 have hnd:(l++E.out).Nodup:=by
  have:=hr.nodup
  simp only[owned] at this
  exact(A7.1 (A7.1 this).2.1).2.1
 have hltE:∀b∈l++E.out,b<w.heap.size:=fun b hb=>(hr.lt b (mem_out hr hb)).1
 exact(hr.world (w1:=w.alloc ob) (l:=(w.heap.size::l)++E.out) (fun b hb _=>hext.block b hb) (hr.fr.ext hext) hext.size (by
  rw[B9]
  exact Ay.2 ⟨fun h=>by have:=hltE _ h;omega,hnd⟩) (fun b hb=>by
  rw[B9] at hb
  rcases AS.1 hb with rfl|hb
  ·exact⟨.inr (AW _),by simp⟩
  ·exact⟨.inl hb,AB (hltE b hb) hext.size⟩)).1
def BoxAt (T:Tabs) (ops:Array Oper) (ids:List Nat) (σ:St) (t:TypeId) (p:Tmp) (id:Nat) (tt:Ty):Prop:=
 T.T t=some tt/\(∀ (j:Nat) (q:Oper),ops[j]?=some q->q.dst≠some p)/\(∃r t',σ.fr[p]?=some (.ptr id r [] t'))/\∃y,⟨id,y⟩∈σ.bx/\y.t=tt/\id∉ids
def LateAt (T:Tabs) (ops:Array Oper) (ids:List Nat) (m n:Nat) (σ:St) (i:Nat) (o:Oper):Prop:=
 o.guard=none/\∃t p id tt,o.op= .load t (.tmp p)/\BoxAt T ops ids σ t p id tt/\∀ (j:Nat) oj,ops[j]?=some oj->j≠i->A5 .any ops j i=false->A5 .any ops i j=false->
  (j<n/\lateB ops m n j=false)\/(o.apart ops oj=true/\(bareOp oj=true\/LoadQ oj\/(oj.guard=none/\oj.dst=none/\∃t2 p2 x2 id2 tt2,oj.op= .store t2 (.tmp p2) x2/\BoxAt T ops ids σ t2 p2 id2 tt2/\id2≠id)))
theorem poison_keep {b:Bx} (hb:b∈σ.bx) (hi:b.id∉ids):b∈(poison ids σ).bx:=by
 simp only[poison,AZ]
 exact⟨b,hb,by simp[hi]⟩
theorem GInv.box {T:Tabs} {bl:Nat->Nat} {l:List Nat} {listed:Array Bool} {a':Act} {w':World} (inv:GInv T X E ops m n inf S B σ ids a w bl l listed a' w') (hP:∀c,c<=m->poison ids {σ with bx:=B c}=poison ids σ) {t:TypeId} {p:Tmp} {id:Nat} {tt:Ty} (h:BoxAt T ops ids σ t p id tt):
  ∃cs cur e,a'.tmps.getD p undef= .pointer (some ⟨(E.ad id).1,(E.ad id).2,none⟩)/\w'.heap[(E.ad id).1]?=some (.cells cur e (0,0))/\(E.ad id).2+tt.size<=cur.size/\At w' (E.ad id).1 (E.ad id).2 cs/\cs.length=tt.size:=by
 obtain⟨_,hnp,⟨r,t',hptr⟩,y,hy,hyt,hid⟩:=h
 have hbase:=inv.base hP
 obtain⟨cs,cur,e,h1,_,h3,h4,h5⟩:=hbase.bx _ (poison_keep hy hid)
 have hlen:cs.length=tt.size:=by rw[<-hyt];exact h1.length
 refine⟨cs,cur,e,?_,h3,by rw[<-hlen];exact h4,h5,hlen⟩
 have hlp:p<a.tmps.size:=by rw[<-hbase.len];exact(AT.1 hptr).1
 rw[AC,inv.oth p (fun j q _ hq=>hnp j q hq),AP hlp]
 obtain⟨_,b,o',h1,h2⟩:=hbase.slot p _ _ hptr (AP hlp)
 rw[BD,h1]
 show _=Value.pointer (some ⟨((E.outs (l++E.out)).ad id).1,((E.outs (l++E.out)).ad id).2,none⟩)
 cases hr':r<;>rw[hr'] at h2<;>simp[addr] at h2<;>obtain⟨_,h2⟩:=h2<;>rw[h2]
theorem GInv.apart {T:Tabs} {bl:Nat->Nat} {l:List Nat} {listed:Array Bool} {a':Act} {w':World} (inv:GInv T X E ops m n inf S B σ ids a w bl l listed a' w') (hP:∀c,c<=m->poison ids {σ with bx:=B c}=poison ids σ) {t t2:TypeId} {p p2:Tmp} {id id2:Nat} {tt tt2:Ty} (h:BoxAt T ops ids σ t p id tt) (h2:BoxAt T ops ids σ t2 p2 id2 tt2) (hne:id2≠id):(E.ad id2).1≠(E.ad id).1:=by
 obtain⟨_,_,_,y,hy,_,hid⟩:=h
 obtain⟨_,_,_,y2,hy2,_,hid2⟩:=h2
 intro he
 have hn:=(inv.base hP).nodup
 simp only[owned] at hn
 have hn1:=(A7.1 hn).1
 exact hne (congrArg Bx.id (inj_of_nodup (f:=fun b:Bx=>(E.ad b.id).1) hn1 (poison_keep hy2 hid2) (poison_keep hy hid) he))
theorem g_any (T:Tabs) (hT:TabOk P T.T) {Q:Exit->Act->World->Prop} (hQp:∀c a w,¬Q (.panic c) a w) (hB:mixL ops m n=true) (H:HeadOk ops D m n) (hr:RelE X E σ a.tmps w) (hcert:∀i o,i<m->ops[i]?=some o->GCert P T X D ops ids S B σ i o)
  (hP:∀c,c<=m->poison ids {σ with bx:=B c}=poison ids σ) (hch:∀i j,i<m->j<i->efB T ops i=true->efB T ops j=true->A5 .any ops i j=true)
  (hload:n<ops.size->∀i o,i<m->ops[i]?=some o->lateB ops m n i=true->bareOp o=false->LateAt T ops ids m n σ i o)
  (hnew:∀i,m<=i->i<n->∃o,ops[i]?=some o/\NewAt P o (inf i).1 (inf i).2.1 (inf i).2.2)
  (hQ:∀ (a':Act) (w':World) (bl:Nat->Nat) (l:List Nat) (listed:Array Bool),(∀i,i<n->listed.getD i false=true)->GInv T X E ops m n inf S B σ ids a w bl l listed a' w'->wpOps P ops Q (BB n (ops.size-n)) a' w'):
  ∀ (k:Nat) (listed:Array Bool) (a':Act) (w':World) (bl:Nat->Nat) (l:List Nat),(AV n).countP (fun i=> !listed.getD i true)=k->GInv T X E ops m n inf S B σ ids a w bl l listed a' w'->wpAny P .any ops Q (k+(ops.size-n)) listed a' w':=by
 simp only[mixL,A4,decide_eq_true_eq,AJ,A6] at hB
 obtain⟨⟨⟨⟨hsel,hmn⟩,hns⟩,hops⟩,htail⟩:=hB
 have hop:∀i,i<n->∃o d,ops[i]?=some o/\o.dst=some d/\(∀e∈o.after,Ar .any e=true->e.on<i)/\(∀j p,j<n->j≠i->ops[j]?=some p->p.dst≠some d)/\
   (i<m->∀j p t,j<n->ops[j]?=some p->p.dst=some t->t∈o.looksAt ops->j<i/\A5 .any ops i j=true)/\
   (n<ops.size->(lateB ops m n i=true->bareOp o=true->∀j p,ops[j]?=some p->j≠i->A5 .any ops j i=true\/A5 .any ops i j=true\/o.apart ops p=true)/\
    (lateB ops m n i=false->∃j,j<=n/\i<j/\A5 .any ops j i=true/\(j=n\/lateB ops m n j=false))):=by
  intro i hi
  have h:=hops i hi
  cases ho:ops[i]? with
  |none=>rw[ho] at h;simp at h
  |some o=>
   rw[ho] at h
   simp only[A4,AJ,A6] at h
   obtain⟨⟨⟨⟨h1,h2⟩,h3⟩,h4⟩,h5⟩:=h
   cases hd:o.dst with
   |none=>rw[hd] at h1;simp at h1
   |some d=>
    refine⟨o,d,rfl,hd,fun e he hb=>?_,fun j p hj hne hp he=>?_,fun him j p t hj hp ht hl=>?_,fun hlt=>?_⟩
    ·have:=Am.1 h2 e he
     simp only[hb,Ak,B6,decide_eq_true_eq] at this
     exact this
    ·have:=h3 j hj
     rw[hp] at this
     simp only[A8,beq_iff_eq,AG,beq_eq_false_iff_ne,ne_eq] at this
     rcases this with h|h
     ·exact hne h
     ·exact h (he.trans hd.symm)
    ·simp only[A8,decide_eq_true_eq,AJ,A6] at h4
     rcases h4 with h|h
     ·omega
     ·have:=h j hj
      rw[hp] at this
      simp only[AU,ht,A8,AG,A4,decide_eq_true_eq] at this
      rcases this with h|h
      ·simp[Af,hl] at h
      ·exact⟨h.1.2,h.2⟩
    ·have h6:(bif lateB ops m n i then !bareOp o||(AV ops.size).all (fun j=>j==i||A5 .any ops j i||A5 .any ops i j||(match ops[j]? with|some p=>o.apart ops p|none=>true))
       else(AV (n+1)).any (fun j=>decide (i<j)&&A5 .any ops j i&&(j==n|| !lateB ops m n j)))=true:=by
      rcases A8 _ _▸h5 with h|h
      ·have:n=ops.size:=by simpa using h
       omega
      ·exact h
     refine⟨fun hla hba=>?_,fun hla=>?_⟩
     ·rw[hla,hba] at h6
      simp only[cond_true,Ak,B6,AJ,A6] at h6
      intro j p hp hne
      have:=h6 j (AD.1 hp).1
      rw[hp] at this
      simp only[A8,beq_iff_eq] at this
      rcases this with((h|h)|h)|h
      ·exact absurd h hne
      ·exact .inl h
      ·exact .inr (.inl h)
      ·exact .inr (.inr h)
     ·rw[hla] at h6
      simp only[cond_false,B0,A6,A4,decide_eq_true_eq,A8,beq_iff_eq,AG] at h6
      obtain⟨j,h7,⟨h8,h9⟩,h10⟩:=h6
      exact⟨j,by omega,h8,h9,h10⟩
 have hsame:∀c i,c<=i->i<=m->(∀j,c<=j->j<i->efB T ops j=false)->B i=B c:=by
  intro c i hci him h
  induction i with
  |zero=>
   have:c=0:=by omega
   rw[this]
  |succ i ihi=>
   by_cases hc:c=i+1
   ·rw[hc]
   ·have hlt:i<ops.size:=by have:=H.le;omega
    rcases hcert i _ (by omega) (AP hlt) with⟨_,⟨h1,_⟩|⟨_,h2,_⟩⟩
    ·rw[h i (by omega) (by omega)] at h1;cases h1
    ·rw[h2];exact ihi (by omega) (by omega) (fun j h3 h4=>h j h3 (by omega))
 intro k
 induction k with
 |zero=>
  intro listed a' w' bl l hk inv
  have hall:∀i,i<n->listed.getD i false=true:=by
   intro i hi
   refine listed_of_not (by rw[inv.head.size];omega) (fun h=>?_)
   have:=Av.1 hk i (A6.2 hi)
   simp[h] at this
  rw[Ao]
  exact any_of_tail hQp hsel hns htail inv.head hall (hQ a' w' bl l listed hall inv)
 |succ k ih=>
  intro listed a' w' bl l hk inv
  rw[show k+1+(ops.size-n)=(k+(ops.size-n))+1 by omega]
  have hex:∃i,i<n/\listed.getD i true=false:=by
   obtain⟨i,hi,h⟩:=Aw.1 (show 0<(AV n).countP (fun i=> !listed.getD i true) by omega)
   exact⟨i,A6.1 hi,by simpa using h⟩
  have hmin:∃i,i<n/\listed.getD i true=false/\i∈AH .any ops listed:=by
   obtain⟨i,hi,h⟩:=hex
   induction i using B3 with
   |_ i ihi=>
    by_cases hlow:∃j,j<i/\listed.getD j true=false
    ·obtain⟨j,hj,hj2⟩:=hlow
     exact ihi j hj (by omega) hj2
    ·obtain⟨o,d,e1,_,e3,_⟩:=hop i hi
     refine⟨i,hi,h,mem_ready.2 ⟨h,o,e1,fun e he hb=>?_⟩⟩
     have hlt:=e3 e he hb
     exact listed_of_not (by rw[inv.head.size];omega) (fun hn=>hlow ⟨e.on,hlt,hn⟩)
  have hcount:∀i,i<n->listed.getD i true=false->(AV n).countP (fun j=> !(listed.setIfInBounds i true).getD j true)=k:=by
   intro i hin hun
   have:=countP_one (f:=fun j=> !listed.getD j true) (g:=fun j=> !(listed.setIfInBounds i true).getD j true) (i:=i) (B1) (A6.2 hin) (by simp only[hun];rfl)
    (by
     have hlt:i<listed.size:=by rw[inv.head.size];omega
     simp[AC,hlt])
    (fun j _ hj=>by
     have:=getD_set_ne (listed:=listed) true (Ne.symm hj)
     simp only[this])
   omega
  have hle:=H.le
  have hbase:=inv.base hP
  have hset:∀i,i<n->listed.getD i true=false->(listed.setIfInBounds i true).getD i false=true:=by
   intro i hin _
   have hlt:i<listed.size:=by rw[inv.head.size];omega
   simp[AC,hlt]
  have hselfG:∀ (d:Tmp) (v u:Value),(a'.put (some d) v).tmps[d]?=some u->u=v:=by
   intro d v u hu
   simp only[Act.put] at hu
   by_cases hlt:d<a'.tmps.size
   ·rw[AQ hlt] at hu;exact(A3 hu).symm
   ·rw[Ac (by rw[AX];exact Au hlt)] at hu;cases hu
  have hnext:∀i oi d v w2,i<m->ops[i]?=some oi->oi.dst=some d->i∈AH .any ops listed->w'.heap.size<=w2.heap.size->(∀b∈l,w2.heap[b]?=w'.heap[b]?)->
    Keep w' w2 (Fz X (E.outs (l++E.out)) (poison ids σ) w') (Fz X (E.outs (l++E.out)) (poison ids σ) w2) (E.outs (l++E.out)) (E.outs (l++E.out)) (poison ids σ) (poison ids σ)->
    (∃c,c<=m/\RelE X (E.outs (l++E.out)) {σ with bx:=B c} a.tmps w2/\∀j,j<m->efB T ops j=true->((listed.setIfInBounds i true).getD j false=true↔j<c))->
    SlotOk w2 (Fz X (E.outs (l++E.out)) (poison ids σ) w2) (E.outs (l++E.out)) (poison ids σ) (S i) v->GInv T X E ops m n inf S B σ ids a w bl l (listed.setIfInBounds i true) (a'.put oi.dst v) w2:=by
   intro i oi d v w2 him hoi hd hi hsz hout K hfull hv
   have hin:i<n:=by omega
   obtain⟨o',d',e1,e2,_,e4,_,_⟩:=hop i hin
   rw[hoi] at e1
   have:=A3 e1
   subst this
   rw[hd] at e2
   have:=A3 e2
   subst this
   have head':=inv.head.set hi hin
   have hput:∀t,t≠d->(a'.put oi.dst v).tmps[t]?=a'.tmps[t]?:=fun t ht=>put_other _ _ t (fun e=>ht (by rw[hd] at e;exact A3 e))
   refine⟨head',hfull,Ab inv.hsz hsz,(put_defers _ _).trans inv.dfr,(put_size _ _).trans inv.siz,fun t ht=>?_,fun j p t u hj hp hpt hlj hu=>?_,fun j h1 h2 hlj=>?_,fun j l h1 h2 h3 h4 h5 h6=>?_,fun b hb=>⟨(inv.lfr b hb).1,AB (inv.lfr b hb).2 hsz⟩,fun j h1 h2 hlj=>inv.lmem j h1 h2 (listed_set hlj (by omega))⟩
   ·rw[hput t (fun e=>ht i oi hin hoi (by rw[hd,e]))]
    exact inv.oth t ht
   ·by_cases hji:j=i
    ·subst hji
     rw[hoi] at hp
     have:=A3 hp
     subst this
     rw[hd] at hpt
     have:=A3 hpt
     subst this
     rw[hd] at hu
     rw[hselfG d v u hu];exact hv
    ·rw[hput t (fun e=>e4 j p (by omega) hji hp (by rw[hpt,e]))] at hu
     exact K.slot (inv.slt j p t u hj hp hpt (listed_set hlj hji) hu)
   ·have hji:j≠i:=by omega
    have hlj':=listed_set hlj hji
    obtain⟨n1,n2,n3,n4⟩:=inv.new j h1 h2 hlj'
    obtain⟨oj,hoj,hN⟩:=hnew j h1 h2
    refine⟨fun b hb=>?_,n2,AB n3 hsz,(hout _ (inv.lmem j h1 h2 hlj')).trans n4⟩
    rw[hput _ (fun e=>e4 j oj h2 hji hoj (by rw[hN.dst,e]))]
    exact n1 b hb
   ·exact inv.inj j l h1 h2 h3 h4 (listed_set h5 (by omega)) (listed_set h6 (by omega))
  have hstep:∀i oi d v w2,i<m->ops[i]?=some oi->oi.dst=some d->i∈AH .any ops listed->efB T ops i=false->Ext w' w2->SlotOk w2 (Fz X (E.outs (l++E.out)) (poison ids σ) w2) (E.outs (l++E.out)) (poison ids σ) (S i) v->GInv T X E ops m n inf S B σ ids a w bl l (listed.setIfInBounds i true) (a'.put oi.dst v) w2:=by
   intro i oi d v w2 him hoi hd hi hef hx hv
   refine hnext i oi d v w2 him hoi hd hi hx.size (fun b hb=>hx.block b (inv.lfr b hb).2) (hbase.keepExt hx) ?_ hv
   obtain⟨c,hc,hrc,hlc⟩:=inv.full
   refine⟨c,hc,hrc.ext hx,fun j hj hej=>?_⟩
   have hji:j≠i:=fun e=>by rw[e,hef] at hej;cases hej
   have hg:(listed.setIfInBounds i true).getD j false=listed.getD j false:=getD_set_ne (listed:=listed) false (Ne.symm hji)
   rw[hg]
   exact hlc j hj hej
  have hlistG:∀i oi,i∈AH .any ops listed->ops[i]?=some oi->i<m->∀j p t,j<n->ops[j]?=some p->p.dst=some t->t∈oi.looksAt ops->listed.getD j false=true:=by
   intro i oi hi hoi him j p t hj hp hpt ht
   obtain⟨_,o',ho',hwait⟩:=mem_ready.1 hi
   rw[hoi] at ho'
   have:=A3 ho'
   subst this
   obtain⟨o1,d1,f1,_,_,_,f5,_⟩:=hop i (by omega)
   rw[hoi] at f1
   have:=A3 f1
   subst this
   obtain⟨_,hw⟩:=f5 him j p t hj hp hpt ht
   obtain⟨o2,ho2,e,he,hb,hon⟩:=AL hw
   rw[hoi] at ho2
   have:=A3 ho2
   subst this
   have:=hwait e he hb
   rwa [hon] at this
  have hdo:∀i,i∈AH .any ops listed->i<m->∃oi d,ops[i]?=some oi/\oi.dst=some d/\oi.guard=none/\((efB T ops i=false/\slotUpon P X (E.outs (l++E.out)) (poison ids σ) w' (S i) ((execOp a'.eval oi).run P w'))\/
    (efB T ops i=true/\∃σ2,SameB {σ with bx:=B i} σ2/\RelE X (E.outs (l++E.out)) {σ with bx:=B i} a.tmps w'/\effUpon P X (E.outs (l++E.out)) σ2 {σ2 with bx:=B (i+1)} a'.tmps w' (S i) ((execOp a'.eval oi).run P w')/\(∀j,j<m->efB T ops j=true->(listed.getD j false=true↔j<i)))):=by
   intro i hi hin
   obtain⟨hun,o',ho',hwait⟩:=mem_ready.1 hi
   obtain⟨oi,d,hoi,hd,e3,e4,e5,_⟩:=hop i (by omega)
   rw[hoi] at ho'
   have:=A3 ho'
   subst this
   obtain⟨hg,hc⟩:=hcert i oi hin hoi
   refine⟨oi,d,hoi,hd,hg,?_⟩
   have hlist:=hlistG i oi hi hoi hin
   rcases hc with⟨hef,σ2,h3,h4⟩|⟨hef,_,σ2,h3,h4⟩
   ·right
    obtain⟨c,hc,hrc,hlc⟩:=inv.full
    have hunf:listed.getD i false≠true:=fun h=>by rw[getD_both hun] at h;cases h
    have hci:c<=i:=Au fun h=>hunf ((hlc i hin hef).2 h)
    have hnone:∀j,c<=j->j<i->efB T ops j=false:=by
     intro j h1 h2
     cases hej:efB T ops j with
     |false=>rfl
     |true=>
      obtain⟨o2,ho2,e,he,hb,hon⟩:=AL (hch i j hin h2 hef hej)
      rw[hoi] at ho2
      have:=A3 ho2
      subst this
      have h5:=hwait e he hb
      rw[hon] at h5
      have:=(hlc j (by omega) hej).1 h5
      omega
    have hBe:=hsame c i hci (by omega) hnone
    have hrc':RelE X (E.outs (l++E.out)) {σ with bx:=B i} a.tmps w':=by rw[hBe];exact hrc
    have hK:Keep w' w' (Fz X (E.outs (l++E.out)) (poison ids σ) w') (Fz X (E.outs (l++E.out)) {σ with bx:=B i} w') (E.outs (l++E.out)) (E.outs (l++E.out)) (poison ids σ) {σ with bx:=B i}:=
     keep_bx (by rw[<-hP i (by omega),poison_ids]) rfl rfl rfl hbase.ge
    refine⟨hef,σ2,h3.same,hrc',h4 _ a' w' (inv.rel hrc' hK h3.same fun t s ht=>?_),fun j hj hej=>?_⟩
    ·rcases h3.slot t s ht with q1|⟨q1,q2⟩|⟨j,p,q1,q2,q3,q4,q5⟩
     ·exact .inl q1
     ·exact .inr (.inl ⟨fun j p hj hp he=>q1 ((H.mem t).2 ⟨j,p,hj,hp,he⟩),q2⟩)
     ·exact .inr (.inr ⟨j,p,by omega,q2,q3,hlist j p t (by omega) q2 q3 q4,q5⟩)
    ·rw[hlc j hj hej]
     refine⟨fun h=>by omega,fun h=>?_⟩
     rcases Ah j c with h1|h1
     ·exact h1
     ·rw[hnone j h1 h] at hej;cases hej
   ·left
    refine⟨hef,?_⟩
    have hrel:=inv.rel hbase (Keep.self hbase) h3.same fun t s ht=>?_
    ·exact upon_same h3.same hbase.ge (h4 _ a' w' hrel)
    ·rcases h3.slot t s ht with q1|⟨q1,q2⟩|⟨j,p,q1,q2,q3,q4,q5⟩
     ·exact .inl q1
     ·exact .inr (.inl ⟨fun j p hj hp he=>q1 ((H.mem t).2 ⟨j,p,hj,hp,he⟩),q2⟩)
     ·exact .inr (.inr ⟨j,p,by omega,q2,q3,hlist j p t (by omega) q2 q3 q4,q5⟩)
  by_cases hlt:∃i o,i∈AH .any ops listed/\n<ops.size/\lateB ops m n i=true/\ops[i]?=some o/\bareOp o=true
  ·obtain⟨i,ob,hi,hns',hla,hob,hbare⟩:=hlt
   have him:i<m:=by simp only[lateB,A4,decide_eq_true_eq] at hla;exact hla.1
   obtain⟨hun,_,_,hwait⟩:=mem_ready.1 hi
   obtain⟨oi,d,hoi,hd,_,hcase⟩:=hdo i hi him
   obtain⟨o,d',e1,e2,e3,e4,e5,e6⟩:=hop i (by omega)
   rw[hoi] at e1
   have:=A3 e1
   subst this
   rw[hoi] at hob
   have:=A3 hob
   subst this
   have hap:=(e6 hns').1 hla hbare
   rcases hcase with⟨hef,h3⟩|⟨hef,_⟩
   ·obtain⟨v,hv,hy⟩:=bare_upon (ops:=ops) hbare h3
    rw[hv] at h3
    refine wpAny_first hoi (fun j oj cs b hj=>AY hsel j oj cs b hj) (fun c a w h=>absurd h (hQp c _ w)) _ _ _ _ (fun j oj hj hji hju hno=>?_) hi hy (ih _ _ _ bl l (hcount i (by omega) hun) (hstep i oi d v w' him hoi hd hi hef (Ext.refl _) h3.2))
    rcases hap j oj hj hji with h|h|h
    ·obtain⟨o',ho',e,he,hb,hon⟩:=AL h
     rw[hj] at ho'
     have:=A3 ho'
     subst this
     exact absurd hon (hno e he hb)
    ·obtain⟨o',ho',e,he,hb,hon⟩:=AL h
     obtain⟨_,o2,ho2,hw2⟩:=mem_ready.1 hi
     rw[ho'] at ho2
     have:=A3 ho2
     subst this
     have h1:=hw2 e he hb
     rw[hon,getD_both hju] at h1
     cases h1
    ·exact h
   ·exfalso
    simp only[efB,hoi] at hef
    simp only[bareOp,A4] at hbare
    have h2:=hbare.2
    split at h2
    ·rename_i ho;rw[ho] at hef;simp[isEff] at hef
    ·rename_i ho;rw[ho] at hef;simp[isEff] at hef
    ·rename_i ho;rw[ho] at hef;simp[isEff] at hef
    ·cases h2
  by_cases hnl:n<ops.size->∃j,j<n/\listed.getD j true=false/\lateB ops m n j=false
  case neg=>
   have hns':n<ops.size:=by
    rcases Ah n ops.size with h|h
    ·exact h
    ·exact absurd (fun h2=>by omega) hnl
   have hla0:∀j,j<n->listed.getD j true=false->lateB ops m n j=true:=by
    intro j hj hju
    cases h:lateB ops m n j with
    |true=>rfl
    |false=>exact absurd (fun _=>⟨j,hj,hju,h⟩) hnl
   obtain⟨i,hin,hun,hi⟩:=hmin
   have hla:=hla0 i hin hun
   have him:i<m:=by simp only[lateB,A4,decide_eq_true_eq] at hla;exact hla.1
   obtain⟨oi,d,hoi,hd,_,hcase⟩:=hdo i hi him
   have hbare:bareOp oi=false:=by
    cases hb:bareOp oi with
    |false=>rfl
    |true=>exact absurd ⟨i,oi,hi,hns',hla,hoi,hb⟩ hlt
   obtain⟨hg,t,p,id,tt,hop',hbox,hcomp⟩:=hload hns' i oi him hoi hla hbare
   have hef:efB T ops i=false:=by simp only[efB,hoi,hop',isEff]
   obtain⟨tn,htt⟩:=hT.ty t _ hbox.1
   obtain⟨cs,cur,e,b1,b2,b3,b4,b5⟩:=inv.box hP hbox
   have hv:∀w2:World,w2.heap[(E.ad id).1]?=some (.cells cur e (0,0))->(Instr.loadAt t (.pointer (some ⟨(E.ad id).1,(E.ad id).2,none⟩))).run P w2= .ok (toVal tt cs) w2:=
    fun w2 hw2=>run_loadAt_ty htt b5 (b4.mono (hw2.trans b2.symm))
   have hrun:(execOp a'.eval oi).run P w'= .ok (.value (toVal tt cs)) w':=by
    have he:a'.eval (.tmp p)=_:=b1
    simp only[execOp,hop',he,Ai,hv w' b2,Aa,Aj]
   rcases hcase with⟨_,h3⟩|⟨h1,_⟩
   ·rw[hrun] at h3
    refine load_first hQp hsel hoi hg hop' hv _ _ _ _ b1 b2 (fun j oj hoj hji hju hno=>?_) hi (ih _ _ _ bl l (hcount i hin hun) (hstep i oi d _ w' him hoi hd hi hef (Ext.refl _) h3.2))
    have hw1:A5 .any ops j i=false:=by
     cases h:A5 .any ops j i with
     |false=>rfl
     |true=>
      obtain⟨o',ho',e,he,hb,hon⟩:=AL h
      rw[hoj] at ho'
      have:=A3 ho'
      subst this
      exact absurd hon (hno e he hb)
    have hw2:A5 .any ops i j=false:=by
     cases h:A5 .any ops i j with
     |false=>rfl
     |true=>
      obtain⟨o',ho',e,he,hb,hon⟩:=AL h
      obtain⟨_,o2,ho2,hw2⟩:=mem_ready.1 hi
      rw[ho'] at ho2
      have:=A3 ho2
      subst this
      have h1:=hw2 e he hb
      rw[hon,getD_both hju] at h1
      cases h1
    rcases hcomp j oj hoj hji hw1 hw2 with⟨h1,h2⟩|⟨h1,h2⟩
    ·rw[hla0 j h1 hju] at h2;cases h2
    ·refine⟨h1,h2.imp (fun z=>z) fun h=>h.imp (fun z=>z) fun⟨q1,q2,t2,p2,x2,id2,tt2,q3,q4,q5⟩=>?_⟩
     obtain⟨tn2,htt2⟩:=hT.ty t2 _ q4.1
     obtain⟨_,cur2,e2,z1,z2,z3,_,_⟩:=inv.box hP q4
     exact⟨q1,q2,t2,p2,x2,_,_,tt2.size,cur2,e2,q3,q4.2.1,run_sizeOf_ty htt2,z1,inv.apart hP hbox q4 q5,z2,z3⟩
   ·rw[hef] at h1;cases h1
  have hlow:∀i∈AH .any ops listed,i<n:=by
   intro i hi
   obtain⟨hun,oi,hoi,_⟩:=mem_ready.1 hi
   have hlt':i<ops.size:=(AD.1 hoi).1
   rcases Ah i n with h|h
   ·exact h
   ·exfalso
    obtain⟨j,hj,hj2,hj3⟩:=hnl (by omega)
    exact tail_waits2 (fun i hi hl=>((hop i hi).choose_spec.choose_spec.2.2.2.2.2 (by omega)).2 hl) htail (by omega) inv.head _ j rfl hj hj3 hj2 i h hi
  refine⟨fun h=>?_,fun i hi=>?_⟩
  ·obtain⟨i,_,_,hi⟩:=hmin
   rw[h] at hi;cases hi
  ·have hin:=hlow i hi
   obtain⟨hun,_,_,_⟩:=mem_ready.1 hi
   by_cases him:i<m
   ·obtain⟨oi,d,hoi,hd,hg,hcase⟩:=hdo i hi him
    unfold wpOp
    simp only[hoi,AO,hg,if_true]
    left
    unfold Oper.wp
    rcases hcase with⟨hef,h3⟩|⟨hef,σ2,hs2,hrc,h3,hlc⟩
    ·generalize (execOp a'.eval oi).run P w'=q at h3
     cases q with
     |halt x w2=>exact h3.elim
     |ok n w2=>
      cases n with
      |value u=>simp only[Oper.upon];exact ih _ _ _ bl l (hcount i hin hun) (hstep i oi d u w2 him hoi hd hi hef h3.1 h3.2)
      |enter f args=>
       obtain⟨e1,hc⟩:=h3
       simp only[Oper.upon]
       rw[e1]
       exact hc.mono fun e w3 ⟨v,he,hx,hs⟩=>by
        subst he
        exact ih _ _ _ bl l (hcount i hin hun) (hstep i oi d v w3 him hoi hd hi hef hx hs)
      |_=>exact h3.elim
    ·generalize (execOp a'.eval oi).run P w'=q at h3
     cases q with
     |halt x w2=>exact h3.elim
     |ok n w2=>
      cases n with
      |enter f args=>
       obtain⟨e1,hc⟩:=h3
       simp only[Oper.upon]
       rw[e1]
       exact hc.mono fun e w3 ⟨v,he,hr3,hK,hsz3,hout3,hs⟩=>by
        subst he
        have hid2:σ2.bx.map (·.id)=(poison ids σ).bx.map (·.id):=by rw[hs2.bx,<-hP i (by omega),poison_ids]
        have hge2:∀τ∈σ2.al,2<=τ/\τ∉σ2.fz:=fun τ hτ=>by
         rw[hs2.al] at hτ
         rw[hs2.fz]
         exact hbase.ge τ hτ
        have K0:Keep w' w' (Fz X (E.outs (l++E.out)) (poison ids σ) w') (Fz X (E.outs (l++E.out)) σ2 w') (E.outs (l++E.out)) (E.outs (l++E.out)) (poison ids σ) σ2:=keep_bx hid2 hs2.al hs2.fz hs2.nt hbase.ge
        have hidn:(poison ids σ).bx.map (·.id)=(B (i+1)).map (·.id):=by rw[<-hP (i+1) (by omega),poison_ids]
        have K1:Keep w3 w3 (Fz X (E.outs (l++E.out)) ({σ2 with bx:=B (i+1)}:St) w3) (Fz X (E.outs (l++E.out)) (poison ids σ) w3) (E.outs (l++E.out)) (E.outs (l++E.out)) ({σ2 with bx:=B (i+1)}:St) (poison ids σ):=keep_bx hidn hs2.al.symm hs2.fz.symm hs2.nt.symm hge2
        have Kc:Keep w' w' (Fz X (E.outs (l++E.out)) ({σ with bx:=B i}:St) w') (Fz X (E.outs (l++E.out)) σ2 w') (E.outs (l++E.out)) (E.outs (l++E.out)) ({σ with bx:=B i}:St) σ2:=keep_bx (by rw[hs2.bx]) hs2.al hs2.fz hs2.nt hrc.ge
        refine ih _ _ _ bl l (hcount i hin hun) (hnext i oi d v w3 him hoi hd hi hsz3 (fun b hb=>hout3 b (AE _ hb)) ((K0.trans hK).trans K1) ⟨i+1,by omega,?_,fun j hj hej=>?_⟩ (K1.slot hs))
        ·refine hr3.frames (σ:={σ with bx:=B (i+1)}) ⟨rfl,hs2.al.symm,hs2.fz.symm,hs2.ln.symm,hs2.nt.symm,hs2.len.symm⟩ inv.siz.symm (fun t s u h1 h2=>?_)
         exact(Kc.trans hK).slot (hrc.slot t s u h1 h2)
        ·by_cases hji:j=i
         ·subst hji
          exact⟨fun _=>by omega,fun _=>hset j hin hun⟩
         ·have hg2:(listed.setIfInBounds i true).getD j false=listed.getD j false:=getD_set_ne (listed:=listed) false (Ne.symm hji)
          rw[hg2,hlc j hj hej]
          omega
      |_=>exact h3.elim
   ·-- a new box
    obtain⟨oi,d,hoi,e2,e3,e4,e5,_⟩:=hop i hin
    obtain⟨oj,hoj,hN⟩:=hnew i (by omega) hin
    rw[hoi] at hoj
    have:=A3 hoj
    subst this
    have head':=inv.head.set hi hin
    have hd:d=(inf i).1:=by have:=hN.dst;rw[e2] at this;exact A3 this
    unfold wpOp
    simp only[hoi,AO,hN.guard,if_true]
    left
    unfold Oper.wp
    rw[hN.run a' w',Oper.upon_value]
    have hext:=Ext.alloc w' (.cells (inf i).2.1 (inf i).2.2)
    have K:=keep_outs (l':=(w'.heap.size::l)++E.out) hbase hext (fun b hb=>by
     rcases AS.1 hb with rfl|hb
     ·exact .inr (AW _)
     ·exact .inl hb)
    refine ih _ _ _ (fun j=>if j=i then w'.heap.size else bl j) (w'.heap.size::l) (hcount i hin hun) ?_
    have hput:∀t,t≠d->(a'.put oi.dst (.pointer (some ⟨w'.heap.size,0,none⟩))).tmps[t]?=a'.tmps[t]?:=fun t ht=>put_other _ _ t (fun e=>ht (by rw[e2] at e;exact A3 e))
    refine⟨head',?_,Ab inv.hsz hext.size,(put_defers _ _).trans inv.dfr,(put_size _ _).trans inv.siz,fun t ht=>?_,fun j p t u hj hp hpt hlj hu=>?_,fun j h1 h2 hlj=>?_,fun j l h1 h2 h3 h4 h5 h6 h7=>?_,fun b hb=>?_,fun j h1 h2 hlj=>?_⟩
    ·obtain⟨c,hc,hrc,hlc⟩:=inv.full
     refine⟨c,hc,alloc_out hrc _,fun j hj hej=>?_⟩
     have hji:j≠i:=by omega
     have hg:(listed.setIfInBounds i true).getD j false=listed.getD j false:=getD_set_ne (listed:=listed) false (Ne.symm hji)
     rw[hg]
     exact hlc j hj hej
    ·rw[hput t (fun e=>ht i oi hin hoi (by rw[e2,e]))]
     exact inv.oth t ht
    ·have hji:j≠i:=by omega
     rw[hput t (fun e=>e4 j p (by omega) hji hp (by rw[hpt,e]))] at hu
     exact K.slot (inv.slt j p t u hj hp hpt (listed_set hlj hji) hu)
    ·by_cases hji:j=i
     ·subst hji
      simp only[if_true]
      refine⟨fun b hb=>?_,inv.hsz,by simp,heap_alloc_new w' _⟩
      rw[e2,<-hd]
      exact put_same (inv.siz.trans hb.symm)
     ·simp only[if_neg hji]
      obtain⟨n1,n2,n3,n4⟩:=inv.new j h1 h2 (listed_set hlj hji)
      obtain⟨oj,hoj,hNj⟩:=hnew j h1 h2
      refine⟨fun b hb=>?_,n2,AB n3 hext.size,(hext.block _ n3).trans n4⟩
      rw[hput _ (fun e=>e4 j oj h2 hji hoj (by rw[hNj.dst,e]))]
      exact n1 b hb
    ·by_cases hji:j=i
     ·by_cases hli:l=i
      ·omega
      ·simp only[hji,if_true,if_neg hli] at h7
       have:=(inv.new l h3 h4 (listed_set h6 hli)).2.2.1
       omega
     ·by_cases hli:l=i
      ·simp only[hli,if_true,if_neg hji] at h7
       have:=(inv.new j h1 h2 (listed_set h5 hji)).2.2.1
       omega
      ·simp only[if_neg hji,if_neg hli] at h7
       exact inv.inj j l h1 h2 h3 h4 (listed_set h5 hji) (listed_set h6 hli) h7
    ·rcases AS.1 hb with rfl|hb
     ·exact⟨inv.hsz,by simp⟩
     ·exact⟨(inv.lfr b hb).1,AB (inv.lfr b hb).2 hext.size⟩
    ·by_cases hji:j=i
     ·simp[hji]
     ·simp only[if_neg hji]
      exact AI _ (inv.lmem j h1 h2 (listed_set hlj hji))
end
end Go.Proofs.YtacbkfginiknaaaDoor.V
namespace Go.Proofs.YtacbkfginiknaaaDoor.V
open Go
section
variable {P:Program} {X:Ctx} {E:Env} {σ σ0:St} {A0:Array Value} {a:Act} {w:World} {o:Oper} {R:Type} {ops:Array Oper} {D:List Nat} {m n:Nat}
def Fresh (w w2:World) (x:Val) (u:Value) (bo:Option Nat):Prop:=
 ∃cs,(∀A,Ow w2 A x.t x.v cs [bo])/\u=toVal x.t cs/\x.t.nl=1/\x.t.deep=false/\∀b,bo=some b->w.heap.size<=b/\b<w2.heap.size
theorem Fresh.later {w w1 w2 w3:World} {x:Val} {u:Value} {bo:Option Nat} (h:Fresh w1 w2 x u bo) (h1:Ext w w1) (h2:Ext w2 w3):Fresh w w3 x u bo:=by
 obtain⟨cs,g1,g2,g3,g4,g5⟩:=h
 refine⟨cs,fun A=>(g1 A).move (by simp[g3]) (fun b hb=>h2.block b (g5 b (by simpa[eq_comm] using hb)).2) (.inl g4),g2,g3,g4,fun b hb=>⟨Ab h1.size (g5 b hb).1,AB (g5 b hb).2 h2.size⟩⟩
def madeUpon (P:Program) (w:World) (x:Val):Result Next->Prop
 | .ok (.value u) w2=>Ext w w2/\∃bo,Fresh w w2 x u bo
 | .ok (.enter f args) w2=>w2=w/\Calls P f args w (fun e w3=>∃v,e= .returned v/\Ext w w3/\∃bo,Fresh w w3 x v bo)
 |_=>False
theorem rf_flat {A A':Nat->Prop} {w w':World} {t:Ty} {v:t.den} {cs:List Value} (hf:t.flat=true) (h:Rf w A t v cs):Rf w' A' t v cs:=rf_any (nl_flat hf) h
theorem made_call {fn:Fn} {f:FuncId} (hm:Meets P f fn) (hbx:fn.s.bx=false) (hro:roOnly fn.s.args=true) (hsh:shares fn.s=false) {e:TypeId} {t:Ty} (hfl:t.flat=true) (hres:fn.s.res=[(.sl e t,true)]) {args:List Operand} {x:fn.s.In} {y:fn.s.Out} {v:Val}
  (hv:resVals0 fn.s.res (Tup.fst (a:=resOf fn.s.res) (b:=outsOf fn.s.args) y)=[v]) (h:lendK fn.s.args (shares fn.s) (args.map (opd σ)) σ (fun x σ'=>some (x,σ'))=some (x,σ)) (hy:fn.f x=some y) (hr:RelE X E σ a.tmps w):
  Calls P f (args.map a.eval).toArray w fun e w3=>∃u,e= .returned u/\Ext w w3/\∃bo,Fresh w w3 ⟨v.t,v.v,[]⟩ u bo:=by
 obtain⟨fs,A,pin,hpre,hA⟩:=lent_ro (us:=args.map a.eval) hro (fun hs=>by rw[hsh] at hs;cases hs) hr (by simp) (args_slots hr) h
 refine(hm x y hy w A pin _ fs hpre).mono fun e' w3 he=>?_
 cases e' with
 |panicked c=>exact he.elim
 |outgrown=>exact he.elim
 |returned u=>
  obtain⟨vs,rfl,hp⟩:=he.1 hbx
  obtain⟨bo,br,hnd,hrets,hres',houts⟩:=hp.ex
  have hext:=hp.fr.toExt (foot_ro hro hpre.args)
  have hrow:=rows_ro hro hpre.args
  refine⟨_,rfl,hext,?_⟩
  revert hv hres'
  generalize (Tup.fst (a:=resOf fn.s.res) (b:=outsOf fn.s.args) y)=z
  revert z
  rw[hres]
  intro z hv hres'
  simp only[resVals0,List.cons.injEq,and_true] at hv
  subst hv
  cases vs with
  |nil=>cases br<;>exact hres'.elim
  |cons u vs=>
   cases br with
   |nil=>exact hres'.elim
   |cons bs br=>
    obtain⟨⟨cs,k1,k2,k3⟩,k4⟩:=hres'
    cases vs with
    |cons u' vs=>cases br<;>exact k4.elim
    |nil=>
     have k2':Ow w3 (After w w3 A fs (flatB bo++flatB (bs::br))) (.sl e t) (Tup.hd z) cs bs:=k2
     have k3':bs.length=1:=k3
     match bs,k3' with
     |[g],_=>
      refine⟨g,cs,fun A'=>k2'.move rfl (fun _ _=>rfl) (.inl (by simp[Ty.deep,nl_flat hfl])),k1,rfl,by simp[Ty.deep,nl_flat hfl],fun b hb=>?_⟩
      obtain⟨h1,h2⟩:=hrets b (A9 _ (by subst hb;simp[flatB]))
      rcases h1 with h1|h1
      ·rw[hrow] at h1;cases h1
      ·exact⟨h1,h2⟩
theorem made_append (T:Tabs) (hT:TabOk P T.T) {args:Array Operand} {ats:Array TypeId} (ho:o.op= .call ⟨.builtin .append,args,ats⟩) {x:Val} (hm:isMade T o=true) (h:madeK T o σ (fun x=>some x)=some x) (hr:RelE X E σ a.tmps w):madeUpon P w x ((execOp a.eval o).run P w):=by
 simp only[isMade,ho,A4] at hm
 obtain⟨_,hm⟩:=hm
 split at hm
 ·rename_i xo t0 t1 ea eb
  simp only[A4,beq_iff_eq] at hm
  obtain⟨rfl,hm⟩:=hm
  have hargs:args= #[.const (.slice none 0 0),xo]:=by rw[<-BS];exact ea
  have hats:ats= #[t0,t0]:=by rw[<-BS];exact eb
  subst hargs;subst hats
  simp only[madeK,ho,Al,BP] at h
  split at hm
  ·rename_i e t hT0
   simp only[hT0] at h
   cases hc:V.coe (.sl e t) (opd σ xo) with
   |none=>simp only[hc] at h;cases h
   |some q=>
    obtain⟨ys,us⟩:=q
    simp only[hc] at h
    obtain⟨g1,h⟩:=guardK_some h
    simp only[A4,decide_eq_true_eq] at g1
    obtain⟨hus,hlim⟩:=g1
    injection h with h
    subst h
    obtain⟨_,ht⟩:=hT.ty t0 _ hT0
    obtain⟨_,hu,he⟩:=tyB_sl ht
    obtain⟨fi,z,i1,i2,i3,i4,i5⟩:=tyB_info he
    have hpos:0<t.size:=by have:=tyB_ok ht;simp[Ty.ok] at this;exact this.2
    have hzl:(zc t).length=t.size:=(rf_zero (w:=w) (A:=fun _=>False) (tyB_ok he)).length
    obtain⟨cs2,⟨c2,ec2,hleaf2⟩,hv2,hm2⟩:=hr.coe hc
    subst ec2
    simp only[toVal,Ty.agg,B4,if_false,List.headD_cons] at hv2
    obtain⟨ad,cap,css2,rfl,hl2,hrs2,hne2,_⟩:=leaf_row hr hleaf2 hus
    have hLIM:LIM=4294967296:=rfl
    have hown0:w.ownsRow 0 e t.size (.slice none 0 0) 0 []:=⟨by simp,.inl ⟨rfl,rfl⟩⟩
    obtain⟨v',w',hrun,hcase⟩:=append_cases (P:=P) (w:=w) t0 o.type e fi z t.size hu i1 i4 i2 (by rw[<-Array.length_toList,i5,hzl]) hpos (.slice none 0 0) 0 [] hown0 ad _ cap css2 hl2
     (fun hn=>by
      obtain⟨b,f,q1,q2,_⟩:=hne2 hn
      exact⟨_,q1,fun j u hu=>by rw[add_addr];exact q2 j u hu⟩)
     (rows_one hpos hl2 hrs2) (by simp only[maxLen];omega) (by
      calc (0+List.length ys)*fi.bytes<=4294967296*32768:=Nat.mul_le_mul (by omega) i3
       _<=140737488355328:=by decide)
    have hv1:a.eval (.const (.slice none 0 0))= .slice none 0 0:=rfl
    have hex:(execOp a.eval o).run P w= .ok (.value v') w':=by
     simp only[execOp,ho,resolve,invoke,builtin,List.map_toArray,Al,BP,Ai,Aj,Aa,hv1,hv2,hrun]
    rw[hex]
    have elems:∀ {A':Nat->Prop} (i:Nat) (v:t.den),ys[i]?=some v->Rf w' A' t v (seg css2 t.size i):=fun i v hv=>rf_flat hm (hrs2 i v hv)
    have hd:Ty.deep (.sl e t)=false:=by simp[Ty.deep,nl_flat hm]
    rcases hcase with⟨rfl,rfl,h0⟩|⟨g,cap',cur,arr,e1,_⟩|⟨cap',e1,e2,e3,e4⟩
    ·refine⟨Ext.refl _,none,[.slice none 0 0],fun A=>⟨0,[],?_,?_,fun i v hv=>?_⟩,rfl,rfl,hd,fun b hb=>by cases hb⟩
     ·have:ys=[]:=Az h0
      subst this;rfl
     ·have:ys=[]:=Az h0
      subst this;exact hown0
     ·have:ys=[]:=Az h0
      subst this;simp at hv
    ·cases e1
    ·rw[Ao,BT] at e4
     rw[Ao] at e1
     subst e1
     exact⟨e2,some w.heap.size,[.slice (some ⟨w.heap.size,0,none⟩) (List.length ys) cap'],fun A=>⟨cap',css2,rfl,e4,elems⟩,rfl,rfl,hd,fun b hb=>by cases hb;exact⟨AW _,e3⟩⟩
  ·cases hm
 ·cases hm
theorem madeK_nat (T:Tabs) {k:Val->Option R} {r:R} (hm:isMade T o=true) (h:madeK T o σ k=some r):∃x,k x=some r/\∀ (R':Type) (k':Val->Option R'),madeK T o σ k'=k' x:=by
 simp only[isMade,A4] at hm
 obtain⟨_,hm⟩:=hm
 split at hm
 ·rename_i args ats ho
  split at hm
  ·rename_i xo t0 t1 ea eb
   simp only[A4,beq_iff_eq] at hm
   obtain⟨rfl,hm⟩:=hm
   simp only[madeK,ho,ea,eb,Al,BP] at h ⊢
   split at hm
   ·rename_i e t hT0
    simp only[hT0] at h ⊢
    cases hc:V.coe (.sl e t) (opd σ xo) with
    |none=>simp only[hc] at h;cases h
    |some q=>
     obtain⟨ys,us⟩:=q
     simp only[hc] at h ⊢
     obtain⟨h3,h4⟩:=guardK_nat h
     exact⟨_,h3,fun R' k'=>h4 R' _⟩
   ·cases hm
  ·cases hm
 ·rename_i f args ats ho
  simp only[madeK,ho] at h ⊢
  cases hf:T.F f with
  |none=>rw[hf] at h;cases h
  |some fn=>
   simp only[hf,A4,AG] at h hm ⊢
   obtain⟨x,h1,h2⟩:=lend_nat hm.1.1.1 (fun hs=>by rw[hm.1.2] at hs;cases hs) h
   cases hy:fn.f x with
   |none=>rw[hy] at h1;cases h1
   |some y=>
    rw[hy] at h1
    simp only[AU] at h1
    split at h1
    ·rename_i v hv
     exact⟨_,h1,fun R' k'=>by rw[h2,hy];simp only[AU,hv]⟩
    ·cases h1
 ·cases hm
theorem made_ok (T:Tabs) (hT:TabOk P T.T) (hF:FOk P T.F) {x:Val} (hm:isMade T o=true) (h:madeK T o σ (fun x=>some x)=some x) (hr:RelE X E σ a.tmps w):madeUpon P w x ((execOp a.eval o).run P w):=by
 by_cases hc:∃f args ats,o.op= .call ⟨.value (.func f),args,ats⟩
 ·obtain⟨f,args,ats,ho⟩:=hc
  simp only[isMade,ho,A4] at hm
  simp only[madeK,ho] at h
  obtain⟨_,hm⟩:=hm
  cases hf:T.F f with
  |none=>rw[hf] at h;cases h
  |some fn=>
   simp only[hf,A4,AG] at h hm
   obtain⟨⟨⟨hro,hbx⟩,hsh⟩,hres⟩:=hm
   obtain⟨x',h1,h2⟩:=lend_nat hro (fun hs=>by rw[hsh] at hs;cases hs) h
   cases hy:fn.f x' with
   |none=>rw[hy] at h1;cases h1
   |some y=>
    rw[hy] at h1
    simp only[AU] at h1
    split at h1
    ·rename_i v hv
     injection h1 with h1
     subst h1
     obtain⟨hme,g,g1,g2,g3⟩:=hF f fn hf
     split at hres
     ·rename_i e t hr1
      have hcall:=made_call hme hbx hro hsh hres hr1 hv (h2 _ _) hy hr
      have hrun:(execOp a.eval o).run P w= .ok (.enter f (args.toList.map a.eval).toArray) w:=by
       have e1:a.eval (.func f)= .func (.func f) #[] #[]:=rfl
       have hb:¬g.body=none:=by intro h;rw[h] at g2;cases g2
       have hn:¬g.name="runtime.NumGoroutine":=by simpa using g3
       simp[execOp,ho,resolve,e1,Deferred.ofValue,invoke,callFunc,g1]
       rw[if_neg hn,if_neg hb,<-BQ]
      rw[hrun]
      exact⟨rfl,hcall⟩
     ·cases hres
    ·cases h1
 ·by_cases ha:∃args ats,o.op= .call ⟨.builtin .append,args,ats⟩
  ·obtain⟨args,ats,ho⟩:=ha
   exact made_append T hT ho hm h hr
  ·exfalso
   simp only[isMade,A4] at hm
   obtain⟨_,hm⟩:=hm
   split at hm
   ·rename_i ho;exact ha ⟨_,_,ho⟩
   ·rename_i ho;exact hc ⟨_,_,_,ho⟩
   ·cases hm
def MCert (P:Program) (T:Tabs) (X:Ctx) (D:List Nat) (ops:Array Oper) (S:Nat->Slot) (V:Nat->Val) (σ0:St) (i:Nat) (o:Oper):Prop:=
 o.guard=none/\∃σ,Sees D ops S σ0 σ i o/\((isMade T o=true/\S i= .no/\∀ (E:Env) (a:Act) (w:World),RelE X E σ a.tmps w->madeUpon P w (V i) ((execOp a.eval o).run P w))\/
  (isMade T o=false/\∀ (E:Env) (a:Act) (w:World),RelE X E σ a.tmps w->slotUpon P X E σ w (S i) ((execOp a.eval o).run P w)))
def MList (T:Tabs) (ops:Array Oper) (V:Nat->Val) (i:Nat) (l:List (Nat×Val)):Prop:=
 ∃js:List Nat,js.Nodup/\(∀j∈js,j<i/\∃p,ops[j]?=some p/\isMade T p=true)/\l=js.map (fun j=>(((ops[j]?).bind (·.dst)).getD 0,V j))
theorem m_cert (T:Tabs) (hT:TabOk P T.T) (hF:FOk P T.F) (H:HeadOk ops D m n):∀ {l:List (Oper×Nat)} {i:Nat} {σi:St} {ml:List (Nat×Val)} {k:List (Nat×Val)->St->Option R} {r:R} {S:Nat->Slot} {V:Nat->Val},
  mK T D ops l σi ml k=some r->Contig i l->(∀q∈l,ops[q.2]?=some q.1)->i+l.length<=m->(∀q∈l,∃d,q.1.dst=some d)->Walk ops S σ0 σi i->MList T ops V i ml->
  ∃S' V' σ' ml',(∀j,j<i->S' j=S j/\V' j=V j)/\(∀j o,i<=j->j<i+l.length->ops[j]?=some o->MCert P T X D ops S' V' σ0 j o)/\Walk ops S' σ0 σ' (i+l.length)/\MList T ops V' (i+l.length) ml'/\k ml' σ'=some r:=by
 intro l
 induction l with
 |nil=>intro i σi ml k r S V h hc hi hm hh hw hl;exact⟨S,V,σi,ml,fun _ _=>⟨rfl,rfl⟩,fun j o h1 h2=>by simp at h2;omega,hw,hl,h⟩
 |cons o l ih=>
  intro i σi ml k r S V h hc hi hm hh hw hl
  have ho:=hi o AN
  have ho2:o.2=i:=hc.1
  rw[ho2] at ho
  have him:i<m:=by simp at hm;omega
  obtain⟨d,hd⟩:=hh o AN
  have hlen:i+(o::l).length=i+1+l.length:=by simp;omega
  have mono:∀ (x:Val),MList T ops (fun j=>if j=i then x else V j) (i+1) ml:=by
   intro x
   obtain⟨js,h1,h2,h3⟩:=hl
   refine⟨js,h1,fun j hj=>⟨by have:=(h2 j hj).1;omega,(h2 j hj).2⟩,h3.trans (B2 fun j hj=>?_)⟩
   have hne:j≠i:=by have:=(h2 j hj).1;omega
   simp only[if_neg hne]
  have fin:∀ (s:Slot) (x:Val) (ml1:List (Nat×Val)),MList T ops (fun j=>if j=i then x else V j) (i+1) ml1->mK T D ops l (σi.put o.1.dst s) ml1 k=some r->(∀ (S':Nat->Slot) (V':Nat->Val),(∀j,j<i->S' j=S j)->S' i=s->V' i=x->MCert P T X D ops S' V' σ0 i o.1)->
    ∃S' V' σ' ml',(∀j,j<i->S' j=S j/\V' j=V j)/\(∀j p,i<=j->j<i+(o::l).length->ops[j]?=some p->MCert P T X D ops S' V' σ0 j p)/\Walk ops S' σ0 σ' (i+(o::l).length)/\MList T ops V' (i+(o::l).length) ml'/\k ml' σ'=some r:=by
   intro s x ml1 hml hg hcert
   have hS1:∀j,j<i->(fun j=>if j=i then s else S j) j=S j:=fun j hj=>if_neg (by omega)
   have hw1:Walk ops (fun j=>if j=i then s else S j) σ0 (σi.put o.1.dst s) (i+1):=hw.put ho hd s _ hS1 (if_pos rfl)
   obtain⟨S',V',σ',ml',q1,q2,q3,q4,q5⟩:=ih (S:=fun j=>if j=i then s else S j) (V:=fun j=>if j=i then x else V j) hg hc.2 (fun q hq=>hi q (AI _ hq)) (by simp at hm;omega) (fun q hq=>hh q (AI _ hq)) hw1 hml
   rw[hlen]
   refine⟨S',V',σ',ml',fun j hj=>⟨(q1 j (by omega)).1.trans (hS1 j hj),(q1 j (by omega)).2.trans (if_neg (by omega))⟩,fun j p h3 h4 hp'=>?_,q3,q4,q5⟩
   by_cases hji:j=i
   ·subst hji
    rw[ho] at hp'
    have:=A3 hp'
    subst this
    exact hcert S' V' (fun k hk=>(q1 k (by omega)).1.trans (hS1 k hk)) ((q1 j (by omega)).1.trans (if_pos rfl)) ((q1 j (by omega)).2.trans (if_pos rfl))
   ·exact q2 j p (by omega) h4 hp'
  simp only[mK] at h
  cases he:isMade T o.1 with
  |true=>
   rw[he] at h
   simp only[cond_true] at h
   obtain⟨x,h1,h2⟩:=madeK_nat T he h
   refine fin .no x _ ?_ h1 (fun S' V' e1 e2 e3=>⟨?_,hide D (o.1.looksAt ops) σi,(hw.sees H him ho).congr e1,.inl ⟨he,e2,fun E a w hr=>?_⟩⟩)
   ·obtain⟨js,g1,g2,g3⟩:=hl
    refine⟨i::js,Ay.2 ⟨fun hmem=>by have:=(g2 i hmem).1;omega,g1⟩,fun j hj=>?_,?_⟩
    ·rcases AS.1 hj with rfl|hj
     ·exact⟨by omega,_,ho,he⟩
     ·exact⟨by have:=(g2 j hj).1;omega,(g2 j hj).2⟩
    ·simp only[Al,if_true,ho,AU,g3]
     congr 1
     refine B2 fun j hj=>?_
     have hne:j≠i:=by have:=(g2 j hj).1;omega
     simp only[if_neg hne]
   ·simp only[isMade,A4] at he
    simpa using he.1.1
   ·rw[e3];exact made_ok T hT hF he (h2 _ _) hr
  |false=>
   rw[he] at h
   simp only[cond_false] at h
   cases hgu:o.1.guard.isNone&&headOp T o.1.op with
   |false=>rw[hgu] at h;simp at h
   |true=>
    rw[hgu] at h
    simp only[cond_true] at h
    simp only[A4] at hgu
    obtain⟨s,h1,h2⟩:=slotK_nat T hgu.2 h
    refine fin s (V i) ml ?_ h1 (fun S' V' e1 e2 e3=>⟨by simpa using hgu.1,hide D (o.1.looksAt ops) σi,(hw.sees H him ho).congr e1,.inr ⟨he,fun E a w hr=>?_⟩⟩)
    ·exact mono _
    ·rw[e2];exact slotK_ok T hT hF hgu.2 (h2 _ _) hr
theorem any_inv {I:Array Bool->Act->World->Prop} {Q:Exit->Act->World->Prop} (hQp:∀c a w,¬Q (.panic c) a w) (hsel:BA ops=true) (hn:n<=ops.size) (hseq:tailB ops n=true)
  (htail:n<ops.size->∀listed,HeadInv .any ops n listed->∀i,i<n->listed.getD i true=false->∀t,n<=t->t∉AH .any ops listed)
  (hdep:∀i,i<n->∃o,ops[i]?=some o/\∀e∈o.after,Ar .any e=true->e.on<i) (hI:∀l a w,I l a w->HeadInv .any ops n l)
  (hstep:∀l a w i K,I l a w->i∈AH .any ops l->i<n->(∀a2 w2,I (l.setIfInBounds i true) a2 w2->K a2 w2)->wpOp P ops Q i K a w)
  (hQ:∀l a w,(∀i,i<n->l.getD i false=true)->I l a w->wpOps P ops Q (BB n (ops.size-n)) a w):
  ∀ (k:Nat) (listed:Array Bool) (a':Act) (w':World),(AV n).countP (fun i=> !listed.getD i true)=k->I listed a' w'->wpAny P .any ops Q (k+(ops.size-n)) listed a' w':=by
 intro k
 induction k with
 |zero=>
  intro listed a' w' hk inv
  have hh:=hI _ _ _ inv
  have hall:∀i,i<n->listed.getD i false=true:=by
   intro i hi
   refine listed_of_not (by rw[hh.size];omega) (fun h=>?_)
   have:=Av.1 hk i (A6.2 hi)
   simp[h] at this
  rw[Ao]
  exact any_of_tail hQp hsel hn hseq hh hall (hQ listed a' w' hall inv)
 |succ k ih=>
  intro listed a' w' hk inv
  have hh:=hI _ _ _ inv
  rw[show k+1+(ops.size-n)=(k+(ops.size-n))+1 by omega]
  have hex:∃i,i<n/\listed.getD i true=false:=by
   obtain⟨i,hi,h⟩:=Aw.1 (show 0<(AV n).countP (fun i=> !listed.getD i true) by omega)
   exact⟨i,A6.1 hi,by simpa using h⟩
  have hmin:∃i,i<n/\listed.getD i true=false/\i∈AH .any ops listed:=by
   obtain⟨i,hi,h⟩:=hex
   induction i using B3 with
   |_ i ihi=>
    by_cases hlow:∃j,j<i/\listed.getD j true=false
    ·obtain⟨j,hj,hj2⟩:=hlow
     exact ihi j hj (by omega) hj2
    ·obtain⟨o,e1,e3⟩:=hdep i hi
     refine⟨i,hi,h,mem_ready.2 ⟨h,o,e1,fun e he hb=>?_⟩⟩
     have hlt:=e3 e he hb
     exact listed_of_not (by rw[hh.size];omega) (fun hn=>hlow ⟨e.on,hlt,hn⟩)
  have hcount:∀i,i<n->listed.getD i true=false->(AV n).countP (fun j=> !(listed.setIfInBounds i true).getD j true)=k:=by
   intro i hin hun
   have:=countP_one (f:=fun j=> !listed.getD j true) (g:=fun j=> !(listed.setIfInBounds i true).getD j true) (i:=i) (B1) (A6.2 hin) (by simp only[hun];rfl)
    (by
     have hlt:i<listed.size:=by rw[hh.size];omega
     simp[AC,hlt])
    (fun j _ hj=>by
     have:=getD_set_ne (listed:=listed) true (Ne.symm hj)
     simp only[this])
   omega
  refine⟨fun h=>?_,fun i hi=>?_⟩
  ·obtain⟨i,_,_,hi⟩:=hmin
   rw[h] at hi;cases hi
  ·have hin:i<n:=by
    obtain⟨_,oi,hoi,_⟩:=mem_ready.1 hi
    have hlt':i<ops.size:=(AD.1 hoi).1
    rcases Ah i n with h|h
    ·exact h
    ·obtain⟨j,hj,hj2,_⟩:=hmin
     exact absurd hi (htail (by omega) listed hh j hj hj2 i h)
   exact hstep listed a' w' i _ inv hi hin (fun a2 w2 h=>ih _ _ _ (hcount i hin (mem_ready.1 hi).1) h)
structure MInv (T:Tabs) (X:Ctx) (E:Env) (ops:Array Oper) (m:Nat) (S:Nat->Slot) (V:Nat->Val) (σ0:St) (a:Act) (w:World) (bl:Nat->Option Nat) (listed:Array Bool) (a':Act) (w':World):Prop where
 head:HeadInv .any ops m listed
 ext:Ext w w'
 dfr:a'.defers=a.defers
 siz:a'.tmps.size=a.tmps.size
 oth:∀t,(∀i o,i<m->ops[i]?=some o->o.dst≠some t)->a'.tmps[t]?=a.tmps[t]?
 slt:∀i o d u,i<m->ops[i]?=some o->o.dst=some d->isMade T o=false->listed.getD i false=true->a'.tmps[d]?=some u->SlotOk w' (Fz X E σ0 w') E σ0 (S i) u
 made:∀i o d,i<m->ops[i]?=some o->o.dst=some d->isMade T o=true->listed.getD i false=true->∃u,Fresh w w' (V i) u (bl i)/\∀u',a'.tmps[d]?=some u'->u'=u
 inj:∀i j oi oj b,i<m->j<m->ops[i]?=some oi->ops[j]?=some oj->isMade T oi=true->isMade T oj=true->listed.getD i false=true->listed.getD j false=true->bl i=some b->bl j=some b->i=j
theorem slotUpon_same {σ:St} (hs:SameB σ0 σ) (hge:∀τ∈σ0.al,2<=τ/\τ∉σ0.fz) {s:Slot} {q:Result Next} (h:slotUpon P X E σ w s q):slotUpon P X E σ0 w s q:=upon_same hs hge h
theorem m_step (T:Tabs) {S:Nat->Slot} {V:Nat->Val} {Q:Exit->Act->World->Prop} (H:HeadOk ops D m m) (hr:RelE X E σ0 a.tmps w) (hcert:∀i o,i<m->ops[i]?=some o->MCert P T X D ops S V σ0 i o) (hdst:∀i o,i<m->ops[i]?=some o->∃d,o.dst=some d)
  (hlook:∀i o j p t,i<m->ops[i]?=some o->j<m->ops[j]?=some p->p.dst=some t->t∈o.looksAt ops->A5 .any ops i j=true/\isMade T p=false)
  (listed:Array Bool) (a':Act) (w':World) (i:Nat) (K:Act->World->Prop) (hinv:∃bl,MInv T X E ops m S V σ0 a w bl listed a' w') (hi:i∈AH .any ops listed) (him:i<m)
  (hK:∀a2 w2,(∃bl,MInv T X E ops m S V σ0 a w bl (listed.setIfInBounds i true) a2 w2)->K a2 w2):wpOp P ops Q i K a' w':=by
 obtain⟨bl,inv⟩:=hinv
 obtain⟨hun,oi,hoi,hwait⟩:=mem_ready.1 hi
 obtain⟨d,hd⟩:=hdst i oi him hoi
 obtain⟨hg,σ2,hsee,hc⟩:=hcert i oi him hoi
 have hbase:RelE X E σ0 a.tmps w':=hr.ext inv.ext
 have hfr:RelE X E σ2 a'.tmps w':=by
  refine hbase.frames hsee.same inv.siz (fun t s u h1 h2=>?_)
  rcases hsee.slot t s h1 with q1|⟨q1,q2⟩|⟨j,p,q1,q2,q3,q4,q5⟩
  ·subst q1;trivial
  ·rw[inv.oth t (fun j p hj hp he=>q1 ((H.mem t).2 ⟨j,p,hj,hp,he⟩))] at h2
   exact hbase.slot t s u q2 h2
  ·subst q5
   obtain⟨h3,h4⟩:=hlook i oi j p t him hoi (by omega) q2 q3 q4
   obtain⟨o2,ho2,e,he,hb,hon⟩:=AL h3
   rw[hoi] at ho2
   have:=A3 ho2
   subst this
   have hl:=hwait e he hb
   rw[hon] at hl
   exact inv.slt j p t u (by omega) q2 q3 h4 hl h2
 have head':=inv.head.set hi him
 have hinj:∀j p t,j<m->j≠i->ops[j]?=some p->p.dst=some t->t≠d:=fun j p t hj hji hp hpt he=>hji (H.inj j p i oi t hj hp him hoi hpt (by rw[hd,he]))
 have next:∀ (v:Value) (w2:World) (bl2:Nat->Option Nat),Ext w' w2->(isMade T oi=false->SlotOk w2 (Fz X E σ0 w2) E σ0 (S i) v)->(∀j,j≠i->bl2 j=bl j)->(isMade T oi=true->Fresh w' w2 (V i) v (bl2 i))->MInv T X E ops m S V σ0 a w bl2 (listed.setIfInBounds i true) (a'.put oi.dst v) w2:=by
  intro v w2 bl2 hw2 hs hb2 hf
  have K2:=hbase.keepExt hw2
  have hput:∀t,t≠d->(a'.put oi.dst v).tmps[t]?=a'.tmps[t]?:=fun t ht=>put_other _ _ t (fun e=>ht (by rw[hd] at e;exact A3 e))
  have hself:∀u,(a'.put oi.dst v).tmps[d]?=some u->u=v:=by
   intro u hu
   rw[hd] at hu
   simp only[Act.put] at hu
   by_cases hlt:d<a'.tmps.size
   ·rw[AQ hlt] at hu;exact(A3 hu).symm
   ·rw[Ac (by rw[AX];exact Au hlt)] at hu;cases hu
  refine⟨head',inv.ext.trans hw2,(put_defers _ _).trans inv.dfr,(put_size _ _).trans inv.siz,fun t ht=>?_,fun j p t u hj hp hpt hmj hlj hu=>?_,fun j p t hj hp hpt hmj hlj=>?_,fun j l oj ol b h1 h2 h3 h4 h5 h6 h7 h8 h9 h10=>?_⟩
  ·rw[hput t (fun e=>ht i oi him hoi (by rw[hd,e]))]
   exact inv.oth t ht
  ·by_cases hji:j=i
   ·subst hji
    rw[hoi] at hp
    have:=A3 hp
    subst this
    rw[hd] at hpt
    have:=A3 hpt
    subst this
    rw[hself u hu];exact hs hmj
   ·rw[hput t (hinj j p t hj hji hp hpt)] at hu
    exact K2.slot (inv.slt j p t u hj hp hpt hmj (listed_set hlj hji) hu)
  ·by_cases hji:j=i
   ·subst hji
    rw[hoi] at hp
    have:=A3 hp
    subst this
    rw[hd] at hpt
    have:=A3 hpt
    subst this
    exact⟨v,(hf hmj).later inv.ext (Ext.refl _),hself⟩
   ·obtain⟨u,q1,q2⟩:=inv.made j p t hj hp hpt hmj (listed_set hlj hji)
    rw[hb2 j hji]
    exact⟨u,q1.later (Ext.refl _) hw2,fun u' hu'=>q2 u' (by rwa [hput t (hinj j p t hj hji hp hpt)] at hu')⟩
  ·by_cases hji:j=i
   ·by_cases hli:l=i
    ·rw[hji,hli]
    ·exfalso
     subst hji
     rw[hoi] at h3
     have:=A3 h3
     subst this
     obtain⟨dl,hdl⟩:=hdst l ol h2 h4
     obtain⟨u,q1,_⟩:=inv.made l ol dl h2 h4 hdl h6 (listed_set h8 hli)
     rw[hb2 l hli] at h10
     have k1:=(hf h5).choose_spec.2.2.2.2 b h9
     have k2:=q1.choose_spec.2.2.2.2 b h10
     omega
   ·by_cases hli:l=i
    ·exfalso
     subst hli
     rw[hoi] at h4
     have:=A3 h4
     subst this
     obtain⟨dj,hdj⟩:=hdst j oj h1 h3
     obtain⟨u,q1,_⟩:=inv.made j oj dj h1 h3 hdj h5 (listed_set h7 hji)
     rw[hb2 j hji] at h9
     have k1:=(hf h6).choose_spec.2.2.2.2 b h10
     have k2:=q1.choose_spec.2.2.2.2 b h9
     omega
    ·rw[hb2 j hji] at h9
     rw[hb2 l hli] at h10
     exact inv.inj j l oj ol b h1 h2 h3 h4 h5 h6 (listed_set h7 hji) (listed_set h8 hli) h9 h10
 unfold wpOp
 simp only[hoi]
 have hwant:AO oi (yielded ops a'.tmps)=true:=by unfold AO;rw[hg]
 rw[hwant,if_pos rfl]
 left
 unfold Oper.wp
 rcases hc with⟨hm,hSi,hc⟩|⟨hm,hc⟩
 ·have h3:=hc E a' w' hfr
  have fresh:∀ (v:Value) (w2:World),Ext w' w2->(∃bo,Fresh w' w2 (V i) v bo)->K (a'.put oi.dst v) w2:=fun v w2 hw2 ⟨bo,hf⟩=>
   hK _ _ ⟨fun j=>if j=i then bo else bl j,next v w2 _ hw2 (fun h=>by rw[hm] at h;cases h) (fun j hj=>if_neg hj) (fun _=>by simpa using hf)⟩
  generalize (execOp a'.eval oi).run P w'=q at h3
  cases q with
  |halt x w2=>exact h3.elim
  |ok nx w2=>
   cases nx with
   |value u=>simp only[Oper.upon];exact fresh u w2 h3.1 h3.2
   |enter f args=>
    obtain⟨e1,hcl⟩:=h3
    simp only[Oper.upon]
    rw[e1]
    exact hcl.mono fun e w3 ⟨v,he,hx,hs⟩=>by subst he;exact fresh v w3 hx hs
   |_=>exact h3.elim
 ·have h3:=upon_same hsee.same hr.ge (hc E a' w' hfr)
  have plain:∀ (v:Value) (w2:World),Ext w' w2->SlotOk w2 (Fz X E σ0 w2) E σ0 (S i) v->K (a'.put oi.dst v) w2:=fun v w2 hw2 hs=>
   hK _ _ ⟨bl,next v w2 bl hw2 (fun _=>hs) (fun _ _=>rfl) (fun h=>by rw[hm] at h;cases h)⟩
  generalize (execOp a'.eval oi).run P w'=q at h3
  cases q with
  |halt x w2=>exact h3.elim
  |ok nx w2=>
   cases nx with
   |value u=>simp only[Oper.upon];exact plain u w2 h3.1 h3.2
   |enter f args=>
    obtain⟨e1,hcl⟩:=h3
    simp only[Oper.upon]
    rw[e1]
    exact hcl.mono fun e w3 ⟨v,he,hx,hs⟩=>by subst he;exact plain v w3 hx hs
   |_=>exact h3.elim
theorem thinL_at (D:List Nat):∀ (fr:List Slot) (i t:Nat),(thinL D i fr)[t]?=(fr[t]?).map fun s=>bif D.contains (i+t) then thinS s else s:=by
 intro fr
 induction fr with
 |nil=>intro i t;simp[thinL]
 |cons s r ih=>
  intro i t
  cases t with
  |zero=>simp[thinL]
  |succ t=>simp only[thinL,BF];rw[ih,show i+1+t=i+(t+1) by omega]
theorem thin_len (D:List Nat):∀ (fr:List Slot) (i:Nat),(thinL D i fr).length=fr.length:=by
 intro fr
 induction fr with
 |nil=>intro i;rfl
 |cons s r ih=>intro i;simp[thinL,ih]
theorem thinS_ok {A A':Nat->Prop} {E':Env} {s:Slot} {u:Value} (he:E'.ad=E.ad) (h:SlotOk w A E σ s u):SlotOk w A' E' σ (thinS s) u:=by
 cases s with
 |ptr id r p t=>obtain⟨h0,b,o,h1,h2⟩:=h;exact⟨h0,b,o,h1,by rw[he];exact h2⟩
 |val x hm=>
  simp only[thinS]
  cases hf:x.t.flat with
  |false=>trivial
  |true=>
   obtain⟨cs,g1,g2,_⟩:=h
   rw[flatR_ok hf g1] at g2
   exact⟨flatC x.t x.v,flat_rv hf,g2,(nl_flat hf).symm⟩
 |_=>trivial
theorem set_same0 {d:Nat} {u:Value} (h:A0[d]?=some u):A0.setIfInBounds d u=A0:=by
 apply B5
 intro i
 by_cases hi:d=i
 ·subst hi
  rw[AQ (AD.1 h).1,h]
 ·rw[Ax hi]
theorem thaw_ok {w0:World} {V:Nat->Val} {bl:Nat->Option Nat} {dj:Nat->Nat} {l:List Nat}:∀ {js:List Nat} {E1:Env} {σ1:St},RelE X E1 σ1 A0 w->E1.out=js.filterMap bl++l->(∀j∈js,∃u,Fresh w0 w (V j) u (bl j)/\∀u',A0[dj j]?=some u'->u'=u)->
  ∃E2,RelE X E2 (thaw (js.map fun j=>(dj j,V j)) σ1) A0 w:=by
 intro js
 induction js with
 |nil=>intro E1 σ1 hr _ _;exact⟨E1,hr⟩
 |cons j js ih=>
  intro E1 σ1 hr ho hf
  obtain⟨u,⟨cs,g1,g2,g3,g4,g5⟩,hu⟩:=hf j AN
  have ho':E1.out=[bl j].filterMap id++(js.filterMap bl++l):=by
   rw[ho]
   cases hb:bl j<;>simp[hb]
  obtain⟨E',q1,q2,q3,q4,q5,q6,q7⟩:=adopt_valP (bs:=[bl j]) hr ho' (by simp[g3]) (g1 _)
  have hs:SlotOk w (Fz X E' (σ1.more (V j).t.nl) w) E' (σ1.more (V j).t.nl) (.val ⟨(V j).t,(V j).v,σ1.new (V j).t.nl⟩ none) u:=⟨cs,q6,g2,q7⟩
  have hr1:RelE X E' ((σ1.more (V j).t.nl).put (some (dj j)) (.val ⟨(V j).t,(V j).v,σ1.new (V j).t.nl⟩ none)) A0 w:=by
   have h1:=q1.set (dj j) hs
   by_cases hlt:dj j<A0.size
   ·have:A0[dj j]?=some u:=by
     have h2:A0[dj j]?=some A0[dj j]:=AP hlt
     rw[h2,hu _ h2]
    rwa [set_same0 this] at h1
   ·have:A0.setIfInBounds (dj j) u=A0:=by
     apply B5
     intro i
     by_cases hi:dj j=i
     ·subst hi
      rw[Ac (by rw[AX];omega),Ac (by omega)]
     ·rw[Ax hi]
    rwa [this] at h1
  exact ih hr1 q3 (fun i hi=>hf i (AI _ hi))
end
end Go.Proofs.YtacbkfginiknaaaDoor.V
namespace Go.Proofs.YtacbkfginiknaaaDoor.V
open Go
section
variable {P:Program} {X:Ctx} {E:Env} {σ:St} {A0:Array Value} {a:Act} {w:World} {o:Oper} {R:Type} {ops:Array Oper} {m n:Nat}
def FB (σ σ':St):Prop:=σ'.fr=σ.fr/\σ'.bx=σ.bx
theorem take_nat:∀ {l:List Nat} {σ:St} {k:St->Option R} {r:R},takeK σ l k=some r->∃σ',FB σ σ'/\k σ'=some r/\∀ (R':Type) (k':St->Option R'),takeK σ l k'=k' σ':=by
 intro l
 induction l with
 |nil=>intro σ k r h;exact⟨σ,⟨rfl,rfl⟩,h,fun _ _=>rfl⟩
 |cons τ l ih=>
  intro σ k r h
  simp only[takeK] at h
  cases h1:τ==1 with
  |true=>
   rw[h1] at h
   obtain⟨σ',g1,g2,g3⟩:=ih h
   exact⟨σ',g1,g2,fun R' k'=>by simp only[takeK,h1,cond_true];exact g3 R' k'⟩
  |false=>
   rw[h1] at h
   simp only[cond_false] at h
   cases h2:σ.al.contains τ with
   |false=>rw[h2] at h;simp at h
   |true=>
    rw[h2] at h
    simp only[cond_true] at h
    obtain⟨σ',g1,g2,g3⟩:=ih h
    exact⟨σ',g1,g2,fun R' k'=>by simp only[takeK,h1,cond_false,h2,cond_true];exact g3 R' k'⟩
theorem gather_nat:∀ {ks:List AK} {ss:List Slot} {σ:St} {k:Tup (tysOf ks)->St->Option R} {r:R},noMut ks=true->gatherK ks ss σ k=some r->
  ∃x σ',FB σ σ'/\k x σ'=some r/\∀ (R':Type) (k':Tup (tysOf ks)->St->Option R'),gatherK ks ss σ k'=k' x σ':=by
 intro ks
 induction ks with
 |nil=>
  intro ss σ k r _ h
  cases ss with
  |nil=>exact⟨(),σ,⟨rfl,rfl⟩,h,fun _ _=>rfl⟩
  |cons s ss=>simp[gatherK] at h
 |cons c ks ih=>
  intro ss σ k r hro h
  cases ss with
  |nil=>simp[gatherK] at h
  |cons s ss=>
   simp only[gatherK] at h
   cases c with
   |ro t=>
    simp only[noMut] at hro
    simp only[oneK] at h
    cases hc:coe t s with
    |none=>rw[hc] at h;simp at h
    |some q=>
     obtain⟨v,ms⟩:=q
     rw[hc] at h
     simp only at h
     cases hu:allUs σ ms with
     |false=>rw[hu] at h;simp at h
     |true=>
      rw[hu] at h
      simp only[cond_true] at h
      obtain⟨x,σ',h0,h1,h2⟩:=ih hro h
      refine⟨Tup.cons (t:=t) (r:=tysOf ks) v x,σ',h0,h1,fun R' k'=>?_⟩
      simp only[gatherK,oneK,hc,hu,cond_true]
      exact h2 R' _
   |own t=>
    simp only[noMut] at hro
    simp only[oneK] at h
    cases hc:coe t s with
    |none=>rw[hc] at h;simp at h
    |some q=>
     obtain⟨v,ms⟩:=q
     rw[hc] at h
     simp only at h
     obtain⟨σ1,g0,g1,g2⟩:=take_nat h
     obtain⟨x,σ',h0,h1,h2⟩:=ih hro g1
     refine⟨Tup.cons (t:=t) (r:=tysOf ks) v x,σ',⟨h0.1.trans g0.1,h0.2.trans g0.2⟩,h1,fun R' k'=>?_⟩
     simp only[gatherK,oneK,hc]
     rw[g2]
     exact h2 R' _
   |_=>simp[noMut] at hro
theorem freeze_fb:∀ {l:List Nat} {σ:St},FB σ (σ.freeze l):=by
 intro l
 induction l with
 |nil=>intro σ;exact⟨rfl,rfl⟩
 |cons τ l ih=>
  intro σ
  simp only[St.freeze]
  cases σ.al.contains τ with
  |true=>exact⟨ih.1,ih.2⟩
  |false=>exact ih
theorem more_fb:∀ {j:Nat} {σ:St},FB σ (σ.more j):=by
 intro j
 induction j with
 |zero=>intro σ;exact⟨rfl,rfl⟩
 |succ j ih=>intro σ;exact⟨ih.1,ih.2⟩
theorem res_fb:∀ {rs:List (Ty×Bool)} {x:Tup (resOf rs)} {σ:St},FB σ (resVals rs x σ).2:=by
 intro rs
 induction rs with
 |nil=>intro x σ;exact⟨rfl,rfl⟩
 |cons q rs ih=>
  intro x σ
  obtain⟨t,b⟩:=q
  cases b with
  |true=>
   have h:=ih (x:=Tup.tl x) (σ:=σ.more t.nl)
   exact⟨h.1.trans more_fb.1,h.2.trans more_fb.2⟩
  |false=>exact ih (x:=Tup.tl x) (σ:=σ)
theorem putBack_no:∀ {ks:List AK} {ss:List Slot} {x:Tup (outsOf ks)} {σ:St} {k:St->Option R},noMut ks=true->putBackK ks ss x σ k=k σ:=by
 intro ks
 induction ks with
 |nil=>intro ss x σ k _;cases ss<;>rfl
 |cons c ks ih=>
  intro ss x σ k hm
  cases ss with
  |nil=>rfl
  |cons s ss=>
   cases c with
   |ro t=>exact ih hm
   |own t=>exact ih hm
   |_=>simp[noMut] at hm
theorem call_nat {fn:Fn} {ss:List Slot} {d:Option Tmp} {k:St->Option R} {r:R} (hm:noMut fn.s.args=true) (hbx:fn.s.bx=false) (h:callK fn ss d σ k=some r):
  ∃σ1 s,FB σ σ1/\k (σ1.put d s)=some r/\∀ (R':Type) (k':St->Option R'),callK fn ss d σ k'=k' (σ1.put d s):=by
 unfold callK at h
 rw[hbx] at h
 simp only[cond_false] at h
 unfold lendK at h
 cases hg: !shares fn.s||noPins fn.s.args with
 |false=>rw[hg] at h;simp at h
 |true=>
  rw[hg] at h
  simp only[cond_true] at h
  obtain⟨x,σ1,g0,g1,g2⟩:=gather_nat hm h
  have hf:FB σ (bif shares fn.s then σ.freeze (roToks σ fn.s.args ss) else σ):=by
   cases shares fn.s with
   |true=>exact freeze_fb
   |false=>exact⟨rfl,rfl⟩
  cases hc:noDup (exclOf σ1 fn.s.args ss)&&lentOk σ1 (exclOf σ1 fn.s.args ss) fn.s.args ss with
  |false=>rw[hc] at g1;simp at g1
  |true=>
   rw[hc] at g1
   simp only[Ak,cond_false] at g1
   cases hy:fn.f x with
   |none=>rw[hy] at g1;simp at g1
   |some y=>
    rw[hy] at g1
    simp only[AU,backK] at g1
    rw[putBack_no hm] at g1
    have hb:=res_fb (rs:=fn.s.res) (x:=Tup.fst (a:=resOf fn.s.res) (b:=outsOf fn.s.args) y) (σ:=σ1)
    refine⟨(resVals fn.s.res (Tup.fst (a:=resOf fn.s.res) (b:=outsOf fn.s.args) y) σ1).2,resSlot (resVals fn.s.res (Tup.fst (a:=resOf fn.s.res) (b:=outsOf fn.s.args) y) σ1).1,⟨hb.1.trans (g0.1.trans hf.1),hb.2.trans (g0.2.trans hf.2)⟩,g1,fun R' k'=>?_⟩
    unfold callK
    rw[hbx]
    simp only[cond_false]
    unfold lendK
    rw[hg]
    simp only[cond_true]
    rw[g2]
    simp only[hc,Ak,cond_false,hy,AU,backK]
    rw[putBack_no hm]
theorem ch_nat {T:Tabs} {k:St->Option R} {r:R} (hc:chOp T o=true) (h:stepK T o σ k=some r):
  ∃σ1 s,FB σ σ1/\k (σ1.put o.dst s)=some r/\∀ (R':Type) (k':St->Option R'),stepK T o σ k'=k' (σ1.put o.dst s):=by
 simp only[chOp,A4] at hc
 obtain⟨_,hc⟩:=hc
 split at hc
 ·rename_i f args ats ho
  cases hf:T.F f with
  |none=>rw[hf] at hc;simp at hc
  |some fn=>
   rw[hf] at hc
   simp only[A4,AG] at hc
   simp only[stepK,ho,hf] at h
   obtain⟨σ1,s,g0,g1,g2⟩:=call_nat hc.1 hc.2 h
   exact⟨σ1,s,g0,g1,fun R' k'=>by simp only[stepK,ho,hf];exact g2 R' k'⟩
 ·cases hc
theorem ch_guard {T:Tabs} (hc:chOp T o=true):o.guard=none:=by
 simp only[chOp,A4] at hc
 simpa using hc.1
theorem loose_guard (hc:looseOp o=true):o.guard=none:=by
 simp only[looseOp,bareOp,A8,A4] at hc
 rcases hc with h|h
 ·simpa using h.1
 ·simpa using h.1
theorem loose_slot (T:Tabs) (hT:TabOk P T.T) {k:St->Option R} {r:R} (hl:looseOp o=true) (h:stepK T o σ k=some r) (hr:RelE X E σ a.tmps w):StepSlot P X E σ o a w (fun σ'=>k σ'=some r):=by
 simp only[looseOp,bareOp,A8,A4] at hl
 rcases hl with⟨_,hl⟩|⟨_,hl⟩
 ·split at hl
  ·rename_i ho;exact step_extract T ho h hr
  ·rename_i ho;exact step_move T ho h hr
  ·rename_i ho;exact step_assign T ho h hr
  ·cases hl
 ·split at hl
  ·rename_i ho;exact step_load T hT ho h hr
  ·cases hl
theorem opd_agree {σ2:St} {x:Operand} (hx:x∈o.op.operands) (h:∀t∈o.looksAt ops,σ2.fr.getD t .no=σ.fr.getD t .no):opd σ2 x=opd σ x:=by
 cases x with
 |tmp t=>exact h t (AE _ (An.2 ⟨.tmp t,by simpa using hx,rfl⟩))
 |const v=>
  cases v with
  |slice a l c=>cases a with
   |none=>cases l with
    |zero=>cases c<;>rfl
    |succ l=>rfl
   |some a=>rfl
  |_=>rfl
 |_=>rfl
theorem loose_same {T:Tabs} {k:St->Option R} {r:R} (hl:looseOp o=true) (hp:atPtr o σ=true) (h:stepK T o σ k=some r):
  ∃s,k (σ.put o.dst s)=some r/\∀ (σ2:St),(∀t∈o.looksAt ops,σ2.fr.getD t .no=σ.fr.getD t .no)->σ2.bx=σ.bx->∀ (R':Type) (k':St->Option R'),stepK T o σ2 k'=k' (σ2.put o.dst s):=by
 simp only[looseOp,bareOp,A8,A4] at hl
 rcases hl with⟨_,hl⟩|⟨_,hl⟩
 ·split at hl
  ·rename_i x i ho
   have hx:∀σ2:St,(∀t∈o.looksAt ops,σ2.fr.getD t .no=σ.fr.getD t .no)->opd σ2 x=opd σ x:=fun σ2 h2=>opd_agree (o:=o) (by simp[ho,Op.operands]) h2
   simp only[stepK,ho] at h
   cases hv:opd σ x with
   |tup l=>
    rw[hv] at h
    simp only at h
    cases hi:l[i]? with
    |none=>rw[hi] at h;simp at h
    |some v=>
     rw[hi] at h
     exact⟨_,h,fun σ2 h2 _ R' k'=>by simp only[stepK,ho,hx σ2 h2,hv,hi]⟩
   |_=>rw[hv] at h;simp at h
  ·rename_i x ho
   have hx:∀σ2:St,(∀t∈o.looksAt ops,σ2.fr.getD t .no=σ.fr.getD t .no)->opd σ2 x=opd σ x:=fun σ2 h2=>opd_agree (o:=o) (by simp[ho,Op.operands]) h2
   simp only[stepK,ho] at h
   cases hv:opd σ x with
   |nilsl=>
    rw[hv] at h
    simp only at h
    cases hT:T.T o.type with
    |none=>rw[hT] at h;simp at h
    |some t=>
     cases t with
     |sl e u=>
      rw[hT] at h
      exact⟨_,h,fun σ2 h2 _ R' k'=>by simp only[stepK,ho,hx σ2 h2,hv,hT]⟩
     |_=>rw[hT] at h;simp at h
   |no=>rw[hv] at h;simp at h
   |_=>rw[hv] at h;exact⟨_,h,fun σ2 h2 _ R' k'=>by simp only[stepK,ho,hx σ2 h2,hv]⟩
  ·rename_i x ho
   have hx:∀σ2:St,(∀t∈o.looksAt ops,σ2.fr.getD t .no=σ.fr.getD t .no)->opd σ2 x=opd σ x:=fun σ2 h2=>opd_agree (o:=o) (by simp[ho,Op.operands]) h2
   simp only[stepK,ho] at h
   cases hv:opd σ x with
   |nilsl=>
    rw[hv] at h
    simp only at h
    cases hT:T.T o.type with
    |none=>rw[hT] at h;simp at h
    |some t=>
     cases t with
     |sl e u=>
      rw[hT] at h
      exact⟨_,h,fun σ2 h2 _ R' k'=>by simp only[stepK,ho,hx σ2 h2,hv,hT]⟩
     |_=>rw[hT] at h;simp at h
   |no=>
    rw[hv] at h
    simp only at h
    split at h
    ·exact⟨_,h,fun σ2 h2 _ R' k'=>by simp only[stepK,ho,hx σ2 h2,hv]⟩
    ·cases h
   |_=>rw[hv] at h;exact⟨_,h,fun σ2 h2 _ R' k'=>by simp only[stepK,ho,hx σ2 h2,hv]⟩
  ·cases hl
 ·split at hl
  ·rename_i t x ho
   have hx:∀σ2:St,(∀t∈o.looksAt ops,σ2.fr.getD t .no=σ.fr.getD t .no)->opd σ2 x=opd σ x:=fun σ2 h2=>opd_agree (o:=o) (by simp[ho,Op.operands]) h2
   simp only[stepK,ho] at h
   simp only[atPtr,ho] at hp
   cases hT:T.T t with
   |none=>rw[hT] at h;simp at h
   |some u=>
    rw[hT] at h
    simp only at h
    cases hv:opd σ x with
    |ptr id q p y=>
     rw[hv] at h
     obtain⟨x0,hm,h1,h2,_⟩:=readK_nat h
     cases hb:Ty.beq x0.t u with
     |false=>rw[hb] at h1;simp at h1
     |true=>
      rw[hb] at h1
      refine⟨_,h1,fun σ2 g1 g2 R' k'=>?_⟩
      have hrd:∀ (k2:Val->Option Home->Option R'),readK σ2 (.ptr id q p y) k2=readK σ (.ptr id q p y) k2:=fun k2=>by simp only[readK,St.find,g2]
      simp only[stepK,ho,hx σ2 g1,hv,hT]
      rw[hrd,h2]
      simp only[hb,cond_true]
    |_=>rw[hv] at hp;simp at hp
  ·cases hl
def Ag (T:Tabs) (ops:Array Oper) (σ:St) (i:Nat):Prop:=
 ∃o s,ops[i]?=some o/\looseOp o=true/\(∀ (σ2:St),(∀t∈o.looksAt ops,σ2.fr.getD t .no=σ.fr.getD t .no)->σ2.bx=σ.bx->∀ (R':Type) (k':St->Option R'),stepK T o σ2 k'=k' (σ2.put o.dst s))/\σ.put o.dst s=σ
def Free (ops:Array Oper) (i j:Nat):Prop:=∀oi oj d,ops[i]?=some oi->ops[j]?=some oj->oj.dst=some d->d∉oi.looksAt ops/\oi.dst≠some d
theorem Ag.keep {T:Tabs} {σ1:St} {i j:Nat} {oj:Oper} {s':Slot} (h:Ag T ops σ i) (hfb:FB σ σ1) (hj:ops[j]?=some oj) (hf:Free ops i j):Ag T ops (σ1.put oj.dst s') i:=by
 obtain⟨o,s,h1,h2,h3,h4⟩:=h
 cases hd:oj.dst with
 |none=>
  refine⟨o,s,h1,h2,fun σ2 g1 g2=>h3 σ2 (fun t ht=>by rw[g1 t ht];show σ1.fr.getD t .no=_;rw[hfb.1]) (g2.trans hfb.2),?_⟩
  show σ1.put o.dst s=σ1
  cases ho:o.dst with
  |none=>rfl
  |some e=>
   rw[ho] at h4
   have:σ.fr.set e s=σ.fr:=congrArg St.fr h4
   show({σ1 with fr:=σ1.fr.set e s}:St)=σ1
   rw[hfb.1,this,<-hfb.1]
 |some d=>
  obtain⟨q1,q2⟩:=hf o oj d h1 hj hd
  refine⟨o,s,h1,h2,fun σ2 g1 g2=>h3 σ2 (fun t ht=>?_) (g2.trans hfb.2),?_⟩
  ·rw[g1 t ht]
   show(σ1.fr.set d s').getD t .no=_
   have hne:d≠t:=fun e=>q1 (e▸ht)
   rw[AR,Aq hne,hfb.1,AR]
  ·cases ho:o.dst with
   |none=>rfl
   |some e=>
    rw[ho] at h4
    have he:σ.fr.set e s=σ.fr:=congrArg St.fr h4
    have hne:d≠e:=fun x=>q2 (by rw[ho,x])
    show({σ1 with fr:=(σ1.fr.set d s').set e s}:St)={σ1 with fr:=σ1.fr.set d s'}
    rw[List.set_comm _ _ hne,hfb.1,he]
theorem ls_run (T:Tabs) (hT:TabOk P T.T) {D:Nat->Prop}:∀ {L:List Nat} {R:Type} {σ:St} {k:St->Option R} {r:R} {A:Array Value},lsK T ops L σ k=some r->RelE X E σ A w->(∀i∈L,∃o,ops[i]?=some o/\looseOp o=true/\∀d,o.dst=some d->d∉o.looksAt ops)->
  L.Pairwise (Free ops)->(∀i,D i->Ag T ops σ i)->(∀i,D i->∀j∈L,Free ops i j)->
  ∃σ' A',k σ'=some r/\RelE X E σ' A' w/\A'.size=A.size/\(∀t,(∀i∈L,∀o,ops[i]?=some o->o.dst≠some t)->A'[t]?=A[t]?)/\∀i,D i\/i∈L->Ag T ops σ' i:=by
 intro L
 induction L generalizing D with
 |nil=>intro R σ k r A h hr _ _ hD _;exact⟨σ,A,h,hr,rfl,fun _ _=>rfl,fun i hi=>hD i (hi.resolve_right (fun h=>by cases h))⟩
 |cons j L ih=>
  intro R σ k r A h hr hl hp hD hf
  obtain⟨o,ho,hlo,hown⟩:=hl j AN
  simp only[lsK,ho] at h
  cases hat:atPtr o σ with
  |false=>rw[hat] at h;simp at h
  |true=>
   rw[hat] at h
   simp only[cond_true] at h
   obtain⟨s,h1,h2⟩:=loose_same (ops:=ops) hlo hat h
   have h3:stepK T o σ some=some (σ.put o.dst s):=h2 σ (fun _ _=>rfl) rfl St some
   obtain⟨v,_,s0,g1,g2⟩:=loose_slot (P:=P) (a:=⟨A,[]⟩) T hT hlo h3 hr
   have hr1:=RelE.put (a:=⟨A,[]⟩) hr o.dst g2
   rw[A3 g1] at hr1
   have hpw:=List.pairwise_cons.1 hp
   have hself:Ag T ops (σ.put o.dst s) j:=by
    refine⟨o,s,ho,hlo,fun σ2 k1 k2=>h2 σ2 (fun t ht=>?_) (k2.trans ?_),?_⟩
    ·rw[k1 t ht]
     cases hd:o.dst with
     |none=>rfl
     |some d=>
      have hne:d≠t:=fun e=>hown d hd (e▸ht)
      show(σ.fr.set d s).getD t .no=_
      rw[AR,Aq hne,AR]
    ·cases o.dst<;>rfl
    ·cases o.dst with
     |none=>rfl
     |some d=>show({σ with fr:=(σ.fr.set d s).set d s}:St)=_;rw[List.set_set];rfl
   obtain⟨σ',A',q1,q2,q3,q4,q5⟩:=ih (D:=fun i=>D i\/i=j) h1 hr1 (fun i hi=>hl i (AI _ hi)) hpw.2 (fun i hi=>by
     rcases hi with hi|rfl
     ·exact(hD i hi).keep ⟨rfl,rfl⟩ ho (hf i hi j AN)
     ·exact hself) (fun i hi i' hi'=>by
     rcases hi with hi|rfl
     ·exact hf i hi i' (AI _ hi')
     ·exact hpw.1 i' hi')
   refine⟨σ',A',q1,q2,q3.trans (put_size (a:=⟨A,[]⟩) _ _),fun t ht=>?_,fun i hi=>q5 i ?_⟩
   ·rw[q4 t (fun i hi=>ht i (AI _ hi))]
    exact put_other (a:=⟨A,[]⟩) _ _ _ (fun e=>ht j AN o ho e.symm)
   ·rcases hi with hi|hi
    ·exact .inl (.inl hi)
    ·rcases AS.1 hi with hi|hi
     ·exact .inl (.inr hi)
     ·exact .inr hi
theorem wp_ghost {Q:Exit->Act->World->Prop} (hQp:∀c a w,¬Q (.panic c) a w) {a':Act} (he:execOp a'.eval o=execOp a.eval o) {K:Act->World->Prop} (hd:∀a1 w1,K a1 w1->a1.defers=a.defers) (h:o.wp P a w K Q):
  o.wp P a' w (fun a2 w2=>∃v,a2=a'.put o.dst v/\K (a.put o.dst v) w2) Q:=by
 unfold Oper.wp at *
 rw[he]
 generalize (execOp a.eval o).run P w=r at *
 cases r with
 |ok nx w'=>
  cases nx with
  |value u=>exact⟨u,rfl,h⟩
  |skip=>exact⟨undef,rfl,h⟩
  |defer d=>
   have:=hd _ _ h
   rw[put_defers] at this
   have h2:=congrArg List.length this
   simp at h2
  |enter f args=>
   refine Calls.mono h fun e w'' he=>?_
   cases e with
   |returned u=>exact⟨u,rfl,he⟩
   |panicked c=>exact absurd he (hQp _ _ _)
   |outgrown=>exact he
  |row row args=>exact Rows.mono h fun u w'' he=>⟨u,rfl,he⟩
  |_=>exact h
 |halt x w'=>
  cases x with
  |panic u=>exact absurd h (hQp _ _ _)
  |_=>exact h
theorem exec_agree {a':Act} (hs:∀cs b,o.op≠ .select cs b) (h:∀t∈o.looksAt ops,a'.tmps[t]?=a.tmps[t]?):execOp a'.eval o=execOp a.eval o:=
 execOp_congr o hs fun x hx=>by
  cases x with
  |tmp t=>
   have:=h t (AE _ (An.2 ⟨.tmp t,by simpa using hx,rfl⟩))
   show a'.tmps.getD t undef=a.tmps.getD t undef
   rw[AC,AC,this]
  |_=>rfl
theorem mix_parts {ops:Array Oper} {m n:Nat} (hB:mixB ops m n=true):(n<=ops.size/\BA ops=true/\tailB ops n=true)/\
  ∀i,i<n->∃o d,ops[i]?=some o/\o.dst=some d/\(∀e∈o.after,Ar .any e=true->e.on<i)/\(∀j p,j<n->j≠i->ops[j]?=some p->p.dst≠some d)/\
   (i<m->∀j p t,j<n->ops[j]?=some p->p.dst=some t->t∈o.looksAt ops->j<i/\A5 .any ops i j=true)/\
   (n<ops.size->(lateB ops m n i=true->bareOp o=true/\∀j p,ops[j]?=some p->j≠i->A5 .any ops j i=true\/A5 .any ops i j=true\/o.apart ops p=true)/\
    (lateB ops m n i=false->∃j,j<=n/\i<j/\A5 .any ops j i=true/\(j=n\/lateB ops m n j=false))):=by
 simp only[mixB,A4,decide_eq_true_eq,AJ,A6] at hB
 obtain⟨⟨⟨⟨hsel,hmn⟩,hns⟩,hops⟩,htail⟩:=hB
 refine⟨⟨hns,hsel,htail⟩,?_⟩
 intro i hi
 have h:=hops i hi
 cases ho:ops[i]? with
 |none=>rw[ho] at h;simp at h
 |some o=>
  rw[ho] at h
  simp only[A4,AJ,A6] at h
  obtain⟨⟨⟨⟨h1,h2⟩,h3⟩,h4⟩,h5⟩:=h
  cases hd:o.dst with
  |none=>rw[hd] at h1;simp at h1
  |some d=>
   refine⟨o,d,rfl,hd,fun e he hb=>?_,fun j p hj hne hp he=>?_,fun him j p t hj hp ht hl=>?_,fun hlt=>?_⟩
   ·have:=Am.1 h2 e he
    simp only[hb,Ak,B6,decide_eq_true_eq] at this
    exact this
   ·have:=h3 j hj
    rw[hp] at this
    simp only[A8,beq_iff_eq,AG,beq_eq_false_iff_ne,ne_eq] at this
    rcases this with h|h
    ·exact hne h
    ·exact h (he.trans hd.symm)
   ·simp only[A8,decide_eq_true_eq,AJ,A6] at h4
    rcases h4 with h|h
    ·omega
    ·have:=h j hj
     rw[hp] at this
     simp only[AU,ht,A8,AG,A4,decide_eq_true_eq] at this
     rcases this with h|h
     ·simp[Af,hl] at h
     ·exact⟨h.1.2,h.2⟩
   ·have h6:(bif lateB ops m n i then bareOp o&&(AV ops.size).all (fun j=>j==i||A5 .any ops j i||A5 .any ops i j||(match ops[j]? with|some p=>o.apart ops p|none=>true))
      else(AV (n+1)).any (fun j=>decide (i<j)&&A5 .any ops j i&&(j==n|| !lateB ops m n j)))=true:=by
     rcases A8 _ _▸h5 with h|h
     ·have:n=ops.size:=by simpa using h
      omega
     ·exact h
    refine⟨fun hla=>?_,fun hla=>?_⟩
    ·rw[hla] at h6
     simp only[cond_true,A4,AJ,A6] at h6
     refine⟨h6.1,fun j p hp hne=>?_⟩
     have:=h6.2 j (AD.1 hp).1
     rw[hp] at this
     simp only[A8,beq_iff_eq] at this
     rcases this with((h|h)|h)|h
     ·exact absurd h hne
     ·exact .inl h
     ·exact .inr (.inl h)
     ·exact .inr (.inr h)
    ·rw[hla] at h6
     simp only[cond_false,B0,A6,A4,decide_eq_true_eq,A8,beq_iff_eq,AG] at h6
     obtain⟨j,h7,⟨h8,h9⟩,h10⟩:=h6
     exact⟨j,by omega,h8,h9,h10⟩
theorem any_late {I:Array Bool->Act->World->Prop} {Q:Exit->Act->World->Prop} (hQp:∀c a w,¬Q (.panic c) a w) (hB:mixB ops m n=true) (hI:∀l a w,I l a w->HeadInv .any ops n l)
  (hstep:∀l a w i K,I l a w->i∈AH .any ops l->i<n->(∀a2 w2,I (l.setIfInBounds i true) a2 w2->K a2 w2)->wpOp P ops Q i K a w)
  (hlate:∀l a w i o,I l a w->i∈AH .any ops l->i<m->ops[i]?=some o->bareOp o=true->∃v,Yields P ops o v a/\I (l.setIfInBounds i true) (a.put o.dst v) w)
  (hQ:∀l a w,(∀i,i<n->l.getD i false=true)->I l a w->wpOps P ops Q (BB n (ops.size-n)) a w):
  ∀ (k:Nat) (listed:Array Bool) (a':Act) (w':World),(AV n).countP (fun i=> !listed.getD i true)=k->I listed a' w'->wpAny P .any ops Q (k+(ops.size-n)) listed a' w':=by
 obtain⟨⟨hn,hsel,hseq⟩,hop⟩:=mix_parts hB
 intro k
 induction k with
 |zero=>
  intro listed a' w' hk inv
  have hh:=hI _ _ _ inv
  have hall:∀i,i<n->listed.getD i false=true:=by
   intro i hi
   refine listed_of_not (by rw[hh.size];omega) (fun h=>?_)
   have:=Av.1 hk i (A6.2 hi)
   simp[h] at this
  rw[Ao]
  exact any_of_tail hQp hsel hn hseq hh hall (hQ listed a' w' hall inv)
 |succ k ih=>
  intro listed a' w' hk inv
  have hh:=hI _ _ _ inv
  rw[show k+1+(ops.size-n)=(k+(ops.size-n))+1 by omega]
  have hex:∃i,i<n/\listed.getD i true=false:=by
   obtain⟨i,hi,h⟩:=Aw.1 (show 0<(AV n).countP (fun i=> !listed.getD i true) by omega)
   exact⟨i,A6.1 hi,by simpa using h⟩
  have hmin:∃i,i<n/\listed.getD i true=false/\i∈AH .any ops listed:=by
   obtain⟨i,hi,h⟩:=hex
   induction i using B3 with
   |_ i ihi=>
    by_cases hlow:∃j,j<i/\listed.getD j true=false
    ·obtain⟨j,hj,hj2⟩:=hlow
     exact ihi j hj (by omega) hj2
    ·obtain⟨o,d,e1,_,e3,_⟩:=hop i hi
     refine⟨i,hi,h,mem_ready.2 ⟨h,o,e1,fun e he hb=>?_⟩⟩
     have hlt:=e3 e he hb
     exact listed_of_not (by rw[hh.size];omega) (fun hn=>hlow ⟨e.on,hlt,hn⟩)
  have hcount:∀i,i<n->listed.getD i true=false->(AV n).countP (fun j=> !(listed.setIfInBounds i true).getD j true)=k:=by
   intro i hin hun
   have:=countP_one (f:=fun j=> !listed.getD j true) (g:=fun j=> !(listed.setIfInBounds i true).getD j true) (i:=i) (B1) (A6.2 hin) (by simp only[hun];rfl)
    (by
     have hlt:i<listed.size:=by rw[hh.size];omega
     simp[AC,hlt])
    (fun j _ hj=>by
     have:=getD_set_ne (listed:=listed) true (Ne.symm hj)
     simp only[this])
   omega
  by_cases hlt:∃i,i<n/\i∈AH .any ops listed/\n<ops.size/\lateB ops m n i=true
  ·obtain⟨i,hin,hi,hns,hla⟩:=hlt
   obtain⟨o,d,e1,e2,e3,e4,e5,e6⟩:=hop i hin
   obtain⟨hba,hap⟩:=(e6 hns).1 hla
   have him:i<m:=by simp only[lateB,A4,decide_eq_true_eq] at hla;exact hla.1
   obtain⟨v,hy,hI2⟩:=hlate listed a' w' i o inv hi him e1 hba
   have hun:=(mem_ready.1 hi).1
   refine wpAny_first e1 (fun j oj cs b hj=>AY hsel j oj cs b hj) (fun c a w h=>absurd h (hQp c _ w)) _ _ _ _ (fun j oj hj hji hju hno=>?_) hi hy (ih _ _ _ (hcount i hin hun) hI2)
   rcases hap j oj hj hji with h|h|h
   ·obtain⟨o',ho',e,he,hb,hon⟩:=AL h
    rw[hj] at ho'
    have:=A3 ho'
    subst this
    exact absurd hon (hno e he hb)
   ·obtain⟨o',ho',e,he,hb,hon⟩:=AL h
    obtain⟨_,o2,ho2,hw2⟩:=mem_ready.1 hi
    rw[ho'] at ho2
    have:=A3 ho2
    subst this
    have h1:=hw2 e he hb
    rw[hon,getD_both hju] at h1
    cases h1
   ·exact h
  ·refine⟨fun h=>?_,fun i hi=>?_⟩
   ·obtain⟨i,_,_,hi⟩:=hmin
    rw[h] at hi;cases hi
   ·have hin:i<n:=by
     obtain⟨_,oi,hoi,_⟩:=mem_ready.1 hi
     have hlt':i<ops.size:=(AD.1 hoi).1
     rcases Ah i n with h|h
     ·exact h
     ·obtain⟨j,hj,hj2,hj3⟩:=hmin
      have hns:n<ops.size:=by omega
      have hnl:lateB ops m n j=false:=by
       cases hl:lateB ops m n j with
       |false=>rfl
       |true=>exact absurd ⟨j,hj,hj3,hns,hl⟩ hlt
      exact absurd hi (tail_waits2 (fun i hi hl=>((hop i hi).choose_spec.choose_spec.2.2.2.2.2 hns).2 hl) hseq hns hh _ j rfl hj hnl hj2 i h)
    exact hstep listed a' w' i _ inv hi hin (fun a2 w2 h=>ih _ _ _ (hcount i hin (mem_ready.1 hi).1) h)
structure ChOk (T:Tabs) (ops:Array Oper) (m n:Nat) (nd:List Nat):Prop where
 mn:m<=n
 mix:mixB ops m n=true
 kind:∀i,i<m->∃o,ops[i]?=some o/\(chOp T o=true\/chOp T o=false/\looseOp o=true)
 c1:∀ (q i:Nat),(chL T ops m)[q]?=some i->nd.getD i 0=q+1
 c2:∀i,i<m->chAt T ops i=false->nd.getD i 0=0\/∃j,j<m/\A5 .any ops i j=true/\nd.getD j 0=nd.getD i 0
 c3:∀i,i<m->chAt T ops i=false->∀j,j<m->A5 .any ops i j=true->nd.getD j 0<=nd.getD i 0
 c4:∀i,i<m->chAt T ops i=true->∀j,j<i->chAt T ops j=true->A5 .any ops i j=true
theorem ch_ok {T:Tabs} {nd:List Nat} (h:chB T ops m n nd=true):ChOk T ops m n nd:=by
 simp only[chB,A4,AJ,A6] at h
 obtain⟨⟨hB,h1⟩,h2⟩:=h
 have hmn:m<=n:=by
  simp only[mixB,A4,decide_eq_true_eq] at hB
  exact hB.1.1.1.2
 have hk:∀i,i<m->∃o,ops[i]?=some o/\(chOp T o=true/\(∀j,j<i->chAt T ops j=false\/A5 .any ops i j=true)\/
   chOp T o=false/\looseOp o=true/\(nd.getD i 0=0\/∃j,j<m/\A5 .any ops i j=true/\nd.getD j 0=nd.getD i 0)/\∀j,j<m->A5 .any ops i j=true->nd.getD j 0<=nd.getD i 0):=by
  intro i hi
  have h3:=h2 i hi
  cases ho:ops[i]? with
  |none=>rw[ho] at h3;simp at h3
  |some o=>
   rw[ho] at h3
   simp only at h3
   refine⟨o,rfl,?_⟩
   cases hc:chOp T o with
   |true=>
    rw[hc] at h3
    simp only[cond_true,AJ,A6,A8,AG] at h3
    exact .inl ⟨rfl,h3⟩
   |false=>
    rw[hc] at h3
    simp only[cond_false,A4,AJ,A6,A8,AG,B0,beq_iff_eq,decide_eq_true_eq] at h3
    refine .inr ⟨rfl,h3.1.1,h3.1.2,fun j hj hw=>?_⟩
    rcases h3.2 j hj with h|h
    ·rw[hw] at h;cases h
    ·exact h
 refine⟨hmn,hB,fun i hi=>?_,fun q i hq=>?_,fun i hi hc=>?_,fun i hi hc=>?_,fun i hi hc j hj hcj=>?_⟩
 ·obtain⟨o,ho,h|h⟩:=hk i hi
  ·exact⟨o,ho,.inl h.1⟩
  ·exact⟨o,ho,.inr ⟨h.1,h.2.1⟩⟩
 ·have:=h1 (i,q) (by rw[List.mem_zipIdx_iff_getElem?];exact hq)
  simpa using this
 ·obtain⟨o,ho,h|h⟩:=hk i hi
  ·simp only[chAt,ho] at hc;rw[hc] at h;cases h.1
  ·exact h.2.2.1
 ·obtain⟨o,ho,h|h⟩:=hk i hi
  ·simp only[chAt,ho] at hc;rw[hc] at h;cases h.1
  ·exact h.2.2.2
 ·obtain⟨o,ho,h|h⟩:=hk i hi
  ·rcases h.2 j hj with h1|h1
   ·rw[hcj] at h1;cases h1
   ·exact h1
  ·simp only[chAt,ho] at hc;rw[hc] at h;cases h.1
structure CInv (T:Tabs) (X:Ctx) (ops:Array Oper) (m n:Nat) (nd:List Nat) (inf:Nat->Tmp×Array Value×TypeId) (k:St->Option R) (r:R) (a:Act) (w:World) (p:Nat) (σp:St) (Ap:Array Value) (Ep:Env) (bl:Nat->Nat) (l:List Nat) (listed:Array Bool) (a':Act) (w':World):Prop where
 head:HeadInv .any ops n listed
 rel:RelE X (Ep.outs (l++Ep.out)) σp Ap w'
 asz:Ap.size=a.tmps.size
 hsz:w.heap.size<=w'.heap.size
 dfr:a'.defers=a.defers
 siz:a'.tmps.size=a.tmps.size
 oth:∀t,(∀i o,i<n->ops[i]?=some o->o.dst≠some t)->a'.tmps[t]?=a.tmps[t]?
 oth2:∀t,(∀i o,i<m->ops[i]?=some o->o.dst≠some t)->Ap[t]?=a.tmps[t]?
 agr:∀i o d,i<m->ops[i]?=some o->o.dst=some d->listed.getD i false=true->a'.tmps[d]?=Ap[d]?
 cnt1:∀i,i<m->listed.getD i false=true->nd.getD i 0<=p
 cnt2:∀ (q i:Nat),(chL T ops m)[q]?=some i->q<p->listed.getD i false=true
 ple:p<=(chL T ops m).length
 run:chK T ops nd m ((chL T ops m).drop p) (p+1) σp k=some r
 again:∀i,i<m->chAt T ops i=false->nd.getD i 0<=p->Ag T ops σp i
 new:∀i,m<=i->i<n->listed.getD i false=true->(∀b:Act,b.tmps.size=a.tmps.size->a'.tmps[(inf i).1]?=(b.put (some (inf i).1) (.pointer (some ⟨bl i,0,none⟩))).tmps[(inf i).1]?)/\
  w.heap.size<=bl i/\bl i<w'.heap.size/\w'.heap[bl i]?=some (.cells (inf i).2.1 (inf i).2.2 (0,0))
 inj:∀i j,m<=i->i<n->m<=j->j<n->listed.getD i false=true->listed.getD j false=true->bl i=bl j->i=j
 lfr:∀b∈l,w.heap.size<=b/\b<w'.heap.size
 lmem:∀i,m<=i->i<n->listed.getD i false=true->bl i∈l
section
variable {T:Tabs} {nd:List Nat} {inf:Nat->Tmp×Array Value×TypeId} {k:St->Option R} {r:R} {p:Nat} {σp:St} {Ap:Array Value} {Ep:Env} {bl:Nat->Nat} {l:List Nat} {listed:Array Bool} {a':Act} {w':World}
theorem ch_mem {i:Nat} (hi:i<m) (hc:chAt T ops i=true):∃q:Nat,(chL T ops m)[q]?=some i:=
 List.getElem?_of_mem (Ae.2 ⟨A6.2 hi,hc⟩)
theorem ch_at {i q:Nat} (h:(chL T ops m)[q]?=some i):i<m/\chAt T ops i=true:=by
 have:=Ae.1 (List.mem_of_getElem? h)
 exact⟨A6.1 this.1,this.2⟩
theorem CInv.ready (H:ChOk T ops m n nd) (inv:CInv T X ops m n nd inf k r a w p σp Ap Ep bl l listed a' w') {i:Nat} (hi:i∈AH .any ops listed) (him:i<m):
  (chAt T ops i=false->nd.getD i 0<=p)/\(chAt T ops i=true->(chL T ops m)[p]?=some i):=by
 obtain⟨hun,oi,hoi,hwait⟩:=mem_ready.1 hi
 have hw:∀j,A5 .any ops i j=true->listed.getD j false=true:=by
  intro j hj
  obtain⟨o2,ho2,e,he,hb,hon⟩:=AL hj
  rw[hoi] at ho2
  have:=A3 ho2
  subst this
  have:=hwait e he hb
  rwa [hon] at this
 refine⟨fun hc=>?_,fun hc=>?_⟩
 ·rcases H.c2 i him hc with h|⟨j,hj,hwj,hnd⟩
  ·omega
  ·rw[<-hnd];exact inv.cnt1 j hj (hw j hwj)
 ·obtain⟨q,hq⟩:=ch_mem (m:=m) him hc
  have hnp:¬q<p:=fun h=>by
   have:=inv.cnt2 q i hq h
   rw[getD_both hun] at this
   cases this
  have hqp:¬p<q:=fun h=>by
   have hlt:p<(chL T ops m).length:=by
    have:=(AT.1 hq).1
    omega
   have hpj:(chL T ops m)[p]?=some (chL T ops m)[p]:=List.getElem?_eq_getElem hlt
   obtain⟨hjm,hjc⟩:=ch_at hpj
   have hji:(chL T ops m)[p]<i:=by
    have hs:(chL T ops m).Pairwise (·<·):=BK.filter _ BI
    have hql:q<(chL T ops m).length:=(AT.1 hq).1
    have:=List.pairwise_iff_getElem.1 hs p q hlt hql h
    rwa [(AT.1 hq).2] at this
   have h1:=hw _ (H.c4 i him hc _ hji hjc)
   have h2:=inv.cnt1 _ hjm h1
   rw[H.c1 p _ hpj] at h2
   omega
  rw[show p=q by omega];exact hq
theorem CInv.looks (H:ChOk T ops m n nd) (inv:CInv T X ops m n nd inf k r a w p σp Ap Ep bl l listed a' w') {i:Nat} {o:Oper} (hi:i∈AH .any ops listed) (him:i<m) (ho:ops[i]?=some o):
  ∀t∈o.looksAt ops,a'.tmps[t]?=Ap[t]?:=by
 obtain⟨_,hop⟩:=mix_parts H.mix
 have hmn:=H.mn
 obtain⟨hun,oi,hoi,hwait⟩:=mem_ready.1 hi
 rw[ho] at hoi
 have:=A3 hoi
 subst this
 intro t ht
 obtain⟨o',d,e1,e2,e3,e4,e5,e6⟩:=hop i (by omega)
 rw[ho] at e1
 have:=A3 e1
 subst this
 by_cases hw:∃j q,j<n/\ops[j]?=some q/\q.dst=some t
 ·obtain⟨j,q,hj,hq,hd⟩:=hw
  obtain⟨hji,hwj⟩:=e5 him j q t hj hq hd ht
  obtain⟨o2,ho2,e,he,hb,hon⟩:=AL hwj
  rw[ho] at ho2
  have:=A3 ho2
  subst this
  have hl:=hwait e he hb
  rw[hon] at hl
  exact inv.agr j q t (by omega) hq hd hl
 ·have h1:∀i o,i<n->ops[i]?=some o->o.dst≠some t:=fun j q hj hq he=>hw ⟨j,q,hj,hq,he⟩
  rw[inv.oth t h1,inv.oth2 t (fun j q hj hq=>h1 j q (by omega) hq)]
theorem CInv.put (H:ChOk T ops m n nd) (inv:CInv T X ops m n nd inf k r a w p σp Ap Ep bl l listed a' w') {i:Nat} {o:Oper} {v:Value} {w2:World} (hi:i∈AH .any ops listed) (him:i<m) (ho:ops[i]?=some o)
  {p2:Nat} {σ2:St} {A2:Array Value} {E2:Env} (hnews:∀j,m<=j->j<n->∃q,ops[j]?=some q/\q.dst=some (inf j).1)
  (hsz:w'.heap.size<=w2.heap.size) (hl:∀b∈l,w2.heap[b]?=w'.heap[b]?) (hrel:RelE X (E2.outs (l++E2.out)) σ2 A2 w2) (hA:A2.size=Ap.size) (hput:∀d,o.dst=some d->A2[d]?=(Ap.setIfInBounds d v)[d]?)
  (hA2:∀t,(∀j q,j<m->ops[j]?=some q->(j=i\/listed.getD j false=false)->q.dst≠some t)->A2[t]?=Ap[t]?) (hp:p<=p2) (hpi:nd.getD i 0<=p2) (hp2:∀ (q j:Nat),(chL T ops m)[q]?=some j->q<p2->q<p\/j=i) (hple:p2<=(chL T ops m).length)
  (hrun:chK T ops nd m ((chL T ops m).drop p2) (p2+1) σ2 k=some r) (hag:∀j,j<m->chAt T ops j=false->nd.getD j 0<=p2->Ag T ops σ2 j):
  CInv T X ops m n nd inf k r a w p2 σ2 A2 E2 bl l (listed.setIfInBounds i true) (a'.put o.dst v) w2:=by
 obtain⟨_,hop⟩:=mix_parts H.mix
 have hmn:=H.mn
 have hun:=(mem_ready.1 hi).1
 obtain⟨o',d,e1,hd,e3,e4,e5,e6⟩:=hop i (by omega)
 rw[ho] at e1
 have:=A3 e1
 subst this
 have hself:(listed.setIfInBounds i true).getD i false=true:=by
  have hlt:i<listed.size:=by rw[inv.head.size];have:=(AD.1 ho).1;omega
  simp[AC,hlt]
 have hoput:∀t,t≠d->(a'.put o.dst v).tmps[t]?=a'.tmps[t]?:=fun t ht=>put_other _ _ t (fun e=>ht (by rw[hd] at e;exact A3 e))
 refine⟨inv.head.set hi (by omega),hrel,hA.trans inv.asz,Ab inv.hsz hsz,(put_defers _ _).trans inv.dfr,(put_size _ _).trans inv.siz,fun t ht=>?_,fun t ht=>?_,fun j q t hj hq ht hlj=>?_,fun j hj hlj=>?_,fun q j hq hqp=>?_,hple,hrun,hag,fun j h1 h2 hlj=>?_,fun j j2 h1 h2 h3 h4 h5 h6=>?_,fun b hb=>⟨(inv.lfr b hb).1,AB (inv.lfr b hb).2 hsz⟩,fun j h1 h2 hlj=>inv.lmem j h1 h2 (listed_set hlj (by omega))⟩
 ·rw[hoput t (fun e=>ht i o (by omega) ho (by rw[hd,e]))]
  exact inv.oth t ht
 ·rw[hA2 t (fun j q hj hq _=>ht j q hj hq)]
  exact inv.oth2 t ht
 ·by_cases hji:j=i
  ·subst hji
   rw[ho] at hq
   have:=A3 hq
   subst this
   rw[hd] at ht
   have:=A3 ht
   subst this
   rw[hput d hd,hd]
   simp only[Act.put]
   by_cases hlt:d<a'.tmps.size
   ·rw[AQ hlt,AQ (by rw[inv.asz,<-inv.siz];exact hlt)]
   ·rw[Ac (by rw[AX];exact Au hlt),Ac (by rw[AX,inv.asz,<-inv.siz];exact Au hlt)]
  ·have hlj':=listed_set hlj hji
   have hne:t≠d:=fun e=>e4 j q (by omega) hji hq (by rw[ht,e])
   rw[hoput t hne,inv.agr j q t hj hq ht hlj',hA2 t (fun j2 q2 hj2 hq2 hor he=>?_)]
   obtain⟨_,dj,f1,f2,_,f4,_⟩:=hop j (by omega)
   rw[hq] at f1
   have:=A3 f1
   subst this
   rw[ht] at f2
   have:=A3 f2
   subst this
   have hjj:j2=j:=BC fun h=>f4 j2 q2 (by omega) h hq2 he
   subst hjj
   rcases hor with h|h
   ·exact hji h
   ·rw[hlj'] at h;cases h
 ·by_cases hji:j=i
  ·subst hji;exact hpi
  ·exact Ab (inv.cnt1 j hj (listed_set hlj hji)) hp
 ·rcases hp2 q j hq hqp with h|h
  ·exact getD_set_true (inv.cnt2 q j hq h)
  ·rw[h];exact hself
 ·obtain⟨n1,n2,n3,n4⟩:=inv.new j h1 h2 (listed_set hlj (by omega))
  obtain⟨q,hq,hqd⟩:=hnews j h1 h2
  refine⟨fun b hb=>?_,n2,AB n3 hsz,(hl _ (inv.lmem j h1 h2 (listed_set hlj (by omega)))).trans n4⟩
  rw[hoput _ (fun e=>e4 j q h2 (by omega) hq (by rw[hqd,e]))]
  exact n1 b hb
 ·exact inv.inj j j2 h1 h2 h3 h4 (listed_set h5 (by omega)) (listed_set h6 (by omega))
theorem CInv.loose (hT:TabOk P T.T) (H:ChOk T ops m n nd) (inv:CInv T X ops m n nd inf k r a w p σp Ap Ep bl l listed a' w') {i:Nat} {o:Oper} (hi:i∈AH .any ops listed) (him:i<m) (ho:ops[i]?=some o) (hlo:looseOp o=true) (hc:chAt T ops i=false)
  (hnews:∀j,m<=j->j<n->∃q,ops[j]?=some q/\q.dst=some (inf j).1):
  ∃v,FixV P ops o a' w' v/\∀w2,Ext w' w2->∃A2,CInv T X ops m n nd inf k r a w p σp A2 Ep bl l (listed.setIfInBounds i true) (a'.put o.dst v) w2:=by
 obtain⟨⟨_,hsel,_⟩,hop⟩:=mix_parts H.mix
 have hmn:=H.mn
 obtain⟨_,d,e1,hd,e3,e4,e5,e6⟩:=hop i (by omega)
 rw[ho] at e1
 have:=A3 e1
 subst this
 have hle:=(inv.ready H hi him).1 hc
 obtain⟨o2,s,h1,h2,h3,h4⟩:=inv.again i him hc hle
 rw[ho] at h1
 have:=A3 h1
 subst this
 have hst:stepK T o σp some=some σp:=by
  have:=h3 σp (fun _ _=>rfl) rfl St some
  rwa [h4] at this
 obtain⟨v,g1,s0,g2,g3⟩:=loose_slot (P:=P) (a:=⟨Ap,a'.defers⟩) T hT hlo hst inv.rel
 have hag:=inv.looks H hi him ho
 have hex:execOp a'.eval o=execOp (Act.eval ⟨Ap,a'.defers⟩) o:=exec_agree (ops:=ops) (a:=⟨Ap,a'.defers⟩) (fun cs b=>AY hsel i o cs b ho) hag
 refine⟨v,.inl ⟨by simp[AO,loose_guard hlo],fun w2 hx=>?_⟩,fun w2 hx=>⟨Ap.setIfInBounds d v,?_⟩⟩
 ·rw[hex,g1 w2 hx];exact⟨rfl,rfl⟩
 ·have hr2:=RelE.put (a:=⟨Ap,a'.defers⟩) inv.rel o.dst g3
  rw[A3 g2,hd] at hr2
  refine inv.put H hi him ho hnews hx.size (fun b hb=>hx.block b (inv.lfr b hb).2) (hr2.ext hx) (by simp) (fun d' hd'=>?_) (fun t ht=>?_) (AW p) hle (fun q j _ hq=>.inl hq) inv.ple inv.run inv.again
  ·rw[hd] at hd'
   have:=A3 hd'
   subst this
   rfl
  ·rw[Ax]
   intro e
   exact ht i o him ho (.inl rfl) (by rw[hd,e])
theorem free_of (H:ChOk T ops m n nd) {i j:Nat} (him:i<m) (hjm:j<m) (hne:i≠j) (hnw:A5 .any ops i j=false\/i<=j):Free ops i j:=by
 obtain⟨_,hop⟩:=mix_parts H.mix
 have hmn:=H.mn
 intro oi oj d hoi hoj hd
 obtain⟨_,di,e1,e2,e3,e4,e5,e6⟩:=hop i (by omega)
 rw[hoi] at e1
 have:=A3 e1
 subst this
 refine⟨fun ht=>?_,fun he=>?_⟩
 ·obtain⟨h1,h2⟩:=e5 him j oj d (by omega) hoj hd ht
  rcases hnw with h|h
  ·rw[h2] at h;cases h
  ·omega
 ·rw[he] at e2
  have:=A3 e2
  subst this
  exact e4 j oj (by omega) (Ne.symm hne) hoj hd
theorem ls_mem {q i:Nat} (h:i∈lsAt T ops nd m q):i<m/\chAt T ops i=false/\nd.getD i 0=q:=by
 simp only[lsAt,Ae,A6,A4,AG,beq_iff_eq] at h
 exact⟨h.1,h.2.1,h.2.2⟩
theorem ls_stage (hT:TabOk P T.T) (H:ChOk T ops m n nd) {q:Nat} {σ:St} {A:Array Value} {R':Type} {k':St->Option R'} {r':R'} (h:lsK T ops (lsAt T ops nd m q) σ k'=some r') (hr:RelE X E σ A w) (hag:∀i,i<m->chAt T ops i=false->nd.getD i 0<q->Ag T ops σ i):
  ∃σ' A',k' σ'=some r'/\RelE X E σ' A' w/\A'.size=A.size/\(∀t,(∀i o,i<m->chAt T ops i=false->nd.getD i 0=q->ops[i]?=some o->o.dst≠some t)->A'[t]?=A[t]?)/\∀i,i<m->chAt T ops i=false->nd.getD i 0<=q->Ag T ops σ' i:=by
 obtain⟨_,hop⟩:=mix_parts H.mix
 have hmn:=H.mn
 have hlo:∀i,i<m->chAt T ops i=false->∃o,ops[i]?=some o/\looseOp o=true:=by
  intro i hi hc
  obtain⟨o,ho,h|h⟩:=H.kind i hi
  ·simp only[chAt,ho] at hc;rw[hc] at h;cases h
  ·exact⟨o,ho,h.2⟩
 obtain⟨σ',A',g1,g2,g3,g4,g5⟩:=ls_run (P:=P) (D:=fun i=>i<m/\chAt T ops i=false/\nd.getD i 0<q) T hT h hr (fun i hi=>by
  obtain⟨h1,h2,h3⟩:=ls_mem hi
  obtain⟨o,ho,hl⟩:=hlo i h1 h2
  refine⟨o,ho,hl,fun d hd ht=>?_⟩
  obtain⟨_,_,e1,_,_,_,e5,_⟩:=hop i (by omega)
  rw[ho] at e1
  have:=A3 e1
  subst this
  have:=(e5 h1 i o d (by omega) ho hd ht).1
  omega) (by
  have hs:(lsAt T ops nd m q).Pairwise (·<·):=BK.filter _ BI
  refine BK.imp_of_mem (fun {i j} hi hj hij=>?_) hs
  exact free_of H (ls_mem hi).1 (ls_mem hj).1 (by omega) (.inr (by omega))) (fun i hi=>hag i hi.1 hi.2.1 hi.2.2) (fun i hi j hj=>by
  obtain⟨j1,j2,j3⟩:=ls_mem hj
  refine free_of H hi.1 j1 (fun e=>by subst e;have:=hi.2.2;omega) (.inl ?_)
  cases hw:A5 .any ops i j with
  |false=>rfl
  |true=>have:=H.c3 i hi.1 hi.2.1 j j1 hw;have:=hi.2.2;omega)
 refine⟨σ',A',g1,g2,g3,fun t ht=>g4 t (fun i hi o ho=>?_),fun i hi hc hle=>g5 i ?_⟩
 ·obtain⟨h1,h2,h3⟩:=ls_mem hi
  exact ht i o h1 h2 h3 ho
 ·rcases Ah (nd.getD i 0) q with h|h
  ·exact .inl ⟨hi,hc,h⟩
  ·exact .inr (by simp only[lsAt,Ae,A6,A4,AG,beq_iff_eq];exact⟨hi,hc,by omega⟩)
theorem CInv.chain (hT:TabOk P T.T) (hF:FOk P T.F) {Q:Exit->Act->World->Prop} (hQp:∀c a w,¬Q (.panic c) a w) (hX:X.w0.heap.size<=w.heap.size) (H:ChOk T ops m n nd) (inv:CInv T X ops m n nd inf k r a w p σp Ap Ep bl l listed a' w') {i:Nat} {o:Oper} (hi:i∈AH .any ops listed) (him:i<m) (ho:ops[i]?=some o) (hco:chOp T o=true)
  (hnews:∀j,m<=j->j<n->∃q,ops[j]?=some q/\q.dst=some (inf j).1):
  o.wp P a' w' (fun a2 w2=>∃σ2 A2 E2,CInv T X ops m n nd inf k r a w (p+1) σ2 A2 E2 bl l (listed.setIfInBounds i true) a2 w2) Q:=by
 obtain⟨⟨_,hsel,_⟩,hop⟩:=mix_parts H.mix
 have hmn:=H.mn
 have hca:chAt T ops i=true:=by simp only[chAt,ho];exact hco
 have hpi:=(inv.ready H hi him).2 hca
 have hplt:p<(chL T ops m).length:=(AT.1 hpi).1
 have hrun:=inv.run
 rw[List.drop_eq_getElem_cons hplt,(AT.1 hpi).2] at hrun
 simp only[chK,ho] at hrun
 obtain⟨_,d,e1,hd,e3,e4,e5,e6⟩:=hop i (by omega)
 rw[ho] at e1
 have:=A3 e1
 subst this
 obtain⟨σ1,s,f0,f1,f2⟩:=ch_nat hco hrun
 have hst:stepK T o σp some=some (σ1.put o.dst s):=f2 St some
 have hex:execOp a'.eval o=execOp (Act.eval ⟨Ap,a'.defers⟩) o:=exec_agree (ops:=ops) (a:=⟨Ap,a'.defers⟩) (fun cs b=>AY hsel i o cs b ho) (inv.looks H hi him ho)
 have hstep:=step_apart (P:=P) (a:=⟨Ap,a'.defers⟩) T hT hF hst inv.rel (fun b hb=>Ab hX (inv.lfr b hb).1) Q
 refine Oper.wp_mono (fun a2 w2 h=>?_) (wp_ghost hQp hex (fun a1 w1 h=>h.1) hstep)
 obtain⟨v,rfl,_,k2,k3,k4,σ',E',k5,k6,k7⟩:=h
 have:=A3 k5
 subst this
 obtain⟨σ2,A2,q1,q2,q3,q4,q5⟩:=ls_stage hT H f1 k6 (fun j hj hc hlt=>by
  refine(inv.again j hj hc (by omega)).keep f0 ho (free_of H hj him (fun e=>by subst e;rw[hca] at hc;cases hc) (.inl ?_))
  cases hw:A5 .any ops j i with
  |false=>rfl
  |true=>
   have h1:=H.c3 j hj hc i him hw
   rw[H.c1 p i hpi] at h1
   omega)
 have hsz2:A2.size=Ap.size:=q3.trans k3
 refine⟨σ2,A2,E',inv.put H hi him ho hnews k4 k7 q2 hsz2 (fun d' hd'=>?_) (fun t ht=>?_) (BX p) (by rw[H.c1 p i hpi];exact AW _) (fun q j hq hqp=>?_) hplt q1 (fun j hj hc hle=>q5 j hj hc hle)⟩
 ·have hne:∀j q,j<m->chAt T ops j=false->nd.getD j 0=p+1->ops[j]?=some q->q.dst≠some d':=fun j q hj hc _ hq he=>by
   rw[hd] at hd'
   have:=A3 hd'
   subst this
   exact e4 j q (by omega) (fun e=>by subst e;rw[hca] at hc;cases hc) hq he
  rw[q4 d' hne,hd']
  rfl
 ·rw[q4 t (fun j q hj hc hnd hq=>ht j q hj hq (.inr ?_)),k2 t (fun e=>ht i o him ho (.inl rfl) e.symm)]
  cases hlj:listed.getD j false with
  |false=>rfl
  |true=>have:=inv.cnt1 j hj hlj;omega
 ·rcases Ah q p with h|h
  ·exact .inl h
  ·right
   have:q=p:=by omega
   subst this
   rw[hpi] at hq
   exact(A3 hq).symm
theorem CInv.alloc (H:ChOk T ops m n nd) (inv:CInv T X ops m n nd inf k r a w p σp Ap Ep bl l listed a' w') {i:Nat} {o:Oper} (hi:i∈AH .any ops listed) (him:m<=i) (hin:i<n) (ho:ops[i]?=some o) (hd:o.dst=some (inf i).1)
  (hnews:∀j,m<=j->j<n->∃q,ops[j]?=some q/\q.dst=some (inf j).1):
  CInv T X ops m n nd inf k r a w p σp Ap Ep (fun j=>if j=i then w'.heap.size else bl j) (w'.heap.size::l) (listed.setIfInBounds i true) (a'.put o.dst (.pointer (some ⟨w'.heap.size,0,none⟩))) (w'.alloc (.cells (inf i).2.1 (inf i).2.2)):=by
 obtain⟨_,hop⟩:=mix_parts H.mix
 have hmn:=H.mn
 obtain⟨_,d,e1,e2,e3,e4,e5,e6⟩:=hop i hin
 rw[ho] at e1
 have:=A3 e1
 subst this
 have hext:=Ext.alloc w' (.cells (inf i).2.1 (inf i).2.2)
 have hdi:d=(inf i).1:=by rw[hd] at e2;exact(A3 e2).symm
 have hput:∀t,t≠d->(a'.put o.dst (.pointer (some ⟨w'.heap.size,0,none⟩))).tmps[t]?=a'.tmps[t]?:=fun t ht=>put_other _ _ t (fun e=>ht (by rw[e2] at e;exact A3 e))
 refine⟨inv.head.set hi hin,alloc_out inv.rel _,inv.asz,Ab inv.hsz hext.size,(put_defers _ _).trans inv.dfr,(put_size _ _).trans inv.siz,fun t ht=>?_,inv.oth2,fun j q t hj hq ht hlj=>?_,fun j hj hlj=>inv.cnt1 j hj (listed_set hlj (by omega)),fun q j hq hqp=>getD_set_true (inv.cnt2 q j hq hqp),inv.ple,inv.run,inv.again,fun j h1 h2 hlj=>?_,fun j j2 h3 h4 h5 h6 h7 h8 h9=>?_,fun b hb=>?_,fun j h1 h2 hlj=>?_⟩
 ·rw[hput t (fun e=>ht i o hin ho (by rw[e2,e]))]
  exact inv.oth t ht
 ·rw[hput t (fun e=>e4 j q (by omega) (by omega) hq (by rw[ht,e]))]
  exact inv.agr j q t hj hq ht (listed_set hlj (by omega))
 ·by_cases hji:j=i
  ·subst hji
   simp only[if_true]
   refine⟨fun b hb=>?_,inv.hsz,by simp,heap_alloc_new w' _⟩
   rw[hd]
   exact put_same (inv.siz.trans hb.symm)
  ·simp only[if_neg hji]
   obtain⟨n1,n2,n3,n4⟩:=inv.new j h1 h2 (listed_set hlj hji)
   obtain⟨oj,hoj,hNj⟩:=hnews j h1 h2
   refine⟨fun b hb=>?_,n2,AB n3 hext.size,(hext.block _ n3).trans n4⟩
   rw[hput _ (fun e=>e4 j oj h2 hji hoj (by rw[hNj,e]))]
   exact n1 b hb
 ·by_cases hji:j=i
  ·by_cases hli:j2=i
   ·omega
   ·simp only[hji,if_true,if_neg hli] at h9
    have:=(inv.new j2 h5 h6 (listed_set h8 hli)).2.2.1
    omega
  ·by_cases hli:j2=i
   ·simp only[hli,if_true,if_neg hji] at h9
    have:=(inv.new j h3 h4 (listed_set h7 hji)).2.2.1
    omega
   ·simp only[if_neg hji,if_neg hli] at h9
    exact inv.inj j j2 h3 h4 h5 h6 (listed_set h7 hji) (listed_set h8 hli) h9
 ·rcases AS.1 hb with rfl|hb
  ·exact⟨inv.hsz,by simp⟩
  ·exact⟨(inv.lfr b hb).1,AB (inv.lfr b hb).2 hext.size⟩
 ·by_cases hji:j=i
  ·simp[hji]
  ·simp only[if_neg hji]
   exact AI _ (inv.lmem j h1 h2 (listed_set hlj hji))
theorem bare_loose {T:Tabs} (hb:bareOp o=true):looseOp o=true/\chOp T o=false:=by
 refine⟨by simp[looseOp,hb],?_⟩
 cases hc:chOp T o with
 |false=>rfl
 |true=>
  simp only[chOp,A4] at hc
  simp only[bareOp,A4] at hb
  have h1:=hc.2
  have h2:=hb.2
  split at h1
  ·rename_i ho
   rw[ho] at h2
   simp at h2
  ·cases h1
end
end
end Go.Proofs.YtacbkfginiknaaaDoor.V
