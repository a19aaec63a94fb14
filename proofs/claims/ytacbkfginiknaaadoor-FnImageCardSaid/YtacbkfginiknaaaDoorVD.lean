/- A typed evaluator of the program's code and its soundness (part VD). Of a function it shows what it computes, as a plain function on numbers, bools, strings, lists and pairs. -/
import Derived.Test.YtacbkfginiknaaaDoorVC
import Derived.LoopN
import Derived.ProofKit
import Derived.Carry
import Derived.FnData
import Derived.OpenShut
import Derived.MakeChecks
import Derived.ChangeArms
open Array renaming getElem?_eq_getElem->A5,getD_eq_getD_getElem?->AM,getElem?_setIfInBounds_self_of_lt->AS,getElem?_eq_some_iff->AX,getElem?_eq_none->AZ,ext_getElem?->An,size_setIfInBounds->B3,getElem?_setIfInBounds_ne->BA
open Bool renaming and_eq_true->A3,or_eq_true->AQ,not_eq_true'->Ab,not_true->BD,or_eq_false_iff->BP,false_eq_true->BS,false_or->Ba
open Go.Code renaming region->B0,rounds->BW
open Go.Region renaming wanted->BE,waitsFor->BK
open Go.Result renaming andThen_ok->B5
open Go.Sem renaming run_bind->BF,run_pure->BG
open Go.World renaming cell?->BM,var?->Be
open List renaming getElem?_eq_getElem->A4,mem_cons_of_mem->A6,all_eq_true->A7,nodup_append->A8,mem_zipIdx_iff_getElem?->A9,getElem?_of_mem->AB,mem_cons_self->AC,mem_range->AD,getElem?_take->AE,mem_append_left->AI,getElem?_drop->AL,mem_of_getElem?->AN,getD_eq_getElem?_getD->AO,mem_of_mem_drop->AR,mem_map->AT,mem_filterMap->AU,mem_append_right->AV,mem_cons->AW,getElem?_map->AY,getElem?_eq_some_iff->Aa,append_nil->Ac,pairwise_iff_getElem->Ae,take_append_drop->Af,getElem_mem->Ai,countP_eq_length->Ak,mem_of_mem_take->Al,mem_append->Am,foldl_cons->Ao,contains_iff_mem->Aq,range->Ar,drop_drop->As,nodup_nil->Au,filterMap_cons->Ay,nodup_cons->Az,getElem_map->B1,map_cons->B2,append_assoc->B6,Perm->B8,perm_append_comm->B9,eq_nil_of_length_eq_zero->BC,cons_append->BH,drop_eq_nil_of_le->BN,getElem?_eq_none->BO,getElem?_set_ne->BQ,map_congr_left->BR,any_eq_false->BU,flatten_cons->BV,length_cons->BY,drop_zero->BZ
open List.cons renaming injEq->BL
open Nat renaming le_refl->AP,lt_succ_of_lt->Ad,le_of_not_lt->Ah,lt_of_lt_of_le->Aj,zero_add->Av,le_trans->Ax,lt_or_ge->BI,lt_succ_self->BJ,ne_of_lt->BT,add_mul->BX,mul_comm->Bb,zero_le->Bc,mul_one->Bd
open Option renaming getD_some->AH,bind_some->Aw,bind_eq_some_iff->B4,map_some->BB
open Option.some renaming inj->AG,injEq->AJ
open Prod.mk renaming injEq->B7
namespace Go.Proofs.YtacbkfginiknaaaDoor.V
open Go
section
variable {P:Program} {X:Ctx} {E:Env} {σ:St} {A0:Array Value} {a:Act} {w:World} {R:Type}
theorem contig_zipIdx:∀ (l:List Oper) (i:Nat),Contig i (l.zipIdx i):=by
 intro l
 induction l with
 |nil=>intro i;trivial
 |cons o l ih=>intro i;exact⟨rfl,ih (i+1)⟩
theorem zipIdx_at {ops:Array Oper}:∀q∈ops.toList.zipIdx,ops[q.2]?=some q.1:=by
 intro q hq
 have:=A9.1 hq
 simpa using this
theorem zipIdx_snd (l:List Oper):l.zipIdx.map (·.2)=Ar l.length:=by
 rw[List.range_eq_range']
 exact List.zipIdx_map_snd 0 l
theorem mem_opsWrites {l:List Oper} {i:Nat} (h:i∉opsWrites l):∀o∈l,o.dst≠some i:=by
 intro o ho he
 exact h (AU.2 ⟨o,ho,he⟩)
def XK.mt:XK->Exit->Prop
 | .nor,.normal=>True
 | .ex i,.exit j=>i=j
 | .ret,.ret=>True
 |_,_=>False
def Ends (X:Ctx) (c:Code) (a:Act) (G:XK->St->Prop) (e:Exit) (a':Act) (w':World):Prop:=
 ∃x:XK,x.mt e/\a'.defers=a.defers/\a'.tmps.size=a.tmps.size/\(∀i,i∉writes c->a'.tmps[i]?=a.tmps[i]?)/\∃σ',G x σ'/\Rel X σ' a'.tmps w'
theorem region_ok (T:Tabs) (hT:TabOk P T.T) (hF:FOk P T.F) {id:Nat} {ops:Array Oper} {k:XK->St->Option R} {r:R}
  (h:opsK T ops (ops.size+1) [] R ops.toList.zipIdx σ (k .nor)=some r) (hr:RelE X E σ a.tmps w):
  (B0 id ops false).wp P (Ends X (.region id ops false) a (fun x σ'=>k x σ'=some r)) a w:=by
 refine wp_region ?_
 have:=ops_ok T hT hF (ops.size+1) h hr (contig_zipIdx _ 0) zipIdx_at (fun g hg=>by cases hg)
  (Ends X (.region id ops false) a (fun x σ'=>k x σ'=some r)) [] (fun a' w' he=>?_)
 ·rw[Ac,zipIdx_snd,Array.length_toList] at this
  exact this
 ·obtain⟨e1,e2,e3,_,σ',e4,e5⟩:=he
  refine⟨.nor,trivial,e1,e2,fun i hi=>e3 i fun q hq=>?_,σ',e4,e5⟩
  exact mem_opsWrites hi q.1 (by
   have:=A9.1 hq
   exact AN this)
def newInf (T:Tabs) (o:Oper):Tmp×Array Value×TypeId:=(o.dst.getD 0,(match o.op with| .alloc e=>(match T.T e with|some t=>(zc t).toArray|none=> #[])|_=> #[]),(match o.op with| .alloc e=>e|_=>0))
theorem new_at (T:Tabs) (hT:TabOk P T.T) {o:Oper} (h:isNew T o=true):NewAt P o (newInf T o).1 (newInf T o).2.1 (newInf T o).2.2:=by
 simp only[isNew,A3] at h
 obtain⟨⟨h1,h2⟩,h3⟩:=h
 refine⟨?_,by simpa using h2,fun a w=>?_⟩
 ·cases hd:o.dst with
  |none=>rw[hd] at h3;simp at h3
  |some d=>simp[newInf,hd]
 ·split at h1
  ·rename_i e ho
   cases hTt:T.T e with
   |none=>rw[hTt] at h1;simp at h1
   |some t=>
    obtain⟨n,ht⟩:=hT.ty e _ hTt
    obtain⟨z,hz,hzc⟩:=run_zeroValue_ty ht w
    have hc:z.cells=(zc t).toArray:=by rw[<-hzc]
    simp only[newInf,ho,hTt,execOp,Instr.alloc,BF,hz,B5,newVar,newRow,hc,run_newObj,BG,World.alloc_eq]
  ·cases h1
theorem boxes_ok (T:Tabs) (hT:TabOk P T.T) {ops:Array Oper} {bl:Nat->Nat} {rest:List (Oper×Nat)} {k:St->Option R} {r:R}:∀ {l:List (Oper×Nat)} {n:Nat} {σ:St} {E:Env} {A0:Array Value} {out:List Nat},(∀q∈l,isNew T q.1=true)->
  opsK T ops n [] R (l++rest) σ k=some r->RelE X E σ A0 w->E.out=l.map (fun q=>bl q.2)++out->(∀q∈l,X.w0.heap.size<=bl q.2/\w.heap[bl q.2]?=some (.cells (newInf T q.1).2.1 (newInf T q.1).2.2 (0,0)))->
  ∃n' σ' E',opsK T ops n' [] R rest σ' k=some r/\RelE X E' σ' (l.foldl (fun A q=>A.setIfInBounds (newInf T q.1).1 (.pointer (some ⟨bl q.2,0,none⟩))) A0) w:=by
 intro l
 induction l with
 |nil=>intro n σ E A0 out _ h hr _ _;exact⟨n,σ,E,h,hr⟩
 |cons q l ih=>
  intro n σ E A0 out hn h hr ho hb
  cases n with
  |zero=>simp[opsK] at h
  |succ n=>
   have hq:=hn q AC
   have hq2:=hq
   simp only[isNew,A3] at hq2
   obtain⟨⟨h1,h2⟩,h3⟩:=hq2
   have hg:q.1.guard=none:=by simpa using h2
   simp only[BH,opsK,openG,hg] at h
   split at h1
   ·rename_i e hop
    cases hTt:T.T e with
    |none=>rw[hTt] at h1;simp at h1
    |some t=>
     cases hd:q.1.dst with
     |none=>rw[hd] at h3;simp at h3
     |some d=>
      simp only[stepK,hop,hTt,hd] at h
      obtain⟨hb1,hb2⟩:=hb q AC
      have hinf:newInf T q.1=(d,(zc t).toArray,e):=by simp[newInf,hop,hTt,hd]
      rw[hinf] at hb2
      obtain⟨m,ht⟩:=hT.ty e _ hTt
      have hz:=rv_zero (w:=w) (A:=Fz X E σ w) (E:=E) hr.nt2 hr.no1.1 hr.no1.2 (tyB_ok ht)
      obtain⟨E',r1,r2,r3,_⟩:=hr.outBox (of:=0) (t:=t) (v:=t.zero) (l:=l.map (fun q=>bl q.2)++out) ho hb1 hz (by simp) hb2 (by simp) (by
       intro j u hu
       rw[Av]
       unfold BM
       rw[hb2]
       simpa using hu)
      have r4:=r1.set d r3
      obtain⟨n',σ',E2,g1,g2⟩:=ih (fun p hp=>hn p (A6 _ hp)) h r4 r2 (fun p hp=>hb p (A6 _ hp))
      refine⟨n',σ',E2,g1,?_⟩
      rw[Ao,hinf]
      exact g2
   ·cases h1
theorem lead_all {p:Oper->Bool}:∀ {l:List Oper} {i:Nat} {o:Oper},i<lead p l->l[i]?=some o->p o=true:=by
 intro l
 induction l with
 |nil=>intro i o h;simp[lead] at h
 |cons x l ih=>
  intro i o h ho
  simp only[lead] at h
  cases hx:p x with
  |false=>rw[hx] at h;simp at h
  |true=>
   rw[hx] at h
   simp only[cond_true] at h
   cases i with
   |zero=>simp at ho;subst ho;exact hx
   |succ i=>exact ih (i:=i) (by omega) (by simpa using ho)
theorem lead_le {p:Oper->Bool}:∀ {l:List Oper},lead p l<=l.length:=by
 intro l
 induction l with
 |nil=>simp[lead]
 |cons x l ih=>
  simp only[lead,BY]
  cases p x<;>simp<;>omega
theorem zip_at {ops:Array Oper} {i:Nat} {q:Oper×Nat} (h:ops.toList.zipIdx[i]?=some q):q.2=i/\ops[i]?=some q.1:=by
 rw[List.getElem?_zipIdx] at h
 cases ho:ops.toList[i]? with
 |none=>rw[ho] at h;simp at h
 |some o=>
  rw[ho] at h
  simp at h
  subst h
  exact⟨by simp,by simpa using ho⟩
theorem contig_drop:∀ {l:List (Oper×Nat)} {i m:Nat},Contig i l->Contig (i+m) (l.drop m):=by
 intro l
 induction l with
 |nil=>intro i m _;cases m<;>exact trivial
 |cons q l ih=>
  intro i m h
  cases m with
  |zero=>exact h
  |succ m=>have:=ih (m:=m) h.2;rwa [show i+1+m=i+(m+1) by omega] at this
theorem contig_take:∀ {l:List (Oper×Nat)} {i m:Nat},Contig i l->Contig i (l.take m):=by
 intro l
 induction l with
 |nil=>intro i m _;cases m<;>exact trivial
 |cons q l ih=>
  intro i m h
  cases m with
  |zero=>exact trivial
  |succ m=>exact⟨h.1,ih h.2⟩
theorem contig_snd:∀ {l:List (Oper×Nat)} {i:Nat},Contig i l->l.map (·.2)=List.range' i l.length:=by
 intro l
 induction l with
 |nil=>intro i _;rfl
 |cons q l ih=>intro i h;rw[B2,BY,List.range'_succ,h.1,ih h.2]
theorem fold_at {f:Oper×Nat->Tmp} {g:Oper×Nat->Value}:∀ {l:List (Oper×Nat)} {A0:Array Value},(∀ (i j:Nat) p q,l[i]?=some p->l[j]?=some q->i≠j->f p≠f q)->
  (l.foldl (fun A q=>A.setIfInBounds (f q) (g q)) A0).size=A0.size/\(∀t,(∀q∈l,f q≠t)->(l.foldl (fun A q=>A.setIfInBounds (f q) (g q)) A0)[t]?=A0[t]?)/\
  ∀q∈l,(l.foldl (fun A q=>A.setIfInBounds (f q) (g q)) A0)[f q]?=(A0.setIfInBounds (f q) (g q))[f q]?:=by
 intro l
 induction l with
 |nil=>intro A0 _;exact⟨rfl,fun _ _=>rfl,fun q hq=>by cases hq⟩
 |cons x l ih=>
  intro A0 hne
  obtain⟨h1,h2,h3⟩:=ih (A0:=A0.setIfInBounds (f x) (g x)) (fun i j p q hp hq hij=>hne (i+1) (j+1) p q (by simpa using hp) (by simpa using hq) (by omega))
  refine⟨by rw[Ao,h1];simp,fun t ht=>?_,fun q hq=>?_⟩
  ·rw[Ao,h2 t (fun q hq=>ht q (A6 _ hq)),BA (ht x AC)]
  ·rw[Ao]
   rcases AW.1 hq with rfl|hq
   ·exact h2 _ (fun p hp he=>by
     obtain⟨j,hj⟩:=AB hp
     exact hne (j+1) 0 p q (by simpa using hj) rfl (by omega) he)
   ·obtain⟨j,hj⟩:=AB hq
    have hx:f x≠f q:=hne 0 (j+1) x q rfl (by simpa using hj) (by omega)
    rw[h3 q hq]
    by_cases hlt:f q<A0.size
    ·rw[AS (by simpa using hlt),AS hlt]
    ·rw[AZ (by simpa using Ah hlt),AZ (by simpa using Ah hlt)]
theorem head_ok {ops:Array Oper} {m n:Nat} (hB:mixB ops m n=true):HeadOk ops (headD ops n) m n:=by
 simp only[mixB,A3,decide_eq_true_eq,A7,AD] at hB
 obtain⟨⟨⟨⟨_,hmn⟩,hns⟩,hops⟩,_⟩:=hB
 refine⟨hmn,fun t=>⟨fun h=>?_,fun⟨j,p,hj,hp,ht⟩=>?_⟩,fun i o j p t hi ho hj hp ht hl=>?_,fun i o j p t hi ho hj hp hd ht=>?_⟩
 ·obtain⟨o,ho,hd⟩:=AU.1 h
  obtain⟨j,hj⟩:=AB ho
  rw[AE] at hj
  split at hj
  ·exact⟨j,o,by assumption,by simpa using hj,hd⟩
  ·cases hj
 ·refine AU.2 ⟨p,?_,ht⟩
  refine AN (i:=j) ?_
  rw[AE,if_pos hj]
  simpa using hp
 ·have h:=hops i (by omega)
  rw[ho] at h
  simp only[A3,A7,AD] at h
  obtain⟨⟨_,h4⟩,_⟩:=h
  simp only[AQ,decide_eq_true_eq,A7,AD] at h4
  rcases h4 with h|h
  ·omega
  ·have:=h j hj
   rw[hp] at this
   simp only[Aw,ht,AQ,Ab,A3,decide_eq_true_eq] at this
   rcases this with h|h
   ·simp[Aq,hl] at h
   ·exact h.1.2
 ·have h:=hops i hi
  rw[ho] at h
  simp only[A3,A7,AD] at h
  obtain⟨⟨⟨_,h3⟩,_⟩,_⟩:=h
  have:=h3 j hj
  rw[hp] at this
  simp only[AQ,beq_iff_eq,Ab,beq_eq_false_iff_ne,ne_eq] at this
  rcases this with h|h
  ·exact h.symm
  ·exact absurd (ht.trans hd.symm) h
theorem head_okL {ops:Array Oper} {m n:Nat} (hB:mixL ops m n=true):HeadOk ops (headD ops n) m n:=by
 simp only[mixL,A3,decide_eq_true_eq,A7,AD] at hB
 obtain⟨⟨⟨⟨_,hmn⟩,hns⟩,hops⟩,_⟩:=hB
 refine⟨hmn,fun t=>⟨fun h=>?_,fun⟨j,p,hj,hp,ht⟩=>?_⟩,fun i o j p t hi ho hj hp ht hl=>?_,fun i o j p t hi ho hj hp hd ht=>?_⟩
 ·obtain⟨o,ho,hd⟩:=AU.1 h
  obtain⟨j,hj⟩:=AB ho
  rw[AE] at hj
  split at hj
  ·exact⟨j,o,by assumption,by simpa using hj,hd⟩
  ·cases hj
 ·refine AU.2 ⟨p,?_,ht⟩
  refine AN (i:=j) ?_
  rw[AE,if_pos hj]
  simpa using hp
 ·have h:=hops i (by omega)
  rw[ho] at h
  simp only[A3,A7,AD] at h
  obtain⟨⟨_,h4⟩,_⟩:=h
  simp only[AQ,decide_eq_true_eq,A7,AD] at h4
  rcases h4 with h|h
  ·omega
  ·have:=h j hj
   rw[hp] at this
   simp only[Aw,ht,AQ,Ab,A3,decide_eq_true_eq] at this
   rcases this with h|h
   ·simp[Aq,hl] at h
   ·exact h.1.2
 ·have h:=hops i hi
  rw[ho] at h
  simp only[A3,A7,AD] at h
  obtain⟨⟨⟨_,h3⟩,_⟩,_⟩:=h
  have:=h3 j hj
  rw[hp] at this
  simp only[AQ,beq_iff_eq,Ab,beq_eq_false_iff_ne,ne_eq] at this
  rcases this with h|h
  ·exact h.symm
  ·exact absurd (ht.trans hd.symm) h
theorem draw_head (hmix:P.follows .mixedOrders=true) (T:Tabs) (hT:TabOk P T.T) (hF:FOk P T.F) {id:Nat} {ops:Array Oper} {m n:Nat} {k:XK->St->Option R} {r:R} (hB:mixB ops m n=true) (hm1:m<=ops.size) (hmn:m<=n) (hn1:n<=ops.size)
  (hall:∀i o,i<m->ops[i]?=some o->headOp T o.op=true) (hnews:∀i o,m<=i->i<n->ops[i]?=some o->isNew T o=true)
  (h:headK T (headD ops n) ops (ops.size+1) [] R (ops.toList.zipIdx.take m) σ (fun σ=>opsK T ops (ops.size+1) [] R (ops.toList.zipIdx.drop m) σ (k .nor))=some r) (hr:RelE X E σ a.tmps w):
  (B0 id ops true).wp P (Ends X (.region id ops true) a (fun x σ'=>k x σ'=some r)) a w:=by
 have H:=head_ok hB
 have hdst:∀i o,i<m->ops[i]?=some o->∃d,o.dst=some d:=by
  intro i o hi ho
  simp only[mixB,A3,decide_eq_true_eq,A7,AD] at hB
  have h:=hB.1.2 i (by omega)
  rw[ho] at h
  simp only[A3] at h
  cases hd:o.dst with
  |none=>rw[hd] at h;simp at h
  |some d=>exact⟨d,rfl⟩
 have hext:Ext w {w with drawn:=w.drawn+1}:=⟨rfl,rfl,rfl,AP _,fun _ _=>rfl⟩
 have hr0:=hr.ext hext
 have hc0:=contig_zipIdx ops.toList 0
 have hzl:ops.toList.zipIdx.length=ops.size:=by simp
 have hlen:(ops.toList.zipIdx.take m).length=m:=by simp;omega
 obtain⟨S,sk,σ1,_,g2,g3,_,g5,_⟩:=head_cert (P:=P) (X:=X) (σ0:=σ) T hT hF H (ops.size+1) (S:=fun _=>.no) (sk:=fun _=>false) h (contig_take hc0) (fun q hq=>zipIdx_at q (Al hq)) (by rw[hlen];omega) (fun q hq=>by
   obtain⟨j,hj⟩:=AB hq
   rw[AE] at hj
   split at hj
   ·obtain⟨e1,e2⟩:=zip_at hj
    exact⟨hall j q.1 (by assumption) e2,hdst j q.1 (by assumption) e2⟩
   ·cases hj) ⟨SameB.refl σ,fun t s ht=>.inr (.inl ⟨fun j p hj=>by omega,ht⟩)⟩ (fun j hj=>by omega) (fun g hg=>by cases hg)
 rw[hlen,Av] at g2 g3
 refine wp_region_any hmix ?_
 have hinfo:∀i,m<=i->i<n->∃o,ops[i]?=some o/\NewAt P o (newInf T (ops[i]?.getD default)).1 (newInf T (ops[i]?.getD default)).2.1 (newInf T (ops[i]?.getD default)).2.2:=by
  intro i h1 h2
  have hlt:i<ops.size:=by omega
  have ho:ops[i]?=some ops[i]:=A5 hlt
  refine⟨_,ho,?_⟩
  rw[ho,AH]
  exact new_at T hT (hnews i _ h1 h2 ho)
 have hfin:=head_any (inf:=fun i=>newInf T (ops[i]?.getD default)) (Q:=Ends X (.region id ops true) a (fun x σ'=>k x σ'=some r)) (fun c a w h=>by obtain⟨x,hx,_⟩:=h;cases x<;>exact hx) hB H hr0 (fun i o hi ho=>g2 i o (by omega) hi ho) hinfo (fun a' w' bl lb listed hl inv=>by
   have hlen2:((ops.toList.zipIdx.drop m).take (n-m)).length=n-m:=by simp;omega
   have hsplit:(ops.toList.zipIdx.drop m)=(ops.toList.zipIdx.drop m).take (n-m)++ops.toList.zipIdx.drop n:=by
    conv=>lhs;rw[<-Af (n-m) (ops.toList.zipIdx.drop m)]
    rw[As,show m+(n-m)=n by omega]
   rw[hsplit] at g5
   have hnew:∀ (j:Nat) q,((ops.toList.zipIdx.drop m).take (n-m))[j]?=some q->j<n-m/\q.2=m+j/\ops[m+j]?=some q.1:=by
    intro j q hj
    rw[AE] at hj
    split at hj
    ·rename_i hjl
     rw[AL] at hj
     obtain⟨e1,e2⟩:=zip_at hj
     exact⟨hjl,e1,e2⟩
    ·cases hj
   have hq:∀q∈(ops.toList.zipIdx.drop m).take (n-m),m<=q.2/\q.2<n/\ops[q.2]?=some q.1:=by
    intro q hq
    obtain⟨j,hj⟩:=AB hq
    obtain⟨j1,j2,j3⟩:=hnew j q hj
    exact⟨by omega,by omega,by rw[j2];exact j3⟩
   have hinf:∀q∈(ops.toList.zipIdx.drop m).take (n-m),newInf T (ops[q.2]?.getD default)=newInf T q.1:=fun q h=>by rw[(hq q h).2.2,AH]
   have d4:∀i,m<=i->i<n->_:=fun i h1 h2=>inv.new i h1 h2 (hl i h2)
   have d5:∀i j,m<=i->i<n->m<=j->j<n->bl i=bl j->i=j:=fun i j h1 h2 h3 h4=>inv.inj i j h1 h2 h3 h4 (hl i h2) (hl j h4)
   have hbl:(((ops.toList.zipIdx.drop m).take (n-m)).map (fun q=>bl q.2)).Nodup:=by
    refine Ae.2 fun i j hi hj hij he=>?_
    have hi':i<((ops.toList.zipIdx.drop m).take (n-m)).length:=by simpa using hi
    have hj':j<((ops.toList.zipIdx.drop m).take (n-m)).length:=by simpa using hj
    simp only[B1] at he
    obtain⟨i1,i2,_⟩:=hnew i _ (A4 hi')
    obtain⟨j1,j2,_⟩:=hnew j _ (A4 hj')
    have:=d5 _ _ (by omega) (by omega) (by omega) (by omega) he
    omega
   have hwhs:X.w0.heap.size<=w.heap.size:=hr.fr.size
   have hfresh:∀q∈(ops.toList.zipIdx.drop m).take (n-m),w.heap.size<=bl q.2/\bl q.2<w'.heap.size:=fun q h=>⟨(d4 q.2 (hq q h).1 (hq q h).2.1).2.1,(d4 q.2 (hq q h).1 (hq q h).2.1).2.2.1⟩
   have hdist:∀ (i j:Nat) p q,((ops.toList.zipIdx.drop m).take (n-m))[i]?=some p->((ops.toList.zipIdx.drop m).take (n-m))[j]?=some q->i≠j->(newInf T p.1).1≠(newInf T q.1).1:=by
    intro i j p q hp hq' hij he
    obtain⟨i1,i2,i3⟩:=hnew i p hp
    obtain⟨j1,j2,j3⟩:=hnew j q hq'
    have e1:=(new_at (P:=P) T hT (hnews (m+i) p.1 (by omega) (by omega) i3)).dst
    have e2:=(new_at (P:=P) T hT (hnews (m+j) q.1 (by omega) (by omega) j3)).dst
    rw[he] at e1
    have:=H.inj (m+i) p.1 (m+j) q.1 _ (by omega) i3 (by omega) j3 e1 e2
    omega
   have hnd:∀q∈(ops.toList.zipIdx.drop m).take (n-m),q.1.dst=some (newInf T q.1).1:=fun q h=>(new_at (P:=P) T hT (hnews q.2 q.1 (hq q h).1 (hq q h).2.1 (hq q h).2.2)).dst
   obtain⟨y1,y2,y3⟩:=fold_at (f:=fun q=>(newInf T q.1).1) (g:=fun q=>a.tmps.getD (newInf T q.1).1 undef) (A0:=a'.tmps) hdist
   generalize hA0:((ops.toList.zipIdx.drop m).take (n-m)).foldl (fun A q=>A.setIfInBounds (newInf T q.1).1 (a.tmps.getD (newInf T q.1).1 undef)) a'.tmps=A0 at y1 y2 y3
   have hsz:a'.tmps.size=a.tmps.size:=inv.siz
   have hold:∀q∈(ops.toList.zipIdx.drop m).take (n-m),A0[(newInf T q.1).1]?=a.tmps[(newInf T q.1).1]?:=by
    intro q h
    rw[y3 q h]
    by_cases hlt:(newInf T q.1).1<a.tmps.size
    ·rw[AS (by rw[hsz];exact hlt),A5 hlt,AM,A5 hlt,AH]
    ·rw[AZ (by rw[B3,hsz];exact Ah hlt),AZ (Ah hlt)]
   have hr':=inv.base hr0
   have hr1:RelE X (E.outs (lb++E.out)) σ1 A0 w':=by
    refine hr'.frames g3.same (by rw[y1];exact hsz) (fun t s v h1 h2=>?_)
    by_cases ht:∃q∈(ops.toList.zipIdx.drop m).take (n-m),(newInf T q.1).1=t
    ·obtain⟨q,hq',rfl⟩:=ht
     rw[hold q hq'] at h2
     rcases g3.slot _ s h1 with q1|⟨q1,q2⟩|⟨j,p,q1,q2,q3,q4⟩
     ·subst q1;trivial
     ·exact hr'.slot _ s v q2 h2
     ·have:=H.inj j p q.2 q.1 _ (by omega) q2 (hq q hq').2.1 (hq q hq').2.2 q3 (hnd q hq')
      have:=(hq q hq').1
      omega
    ·rw[y2 t (fun q h e=>ht ⟨q,h,e⟩)] at h2
     rcases g3.slot t s h1 with q1|⟨q1,q2⟩|⟨j,p,q1,q2,q3,q4⟩
     ·subst q1;trivial
     ·have:a'.tmps[t]?=a.tmps[t]?:=inv.oth t fun i o hi ho he=>by
       rcases BI i m with him|him
       ·exact q1 i o him ho he
       ·have hlt:i-m<((ops.toList.zipIdx.drop m).take (n-m)).length:=by rw[hlen2];omega
        obtain⟨k1,k2,k3⟩:=hnew (i-m) _ (A4 hlt)
        rw[show m+(i-m)=i by omega,ho] at k3
        refine ht ⟨_,Ai hlt,?_⟩
        have:=hnd _ (Ai hlt)
        rw[<-AG k3,he] at this
        exact(AG (AG k3▸this)).symm
      rw[this] at h2
      exact hr'.slot t s v q2 h2
     ·subst q4
      exact inv.slt j p t v q1 q2 q3 (hl j (by omega)) h2
   have hnodup:(((ops.toList.zipIdx.drop m).take (n-m)).map (fun q=>bl q.2)++E.out).Nodup:=by
    have ho:E.out.Nodup:=by
     have:=hr.nodup
     simp only[owned] at this
     exact(A8.1 (A8.1 this).2.1).2.1
    refine A8.2 ⟨hbl,ho,fun b hb c hc he=>?_⟩
    obtain⟨q,hq',rfl⟩:=AT.1 hb
    have h1:=(hfresh q hq').1
    have h2:c<w.heap.size:=(hr.lt c (mem_out hr hc)).1
    omega
   have hw:=hr1.world (w1:=w') (l:=((ops.toList.zipIdx.drop m).take (n-m)).map (fun q=>bl q.2)++E.out) (fun b hb _=>rfl) hr1.fr (AP _) hnodup (fun b hb=>by
    rcases Am.1 hb with h|h
    ·obtain⟨q,hq',rfl⟩:=AT.1 h
     exact⟨.inl (AI _ (inv.lmem q.2 (hq q hq').1 (hq q hq').2.1 (hl q.2 (hq q hq').2.1))),(hfresh q hq').2⟩
    ·exact⟨.inl (AV _ h),Aj (hr0.lt b (mem_out hr0 h)).1 inv.ext.size⟩)
   obtain⟨n',σ2,E2,f1,f2⟩:=boxes_ok T hT (bl:=bl) (fun q h=>hnews q.2 q.1 (hq q h).1 (hq q h).2.1 (hq q h).2.2) g5 hw.1 rfl (fun q h=>⟨Ax hwhs (hfresh q h).1,by
    have:=(d4 q.2 (hq q h).1 (hq q h).2.1).2.2.2
    rw[hinf q h] at this
    exact this⟩)
   obtain⟨z1,z2,z3⟩:=fold_at (f:=fun q=>(newInf T q.1).1) (g:=fun q=>Value.pointer (some ⟨bl q.2,0,none⟩)) (A0:=A0) hdist
   have hA:((ops.toList.zipIdx.drop m).take (n-m)).foldl (fun A q=>A.setIfInBounds (newInf T q.1).1 (.pointer (some ⟨bl q.2,0,none⟩))) A0=a'.tmps:=by
    apply An
    intro t
    by_cases ht:∃q∈(ops.toList.zipIdx.drop m).take (n-m),(newInf T q.1).1=t
    ·obtain⟨q,hq',rfl⟩:=ht
     rw[z3 q hq']
     have:=(d4 q.2 (hq q hq').1 (hq q hq').2.1).1 ⟨A0,a.defers⟩ (by rw[y1];exact hsz)
     rw[hinf q hq'] at this
     exact this.symm
    ·rw[z2 t (fun q hq' he=>ht ⟨q,hq',he⟩),y2 t (fun q hq' he=>ht ⟨q,hq',he⟩)]
   rw[hA] at f2
   have htail:=ops_ok T hT hF n' (l:=ops.toList.zipIdx.drop n) (i:=0+n) (a:=a') f1 f2 (contig_drop hc0) (fun q hq=>zipIdx_at q (AR hq)) (fun g hg=>by cases hg) (Ends X (.region id ops true) a (fun x σ'=>k x σ'=some r)) [] (fun a2 w2 he=>?_)
   ·rw[Ac,contig_snd (contig_drop (m:=n) hc0)] at htail
    simpa using htail
   ·obtain⟨e1,e2,e3,_,σ3,e4,e5⟩:=he
    refine⟨.nor,trivial,e1.trans inv.dfr,e2.trans inv.siz,fun i hi=>?_,σ3,e4,e5⟩
    have hw:∀q∈ops.toList.zipIdx,q.1.dst≠some i:=fun q hq=>mem_opsWrites hi q.1 (by
     have:=A9.1 hq
     exact AN this)
    rw[e3 i (fun q hq=>hw q (AR hq))]
    exact inv.oth i fun j o hj ho=>hw (o,j) (by
     rw[A9]
     simpa using ho))
  n (Array.replicate ops.size false) a {w with drawn:=w.drawn+1} (fun _=>0) [] (by
   rw[Ak.2 (fun i hi=>by
    have:i<n:=AD.1 hi
    have hlt:i<ops.size:=by omega
    simp[AM,hlt])]
   simp)
  ⟨⟨by simp,fun j oj _ hl=>(by rw[getD_replicate_false] at hl;cases hl),fun t _ ht=>getD_in (by simpa using ht) (getD_replicate_false _ _)⟩,Ext.refl _,rfl,rfl,fun _ _=>rfl,
   fun i o d u _ _ _ hl=>(by rw[getD_replicate_false] at hl;cases hl),fun i o d u _ _ _ hl=>(by rw[getD_replicate_false] at hl;cases hl),fun i _ _ hl=>(by rw[getD_replicate_false] at hl;cases hl),fun i j _ _ _ _ hl=>(by rw[getD_replicate_false] at hl;cases hl),
   Au,fun b hb=>(by cases hb),fun i _ _ hl=>(by rw[getD_replicate_false] at hl;cases hl)⟩
 rwa [show n+(ops.size-n)=ops.size by omega] at hfin
theorem boxOf_at {T:Tabs} {ops:Array Oper} {ids:List Nat} {t:TypeId} {p:Tmp} {id:Nat} (h:boxOf T ops ids σ t p=some id):∃tt,BoxAt T ops ids σ t p id tt:=by
 unfold boxOf at h
 cases hT:T.T t with
 |none=>rw[hT] at h;simp at h
 |some tt=>
  rw[hT] at h
  cases hs:σ.fr.getD p .no with
  |ptr c r path t'=>
   rw[hs] at h
   cases path with
   |cons=>simp at h
   |nil=>
    simp only at h
    cases hc:ids.contains c||ops.toList.any (fun o=>o.dst==some p) with
    |true=>rw[hc] at h;simp at h
    |false=>
     rw[hc] at h
     simp only[cond_false] at h
     cases hf:σ.find c with
     |none=>rw[hf] at h;simp at h
     |some y=>
      rw[hf] at h
      simp only at h
      cases hty:Ty.beq y.t tt with
      |false=>rw[hty] at h;simp at h
      |true=>
       rw[hty] at h
       simp only[cond_true,AJ] at h
       subst h
       simp only[BP] at hc
       refine⟨tt,hT,fun j q hq he=>?_,⟨r,t',?_⟩,y,find_mem hf,Ty.eq_of_beq hty,by simpa using hc.1⟩
       ·have:=BU.1 hc.2 q (by have:=Array.mem_of_getElem? hq;simpa using this)
        simp[he] at this
       ·rw[AO] at hs
        cases hp:σ.fr[p]? with
        |none=>rw[hp] at hs;simp at hs
        |some s=>rw[hp] at hs;simp at hs;rw[hs]
  |_=>rw[hs] at h;simp at h
theorem late_at {T:Tabs} {ops:Array Oper} {ids:List Nat} {m n:Nat} {i:Nat} {o:Oper} (h:lateOk T ops m n ids σ=true) (hn:n<ops.size) (hi:i<m) (ho:ops[i]?=some o) (hla:lateB ops m n i=true) (hba:bareOp o=false):LateAt T ops ids m n σ i o:=by
 simp only[lateOk,AQ,beq_iff_eq,A7,AD] at h
 rcases h with h|h
 ·omega
 ·have h:=h i hi
  rw[hla,ho] at h
  simp only[BD,BS,false_or,hba,AQ,A3] at h
  obtain⟨hg,h⟩:=h
  split at h
  ·rename_i t p hop
   split at h
   ·rename_i id hb
    obtain⟨tt,hbox⟩:=boxOf_at hb
    refine⟨by simpa using hg,t,p,id,tt,hop,hbox,fun j oj hoj hji hw1 hw2=>?_⟩
    simp only[A7,AD] at h
    have h:=h j (AX.1 hoj).1
    rw[hw1,hw2,hoj] at h
    simp only[AQ,beq_iff_eq,A3,decide_eq_true_eq,Ab,BS,or_false] at h
    rcases h with(h|h)|⟨h1,h2⟩
    ·exact absurd h hji
    ·exact .inl h
    ·refine .inr ⟨h1,?_⟩
     simp only[lateQ,AQ,A3] at h2
     rcases h2 with h2|⟨hg2,h2⟩
     ·exact .inl h2
     ·right
      have hg2:oj.guard=none:=by simpa using hg2
      split at h2
      ·rename_i t2 p2 hop2
       exact .inl ⟨hg2,t2,p2,hop2⟩
      ·rename_i t2 p2 x2 hop2
       split at h2
       ·rename_i p2
        simp only[A3] at h2
        obtain⟨hd2,h2⟩:=h2
        split at h2
        ·rename_i id2 hb2
         obtain⟨tt2,hbox2⟩:=boxOf_at hb2
         exact .inr ⟨hg2,by simpa using hd2,t2,p2,x2,id2,tt2,hop2,hbox2,by simpa using h2⟩
        ·cases h2
       ·cases h2
      ·cases h2
   ·cases h
  ·cases h
theorem draw_g (hmix:P.follows .mixedOrders=true) (T:Tabs) (hT:TabOk P T.T) (hF:FOk P T.F) {id:Nat} {ops:Array Oper} {m n:Nat} {k:XK->St->Option R} {r:R} (hB:mixL ops m n=true) (hm1:m<=ops.size) (hmn:m<=n) (hn1:n<=ops.size)
  (hchn:gChain T ops m=true) {ids:List Nat} (hlate:lateOk T ops m n ids σ=true) (hnews:∀i o,m<=i->i<n->ops[i]?=some o->isNew T o=true)
  (h:gK T (headD ops n) ops ids (ops.toList.zipIdx.take m) σ (fun σ=>opsK T ops (ops.size+1) [] R (ops.toList.zipIdx.drop m) σ (k .nor))=some r) (hr:RelE X E σ a.tmps w):
  (B0 id ops true).wp P (Ends X (.region id ops true) a (fun x σ'=>k x σ'=some r)) a w:=by
 have H:=head_okL hB
 have hdst:∀i o,i<m->ops[i]?=some o->∃d,o.dst=some d:=by
  intro i o hi ho
  simp only[mixL,A3,decide_eq_true_eq,A7,AD] at hB
  have h:=hB.1.2 i (by omega)
  rw[ho] at h
  simp only[A3] at h
  cases hd:o.dst with
  |none=>rw[hd] at h;simp at h
  |some d=>exact⟨d,rfl⟩
 have hext:Ext w {w with drawn:=w.drawn+1}:=⟨rfl,rfl,rfl,AP _,fun _ _=>rfl⟩
 have hr0:=hr.ext hext
 have hc0:=contig_zipIdx ops.toList 0
 have hzl:ops.toList.zipIdx.length=ops.size:=by simp
 have hlen:(ops.toList.zipIdx.take m).length=m:=by simp;omega
 obtain⟨S,B,σ1,_,g1,g2,g3,g4,g5⟩:=g_cert (P:=P) (X:=X) (σ:=σ) T hT hF H (S:=fun _=>.no) (B:=fun _=>σ.bx) h (contig_take hc0) (fun q hq=>zipIdx_at q (Al hq)) (by rw[hlen];omega) (fun q hq=>by
   obtain⟨j,hj⟩:=AB hq
   rw[AE] at hj
   split at hj
   ·obtain⟨e1,e2⟩:=zip_at hj
    exact hdst j q.1 (by assumption) e2
   ·cases hj) ⟨SameB.refl σ,fun t s ht=>.inr (.inl ⟨fun j p hj=>by omega,ht⟩)⟩ (fun j _=>rfl)
 rw[hlen,Av] at g2 g3 g4
 have hch:∀i j,i<m->j<i->efB T ops i=true->efB T ops j=true->BK .any ops i j=true:=by
  intro i j hi hj h1 h2
  simp only[gChain,A7,AD] at hchn
  have:=hchn i hi j hj
  unfold efB at h1 h2
  cases hoi:ops[i]? with
  |none=>rw[hoi] at h1;cases h1
  |some oi=>
   cases hoj:ops[j]? with
   |none=>rw[hoj] at h2;cases h2
   |some oj=>
    rw[hoi] at h1
    rw[hoj] at h2
    rw[hoi,hoj] at this
    simp only[h1,h2,Bool.and_self,BD,Ba] at this
    exact this
 refine wp_region_any hmix ?_
 have hinfo:∀i,m<=i->i<n->∃o,ops[i]?=some o/\NewAt P o (newInf T (ops[i]?.getD default)).1 (newInf T (ops[i]?.getD default)).2.1 (newInf T (ops[i]?.getD default)).2.2:=by
  intro i h1 h2
  have hlt:i<ops.size:=by omega
  have ho:ops[i]?=some ops[i]:=A5 hlt
  refine⟨_,ho,?_⟩
  rw[ho,AH]
  exact new_at T hT (hnews i _ h1 h2 ho)
 have hfin:=g_any T hT (inf:=fun i=>newInf T (ops[i]?.getD default)) (Q:=Ends X (.region id ops true) a (fun x σ'=>k x σ'=some r)) (fun c a w h=>by obtain⟨x,hx,_⟩:=h;cases x<;>exact hx) hB H hr0 (fun i o hi ho=>g2 i o (by omega) hi ho) g4 hch (fun hlt i o hi ho hla hba=>late_at hlate hlt hi ho hla hba) hinfo (fun a' w' bl lb listed hl inv=>by
   have hlen2:((ops.toList.zipIdx.drop m).take (n-m)).length=n-m:=by simp;omega
   have hsplit:(ops.toList.zipIdx.drop m)=(ops.toList.zipIdx.drop m).take (n-m)++ops.toList.zipIdx.drop n:=by
    conv=>lhs;rw[<-Af (n-m) (ops.toList.zipIdx.drop m)]
    rw[As,show m+(n-m)=n by omega]
   rw[hsplit] at g5
   have hnew:∀ (j:Nat) q,((ops.toList.zipIdx.drop m).take (n-m))[j]?=some q->j<n-m/\q.2=m+j/\ops[m+j]?=some q.1:=by
    intro j q hj
    rw[AE] at hj
    split at hj
    ·rename_i hjl
     rw[AL] at hj
     obtain⟨e1,e2⟩:=zip_at hj
     exact⟨hjl,e1,e2⟩
    ·cases hj
   have hq:∀q∈(ops.toList.zipIdx.drop m).take (n-m),m<=q.2/\q.2<n/\ops[q.2]?=some q.1:=by
    intro q hq
    obtain⟨j,hj⟩:=AB hq
    obtain⟨j1,j2,j3⟩:=hnew j q hj
    exact⟨by omega,by omega,by rw[j2];exact j3⟩
   have hinf:∀q∈(ops.toList.zipIdx.drop m).take (n-m),newInf T (ops[q.2]?.getD default)=newInf T q.1:=fun q h=>by rw[(hq q h).2.2,AH]
   have d4:∀i,m<=i->i<n->_:=fun i h1 h2=>inv.new i h1 h2 (hl i h2)
   have d5:∀i j,m<=i->i<n->m<=j->j<n->bl i=bl j->i=j:=fun i j h1 h2 h3 h4=>inv.inj i j h1 h2 h3 h4 (hl i h2) (hl j h4)
   have hbl:(((ops.toList.zipIdx.drop m).take (n-m)).map (fun q=>bl q.2)).Nodup:=by
    refine Ae.2 fun i j hi hj hij he=>?_
    have hi':i<((ops.toList.zipIdx.drop m).take (n-m)).length:=by simpa using hi
    have hj':j<((ops.toList.zipIdx.drop m).take (n-m)).length:=by simpa using hj
    simp only[B1] at he
    obtain⟨i1,i2,_⟩:=hnew i _ (A4 hi')
    obtain⟨j1,j2,_⟩:=hnew j _ (A4 hj')
    have:=d5 _ _ (by omega) (by omega) (by omega) (by omega) he
    omega
   have hwhs:X.w0.heap.size<=w.heap.size:=hr.fr.size
   have hfresh:∀q∈(ops.toList.zipIdx.drop m).take (n-m),w.heap.size<=bl q.2/\bl q.2<w'.heap.size:=fun q h=>⟨(d4 q.2 (hq q h).1 (hq q h).2.1).2.1,(d4 q.2 (hq q h).1 (hq q h).2.1).2.2.1⟩
   have hdist:∀ (i j:Nat) p q,((ops.toList.zipIdx.drop m).take (n-m))[i]?=some p->((ops.toList.zipIdx.drop m).take (n-m))[j]?=some q->i≠j->(newInf T p.1).1≠(newInf T q.1).1:=by
    intro i j p q hp hq' hij he
    obtain⟨i1,i2,i3⟩:=hnew i p hp
    obtain⟨j1,j2,j3⟩:=hnew j q hq'
    have e1:=(new_at (P:=P) T hT (hnews (m+i) p.1 (by omega) (by omega) i3)).dst
    have e2:=(new_at (P:=P) T hT (hnews (m+j) q.1 (by omega) (by omega) j3)).dst
    rw[he] at e1
    have:=H.inj (m+i) p.1 (m+j) q.1 _ (by omega) i3 (by omega) j3 e1 e2
    omega
   have hnd:∀q∈(ops.toList.zipIdx.drop m).take (n-m),q.1.dst=some (newInf T q.1).1:=fun q h=>(new_at (P:=P) T hT (hnews q.2 q.1 (hq q h).1 (hq q h).2.1 (hq q h).2.2)).dst
   obtain⟨y1,y2,y3⟩:=fold_at (f:=fun q=>(newInf T q.1).1) (g:=fun q=>a.tmps.getD (newInf T q.1).1 undef) (A0:=a'.tmps) hdist
   generalize hA0:((ops.toList.zipIdx.drop m).take (n-m)).foldl (fun A q=>A.setIfInBounds (newInf T q.1).1 (a.tmps.getD (newInf T q.1).1 undef)) a'.tmps=A0 at y1 y2 y3
   have hsz:a'.tmps.size=a.tmps.size:=inv.siz
   have hold:∀q∈(ops.toList.zipIdx.drop m).take (n-m),A0[(newInf T q.1).1]?=a.tmps[(newInf T q.1).1]?:=by
    intro q h
    rw[y3 q h]
    by_cases hlt:(newInf T q.1).1<a.tmps.size
    ·rw[AS (by rw[hsz];exact hlt),A5 hlt,AM,A5 hlt,AH]
    ·rw[AZ (by rw[B3,hsz];exact Ah hlt),AZ (Ah hlt)]
   have hr':RelE X (E.outs (lb++E.out)) {σ with bx:=B m} a.tmps w':=by
    obtain⟨c,hc,hrc,hlc⟩:=inv.full
    have hnone:∀j,c<=j->j<m->efB T ops j=false:=by
     intro j h1 h2
     cases hej:efB T ops j with
     |false=>rfl
     |true=>have:=(hlc j h2 hej).1 (hl j (by omega));omega
    have hBe:B m=B c:=by
     have key:∀i,c<=i->i<=m->B i=B c:=by
      intro i
      induction i with
      |zero=>intro h1 _;rw[show c=0 by omega]
      |succ i ihi=>
       intro h1 h2
       by_cases hce:c=i+1
       ·rw[hce]
       ·rcases g2 i _ (by omega) (by omega) (A5 (show i<ops.size by omega)) with⟨_,⟨q1,_⟩|⟨_,q2,_⟩⟩
        ·rw[hnone i (by omega) (by omega)] at q1;cases q1
        ·rw[q2];exact ihi (by omega) (by omega)
     exact key m hc (AP m)
    rw[hBe];exact hrc
   have hKp:Keep w' w' (Fz X (E.outs (lb++E.out)) (poison ids σ) w') (Fz X (E.outs (lb++E.out)) ({σ with bx:=B m}:St) w') (E.outs (lb++E.out)) (E.outs (lb++E.out)) (poison ids σ) ({σ with bx:=B m}:St):=
    keep_bx (by rw[<-g4 m (AP m),poison_ids]) rfl rfl rfl hr'.ge
   have hr1:RelE X (E.outs (lb++E.out)) σ1 A0 w':=by
    refine hr'.frames g3.same (by rw[y1];exact hsz) (fun t s v h1 h2=>?_)
    by_cases ht:∃q∈(ops.toList.zipIdx.drop m).take (n-m),(newInf T q.1).1=t
    ·obtain⟨q,hq',rfl⟩:=ht
     rw[hold q hq'] at h2
     rcases g3.slot _ s h1 with q1|⟨q1,q2⟩|⟨j,p,q1,q2,q3,q4⟩
     ·subst q1;trivial
     ·exact hr'.slot _ s v q2 h2
     ·have:=H.inj j p q.2 q.1 _ (by omega) q2 (hq q hq').2.1 (hq q hq').2.2 q3 (hnd q hq')
      have:=(hq q hq').1
      omega
    ·rw[y2 t (fun q h e=>ht ⟨q,h,e⟩)] at h2
     rcases g3.slot t s h1 with q1|⟨q1,q2⟩|⟨j,p,q1,q2,q3,q4⟩
     ·subst q1;trivial
     ·have:a'.tmps[t]?=a.tmps[t]?:=inv.oth t fun i o hi ho he=>by
       rcases BI i m with him|him
       ·exact q1 i o him ho he
       ·have hlt:i-m<((ops.toList.zipIdx.drop m).take (n-m)).length:=by rw[hlen2];omega
        obtain⟨k1,k2,k3⟩:=hnew (i-m) _ (A4 hlt)
        rw[show m+(i-m)=i by omega,ho] at k3
        refine ht ⟨_,Ai hlt,?_⟩
        have:=hnd _ (Ai hlt)
        rw[<-AG k3,he] at this
        exact(AG (AG k3▸this)).symm
      rw[this] at h2
      exact hr'.slot t s v q2 h2
     ·subst q4
      exact hKp.slot (inv.slt j p t v q1 q2 q3 (hl j (by omega)) h2)
   have hnodup:(((ops.toList.zipIdx.drop m).take (n-m)).map (fun q=>bl q.2)++E.out).Nodup:=by
    have ho:E.out.Nodup:=by
     have:=hr.nodup
     simp only[owned] at this
     exact(A8.1 (A8.1 this).2.1).2.1
    refine A8.2 ⟨hbl,ho,fun b hb c hc he=>?_⟩
    obtain⟨q,hq',rfl⟩:=AT.1 hb
    have h1:=(hfresh q hq').1
    have h2:c<w.heap.size:=(hr.lt c (mem_out hr hc)).1
    omega
   have hw:=hr1.world (w1:=w') (l:=((ops.toList.zipIdx.drop m).take (n-m)).map (fun q=>bl q.2)++E.out) (fun b hb _=>rfl) hr1.fr (AP _) hnodup (fun b hb=>by
    rcases Am.1 hb with h|h
    ·obtain⟨q,hq',rfl⟩:=AT.1 h
     exact⟨.inl (AI _ (inv.lmem q.2 (hq q hq').1 (hq q hq').2.1 (hl q.2 (hq q hq').2.1))),(hfresh q hq').2⟩
    ·exact⟨.inl (AV _ h),Aj (hr0.lt b (mem_out hr0 h)).1 inv.hsz⟩)
   obtain⟨n',σ2,E2,f1,f2⟩:=boxes_ok T hT (bl:=bl) (fun q h=>hnews q.2 q.1 (hq q h).1 (hq q h).2.1 (hq q h).2.2) g5 hw.1 rfl (fun q h=>⟨Ax hwhs (hfresh q h).1,by
    have:=(d4 q.2 (hq q h).1 (hq q h).2.1).2.2.2
    rw[hinf q h] at this
    exact this⟩)
   obtain⟨z1,z2,z3⟩:=fold_at (f:=fun q=>(newInf T q.1).1) (g:=fun q=>Value.pointer (some ⟨bl q.2,0,none⟩)) (A0:=A0) hdist
   have hA:((ops.toList.zipIdx.drop m).take (n-m)).foldl (fun A q=>A.setIfInBounds (newInf T q.1).1 (.pointer (some ⟨bl q.2,0,none⟩))) A0=a'.tmps:=by
    apply An
    intro t
    by_cases ht:∃q∈(ops.toList.zipIdx.drop m).take (n-m),(newInf T q.1).1=t
    ·obtain⟨q,hq',rfl⟩:=ht
     rw[z3 q hq']
     have:=(d4 q.2 (hq q hq').1 (hq q hq').2.1).1 ⟨A0,a.defers⟩ (by rw[y1];exact hsz)
     rw[hinf q hq'] at this
     exact this.symm
    ·rw[z2 t (fun q hq' he=>ht ⟨q,hq',he⟩),y2 t (fun q hq' he=>ht ⟨q,hq',he⟩)]
   rw[hA] at f2
   have htail:=ops_ok T hT hF n' (l:=ops.toList.zipIdx.drop n) (i:=0+n) (a:=a') f1 f2 (contig_drop hc0) (fun q hq=>zipIdx_at q (AR hq)) (fun g hg=>by cases hg) (Ends X (.region id ops true) a (fun x σ'=>k x σ'=some r)) [] (fun a2 w2 he=>?_)
   ·rw[Ac,contig_snd (contig_drop (m:=n) hc0)] at htail
    simpa using htail
   ·obtain⟨e1,e2,e3,_,σ3,e4,e5⟩:=he
    refine⟨.nor,trivial,e1.trans inv.dfr,e2.trans inv.siz,fun i hi=>?_,σ3,e4,e5⟩
    have hw:∀q∈ops.toList.zipIdx,q.1.dst≠some i:=fun q hq=>mem_opsWrites hi q.1 (by
     have:=A9.1 hq
     exact AN this)
    rw[e3 i (fun q hq=>hw q (AR hq))]
    exact inv.oth i fun j o hj ho=>hw (o,j) (by
     rw[A9]
     simpa using ho))
  n (Array.replicate ops.size false) a {w with drawn:=w.drawn+1} (fun _=>0) [] (by
   rw[Ak.2 (fun i hi=>by
    have:i<n:=AD.1 hi
    have hlt:i<ops.size:=by omega
    simp[AM,hlt])]
   simp)
  ⟨⟨by simp,fun j oj _ hl=>(by rw[getD_replicate_false] at hl;cases hl),fun t _ ht=>getD_in (by simpa using ht) (getD_replicate_false _ _)⟩,⟨0,Bc _,(by rw[g1 0 (AP 0)];exact hr0),fun i _ _=>⟨fun hl=>(by rw[getD_replicate_false] at hl;cases hl),fun h=>by omega⟩⟩,AP _,rfl,rfl,fun _ _=>rfl,
   fun i o d u _ _ _ hl=>(by rw[getD_replicate_false] at hl;cases hl),fun i _ _ hl=>(by rw[getD_replicate_false] at hl;cases hl),fun i j _ _ _ _ hl=>(by rw[getD_replicate_false] at hl;cases hl),
   fun b hb=>(by cases hb),fun i _ _ hl=>(by rw[getD_replicate_false] at hl;cases hl)⟩
 rwa [show n+(ops.size-n)=ops.size by omega] at hfin
theorem poison_new {ids:List Nat} {nb:Bx} {N:Nat} {fr:List Slot} (h:nb.id∉ids):poison ids {σ with bx:=nb::σ.bx,nt:=N,fr:=fr}={poison ids σ with bx:=nb::(poison ids σ).bx,nt:=N,fr:=fr}:=by
 simp[poison,h]
theorem poison_nil (σ:St):poison [] σ=σ:=by
 obtain⟨fr,bx,al,fz,ln,nt⟩:=σ
 simp[poison]
theorem opd_poison (ids:List Nat) (σ:St) (x:Operand):opd (poison ids σ) x=opd σ x:=by
 cases x with
 |const v=>
  cases v with
  |slice a n c=>cases a<;>cases n<;>cases c<;>rfl
  |_=>rfl
 |_=>rfl
theorem boxes2_ok (T:Tabs) (hT:TabOk P T.T) {ops:Array Oper} {bl:Nat->Nat} {rest:List (Oper×Nat)} {k:St->Option R} {r:R} {ids:List Nat}:∀ {l:List (Oper×Nat)} {n:Nat} {σ:St} {E:Env} {A0:Array Value} {out:List Nat},(∀q∈l,isNew T q.1=true)->(∀id∈ids,id<σ.nt)->
  opsK T ops n [] R (l++rest) σ k=some r->RelE X E (poison ids σ) A0 w->E.out=l.map (fun q=>bl q.2)++out->(∀q∈l,X.w0.heap.size<=bl q.2/\w.heap[bl q.2]?=some (.cells (newInf T q.1).2.1 (newInf T q.1).2.2 (0,0)))->
  ∃n' σ' E',opsK T ops n' [] R rest σ' k=some r/\RelE X E' (poison ids σ') (l.foldl (fun A q=>A.setIfInBounds (newInf T q.1).1 (.pointer (some ⟨bl q.2,0,none⟩))) A0) w/\(∀i,i<σ.nt->E'.ad i=E.ad i)/\(∀t,(∀q∈l,q.1.dst≠some t)->σ'.fr[t]?=σ.fr[t]?)/\∀b∈σ.bx,b∈σ'.bx:=by
 intro l
 induction l with
 |nil=>intro n σ E A0 out _ _ h hr _ _;exact⟨n,σ,E,h,hr,fun _ _=>rfl,fun _ _=>rfl,fun _ h=>h⟩
 |cons q l ih=>
  intro n σ E A0 out hn hids h hr ho hb
  cases n with
  |zero=>simp[opsK] at h
  |succ n=>
   have hq:=hn q AC
   have hq2:=hq
   simp only[isNew,A3] at hq2
   obtain⟨⟨h1,h2⟩,h3⟩:=hq2
   have hg:q.1.guard=none:=by simpa using h2
   simp only[BH,opsK,openG,hg] at h
   split at h1
   ·rename_i e hop
    cases hTt:T.T e with
    |none=>rw[hTt] at h1;simp at h1
    |some t=>
     cases hd:q.1.dst with
     |none=>rw[hd] at h3;simp at h3
     |some d=>
      simp only[stepK,hop,hTt,hd] at h
      obtain⟨hb1,hb2⟩:=hb q AC
      have hinf:newInf T q.1=(d,(zc t).toArray,e):=by simp[newInf,hop,hTt,hd]
      rw[hinf] at hb2
      obtain⟨m,ht⟩:=hT.ty e _ hTt
      have hz:=rv_zero (w:=w) (A:=Fz X E (poison ids σ) w) (E:=E) hr.nt2 hr.no1.1 hr.no1.2 (tyB_ok ht)
      obtain⟨E',r1,r2,r3,r4⟩:=hr.outBox (of:=0) (t:=t) (v:=t.zero) (l:=l.map (fun q=>bl q.2)++out) ho hb1 hz (by simp) hb2 (by simp) (by
       intro j u hu
       rw[Av]
       unfold BM
       rw[hb2]
       simpa using hu)
      have r5:=r1.set d r3
      have hni:σ.nt∉ids:=fun h=>Nat.lt_irrefl _ (hids _ h)
      have he:poison ids ({σ with bx:=⟨σ.nt,⟨t,t.zero,List.replicate t.nl 1⟩⟩::σ.bx,nt:=σ.nt+1}.put (some d) (.ptr σ.nt t [] t))={{poison ids σ with bx:=⟨(poison ids σ).nt,⟨t,t.zero,List.replicate t.nl 1⟩⟩::(poison ids σ).bx,nt:=(poison ids σ).nt+1} with fr:=(poison ids σ).fr.set d (.ptr (poison ids σ).nt t [] t)}:=by
       simp[poison,St.put,hni]
      obtain⟨n',σ',E2,g1,g2,g3,g4,g5⟩:=ih (fun p hp=>hn p (A6 _ hp)) (fun id hid=>Ad (hids id hid)) h (by rw[he];exact r5) r2 (fun p hp=>hb p (A6 _ hp))
      refine⟨n',σ',E2,g1,?_,fun i hi=>(g3 i (Ad hi)).trans (r4 i hi),fun u hu=>?_,fun b hb=>g5 b (A6 _ hb)⟩
      ·rw[Ao,hinf]
       exact g2
      ·rw[g4 u (fun p hp=>hu p (A6 _ hp))]
       simp only[St.put]
       rw[BQ (fun e=>hu q AC (by rw[hd,e]))]
   ·cases h1
theorem setK_nil {t:Ty} {v:t.den} {ms:List Nat} {x:Val} {k:t.den->List Nat->Option R}:setK t v ms [] x k=(match cast? t x with
  |some (v,ms)=>k v ms
  |none=>none):=by cases t<;>rfl
theorem stores_ok (T:Tabs) {ops:Array Oper} {rest:List (Oper×Nat)} {k:St->Option R} {r:R}:∀ {L:List (Oper×Nat)} {ids:List Nat} {n:Nat} {σ:St},opsK T ops n [] R (L++rest) σ k=some r->RelE X E (poison ids σ) a.tmps w->L.length=ids.length->ids.Nodup->
  (∀ (j:Nat) q id,L[j]?=some q->ids[j]?=some id->q.1.guard=none/\q.1.dst=none/\∃t p x tt r0 t' cur e,q.1.op= .store t (.tmp p) x/\T.T t=some tt/\(σ.fr[p]?=some .no\/σ.fr[p]?=some (.ptr id r0 [] t'))/\(∃b∈σ.bx,b.id=id)/\
   w.heap[(E.ad id).1]?=some (.cells cur e (0,0))/\(E.ad id).2+tt.size<=cur.size/\(∀ (j:Nat) u,(a.eval x).cells[j]?=some u->cur[(E.ad id).2+j]?=some u)/\(tt.agg=false->tt.size=1)/\((∃s,tt.size<=s/\(id,E.ad id,s)∈X.pbx)\/X.w0.heap.size<=(E.ad id).1))->
  ∃n' σ',opsK T ops n' [] R rest σ' k=some r/\RelE X E σ' a.tmps w:=by
 intro L
 induction L with
 |nil=>
  intro ids n σ h hr hl _ _
  cases ids with
  |nil=>rw[poison_nil] at hr;exact⟨n,σ,h,hr⟩
  |cons _ _=>simp at hl
 |cons q L ih=>
  intro ids n σ h hr hl hnd hf
  cases ids with
  |nil=>simp at hl
  |cons id ids=>
   cases n with
   |zero=>simp[opsK] at h
   |succ n=>
    obtain⟨hg,hd,t,p,x,tt,r0,t',cur,e,hop,hTt,hfr,⟨b0,hb0,hb0i⟩,hb,hfit,hcell,hag,hM⟩:=hf 0 q id rfl rfl
    rw[Az] at hnd
    simp only[BH,opsK,openG,hg,stepK,hop,hTt,hd] at h
    cases hc:coe tt (opd σ x) with
    |none=>rw[hc] at h;cases h
    |some z=>
     obtain⟨v,ms⟩:=z
     simp only[hc] at h
     have hptr:opd σ (.tmp p)= .ptr id r0 [] t':=by
      rcases hfr with h1|h1
      ·exfalso
       have:opd σ (.tmp p)= .no:=by simp[opd,AO,h1]
       rw[this] at h
       cases h
      ·simp[opd,AO,h1]
     rw[hptr] at h
     simp only[writeK,isEl,cond_false] at h
     cases hfi:σ.find id with
     |none=>rw[hfi] at h;cases h
     |some y=>
      simp only[hfi] at h
      cases hbq:Ty.beq y.t r0 with
      |false=>rw[hbq] at h;cases h
      |true=>
       rw[hbq] at h
       simp only[cond_true,setK_nil] at h
       cases hca:cast? y.t ⟨tt,v,ms⟩ with
       |none=>rw[hca] at h;cases h
       |some z=>
        obtain⟨v',ms'⟩:=z
        rw[hca] at h
        simp only at h
        have hval:=cast?_some hca
        rw[<-hval] at h
        obtain⟨cs,c1,c2,c3⟩:=hr.coe (show V.coe tt (opd (poison (id::ids) σ) x)=some (v,ms) by rw[opd_poison];exact hc)
        have hcl:(a.eval x).cells=cs.toArray:=by rw[c2];exact cells_toVal c1 hag
        have hids2:(σ.bx.map (·.id)).Nodup:=by have:=hr.ids;rwa [poison_ids] at this
        have hmem:⟨id,y⟩∈σ.bx:=find_mem hfi
        have hr2:RelE X E (poison ids {σ with bx:=setBx id ⟨tt,v,ms⟩ σ.bx}) a.tmps w:=by
         refine hr.fill (id:=id) (x:=⟨tt,v,ms⟩) (cs:=cs) (cur:=cur) (e:=e) (by rw[poison_ids,poison_ids];exact setBx_ids σ.bx) rfl rfl rfl rfl rfl (fun b hb'=>?_) (hr.idlt _ (mem_poison (c:=⟨id,y⟩) hmem AC)) c1 c3 hb (by rw[c1.length];exact hfit) (fun j u hu=>?_) hM
         ·rcases poison_mem hb' with⟨h1,h2,c,h3,h4⟩|⟨h1,h2⟩
          ·right
           rcases setBx_mem hids2 h3 with rfl|⟨h5,_⟩
           ·exact absurd (by have h4':id=b.id:=h4;rw[h4'];exact h1) hnd.1
           ·have:=mem_poison (σ:=σ) (ids:=id::ids) h5 (by rw[h4];exact A6 _ h1)
            rw[h4] at this
            obtain⟨bi,bx⟩:=b
            dsimp only at h2
            subst h2
            exact this
          ·rcases setBx_mem hids2 h1 with rfl|⟨h5,h6⟩
           ·exact .inl rfl
           ·right
            simp only[poison,AT]
            refine⟨b,h5,?_⟩
            have:(id::ids).contains b.id=false:=by
             simp only[List.contains_eq_mem,decide_eq_false_iff_not,AW]
             exact fun h=>h.elim h6 h2
            rw[this];rfl
         ·rw[cell_of_row w _ _ cur e (0,0) hb]
          exact hcell j u (by rw[hcl];simpa using hu)
        refine ih h hr2 (by simpa using hl) hnd.2 (fun j q' id' h1 h2=>?_)
        obtain⟨k1,k2,t2,p2,x2,tt2,r2,t2',cur2,e2,k3,k4,k5,⟨b2,k6,k7⟩,k8⟩:=hf (j+1) q' id' (by simpa using h1) (by simpa using h2)
        refine⟨k1,k2,t2,p2,x2,tt2,r2,t2',cur2,e2,k3,k4,k5,?_,k8⟩
        have hm:id'∈(setBx id ⟨tt,v,ms⟩ σ.bx).map (·.id):=by rw[setBx_ids];exact AT.2 ⟨b2,k6,k7⟩
        obtain⟨b3,h3,h4⟩:=AT.1 hm
        exact⟨b3,h3,h4⟩
theorem storeIds_spec (T:Tabs):∀ {l:List Oper} {ids:List Nat},storeIds T σ l=some ids->ids.length=l.length/\ids.Nodup/\∀ (j:Nat) o id,l[j]?=some o->ids[j]?=some id->storeId T σ o=some id:=by
 intro l
 induction l with
 |nil=>intro ids h;simp[storeIds] at h;subst h;exact⟨rfl,Au,fun j o id h=>by simp at h⟩
 |cons o l ih=>
  intro ids h
  simp only[storeIds] at h
  cases h1:storeId T σ o with
  |none=>rw[h1] at h;simp at h
  |some id=>
   cases h2:storeIds T σ l with
   |none=>rw[h1,h2] at h;simp at h
   |some l'=>
    rw[h1,h2] at h
    simp only at h
    cases hc:l'.contains id with
    |true=>rw[hc] at h;simp at h
    |false=>
     rw[hc] at h
     simp only[cond_false,AJ] at h
     subst h
     obtain⟨k1,k2,k3⟩:=ih h2
     refine⟨by simp[k1],Az.2 ⟨by simpa using hc,k2⟩,fun j o' id' hj hi=>?_⟩
     cases j with
     |zero=>simp at hj hi;subst hj;subst hi;exact h1
     |succ j=>exact k3 j o' id' (by simpa using hj) (by simpa using hi)
theorem draw_early (hmix:P.follows .mixedOrders=true) (T:Tabs) (hT:TabOk P T.T) (hF:FOk P T.F) {id:Nat} {ops:Array Oper} {m n q0:Nat} {k:XK->St->Option R} {r:R} (hB:earlyB ops m n q0=true) (hm1:m<=ops.size) (hmn:m<=n) (hnq:n<=q0) (hq1:q0<=ops.size)
  (hall:∀i o,i<m->ops[i]?=some o->headOp T o.op=true) (hnews:∀i o,m<=i->i<n->ops[i]?=some o->isNew T o=true) (hstores:∀i o,n<=i->i<q0->ops[i]?=some o->isStore o=true)
  (h:earlyK T ops m n q0 σ (k .nor)=some r) (hr:RelE X E σ a.tmps w):
  (B0 id ops true).wp P (Ends X (.region id ops true) a (fun x σ'=>k x σ'=some r)) a w:=by
 have hn1:n<=ops.size:=by omega
 have hB0:=hB
 simp only[earlyB,A3,decide_eq_true_eq,A7,AD] at hB
 obtain⟨⟨⟨⟨⟨_,_⟩,_⟩,_⟩,hops⟩,_⟩:=hB
 have hrow:∀i o,i<q0->ops[i]?=some o->(decide (n<=i)||(o.dst.isSome&&(Ar n).all (fun j=>j==i||(match ops[j]? with|some p=> !(p.dst==o.dst)|none=>true))))=true/\
   ((decide (m<=i)&&decide (i<n))||(Ar n).all (fun j=>match(ops[j]?).bind (·.dst) with
    |some t=> !(o.looksAt ops).contains t||(decide (j<m)&&decide (j<i)&&BK .any ops i j)
    |none=>true))=true:=by
  intro i o hi ho
  have h:=hops i hi
  rw[ho] at h
  simp only[A3] at h
  exact⟨h.1.1.2,h.1.2⟩
 have H:HeadOk ops (headD ops n) m n:=by
  refine⟨hmn,fun t=>⟨fun h=>?_,fun⟨j,p,hj,hp,ht⟩=>?_⟩,fun i o j p t hi ho hj hp ht hl=>?_,fun i o j p t hi ho hj hp hd ht=>?_⟩
  ·obtain⟨o,ho,hd⟩:=AU.1 h
   obtain⟨j,hj⟩:=AB ho
   rw[AE] at hj
   split at hj
   ·exact⟨j,o,by assumption,by simpa using hj,hd⟩
   ·cases hj
  ·refine AU.2 ⟨p,?_,ht⟩
   refine AN (i:=j) ?_
   rw[AE,if_pos hj]
   simpa using hp
  ·have h4:=(hrow i o (by omega) ho).2
   simp only[AQ,A3,decide_eq_true_eq,A7,AD] at h4
   rcases h4 with h|h
   ·omega
   ·have:=h j hj
    rw[hp] at this
    simp only[Aw,ht,AQ,Ab,A3,decide_eq_true_eq] at this
    rcases this with h|h
    ·simp[Aq,hl] at h
    ·exact h.1.2
  ·have h3:=(hrow i o (by omega) ho).1
   simp only[AQ,decide_eq_true_eq,A3,A7,AD] at h3
   rcases h3 with h|⟨_,h3⟩
   ·omega
   ·have:=h3 j hj
    rw[hp] at this
    simp only[beq_iff_eq,Ab,beq_eq_false_iff_ne,ne_eq] at this
    rcases this with h|h
    ·exact h.symm
    ·exact absurd (ht.trans hd.symm) h
 have hdst:∀i o,i<m->ops[i]?=some o->∃d,o.dst=some d:=by
  intro i o hi ho
  have h3:=(hrow i o (by omega) ho).1
  simp only[AQ,decide_eq_true_eq,A3] at h3
  rcases h3 with h|⟨h,_⟩
  ·omega
  ·cases hd:o.dst with
   |none=>rw[hd] at h;simp at h
   |some d=>exact⟨d,rfl⟩
 unfold earlyK at h
 cases hout:((ops.toList.drop n).take (q0-n)).all (outPtr (headD ops n)) with
 |false=>rw[hout] at h;simp at h
 |true=>
 rw[hout] at h
 simp only[BD,cond_false] at h
 cases hids:storeIds T σ ((ops.toList.drop n).take (q0-n)) with
 |none=>rw[hids] at h;cases h
 |some ids=>
 rw[hids] at h
 simp only at h
 obtain⟨hil,hind,his⟩:=storeIds_spec T hids
 have hsl:((ops.toList.drop n).take (q0-n)).length=q0-n:=by simp;omega
 have hsat:∀i o,n<=i->i<q0->ops[i]?=some o->((ops.toList.drop n).take (q0-n))[i-n]?=some o:=by
  intro i o h1 h2 ho
  rw[AE,if_pos (by omega),AL,show n+(i-n)=i by omega]
  simpa using ho
 have hext:Ext w {w with drawn:=w.drawn+1}:=⟨rfl,rfl,rfl,AP _,fun _ _=>rfl⟩
 have hr0:=hr.ext hext
 have hc0:=contig_zipIdx ops.toList 0
 have hzl:ops.toList.zipIdx.length=ops.size:=by simp
 have hlen:(ops.toList.zipIdx.take m).length=m:=by simp;omega
 obtain⟨S,sk,σ1,_,g2,g3,_,g5,_⟩:=head_cert (P:=P) (X:=X) (σ0:=poison ids σ) T hT hF H (ops.size+1) (S:=fun _=>.no) (sk:=fun _=>false) h (contig_take hc0) (fun q hq=>zipIdx_at q (Al hq)) (by rw[hlen];omega) (fun q hq=>by
   obtain⟨j,hj⟩:=AB hq
   rw[AE] at hj
   split at hj
   ·obtain⟨e1,e2⟩:=zip_at hj
    exact⟨hall j q.1 (by assumption) e2,hdst j q.1 (by assumption) e2⟩
   ·cases hj) ⟨SameB.refl _,fun t s ht=>.inr (.inl ⟨fun j p hj=>by omega,ht⟩)⟩ (fun j hj=>by omega) (fun g hg=>by cases hg)
 rw[hlen,Av] at g2 g3
 cases hall2:((ops.toList.drop n).take (q0-n)).all (storeOk T σ1) with
 |false=>rw[hall2] at g5;simp at g5
 |true=>
 rw[hall2] at g5
 simp only[cond_true] at g5
 have hst:∀i o,n<=i->i<q0->ops[i]?=some o->StoreAt T σ σ1 (headD ops n) o (ids.getD (i-n) 0)/\ids.getD (i-n) 0∈ids:=by
  intro i o h1 h2 ho
  have hat:=hsat i o h1 h2 ho
  have hlt:i-n<ids.length:=by rw[hil,hsl];omega
  have hid:ids[i-n]?=some (ids.getD (i-n) 0):=by rw[AO,A4 hlt,AH]
  have hs:=his (i-n) o _ hat hid
  have hmem:o∈(ops.toList.drop n).take (q0-n):=AN hat
  have ho1:=A7.1 hout o hmem
  have ho2:=A7.1 hall2 o hmem
  have ho3:=hstores i o h1 h2 ho
  refine⟨?_,AN hid⟩
  generalize ids.getD (i-n) 0=id' at hs
  simp only[isStore,A3] at ho3
  refine⟨by simpa using ho3.1.2,by simpa using ho3.2,?_⟩
  unfold outPtr at ho1
  split at ho1
  ·rename_i t p x hop
   simp only[storeId,hop] at hs
   simp only[storeOk,hop] at ho2
   cases hTt:T.T t with
   |none=>rw[hTt] at hs;simp at hs
   |some tt=>
    rw[hTt] at hs ho2
    simp only at ho2
    split at hs
    ·rename_i tt' id0 r0 t' e1 e2
     cases hfi:σ.find id0 with
     |none=>rw[hfi] at hs;cases hs
     |some y=>
      rw[hfi] at hs
      simp only at hs
      cases hbq:Ty.beq y.t tt' with
      |false=>rw[hbq] at hs;cases hs
      |true=>
       rw[hbq] at hs
       simp only[cond_true,AJ] at hs
       subst hs
       obtain⟨z,hz⟩:=Option.isSome_iff_exists.1 ho2
       obtain⟨v,ms⟩:=z
       have hfr:σ.fr[p]?=some (.ptr id0 r0 [] t'):=by
        simp only[opd,AO] at e2
        cases hq:σ.fr[p]? with
        |none=>rw[hq] at e2;cases e2
        |some s=>rw[hq] at e2;simp only[AH] at e2;rw[e2]
       exact⟨t,p,x,tt,r0,t',y,v,ms,hop,hTt,by simpa using ho1,hfr,find_mem hfi,(Ty.eq_of_beq hbq).trans (AG e1).symm,hz⟩
    ·cases hs
  ·cases ho1
 have hidf:∀i j,n<=i->i<q0->n<=j->j<q0->ids.getD (i-n) 0=ids.getD (j-n) 0->i=j:=by
  intro i j h1 h2 h3 h4 he
  have hi:i-n<ids.length:=by rw[hil,hsl];omega
  have hj:j-n<ids.length:=by rw[hil,hsl];omega
  rw[AO,AO,A4 hi,A4 hj,AH,AH] at he
  have hpw:=Ae.1 hind
  rcases Nat.lt_trichotomy (i-n) (j-n) with h|h|h
  ·exact absurd he (hpw _ _ hi hj h)
  ·omega
  ·exact absurd he.symm (hpw _ _ hj hi h)
 refine wp_region_any hmix ?_
 have hinfo:∀i,m<=i->i<n->∃o,ops[i]?=some o/\NewAt P o (newInf T (ops[i]?.getD default)).1 (newInf T (ops[i]?.getD default)).2.1 (newInf T (ops[i]?.getD default)).2.2:=by
  intro i h1 h2
  have hlt:i<ops.size:=by omega
  have ho:ops[i]?=some ops[i]:=A5 hlt
  refine⟨_,ho,?_⟩
  rw[ho,AH]
  exact new_at T hT (hnews i _ h1 h2 ho)
 have hfin:=early_any T hT (D:=headD ops n) (ids:=ids) (idf:=fun i=>ids.getD (i-n) 0) (inf:=fun i=>newInf T (ops[i]?.getD default)) (Q:=Ends X (.region id ops true) a (fun x σ'=>k x σ'=some r)) (fun c a w h=>by obtain⟨x,hx,_⟩:=h;cases x<;>exact hx) hB0 H hr0 (fun i o hi ho=>g2 i o (by omega) hi ho) g3 hst hidf hinfo (fun a' w' bl lb listed hl inv=>by
   have hlen2:((ops.toList.zipIdx.drop m).take (n-m)).length=n-m:=by simp;omega
   have hsplit:(ops.toList.zipIdx.drop m)=(ops.toList.zipIdx.drop m).take (n-m)++ops.toList.zipIdx.drop n:=by
    conv=>lhs;rw[<-Af (n-m) (ops.toList.zipIdx.drop m)]
    rw[As,show m+(n-m)=n by omega]
   have hsplit2:(ops.toList.zipIdx.drop n)=(ops.toList.zipIdx.drop n).take (q0-n)++ops.toList.zipIdx.drop q0:=by
    conv=>lhs;rw[<-Af (q0-n) (ops.toList.zipIdx.drop n)]
    rw[As,show n+(q0-n)=q0 by omega]
   rw[hsplit] at g5
   have hnew:∀ (j:Nat) q,((ops.toList.zipIdx.drop m).take (n-m))[j]?=some q->j<n-m/\q.2=m+j/\ops[m+j]?=some q.1:=by
    intro j q hj
    rw[AE] at hj
    split at hj
    ·rename_i hjl
     rw[AL] at hj
     obtain⟨e1,e2⟩:=zip_at hj
     exact⟨hjl,e1,e2⟩
    ·cases hj
   have hq:∀q∈(ops.toList.zipIdx.drop m).take (n-m),m<=q.2/\q.2<n/\ops[q.2]?=some q.1:=by
    intro q hq
    obtain⟨j,hj⟩:=AB hq
    obtain⟨j1,j2,j3⟩:=hnew j q hj
    exact⟨by omega,by omega,by rw[j2];exact j3⟩
   have hinf:∀q∈(ops.toList.zipIdx.drop m).take (n-m),newInf T (ops[q.2]?.getD default)=newInf T q.1:=fun q h=>by rw[(hq q h).2.2,AH]
   have d4:∀i,m<=i->i<n->_:=fun i h1 h2=>inv.new i h1 h2 (hl i (by omega))
   have d5:∀i j,m<=i->i<n->m<=j->j<n->bl i=bl j->i=j:=fun i j h1 h2 h3 h4=>inv.inj i j h1 h2 h3 h4 (hl i (by omega)) (hl j (by omega))
   have hbl:(((ops.toList.zipIdx.drop m).take (n-m)).map (fun q=>bl q.2)).Nodup:=by
    refine Ae.2 fun i j hi hj hij he=>?_
    have hi':i<((ops.toList.zipIdx.drop m).take (n-m)).length:=by simpa using hi
    have hj':j<((ops.toList.zipIdx.drop m).take (n-m)).length:=by simpa using hj
    simp only[B1] at he
    obtain⟨i1,i2,_⟩:=hnew i _ (A4 hi')
    obtain⟨j1,j2,_⟩:=hnew j _ (A4 hj')
    have:=d5 _ _ (by omega) (by omega) (by omega) (by omega) he
    omega
   have hwhs:X.w0.heap.size<=w.heap.size:=hr.fr.size
   have hfresh:∀q∈(ops.toList.zipIdx.drop m).take (n-m),w.heap.size<=bl q.2/\bl q.2<w'.heap.size:=fun q h=>⟨(d4 q.2 (hq q h).1 (hq q h).2.1).2.1,(d4 q.2 (hq q h).1 (hq q h).2.1).2.2.1⟩
   have hdist:∀ (i j:Nat) p q,((ops.toList.zipIdx.drop m).take (n-m))[i]?=some p->((ops.toList.zipIdx.drop m).take (n-m))[j]?=some q->i≠j->(newInf T p.1).1≠(newInf T q.1).1:=by
    intro i j p q hp hq' hij he
    obtain⟨i1,i2,i3⟩:=hnew i p hp
    obtain⟨j1,j2,j3⟩:=hnew j q hq'
    have e1:=(new_at (P:=P) T hT (hnews (m+i) p.1 (by omega) (by omega) i3)).dst
    have e2:=(new_at (P:=P) T hT (hnews (m+j) q.1 (by omega) (by omega) j3)).dst
    rw[he] at e1
    have:=H.inj (m+i) p.1 (m+j) q.1 _ (by omega) i3 (by omega) j3 e1 e2
    omega
   have hnd:∀q∈(ops.toList.zipIdx.drop m).take (n-m),q.1.dst=some (newInf T q.1).1:=fun q h=>(new_at (P:=P) T hT (hnews q.2 q.1 (hq q h).1 (hq q h).2.1 (hq q h).2.2)).dst
   obtain⟨y1,y2,y3⟩:=fold_at (f:=fun q=>(newInf T q.1).1) (g:=fun q=>a.tmps.getD (newInf T q.1).1 undef) (A0:=a'.tmps) hdist
   generalize hA0:((ops.toList.zipIdx.drop m).take (n-m)).foldl (fun A q=>A.setIfInBounds (newInf T q.1).1 (a.tmps.getD (newInf T q.1).1 undef)) a'.tmps=A0 at y1 y2 y3
   have hsz:a'.tmps.size=a.tmps.size:=inv.siz
   have hold:∀q∈(ops.toList.zipIdx.drop m).take (n-m),A0[(newInf T q.1).1]?=a.tmps[(newInf T q.1).1]?:=by
    intro q h
    rw[y3 q h]
    by_cases hlt:(newInf T q.1).1<a.tmps.size
    ·rw[AS (by rw[hsz];exact hlt),A5 hlt,AM,A5 hlt,AH]
    ·rw[AZ (by rw[B3,hsz];exact Ah hlt),AZ (Ah hlt)]
   have hr':=inv.base
   have hr1:RelE X (E.outs (lb++E.out)) σ1 A0 w':=by
    refine hr'.frames g3.same (by rw[y1];exact hsz) (fun t s v h1 h2=>?_)
    by_cases ht:∃q∈(ops.toList.zipIdx.drop m).take (n-m),(newInf T q.1).1=t
    ·obtain⟨q,hq',rfl⟩:=ht
     rw[hold q hq'] at h2
     rcases g3.slot _ s h1 with q1|⟨q1,q2⟩|⟨j,p,q1,q2,q3,q4⟩
     ·subst q1;trivial
     ·exact hr'.slot _ s v q2 h2
     ·have:=H.inj j p q.2 q.1 _ (by omega) q2 (hq q hq').2.1 (hq q hq').2.2 q3 (hnd q hq')
      have:=(hq q hq').1
      omega
    ·rw[y2 t (fun q h e=>ht ⟨q,h,e⟩)] at h2
     rcases g3.slot t s h1 with q1|⟨q1,q2⟩|⟨j,p,q1,q2,q3,q4⟩
     ·subst q1;trivial
     ·have:a'.tmps[t]?=a.tmps[t]?:=inv.oth t fun i o hi ho he=>by
       rcases BI i m with him|him
       ·exact q1 i o him ho he
       ·have hlt:i-m<((ops.toList.zipIdx.drop m).take (n-m)).length:=by rw[hlen2];omega
        obtain⟨k1,k2,k3⟩:=hnew (i-m) _ (A4 hlt)
        rw[show m+(i-m)=i by omega,ho] at k3
        refine ht ⟨_,Ai hlt,?_⟩
        have:=hnd _ (Ai hlt)
        rw[<-AG k3,he] at this
        exact(AG (AG k3▸this)).symm
      rw[this] at h2
      exact hr'.slot t s v q2 h2
     ·subst q4
      exact inv.slt j p t v q1 q2 q3 (hl j (by omega)) h2
   have hnodup:(((ops.toList.zipIdx.drop m).take (n-m)).map (fun q=>bl q.2)++E.out).Nodup:=by
    have ho:E.out.Nodup:=by
     have:=hr.nodup
     simp only[owned] at this
     exact(A8.1 (A8.1 this).2.1).2.1
    refine A8.2 ⟨hbl,ho,fun b hb c hc he=>?_⟩
    obtain⟨q,hq',rfl⟩:=AT.1 hb
    have h1:=(hfresh q hq').1
    have h2:c<w.heap.size:=(hr.lt c (mem_out hr hc)).1
    omega
   have hw:=hr1.world (w1:=w') (l:=((ops.toList.zipIdx.drop m).take (n-m)).map (fun q=>bl q.2)++E.out) (fun b hb _=>rfl) hr1.fr (AP _) hnodup (fun b hb=>by
    rcases Am.1 hb with h|h
    ·obtain⟨q,hq',rfl⟩:=AT.1 h
     exact⟨.inl (AI _ (inv.lmem q.2 (hq q hq').1 (hq q hq').2.1 (hl q.2 (by have:=(hq q hq').2.1;omega)))),(hfresh q hq').2⟩
    ·exact⟨.inl (AV _ h),Aj (hr0.lt b (mem_out hr0 h)).1 inv.hsz⟩)
   have hpz:poison ids {σ1 with bx:=σ.bx}=σ1:=by
    have h1:=g3.same.bx
    obtain⟨fr,bx,al,fz,ln,nt⟩:=σ1
    simp only[poison] at h1 ⊢
    rw[h1]
   obtain⟨n',σ2,E2,f1,f2,f3,f4,f7⟩:=boxes2_ok T hT (bl:=bl) (ids:=ids) (fun q h=>hnews q.2 q.1 (hq q h).1 (hq q h).2.1 (hq q h).2.2) (fun id' hid'=>by
     obtain⟨j,hj⟩:=AB hid'
     have hjl:=(Aa.1 hj).1
     rw[hil,hsl] at hjl
     have hlt:n+j<ops.size:=by omega
     obtain⟨⟨_,_,_,_,_,_,_,_,y,_,_,_,_,_,_,hy,_,_⟩,_⟩:=hst (n+j) _ (by omega) (by omega) (A5 hlt)
     have h1:=hr.idlt _ hy
     rw[show n+j-n=j by omega,AO,hj,AH] at h1
     show id'<σ1.nt
     rw[g3.same.nt]
     exact h1) g5 (by rw[hpz];exact hw.1) rfl (fun q h=>⟨Ax hwhs (hfresh q h).1,by
    have:=(d4 q.2 (hq q h).1 (hq q h).2.1).2.2.2
    rw[hinf q h] at this
    exact this⟩)
   obtain⟨z1,z2,z3⟩:=fold_at (f:=fun q=>(newInf T q.1).1) (g:=fun q=>Value.pointer (some ⟨bl q.2,0,none⟩)) (A0:=A0) hdist
   have hA:((ops.toList.zipIdx.drop m).take (n-m)).foldl (fun A q=>A.setIfInBounds (newInf T q.1).1 (.pointer (some ⟨bl q.2,0,none⟩))) A0=a'.tmps:=by
    apply An
    intro t
    by_cases ht:∃q∈(ops.toList.zipIdx.drop m).take (n-m),(newInf T q.1).1=t
    ·obtain⟨q,hq',rfl⟩:=ht
     rw[z3 q hq']
     have:=(d4 q.2 (hq q hq').1 (hq q hq').2.1).1 ⟨A0,a.defers⟩ (by rw[y1];exact hsz)
     rw[hinf q hq'] at this
     exact this.symm
    ·rw[z2 t (fun q hq' he=>ht ⟨q,hq',he⟩),y2 t (fun q hq' he=>ht ⟨q,hq',he⟩)]
   rw[hA] at f2
   rw[hsplit2] at f1
   have hslen:((ops.toList.zipIdx.drop n).take (q0-n)).length=ids.length:=by rw[hil,hsl];simp;omega
   obtain⟨n2,σ4,f5,f6⟩:=stores_ok (a:=a') T f1 f2 hslen hind (fun j q' id' h1 h2=>by
    rw[AE] at h1
    split at h1
    ·rename_i hjl
     rw[AL] at h1
     obtain⟨e1,e2⟩:=zip_at h1
     obtain⟨⟨k1,k2,t,p,x,tt,r0,t',y,v,ms,k3,k4,k5,k6,k7,k8,k9⟩,_⟩:=hst (n+j) q'.1 (by omega) (by omega) e2
     have hidj:ids.getD (n+j-n) 0=id':=by rw[show n+j-n=j by omega,AO,h2,AH]
     rw[hidj] at k6 k7
     obtain⟨cur,e,s1,s2,s3⟩:=inv.sto (n+j) q'.1 t p x tt (by omega) (by omega) e2 k3 k4
     simp only[hidj] at s1 s2 s3
     have hidl:id'<σ.nt:=hr.idlt _ k7
     have had:E2.ad id'=E.ad id':=f3 id' (by show id'<σ1.nt;rw[g3.same.nt];exact hidl)
     obtain⟨tn,htt⟩:=hT.ty t _ k4
     refine⟨k1,k2,t,p,x,tt,r0,t',cur,e,k3,k4,?_,?_,by rw[had];exact s1,by rw[had];exact s2,by rw[had];exact s3 (hl _ (by omega)),tyB_scalar htt,?_⟩
     ·rw[f4 p (fun q hq' he=>k5 ((H.mem p).2 ⟨q.2,q.1,(hq q hq').2.1,(hq q hq').2.2,he⟩))]
      show σ1.fr[p]?=_\/σ1.fr[p]?=_
      have hlt:p<σ1.fr.length:=by rw[g3.same.len];exact(Aa.1 k6).1
      rcases g3.slot p _ (A4 hlt) with q1|⟨q1,q2⟩|⟨j',p',q1,q2,q3,q4⟩
      ·left;rw[A4 hlt,q1]
      ·right
       have q2':σ.fr[p]?=some σ1.fr[p]:=q2
       rw[A4 hlt,<-k6,q2']
      ·exact absurd ((H.mem p).2 ⟨j',p',by omega,q2,q3⟩) k5
     ·exact⟨⟨id',y⟩,f7 _ k7,rfl⟩
     ·have:=hr.srcb _ k7
      dsimp only at this
      rw[k8] at this
      rw[had]
      exact this
    ·cases h1)
   have htail:=ops_ok T hT hF n2 (l:=ops.toList.zipIdx.drop q0) (i:=0+q0) (a:=a') f5 f6 (contig_drop hc0) (fun q hq=>zipIdx_at q (AR hq)) (fun g hg=>by cases hg) (Ends X (.region id ops true) a (fun x σ'=>k x σ'=some r)) [] (fun a2 w2 he=>?_)
   ·rw[Ac,contig_snd (contig_drop (m:=q0) hc0)] at htail
    simpa using htail
   ·obtain⟨e1,e2,e3,_,σ3,e4,e5⟩:=he
    refine⟨.nor,trivial,e1.trans inv.dfr,e2.trans inv.siz,fun i hi=>?_,σ3,e4,e5⟩
    have hw:∀q∈ops.toList.zipIdx,q.1.dst≠some i:=fun q hq=>mem_opsWrites hi q.1 (by
     have:=A9.1 hq
     exact AN this)
    rw[e3 i (fun q hq=>hw q (AR hq))]
    exact inv.oth i fun j o hj ho=>hw (o,j) (by
     rw[A9]
     simpa using ho))
  q0 (Array.replicate ops.size false) a {w with drawn:=w.drawn+1} (fun _=>0) [] (by
   rw[Ak.2 (fun i hi=>by
    have:i<q0:=AD.1 hi
    have hlt:i<ops.size:=by omega
    simp[AM,hlt])]
   simp)
  ⟨⟨by simp,fun j oj _ hl=>(by rw[getD_replicate_false] at hl;cases hl),fun t _ ht=>getD_in (by simpa using ht) (getD_replicate_false _ _)⟩,by have:=hr0.poison ids;exact this,AP _,rfl,rfl,fun _ _=>rfl,
   fun i o d u _ _ _ hl=>(by rw[getD_replicate_false] at hl;cases hl),fun i o d u _ _ _ hl=>(by rw[getD_replicate_false] at hl;cases hl),fun i _ _ hl=>(by rw[getD_replicate_false] at hl;cases hl),fun i j _ _ _ _ hl=>(by rw[getD_replicate_false] at hl;cases hl),
   fun b hb=>(by cases hb),fun i _ _ hl=>(by rw[getD_replicate_false] at hl;cases hl),fun i o t p x tt h1 h2 ho hop hTt=>by
    obtain⟨⟨_,_,t2,p2,x2,tt2,r0,t',y,v,ms,k3,k4,k5,k6,k7,k8,k9⟩,_⟩:=hst i o h1 h2 ho
    rw[hop] at k3
    simp only[Op.store.injEq,Operand.tmp.injEq] at k3
    obtain⟨rfl,rfl,rfl⟩:=k3
    rw[hTt] at k4
    have:=AG k4
    subst this
    obtain⟨cs,c,e,b1,b2,b3,b4,b5⟩:=hr0.bx _ k7
    dsimp only at b1 b3 b4
    have hl:=b1.length
    rw[k8] at hl
    exact⟨c,e,b3,by rw[<-hl];exact b4,fun hli=>(by rw[getD_replicate_false] at hli;cases hli)⟩⟩
 rwa [show q0+(ops.size-q0)=ops.size by omega] at hfin
theorem draw_m (hmix:P.follows .mixedOrders=true) (T:Tabs) (hT:TabOk P T.T) (hF:FOk P T.F) {id:Nat} {ops:Array Oper} {m:Nat} {k:XK->St->Option R} {r:R} (hB:makB T ops m=true)
  (h:mK T (headD ops m) ops (ops.toList.zipIdx.take m) σ [] (fun l σ=>opsK T ops (ops.size+1) [] R (ops.toList.zipIdx.drop m) (thaw l (thin (headD ops m) σ)) (k .nor))=some r) (hr:RelE X E σ a.tmps w):
  (B0 id ops true).wp P (Ends X (.region id ops true) a (fun x σ'=>k x σ'=some r)) a w:=by
 simp only[makB,A3,A7,AD] at hB
 obtain⟨⟨⟨⟨_,_⟩,hB⟩,hlate⟩,hmade⟩:=hB
 have H:=head_ok hB
 obtain⟨⟨hns,hsel,hseq⟩,hop⟩:=mix_parts hB
 have hdst:∀i o,i<m->ops[i]?=some o->∃d,o.dst=some d:=by
  intro i o hi ho
  obtain⟨o',d,e1,e2,_⟩:=hop i hi
  rw[ho] at e1
  have:=AG e1
  subst this
  exact⟨d,e2⟩
 have hext:Ext w {w with drawn:=w.drawn+1}:=⟨rfl,rfl,rfl,AP _,fun _ _=>rfl⟩
 have hr0:=hr.ext hext
 have hc0:=contig_zipIdx ops.toList 0
 have hzl:ops.toList.zipIdx.length=ops.size:=by simp
 have hlen:(ops.toList.zipIdx.take m).length=m:=by simp;omega
 obtain⟨S,V,σ1,ml,_,g2,g3,g4,g5⟩:=m_cert (P:=P) (X:=X) (σ0:=σ) T hT hF H (S:=fun _=>.no) (V:=fun _=>⟨.unit,(),[]⟩) h (contig_take hc0) (fun q hq=>zipIdx_at q (Al hq)) (by rw[hlen];omega) (fun q hq=>by
   obtain⟨j,hj⟩:=AB hq
   rw[AE] at hj
   split at hj
   ·obtain⟨e1,e2⟩:=zip_at hj
    exact hdst j q.1 (by assumption) e2
   ·cases hj) ⟨SameB.refl σ,fun t s ht=>.inr (.inl ⟨fun j p hj=>by omega,ht⟩)⟩ ⟨[],Au,fun j hj=>(by cases hj),rfl⟩
 rw[hlen,Av] at g2 g3 g4
 obtain⟨js,j1,j2,rfl⟩:=g4
 refine wp_region_any hmix ?_
 have hlook:∀i o j p t,i<m->ops[i]?=some o->j<m->ops[j]?=some p->p.dst=some t->t∈o.looksAt ops->BK .any ops i j=true/\isMade T p=false:=by
  intro i o j p t hi ho hj hp ht hl
  obtain⟨o',d,e1,_,_,_,e5,_⟩:=hop i hi
  rw[ho] at e1
  have:=AG e1
  subst this
  refine⟨(e5 hi j p t hj hp ht hl).2,?_⟩
  have:=hmade i hi j hj
  rw[ho,hp] at this
  simp only[AQ,Ab,ht] at this
  rcases this with h|h
  ·exact h
  ·simp[Aq,hl] at h
 have hfin:=any_inv (P:=P) (ops:=ops) (n:=m) (Q:=Ends X (.region id ops true) a (fun x σ'=>k x σ'=some r)) (I:=fun listed a' w'=>∃bl,MInv T X E ops m S V σ a {w with drawn:=w.drawn+1} bl listed a' w') (fun c a w h=>by obtain⟨x,hx,_⟩:=h;cases x<;>exact hx) hsel hns hseq
  (fun hlt listed hh i hi hun=>by
   have hnl:∀i,i<m->lateB ops m m i=false:=by
    intro i hi
    rcases AQ _ _▸hlate with h|h
    ·have:m=ops.size:=by simpa using h
     omega
    ·have:=A7.1 h i (AD.2 hi)
     simpa using this
   exact tail_waits2 (fun i hi hl=>((hop i hi).choose_spec.choose_spec.2.2.2.2.2 (by omega)).2 hl) hseq (by omega) hh _ i rfl hi (hnl i hi) hun)
  (fun i hi=>by obtain⟨o,d,e1,_,e3,_⟩:=hop i hi;exact⟨o,e1,e3⟩)
  (fun l a w ⟨bl,h⟩=>h.head)
  (fun l a' w' i K hI hi him hK=>m_step T H hr0 (fun i o hi ho=>g2 i o (by omega) hi ho) hdst hlook l a' w' i K hI hi him hK)
  (fun listed a' w' hl ⟨bl,inv⟩=>by
   have hwhs:X.w0.heap.size<=w.heap.size:=hr.fr.size
   have hmk:∀j∈js,∃u,Fresh {w with drawn:=w.drawn+1} w' (V j) u (bl j)/\∀u',a'.tmps[((ops[j]?).bind (·.dst)).getD 0]?=some u'->u'=u:=by
    intro j hj
    obtain⟨hjm,p,hp,hm⟩:=j2 j hj
    obtain⟨d,hd⟩:=hdst j p hjm hp
    have:=inv.made j p d hjm hp hd hm (hl j hjm)
    rw[hp]
    simpa[hd] using this
   have hbl:∀b∈js.filterMap bl,w.heap.size<=b/\b<w'.heap.size:=by
    intro b hb
    obtain⟨j,hj,hjb⟩:=AU.1 hb
    obtain⟨u,⟨cs,_,_,_,_,q⟩,_⟩:=hmk j hj
    exact q b hjb
   have hbnd:(js.filterMap bl).Nodup:=by
    refine List.pairwise_filterMap.2 (List.Pairwise.imp_of_mem (fun {x y} hx hy hne b hb b' hb' he=>?_) j1)
    subst he
    obtain⟨hxm,p,hp,hpm⟩:=j2 x hx
    obtain⟨hym,q,hq,hqm⟩:=j2 y hy
    exact hne (inv.inj x y p q b hxm hym hp hq hpm hqm (hl x hxm) (hl y hym) hb hb')
   have hnodup:(js.filterMap bl++E.out).Nodup:=by
    have ho:E.out.Nodup:=by
     have:=hr.nodup
     simp only[owned] at this
     exact(A8.1 (A8.1 this).2.1).2.1
    refine A8.2 ⟨hbnd,ho,fun b hb c hc he=>?_⟩
    have h1:=(hbl b hb).1
    have h2:c<w.heap.size:=(hr.lt c (mem_out hr hc)).1
    omega
   have hbase:=(hr0.world (w1:=w') (l:=js.filterMap bl++E.out) (fun b hb _=>inv.ext.block b hb) (hr0.fr.ext inv.ext) inv.ext.size hnodup (fun b hb=>by
    rcases Am.1 hb with h|h
    ·exact⟨.inr (hbl b h).1,(hbl b h).2⟩
    ·exact⟨.inl h,Aj (hr0.lt b (mem_out hr0 h)).1 inv.ext.size⟩)).1
   have hthin:RelE X (E.outs (js.filterMap bl++E.out)) (thin (headD ops m) σ1) a'.tmps w':=by
    refine hbase.frames ⟨g3.same.bx,g3.same.al,g3.same.fz,g3.same.ln,g3.same.nt,(thin_len _ _ _).trans g3.same.len⟩ inv.siz (fun t s u h1 h2=>?_)
    have h1':(thinL (headD ops m) 0 σ1.fr)[t]?=some s:=h1
    rw[thinL_at] at h1'
    cases hs1:σ1.fr[t]? with
    |none=>rw[hs1] at h1';cases h1'
    |some s1=>
     rw[hs1,Av] at h1'
     simp only[BB,AJ] at h1'
     rcases g3.slot t s1 hs1 with q1|⟨q1,q2⟩|⟨j,p,q1,q2,q3,q4⟩
     ·subst q1
      have:s= .no:=by rw[<-h1'];cases(headD ops m).contains t<;>rfl
      subst this;trivial
     ·have hnD:(headD ops m).contains t=false:=by
       rw[Bool.eq_false_iff]
       intro hc
       obtain⟨j,p,hj,hp,he⟩:=(H.mem t).1 (by simpa using hc)
       exact q1 j p hj hp he
      rw[hnD] at h1'
      simp only[cond_false] at h1'
      subst h1'
      rw[inv.oth t (fun j p hj hp he=>q1 j p hj hp he)] at h2
      exact hbase.slot t s1 u q2 h2
     ·have hD:(headD ops m).contains t=true:=by simpa using(H.mem t).2 ⟨j,p,q1,q2,q3⟩
      rw[hD] at h1'
      simp only[cond_true] at h1'
      subst h1'
      subst q4
      obtain⟨_,_,_,hc⟩:=g2 j p (by omega) q1 q2
      rcases hc with⟨_,hn,_⟩|⟨hm,_⟩
      ·rw[hn];trivial
      ·exact thinS_ok (E:=E) rfl (inv.slt j p t u q1 q2 q3 hm (hl j q1) h2)
   obtain⟨E2,f2⟩:=thaw_ok (dj:=fun j=>((ops[j]?).bind (·.dst)).getD 0) (l:=E.out) hthin rfl hmk
   have htail:=ops_ok T hT hF (ops.size+1) (l:=ops.toList.zipIdx.drop m) (i:=0+m) (a:=a') g5 f2 (contig_drop hc0) (fun q hq=>zipIdx_at q (AR hq)) (fun g hg=>by cases hg) (Ends X (.region id ops true) a (fun x σ'=>k x σ'=some r)) [] (fun a2 w2 he=>?_)
   ·rw[Ac,contig_snd (contig_drop (m:=m) hc0)] at htail
    simpa using htail
   ·obtain⟨e1,e2,e3,_,σ3,e4,e5⟩:=he
    refine⟨.nor,trivial,e1.trans inv.dfr,e2.trans inv.siz,fun i hi=>?_,σ3,e4,e5⟩
    have hw:∀q∈ops.toList.zipIdx,q.1.dst≠some i:=fun q hq=>mem_opsWrites hi q.1 (by
     have:=A9.1 hq
     exact AN this)
    rw[e3 i (fun q hq=>hw q (AR hq))]
    exact inv.oth i fun j o hj ho=>hw (o,j) (by
     rw[A9]
     simpa using ho))
  m (Array.replicate ops.size false) a {w with drawn:=w.drawn+1} (by
   rw[Ak.2 (fun i hi=>by
    have:i<m:=AD.1 hi
    have hlt:i<ops.size:=by omega
    simp[AM,hlt])]
   simp)
  ⟨fun _=>none,⟨by simp,fun j oj _ hl=>(by rw[getD_replicate_false] at hl;cases hl),fun t _ ht=>getD_in (by simpa using ht) (getD_replicate_false _ _)⟩,Ext.refl _,rfl,rfl,fun _ _=>rfl,
   fun i o d u _ _ _ _ hl=>(by rw[getD_replicate_false] at hl;cases hl),fun i o d _ _ _ _ hl=>(by rw[getD_replicate_false] at hl;cases hl),fun i j _ _ _ _ _ _ _ _ _ hl=>(by rw[getD_replicate_false] at hl;cases hl)⟩
 rwa [show m+(ops.size-m)=ops.size by omega] at hfin
theorem draw_perm (hmix:P.follows .mixedOrders=true) (T:Tabs) (hT:TabOk P T.T) (hF:FOk P T.F) {id:Nat} {ops:Array Oper} {k:XK->St->Option R} {r:R} (hB:permB ops=true)
  (h:stepsK T (permL ops) σ (k .nor)=some r) (hr:RelE X E σ a.tmps w):
  (B0 id ops true).wp P (Ends X (.region id ops true) a (fun x σ'=>k x σ'=some r)) a w:=by
 simp only[permB,A3,A7,AD] at hB
 obtain⟨⟨⟨hsel,hg⟩,hall⟩,hlen⟩:=hB
 have hlen':(sched ops ops.size [] (Ar ops.size)).length=ops.size:=by simpa using hlen
 refine wp_region_any hmix ?_
 have hext:Ext w {w with drawn:=w.drawn+1}:=⟨rfl,rfl,rfl,AP _,fun _ _=>rfl⟩
 have hr0:=hr.ext hext
 have hpos:∀i∈sched ops ops.size [] (Ar ops.size),∃o,ops[i]?=some o:=permGo_at hg
 obtain⟨l,hl1,hl2,hl3⟩:∃l:List (Oper×Nat),l.map (·.2)=sched ops ops.size [] (Ar ops.size)/\l.map (·.1)=permL ops/\∀q∈l,ops[q.2]?=some q.1:=by
  unfold permL
  generalize sched ops ops.size [] (Ar ops.size)=π at hpos
  induction π with
  |nil=>exact⟨[],rfl,rfl,fun q hq=>by cases hq⟩
  |cons i π ih=>
   obtain⟨o,ho⟩:=hpos i AC
   obtain⟨l,e1,e2,e3⟩:=ih (fun j hj=>hpos j (A6 _ hj))
   refine⟨(o,i)::l,by simp[e1],by simp[e2,ho],fun q hq=>?_⟩
   rcases AW.1 hq with h|h
   ·rw[h];exact ho
   ·exact e3 q h
 rw[<-hl2] at h
 have hw:=steps_ok (ops:=ops) T hT hF l h hr0 hl3 (Ends X (.region id ops true) a (fun x σ'=>k x σ'=some r)) (fun a2 w2 he=>by
  obtain⟨e1,e2,e3,_,σ3,e4,e5⟩:=he
  refine⟨.nor,trivial,e1,e2,fun i hi=>?_,σ3,e4,e5⟩
  exact e3 i fun q hq=>mem_opsWrites hi q.1 (AN (i:=q.2) (by simpa using hl3 q hq)))
 rw[hl1] at hw
 have:=any_of_perm (P:=P) (fun c a w h=>by obtain⟨x,hx,_⟩:=h;cases x<;>exact hx) hsel _ [] (Array.replicate ops.size false) a {w with drawn:=w.drawn+1} hg (by simp) (fun i=>by
  rw[getD_replicate_false];simp) (fun i hi=>.inr (by simpa using hall i hi)) hw
 rwa [hlen'] at this
theorem draw_ch (hmix:P.follows .mixedOrders=true) (T:Tabs) (hT:TabOk P T.T) (hF:FOk P T.F) {id:Nat} {ops:Array Oper} {m n:Nat} {nd:List Nat} {k:XK->St->Option R} {r:R} (hC:chB T ops m n nd=true) (hnews:∀i o,m<=i->i<n->ops[i]?=some o->isNew T o=true)
  (h:lsK T ops (lsAt T ops nd m 0) σ (fun σ=>chK T ops nd m (chL T ops m) 1 σ fun σ=>opsK T ops (ops.size+1) [] R (ops.toList.zipIdx.drop m) σ (k .nor))=some r) (hr:RelE X E σ a.tmps w):
  (B0 id ops true).wp P (Ends X (.region id ops true) a (fun x σ'=>k x σ'=some r)) a w:=by
 have H:=ch_ok hC
 obtain⟨⟨hn1,hsel,htl⟩,hop⟩:=mix_parts H.mix
 have hmn:=H.mn
 have hext:Ext w {w with drawn:=w.drawn+1}:=⟨rfl,rfl,rfl,AP _,fun _ _=>rfl⟩
 have hr0:=hr.ext hext
 have hc0:=contig_zipIdx ops.toList 0
 have hzl:ops.toList.zipIdx.length=ops.size:=by simp
 refine wp_region_any hmix ?_
 have hinfo:∀i,m<=i->i<n->∃o,ops[i]?=some o/\NewAt P o (newInf T (ops[i]?.getD default)).1 (newInf T (ops[i]?.getD default)).2.1 (newInf T (ops[i]?.getD default)).2.2:=by
  intro i h1 h2
  have hlt:i<ops.size:=by omega
  have ho:ops[i]?=some ops[i]:=A5 hlt
  refine⟨_,ho,?_⟩
  rw[ho,AH]
  exact new_at T hT (hnews i _ h1 h2 ho)
 have hnd0:∀j,m<=j->j<n->∃q,ops[j]?=some q/\q.dst=some (newInf T (ops[j]?.getD default)).1:=fun j h1 h2=>by
  obtain⟨o,ho,hN⟩:=hinfo j h1 h2
  exact⟨o,ho,hN.dst⟩
 have hwhs:X.w0.heap.size<=w.heap.size:=hr.fr.size
 obtain⟨σ1,A1,i1,i2,i3,i4,i5⟩:=ls_stage (X:=X) (E:=E) (w:={w with drawn:=w.drawn+1}) hT H h hr0 (fun i _ _ hlt=>by omega)
 have hfin:=any_late (P:=P) (ops:=ops) (m:=m) (n:=n) (Q:=Ends X (.region id ops true) a (fun x σ'=>k x σ'=some r)) (I:=fun listed a' w'=>∃p σp Ap Ep bl l,CInv T X ops m n nd (fun i=>newInf T (ops[i]?.getD default)) (fun σ=>opsK T ops (ops.size+1) [] R (ops.toList.zipIdx.drop m) σ (k .nor)) r a {w with drawn:=w.drawn+1} p σp Ap Ep bl l listed a' w')
  (fun c a w h=>by obtain⟨x,hx,_⟩:=h;cases x<;>exact hx) H.mix (fun l a' w' ⟨_,_,_,_,_,_,inv⟩=>inv.head)
  (fun listed a' w' i K ⟨p,σp,Ap,Ep,bl,l,inv⟩ hi hin hK=>by
   by_cases him:i<m
   ·obtain⟨o,ho,hk⟩:=H.kind i him
    rcases hk with hco|⟨hco,hlo⟩
    ·unfold wpOp
     have hw:BE o (yielded ops a'.tmps)=true:=by simp[BE,ch_guard hco]
     simp only[ho,hw,if_true]
     left
     refine Oper.wp_mono (fun a2 w2 h2=>?_) (inv.chain hT hF (fun c a w h=>by obtain⟨x,hx,_⟩:=h;cases x<;>exact hx) (show X.w0.heap.size<=({w with drawn:=w.drawn+1}:World).heap.size from hwhs) H hi him ho hco hnd0)
     obtain⟨σ2,A2,E2,inv2⟩:=h2
     exact hK _ _ ⟨_,_,_,_,_,_,inv2⟩
    ·obtain⟨v,hv,hnext⟩:=inv.loose hT H hi him ho hlo (by simp only[chAt,ho];exact hco) hnd0
     exact FixV.run ho hv (Ext.refl _) (fun w2 hx=>by
      obtain⟨A2,inv2⟩:=hnext w2 hx
      exact hK _ _ ⟨_,_,_,_,_,_,inv2⟩)
   ·obtain⟨o,ho,hN⟩:=hinfo i (by omega) hin
    unfold wpOp
    have hw:BE o (yielded ops a'.tmps)=true:=by simp[BE,hN.guard]
    simp only[ho,hw,if_true]
    left
    unfold Oper.wp
    rw[hN.run a' w',Oper.upon_value]
    exact hK _ _ ⟨_,_,_,_,_,_,inv.alloc H hi (by omega) hin ho hN.dst hnd0⟩)
  (fun listed a' w' i o ⟨p,σp,Ap,Ep,bl,l,inv⟩ hi him ho hb=>by
   obtain⟨hlo,hco⟩:=bare_loose (T:=T) hb
   obtain⟨v,hv,hnext⟩:=inv.loose hT H hi him ho hlo (by simp only[chAt,ho];exact hco) hnd0
   obtain⟨A2,inv2⟩:=hnext w' (Ext.refl _)
   exact⟨v,bare_yields hb hv,_,_,_,_,_,_,inv2⟩)
  (fun listed a' w' hl ⟨p,σp,Ap,Ep,bl,lb,inv⟩=>by
   have hpl:p=(chL T ops m).length:=by
    refine Nat.le_antisymm inv.ple (Ah fun hlt=>?_)
    have hpi:(chL T ops m)[p]?=some (chL T ops m)[p]:=A4 hlt
    obtain⟨h1,_⟩:=ch_at hpi
    have h2:=inv.cnt1 _ h1 (hl _ (by omega))
    rw[H.c1 p _ hpi] at h2
    omega
   have g5:=inv.run
   rw[hpl,List.drop_length] at g5
   simp only[chK] at g5
   have hlen2:((ops.toList.zipIdx.drop m).take (n-m)).length=n-m:=by simp;omega
   have hsplit:(ops.toList.zipIdx.drop m)=(ops.toList.zipIdx.drop m).take (n-m)++ops.toList.zipIdx.drop n:=by
    conv=>lhs;rw[<-Af (n-m) (ops.toList.zipIdx.drop m)]
    rw[As,show m+(n-m)=n by omega]
   rw[hsplit] at g5
   have hnew:∀ (j:Nat) q,((ops.toList.zipIdx.drop m).take (n-m))[j]?=some q->j<n-m/\q.2=m+j/\ops[m+j]?=some q.1:=by
    intro j q hj
    rw[AE] at hj
    split at hj
    ·rename_i hjl
     rw[AL] at hj
     obtain⟨e1,e2⟩:=zip_at hj
     exact⟨hjl,e1,e2⟩
    ·cases hj
   have hq:∀q∈(ops.toList.zipIdx.drop m).take (n-m),m<=q.2/\q.2<n/\ops[q.2]?=some q.1:=by
    intro q hq
    obtain⟨j,hj⟩:=AB hq
    obtain⟨j1,j2,j3⟩:=hnew j q hj
    exact⟨by omega,by omega,by rw[j2];exact j3⟩
   have hinf:∀q∈(ops.toList.zipIdx.drop m).take (n-m),newInf T (ops[q.2]?.getD default)=newInf T q.1:=fun q h=>by rw[(hq q h).2.2,AH]
   have d4:∀i,m<=i->i<n->_:=fun i h1 h2=>inv.new i h1 h2 (hl i h2)
   have d5:∀i j,m<=i->i<n->m<=j->j<n->bl i=bl j->i=j:=fun i j h1 h2 h3 h4=>inv.inj i j h1 h2 h3 h4 (hl i h2) (hl j h4)
   have hbl:(((ops.toList.zipIdx.drop m).take (n-m)).map (fun q=>bl q.2)).Nodup:=by
    refine Ae.2 fun i j hi hj hij he=>?_
    have hi':i<((ops.toList.zipIdx.drop m).take (n-m)).length:=by simpa using hi
    have hj':j<((ops.toList.zipIdx.drop m).take (n-m)).length:=by simpa using hj
    simp only[B1] at he
    obtain⟨i1,i2,_⟩:=hnew i _ (A4 hi')
    obtain⟨j1,j2,_⟩:=hnew j _ (A4 hj')
    have:=d5 _ _ (by omega) (by omega) (by omega) (by omega) he
    omega
   have hfresh:∀q∈(ops.toList.zipIdx.drop m).take (n-m),w.heap.size<=bl q.2/\bl q.2<w'.heap.size:=fun q h=>⟨(d4 q.2 (hq q h).1 (hq q h).2.1).2.1,(d4 q.2 (hq q h).1 (hq q h).2.1).2.2.1⟩
   have hdist:∀ (i j:Nat) p q,((ops.toList.zipIdx.drop m).take (n-m))[i]?=some p->((ops.toList.zipIdx.drop m).take (n-m))[j]?=some q->i≠j->(newInf T p.1).1≠(newInf T q.1).1:=by
    intro i j p q hp hq' hij he
    obtain⟨i1,i2,i3⟩:=hnew i p hp
    obtain⟨j1,j2,j3⟩:=hnew j q hq'
    have e1:=(new_at (P:=P) T hT (hnews (m+i) p.1 (by omega) (by omega) i3)).dst
    have e2:=(new_at (P:=P) T hT (hnews (m+j) q.1 (by omega) (by omega) j3)).dst
    rw[he] at e1
    obtain⟨_,dj,f1,f2,_,f4,_⟩:=hop (m+j) (by omega)
    rw[j3] at f1
    have:=AG f1
    subst this
    rw[e2] at f2
    have:=AG f2
    subst this
    exact f4 (m+i) p.1 (by omega) (by omega) i3 e1
   have hmemb:∀b∈((ops.toList.zipIdx.drop m).take (n-m)).map (fun q=>bl q.2),b∈lb:=by
    intro b hb
    obtain⟨q,hq',rfl⟩:=AT.1 hb
    exact inv.lmem q.2 (hq q hq').1 (hq q hq').2.1 (hl q.2 (hq q hq').2.1)
   have hno:(lb++Ep.out).Nodup:=by
    have:=inv.rel.nodup
    simp only[owned,Env.outs] at this
    exact(A8.1 (A8.1 this).2.1).2.1
   have hnodup:(((ops.toList.zipIdx.drop m).take (n-m)).map (fun q=>bl q.2)++Ep.out).Nodup:=
    A8.2 ⟨hbl,(A8.1 hno).2.1,fun b hb c hc=>(A8.1 hno).2.2 b (hmemb b hb) c hc⟩
   have hw:=inv.rel.world (w1:=w') (l:=((ops.toList.zipIdx.drop m).take (n-m)).map (fun q=>bl q.2)++Ep.out) (fun b hb _=>rfl) inv.rel.fr (AP _) hnodup (fun b hb=>by
    rcases Am.1 hb with h|h
    ·exact⟨.inl (AI _ (hmemb b h)),(inv.lfr b (hmemb b h)).2⟩
    ·exact⟨.inl (AV _ h),(inv.rel.lt b (mem_out inv.rel (AV _ h))).1⟩)
   obtain⟨n',σ2,E2,f1,f2⟩:=boxes_ok T hT (bl:=bl) (fun q h=>hnews q.2 q.1 (hq q h).1 (hq q h).2.1 (hq q h).2.2) g5 hw.1 rfl (fun q h=>⟨Ax hwhs (hfresh q h).1,by
    have:=(d4 q.2 (hq q h).1 (hq q h).2.1).2.2.2
    rw[hinf q h] at this
    exact this⟩)
   obtain⟨z1,z2,z3⟩:=fold_at (f:=fun q=>(newInf T q.1).1) (g:=fun q=>Value.pointer (some ⟨bl q.2,0,none⟩)) (A0:=Ap) hdist
   have hA:((ops.toList.zipIdx.drop m).take (n-m)).foldl (fun A q=>A.setIfInBounds (newInf T q.1).1 (.pointer (some ⟨bl q.2,0,none⟩))) Ap=a'.tmps:=by
    apply An
    intro t
    by_cases ht:∃q∈(ops.toList.zipIdx.drop m).take (n-m),(newInf T q.1).1=t
    ·obtain⟨q,hq',rfl⟩:=ht
     rw[z3 q hq']
     have:=(d4 q.2 (hq q hq').1 (hq q hq').2.1).1 ⟨Ap,a.defers⟩ inv.asz
     rw[hinf q hq'] at this
     exact this.symm
    ·rw[z2 t (fun q hq' he=>ht ⟨q,hq',he⟩)]
     by_cases hd:∃i o,i<m/\ops[i]?=some o/\o.dst=some t
     ·obtain⟨i,o,him,ho,hd⟩:=hd
      exact(inv.agr i o t him ho hd (hl i (by omega))).symm
     ·have hd':∀i o,i<m->ops[i]?=some o->o.dst≠some t:=fun i o h1 h2 h3=>hd ⟨i,o,h1,h2,h3⟩
      rw[inv.oth2 t hd',inv.oth t (fun i o hin ho he=>by
       rcases BI i m with him|him
       ·exact hd' i o him ho he
       ·have hlt:i-m<((ops.toList.zipIdx.drop m).take (n-m)).length:=by rw[hlen2];omega
        obtain⟨k1,k2,k3⟩:=hnew (i-m) _ (A4 hlt)
        rw[show m+(i-m)=i by omega,ho] at k3
        refine ht ⟨_,Ai hlt,?_⟩
        have h1:=(new_at (P:=P) T hT (hnews i o him hin ho)).dst
        rw[<-AG k3]
        rw[he] at h1
        exact(AG h1).symm)]
   rw[hA] at f2
   have htail:=ops_ok T hT hF n' (l:=ops.toList.zipIdx.drop n) (i:=0+n) (a:=a') f1 f2 (contig_drop hc0) (fun q hq=>zipIdx_at q (AR hq)) (fun g hg=>by cases hg) (Ends X (.region id ops true) a (fun x σ'=>k x σ'=some r)) [] (fun a2 w2 he=>?_)
   ·rw[Ac,contig_snd (contig_drop (m:=n) hc0)] at htail
    simpa using htail
   ·obtain⟨e1,e2,e3,_,σ3,e4,e5⟩:=he
    refine⟨.nor,trivial,e1.trans inv.dfr,e2.trans inv.siz,fun i hi=>?_,σ3,e4,e5⟩
    have hw:∀q∈ops.toList.zipIdx,q.1.dst≠some i:=fun q hq=>mem_opsWrites hi q.1 (by
     have:=A9.1 hq
     exact AN this)
    rw[e3 i (fun q hq=>hw q (AR hq))]
    exact inv.oth i fun j o hj ho=>hw (o,j) (by
     rw[A9]
     simpa using ho))
  n (Array.replicate ops.size false) a {w with drawn:=w.drawn+1} (by
   rw[Ak.2 (fun i hi=>by
    have:i<n:=AD.1 hi
    have hlt:i<ops.size:=by omega
    simp[AM,hlt])]
   simp)
  ⟨0,σ1,A1,E,fun _=>0,[],⟨⟨by simp,fun j oj _ hl=>(by rw[getD_replicate_false] at hl;cases hl),fun t _ ht=>getD_in (by simpa using ht) (getD_replicate_false _ _)⟩,i2,i3,AP _,rfl,rfl,fun _ _=>rfl,fun t ht=>i4 t (fun i o hi _ _ ho=>ht i o hi ho),
   fun i o d _ _ _ hl=>(by rw[getD_replicate_false] at hl;cases hl),fun i _ hl=>(by rw[getD_replicate_false] at hl;cases hl),fun q i _ h=>(by omega),Bc _,(by rw[BZ];exact i1),fun i hi hc hle=>i5 i hi hc hle,
   fun i _ _ hl=>(by rw[getD_replicate_false] at hl;cases hl),fun i j _ _ _ _ hl=>(by rw[getD_replicate_false] at hl;cases hl),fun b hb=>(by cases hb),fun i _ _ hl=>(by rw[getD_replicate_false] at hl;cases hl)⟩⟩
 rwa [show n+(ops.size-n)=ops.size by omega] at hfin
theorem draw_ok (hmix:P.follows .mixedOrders=true) (T:Tabs) (hT:TabOk P T.T) (hF:FOk P T.F) {id:Nat} {ops:Array Oper} {k:XK->St->Option R} {r:R}
  (h:drawK T ops σ (k .nor)=some r) (hr:RelE X E σ a.tmps w):
  (B0 id ops true).wp P (Ends X (.region id ops true) a (fun x σ'=>k x σ'=some r)) a w:=by
 unfold drawK at h
 cases hB:mixB ops (drawM T ops) (drawN T ops) with
 |false=>
  rw[hB] at h
  simp only[cond_false] at h
  cases hB5:makB T ops (makM T ops) with
  |true=>
   rw[hB5] at h
   simp only[cond_true] at h
   exact draw_m hmix T hT hF hB5 h hr
  |false=>
  rw[hB5] at h
  simp only[cond_false] at h
  cases hB6:ops.toList.any (ownCall T)&&permB ops with
  |true=>
   rw[hB6] at h
   simp only[cond_true] at h
   simp only[A3] at hB6
   exact draw_perm hmix T hT hF hB6.2 h hr
  |false=>
  rw[hB6] at h
  simp only[cond_false] at h
  cases hB8:ops.toList.any (ownCall T)&&chB T ops (chM T ops) (chN T ops) (chNd T ops (chM T ops)).1 with
  |true=>
   rw[hB8] at h
   simp only[cond_true] at h
   simp only[A3] at hB8
   exact draw_ch hmix T hT hF hB8.2 (fun i o h1 h2 ho=>lead_all (p:=isNew T) (l:=ops.toList.drop (chM T ops)) (i:=i-chM T ops) (by unfold chN at h2;omega) (by
    rw[AL,show chM T ops+(i-chM T ops)=i by omega];simpa using ho)) h hr
  |false=>
  rw[hB8] at h
  simp only[cond_false] at h
  cases hB2:mixB ops (drawH T ops) (drawHN T ops) with
  |false=>
   rw[hB2] at h
   simp only[cond_false] at h
   cases hB3:earlyB ops (drawH T ops) (drawHN T ops) (drawQ T ops) with
   |false=>
    rw[hB3] at h
    simp only[cond_false] at h
    cases hB7: !ops.toList.any (fun o=>isEff T o.op)&&mixB ops (drawH T ops-1) (drawH T ops-1) with
    |true=>
     rw[hB7] at h
     simp only[cond_true] at h
     simp only[A3] at hB7
     have hm1:drawH T ops<=ops.size:=by have:=lead_le (p:=fun o=>headOp T o.op) (l:=ops.toList);simpa[drawH] using this
     exact draw_head hmix T hT hF hB7.2 (by omega) (AP _) (by omega) (fun i o hi ho=>lead_all (p:=fun o=>headOp T o.op) (show i<drawH T ops by omega) (by simpa using ho))
      (fun i o h1 h2 ho=>by omega) h hr
    |false=>
    rw[hB7] at h
    simp only[cond_false] at h
    cases hB4:mixL ops (gOfs T ops) (gN T ops (gOfs T ops))&&gChain T ops (gOfs T ops)&&lateOk T ops (gOfs T ops) (gN T ops (gOfs T ops)) (gIds T ops (headD ops (gN T ops (gOfs T ops))) σ (ops.toList.take (gOfs T ops))) σ with
    |false=>rw[hB4] at h;simp at h
    |true=>
     rw[hB4] at h
     simp only[cond_true] at h
     simp only[A3] at hB4
     have hg1:gOfs T ops<=gM T ops:=by unfold gOfs;cases mixL ops (gM T ops) (gN T ops (gM T ops))<;>simp
     have hg2:gM T ops<=ops.size:=by have:=lead_le (p:=fun o=>isEff T o.op||headOp T o.op) (l:=ops.toList);simpa[gM] using this
     have hmn:gOfs T ops<=gN T ops (gOfs T ops):=by unfold gN;omega
     have hn1:gN T ops (gOfs T ops)<=ops.size:=by have:=lead_le (p:=isNew T) (l:=ops.toList.drop (gOfs T ops));simp at this;unfold gN;omega
     exact draw_g hmix T hT hF hB4.1.1 (by omega) hmn hn1 hB4.1.2 hB4.2 (fun i o h1 h2 ho=>lead_all (p:=isNew T) (l:=ops.toList.drop (gOfs T ops)) (i:=i-gOfs T ops) (by unfold gN at h2;omega) (by
      rw[AL,show gOfs T ops+(i-gOfs T ops)=i by omega];simpa using ho)) h hr
   |true=>
    rw[hB3] at h
    simp only[cond_true] at h
    have hm1:drawH T ops<=ops.size:=by have:=lead_le (p:=fun o=>headOp T o.op) (l:=ops.toList);simpa[drawH] using this
    have hmn:drawH T ops<=drawHN T ops:=by unfold drawHN;omega
    have hn1:drawHN T ops<=ops.size:=by have:=lead_le (p:=isNew T) (l:=ops.toList.drop (drawH T ops));simp at this;unfold drawHN;omega
    have hnq:drawHN T ops<=drawQ T ops:=by unfold drawQ;omega
    have hq1:drawQ T ops<=ops.size:=by have:=lead_le (p:=isStore) (l:=ops.toList.drop (drawHN T ops));simp at this;unfold drawQ;omega
    exact draw_early hmix T hT hF hB3 hm1 hmn hnq hq1 (fun i o hi ho=>lead_all (p:=fun o=>headOp T o.op) hi (by simpa using ho))
     (fun i o h1 h2 ho=>lead_all (p:=isNew T) (l:=ops.toList.drop (drawH T ops)) (i:=i-drawH T ops) (by unfold drawHN at h2;omega) (by
      rw[AL,show drawH T ops+(i-drawH T ops)=i by omega];simpa using ho))
     (fun i o h1 h2 ho=>lead_all (p:=isStore) (l:=ops.toList.drop (drawHN T ops)) (i:=i-drawHN T ops) (by unfold drawQ at h2;omega) (by
      rw[AL,show drawHN T ops+(i-drawHN T ops)=i by omega];simpa using ho)) h hr
  |true=>
   rw[hB2] at h
   simp only[cond_true] at h
   have hm1:drawH T ops<=ops.size:=by have:=lead_le (p:=fun o=>headOp T o.op) (l:=ops.toList);simpa[drawH] using this
   have hmn:drawH T ops<=drawHN T ops:=by unfold drawHN;omega
   have hn1:drawHN T ops<=ops.size:=by have:=lead_le (p:=isNew T) (l:=ops.toList.drop (drawH T ops));simp at this;unfold drawHN;omega
   exact draw_head hmix T hT hF hB2 hm1 hmn hn1 (fun i o hi ho=>lead_all (p:=fun o=>headOp T o.op) hi (by simpa using ho))
    (fun i o h1 h2 ho=>lead_all (p:=isNew T) (l:=ops.toList.drop (drawH T ops)) (i:=i-drawH T ops) (by unfold drawHN at h2;omega) (by
     rw[AL,show drawH T ops+(i-drawH T ops)=i by omega];simpa using ho)) h hr
 |true=>
  rw[hB] at h
  simp only[cond_true] at h
  have hm1:drawM T ops<=ops.size:=by have:=lead_le (p:=fun o=>fixK T o.op) (l:=ops.toList);simpa[drawM] using this
  have hmn:drawM T ops<=drawN T ops:=by unfold drawN;omega
  have hn1:drawN T ops<=ops.size:=by have:=lead_le (p:=isNew T) (l:=ops.toList.drop (drawM T ops));simp at this;unfold drawN;omega
  have hfixed:∀i o,i<drawM T ops->ops[i]?=some o->fixK T o.op=true:=fun i o hi ho=>lead_all (p:=fun o=>fixK T o.op) hi (by simpa using ho)
  have hnews:∀i o,drawM T ops<=i->i<drawN T ops->ops[i]?=some o->isNew T o=true:=fun i o h1 h2 ho=>lead_all (p:=isNew T) (l:=ops.toList.drop (drawM T ops)) (i:=i-drawM T ops) (by unfold drawN at h2;omega) (by
   rw[AL,show drawM T ops+(i-drawM T ops)=i by omega];simpa using ho)
  generalize drawM T ops=m at *
  generalize drawN T ops=n at *
  have hext:Ext w {w with drawn:=w.drawn+1}:=⟨rfl,rfl,rfl,AP _,fun _ _=>rfl⟩
  have hr0:=hr.ext hext
  have hzl:ops.toList.zipIdx.length=ops.size:=by simp
  have hc0:=contig_zipIdx ops.toList 0
  obtain⟨aL,g1,g2,g3,g4,σ1,g5,E1,g6⟩:=fixops_ok T hT hF (ops:=ops) (ops.size+1) (l:=ops.toList.zipIdx.take m) h hr0 (contig_take hc0) (fun q hq=>zipIdx_at q (Al hq)) (fun g hg=>by cases hg) (fun q hq=>by
   obtain⟨j,hj⟩:=AB hq
   rw[AE] at hj
   split at hj
   ·exact hfixed j q.1 (by assumption) (zip_at hj).2
   ·cases hj)
  have hmap:(ops.toList.zipIdx.take m).map (·.1)=ops.toList.take m:=by rw[List.map_take,List.zipIdx_map_fst]
  rw[hmap] at g1
  refine wp_region_any hmix ?_
  have hinfo:∀i,m<=i->i<n->∃o,ops[i]?=some o/\NewAt P o (newInf T (ops[i]?.getD default)).1 (newInf T (ops[i]?.getD default)).2.1 (newInf T (ops[i]?.getD default)).2.2:=by
   intro i h1 h2
   have hlt:i<ops.size:=by omega
   refine⟨ops[i],A5 hlt,?_⟩
   rw[A5 hlt,AH]
   exact new_at T hT (hnews i _ h1 h2 (A5 hlt))
  have hfin:=mix_any (P:=P) (ops:=ops) (a:=a) (w:={w with drawn:=w.drawn+1}) (Q:=Ends X (.region id ops true) a (fun x σ'=>k x σ'=some r)) (m:=m) (n:=n) (aL:=aL) (inf:=fun i=>newInf T (ops[i]?.getD default)) (fun c a w h=>by obtain⟨x,hx,_⟩:=h;cases x<;>exact hx) hB g1 hinfo (fun a' w' bl d1 d2 d3 d4 d5 d6=>by
    have hl:ops.toList.zipIdx.drop m=(ops.toList.zipIdx.drop m).take (n-m)++ops.toList.zipIdx.drop n:=by
     have:=(Af (n-m) (ops.toList.zipIdx.drop m)).symm
     rwa [As,show m+(n-m)=n by omega] at this
    rw[hl] at g5
    have hnew:∀ (j:Nat) q,((ops.toList.zipIdx.drop m).take (n-m))[j]?=some q->j<n-m/\q.2=m+j/\ops[m+j]?=some q.1:=by
     intro j q hq
     rw[AE] at hq
     split at hq
     ·rw[AL] at hq
      exact⟨by assumption,zip_at hq⟩
     ·cases hq
    have hq:∀q∈(ops.toList.zipIdx.drop m).take (n-m),m<=q.2/\q.2<n/\ops[q.2]?=some q.1:=by
     intro q hq
     obtain⟨j,hj⟩:=AB hq
     obtain⟨j1,j2,j3⟩:=hnew j q hj
     exact⟨by omega,by omega,by rw[j2];exact j3⟩
    have hinf:∀q∈(ops.toList.zipIdx.drop m).take (n-m),newInf T (ops[q.2]?.getD default)=newInf T q.1:=fun q h=>by rw[(hq q h).2.2,AH]
    have hbl:(((ops.toList.zipIdx.drop m).take (n-m)).map (fun q=>bl q.2)).Nodup:=by
     refine Ae.2 fun i j hi hj hij he=>?_
     have hi':i<((ops.toList.zipIdx.drop m).take (n-m)).length:=by simpa using hi
     have hj':j<((ops.toList.zipIdx.drop m).take (n-m)).length:=by simpa using hj
     simp only[B1] at he
     obtain⟨i1,i2,_⟩:=hnew i _ (A4 hi')
     obtain⟨j1,j2,_⟩:=hnew j _ (A4 hj')
     have:=d5 _ _ (by omega) (by omega) (by omega) (by omega) he
     omega
    have hwhs:X.w0.heap.size<=w.heap.size:=hr.fr.size
    have hfresh:∀q∈(ops.toList.zipIdx.drop m).take (n-m),w.heap.size<=bl q.2/\bl q.2<w'.heap.size:=fun q h=>⟨(d4 q.2 (hq q h).1 (hq q h).2.1).2.1,(d4 q.2 (hq q h).1 (hq q h).2.1).2.2.1⟩
    have hnodup:(((ops.toList.zipIdx.drop m).take (n-m)).map (fun q=>bl q.2)++E1.out).Nodup:=by
     have ho:E1.out.Nodup:=by
      have:=g6.nodup
      simp only[owned] at this
      exact(A8.1 (A8.1 this).2.1).2.1
     refine A8.2 ⟨hbl,ho,fun b hb c hc he=>?_⟩
     obtain⟨q,hq',rfl⟩:=AT.1 hb
     have h1:=(hfresh q hq').1
     have h2:c<w.heap.size:=(g6.lt c (mem_out g6 hc)).1
     omega
    have hw:=g6.world (w1:=w') (l:=((ops.toList.zipIdx.drop m).take (n-m)).map (fun q=>bl q.2)++E1.out) (fun b hb _=>d6.block b hb) (g6.fr.ext d6) d6.size hnodup (fun b hb=>by
     rcases Am.1 hb with h|h
     ·obtain⟨q,hq',rfl⟩:=AT.1 h
      exact⟨.inr (hfresh q hq').1,(hfresh q hq').2⟩
     ·exact⟨.inl h,Aj (g6.lt b (mem_out g6 h)).1 d6.size⟩)
    obtain⟨n',σ2,E2,f1,f2⟩:=boxes_ok T hT (bl:=bl) (fun q h=>hnews q.2 q.1 (hq q h).1 (hq q h).2.1 (hq q h).2.2) g5 hw.1 rfl (fun q h=>⟨Ax hwhs (hfresh q h).1,by
     have:=(d4 q.2 (hq q h).1 (hq q h).2.1).2.2.2
     rw[hinf q h] at this
     exact this⟩)
    have hdist:∀ (i j:Nat) p q,((ops.toList.zipIdx.drop m).take (n-m))[i]?=some p->((ops.toList.zipIdx.drop m).take (n-m))[j]?=some q->i≠j->(newInf T p.1).1≠(newInf T q.1).1:=by
     intro i j p q hp hq' hij he
     obtain⟨i1,i2,i3⟩:=hnew i p hp
     obtain⟨j1,j2,j3⟩:=hnew j q hq'
     have hb:=hB
     simp only[mixB,A3,A7,AD] at hb
     have h1:=hb.1.2 (m+i) (by omega)
     rw[i3] at h1
     simp only[A3,A7,AD] at h1
     have h2:=h1.1.1.2 (m+j) (by omega)
     rw[j3] at h2
     have e1:=(new_at (P:=P) T hT (hnews (m+i) p.1 (by omega) (by omega) i3)).dst
     have e2:=(new_at (P:=P) T hT (hnews (m+j) q.1 (by omega) (by omega) j3)).dst
     simp only[e1,e2,he] at h2
     simp at h2
     omega
    obtain⟨z1,z2,z3⟩:=fold_at (f:=fun q=>(newInf T q.1).1) (g:=fun q=>Value.pointer (some ⟨bl q.2,0,none⟩)) (A0:=aL.tmps) hdist
    have hA:((ops.toList.zipIdx.drop m).take (n-m)).foldl (fun A q=>A.setIfInBounds (newInf T q.1).1 (.pointer (some ⟨bl q.2,0,none⟩))) aL.tmps=a'.tmps:=by
     apply An
     intro t
     by_cases ht:∃q∈(ops.toList.zipIdx.drop m).take (n-m),(newInf T q.1).1=t
     ·obtain⟨q,hq',rfl⟩:=ht
      rw[z3 q hq']
      have:=(d4 q.2 (hq q hq').1 (hq q hq').2.1).1 aL g3
      rw[hinf q hq'] at this
      exact this.symm
     ·rw[z2 t (fun q hq' he=>ht ⟨q,hq',he⟩)]
      exact(d3 t (fun i h1 h2 he=>ht (by
       have hlt:i-m<((ops.toList.zipIdx.drop m).take (n-m)).length:=by simp;omega
       refine⟨_,Ai hlt,?_⟩
       obtain⟨k1,k2,k3⟩:=hnew (i-m) _ (A4 hlt)
       rw[<-he,<-hinf _ (Ai hlt),k2,show m+(i-m)=i by omega]))).symm
    rw[hA] at f2
    have htail:=ops_ok T hT hF n' (l:=ops.toList.zipIdx.drop n) (i:=0+n) (a:=a') f1 f2 (contig_drop hc0) (fun q hq=>zipIdx_at q (AR hq)) (fun g hg=>by cases hg) (Ends X (.region id ops true) a (fun x σ'=>k x σ'=some r)) [] (fun a2 w2 he=>?_)
    ·rw[Ac,contig_snd (contig_drop (m:=n) hc0)] at htail
     simpa using htail
    ·obtain⟨e1,e2,e3,_,σ3,e4,e5⟩:=he
     refine⟨.nor,trivial,e1.trans d1,e2.trans d2,fun i hi=>?_,σ3,e4,e5⟩
     have hw:∀q∈ops.toList.zipIdx,q.1.dst≠some i:=fun q hq=>mem_opsWrites hi q.1 (by
      have:=A9.1 hq
      exact AN this)
     rw[e3 i (fun q hq=>hw q (AR hq)),d3 i (fun j h1 h2 he=>by
      have hlt:j<ops.size:=by omega
      have hN:=(new_at (P:=P) T hT (hnews j _ h1 h2 (A5 hlt))).dst
      rw[A5 hlt,AH] at he
      rw[he] at hN
      exact hw (ops[j],j) (by
       rw[A9]
       simp) hN)]
     exact g4 i (fun q hq=>hw q (Al hq)))
   n (Array.replicate ops.size false) a {w with drawn:=w.drawn+1} (fun _=>0) (by
    rw[Ak.2 (fun i hi=>by
     have:i<n:=AD.1 hi
     have hlt:i<ops.size:=by omega
     simp[AM,hlt])]
    simp)
   ⟨⟨by simp,fun j oj _ hl=>(by rw[getD_replicate_false] at hl;cases hl),fun t _ ht=>getD_in (by simpa using ht) (getD_replicate_false _ _)⟩,Ext.refl _,rfl,rfl,fun _ _=>rfl,
    fun i o d _ _ _ hl=>(by rw[getD_replicate_false] at hl;cases hl),fun i _ _ hl=>(by rw[getD_replicate_false] at hl;cases hl),fun i j _ _ _ _ hl=>(by rw[getD_replicate_false] at hl;cases hl)⟩
  rwa [show n+(ops.size-n)=ops.size by omega] at hfin
end
end Go.Proofs.YtacbkfginiknaaaDoor.V
namespace Go.Proofs.YtacbkfginiknaaaDoor.V
open Go
section
variable {P:Program} {X:Ctx} {E:Env} {σ:St} {A0:Array Value} {a:Act} {w:World} {R:Type}
def CutOk (P:Program) (cut:Cut) (c:Code):Prop:=
 ∀ {R:Type} {X:Ctx} {E:Env} {σ:St} {a:Act} {w:World} {k:XK->St->Option R} {r:R},cutK cut c σ k=some r->RelE X E σ a.tmps w->c.wp P (Ends X c a (fun x σ'=>k x σ'=some r)) a w
def CutsIn (P:Program) (C:Cuts):Code->Prop
 | .seq a b=>CutsIn P C a/\CutsIn P C b
 | .cond c a b=>match C (2*firstR (.cond c a b)) with
  |some cut=>CutOk P cut (.cond c a b)
  |none=>CutsIn P C a/\CutsIn P C b
 | .block _ c=>CutsIn P C c
 | .loop c=>match C (2*firstR c+1) with
  |some cut=>CutOk P cut (.loop c)
  |none=>True
 |_=>True
theorem code_ok (hmix:P.follows .mixedOrders=true) (T:Tabs) (C:Cuts) (hT:TabOk P T.T) (hF:FOk P T.F):∀ {c:Code} {X:Ctx} {E:Env} {σ:St} {a:Act} {w:World} {k:XK->St->Option R} {r:R},CutsIn P C c->
  codeK T C c σ k=some r->RelE X E σ a.tmps w->c.wp P (Ends X c a (fun x σ'=>k x σ'=some r)) a w:=by
 intro c
 induction c with
 |skip=>intro X E σ a w k r _ h hr;exact wp_skip ⟨.nor,trivial,rfl,rfl,fun _ _=>rfl,σ,by simpa[codeK] using h,E,hr⟩
 |label l=>intro X E σ a w k r _ h hr;exact wp_label ⟨.nor,trivial,rfl,rfl,fun _ _=>rfl,σ,by simpa[codeK] using h,E,hr⟩
 |ret=>intro X E σ a w k r _ h hr;exact wp_ret ⟨.ret,trivial,rfl,rfl,fun _ _=>rfl,σ,by simpa[codeK] using h,E,hr⟩
 |exit id=>intro X E σ a w k r _ h hr;exact wp_exit ⟨.ex id,rfl,rfl,rfl,fun _ _=>rfl,σ,by simpa[codeK] using h,E,hr⟩
 |region id ops dr=>
  intro X E σ a w k r _ h hr
  cases dr with
  |false=>exact region_ok T hT hF (by simpa only[codeK,cond_false] using h) hr
  |true=>exact draw_ok hmix T hT hF (by simpa only[codeK,cond_true] using h) hr
 |seq c1 c2 ih1 ih2=>
  intro X E σ a w k r hc h hr
  simp only[codeK] at h
  refine wp_seq (wp_mono (ih1 hc.1 h hr) fun e a1 w1 he=>?_)
  obtain⟨x,hx,e1,e2,e3,σ1,hg,E1,hr1⟩:=he
  cases x with
  |nor=>
   cases e<;>first|exact hx.elim|skip
   simp only[XK.thenK] at hg
   refine wp_mono (ih2 hc.2 hg hr1) fun e a2 w2 he=>?_
   obtain⟨y,hy,k1,k2,k3,k4⟩:=he
   exact⟨y,hy,k1.trans e1,k2.trans e2,fun i hi=>(k3 i (fun h=>hi (AV _ h))).trans (e3 i (fun h=>hi (AI _ h))),k4⟩
  |ex i=>
   cases e<;>first|exact hx.elim|skip
   exact⟨.ex i,hx,e1,e2,fun i hi=>e3 i (fun h=>hi (AI _ h)),σ1,hg,E1,hr1⟩
  |ret=>
   cases e<;>first|exact hx.elim|skip
   exact⟨.ret,hx,e1,e2,fun i hi=>e3 i (fun h=>hi (AI _ h)),σ1,hg,E1,hr1⟩
 |cond c c1 c2 ih1 ih2=>
  intro X E σ a w k r hc h hr
  simp only[codeK] at h
  simp only[CutsIn] at hc
  cases hcut:C (2*firstR (.cond c c1 c2)) with
  |some cut=>
   rw[hcut] at h hc
   exact hc h hr
  |none=>
   rw[hcut] at h hc
   simp only at h hc
   cases hb:boolOf (opd σ c) with
   |none=>rw[hb] at h;simp at h
   |some t=>
    rw[hb] at h
    have hv:a.eval c= .bool t:=by
     have hs:=slot_opd hr c
     unfold boolOf at hb
     split at hb
     ·rename_i b ms hm e
      injection hb with hb;subst hb
      rw[e] at hs
      exact val_bool hs
     ·cases hb
    cases t with
    |true=>
     refine wp_cond_true hv (wp_mono (ih1 hc.1 (by simpa using h) hr) fun e a1 w1 he=>?_)
     obtain⟨x,hx,e1,e2,e3,e4⟩:=he
     exact⟨x,hx,e1,e2,fun i hi=>e3 i (fun h=>hi (AI _ h)),e4⟩
    |false=>
     refine wp_cond_false hv (wp_mono (ih2 hc.2 (by simpa using h) hr) fun e a1 w1 he=>?_)
     obtain⟨x,hx,e1,e2,e3,e4⟩:=he
     exact⟨x,hx,e1,e2,fun i hi=>e3 i (fun h=>hi (AV _ h)),e4⟩
 |block id c ih=>
  intro X E σ a w k r hc h hr
  simp only[codeK] at h
  refine wp_block (wp_mono (ih hc h hr) fun e a1 w1 he=>?_)
  obtain⟨x,hx,e1,e2,e3,σ1,hg,E1,hr1⟩:=he
  cases x with
  |nor=>
   cases e<;>first|exact hx.elim|skip
   exact⟨.nor,trivial,e1,e2,e3,σ1,hg,E1,hr1⟩
  |ret=>
   cases e<;>first|exact hx.elim|skip
   exact⟨.ret,trivial,e1,e2,e3,σ1,hg,E1,hr1⟩
  |ex i=>
   cases e<;>first|exact hx.elim|skip
   rename_i j
   have hij:i=j:=hx
   subst hij
   simp only[Exit.inBlock]
   cases hb:(i==id) with
   |true=>
    have:i=id:=by simpa using hb
    subst this
    simp only[beq_self_eq_true,cond_true] at hg
    simp only[if_true]
    exact⟨.nor,trivial,e1,e2,e3,σ1,hg,E1,hr1⟩
   |false=>
    have hne:¬i=id:=by simpa using hb
    simp only[hb,cond_false] at hg
    simp only[hne,if_false]
    exact⟨.ex i,rfl,e1,e2,e3,σ1,hg,E1,hr1⟩
 |loop c ih=>
  intro X E σ a w k r hc h hr
  simp only[codeK] at h
  simp only[CutsIn] at hc
  cases hcut:C (2*firstR c+1) with
  |some cut=>rw[hcut] at h hc;exact hc h hr
  |none=>rw[hcut] at h;simp at h
 |_=>intro X E σ a w k r hc h hr;simp[codeK] at h
end
end Go.Proofs.YtacbkfginiknaaaDoor.V
namespace Go.Proofs.YtacbkfginiknaaaDoor.V
open Go
section
variable {P:Program} {X:Ctx} {E:Env} {σ:St} {A0:Array Value} {a:Act} {w:World} {R:Type}
theorem ResOk.monoA {A A':Nat->Prop} (hA:∀b,A b->A' b):∀ {rs:List (Ty×Bool)} {y:Tup (resOf rs)} {vs:List Value} {br:List (List (Option Nat))},ResOk w A rs y vs br->ResOk w A' rs y vs br:=by
 intro rs
 induction rs with
 |nil=>intro y vs br h;cases vs<;>cases br<;>first|exact h|exact h.elim
 |cons p rs ih=>
  intro y vs br h
  cases vs with
  |nil=>cases br<;>exact h.elim
  |cons u vs=>
   cases br with
   |nil=>exact h.elim
   |cons bs br=>
    obtain⟨⟨cs,h1,h2⟩,h3⟩:=h
    refine⟨⟨cs,h1,?_⟩,ih h3⟩
    obtain⟨t,o⟩:=p
    cases o with
    |true=>exact⟨h2.1.monoA hA,h2.2⟩
    |false=>exact⟨h2.1.mono hA (fun _ _=>rfl),h2.2⟩
theorem OutOk.monoA {A A':Nat->Prop} (hA:∀b,A b->A' b) {k:AK} {u:Value} {f:Foot} {bs:List (Option Nat)} {v:Tup k.outs} (h:OutOk w A k u f bs v):OutOk w A' k u f bs v:=by
 cases k with
 |mu t=>obtain⟨h1,b,o,cs,h2,h3,h4⟩:=h;exact⟨h1,b,o,cs,h2,h3.mono hA (fun _ _=>rfl),h4⟩
 |pio t=>obtain⟨h1,b,o,cs,h2,h3,h4⟩:=h;exact⟨h1,b,o,cs,h2,h3.monoA hA,h4⟩
 |io t=>obtain⟨h1,cs,h2,h3⟩:=h;exact⟨h1,cs,h2,h3.monoA hA⟩
 |_=>exact h
theorem OutsOk.monoA {A A':Nat->Prop} (hA:∀b,A b->A' b):∀ {ks:List AK} {y:Tup (outsOf ks)} {us:List Value} {fs:List Foot} {bo:List (List (Option Nat))},OutsOk w A ks y us fs bo->OutsOk w A' ks y us fs bo:=by
 intro ks
 induction ks with
 |nil=>intro y us fs bo h;cases us<;>cases fs<;>cases bo<;>first|exact h|exact h.elim
 |cons k ks ih=>
  intro y us fs bo h
  cases us with
  |nil=>cases fs<;>cases bo<;>exact h.elim
  |cons u us=>
   cases fs with
   |nil=>cases bo<;>exact h.elim
   |cons f fs=>
    cases bo with
    |nil=>exact h.elim
    |cons b bo=>exact⟨h.1.monoA hA,ih h.2⟩
theorem resL_ok:∀ {rs:List (Ty×Bool)} {ss:List Slot} {vs:List Value} {E:Env} {σ:St} {k:Tup (resOf rs)->St->Option R} {r:R},RelE X E σ A0 w->ss.length=vs.length->
  (∀ (i:Nat) s u,ss[i]?=some s->vs[i]?=some u->SlotOk w (Fz X E σ w) E σ s u)->resL ss rs σ k=some r->
  ∃y σ1 E1 br,k y σ1=some r/\RelE X E1 σ1 A0 w/\Keep w w (Fz X E σ w) (Fz X E1 σ1 w) E E1 σ σ1/\E1.out.Perm (flatB br++E.out)/\E1.ad=E.ad/\σ1.bx=σ.bx/\ResOk w (Fz X E1 σ1 w) rs y vs br:=by
 intro rs
 induction rs with
 |nil=>
  intro ss vs E σ k r hr hl hs h
  cases ss with
  |cons s ss=>simp[resL] at h
  |nil=>
   have:vs=[]:=BC hl.symm
   subst this
   exact⟨(),σ,E,[],h,hr,hr.keep,by simp[flatB],rfl,rfl,trivial⟩
 |cons p rs ih=>
  intro ss vs E σ k r hr hl hs h
  obtain⟨t,o⟩:=p
  cases ss with
  |nil=>simp[resL] at h
  |cons s ss=>
   cases vs with
   |nil=>simp at hl
   |cons u vs=>
    simp only[resL] at h
    cases hc:coe t s with
    |none=>rw[hc] at h;simp at h
    |some q=>
     obtain⟨v,ms⟩:=q
     rw[hc] at h
     simp only at h
     obtain⟨cs,c1,c2,c3⟩:=coe_ok hc (hs 0 s u rfl rfl) hr.nt2 hr.no1.1 hr.no1.2
     have hs2:∀ (i:Nat) s' u',ss[i]?=some s'->vs[i]?=some u'->SlotOk w (Fz X E σ w) E σ s' u':=fun i s' u' h1 h2=>hs (i+1) s' u' (by simpa using h1) (by simpa using h2)
     cases o with
     |true=>
      simp only[cond_true] at h
      obtain⟨σ',E',q1,q2,q3,q4,q5,q6,q7,q8,q9,q10,q11,q12,q13,q14⟩:=take_ok ms hr h
      obtain⟨y,σ1,E1,br,z1,z2,z3,z4,z5,z6,z7⟩:=ih q2 (by simpa using hl) (fun i s' u' h1 h2=>q3.slot (hs2 i s' u' h1 h2)) q1
      refine⟨Tup.cons v y,σ1,E1,(ms.map E.hd)::br,z1,z2,q3.trans z3,?_,z5.trans q7,z6.trans q10,?_,?_⟩
      ·rw[flatB_cons]
       refine z4.trans ?_
       refine(B8.append_left _ q5).trans ?_
       rw[<-B6]
       exact B8.append_right _ B9
      ·refine⟨cs,c2,?_⟩
       rw[tup_hd]
       exact⟨(ow_of_rv (hr.hd0 1 (by omega)) (al_ge hr) q4 c3 c1).monoA (fun b hb=>((q3.trans z3).A b hb).1),by simpa using c3⟩
      ·rw[tup_tl];exact z7
     |false=>
      simp only[cond_false] at h
      cases hu:allUs σ ms with
      |false=>rw[hu] at h;simp at h
      |true=>
       rw[hu] at h
       simp only[cond_true] at h
       obtain⟨hrf,hKf⟩:=hr.freezeK ms
       obtain⟨y,σ1,E1,br,z1,z2,z3,z4,z5,z6,z7⟩:=ih hrf (by simpa using hl) (fun i s' u' h1 h2=>hKf.slot (hs2 i s' u' h1 h2)) h
       refine⟨Tup.cons v y,σ1,E1,[]::br,z1,z2,hKf.trans z3,by simpa[flatB_cons] using z4,z5,z6.trans (freeze_fr σ ms).2.2,?_,?_⟩
       ·refine⟨cs,c2,?_⟩
        rw[tup_hd]
        refine⟨?_,rfl⟩
        have:=rf_of_frz (A:=Fz X E (σ.freeze ms) w) (σ:=σ.freeze ms) (E:=E) (fun τ hτ=>freeze_frz ms hτ (allUs_mem hu hτ)) c3 (hKf.rv c1)
        exact this.mono (fun b hb=>(z3.A b hb).1) (fun _ _=>rfl)
       ·rw[tup_tl];exact z7
def HomeOk (X:Ctx) (k:AK) (u:Value) (f:Foot) (h:Slot):Prop:=
 match k with
 | .pio t| .mu t=>∃id b o sz,h= .ptr id t [] t/\u= .pointer (some ⟨b,o,none⟩)/\f.place=some (b,o)/\(id,(b,o),sz)∈X.pbx
 |_=>f.place=none
def HomesOk (X:Ctx):List AK->List Value->List Foot->List Slot->Prop
 |[],[],[],[]=>True
 |k::ks,u::us,f::fs,h::hs=>HomeOk X k u f h/\HomesOk X ks us fs hs
 |_,_,_,_=>False
theorem tup_fst_app:∀ {a b:List Ty} (x:Tup a) (y:Tup b),Tup.fst (Tup.app x y)=x:=by
 intro a
 induction a with
 |nil=>intro b x y;cases x;rfl
 |cons t r ih=>
  intro b x y
  cases r with
  |nil=>
   show Tup.hd (Tup.cons (Tup.hd x) (Tup.app (Tup.tl x) y))=x
   rw[tup_hd];rfl
  |cons u r=>
   show(Tup.hd (Tup.cons (Tup.hd x) (Tup.app (Tup.tl x) y)),Tup.fst (Tup.tl (Tup.cons (Tup.hd x) (Tup.app (Tup.tl x) y))))=x
   rw[tup_hd,tup_tl,ih]
   rfl
theorem tup_snd_app:∀ {a b:List Ty} (x:Tup a) (y:Tup b),Tup.snd (Tup.app x y)=y:=by
 intro a
 induction a with
 |nil=>intro b x y;rfl
 |cons t r ih=>
  intro b x y
  show Tup.snd (a:=r) (b:=b) (Tup.tl (Tup.cons (Tup.hd x) (Tup.app (Tup.tl x) y)))=y
  rw[tup_tl,ih]
def IoAt (A0:Array Value):List AK->List Value->List Slot->Prop
 |a::r,u::us,h::hs=>(match a with| .io _=>∃d,h=ioH d/\A0[d]?=some u|_=>True)/\IoAt A0 r us hs
 |_,_,_=>True
theorem ioAt_no:∀ {ks:List AK} {us:List Value} {hs:List Slot},noIo ks=true->IoAt A0 ks us hs:=by
 intro ks
 induction ks with
 |nil=>intro us hs _;cases us<;>cases hs<;>trivial
 |cons c ks ih=>
  intro us hs h
  cases us with
  |nil=>trivial
  |cons u us=>
   cases hs with
   |nil=>trivial
   |cons hm hs=>cases c<;>simp only[noIo] at h<;>first|exact⟨trivial,ih h⟩|cases h
theorem outsL_ok:∀ {ks:List AK} {us:List Value} {fs:List Foot} {hs:List Slot} {E:Env} {σ:St} {k:Tup (outsOf ks)->Option R} {r:R},RelE X E σ A0 w->HomesOk X ks us fs hs->IoAt A0 ks us hs->outsL ks hs σ k=some r->
  ∃z σ1 E1 bo,k z=some r/\RelE X E1 σ1 A0 w/\Keep w w (Fz X E σ w) (Fz X E1 σ1 w) E E1 σ σ1/\E1.out.Perm (flatB bo++E.out)/\E1.ad=E.ad/\σ1.bx=σ.bx/\OutsOk w (Fz X E1 σ1 w) ks z us fs bo/\∀p∈placesOf fs,∃q∈σ.bx,(E.ad q.id).1=p.1:=by
 intro ks
 induction ks with
 |nil=>
  intro us fs hs E σ k r hr hh _ h
  cases us<;>cases fs<;>cases hs<;>first|exact hh.elim|skip
  exact⟨(),σ,E,[],h,hr,hr.keep,by simp[flatB],rfl,rfl,trivial,fun p hp=>by simp[placesOf] at hp⟩
 |cons c ks ih=>
  intro us fs hs E σ k r hr hh hio h
  cases us with
  |nil=>cases fs<;>cases hs<;>exact hh.elim
  |cons u us=>
   cases fs with
   |nil=>cases hs<;>exact hh.elim
   |cons f fs=>
    cases hs with
    |nil=>exact hh.elim
    |cons hm hs=>
     obtain⟨h1,h2⟩:=hh
     simp only[outsL] at h
     have other:c.outs=[]->f.place=none->(∀v:Tup c.outs,OutOk w (fun _=>True) c u f [] v)->(∃v,outsL ks hs σ (fun x=>k (Tup.app (a:=c.outs) v x))=some r)->(∀ {A:Nat->Prop} (v:Tup c.outs),OutOk w A c u f [] v)->
       ∃z σ1 E1 bo,k z=some r/\RelE X E1 σ1 A0 w/\Keep w w (Fz X E σ w) (Fz X E1 σ1 w) E E1 σ σ1/\E1.out.Perm (flatB bo++E.out)/\E1.ad=E.ad/\σ1.bx=σ.bx/\OutsOk w (Fz X E1 σ1 w) (c::ks) z (u::us) (f::fs) bo/\
        ∀p∈placesOf (f::fs),∃q∈σ.bx,(E.ad q.id).1=p.1:=by
      intro _ hf _ ⟨v,hv⟩ hout
      obtain⟨z,σ1,E1,bo,z1,z2,z3,z4,z5,z6,z7,z8⟩:=ih hr h2 hio.2 hv
      refine⟨Tup.app v z,σ1,E1,[]::bo,z1,z2,z3,by simpa[flatB_cons] using z4,z5,z6,⟨?_,?_⟩,fun p hp=>z8 p (by simpa[placesOf,hf] using hp)⟩
      ·rw[tup_fst_app];exact hout v
      ·rw[tup_snd_app];exact z7
     cases c with
     |ro t=>exact other rfl h1 (fun _=>rfl) ⟨(),h⟩ (fun _=>rfl)
     |own t=>exact other rfl h1 (fun _=>rfl) ⟨(),h⟩ (fun _=>rfl)
     |pin t=>exact other rfl h1 (fun _=>rfl) ⟨(),h⟩ (fun _=>rfl)
     |clo g n ks=>exact other rfl h1 (fun _=>rfl) ⟨(),h⟩ (fun _=>rfl)
     |io t=>
      obtain⟨d,rfl,hA⟩:=hio.1
      have hpl:f.place=none:=h1
      simp only[outOne,ioH] at h
      have hlt:d<σ.fr.length:=by rw[hr.len];exact(AX.1 hA).1
      have hfr:σ.fr[d]?=some (σ.fr.getD d .no):=by rw[AO,A4 hlt];rfl
      have hsl:=hr.slot d _ u hfr hA
      revert h hsl
      generalize σ.fr.getD d .no=sl
      intro h hsl
      cases sl with
      |val x hm=>
       obtain⟨cs,g3,gu,g4⟩:=hsl
       simp only at h
       cases hc:cast? t x with
       |none=>rw[hc] at h;cases h
       |some q=>
        obtain⟨v,ms⟩:=q
        rw[hc] at h
        simp only at h
        have hx:=cast?_some hc
        subst hx
        obtain⟨σ',E',q1,q2,q3,q4,q5,q6,q7,q8,q9,q10,q11,q12,q13,q14⟩:=take_ok ms hr h
        obtain⟨z,σ1,E1,bo,z1,z2,z3,z4,z5,z6,z7,z8⟩:=ih q2 h2 hio.2 q1
        refine⟨Tup.app (a:=(AK.io t).outs) v z,σ1,E1,(ms.map E.hd)::bo,z1,z2,q3.trans z3,?_,z5.trans q7,z6.trans q10,⟨?_,?_⟩,fun p hp=>?_⟩
        ·rw[flatB_cons]
         refine z4.trans ?_
         refine(B8.append_left _ q5).trans ?_
         rw[<-B6]
         exact B8.append_right _ B9
        ·have e:Tup.fst (a:=(AK.io t).outs) (b:=outsOf ks) (Tup.app (a:=(AK.io t).outs) (b:=outsOf ks) v z)=v:=tup_fst_app (a:=(AK.io t).outs) (b:=outsOf ks) v z
         refine e.symm▸(?_:OutOk w _ (.io t) _ f _ v)
         exact⟨by simpa using g4,cs,gu,(ow_of_rv (hr.hd0 1 (by omega)) (al_ge hr) q4 g4 g3).monoA (fun b hb=>((q3.trans z3).A b hb).1)⟩
        ·have e:Tup.snd (a:=(AK.io t).outs) (b:=outsOf ks) (Tup.app (a:=(AK.io t).outs) (b:=outsOf ks) v z)=z:=tup_snd_app (a:=(AK.io t).outs) (b:=outsOf ks) v z
         exact e.symm▸z7
        ·obtain⟨q,hq,he⟩:=z8 p (by simpa[placesOf,hpl] using hp)
         rw[q10] at hq
         rw[q7] at he
         exact⟨q,hq,he⟩
      |_=>cases h
     |mu t=>
      obtain⟨id,b,o,sz,rfl,rfl,hpl,hpb⟩:=h1
      obtain⟨hid,had⟩:=hr.adx _ hpb
      have hslot:SlotOk w (Fz X E σ w) E σ (.ptr id t [] t) (.pointer (some ⟨b,o,none⟩)):=⟨hid,b,o,rfl,by simp only[addr];rw[show E.ad id=(b,o) from had]⟩
      simp only[outOne] at h
      obtain⟨x,hm,b',o',cs,g1,g2,g3,g4,g5⟩:=read_ok (a:=⟨A0,[]⟩) hr hslot h
      simp only[Value.pointer.injEq,AJ,Addr.mk.injEq,and_true] at g2
      obtain⟨rfl,rfl⟩:=g2
      have hfind:∃q∈σ.bx,q.id=id:=by
       simp only[readK] at h
       cases hf:σ.find id with
       |none=>rw[hf] at h;simp at h
       |some y=>exact⟨_,find_mem hf,rfl⟩
      cases hc:cast? t x with
      |none=>rw[hc] at g1;simp at g1
      |some q=>
       obtain⟨v,ms⟩:=q
       rw[hc] at g1
       simp only at g1
       have hx:=cast?_some hc
       subst hx
       cases hu:allUs σ ms&&noneAl σ ms with
       |false=>rw[hu] at g1;simp at g1
       |true=>
       rw[hu] at g1
       simp only[cond_true] at g1
       simp only[A3] at hu
       have hrf:=rf_of_frz (A:=Fz X E σ w) (σ:=σ) (E:=E) (fun τ hτ=>us_frz (allUs_mem hu.1 hτ) (noneAl_mem hu.2 hτ)) g4 g3
       obtain⟨z,σ1,E1,bo,z1,z2,z3,z4,z5,z6,z7,z8⟩:=ih hr h2 hio.2 g1
       refine⟨Tup.app (a:=(AK.mu t).outs) v z,σ1,E1,[]::bo,z1,z2,z3,by simpa[flatB_cons] using z4,z5,z6,⟨?_,?_⟩,fun p hp=>?_⟩
       ·have e:Tup.fst (a:=(AK.mu t).outs) (b:=outsOf ks) (Tup.app (a:=(AK.mu t).outs) (b:=outsOf ks) v z)=v:=tup_fst_app (a:=(AK.mu t).outs) (b:=outsOf ks) v z
        refine e.symm▸(?_:OutOk w _ (.mu t) _ f _ v)
        exact⟨rfl,b,o,cs,rfl,hrf.mono (fun b hb=>(z3.A b hb).1) (fun _ _=>rfl),g5⟩
       ·have e:Tup.snd (a:=(AK.mu t).outs) (b:=outsOf ks) (Tup.app (a:=(AK.mu t).outs) (b:=outsOf ks) v z)=z:=tup_snd_app (a:=(AK.mu t).outs) (b:=outsOf ks) v z
        exact e.symm▸z7
       ·simp only[placesOf,Ay,hpl] at hp
        rcases AW.1 hp with rfl|hp
        ·obtain⟨q,hq,rfl⟩:=hfind
         exact⟨q,hq,by rw[had]⟩
        ·obtain⟨q,hq,he⟩:=z8 p hp
         exact⟨q,hq,he⟩
     |pio t=>
      obtain⟨id,b,o,sz,rfl,rfl,hpl,hpb⟩:=h1
      obtain⟨hid,had⟩:=hr.adx _ hpb
      have hslot:SlotOk w (Fz X E σ w) E σ (.ptr id t [] t) (.pointer (some ⟨b,o,none⟩)):=⟨hid,b,o,rfl,by simp only[addr];rw[show E.ad id=(b,o) from had]⟩
      simp only[outOne] at h
      obtain⟨x,hm,b',o',cs,g1,g2,g3,g4,g5⟩:=read_ok (a:=⟨A0,[]⟩) hr hslot h
      simp only[Value.pointer.injEq,AJ,Addr.mk.injEq,and_true] at g2
      obtain⟨rfl,rfl⟩:=g2
      have hfind:∃q∈σ.bx,q.id=id:=by
       simp only[readK] at h
       cases hf:σ.find id with
       |none=>rw[hf] at h;simp at h
       |some y=>exact⟨_,find_mem hf,rfl⟩
      cases hc:cast? t x with
      |none=>rw[hc] at g1;simp at g1
      |some q=>
       obtain⟨v,ms⟩:=q
       rw[hc] at g1
       simp only at g1
       have hx:=cast?_some hc
       subst hx
       obtain⟨σ',E',q1,q2,q3,q4,q5,q6,q7,q8,q9,q10,q11,q12,q13,q14⟩:=take_ok ms hr g1
       obtain⟨z,σ1,E1,bo,z1,z2,z3,z4,z5,z6,z7,z8⟩:=ih q2 h2 hio.2 q1
       refine⟨Tup.app (a:=(AK.pio t).outs) v z,σ1,E1,(ms.map E.hd)::bo,z1,z2,q3.trans z3,?_,z5.trans q7,z6.trans q10,⟨?_,?_⟩,fun p hp=>?_⟩
       ·rw[flatB_cons]
        refine z4.trans ?_
        refine(B8.append_left _ q5).trans ?_
        rw[<-B6]
        exact B8.append_right _ B9
       ·have e:Tup.fst (a:=(AK.pio t).outs) (b:=outsOf ks) (Tup.app (a:=(AK.pio t).outs) (b:=outsOf ks) v z)=v:=tup_fst_app (a:=(AK.pio t).outs) (b:=outsOf ks) v z
        refine e.symm▸(?_:OutOk w _ (.pio t) _ f _ v)
        exact⟨by simpa using g4,b,o,cs,rfl,(ow_of_rv (hr.hd0 1 (by omega)) (al_ge hr) q4 g4 g3).monoA (fun b hb=>((q3.trans z3).A b hb).1),g5⟩
       ·have e:Tup.snd (a:=(AK.pio t).outs) (b:=outsOf ks) (Tup.app (a:=(AK.pio t).outs) (b:=outsOf ks) v z)=z:=tup_snd_app (a:=(AK.pio t).outs) (b:=outsOf ks) v z
        exact e.symm▸z7
       ·simp only[placesOf,Ay,hpl] at hp
        rcases AW.1 hp with rfl|hp
        ·obtain⟨q,hq,rfl⟩:=hfind
         exact⟨q,hq,by rw[had]⟩
        ·obtain⟨q,hq,he⟩:=z8 p hp
         rw[q10] at hq
         rw[q7] at he
         exact⟨q,hq,he⟩
structure Began (X:Ctx) (ks:List AK) (w:World) (A:Nat->Prop) (us:List Value) (fs:List Foot) (hs:List Slot):Prop where
 w0:X.w0=w
 M:∀b o,b<w.heap.size->X.M b o->footM ks fs b o
 ok:∀b,X.ok b->A b\/b∈blocksOf fs\/w.heap.size<=b
 fps:∀b∈X.fps,b∈rowsOf fs
 homes:HomesOk X ks us fs hs
 nopio:roOnly ks=true->∀e,e∉X.pbx
theorem Fr.narrow {M M':Nat->Nat->Prop} {w w':World} (h:Fr M w w') (hm:∀b o,b<w.heap.size->M b o->M' b o):Fr M' w w':=by
 refine⟨h.os,h.tape,h.output,h.size,fun b hb=>?_⟩
 rcases h.block b hb with h1|⟨c,c',e,h1,h2,h3,h4⟩
 ·exact .inl h1
 ·exact .inr ⟨c,c',e,h1,h2,h3,fun o ho=>h4 o (fun hM=>ho (hm b o hb hM))⟩
theorem fin_ok {ks:List AK} {rs:List (Ty×Bool)} {ss:List Slot} {vs us:List Value} {fs:List Foot} {hs:List Slot} {w0:World} {A:Nat->Prop} {y:Tup (resOf rs++outsOf ks)} (hr:RelE X E σ A0 w) (hb:Began X ks w0 A us fs hs) (hio:IoAt A0 ks us hs) (hl:ss.length=vs.length)
  (hsl:∀ (i:Nat) s u,ss[i]?=some s->vs[i]?=some u->SlotOk w (Fz X E σ w) E σ s u) (h:finK ks hs rs ss σ=some y):PostL ks rs w0 A us fs y vs w:=by
 unfold finK at h
 obtain⟨y1,σ1,E1,br,z1,z2,z3,z4,z5,z6,z7⟩:=resL_ok hr hl hsl h
 obtain⟨z,σ2,E2,bo,k1,k2,k3,k4,k5,k6,k7,k8⟩:=outsL_ok z2 hb.homes hio z1
 have hy:Tup.app y1 z=y:=by injection k1
 subst hy
 have hfr:=hr.fr
 rw[hb.w0] at hfr
 refine⟨hfr.narrow hb.M,bo,br,?_⟩
 have hperm:E2.out.Perm ((flatB bo++flatB br)++E.out):=by
  refine k4.trans ?_
  rw[B6]
  exact B8.append_left _ z4
 have hnd:((flatB bo++flatB br)++E.out).Nodup:=by
  have:=k2.nodup
  simp only[owned] at this
  have:=(A8.1 (A8.1 this).2.1).2.1
  exact hperm.nodup_iff.1 this
 have hmem:∀b∈flatB bo++flatB br,b∈E2.out:=fun b hb=>hperm.mem_iff.2 (AI _ hb)
 have hA:∀b,Fz X E2 σ2 w b->After w0 w A fs (flatB bo++flatB br) b:=by
  intro b ⟨h1,h2,h3⟩
  refine⟨?_,h2,fun h=>h3 (mem_out k2 (hmem b h))⟩
  rcases hb.ok b h1 with h|h|h
  ·exact .inl h
  ·rcases blocks_mem.1 h with h|⟨p,hp,he⟩
   ·exact .inr (.inl h)
   ·obtain⟨q,hq,hqe⟩:=k8 p hp
    exfalso
    refine h3 ?_
    rw[<-he,<-hqe,<-k5]
    exact mem_owned_bx (by rw[k6];exact hq)
  ·exact .inr (.inr h)
 refine⟨(A8.1 hnd).1,fun b hb'=>?_,?_,?_⟩
 ·refine⟨?_,(k2.lt b (mem_out k2 (hmem b hb'))).1⟩
  rcases k2.srco b (hmem b hb') with h|h
  ·exact .inl (hb.fps b h)
  ·exact .inr (by rw[hb.w0] at h;exact h)
 ·rw[tup_fst_app]
  exact z7.monoA (fun b hb=>hA b (k3.A b hb).1)
 ·rw[tup_snd_app]
  exact k7.monoA hA
end
end Go.Proofs.YtacbkfginiknaaaDoor.V
namespace Go.Proofs.YtacbkfginiknaaaDoor.V
open Go
section
variable {P:Program} {X:Ctx} {E:Env} {σ:St} {A0:Array Value} {a:Act} {w:World} {R:Type}
theorem RelE.takeBox (hr:RelE X E σ A0 w) {t:Ty} {v:t.den} {ms:List Nat} {cs:List Value} {b o:Nat} {c:Array Value} {e:TypeId} (hnok:¬X.ok b) (hv:Rv w (Fz X E σ w) E σ t v ms cs) (hms:ms.length=t.nl)
  (hb:w.heap[b]?=some (.cells c e (0,0))) (hsz:o+cs.length<=c.size) (hat:At w b o cs) (hM:∀j,o<=j->j<o+t.size->X.M b j) (hpin:¬E.pin b):
  ∃X' E',X'.w0=X.w0/\X'.M=X.M/\X'.fps=X.fps/\(∀b',X'.ok b'↔X.ok b'\/b'=b)/\(∀p,p∈X.pbx->p∈X'.pbx)/\(σ.nt,(b,o),t.size)∈X'.pbx/\E'.out=E.out/\E'.pin=E.pin/\
   RelE X' E' {σ with bx:=⟨σ.nt,⟨t,v,ms⟩⟩::σ.bx,nt:=σ.nt+1} A0 w/\
   Keep w w (Fz X E σ w) (Fz X' E' {σ with bx:=⟨σ.nt,⟨t,v,ms⟩⟩::σ.bx,nt:=σ.nt+1} w) E E' σ {σ with bx:=⟨σ.nt,⟨t,v,ms⟩⟩::σ.bx,nt:=σ.nt+1}/\
   SlotOk w (Fz X' E' {σ with bx:=⟨σ.nt,⟨t,v,ms⟩⟩::σ.bx,nt:=σ.nt+1} w) E' {σ with bx:=⟨σ.nt,⟨t,v,ms⟩⟩::σ.bx,nt:=σ.nt+1} (.ptr σ.nt t [] t) (.pointer (some ⟨b,o,none⟩)):=by
 let E':Env:=⟨fun i=>if i=σ.nt then(b,o) else E.ad i,E.hd,E.out,E.pin⟩
 let X':Ctx:={X with ok:=fun b'=>X.ok b'\/b'=b,pbx:=(σ.nt,(b,o),t.size)::X.pbx}
 let σ':St:={σ with bx:=⟨σ.nt,⟨t,v,ms⟩⟩::σ.bx,nt:=σ.nt+1}
 have hlt:b<w.heap.size:=(AX.1 hb).1
 have hE:∀b∈σ.bx,E'.ad b.id=E.ad b.id:=fun b hb=>if_neg (BT (hr.idlt b hb))
 have hEn:E'.ad σ.nt=(b,o):=if_pos rfl
 have hown:owned E' σ'=b::owned E σ:=by
  show(E'.ad σ.nt).1::(σ.bx.map (fun b=>(E'.ad b.id).1))++_=_
  rw[hEn,BR (fun b hb=>by rw[hE b hb])]
  rfl
 have hn:b∉owned E σ:=fun h=>hnok (hr.lt _ h).2
 have K:Keep w w (Fz X E σ w) (Fz X' E' σ' w) E E' σ σ':=
  ⟨fun b' hb'=>⟨⟨.inl hb'.1,hb'.2.1,by
    rw[hown];intro h
    rcases AW.1 h with h|h
    ·exact hnok (h▸hb'.1)
    ·exact hb'.2.2 h⟩,rfl⟩,
   Nat.le_succ _,fun _ _=>rfl,fun i hi=>if_neg (BT hi),fun _ _ h=>.inl h,
   fun τ _ hτ=>⟨hτ,fun b hb=>rfl⟩,hr.ge,fun b hb=>⟨hb,rfl⟩⟩
 refine⟨X',E',rfl,rfl,rfl,fun _=>Iff.rfl,fun p hp=>A6 _ hp,AC,rfl,rfl,{hr with
  slot:=fun i s u hs hu=>K.slot (hr.slot i s u hs hu)
  bx:=fun q hq=>?_
  nodup:=by rw[hown];exact Az.2 ⟨hn,hr.nodup⟩
  lt:=fun b' hb'=>?_
  ids:=?_
  idlt:=fun q hq=>?_
  alr:=fun τ hτ=>⟨(hr.alr τ hτ).1,Ad (hr.alr τ hτ).2.1,(hr.alr τ hτ).2.2⟩
  fzr:=fun τ hτ=>⟨(hr.fzr τ hτ).1,Ad (hr.fzr τ hτ).2⟩
  nt2:=Nat.le_succ_of_le hr.nt2
  new:=fun b' hb'=>.inl (hr.new b' hb')
  lnlt:=fun p hp=>⟨Ad (hr.lnlt p hp).1,Ad (hr.lnlt p hp).2⟩
  srcb:=fun q hq=>?_
  pbm:=fun p hp j h1 h2=>?_
  adx:=fun p hp=>?_
  hdx:=fun e he=>⟨Ad (hr.hdx e he).1,(hr.hdx e he).2⟩
  gl:=fun p hp=>by
   obtain⟨h1,h2,h3,h4,h5,h6⟩:=hr.gl p hp
   refine⟨h1,.inl h2,h3,h4,h5,fun e he=>?_⟩
   rcases AW.1 he with rfl|he
   ·exact fun e=>hnok (show X.ok b from(show b=p.1 from e)▸h2)
   ·exact h6 e he
  xlt:=⟨fun p hp=>(AW.1 hp).elim (fun e=>e▸Nat.lt_of_not_le fun h=>hnok (hr.new _ h)) (hr.xlt.1 p),hr.xlt.2⟩
  pinlt:=fun b' hb'=>⟨(hr.pinlt b' hb').1,by
   rw[hown];intro h
   rcases AW.1 h with h|h
   ·exact hpin (h▸hb')
   ·exact(hr.pinlt b' hb').2 h⟩},K,BJ _,b,o,rfl,by rw[hEn];simp[addr]⟩
 ·rcases AW.1 hq with rfl|hq
  ·exact⟨cs,c,e,K.rv hv,hms,by rw[hEn];exact hb,by rw[hEn];exact hsz,by rw[hEn];exact hat⟩
  ·exact K.bx (hr.bx q hq) (hr.idlt q hq) rfl
 ·rw[hown] at hb'
  rcases AW.1 hb' with rfl|hb'
  ·exact⟨hlt,.inr rfl⟩
  ·exact⟨(hr.lt b' hb').1,.inl (hr.lt b' hb').2⟩
 ·show(σ.nt::σ.bx.map (·.id)).Nodup
  refine Az.2 ⟨fun h=>?_,hr.ids⟩
  obtain⟨b,hb,he⟩:=AT.1 h
  have:=hr.idlt b hb
  omega
 ·rcases AW.1 hq with rfl|hq
  ·exact BJ _
  ·exact Ad (hr.idlt q hq)
 ·rcases AW.1 hq with rfl|hq
  ·left;exact⟨_,AP _,by rw[hEn];exact AC⟩
  ·rw[hE q hq]
   exact(hr.srcb q hq).imp (fun⟨s,h0,h⟩=>⟨s,h0,A6 _ h⟩) id
 ·rcases AW.1 hp with rfl|hp
  ·exact hM j h1 h2
  ·exact hr.pbm p hp j h1 h2
 ·rcases AW.1 hp with rfl|hp
  ·exact⟨BJ _,hEn⟩
  ·exact⟨Ad (hr.adx p hp).1,(if_neg (BT (hr.adx p hp).1)).trans (hr.adx p hp).2⟩
theorem HomesOk.mono {X':Ctx} (hp:∀p,p∈X.pbx->p∈X'.pbx):∀ {ks:List AK} {us:List Value} {fs:List Foot} {hs:List Slot},HomesOk X ks us fs hs->HomesOk X' ks us fs hs:=by
 intro ks
 induction ks with
 |nil=>intro us fs hs h;cases us<;>cases fs<;>cases hs<;>first|exact h|exact h.elim
 |cons k ks ih=>
  intro us fs hs h
  cases us with
  |nil=>cases fs<;>cases hs<;>exact h.elim
  |cons u us=>cases fs with
   |nil=>cases hs<;>exact h.elim
   |cons f fs=>cases hs with
    |nil=>exact h.elim
    |cons hm hs=>
     refine⟨?_,ih h.2⟩
     have h1:=h.1
     cases k with
     |mu t=>obtain⟨id,b,o,sz,e1,e2,e3,e4⟩:=h1;exact⟨id,b,o,sz,e1,e2,e3,hp _ e4⟩
     |pio t=>obtain⟨id,b,o,sz,e1,e2,e3,e4⟩:=h1;exact⟨id,b,o,sz,e1,e2,e3,hp _ e4⟩
     |_=>exact h1
theorem cloVals_ok {A pin:Nat->Prop} (hnt:0<σ.nt) (hz:0∉σ.al) (hp:∀b,pin b->A b\/E.pin b):∀ {ks:List (Bool×Ty)} {v:(cloTy ks).den} {us:List Value},CapsOk w pin ks v us->
  us.length=(cloVals ks v).length/\∀ (i:Nat) c u,(cloVals ks v)[i]?=some c->us[i]?=some u->SlotB w A E σ c u:=by
 intro ks
 induction ks with
 |nil=>intro v us h;cases us with
  |nil=>exact⟨rfl,fun i c u h=>by simp[cloVals] at h⟩
  |cons u us=>exact h.elim
 |cons p ks ih=>
  intro v us h
  obtain⟨b,t⟩:=p
  cases us with
  |nil=>exact h.elim
  |cons u us=>
   obtain⟨⟨h1,h2⟩,h3⟩:=h
   obtain⟨k1,k2⟩:=ih h3
   refine⟨by simp[cloVals,k1],fun i c u' e1 e2=>?_⟩
   cases i with
   |succ i=>exact k2 i c u' (by simpa[cloVals] using e1) (by simpa using e2)
   |zero=>
    simp only[cloVals,List.getElem?_cons_zero,AJ] at e1 e2
    subst e2
    cases b with
    |false=>
     subst e1
     exact⟨_,flat_rv h1,h2,(nl_flat h1).symm⟩
    |true=>
     obtain⟨bl,o,g1,g2,g3⟩:=h2
     subst e1
     exact⟨hnt,bl,o,g1,fun _=>⟨_,flat_rv h1,(nl_flat h1).symm,g2,fun h=>absurd h hz,fun _=>hp bl g3⟩⟩
theorem set_same {d:Nat} {u:Value} (h:A0[d]?=some u):A0.setIfInBounds d u=A0:=by
 apply An
 intro i
 by_cases hi:d=i
 ·subst hi
  rw[AS (AX.1 h).1,h]
 ·rw[BA hi]
theorem init_ok {A pin:Nat->Prop}:∀ {ks:List AK} {ds:List Nat} {x:Tup (tysOf ks)} {us:List Value} {fs:List Foot} {X:Ctx} {E:Env} {i:Ini},RelE X E i.σ A0 w->E.out=rowsOf fs->E.pin=pin->ArgsOk w A pin ks x us fs->
  (∀b,A b->Fz X E i.σ w b)->(∀p∈placesOf fs,¬X.ok p.1/\¬pin p.1)->((placesOf fs).map (·.1)).Nodup->(∀b o,footM ks fs b o->X.M b o)->ds.map (fun d=>A0[d]?)=us.map some->
  ∃X' E' hs,X'.w0=X.w0/\X'.M=X.M/\X'.fps=X.fps/\(∀b',X'.ok b'->X.ok b'\/b'∈(placesOf fs).map (·.1))/\(∀p,p∈X.pbx->p∈X'.pbx)/\RelE X' E' (initL ks ds x i).σ A0 w/\(initL ks ds x i).homes=i.homes++hs/\HomesOk X' ks us fs hs/\(roOnly ks=true->X'.pbx=X.pbx):=by
 intro ks
 induction ks with
 |nil=>
  intro ds x us fs X E i hr ho hp hargs hA hpl hnd hM hds
  cases us with
  |cons u us=>cases fs<;>exact hargs.elim
  |nil=>
   cases fs with
   |cons f fs=>exact hargs.elim
   |nil=>exact⟨X,E,[],rfl,rfl,rfl,fun _ h=>.inl h,fun _ h=>h,hr,by simp[initL],trivial,fun _=>rfl⟩
 |cons k ks ih=>
  intro ds x us fs X E i hr ho hp hargs hA hpl hnd hM hds
  cases us with
  |nil=>cases fs<;>exact hargs.elim
  |cons u us=>
   cases fs with
   |nil=>exact hargs.elim
   |cons f fs=>
    cases ds with
    |nil=>simp at hds
    |cons d ds=>
     simp only[B2,BL] at hds
     obtain⟨hd,hds⟩:=hds
     obtain⟨h1,h2⟩:=hargs
     have hro:E.out=f.rows.filterMap id++rowsOf fs:=ho
     have hMr:∀b o,footM ks fs b o->X.M b o:=fun b o h=>hM b o (.inr (.inr h))
     have hnt:0<i.σ.nt:=by have:=hr.nt2;omega
     have hz:0∉i.σ.al:=fun h=>by have:=(hr.alr 0 h).1;omega
     have rest:∀ {E1:Env} {i1:Ini} {hm:Slot},f.place=none->RelE X E1 i1.σ A0 w->E1.out=rowsOf fs->E1.pin=pin->(∀b,A b->Fz X E1 i1.σ w b)->i1.homes=i.homes++[hm]->HomeOk X k u f hm->(∀ {X':Ctx},HomeOk X' k u f hm)->
       ∃X' E' hs,X'.w0=X.w0/\X'.M=X.M/\X'.fps=X.fps/\(∀b',X'.ok b'->X.ok b'\/b'∈(placesOf (f::fs)).map (·.1))/\(∀p,p∈X.pbx->p∈X'.pbx)/\RelE X' E' (initL ks ds (Tup.tl x) i1).σ A0 w/\(initL ks ds (Tup.tl x) i1).homes=i.homes++hs/\HomesOk X' (k::ks) (u::us) (f::fs) hs/\(roOnly (k::ks)=true->X'.pbx=X.pbx):=by
      intro E1 i1 hm hf hr1 ho1 hp1 hA1 hh _ hho
      have e:placesOf (f::fs)=placesOf fs:=by simp[placesOf,hf]
      rw[e] at hpl hnd ⊢
      obtain⟨X',E',hs,q1,q2,q3,q4,q5,q6,q7,q8,q9⟩:=ih (x:=Tup.tl x) hr1 ho1 hp1 h2 hA1 hpl hnd hMr hds
      exact⟨X',E',hm::hs,q1,q2,q3,q4,q5,q6,by rw[q7,hh];simp,⟨hho,q8⟩,fun h=>q9 (by cases k<;>simp[roOnly] at h<;>exact h)⟩
     cases k with
     |ro t=>
      obtain⟨⟨cs,g1,g2⟩,hf⟩:=h1
      have g1':Rf w A t (Tup.hd x) cs:=g1
      subst hf
      have hs:SlotOk w (Fz X E i.σ w) E i.σ (.val ⟨t,Tup.hd x,List.replicate t.nl 0⟩ none) u:=⟨cs,rv_of_rf hnt hz (g1'.mono hA (fun _ _=>rfl)),g2,by simp⟩
      have hr1:=hr.set d hs
      rw[set_same hd] at hr1
      exact rest (hm:=.no) rfl hr1 (by simpa using hro) hp (fun b hb=>hA b hb) rfl rfl rfl
     |pin t=>
      obtain⟨⟨b,o,cs,g1,g2,g3,g4⟩,hf⟩:=h1
      have g2':Rf w A t (Tup.hd x) cs:=g2
      subst hf
      have hs:SlotOk w (Fz X E i.σ w) E i.σ (.rptr 0 ⟨t,Tup.hd x,List.replicate t.nl 0⟩) u:=
       ⟨hnt,b,o,g1,fun _=>⟨cs,rv_of_rf hnt hz (g2'.mono hA (fun _ _=>rfl)),by simp,g3,fun h=>absurd h hz,fun _=>.inr (by rw[hp];exact g4)⟩⟩
      have hr1:=hr.set d hs
      rw[set_same hd] at hr1
      exact rest (hm:=.no) rfl hr1 (by simpa using hro) hp (fun b hb=>hA b hb) rfl rfl rfl
     |clo f n cs=>
      obtain⟨⟨us',g1,g2⟩,hf⟩:=h1
      subst hf
      have hs:SlotOk w (Fz X E i.σ w) E i.σ (.clo f n (cloVals cs (Tup.hd x))) u:=
       have hc:=cloVals_ok (A:=Fz X E i.σ w) (E:=E) (σ:=i.σ) hnt hz (fun b hb=>.inr (by rw[hp];exact hb)) g2
       ⟨us',g1,hc.1,hc.2⟩
      have hr1:=hr.set d hs
      rw[set_same hd] at hr1
      exact rest (hm:=.no) rfl hr1 (by simpa using hro) hp (fun b hb=>hA b hb) rfl rfl rfl
     |own t=>
      obtain⟨⟨cs,g1,g2⟩,g3,g4⟩:=h1
      have g1':Ow w A t (Tup.hd x) cs f.rows:=g1
      obtain⟨E1,r1,K1,r2,r5,_,r3,r4⟩:=adopt_valP hr hro g3 (g1'.monoA hA)
      have hs:SlotOk w (Fz X E1 (i.σ.more t.nl) w) E1 (i.σ.more t.nl) (.val ⟨t,Tup.hd x,i.σ.new t.nl⟩ none) u:=⟨cs,r3,g2,r4⟩
      have hr1:=r1.set d hs
      rw[set_same hd] at hr1
      exact rest (i1:=initOne (.own t) d i (Tup.hd x)) (hm:=.no) g4 hr1 r2 (r5.trans hp) (fun b hb=>(K1.A b (hA b hb)).1) rfl g4 g4
     |io t=>
      obtain⟨⟨cs,g1,g2⟩,g3,g4⟩:=h1
      have g1':Ow w A t (Tup.hd x) cs f.rows:=g1
      obtain⟨E1,r1,K1,r2,r5,_,r3,r4⟩:=adopt_valP hr hro g3 (g1'.monoA hA)
      have hs:SlotOk w (Fz X E1 (i.σ.more t.nl) w) E1 (i.σ.more t.nl) (.val ⟨t,Tup.hd x,i.σ.new t.nl⟩ (some ⟨.tmp d,[]⟩)) u:=⟨cs,r3,g2,r4⟩
      have hr1:=r1.set d hs
      rw[set_same hd] at hr1
      exact rest (i1:=initOne (.io t) d i (Tup.hd x)) (hm:=ioH d) g4 hr1 r2 (r5.trans hp) (fun b hb=>(K1.A b (hA b hb)).1) rfl g4 g4
     |mu t=>
      obtain⟨b,o,cs,c,e,g1,g2,g4,g5,g6,g7⟩:=h1
      have g2':Rf w A t (Tup.hd x) cs:=g2
      subst g7
      have e0:placesOf ((⟨[],some (b,o)⟩:Foot)::fs)=(b,o)::placesOf fs:=rfl
      rw[e0] at hpl hnd
      simp only[B2,Az] at hnd
      obtain⟨hnok,hnpin⟩:=hpl (b,o) AC
      have r3:Rv w (Fz X E i.σ w) E i.σ t (Tup.hd x) (List.replicate t.nl 0) cs:=rv_of_rf hnt hz (g2'.mono hA (fun _ _=>rfl))
      obtain⟨X2,E2,z1,z2,z3,z4,z5,z6,z7,z8,z9,z10,z11⟩:=hr.takeBox (b:=b) (o:=o) hnok r3 (by simp) g5 g6 g4 (fun j h1 h2=>hM b j (.inr (.inl ⟨(b,o),rfl,rfl,h1,h2⟩))) (by rw[hp];exact hnpin)
      have hr1:=z9.set d z11
      rw[<-g1,set_same hd] at hr1
      obtain⟨X',E',hs,q1,q2,q3,q4,q5,q6,q7,q8,_⟩:=ih (i:=initOne (.mu t) d i (Tup.hd x)) (x:=Tup.tl x) hr1 (z7.trans (by simpa using hro)) (z8.trans hp) h2 (fun b' hb'=>have g:=(z10.A b' (hA b' hb')).1;⟨g.1,g.2.1,g.2.2⟩)
       (fun p hp'=>⟨fun h=>by
        rcases(z4 p.1).1 h with h|h
        ·exact(hpl p (A6 _ hp')).1 h
        ·exact hnd.1 (h▸AT.2 ⟨p,hp',rfl⟩),(hpl p (A6 _ hp')).2⟩) hnd.2 (fun b' o' h=>by rw[z2];exact hMr b' o' h) hds
      refine⟨X',E',.ptr i.σ.nt t [] t::hs,q1.trans z1,q2.trans z2,q3.trans z3,fun b' hb'=>?_,fun p hp'=>q5 p (z5 p hp'),q6,by
       rw[show initL (.mu t::ks) (d::ds) x i=initL ks ds (Tup.tl x) (initOne (.mu t) d i (Tup.hd x)) from rfl,q7]
       simp[initOne],⟨⟨_,b,o,_,rfl,g1,rfl,q5 _ z6⟩,q8⟩,fun h=>by simp[roOnly] at h⟩
      rw[e0]
      rcases q4 b' hb' with h|h
      ·rcases(z4 b').1 h with h|h
       ·exact .inl h
       ·exact .inr (by rw[h];exact AC)
      ·exact .inr (A6 _ h)
     |pio t=>
      obtain⟨b,o,cs,c,e,g1,g2,g3,g4,g5,g6,g7⟩:=h1
      have g2':Ow w A t (Tup.hd x) cs f.rows:=g2
      have e0:placesOf (f::fs)=(b,o)::placesOf fs:=by simp[placesOf,g7]
      rw[e0] at hpl hnd
      simp only[B2,Az] at hnd
      obtain⟨hnok,hnpin⟩:=hpl (b,o) AC
      obtain⟨E1,r1,K1,r2,r5,_,r3,r4⟩:=adopt_valP hr hro g3 (g2'.monoA hA)
      obtain⟨X2,E2,z1,z2,z3,z4,z5,z6,z7,z8,z9,z10,z11⟩:=r1.takeBox (b:=b) (o:=o) hnok r3 r4 g5 g6 g4 (fun j h1 h2=>hM b j (.inr (.inl ⟨(b,o),g7,rfl,h1,h2⟩))) (by rw[r5,hp];exact hnpin)
      have hr1:=z9.set d z11
      rw[<-g1,set_same hd] at hr1
      obtain⟨X',E',hs,q1,q2,q3,q4,q5,q6,q7,q8,_⟩:=ih (i:=initOne (.pio t) d i (Tup.hd x)) (x:=Tup.tl x) hr1 (z7.trans r2) (z8.trans (r5.trans hp)) h2 (fun b' hb'=>have g:=(z10.A b' (K1.A b' (hA b' hb')).1).1;⟨g.1,g.2.1,g.2.2⟩)
       (fun p hp'=>⟨fun h=>by
        rcases(z4 p.1).1 h with h|h
        ·exact(hpl p (A6 _ hp')).1 h
        ·exact hnd.1 (h▸AT.2 ⟨p,hp',rfl⟩),(hpl p (A6 _ hp')).2⟩) hnd.2 (fun b' o' h=>by rw[z2];exact hMr b' o' h) hds
      refine⟨X',E',.ptr (i.σ.more t.nl).nt t [] t::hs,q1.trans z1,q2.trans z2,q3.trans z3,fun b' hb'=>?_,fun p hp'=>q5 p (z5 p hp'),q6,by
       rw[show initL (.pio t::ks) (d::ds) x i=initL ks ds (Tup.tl x) (initOne (.pio t) d i (Tup.hd x)) from rfl,q7]
       simp[initOne],⟨⟨_,b,o,_,rfl,g1,g7,q5 _ z6⟩,q8⟩,fun h=>by simp[roOnly] at h⟩
      rw[e0]
      rcases q4 b' hb' with h|h
      ·rcases(z4 b').1 h with h|h
       ·exact .inl h
       ·exact .inr (by rw[h];exact AC)
      ·exact .inr (A6 _ h)
theorem row_foot {A pin:Nat->Prop}:∀ {ks:List AK} {x:Tup (tysOf ks)} {us:List Value} {fs:List Foot} {b:Nat},ArgsOk w A pin ks x us fs->b∈rowsOf fs->∀o,footM ks fs b o:=by
 intro ks
 induction ks with
 |nil=>intro x us fs b h hb;cases us<;>cases fs<;>first|exact h.elim|(simp[rowsOf] at hb)
 |cons k ks ih=>
  intro x us fs b h hb o
  cases us with
  |nil=>cases fs<;>exact h.elim
  |cons u us=>cases fs with
   |nil=>exact h.elim
   |cons f fs=>
    have hb':b∈f.rows.filterMap id++rowsOf fs:=hb
    rcases Am.1 hb' with h1|h1
    ·refine .inl ?_
     obtain⟨q,hq,he⟩:=AU.1 h1
     have he':q=some b:=he
     rw[<-he'];exact hq
    ·exact .inr (.inr (ih h.2 h1 o))
theorem begin_ok {A pin:Nat->Prop} {ks:List AK} {ds:List Nat} {x:Tup (tysOf ks)} {us:List Value} {fs:List Foot} (hp:Pre ks x w A pin us fs) (hds:ds.map (fun d=>A0[d]?)=us.map some):
  ∃X E hs,RelE X E (initL ks ds x (ini0 A0.size)).σ A0 w/\(initL ks ds x (ini0 A0.size)).homes=hs/\Began X ks w A us fs hs:=by
 obtain⟨hargs,hnd,hap,hltA,hltp,hgl⟩:=hp
 have hperm:=(blocks_perm fs).nodup_iff.1 hnd
 have hdis:=A8.1 hperm
 let X0:Ctx:=⟨w,fun b=>A b\/b∈rowsOf fs\/w.heap.size<=b,footM ks fs,rowsOf fs,[],[],pin⟩
 let E0:Env:=⟨fun _=>(0,0),fun _=>none,rowsOf fs,pin⟩
 have hown:owned E0 (ini0 A0.size).σ=rowsOf fs:=rfl
 have hrow:∀b∈rowsOf fs,b∈blocksOf fs:=fun b hb=>blocks_mem.2 (.inl hb)
 have hr:RelE X0 E0 (ini0 A0.size).σ A0 w:={
  len:=by simp[ini0]
  slot:=fun i s v hs _=>by
   have:s= .no:=by
    have h1:(List.replicate A0.size Slot.no)[i]?=some s:=hs
    rw[List.getElem?_replicate] at h1
    split at h1<;>simp at h1
    exact h1.symm
   subst this;trivial
  bx:=fun b hb=>nomatch hb
  nodup:=by rw[hown];exact hdis.1
  lt:=fun b hb=>by rw[hown] at hb;exact⟨(hap b (hrow b hb)).1,.inr (.inl hb)⟩
  ids:=Au
  idlt:=fun b hb=>nomatch hb
  aln:=Au
  alr:=fun b hb=>nomatch hb
  fzr:=fun b hb=>nomatch hb
  nt2:=AP _
  hd0:=fun _ _=>rfl
  new:=fun b hb=>.inr (.inr hb)
  fr:=⟨rfl,rfl,rfl,AP _,fun _ _=>.inl rfl⟩
  srct:=fun b hb=>nomatch hb
  srcb:=fun b hb=>nomatch hb
  pbm:=fun b hb=>nomatch hb
  srco:=fun b hb=>.inl hb
  lnr:=fun b hb=>nomatch hb
  lnlt:=fun b hb=>nomatch hb
  fpm:=fun b hb o=>row_foot hargs hb o
  pinlt:=fun b hb=>⟨hltp b hb,fun h=>by rw[hown] at h;exact(hap b (hrow b h)).2.2 hb⟩
  adx:=fun b hb=>nomatch hb
  hdx:=fun b hb=>nomatch hb
  gl:=fun p hp=>⟨(hgl p hp).1,.inl (hgl p hp).2,hltA _ (hgl p hp).2,fun o ho=>(hap _ (blocks_mem.2 (footM_mem ho))).2.1 (hgl p hp).2,fun h=>(hap _ (hrow _ h)).2.1 (hgl p hp).2,fun e he=>nomatch he⟩
  xlt:=⟨fun b hb=>(nomatch hb),fun b hb=>(hap b (hrow b hb)).1⟩
  pnx:=fun _ h=>h}
 obtain⟨X',E',hs,q1,q2,q3,q4,q5,q6,q7,q8,q9⟩:=init_ok (i:=ini0 A0.size) hr rfl rfl hargs (fun b hb=>⟨.inl hb,hltA b hb,fun h=>by rw[hown] at h;exact(hap b (hrow b h)).2.1 hb⟩)
  (fun p hp=>by
   have hb:p.1∈blocksOf fs:=blocks_mem.2 (.inr ⟨p,hp,rfl⟩)
   refine⟨fun h=>?_,(hap _ hb).2.2⟩
   rcases h with h|h|h
   ·exact(hap _ hb).2.1 h
   ·exact hdis.2.2 _ h _ (AT.2 ⟨p,hp,rfl⟩) rfl
   ·have:=(hap _ hb).1;omega) hdis.2.1 (fun b o h=>h) hds
 refine⟨X',E',hs,q6,by rw[q7];simp[ini0],⟨q1,fun b o _ h=>by rw[q2] at h;exact h,fun b hb=>?_,fun b hb=>by rw[q3] at hb;exact hb,q8,fun hro e he=>by rw[q9 hro] at he;cases he⟩⟩
 rcases q4 b hb with h|h
 ·rcases h with h|h|h
  ·exact .inl h
  ·exact .inr (.inl (hrow b h))
  ·exact .inr (.inr h)
 ·obtain⟨p,hp,rfl⟩:=AT.1 h
  exact .inr (.inl (blocks_mem.2 (.inr ⟨p,hp,rfl⟩)))
theorem initL_homes:∀ {ks:List AK} {ds:List Nat} {x:Tup (tysOf ks)} {i:Ini},∃hs,(initL ks ds x i).homes=i.homes++hs:=by
 intro ks
 induction ks with
 |nil=>intro ds x i;exact⟨[],by simp[initL]⟩
 |cons c ks ih=>
  intro ds x i
  cases ds with
  |nil=>exact⟨[],by simp[initL]⟩
  |cons d ds=>
   obtain⟨hs,h⟩:=ih (ds:=ds) (x:=Tup.tl x) (i:=initOne c d i (Tup.hd x))
   have h0:∃h1,(initOne c d i (Tup.hd x)).homes=i.homes++[h1]:=by cases c<;>exact⟨_,rfl⟩
   obtain⟨h1,e1⟩:=h0
   exact⟨h1::hs,by show(initL ks ds (Tup.tl x) (initOne c d i (Tup.hd x))).homes=_;rw[h,e1];simp⟩
theorem homes_io {A1:Array Value} {ws:List Nat} (hws:∀i,i∉ws->A1[i]?=A0[i]?):∀ {ks:List AK} {ds:List Nat} {x:Tup (tysOf ks)} {i:Ini} {us:List Value} {hs:List Slot},(initL ks ds x i).homes=i.homes++hs->ds.map (fun d=>A0[d]?)=us.map some->ioKept ks ds ws=true->IoAt A1 ks us hs:=by
 intro ks
 induction ks with
 |nil=>intro ds x i us hs _ _ _;cases us<;>cases hs<;>trivial
 |cons c ks ih=>
  intro ds x i us hs h hds hk
  cases us with
  |nil=>trivial
  |cons u us=>
   cases ds with
   |nil=>simp at hds
   |cons d ds=>
    simp only[B2,BL] at hds
    have h0:∃h1,(initOne c d i (Tup.hd x)).homes=i.homes++[h1]/\((∃t,c= .io t)->h1=ioH d):=by
     cases c<;>first|exact⟨_,rfl,fun _=>rfl⟩|exact⟨_,rfl,fun⟨t,h⟩=>by cases h⟩
    obtain⟨h1,e1,e2⟩:=h0
    obtain⟨hs',e3⟩:=initL_homes (ks:=ks) (ds:=ds) (x:=Tup.tl x) (i:=initOne c d i (Tup.hd x))
    have e4:i.homes++hs=i.homes++(h1::hs'):=by
     rw[<-h]
     show(initL ks ds (Tup.tl x) (initOne c d i (Tup.hd x))).homes=_
     rw[e3,e1];simp
    have e5:=List.append_cancel_left e4
    subst e5
    have hk':ioKept ks ds ws=true:=by
     cases c<;>simp only[ioKept,A3] at hk<;>first|exact hk|exact hk.2
    refine⟨?_,ih (x:=Tup.tl x) (i:=initOne c d i (Tup.hd x)) e3 hds.2 hk'⟩
    cases c with
    |io t=>
     simp only[ioKept,A3,Ab] at hk
     refine⟨d,e2 ⟨t,rfl⟩,?_⟩
     rw[hws d (fun hm=>by rw[Aq.2 hm] at hk;cases hk.1)]
     exact hds.1
    |_=>trivial
end
end Go.Proofs.YtacbkfginiknaaaDoor.V
namespace Go.Proofs.YtacbkfginiknaaaDoor.V
open Go
section
variable {P:Program} {X:Ctx} {E:Env} {σ:St} {A0:Array Value} {a:Act} {w:World} {R:Type}
def XPost (aks:List AK) (c:Code) (a:Act) (w:World) (A:Nat->Prop) (us:List Value) (fs:List Foot) (e:XK×List Nat×List (Ty×Bool)) (y:Tup (resOf e.2.2++outsOf aks)) (x:Exit) (a':Act) (w':World):Prop:=
 e.1.mt x/\a'.defers=a.defers/\a'.tmps.size=a.tmps.size/\(∀i,i∉writes c->a'.tmps[i]?=a.tmps[i]?)/\∃vs:List Value,e.2.1.map (fun d=>a'.tmps[d]?)=vs.map some/\PostL aks e.2.2 w A us fs y vs w'
def CutPost (aks:List AK) (c:Code) (a:Act) (w:World) (A:Nat->Prop) (us:List Value) (fs:List Foot):(es:List (XK×List Nat×List (Ty×Bool)))->XOuts aks es->Exit->Act->World->Prop
 |[],y,_,_,_=>nomatch y
 |[e],y,x,a',w'=>XPost aks c a w A us fs e y x a' w'
 |e::f::r,y,x,a',w'=>match y with
  | .inl y=>XPost aks c a w A us fs e y x a' w'
  | .inr y=>CutPost aks c a w A us fs (f::r) y x a' w'
def CutMeets (P:Program) (c:Code) (cut:Cut):Prop:=
 ∀x y,cut.f x=some y->∀ (w:World) (A pin:Nat->Prop) (us:List Value) (fs:List Foot) (a:Act),Pre cut.s.aks x w A pin us fs->cut.s.ds.map (fun d=>a.tmps[d]?)=us.map some->a.tmps.size=cut.s.n->
  c.wp P (CutPost cut.s.aks c a w A us fs cut.s.exits y) a w
theorem slotsAt_get {ds:List Nat} (i:Nat) {s:Slot} (h:(slotsAt σ ds)[i]?=some s):∃d,ds[i]?=some d/\s=σ.fr.getD d .no:=by
 simp only[slotsAt,AY] at h
 cases hd:ds[i]? with
 |none=>rw[hd] at h;simp at h
 |some d=>rw[hd] at h;exact⟨d,rfl,by simpa using h.symm⟩
theorem slotsAt_ok (hr:RelE X E σ a.tmps w) {ds:List Nat} (i:Nat) {s:Slot} {u:Value} (h:(slotsAt σ ds)[i]?=some s) (h2:(ds.map fun d=>a.tmps.getD d undef)[i]?=some u):SlotOk w (Fz X E σ w) E σ s u:=by
 obtain⟨d,hd,rfl⟩:=slotsAt_get i h
 rw[AY,hd] at h2
 simp at h2
 subst h2
 have:=slot_opd hr (.tmp d)
 simp only[opd,Act.eval] at this
 rwa [AM] at this
theorem getD_some {A0:Array Value} {ds:List Nat} (h:ds.all (fun d=>decide (d<A0.size))=true):ds.map (fun d=>A0[d]?)=(ds.map fun d=>A0.getD d undef).map some:=by
 rw[List.map_map]
 apply BR
 intro d hd
 have:=A7.1 h d hd
 simp only[decide_eq_true_eq] at this
 simp[this]
theorem RelE.clearL (hr:RelE X E σ A0 w) (ws:List Nat) {A1:Array Value} (hs:A1.size=A0.size) (ho:∀i,i∉ws->A1[i]?=A0[i]?):RelE X E (clearL ws σ) A1 w:=by
 have key:∀ (ws:List Nat) (fr:List Slot),(ws.foldl (fun fr i=>fr.set i .no) fr).length=fr.length/\∀ (i:Nat) s,(ws.foldl (fun fr i=>fr.set i .no) fr)[i]?=some s->s= .no\/(fr[i]?=some s/\i∉ws):=by
  intro ws
  induction ws with
  |nil=>intro fr;exact⟨rfl,fun i s h=>.inr ⟨h,by simp⟩⟩
  |cons d ws ih=>
   intro fr
   obtain⟨h1,h2⟩:=ih (fr.set d .no)
   refine⟨by rw[Ao,h1];simp,fun i s h=>?_⟩
   rw[Ao] at h
   rcases h2 i s h with h|⟨h,h3⟩
   ·exact .inl h
   ·by_cases hi:d=i
    ·subst hi
     rw[List.getElem?_set_self (by have:=(Aa.1 h).1;simpa using this)] at h
     injection h with h
     exact .inl h.symm
    ·rw[BQ hi] at h
     exact .inr ⟨h,fun hm=>by rcases AW.1 hm with rfl|hm;exact hi rfl;exact h3 hm⟩
 obtain⟨h1,h2⟩:=key ws σ.fr
 exact {hr with
  len:=by show(ws.foldl _ σ.fr).length=_;rw[h1,hr.len,hs]
  slot:=fun i s v hs' hv=>by
   rcases h2 i s hs' with h|⟨h,k⟩
   ·subst h;trivial
   ·rw[ho i k] at hv
    exact(hr.slot i s v h hv).fr hr.ge
  bx:=fun b hb=>(hr.bx b hb).fr (hr.idlt b hb) hr.ge}
theorem fill_ok:∀ {ds:List Nat} {l:List Val} {vs:List Value} {σ:St},RelE X E σ A0 w->ds.map (fun d=>A0[d]?)=vs.map some->l.length=vs.length->
  (∀ (i:Nat) x u,l[i]?=some x->vs[i]?=some u->ValOk w (Fz X E σ w) E σ x u)->RelE X E (fillL ds l σ) A0 w:=by
 intro ds
 induction ds with
 |nil=>intro l vs σ hr _ _ _;exact hr
 |cons d ds ih=>
  intro l vs σ hr hd hl hv
  cases l with
  |nil=>exact hr
  |cons x l=>
   cases vs with
   |nil=>simp at hl
   |cons u vs=>
    simp only[B2,BL] at hd
    have h1:=hr.set d (s:=.val x none) (hv 0 x u rfl rfl)
    rw[set_same hd.1] at h1
    exact ih h1 hd.2 (by simpa using hl) (fun i y v e1 e2=>by
     obtain⟨cs,g1,g2,g3⟩:=hv (i+1) y v (by simpa using e1) (by simpa using e2)
     have:SlotOk w (Fz X E σ w) E {σ with fr:=σ.fr.set d (.val x none)} (.val y none) v:=SlotOk.fr (s:=.val y none) ⟨cs,g1,g2,g3⟩ hr.ge
     exact this)
theorem cut_ok {c:Code} {cut:Cut} (hm:CutMeets P c cut):CutOk P cut c:=by
 intro R X E σ a w k r h hr
 unfold cutK at h
 cases hg:(σ.fr.length==cut.s.n&&cut.s.ds.all fun d=>decide (d<cut.s.n)) with
 |false=>rw[hg] at h;simp at h
 |true=>
  rw[hg] at h
  simp only[cond_true] at h
  simp only[A3,beq_iff_eq] at hg
  obtain⟨hg1,hg2⟩:=hg
  have hsz:a.tmps.size=cut.s.n:=by rw[<-hr.len,hg1]
  obtain⟨x,σ1,E1,fs,A,pin,h1,h2,_,_,_,_,_,h3⟩:=lent_ok (us:=cut.s.ds.map fun d=>a.tmps.getD d undef) hr (by simp[slotsAt]) (fun i s u e1 e2=>slotsAt_ok hr i e1 e2) h
  cases hy:cut.f x with
  |none=>rw[hy] at h1;simp at h1
  |some y=>
   rw[hy] at h1
   simp only[Aw] at h1
   have hwp:=hm x y hy w A pin _ fs a h2 (getD_some (by rw[hsz];exact hg2)) hsz
   refine wp_mono hwp fun e a' w' he=>?_
   have one:∀ (p:XK×List Nat×List (Ty×Bool)) (y:Tup (resOf p.2.2++outsOf cut.s.aks)),(sharesC cut.s=false->sharesR p.2.2=false/\sharesO cut.s.aks=false)->XPost cut.s.aks c a w A (cut.s.ds.map fun d=>a.tmps.getD d undef) fs p y e a' w'->
     (backK cut.s.aks (slotsAt σ cut.s.ds) p.2.2 y σ1 fun l σ=>k p.1 (fillL p.2.1 l (clearL (writes c) σ)))=some r->Ends X c a (fun x σ'=>k x σ'=some r) e a' w':=by
    intro p y hsh ⟨p1,p2,p3,p4,vs,p5,p6⟩ hb
    obtain⟨_,l,σ2,E2,q1,q2,q3,q4⟩:=h3 hsh p6 hb
    have hc:=q2.clearL (writes c) p3 p4
    have hf:=fill_ok hc p5 q3 (fun i x u e1 e2=>by
     obtain⟨cs,g1,g2,g3⟩:=q4 i x u e1 e2
     exact SlotOk.fr (s:=.val x none) (fr:=(clearL (writes c) σ2).fr) ⟨cs,g1,g2,g3⟩ q2.ge)
    exact⟨p.1,p1,p2,p3,p4,_,q1,E2,hf⟩
   have all:∀ (es:List (XK×List Nat×List (Ty×Bool))) (y:XOuts cut.s.aks es),(sharesC cut.s=false->(∀p∈es,sharesR p.2.2=false)/\sharesO cut.s.aks=false)->CutPost cut.s.aks c a w A (cut.s.ds.map fun d=>a.tmps.getD d undef) fs es y e a' w'->
     exitsK cut.s.aks (slotsAt σ cut.s.ds) (writes c) es y σ1 k=some r->Ends X c a (fun x σ'=>k x σ'=some r) e a' w':=by
    intro es
    induction es with
    |nil=>intro y;exact nomatch y
    |cons p es ih=>
     intro y hsh hp hk
     cases es with
     |nil=>exact one p y (fun h=>⟨(hsh h).1 p AC,(hsh h).2⟩) hp hk
     |cons f es=>
      cases y with
      |inl y=>exact one p y (fun h=>⟨(hsh h).1 p AC,(hsh h).2⟩) hp hk
      |inr y=>exact ih y (fun h=>⟨fun q hq=>(hsh h).1 q (A6 _ hq),(hsh h).2⟩) hp hk
   refine all cut.s.exits y (fun hs=>?_) he h1
   simp only[sharesC,BP,BU] at hs
   exact⟨fun p hp=>by simpa using hs.1 p hp,hs.2⟩
theorem mt_beq {x y:XK} {e:Exit} (h:x.beq y=true) (hy:y.mt e):x.mt e:=by
 cases x<;>cases y<;>simp[XK.beq] at h<;>first|exact hy|(subst h;exact hy)
theorem leave_ok {aks:List AK} {c:Code} {hs:List Slot} {w0:World} {a0:Act} {A:Nat->Prop} {us:List Value} {fs:List Foot} {xk:XK} {e:Exit} (hno:noIo aks=true) (hr:RelE X E σ a.tmps w) (hb:Began X aks w0 A us fs hs) (hx:xk.mt e) (d1:a.defers=a0.defers) (d2:a.tmps.size=a0.tmps.size) (d3:∀i,i∉writes c->a.tmps[i]?=a0.tmps[i]?):
  ∀ {es:List (XK×List Nat×List (Ty×Bool))} {y:XOuts aks es},(∀p∈es,p.2.1.all (fun d=>decide (d<a0.tmps.size))=true)->leaveK aks hs es xk σ=some y->CutPost aks c a0 w0 A us fs es y e a w:=by
 have one:∀ {p:XK×List Nat×List (Ty×Bool)} {y:Tup (resOf p.2.2++outsOf aks)},p.2.1.all (fun d=>decide (d<a0.tmps.size))=true->p.1.beq xk=true->finK aks hs p.2.2 (slotsAt σ p.2.1) σ=some y->XPost aks c a0 w0 A us fs p y e a w:=by
  intro p y hd hb1 hf
  refine⟨mt_beq hb1 hx,d1,d2,d3,_,getD_some (by rw[d2];exact hd),fin_ok hr hb (ioAt_no hno) (by simp[slotsAt]) (fun i s u e1 e2=>slotsAt_ok hr i e1 e2) hf⟩
 intro es
 induction es with
 |nil=>intro y;exact nomatch y
 |cons p es ih=>
  intro y hd h
  cases es with
  |nil=>
   simp only[leaveK] at h
   cases hb1:p.1.beq xk with
   |false=>rw[hb1] at h;simp at h
   |true=>rw[hb1] at h;exact one (hd p AC) hb1 h
  |cons f es=>
   simp only[leaveK] at h
   cases hb1:p.1.beq xk with
   |true=>
    rw[hb1] at h
    simp only[cond_true,B4,AJ] at h
    obtain⟨y',h1,rfl⟩:=h
    exact one (hd p AC) hb1 h1
   |false=>
    rw[hb1] at h
    simp only[cond_false,B4,AJ] at h
    obtain⟨y',h1,rfl⟩:=h
    exact ih (fun q hq=>hd q (A6 _ hq)) h1
def CutSig.fit (s:CutSig):Bool:=s.exits.all fun p=>p.2.1.all fun d=>decide (d<s.n)
theorem cut_meets (hmix:P.follows .mixedOrders=true) (T:Tabs) (C:Cuts) (hT:TabOk P T.T) (hF:FOk P T.F) {c:Code} {s:CutSig} (hc:CutsIn P C c) (hfit:s.fit=true) (f:s.In->Option s.Out) (he:∀x y,f x=some y->cutFn T C c s x=some y):CutMeets P c ⟨s,f⟩:=by
 intro x y hxy w A pin us fs a hp hds hsz
 have h:=he x y hxy
 unfold cutFn at h
 cases hno:noIo s.aks with
 |false=>rw[hno] at h;cases h
 |true=>
 rw[hno] at h
 simp only[cond_true] at h
 obtain⟨X,E,hs,hr,hh,hbg⟩:=begin_ok (A0:=a.tmps) hp hds
 rw[hsz] at hr hh
 refine wp_mono (code_ok hmix T C hT hF hc h hr) fun e a' w' hE=>?_
 obtain⟨x',hx,e1,e2,e3,σ',hg,E',hr'⟩:=hE
 rw[hh] at hg
 exact leave_ok hno hr' hbg hx e1 e2 e3 (fun p hp=>by rw[hsz];exact A7.1 hfit p hp) hg
theorem places_same:∀ {aks:List AK} {x1:Tup (tysOf aks)} {us us1:List Value} {fs fs1:List Foot} {hs ss:List Slot} {A1 pin1:Nat->Prop},HomesOk X aks us fs hs->sameHomes aks hs ss=true->ss.length=us1.length->(∀ (i:Nat) s u,ss[i]?=some s->us1[i]?=some u->SlotOk w (Fz X E σ w) E σ s u)->
  (∀p∈X.pbx,E.ad p.1=p.2.1)->ArgsOk w A1 pin1 aks x1 us1 fs1->placesOf fs1=placesOf fs/\(∀b o,footM aks fs1 b o->b∈rowsOf fs1\/footM aks fs b o)/\
   ∀ {w':World} {A:Nat->Prop} {y:Tup (outsOf aks)} {bo:List (List (Option Nat))},OutsOk w' A aks y us1 fs1 bo->OutsOk w' A aks y us fs bo:=by
 intro aks
 induction aks with
 |nil=>
  intro x1 us us1 fs fs1 hs ss A1 pin1 hh _ _ _ _ ha
  cases us<;>cases fs<;>cases hs<;>first|exact hh.elim|skip
  cases us1<;>cases fs1<;>first|exact ha.elim|skip
  exact⟨rfl,fun b o h=>h.elim,fun h=>h⟩
 |cons c aks ih=>
  intro x1 us us1 fs fs1 hs ss A1 pin1 hh hsm hl hsl had ha
  cases us with
  |nil=>cases fs<;>cases hs<;>exact hh.elim
  |cons u us=>cases fs with
   |nil=>cases hs<;>exact hh.elim
   |cons f fs=>cases hs with
    |nil=>exact hh.elim
    |cons hm hs=>
     cases us1 with
     |nil=>cases fs1<;>exact ha.elim
     |cons u1 us1=>cases fs1 with
      |nil=>exact ha.elim
      |cons f1 fs1=>
       cases ss with
       |nil=>simp at hl
       |cons s ss=>
        obtain⟨h1,h2⟩:=hh
        obtain⟨a1,a2⟩:=ha
        have hsl2:∀ (i:Nat) s' u',ss[i]?=some s'->us1[i]?=some u'->SlotOk w (Fz X E σ w) E σ s' u':=fun i s' u' e1 e2=>hsl (i+1) s' u' (by simpa using e1) (by simpa using e2)
        have hrow:∀ {b:Nat},b∈rowsOf fs1->b∈rowsOf (f1::fs1):=fun h=>AV _ h
        have plain:f.place=none->f1.place=none->sameHomes aks hs ss=true->(∀ {w':World} {A:Nat->Prop} {v:Tup c.outs} {bs:List (Option Nat)},OutOk w' A c u1 f1 bs v->OutOk w' A c u f bs v)->
          placesOf (f1::fs1)=placesOf (f::fs)/\(∀b o,footM (c::aks) (f1::fs1) b o->b∈rowsOf (f1::fs1)\/footM (c::aks) (f::fs) b o)/\
           ∀ {w':World} {A:Nat->Prop} {y:Tup (outsOf (c::aks))} {bo:List (List (Option Nat))},OutsOk w' A (c::aks) y (u1::us1) (f1::fs1) bo->OutsOk w' A (c::aks) y (u::us) (f::fs) bo:=by
         intro p1 p2 p3 p4
         obtain⟨k1,k2,k3⟩:=ih h2 p3 (by simpa using hl) hsl2 had a2
         refine⟨by simp only[placesOf,Ay,p1,p2] at k1 ⊢;exact k1,fun b o h=>?_,fun {w' A y bo} h=>?_⟩
         ·rcases h with h|⟨p,h,_⟩|h
          ·exact .inl (AI _ (AU.2 ⟨some b,h,rfl⟩))
          ·rw[p2] at h;cases h
          ·exact(k2 b o h).imp hrow (fun h=>.inr (.inr h))
         ·cases bo with
          |nil=>exact h.elim
          |cons bs bo=>exact⟨p4 h.1,k3 h.2⟩
        cases c with
        |ro t=>exact plain h1 (by have:=a1.2;rw[this]) (by simpa[sameHomes] using hsm) (fun h=>h)
        |own t=>exact plain h1 a1.2.2 (by simpa[sameHomes] using hsm) (fun h=>h)
        |io t=>simp[sameHomes] at hsm
        |pin t=>exact plain h1 (by have:=a1.2;rw[this]) (by simpa[sameHomes] using hsm) (fun h=>h)
        |clo g n ks=>exact plain h1 (by have:=a1.2;rw[this]) (by simpa[sameHomes] using hsm) (fun h=>h)
        |mu t=>
         obtain⟨id,b,o,sz,rfl,rfl,hpl,hpb⟩:=h1
         cases s with
         |ptr id' r' p t'=>
          cases p with
          |cons q p=>simp[sameHomes] at hsm
          |nil=>
           simp only[sameHomes,A3,beq_iff_eq] at hsm
           obtain⟨rfl,hsm⟩:=hsm
           obtain⟨_,b',o',hv,had'⟩:=hsl 0 _ _ rfl rfl
           simp only[addr,AJ,B7] at had'
           have hE:E.ad id=(b,o):=had _ hpb
           rw[hE] at had'
           simp only[B7] at had'
           obtain⟨_,rfl,rfl⟩:=had'
           obtain⟨b2,o2,cs,c2,e2,g1,g2,g4,g5,g6,g7'⟩:=a1
           have g7:f1.place=some (b2,o2):=by rw[g7']
           rw[hv] at g1
           simp only[Value.pointer.injEq,AJ,Addr.mk.injEq,and_true] at g1
           obtain⟨rfl,rfl⟩:=g1
           obtain⟨k1,k2,k3⟩:=ih h2 hsm (by simpa using hl) hsl2 had a2
           refine⟨by simp only[placesOf,Ay,hpl,g7] at k1 ⊢;rw[k1],fun b3 o3 h=>?_,fun {w' A y bo} h=>?_⟩
           ·rcases h with h|⟨p,h,h'⟩|h
            ·exact .inl (AI _ (AU.2 ⟨some b3,h,rfl⟩))
            ·rw[g7] at h
             exact .inr (.inr (.inl ⟨p,by rw[hpl];exact h,h'⟩))
            ·exact(k2 b3 o3 h).imp hrow (fun h=>.inr (.inr h))
           ·cases bo with
            |nil=>exact h.elim
            |cons bs bo=>
             refine⟨?_,k3 h.2⟩
             obtain⟨q1,b4,o4,cs4,q2,q3,q4⟩:=h.1
             exact⟨q1,b4,o4,cs4,by rw[<-hv];exact q2,q3,q4⟩
         |_=>simp[sameHomes] at hsm
        |pio t=>
         obtain⟨id,b,o,sz,rfl,rfl,hpl,hpb⟩:=h1
         cases s with
         |ptr id' r' p t'=>
          cases p with
          |cons q p=>simp[sameHomes] at hsm
          |nil=>
           simp only[sameHomes,A3,beq_iff_eq] at hsm
           obtain⟨rfl,hsm⟩:=hsm
           obtain⟨_,b',o',hv,had'⟩:=hsl 0 _ _ rfl rfl
           simp only[addr,AJ,B7] at had'
           have hE:E.ad id=(b,o):=had _ hpb
           rw[hE] at had'
           simp only[B7] at had'
           obtain⟨_,rfl,rfl⟩:=had'
           obtain⟨b2,o2,cs,c2,e2,g1,g2,g3,g4,g5,g6,g7⟩:=a1
           rw[hv] at g1
           simp only[Value.pointer.injEq,AJ,Addr.mk.injEq,and_true] at g1
           obtain⟨rfl,rfl⟩:=g1
           obtain⟨k1,k2,k3⟩:=ih h2 hsm (by simpa using hl) hsl2 had a2
           refine⟨by simp only[placesOf,Ay,hpl,g7] at k1 ⊢;rw[k1],fun b3 o3 h=>?_,fun {w' A y bo} h=>?_⟩
           ·rcases h with h|⟨p,h,h'⟩|h
            ·exact .inl (AI _ (AU.2 ⟨some b3,h,rfl⟩))
            ·rw[g7] at h
             exact .inr (.inr (.inl ⟨p,by rw[hpl];exact h,h'⟩))
            ·exact(k2 b3 o3 h).imp hrow (fun h=>.inr (.inr h))
           ·cases bo with
            |nil=>exact h.elim
            |cons bs bo=>
             refine⟨?_,k3 h.2⟩
             obtain⟨q1,b4,o4,cs4,q2,q3,q4⟩:=h.1
             exact⟨q1,b4,o4,cs4,by rw[<-hv];exact q2,q3,q4⟩
         |_=>simp[sameHomes] at hsm
theorem rounds_mono {c:Code} {Q Q':Exit->Act->World->Prop} (hq:∀e a w,Q e a w->Q' e a w):∀ (n:Nat) (a:Act) (w:World),BW P c Q n a w->BW P c Q' n a w:=by
 intro n
 induction n with
 |zero=>intro a w h;exact h
 |succ n ih=>
  intro a w h
  rw[rounds_succ] at h ⊢
  refine wp_mono h fun e a' w' he=>?_
  cases e<;>first|exact ih a' w' he|exact hq _ _ _ he
theorem Fr.trans2 {M M':Nat->Nat->Prop} {w0 w w':World} (h:Fr M w0 w) (k:Fr M' w w') (hm:∀b o,b<w0.heap.size->M' b o->M b o):Fr M w0 w':=by
 refine⟨k.os.trans h.os,k.tape.trans h.tape,k.output.trans h.output,Ax h.size k.size,fun b hb=>?_⟩
 rcases h.block b hb with q1|⟨d,d',e',q1,q2,q3,q4⟩
 ·rcases k.block b (Aj hb h.size) with h1|⟨c,c',e,h1,h2,h3,h4⟩
  ·exact .inl (h1.trans q1)
  ·exact .inr ⟨c,c',e,by rw[<-q1];exact h1,h2,h3,fun o ho=>h4 o (fun hM=>ho (hm b o hb hM))⟩
 ·rcases k.block b (Aj hb h.size) with h1|⟨c,c',e,h1,h2,h3,h4⟩
  ·exact .inr ⟨d,d',e',q1,by rw[h1];exact q2,q3,q4⟩
  ·rw[h1] at q2
   simp only[AJ,Obj.cells.injEq,and_true] at q2
   obtain⟨rfl,rfl⟩:=q2
   exact .inr ⟨d,c',e,q1,h2,h3.trans q3,fun o ho=>(h4 o (fun hM=>ho (hm b o hb hM))).trans (q4 o ho)⟩
theorem loop_meets (hmix:P.follows .mixedOrders=true) (T:Tabs) (C:Cuts) (hT:TabOk P T.T) (hF:FOk P T.F) {body:Code} {s:CutSig} (hc:CutsIn P C body) (hfit:s.fit=true):∀ (m:Nat) (x:s.In) (y:s.Out),iter (loopStep T C body s) m x=some y->
  ∀ (w:World) (A pin:Nat->Prop) (us:List Value) (fs:List Foot) (a:Act),Pre s.aks x w A pin us fs->s.ds.map (fun d=>a.tmps[d]?)=us.map some->a.tmps.size=s.n->
   BW P body (CutPost s.aks (.loop body) a w A us fs s.exits y) m a w:=by
 intro m
 induction m with
 |zero=>intro x y h;simp[iter] at h
 |succ m ih=>
  intro x y h w A pin us fs a hp hds hsz
  simp only[iter] at h
  generalize iter (loopStep T C body s) m=rec at h ih
  unfold loopStep at h
  cases hno:noIo s.aks with
  |false=>rw[hno] at h;cases h
  |true=>
  rw[hno] at h
  simp only[cond_true] at h
  obtain⟨X,E,hs,hr,hh,hbg⟩:=begin_ok (A0:=a.tmps) hp hds
  rw[hsz] at hr hh
  rw[rounds_succ]
  refine wp_mono (code_ok hmix T C hT hF hc h hr) fun e a' w' hE=>?_
  obtain⟨x',hx,e1,e2,e3,σ',hg,E',hr'⟩:=hE
  rw[hh] at hg
  have hfits:∀p∈s.exits,p.2.1.all (fun d=>decide (d<a.tmps.size))=true:=fun p hp=>by rw[hsz];exact A7.1 hfit p hp
  cases x' with
  |ret=>
   cases e<;>first|exact hx.elim|skip
   exact leave_ok (c:=.loop body) hno hr' hbg hx e1 e2 e3 hfits hg
  |ex i=>
   cases e<;>first|exact hx.elim|skip
   exact leave_ok (c:=.loop body) hno hr' hbg hx e1 e2 e3 hfits hg
  |nor=>
   cases e<;>first|exact hx.elim|skip
   simp only at hg
   cases hb:sameHomes s.aks hs (slotsAt σ' s.ds)&&s.ds.all fun d=>decide (d<s.n) with
   |false=>rw[hb] at hg;simp at hg
   |true=>
    rw[hb] at hg
    simp only[cond_true] at hg
    simp only[A3] at hb
    have hsl:∀ (i:Nat) s' u,(slotsAt σ' s.ds)[i]?=some s'->(s.ds.map fun d=>a'.tmps.getD d undef)[i]?=some u->SlotOk w' (Fz X E' σ' w') E' σ' s' u:=fun i s' u g1 g2=>slotsAt_ok hr' i g1 g2
    obtain⟨x1,σ1,E1,fs1,A1,pin1,h1,h2,h3,h4,h5,h6,_⟩:=lent_ok (us:=s.ds.map fun d=>a'.tmps.getD d undef) hr' (by simp[slotsAt]) hsl hg
    have hsz':a'.tmps.size=s.n:=e2.trans hsz
    have hrec:=ih x1 y h1 w' A1 pin1 _ fs1 a' h2 (getD_some (by rw[hsz'];exact hb.2)) hsz'
    obtain⟨k1,k2,k3⟩:=places_same hbg.homes hb.1 (by simp[slotsAt]) hsl (fun p hp=>(hr'.adx p hp).2) h2.args
    have hrows:∀b∈rowsOf fs1,b∈rowsOf fs\/w.heap.size<=b:=fun b hb=>(h6 b hb).imp (hbg.fps b) (fun h=>by rw[hbg.w0] at h;exact h)
    have hA1:∀b,A1 b->A b\/b∈rowsOf fs\/w.heap.size<=b:=by
     intro b hb
     rcases hbg.ok b (h5 b hb).1 with h|h|h
     ·exact .inl h
     ·rcases blocks_mem.1 h with h|⟨p,hp,rfl⟩
      ·exact .inr (.inl h)
      ·exfalso
       exact(h2.apart p.1 (blocks_mem.2 (.inr ⟨p,by rw[k1];exact hp,rfl⟩))).2.1 hb
     ·exact .inr (.inr h)
    have hfr:Fr (footM s.aks fs) w w':=by
     have:=hr'.fr
     rw[hbg.w0] at this
     exact this.narrow hbg.M
    have hfoot:∀b o,b<w.heap.size->footM s.aks fs1 b o->footM s.aks fs b o:=by
     intro b o hlt h
     rcases k2 b o h with h|h
     ·rcases hrows b h with h|h
      ·exact row_foot hp.args h o
      ·omega
     ·exact h
    have lift1:∀ (p:XK×List Nat×List (Ty×Bool)) (y:Tup (resOf p.2.2++outsOf s.aks)) (e:Exit) (a2:Act) (w2:World),XPost s.aks (.loop body) a' w' A1 (s.ds.map fun d=>a'.tmps.getD d undef) fs1 p y e a2 w2->XPost s.aks (.loop body) a w A us fs p y e a2 w2:=by
     intro p y e a2 w2 ⟨p1,p2,p3,p4,vs,p5,hfr2,bo,br,q1,q2,q3,q4⟩
     have hAf:∀b,After w' w2 A1 fs1 (flatB bo++flatB br) b->After w w2 A fs (flatB bo++flatB br) b:=by
      intro b ⟨g1,g2,g3⟩
      refine⟨?_,g2,g3⟩
      rcases g1 with g|g|g
      ·exact hA1 b g
      ·exact .inr (hrows b g)
      ·exact .inr (.inr (Ax hfr.size g))
     refine⟨p1,p2.trans e1,p3.trans e2,fun i hi=>(p4 i hi).trans (e3 i hi),vs,p5,hfr.trans2 hfr2 hfoot,bo,br,q1,fun b hb=>⟨?_,(q2 b hb).2⟩,q3.monoA hAf,(k3 q4).monoA hAf⟩
     rcases(q2 b hb).1 with g|g
     ·exact hrows b g
     ·exact .inr (Ax hfr.size g)
    refine rounds_mono (fun e a2 w2 hpost=>?_) m a' w' hrec
    have all:∀ (es:List (XK×List Nat×List (Ty×Bool))) (y:XOuts s.aks es),CutPost s.aks (.loop body) a' w' A1 (s.ds.map fun d=>a'.tmps.getD d undef) fs1 es y e a2 w2->CutPost s.aks (.loop body) a w A us fs es y e a2 w2:=by
     intro es
     induction es with
     |nil=>intro y;exact nomatch y
     |cons p es ih=>
      intro y hp
      cases es with
      |nil=>exact lift1 p y e a2 w2 hp
      |cons f es=>
       cases y with
       |inl y=>exact lift1 p y e a2 w2 hp
       |inr y=>exact ih y hp
    exact all s.exits y hpost
theorem loop_ok (hmix:P.follows .mixedOrders=true) (T:Tabs) (C:Cuts) (hT:TabOk P T.T) (hF:FOk P T.F) {body:Code} {s:CutSig} (hc:CutsIn P C body) (hfit:s.fit=true) {S:(s.In->Option s.Out)->s.In->Option s.Out} (he:∀rec x,loopStep T C body s rec x=S rec x):CutOk P ⟨s,iter S FUEL⟩ (.loop body):=by
 refine cut_ok fun x y hxy w A pin us fs a hp hds hsz=>?_
 have hS:loopStep T C body s=S:=by funext rec x;exact he rec x
 exact wp_loop_rounds FUEL (loop_meets hmix T C hT hF hc hfit FUEL x y (by rw[hS];exact hxy) w A pin us fs a hp hds hsz)
end
end Go.Proofs.YtacbkfginiknaaaDoor.V
namespace Go.Proofs.YtacbkfginiknaaaDoor.V
open Go
section
variable {P:Program} {X:Ctx} {E:Env} {σ:St} {A0:Array Value} {a:Act} {w:World} {R:Type}
def rvM (tmps:Array Value) (rv:ResultVar):Sem Value:=
 match rv with
 | .tmp t=>pure (tmps.getD t undef)
 | .cell p t=>do loadVar t (<-asAddr (tmps.getD p undef))
theorem rv_ok (T:TypeId->Option Ty) (hT:TabOk P T) {rv:ResultVar} {k:Slot->Option R} {r:R} (hr:RelE X E σ a.tmps w) (h:rvK T σ rv k=some r):
  ∃s u,k s=some r/\SlotOk w (Fz X E σ w) E σ s u/\(rvM a.tmps rv).run P w= .ok u w:=by
 cases rv with
 |tmp t=>exact⟨_,_,h,slot_opd hr (.tmp t),rfl⟩
 |cell p i=>
  simp only[rvK] at h
  cases hTt:T i with
  |none=>simp[hTt] at h
  |some t=>
   simp only[hTt] at h
   have hs:=slot_opd hr (.tmp p)
   simp only[opd] at hs
   obtain⟨x,hm,b,o,cs,h1,h2,h3,h4,h5⟩:=read_ok hr hs h
   obtain⟨n,ht⟩:=hT.ty i _ hTt
   cases hb:Ty.beq x.t t with
   |false=>rw[hb] at h1;simp at h1
   |true=>
    rw[hb] at h1
    simp only[cond_true] at h1
    have:=Ty.eq_of_beq hb
    subst this
    refine⟨.val x none,toVal x.t cs,h1,⟨cs,h3,rfl,h4⟩,?_⟩
    have h2':a.tmps.getD p undef= .pointer (some ⟨b,o,none⟩):=h2
    simp only[rvM,h2',asAddr,BF,BG,B5]
    exact run_loadVar_ty ht h3.length h5
theorem rvs_ok (T:TypeId->Option Ty) (hT:TabOk P T):∀ {l:List ResultVar} {k:List Slot->Option R} {r:R},RelE X E σ a.tmps w->rvsK T σ l k=some r->
  ∃ss us,k ss=some r/\ss.length=us.length/\us.length=l.length/\(∀ (i:Nat) s u,ss[i]?=some s->us[i]?=some u->SlotOk w (Fz X E σ w) E σ s u)/\
   (l.mapM (m:=Sem) (rvM a.tmps)).run P w= .ok us w:=by
 intro l
 induction l with
 |nil=>intro k r hr h;exact⟨[],[],h,rfl,rfl,fun i s u h=>by simp at h,rfl⟩
 |cons rv l ih=>
  intro k r hr h
  simp only[rvsK] at h
  obtain⟨s,u,h1,h2,h3⟩:=rv_ok T hT hr h
  obtain⟨ss,us,k1,k2,k3,k4,k5⟩:=ih hr h1
  refine⟨s::ss,u::us,k1,by simp[k2],by simp[k3],fun i s' u' e1 e2=>?_,?_⟩
  ·cases i with
   |zero=>simp at e1 e2;subst e1;subst e2;exact h2
   |succ i=>exact k4 i s' u' (by simpa using e1) (by simpa using e2)
  ·simp only[List.mapM_cons,BF,BG]
   rw[h3]
   simp only[B5]
   rw[k5]
   rfl
theorem results_ok {fn:Func} {us:List Value} (h:(fn.results.toList.mapM (m:=Sem) (rvM a.tmps)).run P w= .ok us w):
  (results fn a.tmps).run P w= .ok (resVal us) w:=by
 have e:results fn a.tmps=(do let vs<-fn.results.mapM (rvM a.tmps);pure (if h:vs.size=1 then vs[0] else .tuple vs)):=rfl
 rw[e,Array.mapM_eq_mapM_toList]
 simp only[BF,map_eq_pure_bind,h,B5,BG]
 match us with
 |[]=>rfl
 |[v]=>rfl
 |v::u::us=>rfl
theorem places_ro {A pin:Nat->Prop}:∀ {ks:List AK} {x:Tup (tysOf ks)} {us:List Value} {fs:List Foot},roOnly ks=true->ArgsOk w A pin ks x us fs->placesOf fs=[]:=by
 intro ks
 induction ks with
 |nil=>intro x us fs _ h;cases us<;>cases fs<;>first|rfl|exact h.elim
 |cons c r ih=>
  intro x us fs hro h
  cases us with
  |nil=>cases fs<;>exact h.elim
  |cons u us=>
   cases fs with
   |nil=>exact h.elim
   |cons f fs=>
    have hf:f=⟨[],none⟩:=by
     have h1:=h.1
     cases c with
     |ro t=>exact h1.2
     |pin t=>exact h1.2
     |clo g n ks=>exact h1.2
     |_=>simp[roOnly] at hro
    have hro':roOnly r=true:=by cases c<;>simp[roOnly] at hro<;>exact hro
    subst hf
    show placesOf fs=[]
    exact ih hro' h.2
theorem outsL_ro:∀ {ks:List AK} {hs:List Slot} {k:Tup (outsOf ks)->Option R} {r:R},roOnly ks=true->outsL ks hs σ k=some r->∃z,k z=some r:=by
 intro ks
 induction ks with
 |nil=>intro hs k r _ h;cases hs<;>exact⟨(),h⟩
 |cons c ks ih=>
  intro hs k r hro h
  have hro':roOnly ks=true:=by cases c<;>simp[roOnly] at hro<;>exact hro
  cases hs with
  |nil=>simp[outsL] at h
  |cons s hs=>
   cases c with
   |ro t=>obtain⟨z,hz⟩:=ih hro' h;exact⟨_,hz⟩
   |pin t=>obtain⟨z,hz⟩:=ih hro' h;exact⟨_,hz⟩
   |clo g n ks=>obtain⟨z,hz⟩:=ih hro' h;exact⟨_,hz⟩
   |_=>simp[roOnly] at hro
theorem finX_ok {ks:List AK} {rs:List (Ty×Bool)} {ss:List Slot} {vs us:List Value} {fs:List Foot} {hs:List Slot} {w0:World} {A pin:Nat->Prop} {x:Tup (tysOf ks)} {y:Tup (resOf rs++outsOf ks)} (hargs:ArgsOk w0 A pin ks x us fs) (hr:RelE X E σ A0 w) (hb:Began X ks w0 A us fs hs) (hl:ss.length=vs.length)
  (hsl:∀ (i:Nat) s u,ss[i]?=some s->vs[i]?=some u->SlotOk w (Fz X E σ w) E σ s u) (h:finX ks hs rs ss σ=some y):Fr (footM ks fs) w0 w/\BoxOk w0 A (resVal vs) w rs (Tup.fst (a:=resOf rs) (b:=outsOf ks) y):=by
 have hfr:=hr.fr
 rw[hb.w0] at hfr
 refine⟨hfr.narrow hb.M,?_⟩
 unfold finX at h
 split at h
 ·rename_i t fl id r0 t'
  cases hfi:σ.find id with
  |none=>rw[hfi] at h;cases h
  |some yb=>
   rw[hfi] at h
   simp only at h
   cases hc:cast? t yb with
   |none=>rw[hc] at h;cases h
   |some q=>
    obtain⟨v,ms⟩:=q
    rw[hc] at h
    simp only at h
    have hyb:=cast?_some hc
    subst hyb
    cases hu:roOnly ks&&allUs σ ms with
    |false=>rw[hu] at h;cases h
    |true=>
     rw[hu] at h
     simp only[cond_true] at h
     simp only[A3] at hu
     obtain⟨hro,hu⟩:=hu
     obtain⟨z,hz⟩:=outsL_ro hro h
     have hy:=AG hz
     subst hy
     have hfst:Tup.fst (a:=resOf [(t,fl)]) (b:=outsOf ks) (Tup.app (a:=[t]) (b:=outsOf ks) v z)=v:=tup_fst_app (a:=[t]) (b:=outsOf ks) v z
     rw[hfst]
     match vs,hl with
     |[u],_=>
      obtain⟨_,b,o,hv,had⟩:=hsl 0 _ u rfl rfl
      have had':E.ad id=(b,o):=by
       cases r0<;>simp[addr] at had<;>exact had.2
      have hmem:=find_mem hfi
      obtain⟨cs,c,e,b1,b2,b3,b4,b5⟩:=hr.bx _ hmem
      dsimp only at b1 b2 b3 b4 b5
      rw[had'] at b3 b4 b5
      have hrow:=rows_ro hro hargs
      have hpl:=places_ro hro hargs
      have hblk:∀b',b'∉blocksOf fs:=fun b' hb'=>by
       rcases blocks_mem.1 hb' with h|⟨p,hp,_⟩
       ·rw[hrow] at h;cases h
       ·rw[hpl] at hp;cases hp
      have hnew:w0.heap.size<=b:=by
       rcases hr.srcb _ hmem with⟨s,_,h⟩|h
       ·exfalso
        exact hb.nopio hro _ h
       ·dsimp only at h
        rw[had',hb.w0] at h
        exact h
      obtain⟨hrz,hKz⟩:=hr.freezeK ms
      have hrf:=rf_of_frz (A:=Fz X E (σ.freeze ms) w) (σ:=σ.freeze ms) (E:=E) (fun τ hτ=>freeze_frz ms hτ (allUs_mem hu hτ)) b2 (hKz.rv b1)
      refine⟨b,o,cs,c,e,hv,hnew,b3,b4,b5,hrf.mono (fun b' hb'=>⟨?_,hb'.2.1,fun he=>?_⟩) (fun _ _=>rfl)⟩
      ·rcases hb.ok b' hb'.1 with h|h|h
       ·exact .inl h
       ·exact absurd h (hblk b')
       ·exact .inr h
      ·refine hb'.2.2 ?_
       rw[he]
       have hm2:(⟨id,⟨t,v,ms⟩⟩:Bx)∈(σ.freeze ms).bx:=by rw[(freeze_fr σ ms).2.2];exact hmem
       have:=mem_owned_bx (E:=E) hm2
       dsimp only at this
       rwa [had'] at this
 ·cases h
theorem fn_ok (hmix:P.follows .mixedOrders=true) (T:Tabs) (C:Cuts) (hT:TabOk P T.T) (hF:FOk P T.F) {f:FuncId} {fn:Func} {c:Code} {s:Sig} (hf:P.funcs[f]?=some fn) (hb:fn.body=some c) (hc:CutsIn P C c) (os:s.In->Option s.Out) (he:∀x y,os x=some y->fnK T C fn s x=some y):
  Meets P f ⟨s,os⟩:=by
 intro x y hxy w A pin us fs hp
 have h:=he x y hxy
 unfold fnK at h
 rw[hb] at h
 simp only at h
 cases hn0:decide (s.args.length<=fn.ntmps)&&ioKept s.args (Ar s.args.length) (writes c) with
 |false=>rw[hn0] at h;simp at h
 |true=>
  rw[hn0] at h
  simp only[cond_true] at h
  simp only[A3] at hn0
  obtain⟨hn,hkept⟩:=hn0
  have hlen:us.length=s.args.length:=by
   have key:∀ {ks:List AK} {x:Tup (tysOf ks)} {us:List Value} {fs:List Foot},ArgsOk w A pin ks x us fs->us.length=ks.length:=by
    intro ks
    induction ks with
    |nil=>intro x us fs h;cases us<;>cases fs<;>first|rfl|exact h.elim
    |cons k ks ih=>
     intro x us fs h
     cases us with
     |nil=>cases fs<;>exact h.elim
     |cons u us=>cases fs with
      |nil=>exact h.elim
      |cons f fs=>simp[ih h.2]
   exact key hp.args
  have hle:s.args.length<=fn.ntmps:=by simpa using hn
  refine calls_of_wp hf hb ?_
  have hsz:(us.toArray++Array.replicate (fn.ntmps-us.toArray.size) undef).size=fn.ntmps:=by simp;omega
  have hdsm:(Ar s.args.length).map (fun d=>(us.toArray++Array.replicate (fn.ntmps-us.toArray.size) undef)[d]?)=us.map some:=by
   rw[<-hlen]
   apply List.ext_getElem?
   intro i
   rw[AY,AY]
   by_cases hi:i<us.length
   ·rw[List.getElem?_range hi,A4 hi]
    simp only[BB]
    rw[Array.getElem?_append_left (by simpa using hi)]
    simp[hi]
   ·rw[BO (by simpa using hi),BO (by simpa using hi)]
    rfl
  obtain⟨X,E,hs,hr,hh,hbg⟩:=begin_ok (A0:=us.toArray++Array.replicate (fn.ntmps-us.toArray.size) undef) (ds:=Ar s.args.length) hp hdsm
  rw[hsz] at hr hh
  refine wp_mono (code_ok hmix T C hT hF hc (a:={tmps:=us.toArray++Array.replicate (fn.ntmps-us.toArray.size) undef,defers:=[]}) h hr) fun e a' w' hE=>?_
  obtain⟨x',hx,e1,e2,e3,σ',hg,E',hr'⟩:=hE
  have fin:rvsK T.T σ' fn.results.toList (fun ss=>bif s.bx then finX s.args hs s.res ss σ' else finK s.args hs s.res ss σ')=some y->a'.defers=[]/\∃v,(results fn a'.tmps).run P w'= .ok v w'/\PostS s w A us fs y v w':=by
   intro hg
   obtain⟨ss,vs,k1,k2,k3,k4,k5⟩:=rvs_ok T.T hT (a:=a') hr' hg
   refine⟨e1,_,results_ok k5,fun hbx=>?_,fun hbx=>?_⟩
   ·rw[hbx] at k1
    exact⟨vs,rfl,fin_ok hr' hbg (homes_io (i:=ini0 fn.ntmps) e3 hh hdsm hkept) k2 k4 k1⟩
   ·rw[hbx] at k1
    exact finX_ok hp.args hr' hbg k2 k4 k1
  rw[hh] at hg
  cases x' with
  |nor=>
   cases e<;>first|exact hx.elim|skip
   exact fin hg
  |ret=>
   cases e<;>first|exact hx.elim|skip
   exact fin hg
  |ex i=>simp at hg
end
end Go.Proofs.YtacbkfginiknaaaDoor.V
namespace Go.Proofs.YtacbkfginiknaaaDoor.V
open Go
def Ty.plain:Ty->Bool
 | .pair a b=>a.plain&&b.plain
 | .st t=>t.plain
 | .arr _ _=>false
 | .sl _ t=>t.plain
 |_=>true
def WFv:(t:Ty)->t.den->Prop
 | .int k,n=>(Lit.int k n).wf=true
 | .bool,_=>True
 | .str,s=>(s:List UInt8).length<=maxLen
 | .unit,_=>True
 | .pair a b,v=>WFv a v.1/\WFv b v.2
 | .st t,v=>WFv t v
 | .arr _ _,_=>True
 | .sl _ t,v=>(v:List t.den).length<=maxLen/\∀x∈(v:List t.den),WFv t x
section
variable {P:Program} {w:World} {H:Type} {enc:TypeId×Value->H} {sp:Nat->Bool} {held:Bool}
theorem tyB_cells {n:Nat} {i:TypeId} {t:Ty} (h:tyB P n i t=true):P.cellsOf i=t.size:=by
 obtain⟨f,z,h1,h2,_⟩:=tyB_info h
 simp[Program.cellsOf,h1,h2]
theorem tyB_bool {n:Nat} {i:TypeId} (h:tyB P n i .bool=true):P.underlying i=some .bool:=by
 cases n with
 |zero=>simp[tyB] at h
 |succ n=>
  simp only[tyB,A3] at h
  have h1:=h.2
  cases hu:P.underlying i with
  |none=>simp[hu] at h1
  |some d=>cases d<;>simp[hu] at h1;rfl
theorem list_of_each {α:Type} {φ:Nat->α->Prop}:∀ (n:Nat),(∀i,i<n->∃x,φ i x)->∃l:List α,l.length=n/\∀ (i:Nat) x,l[i]?=some x->φ i x:=by
 intro n
 induction n with
 |zero=>intro _;exact⟨[],rfl,fun i x h=>by simp at h⟩
 |succ n ih=>
  intro h
  obtain⟨l,h1,h2⟩:=ih (fun i hi=>h i (by omega))
  obtain⟨x,hx⟩:=h n (by omega)
  refine⟨l++[x],by simp[h1],fun i y hy=>?_⟩
  by_cases hi:i<n
  ·rw[List.getElem?_append_left (by omega)] at hy;exact h2 i y hy
  ·rw[List.getElem?_append_right (by omega)] at hy
   have:=(Aa.1 hy).1
   have hin:i=n:=by simp at this;omega
   subst hin
   simp[h1] at hy
   subst hy;exact hx
theorem add_none {a:Addr} {v:Value} (h:w.cell? a=some v):∃b o,a=⟨b,o,none⟩:=by
 obtain⟨b,o,s⟩:=a
 cases s with
 |none=>exact⟨b,o,rfl⟩
 |some k=>
  exfalso
  unfold BM at h
  split at h
  ·simp at h
  ·cases h
theorem seg_flat {α:Type} {n m:Nat} {l:List (List Value)} (hl:l.length=m) (h:∀c∈l,c.length=n):l.flatten.length=m*n/\∀i c,l[i]?=some c->seg l.flatten n i=c:=by
 have _:List α=List α:=rfl
 induction l generalizing m with
 |nil=>simp at hl;subst hl;exact⟨by simp,fun i c h=>by simp at h⟩
 |cons c0 l ih=>
  cases m with
  |zero=>simp at hl
  |succ m=>
   obtain⟨h1,h2⟩:=ih (m:=m) (by simpa using hl) (fun c hc=>h c (A6 _ hc))
   have h0:=h c0 AC
   refine⟨by simp only[BV,List.length_append,h1,h0,BX];omega,fun i c hc=>?_⟩
   cases i with
   |zero=>
    simp at hc;subst hc
    simp[seg,h0]
   |succ i=>
    have:=h2 i c (by simpa using hc)
    simp only[seg,BV] at this ⊢
    rw[List.drop_append,BN (by rw[h0,BX];omega),List.nil_append,h0,show(i+1)*n-n=i*n by rw[BX];omega]
    exact this
theorem trod_ty (A:Nat->Prop) (hA:∀b,b<w.heap.size->A b):∀ {t:Ty},t.plain=true->
  (∀ {n:Nat} {i:TypeId} {fuel:Nat} {cs:List Value} {x:DataW H×List MemPlace},tyB P n i t=true->DataW.trod enc P w 0 sp held fuel i cs=some x->∃v:t.den,Rf w A t v cs/\WFv t v)/\
  (∀ {m:Nat} {fs:List Field} {off:Nat} {cs:List Value},fieldsB (tyB P m) t fs off=true->cs.length=off+t.size->(∀f∈fs,∃fuel x,DataW.trod enc P w 0 sp held fuel f.type ((cs.drop f.offset).take (P.cellsOf f.type))=some x)->
   ∃v:t.den,Rf w A t v (cs.drop off)/\WFv t v):=by
 have one:∀ {t:Ty},(∀a b,t≠ .pair a b)->t≠ .unit->(∀ {n:Nat} {i:TypeId} {fuel:Nat} {cs:List Value} {x:DataW H×List MemPlace},tyB P n i t=true->DataW.trod enc P w 0 sp held fuel i cs=some x->∃v:t.den,Rf w A t v cs/\WFv t v)->
   (∀ {m:Nat} {fs:List Field} {off:Nat} {cs:List Value},fieldsB (tyB P m) t fs off=true->cs.length=off+t.size->(∀f∈fs,∃fuel x,DataW.trod enc P w 0 sp held fuel f.type ((cs.drop f.offset).take (P.cellsOf f.type))=some x)->
    ∃v:t.den,Rf w A t v (cs.drop off)/\WFv t v):=by
  intro t h1 h2 hT m fs off cs hf hl hr
  match fs with
  |[f]=>
   have hf':(f.offset==off&&f.name !="_"&&tyB P m f.type t&&decide (0<t.size))=true:=by
    cases t<;>first|exact hf|exact absurd rfl (h1 _ _)|exact absurd rfl h2
   simp only[A3,beq_iff_eq] at hf'
   obtain⟨fuel,x,hx⟩:=hr f AC
   rw[hf'.1.1.1,tyB_cells hf'.1.2,List.take_of_length_le (by simp;omega)] at hx
   exact hT hf'.1.2 hx
  |[]=>cases t<;>first|(simp[fieldsB] at hf;done)|exact absurd rfl (h1 _ _)|exact absurd rfl h2
  |f::g::r=>cases t<;>first|(simp[fieldsB] at hf;done)|exact absurd rfl (h1 _ _)|exact absurd rfl h2
 intro t
 induction t with
 |int k=>
  intro _
  have h:∀ {n:Nat} {i:TypeId} {fuel:Nat} {cs:List Value} {x:DataW H×List MemPlace},tyB P n i (.int k)=true->DataW.trod enc P w 0 sp held fuel i cs=some x->∃v:(Ty.int k).den,Rf w A (.int k) v cs/\WFv (.int k) v:=by
   intro n i fuel cs x ht h
   obtain⟨v,h1,_,h2⟩:=DataW.trod_int (tyB_int ht) h
   exact⟨v,h1,h2⟩
  exact⟨h,one (fun _ _ h=>by cases h) (fun h=>by cases h) h⟩
 |bool=>
  intro _
  have h:∀ {n:Nat} {i:TypeId} {fuel:Nat} {cs:List Value} {x:DataW H×List MemPlace},tyB P n i .bool=true->DataW.trod enc P w 0 sp held fuel i cs=some x->∃v:Ty.bool.den,Rf w A .bool v cs/\WFv .bool v:=by
   intro n i fuel cs x ht h
   obtain⟨v,h1,_⟩:=DataW.trod_bool (tyB_bool ht) h
   exact⟨v,h1,trivial⟩
  exact⟨h,one (fun _ _ h=>by cases h) (fun h=>by cases h) h⟩
 |str=>
  intro _
  have h:∀ {n:Nat} {i:TypeId} {fuel:Nat} {cs:List Value} {x:DataW H×List MemPlace},tyB P n i .str=true->DataW.trod enc P w 0 sp held fuel i cs=some x->∃v:Ty.str.den,Rf w A .str v cs/\WFv .str v:=by
   intro n i fuel cs x ht h
   obtain⟨s,h1,_,h2⟩:=DataW.trod_string (tyB_str ht) h
   refine⟨s.data.toList,?_,by simpa[WFv] using h2⟩
   show cs=[.string ⟨s.data.toList.toArray⟩]
   rw[h1]
  exact⟨h,one (fun _ _ h=>by cases h) (fun h=>by cases h) h⟩
 |unit=>
  intro _
  refine⟨fun {n i fuel cs x} ht h=>?_,fun {m fs off cs} hf hl hr=>⟨(),?_,trivial⟩⟩
  ·exfalso
   cases n with
   |zero=>simp[tyB] at ht
   |succ n=>simp[tyB] at ht
  ·show cs.drop off=[]
   exact BN (by simp[Ty.size] at hl;omega)
 |pair a b iha ihb=>
  intro hp
  simp only[Ty.plain,A3] at hp
  refine⟨fun {n i fuel cs x} ht h=>?_,fun {m fs off cs} hf hl hr=>?_⟩
  ·exfalso
   cases n with
   |zero=>simp[tyB] at ht
   |succ n=>simp[tyB] at ht
  ·cases fs with
   |nil=>simp[fieldsB] at hf
   |cons f r=>
    simp only[fieldsB,A3,beq_iff_eq] at hf
    obtain⟨fuel,x,hx⟩:=hr f AC
    rw[hf.1.1.1.1,tyB_cells hf.1.1.2] at hx
    obtain⟨v1,p1,p2⟩:=(iha hp.1).1 hf.1.1.2 hx
    simp only[Ty.size] at hl
    obtain⟨v2,q1,q2⟩:=(ihb hp.2).2 hf.2 (by omega) (fun g hg=>hr g (A6 _ hg))
    refine⟨(v1,v2),⟨_,_,?_,p1,q1⟩,p2,q2⟩
    rw[<-As,Af]
 |st t ih=>
  intro hp
  have h:∀ {n:Nat} {i:TypeId} {fuel:Nat} {cs:List Value} {x:DataW H×List MemPlace},tyB P n i (.st t)=true->DataW.trod enc P w 0 sp held fuel i cs=some x->∃v:(Ty.st t).den,Rf w A (.st t) v cs/\WFv (.st t) v:=by
   intro n i fuel cs x ht h
   obtain⟨m,fs,h1,_,h2⟩:=tyB_st ht
   obtain⟨xs,k,rfl,_,h4,h5,h6⟩:=DataW.trod_struct h1 h
   obtain⟨v,g1,g2⟩:=(ih hp).2 h2 (by rw[h4,tyB_cells ht];simp[Ty.size]) (fun f hf=>by
    obtain⟨j,hj⟩:=AB hf
    have hj':fs[j]?=some f:=by simpa using hj
    have hlt:j<xs.length:=by rw[h5];exact(AX.1 hj').1
    exact⟨k,xs[j],by rw[h6 j f hj',A4 hlt]⟩)
   exact⟨v,by rw[BZ] at g1;exact g1,g2⟩
  exact⟨h,one (fun _ _ h=>by cases h) (fun h=>by cases h) h⟩
 |arr n t ih=>intro hp;simp[Ty.plain] at hp
 |sl e t ih=>
  intro hp
  have h:∀ {n:Nat} {i:TypeId} {fuel:Nat} {cs:List Value} {x:DataW H×List MemPlace},tyB P n i (.sl e t)=true->DataW.trod enc P w 0 sp held fuel i cs=some x->∃v:(Ty.sl e t).den,Rf w A (.sl e t) v cs/\WFv (.sl e t) v:=by
   intro n i fuel cs x ht h
   obtain⟨m,h1,h2⟩:=tyB_sl ht
   have hsz:=tyB_cells h2
   have hpos:0<t.size:=by
    have:=tyB_ok ht
    simp only[Ty.ok,A3,decide_eq_true_eq] at this
    exact this.2
   rcases DataW.trod_slice h1 h with⟨rfl,_⟩|⟨a,len,cap,elems,rest,k,rfl,rfl,_,_,hle,hcap,hlen,hel,_⟩
   ·exact⟨([]:List t.den),⟨none,0,[],rfl,by simp,fun i x h=>by simp at h,fun h=>absurd rfl h,AP _⟩,by simp[maxLen],fun x h=>by simp at h⟩
   ·have each:∀i,i<len->∃q:t.den×List Value,Rf w A t q.1 q.2/\WFv t q.1/\q.2.length=t.size/\∀j,j<t.size->w.cell? ((a.add (i*t.size)).add j)=q.2[j]?:=by
     intro i hi
     have h3:=hel i hi
     rw[A4 (by omega),B4] at h3
     obtain⟨c,h4,h5⟩:=h3
     rw[hsz] at h4
     obtain⟨_,h6,h7⟩:=World.cells?_some h4
     obtain⟨v,g1,g2⟩:=(ih hp).1 h2 h5
     exact⟨(v,c),g1,g2,h6,h7⟩
    obtain⟨l,hl,hall⟩:=list_of_each len each
    obtain⟨hf1,hf2⟩:=seg_flat (α:=Nat) (l:=l.map (·.2)) (m:=len) (n:=t.size) (by simpa using hl) (fun c hc=>by
     obtain⟨q,hq,rfl⟩:=AT.1 hc
     obtain⟨j,hj⟩:=AB hq
     exact(hall j q hj).2.2.1)
    refine⟨l.map (·.1),⟨some a,cap,(l.map (·.2)).flatten,by simp[hl],by simpa[hl] using hf1,fun i x hx=>?_,fun hne=>?_,by simpa[hl] using hle⟩,by simp[hl];omega,fun x hx=>?_⟩
    ·rw[AY] at hx
     cases hq:l[i]? with
     |none=>rw[hq] at hx;simp at hx
     |some q=>
      rw[hq] at hx
      simp at hx;subst hx
      rw[hf2 i q.2 (by rw[AY,hq];rfl)]
      exact(hall i q hq).1
    ·have h0:0<len:=by
      rcases Nat.eq_zero_or_pos len with h|h
      ·exfalso;apply hne
       have:l=[]:=BC (by rw[hl,h])
       simp[this]
      ·exact h
     have hq0:=hall 0 (l[0]'(by omega)) (A4 (by omega))
     obtain⟨u0,hc0⟩:∃u0,w.cell? ((a.add (0*t.size)).add 0)=some u0:=⟨_,by rw[hq0.2.2.2 0 hpos,A4 (by rw[hq0.2.2.1];exact hpos)]⟩
     clear hq0
     have ha:∃b o,a=⟨b,o,none⟩:=by
      have:a.add (0*t.size)=a.add 0:=by simp
      rw[this] at hc0
      have e:(a.add 0).add 0=a.add 0:=by
       obtain⟨b',o',s'⟩:=a
       cases s'<;>simp[Addr.add]
      rw[e] at hc0
      rw[show a.add 0=a by simp[Addr.add]] at hc0
      exact add_none hc0
     obtain⟨b,o,rfl⟩:=ha
     refine⟨b,o,rfl,hA b ?_,?_⟩
     ·simp only[Nat.zero_mul,add_addr,Nat.add_zero] at hc0
      unfold BM at hc0
      split at hc0
      ·rename_i hb;exact(AX.1 hb).1
      ·cases hc0
     ·intro j v hv
      have hj:j<len*t.size:=by rw[<-hf1];exact(Aa.1 hv).1
      have hi:j/t.size<len:=Nat.div_lt_of_lt_mul (by rwa [Bb] at hj)
      have hq:=hall (j/t.size) (l[j/t.size]'(by omega)) (A4 (by omega))
      have hseg:=hf2 (j/t.size) (l[j/t.size]'(by omega)).2 (by rw[AY,A4 (by omega)];rfl)
      have hm:j%t.size<t.size:=Nat.mod_lt _ hpos
      have h8:=hq.2.2.2 (j%t.size) hm
      rw[add_addr,add_addr,<-hseg] at h8
      simp only[seg,AE,hm,if_true,AL] at h8
      rw[Bb,Nat.add_assoc,Nat.div_add_mod] at h8
      rw[h8]
      exact hv
    ·obtain⟨q,hq,rfl⟩:=AT.1 hx
     obtain⟨j,hj⟩:=AB hq
     exact(hall j q hj).2.1
  exact⟨h,one (fun _ _ h=>by cases h) (fun h=>by cases h) h⟩
end
end Go.Proofs.YtacbkfginiknaaaDoor.V
namespace Go.Proofs.YtacbkfginiknaaaDoor.V
open Go
section
variable {P:Program} {W W':World} {H:Type} {enc:TypeId×Value->H}
abbrev roAll (tys:List Ty):List AK:=tys.map AK.ro
def WFs:(tys:List Ty)->Tup (tysOf (roAll tys))->Prop
 |[],_=>True
 |t::r,x=>WFv t (Tup.hd x)/\WFs r (Tup.tl x)
theorem open_val {r:Reach} {b0 n:Nat} {i:TypeId} {t:Ty} {v:Value} {d:DataW H} {ps:List MemPlace} (ht:tyB P n i t=true) (hp:t.plain=true) (hval:Value.okWide P W r b0 i v) (hd:DataW.Trod enc P W 0 (fun _=>true) true i v d ps):
  ∃x:t.den,(∃cs,Rf W (fun b=>b<W.heap.size) t x cs/\v=toVal t cs)/\WFv t x:=by
 obtain⟨fuel,hf⟩:=hd
 obtain⟨x,h1,h2⟩:=(trod_ty (fun b=>b<W.heap.size) (fun _ h=>h) hp).1 ht hf
 refine⟨x,⟨_,h1,?_⟩,h2⟩
 cases t with
 |int k=>obtain⟨n,rfl⟩:=WideShapes.okWide_int (tyB_int ht) hval;rfl
 |bool=>obtain⟨n,rfl⟩:=WideShapes.okWide_bool (tyB_bool ht) hval;rfl
 |str=>obtain⟨n,rfl⟩:=WideShapes.okWide_string (tyB_str ht) hval;rfl
 |unit=>cases n<;>simp[tyB] at ht
 |pair a b=>cases n<;>simp[tyB] at ht
 |arr n t=>simp[Ty.plain] at hp
 |sl e t=>
  obtain⟨m,h3,_⟩:=tyB_sl ht
  obtain⟨a,len,cap,rfl⟩:=WideShapes.okWide_slice h3 hval
  rfl
 |st t=>
  obtain⟨m,fs,h3,_,_⟩:=tyB_st ht
  unfold Value.okWide at hval
  rw[h3] at hval
  obtain⟨cs,rfl,_⟩:=hval
  show Value.agg cs= .agg (Value.agg cs).cells.toList.toArray
  simp[Value.cells]
def ParB (P:Program):List TypeId->List Ty->Prop
 |[],[]=>True
 |i::is,t::ts=>(∃n,tyB P n i t=true)/\t.plain=true/\P.readableRec i=true/\i<P.types.size/\ParB P is ts
 |_,_=>False
theorem opens_ok:∀ {is:List TypeId} {tys:List Ty} {vs:List Value} {ds:List (DataW H)} {ps:List MemPlace},ParB P is tys->DataW.TrodAll enc P W 0 (fun _=>true) true is vs ds ps->
  (∀ (j:Nat) t v,is[j]?=some t->vs[j]?=some v->Value.okWide P W .any 0 t v\/∃b,Value.okWide P W .any b t v)->
  ∃x:Tup (tysOf (roAll tys)),ArgsOk W (fun b=>b<W.heap.size) (fun _=>False) (roAll tys) x vs (tys.map fun _=>⟨[],none⟩)/\WFs tys x/\ds.length=is.length:=by
 intro is
 induction is with
 |nil=>
  intro tys vs ds ps hp h _
  cases tys with
  |cons t tys=>exact hp.elim
  |nil=>
   obtain⟨rfl,rfl,_⟩:=ChangeShapes.trodAll_nil h
   exact⟨(),trivial,trivial,rfl⟩
 |cons i is ih=>
  intro tys vs ds ps hp h hv
  cases tys with
  |nil=>exact hp.elim
  |cons t tys=>
   obtain⟨⟨n,ht⟩,hpl,_,_,hr⟩:=hp
   obtain⟨v,vs',d,ds',p,q,rfl,rfl,rfl,h1,h2⟩:=ChangeShapes.trodAll_cons h
   obtain⟨x2,g1,g2,g3⟩:=ih hr h2 (fun j t v e1 e2=>hv (j+1) t v (by simpa using e1) (by simpa using e2))
   obtain⟨x1,g4,g5⟩:∃x:t.den,(∃cs,Rf W (fun b=>b<W.heap.size) t x cs/\v=toVal t cs)/\WFv t x:=by
    rcases hv 0 i v rfl rfl with h|⟨b,h⟩
    ·exact open_val ht hpl h h1
    ·exact open_val ht hpl h h1
   have e1:=tup_hd (t:=t) (r:=tysOf (roAll tys)) x1 x2
   have e2:=tup_tl (t:=t) (r:=tysOf (roAll tys)) x1 x2
   refine⟨Tup.cons (t:=t) (r:=tysOf (roAll tys)) x1 x2,⟨⟨?_,rfl⟩,?_⟩,⟨?_,?_⟩,by simp[g3]⟩
   ·show ∃cs,Rf W _ t (Tup.hd (t:=t) (r:=tysOf (roAll tys)) (Tup.cons x1 x2)) cs/\v=toVal t cs
    rw[e1];exact g4
   ·show ArgsOk W _ _ (roAll tys) (Tup.tl (t:=t) (r:=tysOf (roAll tys)) (Tup.cons x1 x2)) vs' _
    rw[e2];exact g1
   ·show WFv t (Tup.hd (t:=t) (r:=tysOf (roAll tys)) (Tup.cons x1 x2))
    rw[e1];exact g5
   ·show WFs tys (Tup.tl (t:=t) (r:=tysOf (roAll tys)) (Tup.cons x1 x2))
    rw[e2];exact g2
theorem Ext.keptBut (h:Ext W W') (may:MemPlace->Prop):W.keptBut W' may:=by
 refine⟨h.os,h.output,fun i hi=>?_⟩
 rw[h.block i hi]
 cases hb:W.heap[i]? with
 |none=>trivial
 |some o=>cases o<;>simp
theorem Ext.sameAt (h:Ext W W') {p:MemPlace} (hp:p.block<W.heap.size):W.sameAt W' p:=RowKit.Below.same ⟨h.os,h.tape,h.output,h.size,h.block⟩ hp
theorem args_stay (hl:laidOutB P=true) (hx:Ext W W') {sp:Nat->Bool}:∀ {is:List TypeId} {tys:List Ty} {vs:List Value} {ds:List (DataW H)} {ps:List MemPlace},ParB P is tys->DataW.TrodAll enc P W 0 (fun _=>true) true is vs ds ps->
  (∀p∈ps,p.block<W.heap.size)->(∀p∈ps,sp p.block=true)->DataW.TrodAll enc P W' 0 sp true is vs ds ps:=by
 intro is
 induction is with
 |nil=>
  intro tys vs ds ps _ h _ _
  obtain⟨rfl,rfl,rfl⟩:=ChangeShapes.trodAll_nil h
  exact ChangeShapes.trodAll_mk0
 |cons i is ih=>
  intro tys vs ds ps hp h hlt hsp
  cases tys with
  |nil=>exact hp.elim
  |cons t tys=>
   obtain⟨_,_,hrd,hrow,hr⟩:=hp
   obtain⟨v,vs',d,ds',p,q,rfl,rfl,rfl,h1,h2⟩:=ChangeShapes.trodAll_cons h
   exact⟨p,q,WideElems.Trod_stays hl hrd hrow h1 (fun x hx'=>hx.sameAt (hlt x (AI _ hx'))) (fun x hx'=>hsp x (AI _ hx')),
    ih hr h2 (fun x hx'=>hlt x (AV _ hx')) (fun x hx'=>hsp x (AV _ hx')),rfl⟩
theorem Ext.frozen (h:Ext W W') {b off:Nat} (hb:b<W.heap.size):W'.frozen? ⟨b,off,none⟩=W.frozen? ⟨b,off,none⟩:=by
 unfold World.frozen?
 rw[h.block b hb]
theorem post_law {f:Func} {s:ChangeSpec} {apart fresh handsOn again:Bool} {args:Array Value} {ds gs:List (DataW H)} {before:List MemPlace} {tys:List Ty} {tb:TypeId}
  (hl:laidOutB P=true) (hpar:ParB P f.params.toList tys) (hres:f.resultTypes= #[tb]) (htb:P.underlying tb=some .bool) (hvars:s.vars=[]) (hgs:gs=[])
  (hfn:s.fn H ds={results:=[.lit (.bool true)],args:=ds})
  (hW:DataW.Whole enc P f.params.toList s.vars apart W args.toList ds gs before) (hx:Ext W W'):s.post enc P f apart fresh handsOn again W args (.bool true) W':=by
 subst hgs
 have hlt:=hW.lt
 have hW':=hW
 obtain⟨p,q,hA,hV,rfl,hz,hn⟩:=hW'
 rw[hvars] at hV
 obtain⟨_,rfl⟩:=ChangeShapes.trodVars_none hV
 rw[Ac] at *
 have hp:∀x∈p,x.block<W.heap.size:=fun x hx'=>by simpa using hlt x (by simpa using hx')
 have hr:∀ (b:Nat) (sp:Nat->Bool) (hd:Bool),DataW.TrodAll enc P W' b sp hd f.resultTypes.toList ((Value.bool true).resultList f.resultTypes.size) (s.fn H (ds++[])).results []:=by
  intro b sp hd
  rw[Ac,hfn,hres]
  exact ChangeShapes.trodAll_mk1 ⟨1,by simp[DataW.trod,Value.cells,htb]⟩
 have ha:∀sp:Nat->Bool,(∀x∈p,sp x.block=true)->DataW.TrodAll enc P W' 0 sp true f.params.toList args.toList (s.fn H (ds++[])).args p:=by
  intro sp hsp
  rw[Ac,hfn]
  exact args_stay hl hx hpar hA hp hsp
 have hv:∀sp:Nat->Bool,DataW.TrodVars enc P W' sp s.vars (s.fn H (ds++[])).vars []:=by
  intro sp
  rw[Ac,hfn,hvars]
  exact rfl
 refine⟨ds,[],p,[],p,[],hW,hr _ _ _,ha _ (fun x hx'=>by simpa using hp x hx'),hv _,hx.keptBut _,fun _=>⟨?_,(s.fn H (ds++[])).results++(s.fn H (ds++[])).args,(s.fn H (ds++[])).vars,p,⟨p,[],?_,hv _,by simp,?_,hn⟩,fun x hx' _=>hx'⟩⟩
 ·intro j t r h1 h2
  rw[hres] at h1 h2
  match j,h1,h2 with
  |0,h1,h2=>
   simp[Value.resultList] at h1 h2
   subst h1;subst h2
   exact RowKit.okWide_bool_mk htb true
 ·have:=ChangeShapes.trodAll_append (ha (fun _=>true) (fun _ _=>rfl)) (hr 0 (fun _=>true) true)
  simpa using this
 ·intro b off hb
  rw[hx.frozen (b:=b) (off:=off) (hp _ hb)]
  exact hz b off hb
abbrev LawSig (tys:List Ty):Sig:=⟨roAll tys,[(.bool,true)],false⟩
theorem law_ok {f:FuncId} {fn:Func} {s:ChangeSpec} {apart fresh handsOn again:Bool} {tys:List Ty} {tb:TypeId} {F:(LawSig tys).In->Option (LawSig tys).Out} (hm:Meets P f ⟨LawSig tys,F⟩)
  (hF:∀x,WFs tys x->∃y,F x=some y/\Tup.hd (Tup.fst (a:=[Ty.bool]) (b:=outsOf (roAll tys)) y)=true)
  (hl:laidOutB P=true) (hpar:ParB P fn.params.toList tys) (hres:fn.resultTypes= #[tb]) (htb:P.underlying tb=some .bool) (hvars:s.vars=[])
  (hfn:∀ds:List (DataW H),ds.length=fn.params.toList.length->s.fn H ds={results:=[.lit (.bool true)],args:=ds})
  {args:Array Value} {ds gs:List (DataW H)} {before:List MemPlace} {base:Nat} (hval:∀ (j:Nat) t v,fn.params[j]?=some t->args[j]?=some v->Value.okWide P W .any base t v)
  (hW:DataW.Whole enc P fn.params.toList s.vars apart W args.toList ds gs before) (hg:∀p∈gdat,GRead W p.1 p.2/\p.1<W.heap.size):
  Calls P f args W fun e W'=>∃v,e= .returned v/\s.post enc P fn apart fresh handsOn again W args v W':=by
 have hW':=hW
 obtain⟨p,q,hA,hV,rfl,hz,hn⟩:=hW'
 rw[hvars] at hV
 obtain⟨rfl,rfl⟩:=ChangeShapes.trodVars_none hV
 obtain⟨x,h1,h2,h3⟩:=opens_ok hpar hA (fun j t v e1 e2=>.inr ⟨base,hval j t v (by simpa using e1) (by simpa using e2)⟩)
 obtain⟨y,hy,ht⟩:=hF x h2
 have hblocks:∀l:List Ty,blocksOf (l.map fun _=>(⟨[],none⟩:Foot))=[]:=by
  intro l
  induction l with
  |nil=>rfl
  |cons t l ih=>simp[blocksOf,Foot.blocks] at ih ⊢
 have hc:=hm x y hy W (fun b=>b<W.heap.size) (fun _=>False) args.toList _ ⟨h1,by rw[hblocks];exact Au,fun b hb=>(by rw[hblocks] at hb;cases hb),fun b hb=>hb,fun b hb=>hb.elim,hg⟩
 refine hc.mono fun e W' he=>?_
 cases e with
 |panicked c=>exact he.elim
 |outgrown=>exact he.elim
 |returned v=>
  obtain⟨vs,rfl,hp⟩:=he.1 rfl
  have hro:roOnly (roAll tys)=true:=by
   have:∀l:List Ty,roOnly (roAll l)=true:=fun l=>by
    induction l with
    |nil=>rfl
    |cons t l ih=>exact ih
   exact this tys
  have hx:Ext W W':=hp.fr.toExt (foot_ro hro h1)
  obtain⟨bo,br,_,_,hr,_⟩:=hp.ex
  have hv:resVal vs= .bool true:=by
   cases vs with
   |nil=>cases br<;>exact hr.elim
   |cons u vs=>
    cases br with
    |nil=>exact hr.elim
    |cons b br=>
     obtain⟨⟨cs,g1,g2,_⟩,g3⟩:=hr
     cases vs with
     |cons u' vs=>cases br<;>exact g3.elim
     |nil=>
      have g2':cs=[.bool (Tup.hd (Tup.fst (a:=[Ty.bool]) (b:=outsOf (roAll tys)) y))]:=g2
      rw[g1,g2',ht]
      rfl
  rw[hv]
  exact⟨_,rfl,post_law hl hpar hres htb hvars rfl (hfn ds h3) hW hx⟩
end
end Go.Proofs.YtacbkfginiknaaaDoor.V
namespace Go.Proofs.YtacbkfginiknaaaDoor.V
open Go
section
variable {P:Program}
def tabB (P:Program) (k:Nat):List (Option Ty)->Nat->Bool
 |[],_=>true
 |none::r,i=>tabB P k r (i+1)
 |some t::r,i=>tyB P k i t&&(match t with| .st u=> !(Ty.st u).comparable|| !P.eqGuardType P.depth i|_=>true)&&tabB P k r (i+1)
theorem tabB_at {k:Nat}:∀ {l:List (Option Ty)} {i j:Nat} {t:Ty},tabB P k l i=true->l.getD j none=some t->tyB P k (i+j) t=true/\∀u,t= .st u->(Ty.st u).comparable=true->P.eqGuardType P.depth (i+j)=false:=by
 intro l
 induction l with
 |nil=>intro i j t _ h;simp at h
 |cons o l ih=>
  intro i j t h hj
  cases j with
  |zero=>
   have ho:o=some t:=by simpa using hj
   subst ho
   simp only[tabB,A3] at h
   refine⟨h.1.1,fun u hu hc=>?_⟩
   subst hu
   have:=h.1.2
   simp only[hc,BD,Ba,Ab] at this
   exact this
  |succ j=>
   have hj':l.getD j none=some t:=by simpa using hj
   have h':tabB P k l (i+1)=true:=by
    cases o with
    |none=>exact h
    |some t=>simp only[tabB,A3] at h;exact h.2
   have:=ih h' hj'
   rwa [show i+1+j=i+(j+1) by omega] at this
def tabT (l:List (Option Ty)) (i:TypeId):Option Ty:=l.getD i none
theorem tab_ok {l:List (Option Ty)} {k:Nat} (hk:k<=10000) (h:tabB P k l 0=true):TabOk P (tabT l):=by
 refine⟨fun i t hi=>⟨k,by have:=(tabB_at h hi).1;simpa using this⟩,fun i u hi hc=>by have:=(tabB_at h hi).2 u rfl hc;simpa using this,fun i t n hi _=>⟨k,hk,by have:=(tabB_at h hi).1;simpa using this⟩⟩
def FnOk (P:Program) (f:FuncId) (fn:Fn):Prop:=Meets P f fn/\∃g,P.funcs[f]?=some g/\g.body.isSome=true/\(g.name=="runtime.NumGoroutine")=false
def ftab:List (FuncId×Fn)->FuncId->Option Fn
 |[],_=>none
 |(g,fn)::r,f=>bif g==f then some fn else ftab r f
def FAll (P:Program):List (FuncId×Fn)->Prop
 |[]=>True
 |p::r=>FnOk P p.1 p.2/\FAll P r
theorem fall_ok:∀ {l:List (FuncId×Fn)},FAll P l->FOk P (ftab l):=by
 intro l
 induction l with
 |nil=>intro _ f fn h;simp[ftab] at h
 |cons p r ih=>
  intro h f fn hf
  obtain⟨g,fn'⟩:=p
  simp only[ftab] at hf
  cases hg:(g==f) with
  |true=>
   rw[hg] at hf
   simp at hf
   have hgf:g=f:=by simpa using hg
   subst hgf;subst hf
   exact h.1
  |false=>rw[hg] at hf;exact ih h.2 f fn hf
def bodyOf (g:Func):Code:=match g.body with
 |some c=>c
 |none=>.skip
def C0:Cuts:=fun _=>none
def ctab:List (Nat×Cut)->Cuts
 |[],_=>none
 |(k,c)::r,n=>bif k==n then some c else ctab r n
def cutPts (C:Cuts):Code->List (Cut×Code)
 | .seq a b=>cutPts C a++cutPts C b
 | .cond c a b=>match C (2*firstR (.cond c a b)) with
  |some cut=>[(cut,.cond c a b)]
  |none=>cutPts C a++cutPts C b
 | .block _ c=>cutPts C c
 | .loop c=>match C (2*firstR c+1) with
  |some cut=>[(cut,.loop c)]
  |none=>[]
 |_=>[]
def AllCuts (P:Program):List (Cut×Code)->Prop
 |[]=>True
 |p::r=>CutOk P p.1 p.2/\AllCuts P r
theorem allCuts_append:∀ {l1 l2:List (Cut×Code)},AllCuts P (l1++l2)->AllCuts P l1/\AllCuts P l2:=by
 intro l1
 induction l1 with
 |nil=>intro l2 h;exact⟨trivial,h⟩
 |cons p l1 ih=>intro l2 h;exact⟨⟨h.1,(ih h.2).1⟩,(ih h.2).2⟩
theorem cuts_of {C:Cuts}:∀ {c:Code},AllCuts P (cutPts C c)->CutsIn P C c:=by
 intro c
 induction c with
 |seq a b iha ihb=>intro h;obtain⟨h1,h2⟩:=allCuts_append h;exact⟨iha h1,ihb h2⟩
 |cond x a b iha ihb=>
  intro h
  simp only[CutsIn,cutPts] at h ⊢
  cases hc:C (2*firstR (.cond x a b)) with
  |some cut=>rw[hc] at h;exact h.1
  |none=>
   rw[hc] at h
   obtain⟨h1,h2⟩:=allCuts_append h
   exact⟨iha h1,ihb h2⟩
 |block id c ih=>intro h;exact ih h
 |loop c ih=>
  intro h
  simp only[CutsIn,cutPts] at h ⊢
  cases hc:C (2*firstR c+1) with
  |some cut=>rw[hc] at h;exact h.1
  |none=>trivial
 |_=>intro _;exact trivial
def bodyAt (k:Nat):Code->Option Code
 | .seq a b| .cond _ a b=>match bodyAt k a with
  |some c=>some c
  |none=>bodyAt k b
 | .block _ c| .scope c=>bodyAt k c
 | .loop c=>bif 2*firstR c+1==k then some c else bodyAt k c
 |_=>none
def loopOf (g:Func) (k:Nat):Code:=(bodyAt k (bodyOf g)).getD .skip
theorem loop_of (hmix:P.follows .mixedOrders=true) {l:List (Option Ty)} {k:Nat} (hk:decide (k<=10000)=true) (hT:tabB P k l 0=true) {fl:List (FuncId×Fn)} (hF:FAll P fl) {C:Cuts} {body:Code} {s:CutSig} (hfit:s.fit=true) {pts:List (Cut×Code)} (hp:cutPts C body=pts) (hc:AllCuts P pts)
  {S:(s.In->Option s.Out)->s.In->Option s.Out} (he:∀rec x,loopStep ⟨tabT l,ftab fl⟩ C body s rec x=S rec x):CutOk P ⟨s,iter S FUEL⟩ (.loop body):=
 loop_ok hmix ⟨tabT l,ftab fl⟩ C (tab_ok (by simpa using hk) hT) (fall_ok hF) (cuts_of (by rw[hp];exact hc)) hfit he
def condAt (k:Nat):Code->Option Code
 | .seq a b=>match condAt k a with
  |some c=>some c
  |none=>condAt k b
 | .cond c a b=>bif 2*firstR (.cond c a b)==k then some (.cond c a b) else match condAt k a with
  |some c=>some c
  |none=>condAt k b
 | .block _ c| .scope c| .loop c=>condAt k c
 |_=>none
def condOf (g:Func) (k:Nat):Code:=(condAt k (bodyOf g)).getD .skip
theorem cond_of (hmix:P.follows .mixedOrders=true) {l:List (Option Ty)} {k:Nat} (hk:decide (k<=10000)=true) (hT:tabB P k l 0=true) {fl:List (FuncId×Fn)} (hF:FAll P fl) {C:Cuts} {c:Code} {s:CutSig} (hfit:s.fit=true) {pts:List (Cut×Code)} (hp:cutPts C c=pts) (hc:AllCuts P pts)
  {S:s.In->Option s.Out} (he:∀x,cutFn ⟨tabT l,ftab fl⟩ C c s x=S x):CutOk P ⟨s,S⟩ c:=
 cut_ok (cut_meets hmix ⟨tabT l,ftab fl⟩ C (tab_ok (by simpa using hk) hT) (fall_ok hF) (cuts_of (by rw[hp];exact hc)) hfit S (fun x y h=>(he x).trans h))
theorem cuts0:∀ {c:Code},CutsIn P C0 c:=by
 intro c
 induction c with
 |seq a b iha ihb=>exact⟨iha,ihb⟩
 |cond c a b iha ihb=>exact⟨iha,ihb⟩
 |block id c ih=>exact ih
 |loop c ih=>exact trivial
 |_=>exact trivial
theorem fn_of (hmix:P.follows .mixedOrders=true) {l:List (Option Ty)} {k:Nat} (hk:decide (k<=10000)=true) (hT:tabB P k l 0=true) {fl:List (FuncId×Fn)} (hF:FAll P fl) {C:Cuts} {f:FuncId} {g:Func} (hf:P.funcs[f]?=some g) (hb:g.body.isSome=true) (hn:(g.name=="runtime.NumGoroutine")=false)
  (hc:CutsIn P C (bodyOf g)) {s:Sig} {F:s.In->Option s.Out} (he:∀x,fnK ⟨tabT l,ftab fl⟩ C g s x=F x):FnOk P f ⟨s,F⟩:=by
 refine⟨?_,g,hf,hb,hn⟩
 have hbody:g.body=some (bodyOf g):=by
  unfold bodyOf
  cases h:g.body with
  |none=>rw[h] at hb;cases hb
  |some c=>rfl
 exact fn_ok hmix ⟨tabT l,ftab fl⟩ C (tab_ok (by simpa using hk) hT) (fall_ok hF) hf hbody hc F (fun x y h=>(he x).trans h)
theorem fn_of2 (hmix:P.follows .mixedOrders=true) {l:List (Option Ty)} {k:Nat} (hk:decide (k<=10000)=true) (hT:tabB P k l 0=true) {fl:List (FuncId×Fn)} (hF:FAll P fl) {C:Cuts} {f:FuncId} {g:Func} (hf:P.funcs[f]?=some g) (hb:g.body.isSome=true) (hn:(g.name=="runtime.NumGoroutine")=false)
  {pts:List (Cut×Code)} (hp:cutPts C (bodyOf g)=pts) (hc:AllCuts P pts) {s:Sig} {F:s.In->Option s.Out} (he:∀x,fnK ⟨tabT l,ftab fl⟩ C g s x=F x):FnOk P f ⟨s,F⟩:=
 fn_of hmix hk hT hF hf hb hn (cuts_of (by rw[hp];exact hc)) he
end
end Go.Proofs.YtacbkfginiknaaaDoor.V
namespace Go.Proofs.YtacbkfginiknaaaDoor.V
open Go
section
variable {P:Program} {W W':World} {H:Type} {enc:TypeId×Value->H}
theorem gread_arr {name:String} {D:DataW Unit} {g n:Nat} {tg te:TypeId} {k:IntKind} {l:List Int} (hL:laidMetH P [(name,D)] W) (hpl:([(name,D)].all fun x=>x.2.handleName?.isNone)=true) (hg:P.globalNamed name=some g)
  (ht:(P.globals[g]?).map (·.type)=some tg) (hu:P.underlying tg=some (.array n te)) (he:P.underlying te=some (.int k)) (hc:P.cellsOf te=1) (hD:D= .agg (l.map fun m=>.lit (.int k m))):
  GRead W g ⟨.arr n (.int k),l,[]⟩/\g<W.heap.size:=by
 rw[MakeChecks.laidMetH_plain _ _ _ hpl] at hL
 obtain⟨ps,⟨g0,t0,cs,f0,p0,q0,hg0,ht0,hv0,hd0,_⟩,_,_⟩:=hL
 obtain rfl:=AG (hg.symm.trans hg0)
 obtain rfl:=AG (ht.symm.trans ht0)
 obtain⟨xs,m,_,hx,_,hn,hel⟩:=DataW.trod_array hu hd0
 simp only[B7] at hx
 rw[hD] at hx
 have hxs:xs.map (·.1)=l.map fun m=>(.lit (.int k m):DataW Unit):=by
  have:=hx.1
  simp only[DataW.agg.injEq] at this
  exact this.symm
 have hlen:l.length=n:=by
  have:=congrArg List.length hxs
  simpa[hn] using this.symm
 have key:∀ (i:Nat) (x:Int),l[i]?=some x->cs.toList[i]?=some (.int k x):=by
  intro i x hi
  have hin:i<n:=by have:=(Aa.1 hi).1;omega
  have h1:=hel i hin
  rw[hc,Bd] at h1
  have h2:xs[i]?=some xs[i]:=A4 (by omega)
  rw[h2] at h1
  obtain⟨z,e1,e2,_⟩:=DataW.trod_int he h1
  have h3:(xs.map (·.1))[i]?=some (.lit (.int k z)):=by rw[AY,h2,e2];rfl
  rw[hxs,AY,hi] at h3
  simp only[BB,AJ,DataW.lit.injEq,Lit.int.injEq,true_and] at h3
  subst h3
  have h4:((cs.toList.drop i).take 1)[0]?=some (.int k x):=by rw[e1];rfl
  rw[List.getElem?_take_of_lt (by omega),AL] at h4
  simpa using h4
 refine⟨⟨l.map (fun m=>Value.int k m),fun w A E σ=>⟨hlen,by simp[hlen,Ty.size],fun i x hx=>?_,rfl⟩,rfl,rfl,fun j v hj=>?_⟩,?_⟩
 ·show seg _ 1 i=[.int k x]
  have hx':l[i]?=some x:=hx
  have:(l.map (fun m=>Value.int k m))[i]?=some (.int k x):=by rw[AY,hx'];rfl
  simp only[V.seg,Bd]
  obtain⟨hi,he⟩:=Aa.1 this
  rw[List.drop_eq_getElem_cons hi,he]
  rfl
 ·rw[AY] at hj
  cases hi:l[j]? with
  |none=>rw[hi] at hj;cases hj
  |some x=>
   rw[hi] at hj
   simp only[BB,AJ] at hj
   subst hj
   rw[World.var?_cell hg0 hv0,Av]
   have:=key j x hi
   simpa using this
 ·simp only[Be,hg0,Aw] at hv0
  split at hv0
  ·rename_i h
   exact(AX.1 h).1
  ·cases hv0
theorem Ext.vars (hl:laidOutB P=true) (hx:Ext W W') {name:String} {g:Nat} {t:TypeId} (hg:P.globalNamed name=some g) (ht:(P.globals[g]?).map (·.type)=some t) (hrd:P.readableRec t=true) (hrow:t<P.types.size) {sp:Nat->Bool} {gs:List (DataW H)} {q:List MemPlace}
  (h:DataW.TrodVars enc P W (fun _=>true) [name] gs q) (hlt:∀p∈q,p.block<W.heap.size) (hsp:∀p∈q,sp p.block=true):DataW.TrodVars enc P W' sp [name] gs q:=by
 match gs,h with
 |[d],⟨g0,t0,cs,fuel,p,q',h1,h2,h3,h4,h5,h6⟩=>
  have h5':q'=[]:=h5
  subst h5'
  obtain rfl:=AG (hg.symm.trans h1)
  obtain rfl:=AG (ht.symm.trans h2)
  have hc:W'.var? P name=some cs:=by
   simp only[Be,h1,Aw] at h3 ⊢
   have hgl:g<W.heap.size:=by
    split at h3
    ·rename_i h;exact(AX.1 h).1
    ·cases h3
   rw[hx.block g hgl]
   exact h3
  have hT:DataW.Trod enc P W 0 (fun _=>true) true t (.agg cs) d p:=⟨fuel,h4⟩
  have hp:∀x∈p,x∈q:=fun x hx'=>by rw[h6];simp[hx']
  obtain⟨fuel',h7⟩:=WideElems.Trod_stays hl hrd hrow hT (fun x hx'=>hx.sameAt (hlt x (hp x hx'))) (fun x hx'=>hsp x (hp x hx'))
  exact⟨g,t,cs,fuel',p,[],h1,h2,hc,h7,rfl,h6⟩
theorem post_lawV {f:Func} {s:ChangeSpec} {apart fresh handsOn again:Bool} {args:Array Value} {ds gs:List (DataW H)} {before:List MemPlace} {tys:List Ty} {tb:TypeId} {name:String} {g:Nat} {t:TypeId}
  (hl:laidOutB P=true) (hpar:ParB P f.params.toList tys) (hres:f.resultTypes= #[tb]) (htb:P.underlying tb=some .bool) (hvars:s.vars=[name]) (hg:P.globalNamed name=some g) (ht:(P.globals[g]?).map (·.type)=some t) (hrd:P.readableRec t=true) (hrow:t<P.types.size)
  (hfn:s.fn H (ds++gs)={results:=[.lit (.bool true)],args:=ds,vars:=gs})
  (hW:DataW.Whole enc P f.params.toList s.vars apart W args.toList ds gs before) (hx:Ext W W'):s.post enc P f apart fresh handsOn again W args (.bool true) W':=by
 have hlt:=hW.lt
 have hW':=hW
 obtain⟨p,q,hA,hV,rfl,hz,hn⟩:=hW'
 have hp:∀x∈p,x.block<W.heap.size:=fun x hx'=>by simpa using hlt x (by simp[hx'])
 have hq:∀x∈q,x.block<W.heap.size:=fun x hx'=>by simpa using hlt x (by simp[hx'])
 have hr:∀ (b:Nat) (sp:Nat->Bool) (hd:Bool),DataW.TrodAll enc P W' b sp hd f.resultTypes.toList ((Value.bool true).resultList f.resultTypes.size) (s.fn H (ds++gs)).results []:=by
  intro b sp hd
  rw[hfn,hres]
  exact ChangeShapes.trodAll_mk1 ⟨1,by simp[DataW.trod,Value.cells,htb]⟩
 have ha:∀sp:Nat->Bool,(∀x∈p,sp x.block=true)->DataW.TrodAll enc P W' 0 sp true f.params.toList args.toList (s.fn H (ds++gs)).args p:=by
  intro sp hsp
  rw[hfn]
  exact args_stay hl hx hpar hA hp hsp
 have hv:∀sp:Nat->Bool,(∀x∈q,sp x.block=true)->DataW.TrodVars enc P W' sp s.vars (s.fn H (ds++gs)).vars q:=by
  intro sp hsp
  rw[hfn,hvars]
  rw[hvars] at hV
  exact hx.vars hl hg ht hrd hrow hV hq hsp
 refine⟨ds,gs,p++q,[],p,q,hW,hr _ _ _,ha _ (fun x hx'=>by simpa using hp x hx'),hv _ (fun x hx'=>by simpa using hq x hx'),hx.keptBut _,fun _=>⟨?_,(s.fn H (ds++gs)).results++(s.fn H (ds++gs)).args,(s.fn H (ds++gs)).vars,p++q,⟨p,q,?_,hv _ (fun _ _=>rfl),rfl,?_,hn⟩,fun x hx' _=>hx'⟩⟩
 ·intro j t r h1 h2
  rw[hres] at h1 h2
  match j,h1,h2 with
  |0,h1,h2=>
   simp[Value.resultList] at h1 h2
   subst h1;subst h2
   exact RowKit.okWide_bool_mk htb true
 ·have:=ChangeShapes.trodAll_append (ha (fun _=>true) (fun _ _=>rfl)) (hr 0 (fun _=>true) true)
  simpa using this
 ·intro b off hb
  have hbl:b<W.heap.size:=by
   rcases Am.1 hb with h|h
   ·exact hp _ h
   ·exact hq _ h
  rw[hx.frozen (b:=b) (off:=off) hbl]
  exact hz b off hb
theorem law_okV {f:FuncId} {fn:Func} {s:ChangeSpec} {apart fresh handsOn again:Bool} {tys:List Ty} {tb:TypeId} {F:(LawSig tys).In->Option (LawSig tys).Out} {name:String} {g:Nat} {t:TypeId} (hm:Meets P f ⟨LawSig tys,F⟩)
  (hF:∀x,WFs tys x->∃y,F x=some y/\Tup.hd (Tup.fst (a:=[Ty.bool]) (b:=outsOf (roAll tys)) y)=true)
  (hl:laidOutB P=true) (hpar:ParB P fn.params.toList tys) (hres:fn.resultTypes= #[tb]) (htb:P.underlying tb=some .bool) (hvars:s.vars=[name]) (hg:P.globalNamed name=some g) (ht:(P.globals[g]?).map (·.type)=some t) (hrd:P.readableRec t=true) (hrow:t<P.types.size)
  (hfn:∀ds gs:List (DataW H),ds.length=fn.params.toList.length->gs.length=1->s.fn H (ds++gs)={results:=[.lit (.bool true)],args:=ds,vars:=gs})
  {args:Array Value} {ds gs:List (DataW H)} {before:List MemPlace} {base:Nat} (hval:∀ (j:Nat) t v,fn.params[j]?=some t->args[j]?=some v->Value.okWide P W .any base t v)
  (hW:DataW.Whole enc P fn.params.toList s.vars apart W args.toList ds gs before) (hgl:∀p∈gdat,GRead W p.1 p.2/\p.1<W.heap.size):
  Calls P f args W fun e W'=>∃v,e= .returned v/\s.post enc P fn apart fresh handsOn again W args v W':=by
 have hW':=hW
 obtain⟨p,q,hA,hV,rfl,hz,hn⟩:=hW'
 have hgs:gs.length=1:=by
  rw[hvars] at hV
  match gs,hV with
  |[d],_=>rfl
  |[],h=>exact h.elim
  |d::e::r,⟨_,_,_,_,_,q',_,_,_,_,h5,_⟩=>exact h5.elim
 obtain⟨x,h1,h2,h3⟩:=opens_ok hpar hA (fun j t v e1 e2=>.inr ⟨base,hval j t v (by simpa using e1) (by simpa using e2)⟩)
 obtain⟨y,hy,ht'⟩:=hF x h2
 have hblocks:∀l:List Ty,blocksOf (l.map fun _=>(⟨[],none⟩:Foot))=[]:=by
  intro l
  induction l with
  |nil=>rfl
  |cons t l ih=>simp[blocksOf,Foot.blocks] at ih ⊢
 have hc:=hm x y hy W (fun b=>b<W.heap.size) (fun _=>False) args.toList _ ⟨h1,by rw[hblocks];exact Au,fun b hb=>(by rw[hblocks] at hb;cases hb),fun b hb=>hb,fun b hb=>hb.elim,hgl⟩
 refine hc.mono fun e W' he=>?_
 cases e with
 |panicked c=>exact he.elim
 |outgrown=>exact he.elim
 |returned v=>
  obtain⟨vs,rfl,hp⟩:=he.1 rfl
  have hro:roOnly (roAll tys)=true:=by
   have:∀l:List Ty,roOnly (roAll l)=true:=fun l=>by
    induction l with
    |nil=>rfl
    |cons t l ih=>exact ih
   exact this tys
  have hx:Ext W W':=hp.fr.toExt (foot_ro hro h1)
  obtain⟨bo,br,_,_,hr,_⟩:=hp.ex
  have hv:resVal vs= .bool true:=by
   cases vs with
   |nil=>cases br<;>exact hr.elim
   |cons u vs=>
    cases br with
    |nil=>exact hr.elim
    |cons b br=>
     obtain⟨⟨cs,g1,g2,_⟩,g3⟩:=hr
     cases vs with
     |cons u' vs=>cases br<;>exact g3.elim
     |nil=>
      have g2':cs=[.bool (Tup.hd (Tup.fst (a:=[Ty.bool]) (b:=outsOf (roAll tys)) y))]:=g2
      rw[g1,g2',ht']
      rfl
  rw[hv]
  exact⟨_,rfl,post_lawV hl hpar hres htb hvars hg ht hrd hrow (hfn ds gs h3 hgs) hW hx⟩
end
end Go.Proofs.YtacbkfginiknaaaDoor.V
