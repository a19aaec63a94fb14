/- A typed evaluator of the program's code and its soundness (part VC). Of a function it shows what it computes, as a plain function on numbers, bools, strings, lists and pairs. -/
import Derived.Test.YtibidhcmenljoaaDoorVB
import Derived.Stop.Looks
open Array renaming getD_eq_getD_getElem?->A7,getElem?_eq_some_iff->AG,getElem?_eq_getElem->AJ,getElem?_setIfInBounds_self_of_lt->AX,size_setIfInBounds->Aa,all_eq_true_iff_forall_mem->Aj,getElem?_eq_none->An,getElem?_modify->BC,any_eq_true'->BG,toList_map->BK,range->BR
open Bool renaming and_eq_true->A4,or_eq_true->A6,not_eq_true'->AE,or_eq_false_iff->Af,not_true->Al,false_eq_true->Am,false_or->Ay,not_eq_false'->BF
open Go.Region renaming waitsFor->A8,wanted->AC,ready->AL,waitsFor_spec->AM,noSelect_spec->Ab,binds->Ai,noSelect->BM
open Go.Result renaming andThen_ok->AI,andThen_halt->BE
open Go.Sem renaming run_bind->AQ,run_pure->AT,Looks->BA
open Go.World renaming setRow->B1,setCell->BP
open Int renaming le_trans->BQ
open List renaming mem_cons_of_mem->A5,mem_cons_self->A9,mem_range->AD,all_eq_true->AH,mem_append_right->AN,mem_append_left->AO,nodup_append->AP,getD_eq_getElem?_getD->AR,mem_cons->AU,getElem?_eq_some_iff->AY,range->AZ,contains_iff_mem->Ac,mem_filterMap->Ad,mem_map->Ae,map_cons->Ak,getElem?_set_ne->Aq,length_cons->As,mem_flatMap->Au,cons_append->Av,countP_eq_zero->Aw,countP_pos_iff->Ax,any_eq_true->Az,nodup_range->B0,length_eq_zero_iff->B3,getElem?_replicate->B4,mem_append->B6,nodup_cons->B8,length_nil->B9,getElem?_set_self->BB,getElem?_map->BH,range'->BI,length_take->BJ,drop_take->BN
open Nat renaming lt_of_lt_of_le->AB,le_refl->AW,le_of_not_lt->Ag,lt_or_ge->Ah,le_trans->Ao,zero_add->Ap,strongRecOn->B7,mul_le_mul_right->BD
open Option renaming bind_some->AV,getD_some->Ar,bind_eq_some_iff->B2,map_none->B5,map_some->BL
open Option.some renaming inj->A3,injEq->AS
open Prod.mk renaming injEq->BO
namespace Go.Proofs.YtibidhcmenljoaaDoor.V
open Go
section
variable {P:Program} {X:Ctx} {E:Env} {σ:St} {A0:Array Value} {a:Act} {w:World} {o:Oper} {R:Type}
theorem wpFix_append {ops:Array Oper} {Q:Act->Prop}:∀ {l1 l2:List Oper} {a a1:Act},wpFix P ops w (fun x=>x=a1) l1 a->wpFix P ops w Q l2 a1->wpFix P ops w Q (l1++l2) a:=by
 intro l1
 induction l1 with
 |nil=>intro l2 a a1 h h2;have h':a=a1:=h;subst h';exact h2
 |cons o l1 ih=>intro l2 a a1 h h2;obtain⟨v,h3,h4⟩:=h;exact⟨v,h3,ih h4 h2⟩
def FEnd (X:Ctx) (w:World) (l:List (Oper×Nat)) (a:Act) (G:St->Prop) (a':Act):Prop:=
 a'.defers=a.defers/\a'.tmps.size=a.tmps.size/\(∀i,(∀q∈l,q.1.dst≠some i)->a'.tmps[i]?=a.tmps[i]?)/\∃σ',G σ'/\Rel X σ' a'.tmps w
theorem skip_fix {T:Tabs} {ops:Array Oper} {i0 j:Nat} {v:Bool} {c:Tmp}:∀ {g:List (Oper×Nat)} {a:Act} {i:Nat},Contig i g->(∀q∈g,ops[q.2]?=some q.1)->(∀q∈g,okG T i0 j v c q.1 q.2=true)->dstOf ops j=some c->
  yielded ops a.tmps j≠some v->(∀j',i0<=j'->j'<i->yielded ops a.tmps j'=none)->
  ∃a',wpFix P ops w (fun x=>x=a') (g.map (·.1)) a/\a'.defers=a.defers/\a'.tmps.size=a.tmps.size/\(∀i,(∀q∈g,q.1.dst≠some i)->a'.tmps[i]?=a.tmps[i]?):=by
 intro g
 induction g with
 |nil=>intro a i _ _ _ _ _ _;exact⟨a,rfl,rfl,rfl,fun _ _=>rfl⟩
 |cons q g ih=>
  intro a i hc hi hok hd hy hn
  have hq:=hi q A9
  have ho:=hok q A9
  simp only[okG,okH,A4,AE,beq_eq_false_iff_ne,ne_eq] at ho
  have hun:AC q.1 (yielded ops a.tmps)=false:=by
   unfold AC
   cases hg:q.1.guard with
   |none=>rw[hg] at ho;exact absurd ho.1.1 (by simp)
   |some p=>
    obtain⟨j',w'⟩:=p
    rw[hg] at ho
    simp only[A6,A4,beq_iff_eq,decide_eq_true_eq] at ho
    rcases ho.1.1 with⟨rfl,rfl⟩|⟨h1,h2⟩
    ·simpa using hy
    ·have:=hn j' h1 (by rw[<-hc.1];exact h2)
     simp[this]
  have hput:∀k,q.1.dst≠some k->(a.put q.1.dst undef).tmps[k]?=a.tmps[k]?:=fun k hk=>put_other _ _ k (fun e=>hk e.symm)
  obtain⟨a',h1,h2,h3,h4⟩:=ih (a:=a.put q.1.dst undef) hc.2 (fun q' hq'=>hi q' (A5 _ hq')) (fun q' hq'=>hok q' (A5 _ hq')) hd (by
    rw[yielded_dst hd,hput c ho.1.2,<-yielded_dst hd];exact hy) (fun j' h1 h2=>by
    cases hdj:dstOf ops j' with
    |none=>exact yielded_none hdj
    |some d=>
     rw[yielded_dst hdj]
     by_cases he:q.1.dst=some d
     ·have hund:∀u,(a.put q.1.dst undef).tmps[d]?=some u->u=undef:=by
       intro u hu
       rw[he] at hu
       simp only[Act.put] at hu
       by_cases hlt:d<a.tmps.size
       ·rw[AX hlt] at hu
        exact(A3 hu).symm
       ·rw[An (by rw[Aa];exact Ag hlt)] at hu;cases hu
      cases hz:(a.put q.1.dst undef).tmps[d]? with
      |none=>rfl
      |some u=>rw[hund u hz];rfl
     ·rw[hput d he,<-yielded_dst hdj]
      by_cases hj:j'=i
      ·subst hj
       have:dstOf ops j'=q.1.dst:=by unfold dstOf;rw[<-hc.1,hq];rfl
       rw[this] at hdj
       exact absurd hdj he
      ·exact hn j' h1 (by omega))
  exact⟨a',⟨undef,.inr ⟨hun,rfl⟩,h1⟩,h2.trans (put_defers _ _),h3.trans (put_size _ _),fun k hk=>(h4 k (fun q' hq'=>hk q' (A5 _ hq'))).trans (hput k (hk q A9))⟩
theorem fix_quiet (T:Tabs) {o:Op} (h:fixK T o=true):quiet T o=true:=by
 unfold fixK at h
 split at h<;>first|rfl|(cases h;done)|skip
 rename_i f args ats
 simp only[quiet]
 cases hf:T.F f with
 |none=>rw[hf] at h;cases h
 |some fn=>rw[hf] at h;simp only[A4] at h ⊢;exact h.1.1
theorem fixops_ok (T:Tabs) (hT:TabOk P T.T) (hF:FOk P T.F) {ops:Array Oper}:∀ (n:Nat) {act:List (Nat×Bool)} {R:Type} {l:List (Oper×Nat)} {i:Nat} {σ:St} {k:St->Option R} {r:R} {a:Act} {E:Env},
  opsK T ops n act R l σ k=some r->RelE X E σ a.tmps w->Contig i l->(∀q∈l,ops[q.2]?=some q.1)->ActOk ops a.tmps act l->(∀q∈l,fixK T q.1.op=true)->
  ∃a',wpFix P ops w (fun x=>x=a') (l.map (·.1)) a/\FEnd X w l a (fun σ'=>k σ'=some r) a':=by
 intro n
 induction n with
 |zero=>
  intro act R l i σ k r a E h hr _ _ _ _
  cases l with
  |nil=>exact⟨a,rfl,rfl,rfl,fun _ _=>rfl,σ,by simpa[opsK] using h,E,hr⟩
  |cons o l=>simp[opsK] at h
 |succ n ih=>
  intro act R l i σ k r a E h hr hc hi hact hfx
  cases l with
  |nil=>exact⟨a,rfl,rfl,rfl,fun _ _=>rfl,σ,by simpa[opsK] using h,E,hr⟩
  |cons o l=>
   simp only[opsK] at h
   have ho:=hi o A9
   split at h
   ·rename_i hg
    have hw:AC o.1 (yielded ops a.tmps)=true:=by
     unfold AC
     unfold openG at hg
     cases hgu:o.1.guard with
     |none=>rfl
     |some g=>
      rw[hgu] at hg
      simp only at hg
      cases hcon:act.contains g with
      |false=>rw[hcon] at hg;simp at hg
      |true=>
       have:=(hact g (by simpa using hcon)).1
       simp[this]
    obtain⟨v,g1,σ1,hk,E1,hr1⟩:=fix_step T hT hF (hfx o A9) h hr
    obtain⟨a',q1,q2,q3,q4,q5⟩:=ih hk hr1 hc.2 (fun q hq=>hi q (A5 _ hq)) (hact.next (fun q hq=>A5 _ hq) (fun i hi'=>put_other _ _ i (fun e=>hi' o A9 e.symm))) (fun q hq=>hfx q (A5 _ hq))
    exact⟨a',⟨v,.inl ⟨hw,g1⟩,q1⟩,q2.trans (put_defers _ _),q3.trans (put_size _ _),fun i hi'=>(q4 i (fun q hq=>hi' q (A5 _ hq))).trans (put_other _ _ i (fun e=>hi' o A9 e.symm)),q5⟩
   ·rename_i j w0 hg
    split at h
    ·rename_i x1 x2 g d c x y ty pos af pg i' r' hsp
     have hl:=spanG_eq j _ hsp
     have ho2:o.2=i:=hc.1
     cases hb1:(dstOf ops j==some c&&g.all fun q=>okG T o.snd j w0 c q.fst q.snd)&&pgOk act pg with
     |false=>
      rw[hb1] at h
      simp only[cond_false] at h
      cases hb2:(dstOf ops j==some c&&g.all fun q=>okH o.snd j w0 c q.fst q.snd)&&pgOk act pg with
      |false=>rw[hb2] at h;simp at h
      |true=>
       exfalso
       simp only[A4,beq_iff_eq,AH] at hb2
       have:((dstOf ops j==some c&&g.all fun q=>okG T o.snd j w0 c q.fst q.snd)&&pgOk act pg)=true:=by
        simp only[A4,beq_iff_eq,AH,okG]
        exact⟨⟨hb2.1.1,fun q hq=>⟨hb2.1.2 q hq,fix_quiet T (hfx q (by rw[hl];exact AO _ hq))⟩⟩,hb2.2⟩
       rw[this] at hb1;cases hb1
     |true=>
      rw[hb1] at h
      simp only[cond_true] at h
      simp only[A4,beq_iff_eq,AH] at hb1
      obtain⟨⟨hdst,hall⟩,hpg⟩:=hb1
      cases hv:boolOf (σ.fr.getD c .no) with
      |none=>rw[hv] at h;simp at h
      |some v=>
       rw[hv] at h
       simp only[B2] at h
       obtain⟨t,ht,hk⟩:=h
       have hevc:a.eval (.tmp c)= .bool v:=by
        have hs:=slot_opd hr (.tmp c)
        simp only[opd] at hs
        unfold boolOf at hv
        split at hv
        ·rename_i b ms hm e
         injection hv with hv;subst hv
         rw[e] at hs
         exact val_bool hs
        ·cases hv
       have hac:a.tmps[c]?=some (.bool v):=by
        have h1:a.tmps.getD c undef= .bool v:=hevc
        rw[A7] at h1
        cases hz:a.tmps[c]? with
        |none=>rw[hz] at h1;cases h1
        |some u=>rw[hz] at h1;simpa using h1
       have hyj:yielded ops a.tmps j=some v:=by rw[yielded_dst hdst,hac]
       have hok:∀q∈g,okG T o.snd j w0 c q.1 q.2=true:=hall
       have hgc:∀q∈g,q.1.dst≠some c:=fun q hq=>by
        have:=hok q hq
        simp only[okG,okH,A4,AE,beq_eq_false_iff_ne,ne_eq] at this
        exact this.1.2
       rw[hl] at hc hi hact hfx ⊢
       obtain⟨hc1,hc2⟩:=contig_append hc
       have hmem:∀q∈g,q∈g++(⟨some d,.pick (.tmp c) x y,ty,pos,af,pg⟩,i')::r':=fun q hq=>AO _ hq
       have hmem2:∀q∈r',q∈g++((⟨some d,.pick (.tmp c) x y,ty,pos,af,pg⟩:Oper),i')::r':=fun q hq=>AN _ (A5 _ hq)
       have fin:∀a1,wpFix P ops w (fun x=>x=a1) (g.map (·.1)) a->a1.defers=a.defers->a1.tmps.size=a.tmps.size->(∀i,(∀q∈g,q.1.dst≠some i)->a1.tmps[i]?=a.tmps[i]?)->a1.eval (bif v then x else y)= .bool t->
         ∃a',wpFix P ops w (fun x=>x=a') ((g++((⟨some d,.pick (.tmp c) x y,ty,pos,af,pg⟩:Oper),i')::r').map (·.1)) a/\FEnd X w (g++((⟨some d,.pick (.tmp c) x y,ty,pos,af,pg⟩:Oper),i')::r') a (fun σ'=>k σ'=some r) a':=by
        intro a1 e0 e1 e2 e3 e5
        have hact1:ActOk ops a1.tmps act (((⟨some d,.pick (.tmp c) x y,ty,pos,af,pg⟩:Oper),i')::r'):=by
         intro q hq
         obtain⟨k1,k2⟩:=hact q hq
         refine⟨?_,fun c' hc' q' hq'=>k2 c' hc' q' (AN _ hq')⟩
         cases hd:dstOf ops q.1 with
         |none=>rw[yielded_none hd] at k1;cases k1
         |some c'=>rw[yielded_dst hd,e3 c' (fun q' hq'=>k2 c' hd q' (hmem q' hq')),<-yielded_dst hd];exact k1
        have hw:AC (⟨some d,.pick (.tmp c) x y,ty,pos,af,pg⟩:Oper) (yielded ops a1.tmps)=true:=by
         unfold AC
         cases pg with
         |none=>rfl
         |some q=>
          have:=(hact1 q (by simpa[pgOk] using hpg)).1
          simp[this]
        have hx:FixAt P (⟨some d,.pick (.tmp c) x y,ty,pos,af,pg⟩:Oper) a1 w (.bool t):=by
         intro w' _
         have hx:(execOp a1.eval (⟨some d,.pick (.tmp c) x y,ty,pos,af,pg⟩:Oper)).run P w'= .ok (.value (.bool t)) w':=by
          have h1:a1.eval (.tmp c)= .bool v:=by
           show a1.tmps.getD c undef=_
           rw[A7,e3 c hgc,hac];rfl
          simp only[execOp,h1,asBool,AQ,AT,AI]
          rw[<-e5]
          cases v<;>simp
         rw[hx]
         exact⟨rfl,rfl⟩
        have hr1:RelE X E (clearD g σ) a1.tmps w:=hr.clear g e2 e3
        have hr2:RelE X E ((clearD g σ).put (some d) (.val ⟨.bool,t,[]⟩ none)) (a1.put (some d) (.bool t)).tmps w:=hr1.put (some d) (slot_bool t none)
        obtain⟨a',q1,q2,q3,q4,q5⟩:=ih hk hr2 hc2.2 (fun q hq=>hi q (hmem2 q hq)) (hact1.next (fun q hq=>A5 _ hq) (fun i hi'=>put_other _ _ i (fun e=>hi' _ A9 e.symm))) (fun q hq=>hfx q (hmem2 q hq))
        refine⟨a',?_,(q2.trans (put_defers _ _)).trans e1,(q3.trans (put_size _ _)).trans e2,fun i hi'=>?_,q5⟩
        ·rw[List.map_append]
         exact wpFix_append e0 ⟨.bool t,.inl ⟨hw,hx⟩,q1⟩
        ·rw[q4 i (fun q hq=>hi' q (hmem2 q hq)),put_other _ _ i (fun e=>hi' _ (AN _ A9) e.symm),e3 i (fun q hq=>hi' q (hmem q hq))]
       cases hvw:(bif w0 then v else !v) with
       |true=>
        rw[hvw] at ht
        simp only[cond_true] at ht
        have hvw':v=w0:=by cases v<;>cases w0<;>simp_all
        subst hvw'
        obtain⟨a1,e0,e1,e2,e3,σ',hσ,E',hr'⟩:=ih ht hr hc1 (fun q hq=>hi q (hmem q hq)) (by
         intro q hq
         rcases AU.1 hq with rfl|hq
         ·exact⟨hyj,fun c' hc' q' hq'=>by
           have:c'=c:=by
            have h1:dstOf ops j=some c':=hc'
            rw[hdst] at h1;exact(A3 h1).symm
           subst this
           exact hgc q' hq'⟩
         ·exact⟨(hact q hq).1,fun c' hc' q' hq'=>(hact q hq).2 c' hc' q' (hmem q' hq')⟩) (fun q hq=>hfx q (hmem q hq))
        refine fin a1 e0 e1 e2 e3 ?_
        have hs:=slot_opd (a:=a1) hr' (bif v then x else y)
        unfold boolOf at hσ
        split at hσ
        ·rename_i b ms hm e
         injection hσ with hσ;subst hσ
         rw[e] at hs
         exact val_bool hs
        ·cases hσ
       |false=>
        rw[hvw] at ht
        simp only[cond_false] at ht
        have hvw':v= !w0:=by cases v<;>cases w0<;>simp_all
        obtain⟨a1,e0,e1,e2,e3⟩:=skip_fix (P:=P) (w:=w) (T:=T) (i0:=o.2) (j:=j) (v:=w0) (c:=c) (a:=a) hc1 (fun q hq=>hi q (hmem q hq)) hok hdst (by rw[hyj,hvw'];cases w0<;>simp) (fun j' h1 h2=>by omega)
        refine fin a1 e0 e1 e2 e3 ?_
        have hr1:RelE X E (clearD g σ) a1.tmps w:=hr.clear g e2 e3
        have hs:=slot_opd (a:=a1) hr1 (bif w0 then y else x)
        have hxy:(bif v then x else y)=(bif w0 then y else x):=by rw[hvw'];cases w0<;>rfl
        rw[hxy]
        unfold boolOf at ht
        split at ht
        ·rename_i b ms hm e
         injection ht with ht;subst ht
         rw[e] at hs
         exact val_bool hs
        ·cases ht
    ·cases h
end
end Go.Proofs.YtibidhcmenljoaaDoor.V
namespace Go.Proofs.YtibidhcmenljoaaDoor.V
open Go
section
variable {P:Program} {X:Ctx} {E:Env} {σ:St} {A0:Array Value} {a:Act} {w:World} {R:Type}
theorem rf_of_ow {A B:Nat->Prop} (hA:∀b,A b->B b):∀ {t:Ty} {v:t.den} {cs:List Value} {bs:List (Option Nat)},bs.length=t.nl->(∀b,some b∈bs->B b)->Ow w A t v cs bs->Rf w B t v cs:=by
 intro t
 induction t with
 |int k=>intro v cs bs _ _ h;exact h
 |bool=>intro v cs bs _ _ h;exact h
 |str=>intro v cs bs _ _ h;exact h
 |unit=>intro v cs bs _ _ h;exact h
 |pair a b iha ihb=>
  intro v cs bs hl hb h
  obtain⟨c1,c2,h1,h2,h3⟩:=h
  have hl':bs.length=a.nl+b.nl:=hl
  exact⟨c1,c2,h1,iha (by rw[BJ];omega) (fun b hm=>hb b (List.mem_of_mem_take hm)) h2,ihb (by rw[List.length_drop];omega) (fun b hm=>hb b (List.mem_of_mem_drop hm)) h3⟩
 |st t ih=>intro v cs bs hl hb h;exact ih (bs:=bs) hl hb h
 |arr n t ih=>
  intro v cs bs _ _ h
  obtain⟨h1,h2,h3,h4⟩:=h
  exact⟨h1,h2,fun i x hx=>(h3 i x hx).mono hA (fun _ _=>rfl),h4⟩
 |sl e t ih=>
  intro v cs bs hl hb h
  obtain⟨cap,css,h1,h2,h3⟩:=h
  refine⟨_,cap,css,h1,h2.1,fun i x hx=>(h3 i x hx).mono hA (fun _ _=>rfl),fun hne=>?_,ownsRow_cap h2⟩
  cases hd:bs.headD none with
  |none=>
   rw[hd] at h2
   rcases h2.2 with⟨_,e2⟩|⟨g,cap',cur,e1,_,_,hle,_⟩
   ·exfalso
    have h4:=h2.1
    have e3:List.length (α:=t.den) v=0:=e2
    apply hne
    apply B3.1
    rw[h4,e3]
    simp
   ·simp at e1
  |some g=>
   refine⟨g,0,rfl,hb g ?_,ownsAt (by rw[hd] at h2;exact h2)⟩
   cases bs with
   |nil=>simp at hd
   |cons x l=>simp at hd;subst hd;exact A9
end
end Go.Proofs.YtibidhcmenljoaaDoor.V
namespace Go.Proofs.YtibidhcmenljoaaDoor.V
open Go
section
variable {P:Program} {X:Ctx} {E:Env} {σ:St} {A0:Array Value} {a:Act} {w:World} {o:Oper} {R:Type}
theorem guardK_nat {b:Bool} {k:Option R} {r:R} (h:guardK b k=some r):k=some r/\∀ (R':Type) (k':Option R'),guardK b k'=k':=by
 obtain⟨h1,h2⟩:=guardK_some h
 exact⟨h2,fun R' k'=>by rw[h1];rfl⟩
theorem intBin_nat {op:BinOp} {q:IntKind} {x y:Int} {kk:(t:Ty)->t.den->Option R} {r:R} (h:intBin op q x y kk=some r):∃t v,kk t v=some r/\∀ (R':Type) (k':(t:Ty)->t.den->Option R'),intBin op q x y k'=k' t v:=by
 cases op<;>simp only[intBin] at h ⊢<;>first|(cases h;done)|exact⟨_,_,h,fun _ _=>rfl⟩|(obtain⟨h1,h2⟩:=guardK_nat h;exact⟨_,_,h1,fun R' k'=>h2 R' _⟩)
theorem shBin_nat {op:BinOp} {q:IntKind} {x y:Int} {kk:(t:Ty)->t.den->Option R} {r:R} (h:shBin op q x y kk=some r):∃t v,kk t v=some r/\∀ (R':Type) (k':(t:Ty)->t.den->Option R'),shBin op q x y k'=k' t v:=by
 unfold shBin at h
 obtain⟨h1,h2⟩:=guardK_nat h
 cases op<;>simp only[] at h1<;>first|(cases h1;done)|exact⟨_,_,h1,fun R' k'=>h2 R' _⟩
theorem strBin_nat {op:BinOp} {x y:List UInt8} {kk:(t:Ty)->t.den->Option R} {r:R} (h:strBin op x y kk=some r):∃t v,kk t v=some r/\∀ (R':Type) (k':(t:Ty)->t.den->Option R'),strBin op x y k'=k' t v:=by
 cases op<;>simp only[strBin] at h ⊢<;>first|(cases h;done)|exact⟨_,_,h,fun _ _=>rfl⟩|(obtain⟨h1,h2⟩:=guardK_nat h;exact⟨_,_,h1,fun R' k'=>h2 R' _⟩)
theorem binK_nat {tt:Option Ty} {op:BinOp} {x y:Slot} {kk:(t:Ty)->t.den->Option R} {r:R} (h:binK tt op x y kk=some r):∃t v,kk t v=some r/\∀ (R':Type) (k':(t:Ty)->t.den->Option R'),binK tt op x y k'=k' t v:=by
 unfold binK at h
 split at h
 ·rename_i q a m1 h1 q' b m2 h2
  cases op<;>simp only[] at h<;>first
   |(obtain⟨t,v,g1,g2⟩:=shBin_nat h;exact⟨t,v,g1,fun R' k'=>g2 R' k'⟩)
   |(cases hq:(q==q') with
    |false=>rw[hq] at h;cases h
    |true=>
     rw[hq] at h
     simp only[cond_true] at h
     obtain⟨t,v,g1,g2⟩:=intBin_nat h
     exact⟨t,v,g1,fun R' k'=>by simp only[binK,hq,cond_true];exact g2 R' k'⟩)
 ·obtain⟨t,v,g1,g2⟩:=strBin_nat h
  exact⟨t,v,g1,fun R' k'=>g2 R' k'⟩
 ·rename_i x hx y hy hn1 hn2
  split at h
  ·rename_i t
   split at h
   ·rename_i a m1 b m2 e1 e2
    cases hc:t.comparable with
    |false=>rw[hc] at h;cases h
    |true=>
     rw[hc] at h
     simp only[cond_true] at h
     have f1:=cast?_some e1
     have f2:=cast?_some e2
     subst f1;subst f2
     cases t<;>first
      |(exact(hn1 _ _ _ _ _ _ rfl rfl).elim)
      |(exact(hn2 _ _ _ _ rfl rfl).elim)
      |(cases op<;>simp only[] at h<;>first|(cases h;done)|exact⟨_,_,h,fun R' k'=>by simp only[binK,e1,e2,hc,cond_true]⟩)
   ·cases h
  ·cases h
 ·cases h
theorem unK_nat {op:UnOp} {x:Slot} {kk:(t:Ty)->t.den->Option R} {r:R} (h:unK op x kk=some r):∃t v,kk t v=some r/\∀ (R':Type) (k':(t:Ty)->t.den->Option R'),unK op x k'=k' t v:=by
 unfold unK at h
 split at h
 ·exact⟨_,_,h,fun _ _=>rfl⟩
 ·exact⟨_,_,h,fun _ _=>rfl⟩
 ·exact⟨_,_,h,fun _ _=>rfl⟩
 ·cases h
theorem idxK_nat {α:Type} {xs:List α} {i:Slot} {k:Nat->α->Option R} {r:R} (h:idxK xs i k=some r):∃n x,k n x=some r/\∀ (R':Type) (k':Nat->α->Option R'),idxK xs i k'=k' n x:=by
 unfold idxK at h
 split at h
 ·rename_i q i ms hm
  obtain⟨h1,h2⟩:=guardK_nat h
  cases hx:xs[Int.toNat i]? with
  |none=>rw[hx] at h1;cases h1
  |some x=>
   rw[hx] at h1
   exact⟨_,x,h1,fun R' k'=>by simp only[idxK];rw[h2,hx];rfl⟩
 ·cases h
theorem boundK_nat {n:Nat} {lo hi:Option Slot} {k:Nat->Nat->Option R} {r:R} (h:boundK n lo hi k=some r):∃l m,k l m=some r/\∀ (R':Type) (k':Nat->Nat->Option R'),boundK n lo hi k'=k' l m:=by
 unfold boundK at h
 split at h
 ·exact⟨_,_,h,fun _ _=>rfl⟩
 ·obtain⟨h1,h2⟩:=guardK_nat h;exact⟨_,_,h1,fun R' k'=>h2 R' _⟩
 ·obtain⟨h1,h2⟩:=guardK_nat h;exact⟨_,_,h1,fun R' k'=>h2 R' _⟩
 ·obtain⟨h1,h2⟩:=guardK_nat h;exact⟨_,_,h1,fun R' k'=>h2 R' _⟩
 ·cases h
theorem setK_nat:∀ {t:Ty} {v:t.den} {ms:List Nat} {p:List Sel} {x:Val} {k:t.den->List Nat->Option R} {r:R},setK t v ms p x k=some r->∃v' ms',k v' ms'=some r/\∀ (R':Type) (k':t.den->List Nat->Option R'),setK t v ms p x k'=k' v' ms':=by
 intro t
 have nilc:∀ {t:Ty} {v:t.den} {ms:List Nat} {x:Val} {k:t.den->List Nat->Option R} {r:R},setK t v ms [] x k=some r->∃v' ms',k v' ms'=some r/\∀ (R':Type) (k':t.den->List Nat->Option R'),setK t v ms [] x k'=k' v' ms':=by
  intro t v ms x k r h
  have e:∀ (R':Type) (k':t.den->List Nat->Option R'),setK t v ms [] x k'=(match cast? t x with
    |some (v,ms)=>k' v ms
    |none=>none):=by intro R' k';cases t<;>rfl
  rw[e] at h
  cases hc:cast? t x with
  |none=>rw[hc] at h;cases h
  |some q=>obtain⟨v',ms'⟩:=q;rw[hc] at h;exact⟨v',ms',h,fun R' k'=>by rw[e,hc]⟩
 induction t with
 |st t ih=>
  intro v ms p x k r h
  cases p with
  |nil=>exact nilc h
  |cons s p=>exact ih (p:=s::p) h
 |pair a b iha ihb=>
  intro v ms p x k r h
  cases p with
  |nil=>exact nilc h
  |cons s p=>
   cases s with
   |fst=>
    simp only[setK] at h
    obtain⟨v',ms',h1,h2⟩:=iha h
    exact⟨_,_,h1,fun R' k'=>by simp only[setK];rw[h2]⟩
   |snd=>
    simp only[setK] at h
    obtain⟨v',ms',h1,h2⟩:=ihb h
    exact⟨_,_,h1,fun R' k'=>by simp only[setK];rw[h2]⟩
   |ix i=>simp[setK] at h
 |arr n t ih=>
  intro v ms p x k r h
  cases p with
  |nil=>exact nilc h
  |cons s p=>
   cases s with
   |ix i=>
    simp only[setK] at h
    cases hy:(v:List t.den)[i]? with
    |none=>rw[hy] at h;cases h
    |some y=>
     rw[hy] at h
     simp only[AV] at h
     obtain⟨v',ms',h1,h2⟩:=ih h
     exact⟨_,_,h1,fun R' k'=>by simp only[setK];rw[hy];simp only[AV];rw[h2]⟩
   |fst=>simp[setK] at h
   |snd=>simp[setK] at h
 |_=>
  intro v ms p x k r h
  cases p with
  |nil=>exact nilc h
  |cons s p=>simp[setK] at h
theorem partsK_nat {t:Ty}:∀ {l:List (Nat×Slot)} {x:Val} {k:Val->Option R} {r:R},partsK t l x k=some r->∃y,k y=some r/\∀ (R':Type) (k':Val->Option R'),partsK t l x k'=k' y:=by
 intro l
 induction l with
 |nil=>intro x k r h;exact⟨x,h,fun _ _=>rfl⟩
 |cons p l ih=>
  intro x k r h
  obtain⟨i,s⟩:=p
  unfold partsK at h
  split at h
  ·rename_i u
   cases hp:fieldPath u i with
   |none=>rw[hp] at h;cases h
   |some p=>
    simp only[hp] at h
    cases hc:coe (fieldTy u p) s with
    |none=>rw[hc] at h;cases h
    |some q=>
     obtain⟨v,ms⟩:=q
     simp only[hc] at h
     obtain⟨v',ms',h1,h2⟩:=setK_nat h
     obtain⟨y,h3,h4⟩:=ih h1
     exact⟨y,h3,fun R' k'=>by rw[partsK];simp only[hp,hc];rw[h2];exact h4 R' k'⟩
  ·rename_i n u
   cases hc:coe u s with
   |none=>rw[hc] at h;cases h
   |some q=>
    obtain⟨v,ms⟩:=q
    simp only[hc] at h
    cases hi:decide (i<n) with
    |false=>rw[hi] at h;cases h
    |true=>
     simp only[hi,cond_true] at h
     obtain⟨v',ms',h1,h2⟩:=setK_nat h
     obtain⟨y,h3,h4⟩:=ih h1
     exact⟨y,h3,fun R' k'=>by rw[partsK];simp only[hc,hi,cond_true];rw[h2];exact h4 R' k'⟩
  ·cases h
theorem listK_nat {t:Ty}:∀ {l:List (Nat×Slot)} {xs:List t.den} {ts:List Nat} {k:List t.den->List Nat->Option R} {r:R},listK t l xs ts k=some r->∃ys us,k ys us=some r/\∀ (R':Type) (k':List t.den->List Nat->Option R'),listK t l xs ts k'=k' ys us:=by
 intro l
 induction l with
 |nil=>intro xs ts k r h;exact⟨xs,ts,h,fun _ _=>rfl⟩
 |cons p l ih=>
  intro xs ts k r h
  obtain⟨i,s⟩:=p
  unfold listK at h
  cases hc:coe t s with
  |none=>rw[hc] at h;cases h
  |some q=>
   obtain⟨v,ms⟩:=q
   simp only[hc] at h
   cases hi:decide (i<xs.length) with
   |false=>rw[hi] at h;cases h
   |true=>
    simp only[hi,cond_true] at h
    obtain⟨ys,us,h3,h4⟩:=ih h
    exact⟨ys,us,h3,fun R' k'=>by rw[listK];simp only[hc,hi,cond_true];exact h4 R' k'⟩
theorem stepK_nat (T:Tabs) {k:St->Option R} {r:R} (hfix:fixK T o.op=true) (hnc:∀f args ats,o.op≠ .call ⟨.value (.func f),args,ats⟩) (h:stepK T o σ k=some r):∃σ',k σ'=some r/\∀ (R':Type) (k':St->Option R'),stepK T o σ k'=k' σ':=by
 cases ho:o.op with
 |move x=>
  simp only[stepK,ho] at h ⊢
  cases hs:opd σ x<;>simp only[hs] at h ⊢<;>first|(cases h;done)|exact⟨_,h,fun _ _=>rfl⟩|(split at h<;>first|(cases h;done)|exact⟨_,h,fun _ _=>by simp only[*]⟩)
 |assign x=>
  simp only[stepK,ho] at h ⊢
  cases hs:opd σ x<;>simp only[hs] at h ⊢<;>first|(cases h;done)|exact⟨_,h,fun _ _=>rfl⟩|(split at h<;>first|(cases h;done)|exact⟨_,h,fun _ _=>by simp only[*]⟩)
 |pick c x y=>
  simp only[stepK,ho] at h ⊢
  split at h<;>first|(cases h;done)|exact⟨_,h,fun _ _=>by simp only[*]⟩
 |load t x=>
  simp only[stepK,ho] at h ⊢
  cases ht:T.T t with
  |none=>rw[ht] at h;cases h
  |some t=>
   simp only[ht] at h ⊢
   obtain⟨y,hm,h1,h2,_⟩:=readK_nat h
   cases hb:Ty.beq y.t t with
   |false=>rw[hb] at h1;cases h1
   |true=>simp only[hb,cond_true] at h1;exact⟨_,h1,fun R' k'=>by rw[h2];simp only[hb,cond_true]⟩
 |nilCheck x=>
  simp only[stepK,ho] at h ⊢
  cases hs:opd σ x<;>simp only[hs] at h ⊢<;>first|(cases h;done)|exact⟨_,h,fun _ _=>rfl⟩
 |binOp op t x y yt=>
  simp only[stepK,ho] at h ⊢
  obtain⟨t,v,h1,h2⟩:=binK_nat h
  exact⟨_,h1,fun R' k'=>by rw[h2]⟩
 |unOp op t x=>
  simp only[stepK,ho] at h ⊢
  obtain⟨t,v,h1,h2⟩:=unK_nat h
  exact⟨_,h1,fun R' k'=>by rw[h2]⟩
 |convert s d x=>
  simp only[stepK,ho] at h ⊢
  split at h
  ·rename_i e1 e2 e3
   exact⟨_,h,fun _ _=>by simp only[e1,e2,e3]⟩
  ·rename_i e1 e2 e3
   exact⟨_,h,fun _ _=>by simp only[e1,e2,e3]⟩
  ·rename_i e1 e2
   split at h
   ·rename_i n ms hm e3
    cases hu:σ.us (ms.headD 0) with
    |false=>rw[hu] at h;cases h
    |true=>simp only[hu,cond_true] at h;exact⟨_,h,fun _ _=>by simp only[e1,e2,e3,hu,cond_true]⟩
   ·rename_i e3
    exact⟨_,h,fun _ _=>by simp only[e1,e2,e3]⟩
   ·cases h
  ·cases h
 |slice t x lo hi mx=>
  cases mx with
  |some m=>simp[stepK,ho] at h
  |none=>
   simp only[stepK,ho] at h ⊢
   split at h
   ·rename_i e1
    split at h
    ·rename_i e2
     obtain⟨l,m,h1,h2⟩:=boundK_nat h
     exact⟨_,h1,fun R' k'=>by first|rw[h2]|(simp only[e1,e2];rw[h2])⟩
    ·cases h
   ·rename_i e t e1
    split at h
    ·rename_i y hm e2
     cases hc:cast? (.sl e t) y with
     |none=>rw[hc] at h;cases h
     |some q=>
      obtain⟨s,ms⟩:=q
      simp only[hc] at h
      obtain⟨l,m,h1,h2⟩:=boundK_nat h
      cases lo with
      |none=>
       simp only at h1
       cases hu:σ.us (ms.headD 0) with
       |false=>rw[hu] at h1;cases h1
       |true=>simp only[hu,cond_true] at h1;exact⟨_,h1,fun R' k'=>by simp only[e1,e2,hc];rw[h2];simp only[hu,cond_true]⟩
      |some z=>
       simp only at h1
       cases hu:σ.us (ms.headD 0) with
       |false=>rw[hu] at h1;cases h1
       |true=>simp only[hu,cond_true] at h1;exact⟨_,h1,fun R' k'=>by simp only[e1,e2,hc];rw[h2];simp only[hu,cond_true]⟩
    ·cases h
   ·cases h
 |fieldAddr s x j=>
  simp only[stepK,ho] at h ⊢
  split at h
  ·rename_i u e1
   cases hp:fieldPath u j with
   |none=>rw[hp] at h;cases h
   |some p=>
    simp only[hp] at h
    split at h
    ·rename_i id r' q t e2
     cases hb:Ty.beq t (.st u)&& !p.isEmpty with
     |false=>rw[hb] at h;cases h
     |true=>simp only[hb,cond_true] at h;exact⟨_,h,fun R' k'=>by simp only[e1,hp,e2,hb,cond_true]⟩
    ·rename_i hm τ i z q t e2
     cases hb:Ty.beq t (.st u)&& !p.isEmpty with
     |false=>rw[hb] at h;cases h
     |true=>simp only[hb,cond_true] at h;exact⟨_,h,fun R' k'=>by simp only[e1,hp,e2,hb,cond_true]⟩
    ·rename_i τ y e2
     cases hc:cast? (.st u) y with
     |none=>rw[hc] at h;cases h
     |some q=>
      obtain⟨v,ms⟩:=q
      simp only[hc] at h
      obtain⟨z,h1,h2⟩:=getK_nat h
      exact⟨_,h1,fun R' k'=>by simp only[e1,hp,e2,hc];rw[h2]⟩
    ·cases h
  ·cases h
 |field s x j=>
  simp only[stepK,ho] at h ⊢
  split at h
  ·rename_i u e1
   cases hp:fieldPath u j with
   |none=>rw[hp] at h;cases h
   |some p=>
    simp only[hp] at h
    split at h
    ·rename_i y hm e2
     cases hc:cast? (.st u) y with
     |none=>rw[hc] at h;cases h
     |some q=>
      obtain⟨v,ms⟩:=q
      simp only[hc] at h
      obtain⟨z,h1,h2⟩:=getK_nat h
      exact⟨_,h1,fun R' k'=>by simp only[e1,hp,e2,hc];rw[h2]⟩
    ·cases h
  ·cases h
 |indexAddr s x i=>
  simp only[stepK,ho] at h ⊢
  split at h
  ·rename_i n u e1
   split at h
   ·rename_i id r' q t e2
    cases hb:Ty.beq t (.arr n u) with
    |false=>rw[hb] at h;cases h
    |true=>
     simp only[hb,cond_true] at h
     split at h
     ·rename_i e3
      obtain⟨h1,h2⟩:=guardK_nat h
      exact⟨_,h1,fun R' k'=>by simp only[e1,e2,hb,cond_true,e3];rw[h2]⟩
     ·cases h
   ·rename_i τ y e2
    cases hc:cast? (.arr n u) y with
    |none=>rw[hc] at h;cases h
    |some q=>
     obtain⟨v,ms⟩:=q
     simp only[hc] at h
     cases hb:σ.us τ&& !(τ==1) with
     |false=>rw[hb] at h;cases h
     |true=>
      simp only[hb,cond_true] at h
      obtain⟨z1,z2,h1,h2⟩:=idxK_nat h
      exact⟨_,h1,fun R' k'=>by simp only[e1,e2,hc,hb,cond_true];rw[h2]⟩
   ·cases h
  ·rename_i e u e1
   split at h
   ·rename_i y hm e2
    cases hc:cast? (.sl e u) y with
    |none=>rw[hc] at h;cases h
    |some q=>
     obtain⟨v,ms⟩:=q
     simp only[hc] at h
     obtain⟨z1,z2,h1,h2⟩:=idxK_nat h
     cases hat:atHome σ e u (ms.headD 0) hm with
     |some hh=>simp only[hat] at h1;exact⟨_,h1,fun R' k'=>by simp only[e1,e2,hc];rw[h2];simp only[hat]⟩
     |none=>
      simp only[hat] at h1
      cases hu:σ.us (ms.headD 0) with
      |false=>rw[hu] at h1;cases h1
      |true=>simp only[hu,cond_true] at h1;exact⟨_,h1,fun R' k'=>by simp only[e1,e2,hc];rw[h2];simp only[hat,hu,cond_true]⟩
   ·cases h
  ·cases h
 |index s x i=>
  simp only[stepK,ho] at h ⊢
  split at h
  ·rename_i e1
   split at h
   ·rename_i e2
    obtain⟨z1,z2,h1,h2⟩:=idxK_nat h
    exact⟨_,h1,fun R' k'=>by first|rw[h2]|(simp only[e1,e2];rw[h2])⟩
   ·cases h
  ·rename_i n u e1
   split at h
   ·rename_i y hm e2
    cases hc:cast? (.arr n u) y with
    |none=>rw[hc] at h;cases h
    |some q=>
     obtain⟨v,ms⟩:=q
     simp only[hc] at h
     cases hb:u.nl==0 with
     |false=>rw[hb] at h;cases h
     |true=>
      simp only[hb,cond_true] at h
      obtain⟨z1,z2,h1,h2⟩:=idxK_nat h
      exact⟨_,h1,fun R' k'=>by simp only[e1,e2,hc,hb,cond_true];rw[h2]⟩
   ·cases h
  ·cases h
 |extract x i=>
  simp only[stepK,ho] at h ⊢
  split at h
  ·rename_i l e1
   cases hi:l[i]? with
   |none=>rw[hi] at h;cases h
   |some v=>simp only[hi] at h;exact⟨_,h,fun R' k'=>by simp only[e1,hi]⟩
  ·cases h
 |makeFunc fn fi ca=>
  cases fn with
  |func f=>
   simp only[stepK,ho] at h ⊢
   cases hc:capsOf ((fi++ca).toList.map (opd σ)) with
   |none=>rw[hc] at h;cases h
   |some l=>rw[hc] at h;exact⟨_,h,fun R' k'=>rfl⟩
  |_=>simp[stepK,ho] at h
 |build t ps=>
  simp only[stepK,ho] at h ⊢
  cases ht:T.T t with
  |none=>rw[ht] at h;cases h
  |some t=>
   simp only[ht] at h ⊢
   cases hb:t.agg with
   |false=>rw[hb] at h;cases h
   |true=>
    simp only[hb,cond_true] at h ⊢
    obtain⟨y,h1,h2⟩:=partsK_nat h
    exact⟨_,h1,fun R' k'=>by rw[h2]⟩
 |call c=>
  obtain⟨callee,args,ats⟩:=c
  cases callee with
  |builtin b=>
   cases b with
   |len=>
    simp only[stepK,ho] at h ⊢
    split at h
    ·rename_i e1 e2
     exact⟨_,h,fun R' k'=>by simp only[e1,e2]⟩
    ·rename_i e t y hm e1 e2
     cases hc:cast? (.sl e t) y with
     |none=>rw[hc] at h;cases h
     |some q=>obtain⟨v,ms⟩:=q;simp only[hc] at h;exact⟨_,h,fun R' k'=>by simp only[e1,e2,hc]⟩
    ·cases h
   |min=>
    simp only[stepK,ho] at h ⊢
    split at h
    ·rename_i e1;exact⟨_,h,fun R' k'=>by simp only[e1]⟩
    ·cases h
   |max=>
    simp only[stepK,ho] at h ⊢
    split at h
    ·rename_i e1;exact⟨_,h,fun R' k'=>by simp only[e1]⟩
    ·cases h
   |_=>simp[fixK,ho] at hfix
  |value x=>
   cases x with
   |func f=>exact absurd ho (hnc f args ats)
   |_=>simp[fixK,ho] at hfix
  |invoke x n=>simp[fixK,ho] at hfix
 |_=>simp[fixK,ho] at hfix
end
end Go.Proofs.YtibidhcmenljoaaDoor.V
namespace Go.Proofs.YtibidhcmenljoaaDoor.V
open Go
section
variable {P:Program} {X:Ctx} {E:Env} {σ:St} {A0:Array Value} {a:Act} {w:World} {o:Oper} {R:Type}
theorem step_slice_slot (T:Tabs) (hT:TabOk P T.T) {s:TypeId} {x:Operand} {lo hi:Option Operand} (ho:o.op= .slice s x lo hi none) (hno:lo=none\/∀y hm,opd σ x= .val y hm->noneAl σ y.ms=true) {k:St->Option R} {r:R} (h:stepK T o σ k=some r) (hr:RelE X E σ a.tmps w):StepSlot P X E σ o a w (fun σ'=>k σ'=some r):=by
 simp only[stepK,ho] at h
 have hnt:0<σ.nt:=by have:=hr.nt2;omega
 split at h
 ·rename_i hTs
  obtain⟨m,ht⟩:=hT.ty s _ hTs
  split at h
  ·rename_i l ms hm ex
   obtain⟨i,j,h2,hij,hjn,hcut,_,hb⟩:=boundK_ok (P:=P) hr h
   have hv:=val_str (slot_of_opd hr ex)
   rw[hcut _ _ rfl] at h2
   refine stepSlot_value (v:=.string ⟨(((l:List UInt8).take j).drop i).toArray⟩) (s:=.val ⟨.str,((l:List UInt8).take j).drop i,[]⟩ none) (fun w1 hx1=>?_) (slot_str _ none) h2
   have hb':=hb false _ (AW _)
   simp only[execOp,ho,hv,AQ,B5]
   rw[run_sliceAt_string _ _ _ _ _ _ (tyB_str ht)]
   have hsize:(⟨(l:List UInt8).toArray⟩:ByteArray).size=(l:List UInt8).length:=rfl
   simp only[Instr.slice,AQ,run_underlying (tyB_str ht),AI,hsize,hb',AT,Option.isSome_none,Am,if_false]
   rw[ByteArray.extract_mk,BN]
  ·cases h
 ·rename_i e t hTs
  obtain⟨m,ht⟩:=hT.ty s _ hTs
  obtain⟨m2,hu,he⟩:=tyB_sl ht
  have hel:P.elem s=e:=by simp[Program.elem,hu]
  have hsz:∀w:World,(sizeOf e).run P w= .ok t.size w:=fun w=>run_sizeOf_ty he w
  have hpos:0<t.size:=by have:=tyB_ok ht;simp[Ty.ok] at this;exact this.2
  have hs:=slot_opd hr x
  revert hs h
  cases ex:opd σ x with
  |val y hm=>
   intro h hs
   cases hc:cast? (.sl e t) y with
   |none=>simp only[hc] at h;cases h
   |some q=>
    obtain⟨v,ms⟩:=q
    simp only[hc] at h
    have e':=cast?_some hc
    subst e'
    obtain⟨i,j,h2,hij,hjn,hcut,hlo,hb⟩:=boundK_ok (P:=P) hr h
    obtain⟨cs,⟨c,ec,hleaf⟩,hv,hms⟩:=hs
    subst ec
    obtain⟨ad,cap,hcc⟩:∃ad cap,c= .slice ad (v:List t.den).length cap:=by obtain⟨_,ad,cap,hcc,_⟩:=hleaf;exact⟨ad,cap,hcc⟩
    subst hcc
    have hcap:(v:List t.den).length<=cap->∀w1,Ext w w1->(execOp a.eval o).run P w1= .ok (.value (.slice (if cap=i then ad else ad.map (·.add (i*t.size))) (j-i) (cap-i))) w1:=by
     intro hcap w1 _
     have hb':=hb true cap hcap
     simp only[execOp,ho,hv,toVal,Ty.agg,Am,if_false,List.headD_cons,AQ,B5]
     rw[run_sliceAt_slice _ _ _ _ _ _ (by rw[hel];exact hu)]
     simp only[Instr.slice,AQ,run_underlying hu,AI,hb',hsz,AT]
    cases lo with
    |none=>
     have hi0:=hlo rfl
     subst hi0
     simp only at h2
     cases hus:σ.us (ms.headD 0) with
     |false=>rw[hus] at h2;simp only[cond_false] at h2;cases h2
     |true=>
     rw[hus] at h2
     simp only[cond_true] at h2
     have hct:=hcut t.den (v:List t.den) rfl
     simp only[B5,List.drop_zero] at hct
     rw[hct] at h2
     have hle:(v:List t.den).length<=cap:=by
      obtain⟨_,_,_,q1,_,_,_,q5⟩:=leaf_row hr hleaf hus
      simp only[Value.slice.injEq,true_and] at q1
      rw[q1.2];exact q5
     refine stepSlot_value (s:=.val ⟨.sl e t,(v:List t.den).take j,ms⟩ hm) (hcap hle) ⟨_,⟨_,rfl,hleaf.take hjn⟩,?_,hms⟩ h2
     have hadd:ad.map (·.add (0*t.size))=ad:=by cases ad<;>simp[Addr.add]
     rw[hadd]
     simp[toVal,Ty.agg]
    |some lo'=>
     simp only at h2
     cases hus:σ.us (ms.headD 0) with
     |false=>rw[hus] at h2;simp only[cond_false] at h2;cases h2
     |true=>
      rw[hus] at h2
      simp only[cond_true] at h2
      have hna:noneAl σ ms=true:=(hno.resolve_left (by simp)) _ hm ex
      rw[freeze_noop hna] at h2
      have hms1:ms=[ms.headD 0]:=by
       have:ms.length=1:=hms
       match ms,this with
       |[τ],_=>rfl
      have hnal:ms.headD 0∉σ.al:=noneAl_iff.1 hna _ (by rw[hms1];simp)
      obtain⟨_,_,_,q1,_,_,_,q5⟩:=leaf_row hr hleaf hus
      simp only[Value.slice.injEq,true_and] at q1
      have hle:(v:List t.den).length<=cap:=by rw[q1.2];exact q5
      rw[hcut t.den (v:List t.den) rfl] at h2
      exact stepSlot_value (s:=.val ⟨.sl e t,((v:List t.den).take j).drop i,[0]⟩ none) (hcap hle) ⟨_,⟨_,rfl,leaf_cut hr hleaf hus hnal hij hjn hpos⟩,rfl,rfl⟩ h2
  |_=>intro h;simp at h
 ·cases h
def slotUpon (P:Program) (X:Ctx) (E:Env) (σ:St) (w:World) (s:Slot):Result Next->Prop
 | .ok (.value u) w2=>Ext w w2/\SlotOk w2 (Fz X E σ w2) E σ s u
 | .ok (.enter f args) w2=>w2=w/\Calls P f args w (fun e w3=>∃v,e= .returned v/\Ext w w3/\SlotOk w3 (Fz X E σ w3) E σ s v)
 |_=>False
theorem res0_ok {AF B:Nat->Prop} (hnt:0<σ.nt) (hz:0∉σ.al):∀ {rs:List (Ty×Bool)} {y:Tup (resOf rs)} {vs:List Value} {br:List (List (Option Nat))},ResOk w AF rs y vs br->(∀b∈flatB br,B b)->(sharesR rs=false\/∀b,AF b->B b)->
  (resVals0 rs y).length=vs.length/\∀ (i:Nat) x u,(resVals0 rs y)[i]?=some x->vs[i]?=some u->ValOk w B E σ x u:=by
 intro rs
 induction rs with
 |nil=>
  intro y vs br h _ _
  cases vs with
  |nil=>exact⟨rfl,fun i x u h=>by simp[resVals0] at h⟩
  |cons v vs=>cases br<;>exact h.elim
 |cons p rs ih=>
  intro y vs br h hB hA
  obtain⟨t,own⟩:=p
  cases vs with
  |nil=>cases br<;>exact h.elim
  |cons u vs=>
   cases br with
   |nil=>exact h.elim
   |cons bs br=>
    obtain⟨⟨cs,hu,hc⟩,h2⟩:=h
    rw[flatB_cons] at hB
    have hA2:sharesR rs=false\/∀b,AF b->B b:=hA.imp (fun h=>by simp only[sharesR,Af] at h;exact h.2) id
    obtain⟨k1,k2⟩:=ih (y:=Tup.tl y) h2 (fun b hb=>hB b (AN _ hb)) hA2
    have hrf:Rf w B t (Tup.hd y) cs:=by
     cases own with
     |true=>
      obtain⟨hv,hl⟩:=hc
      have hd:t.deep=false\/∀b,AF b->B b/\w.heap[b]?=w.heap[b]?:=hA.imp (fun h=>by simp only[sharesR,Af] at h;exact h.1.2) (fun h b hb=>⟨h b hb,rfl⟩)
      exact rf_of_ow (fun _ h=>h) hl (fun b hb=>hB b (AO _ (Ad.2 ⟨some b,hb,rfl⟩))) (hv.move (A':=B) hl (fun _ _=>rfl) hd)
     |false=>
      obtain⟨hv,hb⟩:=hc
      rcases hA with hA|hA
      ·simp only[sharesR,Af,Bool.not_false,Bool.true_and,BF,beq_iff_eq] at hA
       exact rf_any hA.1.1 hv
      ·exact hv.mono hA (fun _ _=>rfl)
    refine⟨by simp[resVals0,k1],fun i x u' hx hu'=>?_⟩
    cases i with
    |zero=>
     simp only[resVals0,List.getElem?_cons_zero,AS] at hx hu'
     subst hx;subst hu'
     exact⟨cs,rv_of_rf hnt hz hrf,hu,by simp⟩
    |succ i=>exact k2 i x u' (by simpa[resVals0] using hx) (by simpa using hu')
theorem outs_ro {A:Nat->Prop}:∀ {ks:List AK} {y:Tup (outsOf ks)} {us:List Value} {fs:List Foot} {bo:List (List (Option Nat))},roOnly ks=true->OutsOk w A ks y us fs bo->flatB bo=[]:=by
 intro ks
 induction ks with
 |nil=>intro y us fs bo _ h;cases us<;>cases fs<;>cases bo<;>first|rfl|exact h.elim
 |cons c r ih=>
  intro y us fs bo hro h
  cases us with
  |nil=>cases fs<;>cases bo<;>exact h.elim
  |cons u us=>
   cases fs with
   |nil=>cases bo<;>exact h.elim
   |cons f fs=>
    cases bo with
    |nil=>exact h.elim
    |cons b bo=>
     have hb:b=[]:=by
      have h1:=h.1
      cases c with
      |ro t=>exact h1
      |pin t=>exact h1
      |clo g n ks=>exact h1
      |_=>simp[roOnly] at hro
     have hro':roOnly r=true:=by cases c<;>simp[roOnly] at hro<;>exact hro
     subst hb
     show flatB bo=[]
     exact ih hro' h.2
theorem call_make {fn:Fn} {f:FuncId} (hm:Meets P f fn) (hbx:fn.s.bx=false) (hro:roOnly fn.s.args=true) {args:List Operand} {x:fn.s.In} {y:fn.s.Out} (hno:shares fn.s=true->noneAl σ (roToks σ fn.s.args (args.map (opd σ)))=true)
  (h:lendK fn.s.args (shares fn.s) (args.map (opd σ)) σ (fun x σ'=>some (x,σ'))=some (x,σ)) (hy:fn.f x=some y) (hr:RelE X E σ a.tmps w):
  Calls P f (args.map a.eval).toArray w fun e w3=>∃v,e= .returned v/\Ext w w3/\SlotOk w3 (Fz X E σ w3) E σ (resSlot (resVals0 fn.s.res (Tup.fst (a:=resOf fn.s.res) (b:=outsOf fn.s.args) y))) v:=by
 obtain⟨fs,A,pin,hpre,hA⟩:=lent_ro (us:=args.map a.eval) hro hno hr (by simp) (fun i s u q1 q2=>by
  rw[BH] at q1 q2
  cases hz:args[i]? with
  |none=>rw[hz] at q1;simp at q1
  |some z=>
   rw[hz] at q1 q2
   simp only[BL,AS] at q1 q2
   subst q1;subst q2
   exact slot_opd hr z) h
 refine(hm x y hy w A pin _ fs hpre).mono fun e w3 he=>?_
 cases e with
 |panicked c=>exact he.elim
 |outgrown=>exact he.elim
 |returned v=>
  obtain⟨vs,rfl,hp⟩:=he.1 hbx
  obtain⟨bo,br,hnd,hrets,hres,houts⟩:=hp.ex
  have hext:=hp.fr.toExt (foot_ro hro hpre.args)
  have hrow:=rows_ro hro hpre.args
  have hbo:=outs_ro hro houts
  have hw0:X.w0.heap.size<=w.heap.size:=hr.fr.size
  have hfresh:∀b,w.heap.size<=b->b<w3.heap.size->Fz X E σ w3 b:=fun b h1 h2=>
   ⟨hr.new b (Ao hw0 h1),h2,fun ho=>by have:=(hr.lt b ho).1;omega⟩
  refine⟨_,rfl,hext,?_⟩
  obtain⟨k1,k2⟩:=res0_ok (w:=w3) (E:=E) (σ:=σ) (B:=Fz X E σ w3) (by have:=hr.nt2;omega) (fun h=>by have:=(hr.alr 0 h).1;omega) hres (fun b hb=>by
    obtain⟨h1,h2⟩:=hrets b (AN _ hb)
    rcases h1 with h1|h1
    ·rw[hrow] at h1;cases h1
    ·exact hfresh b h1 h2) (by
    cases hs:shares fn.s with
    |false=>left;simp only[shares,Af] at hs;exact hs.1
    |true=>
     right
     intro b hb
     obtain⟨h1,h2,_⟩:=hb
     rcases h1 with h1|h1|h1
     ·obtain⟨z1,z2,z3⟩:=hA hs b h1
      exact⟨z1,h2,z3⟩
     ·rw[hrow] at h1;cases h1
     ·exact hfresh b h1 h2)
  exact resVal_slot k1 k2
theorem buildSlice_slot (T:Tabs) (hT:TabOk P T.T) {s:TypeId} {n:Nat} {ps:Array (Nat×Operand)} (ho:o.op= .buildSlice s n ps) {sl:Slot} (h:slotK T o σ (fun s=>some s)=some sl) (hr:RelE X E σ a.tmps w):slotUpon P X E σ w sl ((execOp a.eval o).run P w):=by
 simp only[slotK,ho] at h
 split at h
 ·rename_i e t hTs
  obtain⟨_,ht⟩:=hT.ty s _ hTs
  obtain⟨m,hu,he⟩:=tyB_sl ht
  have hpos:0<t.size:=by have:=tyB_ok ht;simp[Ty.ok] at this;exact this.2
  obtain⟨fi,z,i1,i2,i3,i4,i5⟩:=tyB_info he
  have hzl:(zc t).length=t.size:=(rf_zero (w:=w) (A:=fun _=>False) (tyB_ok he)).length
  obtain⟨xs,ts,css,w1,w2,w3,_,w5,w6⟩:=list_ok (css:=(madeCells z.cells (n*t.size)).toList) hr he ps.toList h (by simp[size_madeCells])
  obtain⟨g1,g2⟩:=guardK_some w1
  simp only[A4,decide_eq_true_eq] at g1
  have hfz:σ.freeze ts=σ:=freeze_noop g1.1.1
  have hrs:=w6 σ hr rfl (fun τ hτ=>by
   have:=freeze_frz (σ:=σ) ts hτ (allUs_mem g1.1.2 hτ)
   rwa [hfz] at this) (fun i x hx=>by
   have hi:i<n:=by have:=(AY.1 hx).1;simpa using this
   rw[B4,if_pos hi] at hx
   injection hx with hx;subst hx
   rw[seg_made i5 hzl hpos hi]
   exact rf_zero (tyB_ok he))
  have hxn:xs.length=n:=by rw[w2];simp
  have hcn:css.length=n*t.size:=by rw[w3];simp[size_madeCells]
  have hmap:(ps.map fun(i,x)=>(i,a.eval x)).toList=ps.toList.map fun p=>(p.1,a.eval p.2):=by simp
  have hrun:(execOp a.eval o).run P w= .ok (.value (.slice (some ⟨w.heap.size,0,none⟩) n n)) (w.alloc (.cells css.toArray e)):=by
   simp only[execOp,ho,AQ]
   have hf:Instr.fill (fun i=>some (i*fi.size,fi.size)) ((BR (n*fi.size)).map (z.cells[·%z.cells.size]!)) (ps.map fun(i,x)=>(i,a.eval x)).toList=some css.toArray:=by
    rw[hmap,i2]
    have:(madeCells z.cells (n*t.size)).toList.toArray=madeCells z.cells (n*t.size):=by simp
    rw[this] at w5
    exact w5
   by_cases hn:n=0
   ·subst hn
    have hps:ps= #[]:=by
     rw[<-Array.toList_inj]
     cases hl:ps.toList with
     |nil=>rfl
     |cons p r=>
      rw[hl] at h
      simp only[Ak,listK] at h
      split at h
      ·simp at h
      ·cases h
    have hc0:css=[]:=List.eq_nil_of_length_eq_zero (by omega)
    subst hps;subst hc0
    have hb:(Instr.buildSlice s 0 ((#[]:Array (Nat×Operand)).map fun(i,x)=>(i,a.eval x))).run P w= .ok (.slice (some ⟨w.heap.size,0,none⟩) 0 0) (w.alloc (.cells #[] e)):=by
     simp only[Instr.buildSlice,run_underlying hu,sizeOf,typeInfo,i1,newRow,AQ,AI,Nat.zero_mul]
     have h0:∀f:Nat->Value,(BR 0).map f= #[]:=fun f=>Array.eq_empty_of_size_eq_zero (by simp)
     simp[i1,Instr.fill]
     rw[h0]
    rw[hb];simp only[AI,AT]
   ·have hp:n*fi.size≠0:=by
     rw[i2]
     intro h0
     rcases Nat.mul_eq_zero.1 h0 with h|h<;>omega
    rw[run_buildSlice w s e n _ css.toArray fi z hu i1 i4 (by rw[i2];have:=g1.2;omega) hp hf]
    simp only[AI,AT]
  have hx:=Ext.alloc w (.cells css.toArray e)
  rw[hrun]
  refine⟨hx,?_⟩
  injection g2 with g2
  subst g2
  have hw0:X.w0.heap.size<=w.heap.size:=hr.fr.size
  have K:=hr.keepExt hx
  refine⟨[.slice (some ⟨w.heap.size,0,none⟩) n n],?_,by simp[toVal,Ty.agg],rfl⟩
  refine rv_of_rf (t:=.sl e t) (by have:=hr.nt2;omega) (fun h=>by have:=(hr.alr 0 h).1;omega) ⟨_,n,css,by rw[hxn],by rw[hcn,hxn],fun i x hx=>K.rf (hrs i x hx),fun _=>⟨w.heap.size,0,rfl,⟨hr.new _ hw0,by simp,fun ho=>by have:=(hr.lt _ ho).1;omega⟩,fun j v hv=>?_⟩,by rw[hxn];exact AW _⟩
  rw[Ap,cell_of_row _ _ j css.toArray e (0,0) (heap_alloc_new w _)]
  simpa using hv
 ·cases h
theorem makeSlice_slot (T:Tabs) (hT:TabOk P T.T) {s:TypeId} {x y:Operand} (ho:o.op= .makeSlice s x y) {sl:Slot} (h:slotK T o σ (fun s=>some s)=some sl) (hr:RelE X E σ a.tmps w):slotUpon P X E σ w sl ((execOp a.eval o).run P w):=by
 simp only[slotK,ho] at h
 split at h
 ·rename_i e t q1 n m1 h1 q2 c m2 h2 hs ex ey
  obtain⟨_,hs'⟩:=hT.ty s _ hs
  obtain⟨_,hu,he⟩:=tyB_sl hs'
  have hpos:0<t.size:=by have:=tyB_ok hs';simp[Ty.ok] at this;exact this.2
  obtain⟨g1,g2⟩:=guardK_some h
  simp only[A4,decide_eq_true_eq] at g1
  obtain⟨fi,z,i1,i2,i3,i4,i5⟩:=tyB_info he
  have v1:=int_opd hr ex
  have v2:=int_opd hr ey
  have a1:(0:Int)<=n:=g1.1.1
  have a2:(n:Int)<=c:=g1.1.2
  have a3:(c:Int)<=4294967296:=g1.2
  have hb:(fi.bytes:Int)*c<=281474976710656:=by
   have h5:(fi.bytes:Int)<=32768:=by omega
   have h6:(0:Int)<=c:=BQ a1 a2
   calc (fi.bytes:Int)*c<=32768*c:=Int.mul_le_mul_of_nonneg_right h5 h6
    _<=32768*4294967296:=Int.mul_le_mul_of_nonneg_left a3 (by decide)
    _<=281474976710656:=by decide
  have hrun:=run_make (P:=P) w s e fi z hu i1 i4 q1 q2 n c a1 a2 hb (BQ a3 (show(4294967296:Int)<=9223372036854775807 by decide))
  have hzl:(zc t).length=t.size:=(rf_zero (w:=w) (A:=fun _=>False) (tyB_ok he)).length
  have hx:=Ext.alloc w (.cells (madeCells z.cells ((c:Int).toNat*fi.size)) e)
  have key:∀n c:Int,0<=n->n<=c->c<=4294967296->n.toNat<=c.toNat/\c.toNat<=maxLen:=fun n c _ _ _=>by simp only[maxLen];omega
  obtain⟨k1,k2⟩:=key n c a1 a2 a3
  have hln:(List.replicate (n:Int).toNat t.zero).length=(n:Int).toNat:=by simp
  have hle:(n:Int).toNat*t.size<=(c:Int).toNat*t.size:=BD _ k1
  have hex:(execOp a.eval o).run P w= .ok (.value (.slice (some ⟨w.heap.size,0,none⟩) (n:Int).toNat (c:Int).toNat)) (w.alloc (.cells (madeCells z.cells ((c:Int).toNat*fi.size)) e)):=by
   simp only[execOp,ho,v1,v2,hrun,AQ,AI,AT]
  rw[hex]
  refine⟨hx,?_⟩
  injection g2 with g2
  subst g2
  have hw0:X.w0.heap.size<=w.heap.size:=hr.fr.size
  refine⟨[.slice (some ⟨w.heap.size,0,none⟩) (n:Int).toNat (c:Int).toNat],?_,by simp[toVal,Ty.agg],rfl⟩
  refine rv_of_rf (t:=.sl e t) (by have:=hr.nt2;omega) (fun h=>by have:=(hr.alr 0 h).1;omega) ⟨_,(c:Int).toNat,(madeCells z.cells ((c:Int).toNat*fi.size)).toList.take ((n:Int).toNat*t.size),by rw[hln],by rw[hln,BJ,Array.length_toList,size_madeCells,i2];omega,fun i v hv=>?_,
   fun _=>⟨w.heap.size,0,rfl,⟨hr.new _ hw0,by simp,fun ho=>by have:=(hr.lt _ ho).1;omega⟩,fun j v hv=>?_⟩,by rw[hln];exact k1⟩
  ·rw[B4] at hv
   split at hv
   ·rename_i hi
    injection hv with hv;subst hv
    have h6:(i+1)*t.size<=(n:Int).toNat*t.size:=BD _ hi
    rw[Nat.add_mul] at h6
    have:seg ((madeCells z.cells ((c:Int).toNat*fi.size)).toList.take ((n:Int).toNat*t.size)) t.size i=zc t:=by
     rw[<-seg_made (z:=z.cells) (n:=(c:Int).toNat) i5 hzl hpos (AB hi k1),i2]
     simp only[V.seg]
     rw[BN,List.take_take,Nat.min_eq_left (by omega)]
    rw[this]
    exact rf_zero (tyB_ok he)
   ·cases hv
  ·rw[Ap,cell_of_row _ _ j _ e (0,0) (heap_alloc_new w _)]
   rw[List.getElem?_take] at hv
   split at hv
   ·simpa using hv
   ·cases hv
 ·cases h
theorem slotAt_ok {A:Nat->Prop} {s s':Slot} {v:Value} (h:slotAt (σ.put o.dst s') o.dst=s) (hs:SlotOk w A E σ s' v):SlotOk w A E σ s v:=by
 subst h
 cases hd:o.dst with
 |none=>trivial
 |some d=>
  simp only[slotAt,St.put]
  by_cases hlt:d<σ.fr.length
  ·simp only[AR,BB hlt,Ar];exact hs
  ·simp only[AR,List.getElem?_eq_none (show(σ.fr.set d s').length<=d by simpa using Ag hlt),Option.getD_none];trivial
theorem slotK_nat (T:Tabs) {k:Slot->Option R} {r:R} (hh:headOp T o.op=true) (h:slotK T o σ k=some r):∃s,k s=some r/\∀ (R':Type) (k':Slot->Option R'),slotK T o σ k'=k' s:=by
 by_cases hc:∃f args ats,o.op= .call ⟨.value (.func f),args,ats⟩
 ·obtain⟨f,args,ats,ho⟩:=hc
  simp only[slotK,ho] at h ⊢
  cases hf:T.F f with
  |none=>rw[hf] at h;cases h
  |some fn=>
   simp only[hf] at h ⊢
   cases hb:roOnly fn.s.args&& !fn.s.bx&&(!shares fn.s||noneAl σ (roToks σ fn.s.args (args.toList.map (opd σ)))) with
   |false=>rw[hb] at h;cases h
   |true=>
    simp only[hb,cond_true] at h ⊢
    simp only[A4,A6,AE] at hb
    obtain⟨x,h1,h2⟩:=lend_nat hb.1.1 (fun hs=>hb.2.resolve_left (by rw[hs];simp)) h
    cases hy:fn.f x with
    |none=>rw[hy] at h1;cases h1
    |some y=>rw[hy] at h1;exact⟨_,h1,fun R' k'=>by rw[h2,hy];rfl⟩
 ·by_cases hb:∃t n ps,o.op= .buildSlice t n ps
  ·obtain⟨t,n,ps,ho⟩:=hb
   simp only[slotK,ho] at h ⊢
   split at h
   ·rename_i e t e1
    obtain⟨xs,ts,h1,h2⟩:=listK_nat h
    obtain⟨h3,h4⟩:=guardK_nat h1
    exact⟨_,h3,fun R' k'=>by first|(rw[h2];exact h4 R' _)|(simp only[e1];rw[h2];exact h4 R' _)⟩
   ·cases h
  by_cases hmk:∃t n c,o.op= .makeSlice t n c
  ·obtain⟨t,n,c,ho⟩:=hmk
   simp only[slotK,ho] at h ⊢
   split at h
   ·rename_i e t q1 n m1 h1 q2 c m2 h2 e1 e2 e3
    obtain⟨h3,h4⟩:=guardK_nat h
    exact⟨_,h3,fun R' k'=>by first|exact h4 R' _|(simp only[e1,e2,e3];exact h4 R' _)⟩
   ·cases h
  ·have hfix:fixK T o.op=true:=by
    unfold headOp at hh
    split at hh
    ·rename_i t n ps ho;exact absurd ⟨_,_,_,ho⟩ hb
    ·rename_i t n ps ho;exact absurd ⟨_,_,_,ho⟩ hmk
    ·rename_i f args ats ho;exact absurd ⟨_,_,_,ho⟩ hc
    ·exact hh
   have hnc:∀f args ats,o.op≠ .call ⟨.value (.func f),args,ats⟩:=fun f args ats ho=>hc ⟨_,_,_,ho⟩
   by_cases hs:∃t x lo hi mx,o.op= .slice t x lo hi mx
   ·obtain⟨t,x,lo,hi,mx,ho⟩:=hs
    have key:∀ (R':Type) (k':Slot->Option R'),slotK T o σ k'=bif lo.isNone||(match opd σ x with| .val y _=>noneAl σ y.ms|_=>true) then stepK T o σ fun σ'=>k' (slotAt σ' o.dst) else none:=fun R' k'=>by simp only[slotK,ho];rfl
    rw[key] at h
    cases hb:lo.isNone||(match opd σ x with| .val y _=>noneAl σ y.ms|_=>true) with
    |false=>rw[hb] at h;cases h
    |true=>
     rw[hb] at h
     simp only[cond_true] at h
     obtain⟨σ',h1,h2⟩:=stepK_nat T hfix hnc h
     exact⟨_,h1,fun R' k'=>by rw[key,hb];simp only[cond_true];rw[h2]⟩
   ·have key:∀ (R':Type) (k':Slot->Option R'),slotK T o σ k'=stepK T o σ fun σ'=>k' (slotAt σ' o.dst):=by
     intro R' k'
     unfold slotK
     split
     ·rename_i ho;exact absurd ⟨_,_,_,ho⟩ hb
     ·rename_i ho;exact absurd ⟨_,_,_,ho⟩ hc
     ·rename_i ho;exact absurd ⟨_,_,_,ho⟩ hmk
     ·rename_i ho;exact absurd ⟨_,_,_,_,_,ho⟩ hs
     ·rfl
    rw[key] at h
    obtain⟨σ',h1,h2⟩:=stepK_nat T hfix hnc h
    exact⟨_,h1,fun R' k'=>by rw[key,h2]⟩
theorem slotK_ok (T:Tabs) (hT:TabOk P T.T) (hF:FOk P T.F) {s:Slot} (hh:headOp T o.op=true) (h:slotK T o σ (fun s=>some s)=some s) (hr:RelE X E σ a.tmps w):slotUpon P X E σ w s ((execOp a.eval o).run P w):=by
 by_cases hc:∃f args ats,o.op= .call ⟨.value (.func f),args,ats⟩
 ·obtain⟨f,args,ats,ho⟩:=hc
  simp only[slotK,ho] at h
  cases hf:T.F f with
  |none=>rw[hf] at h;cases h
  |some fn=>
   simp only[hf] at h
   cases hb:roOnly fn.s.args&& !fn.s.bx&&(!shares fn.s||noneAl σ (roToks σ fn.s.args (args.toList.map (opd σ)))) with
   |false=>rw[hb] at h;cases h
   |true=>
    simp only[hb,cond_true] at h
    simp only[A4,A6,AE] at hb
    have hno:shares fn.s=true->noneAl σ (roToks σ fn.s.args (args.toList.map (opd σ)))=true:=fun hs=>hb.2.resolve_left (by rw[hs];simp)
    obtain⟨x,h1,h2⟩:=lend_nat hb.1.1 hno h
    cases hy:fn.f x with
    |none=>rw[hy] at h1;cases h1
    |some y=>
     rw[hy] at h1
     simp only[AV,AS] at h1
     subst h1
     obtain⟨hm,g,g1,g2,g3⟩:=hF f fn hf
     have hcall:=call_make hm hb.1.2 hb.1.1 hno (h2 _ _) hy hr
     have hrun:(execOp a.eval o).run P w= .ok (.enter f (args.toList.map a.eval).toArray) w:=by
      have e1:a.eval (.func f)= .func (.func f) #[] #[]:=rfl
      have hb:¬g.body=none:=by intro h;rw[h] at g2;cases g2
      have hn:¬g.name="runtime.NumGoroutine":=by simpa using g3
      simp[execOp,ho,resolve,e1,Deferred.ofValue,invoke,callFunc,g1]
      rw[if_neg hn,if_neg hb,<-BK]
     rw[hrun]
     exact⟨rfl,hcall⟩
 ·by_cases hb:∃t n ps,o.op= .buildSlice t n ps
  ·obtain⟨t,n,ps,ho⟩:=hb
   exact buildSlice_slot T hT ho h hr
  by_cases hmk:∃t n c,o.op= .makeSlice t n c
  ·obtain⟨t,n,c,ho⟩:=hmk
   exact makeSlice_slot T hT ho h hr
  ·have hfix:fixK T o.op=true:=by
    unfold headOp at hh
    split at hh
    ·rename_i t n ps ho;exact absurd ⟨_,_,_,ho⟩ hb
    ·rename_i t n ps ho;exact absurd ⟨_,_,_,ho⟩ hmk
    ·rename_i f args ats ho;exact absurd ⟨_,_,_,ho⟩ hc
    ·exact hh
   have fin:∀ {v:Value} {s':Slot},FixAt P o a w v->slotAt (σ.put o.dst s') o.dst=s->SlotOk w (Fz X E σ w) E σ s' v->slotUpon P X E σ w s ((execOp a.eval o).run P w):=by
    intro v s' h1 h2 h3
    have h4:=slotAt_ok h2 h3
    have h5:=h1 w (Ext.refl w)
    generalize (execOp a.eval o).run P w=q at h5
    cases q with
    |halt x w2=>exact h5.elim
    |ok n w2=>
     cases n with
     |value u=>obtain⟨e1,e2⟩:=h5;subst e1;subst e2;exact⟨Ext.refl _,h4⟩
     |enter f args=>
      obtain⟨e1,hcl⟩:=h5
      subst e1
      exact⟨rfl,hcl.mono fun e w3 ⟨he,hx⟩=>⟨v,he,hx,(hr.keepExt hx).slot h4⟩⟩
     |_=>exact h5.elim
   by_cases hs:∃t x lo hi mx,o.op= .slice t x lo hi mx
   ·obtain⟨t,x,lo,hi,mx,ho⟩:=hs
    have key:slotK T o σ (fun s=>some s)=bif lo.isNone||(match opd σ x with| .val y _=>noneAl σ y.ms|_=>true) then stepK T o σ fun σ'=>some (slotAt σ' o.dst) else none:=by simp only[slotK,ho];rfl
    rw[key] at h
    cases hb:lo.isNone||(match opd σ x with| .val y _=>noneAl σ y.ms|_=>true) with
    |false=>rw[hb] at h;cases h
    |true=>
     rw[hb] at h
     simp only[cond_true] at h
     cases mx with
     |some m=>simp[stepK,ho] at h
     |none=>
      obtain⟨v,h1,s',h2,h3⟩:=(step_slice_slot T hT ho (by
       cases lo with
       |none=>exact .inl rfl
       |some z=>
        right
        intro y hm e
        rw[e] at hb
        simpa using hb) h hr).at
      exact fin h1 (A3 h2) h3
   ·have key:slotK T o σ (fun s=>some s)=stepK T o σ fun σ'=>some (slotAt σ' o.dst):=by
     unfold slotK
     split
     ·rename_i ho;exact absurd ⟨_,_,_,ho⟩ hb
     ·rename_i ho;exact absurd ⟨_,_,_,ho⟩ hc
     ·rename_i ho;exact absurd ⟨_,_,_,ho⟩ hmk
     ·rename_i ho;exact absurd ⟨_,_,_,_,_,ho⟩ hs
     ·rfl
    rw[key] at h
    obtain⟨v,h1,s',h2,h3⟩:=slot_step T hT hF hfix (fun t x lo hi mx ho=>hs ⟨_,_,_,_,_,ho⟩) h hr
    exact fin h1 (A3 h2) h3
end
end Go.Proofs.YtibidhcmenljoaaDoor.V
namespace Go.Proofs.YtibidhcmenljoaaDoor.V
open Go
section
variable {P:Program} {X:Ctx} {E:Env} {σ0:St} {A0:Array Value} {a:Act} {w:World} {R:Type} {ops:Array Oper} {D:List Nat} {m nn:Nat}
structure SameB (σ0 σ:St):Prop where
 bx:σ.bx=σ0.bx
 al:σ.al=σ0.al
 fz:σ.fz=σ0.fz
 ln:σ.ln=σ0.ln
 nt:σ.nt=σ0.nt
 len:σ.fr.length=σ0.fr.length
theorem SameB.refl (σ:St):SameB σ σ:=⟨rfl,rfl,rfl,rfl,rfl,rfl⟩
theorem SameB.eq {σ0 σ:St} (h:SameB σ0 σ):σ={σ0 with fr:=σ.fr}:=by
 obtain⟨fr,bx,al,fz,ln,nt⟩:=σ
 obtain⟨h1,h2,h3,h4,h5,_⟩:=h
 simp only at h1 h2 h3 h4 h5
 subst h1;subst h2;subst h3;subst h4;subst h5;rfl
theorem SameB.put {σ0 σ:St} (h:SameB σ0 σ) (d:Option Tmp) (s:Slot):SameB σ0 (σ.put d s):=by
 cases d with
 |none=>exact h
 |some d=>exact⟨h.bx,h.al,h.fz,h.ln,h.nt,by simp[St.put,h.len]⟩
theorem SameB.clear {σ0 σ:St} (h:SameB σ0 σ) (g:List (Oper×Nat)):SameB σ0 (clearD g σ):=by
 obtain⟨h1,h2,h3,h4,h5,h6,_⟩:=clearD_fr g σ
 exact⟨h1.trans h.bx,h2.trans h.al,h3.trans h.fz,h4.trans h.ln,h5.trans h.nt,h6.trans h.len⟩
theorem hideL_len (D l:List Nat):∀ (fr:List Slot) (i:Nat),(hideL D l i fr).length=fr.length:=by
 intro fr
 induction fr with
 |nil=>intro i;rfl
 |cons s fr ih=>intro i;simp[hideL,ih]
theorem hideL_at (D l:List Nat):∀ (fr:List Slot) (i t:Nat),(hideL D l i fr)[t]?=(fr[t]?).map fun s=>bif D.contains (i+t)&& !l.contains (i+t) then .no else s:=by
 intro fr
 induction fr with
 |nil=>intro i t;simp[hideL]
 |cons s fr ih=>
  intro i t
  cases t with
  |zero=>simp[hideL]
  |succ t=>
   simp only[hideL,List.getElem?_cons_succ]
   rw[ih,show i+1+t=i+(t+1) by omega]
theorem SameB.hide {σ0 σ:St} (h:SameB σ0 σ) (l:List Nat):SameB σ0 (hide D l σ):=⟨h.bx,h.al,h.fz,h.ln,h.nt,(hideL_len D l σ.fr 0).trans h.len⟩
theorem hide_at {l:List Nat} {σ:St} {t:Nat} {s:Slot} (h:(hide D l σ).fr[t]?=some s):s= .no\/(σ.fr[t]?=some s/\(t∈D->t∈l)):=by
 simp only[hide,hideL_at,Option.map_eq_some_iff,Ap] at h
 obtain⟨s',h1,h2⟩:=h
 cases hb:D.contains t&& !l.contains t with
 |true=>rw[hb] at h2;exact .inl h2.symm
 |false=>
  rw[hb] at h2
  simp only[cond_false] at h2
  subst h2
  refine .inr ⟨h1,fun hD=>?_⟩
  simp only[Bool.and_eq_false_iff,BF,List.contains_eq_mem,decide_eq_false_iff_not,decide_eq_true_eq] at hb
  rcases hb with hb|hb
  ·exact absurd hD hb
  ·exact hb
theorem opd_hide {l:List Nat} {σ:St} {x:Operand} (h:∀t,x= .tmp t->t∈l):opd (hide D l σ) x=opd σ x:=by
 cases x with
 |tmp t=>
  simp only[opd,AR,hide,hideL_at,Ap]
  have:l.contains t=true:=by simpa using h t rfl
  rw[this]
  cases σ.fr[t]?<;>simp
 |const v=>
  cases v with
  |slice a n c=>cases a<;>cases n<;>cases c<;>rfl
  |_=>rfl
 |_=>rfl
structure Walk (ops:Array Oper) (S:Nat->Slot) (σ0 σ:St) (i:Nat):Prop where
 same:SameB σ0 σ
 slot:∀t s,σ.fr[t]?=some s->s= .no\/((∀j p,j<i->ops[j]?=some p->p.dst≠some t)/\σ0.fr[t]?=some s)\/∃j p,j<i/\ops[j]?=some p/\p.dst=some t/\s=S j
structure Sees (D:List Nat) (ops:Array Oper) (S:Nat->Slot) (σ0 σ:St) (i:Nat) (o:Oper):Prop where
 same:SameB σ0 σ
 slot:∀t s,σ.fr[t]?=some s->s= .no\/(t∉D/\σ0.fr[t]?=some s)\/∃j p,j<i/\ops[j]?=some p/\p.dst=some t/\t∈o.looksAt ops/\s=S j
structure HeadOk (ops:Array Oper) (D:List Nat) (m n:Nat):Prop where
 le:m<=n
 mem:∀t,t∈D↔∃j p,j<n/\ops[j]?=some p/\p.dst=some t
 dep:∀i o j p t,i<m->ops[i]?=some o->j<n->ops[j]?=some p->p.dst=some t->t∈o.looksAt ops->j<i
 inj:∀i o j p t,i<n->ops[i]?=some o->j<n->ops[j]?=some p->o.dst=some t->p.dst=some t->i=j
theorem Walk.sees (H:HeadOk ops D m nn) {S:Nat->Slot} {σ:St} {i:Nat} {o:Oper} (h:Walk ops S σ0 σ i) (him:i<m) (ho:ops[i]?=some o):Sees D ops S σ0 (hide D (o.looksAt ops) σ) i o:=by
 refine⟨h.same.hide _,fun t s hs=>?_⟩
 rcases hide_at hs with hn|⟨h1,h2⟩
 ·exact .inl hn
 ·rcases h.slot t s h1 with h3|⟨h3,h4⟩|⟨j,p,h3,h4,h5,h6⟩
  ·exact .inl h3
  ·refine .inr (.inl ⟨fun hD=>?_,h4⟩)
   obtain⟨j,p,q1,q2,q3⟩:=(H.mem t).1 hD
   exact h3 j p (H.dep i o j p t him ho q1 q2 q3 (h2 hD)) q2 q3
  ·exact .inr (.inr ⟨j,p,h3,h4,h5,h2 ((H.mem t).2 ⟨j,p,AB (Nat.lt_trans h3 him) H.le,h4,h5⟩),h6⟩)
def Guards (ops:Array Oper) (S:Nat->Slot) (sk:Nat->Bool) (n i j:Nat) (w:Bool):Prop:=
 j<i/\sk j=false/\∃c,dstOf ops j=some c/\c<n/\∃ms h,S j= .val ⟨.bool,w,ms⟩ h
def CertAt (P:Program) (X:Ctx) (D:List Nat) (ops:Array Oper) (S:Nat->Slot) (sk:Nat->Bool) (σ0:St) (i:Nat) (o:Oper):Prop:=
 (sk i=true/\S i= .no/\∃j w,o.guard=some (j,w)/\j<i/\(sk j=true\/∃v,v≠w/\Guards ops S sk σ0.fr.length i j v))\/
 (sk i=false/\(∀j w,o.guard=some (j,w)->Guards ops S sk σ0.fr.length i j w)/\∃σ,Sees D ops S σ0 σ i o/\∀ (E:Env) (a:Act) (w:World),RelE X E σ a.tmps w->slotUpon P X E σ w (S i) ((execOp a.eval o).run P w))
theorem Guards.congr {S S':Nat->Slot} {sk sk':Nat->Bool} {n i j:Nat} {w:Bool} (h:Guards ops S sk n i j w) (hs:∀k,k<i->S' k=S k/\sk' k=sk k):Guards ops S' sk' n i j w:=by
 obtain⟨h1,h2,c,h3,h4,ms,hm,h5⟩:=h
 exact⟨h1,(hs j h1).2.trans h2,c,h3,h4,ms,hm,(hs j h1).1.trans h5⟩
theorem Sees.congr {S S':Nat->Slot} {σ:St} {i:Nat} {o:Oper} (h:Sees D ops S σ0 σ i o) (hs:∀k,k<i->S' k=S k):Sees D ops S' σ0 σ i o:=
 ⟨h.same,fun t s ht=>by
  rcases h.slot t s ht with h1|h1|⟨j,p,h1,h2,h3,h4,h5⟩
  ·exact .inl h1
  ·exact .inr (.inl h1)
  ·exact .inr (.inr ⟨j,p,h1,h2,h3,h4,h5.trans (hs j h1).symm⟩)⟩
theorem Walk.congr {S S':Nat->Slot} {σ:St} {i:Nat} (h:Walk ops S σ0 σ i) (hs:∀k,k<i->S' k=S k):Walk ops S' σ0 σ i:=
 ⟨h.same,fun t s ht=>by
  rcases h.slot t s ht with h1|h1|⟨j,p,h1,h2,h3,h5⟩
  ·exact .inl h1
  ·exact .inr (.inl h1)
  ·exact .inr (.inr ⟨j,p,h1,h2,h3,h5.trans (hs j h1).symm⟩)⟩
theorem CertAt.congr {S S':Nat->Slot} {sk sk':Nat->Bool} {i:Nat} {o:Oper} (h:CertAt P X D ops S sk σ0 i o) (hs:∀k,k<i+1->S' k=S k/\sk' k=sk k):CertAt P X D ops S' sk' σ0 i o:=by
 have hs':∀k,k<i->S' k=S k/\sk' k=sk k:=fun k hk=>hs k (by omega)
 have hi:=hs i (by omega)
 rcases h with⟨h1,h2,j,w,h3,h4,h5⟩|⟨h1,h2,σ,h3,h4⟩
 ·refine .inl ⟨hi.2.trans h1,hi.1.trans h2,j,w,h3,h4,?_⟩
  rcases h5 with h5|⟨v,h5,h6⟩
  ·exact .inl ((hs' j h4).2.trans h5)
  ·exact .inr ⟨v,h5,h6.congr hs'⟩
 ·refine .inr ⟨hi.2.trans h1,fun j w hg=>(h2 j w hg).congr hs',σ,h3.congr (fun k hk=>(hs' k hk).1),fun E a w hr=>?_⟩
  rw[hi.1];exact h4 E a w hr
theorem Walk.put {S:Nat->Slot} {σ:St} {i:Nat} {o:Oper} (h:Walk ops S σ0 σ i) (ho:ops[i]?=some o) {d:Tmp} (hd:o.dst=some d) (s:Slot) (S':Nat->Slot) (hS:∀k,k<i->S' k=S k) (hSi:S' i=s):Walk ops S' σ0 (σ.put o.dst s) (i+1):=by
 refine⟨h.same.put _ _,fun t u ht=>?_⟩
 rw[hd] at ht
 simp only[St.put] at ht
 by_cases htd:d=t
 ·subst htd
  rw[BB (by have:=(AY.1 ht).1;simpa using this)] at ht
  injection ht with ht
  exact .inr (.inr ⟨i,o,by omega,ho,hd,by rw[hSi,ht]⟩)
 ·rw[Aq htd] at ht
  rcases h.slot t u ht with h1|⟨h1,h2⟩|⟨j,p,h1,h2,h3,h5⟩
  ·exact .inl h1
  ·refine .inr (.inl ⟨fun j p hj hp he=>?_,h2⟩)
   rcases Ah j i with hji|hji
   ·exact h1 j p hji hp he
   ·have:j=i:=by omega
    subst this
    rw[ho] at hp
    have:=A3 hp
    subst this
    rw[hd] at he
    exact htd (A3 he)
  ·exact .inr (.inr ⟨j,p,by omega,h2,h3,h5.trans (hS j h1).symm⟩)
theorem Walk.clear {S S':Nat->Slot} {σ:St} {i n:Nat} {g:List (Oper×Nat)} (h:Walk ops S σ0 σ i) (hS:∀k,k<i->S' k=S k) (hn:i<=n) (hg:∀j p,i<=j->j<n->ops[j]?=some p->(p,j)∈g):Walk ops S' σ0 (clearD g σ) n:=by
 refine⟨h.same.clear g,fun t u ht=>?_⟩
 obtain⟨_,_,_,_,_,_,h7⟩:=clearD_fr g σ
 rcases h7 t u ht with h1|⟨h1,h2⟩
 ·exact .inl h1
 ·rcases h.slot t u h1 with h3|⟨h3,h4⟩|⟨j,p,q1,q2,q3,q5⟩
  ·exact .inl h3
  ·refine .inr (.inl ⟨fun j p hj hp he=>?_,h4⟩)
   rcases Ah j i with hji|hji
   ·exact h3 j p hji hp he
   ·exact h2 (p,j) (hg j p hji hj hp) he
  ·exact .inr (.inr ⟨j,p,by omega,q2,q3,q5.trans (hS j q1).symm⟩)
theorem contig_mem:∀ {l:List (Oper×Nat)} {i:Nat},Contig i l->∀q∈l,i<=q.2/\q.2<i+l.length:=by
 intro l
 induction l with
 |nil=>intro i _ q hq;cases hq
 |cons x l ih=>
  intro i h q hq
  rcases AU.1 hq with rfl|hq
  ·have:=h.1;simp;omega
  ·have:=ih h.2 q hq;simp;omega
theorem contig_has:∀ {l:List (Oper×Nat)} {i:Nat},Contig i l->(∀q∈l,ops[q.2]?=some q.1)->∀j p,i<=j->j<i+l.length->ops[j]?=some p->(p,j)∈l:=by
 intro l
 induction l with
 |nil=>intro i _ _ j p h1 h2;simp at h2;omega
 |cons x l ih=>
  intro i h hi j p h1 h2 hp
  by_cases hj:j=i
  ·subst hj
   have:=hi x A9
   rw[h.1,hp] at this
   have e:=A3 this
   have:(p,j)=x:=Prod.ext e h.1.symm
   rw[this];exact A9
  ·exact A5 _ (ih h.2 (fun q hq=>hi q (A5 _ hq)) j p (by omega) (by simp at h2;omega) hp)
theorem boolOf_some {s:Slot} {v:Bool} (h:boolOf s=some v):∃ms hm,s= .val ⟨.bool,v,ms⟩ hm:=by
 unfold boolOf at h
 split at h
 ·rename_i b ms hm
  injection h with h;subst h;exact⟨ms,hm,rfl⟩
 ·cases h
theorem pick_upon {σ:St} {o:Oper} {c:Tmp} {x y:Operand} (ho:o.op= .pick (.tmp c) x y) {v t:Bool} (hc:boolOf (opd σ (.tmp c))=some v) (ht:boolOf (opd σ (bif v then x else y))=some t) (hr:RelE X E σ a.tmps w):
  slotUpon P X E σ w (.val ⟨.bool,t,[]⟩ none) ((execOp a.eval o).run P w):=by
 obtain⟨ms,hm,e1⟩:=boolOf_some hc
 obtain⟨ms',hm',e2⟩:=boolOf_some ht
 have h1:a.eval (.tmp c)= .bool v:=val_bool (slot_of_opd hr e1)
 have h2:a.eval (bif v then x else y)= .bool t:=val_bool (slot_of_opd hr e2)
 have hx:(execOp a.eval o).run P w= .ok (.value (.bool t)) w:=by
  simp only[execOp,ho,h1,asBool,AQ,AT,AI]
  rw[<-h2]
  cases v<;>simp
 rw[hx]
 exact⟨Ext.refl w,slot_bool t none⟩
theorem bool_yes {v w:Bool} (h:(bif w then v else !v)=true):v=w:=by cases v<;>cases w<;>simp_all
theorem bool_no {v w:Bool} (h:(bif w then v else !v)=false):v= !w:=by cases v<;>cases w<;>simp_all
theorem clear_at {u:Tmp}:∀ (g:List (Oper×Nat)) (σ:St),(∀q∈g,q.1.dst≠some u)->(clearD g σ).fr[u]?=σ.fr[u]?:=by
 intro g
 induction g with
 |nil=>intro σ _;rfl
 |cons q g ihg=>
  intro σ hq
  have e:clearD (q::g) σ=clearD g (σ.put q.1.dst .no):=rfl
  rw[e,ihg _ (fun q' hq'=>hq q' (A5 _ hq'))]
  cases hdq:q.1.dst with
  |none=>rfl
  |some dq=>simp only[St.put];rw[Aq (fun e=>hq q A9 (by rw[hdq,e]))]
theorem head_cert (T:Tabs) (hT:TabOk P T.T) (hF:FOk P T.F) (H:HeadOk ops D m nn):∀ (n:Nat) {act:List (Nat×Bool)} {R:Type} {l:List (Oper×Nat)} {i:Nat} {σ:St} {k:St->Option R} {r:R} {S:Nat->Slot} {sk:Nat->Bool},
  headK T D ops n act R l σ k=some r->Contig i l->(∀q∈l,ops[q.2]?=some q.1)->i+l.length<=m->(∀q∈l,headOp T q.1.op=true/\∃d,q.1.dst=some d)->Walk ops S σ0 σ i->(∀j,j<i->sk j=true->S j= .no)->
  (∀g∈act,Guards ops S sk σ0.fr.length i g.1 g.2)->
  ∃S' sk' σ',(∀j,j<i->S' j=S j/\sk' j=sk j)/\(∀j o,i<=j->j<i+l.length->ops[j]?=some o->CertAt P X D ops S' sk' σ0 j o)/\Walk ops S' σ0 σ' (i+l.length)/\(∀j,j<i+l.length->sk' j=true->S' j= .no)/\k σ'=some r/\
   ∀t,(∀q∈l,q.1.dst≠some t)->σ'.fr[t]?=σ.fr[t]?:=by
 intro n
 induction n with
 |zero=>
  intro act R l i σ k r S sk h hc hi hm hh hw hsk _
  cases l with
  |nil=>exact⟨S,sk,σ,fun _ _=>⟨rfl,rfl⟩,fun j o h1 h2=>by simp at h2;omega,hw,hsk,by simpa[headK] using h,fun _ _=>rfl⟩
  |cons o l=>simp[headK] at h
 |succ n ih=>
  intro act R l i σ k r S sk h hc hi hm hh hw hsk hact
  cases l with
  |nil=>exact⟨S,sk,σ,fun _ _=>⟨rfl,rfl⟩,fun j o h1 h2=>by simp at h2;omega,hw,hsk,by simpa[headK] using h,fun _ _=>rfl⟩
  |cons o l=>
   simp only[headK] at h
   have ho:=hi o A9
   have ho2:o.2=i:=hc.1
   rw[ho2] at ho
   have him:i<m:=by simp at hm;omega
   obtain⟨hhd,d,hd⟩:=hh o A9
   split at h
   ·rename_i hg
    have hgs:∀j w,o.1.guard=some (j,w)->Guards ops S sk σ0.fr.length i j w:=by
     intro j w hgu
     unfold openG at hg
     rw[hgu] at hg
     simp only at hg
     cases hcon:act.contains (j,w) with
     |false=>rw[hcon] at hg;simp at hg
     |true=>exact hact (j,w) (by simpa using hcon)
    obtain⟨s,h1,h2⟩:=slotK_nat T hhd h
    have hS1:∀j,j<i->(fun j=>if j=i then s else S j) j=S j:=fun j hj=>if_neg (by omega)
    have hsk1:∀j,j<i->(fun j=>if j=i then false else sk j) j=sk j:=fun j hj=>if_neg (by omega)
    have hbth:∀j,j<i->(fun j=>if j=i then s else S j) j=S j/\(fun j=>if j=i then false else sk j) j=sk j:=fun j hj=>⟨hS1 j hj,hsk1 j hj⟩
    obtain⟨S',sk',σ',q1,q2,q3,q4,q5,q6⟩:=ih h1 hc.2 (fun q hq=>hi q (A5 _ hq)) (by simp at hm;omega) (fun q hq=>hh q (A5 _ hq))
     (hw.put ho hd s (fun j=>if j=i then s else S j) hS1 (if_pos rfl)) (sk:=fun j=>if j=i then false else sk j) (fun j hj hs=>by
      by_cases hji:j=i
      ·simp[hji] at hs
      ·simp only[if_neg hji] at hs ⊢;exact hsk j (by omega) hs)
     (fun g hg=>by
      have:=(hact g hg).congr hbth
      exact⟨by have:=this.1;omega,this.2⟩)
    refine⟨S',sk',σ',fun j hj=>⟨((q1 j (by omega)).1).trans (hS1 j hj),((q1 j (by omega)).2).trans (hsk1 j hj)⟩,fun j p h3 h4 hp=>?_,?_,fun j hj=>q4 j (by simp at hj;omega),q5,fun t ht=>?_⟩
    ·by_cases hji:j=i
     ·subst hji
      rw[ho] at hp
      have:=A3 hp
      subst this
      have hcert:CertAt P X D ops (fun k=>if k=j then s else S k) (fun k=>if k=j then false else sk k) σ0 j o.1:=
       .inr ⟨if_pos rfl,fun j' w hg'=>(hgs j' w hg').congr hbth,_,(hw.sees H him ho).congr hS1,fun E a w hr=>by
        simp only[if_pos]
        exact slotK_ok T hT hF hhd (h2 _ _) hr⟩
      exact hcert.congr fun k hk=>q1 k (by omega)
     ·exact q2 j p (by omega) (by simp at h4;omega) hp
    ·rw[As,show i+(l.length+1)=i+1+l.length by omega];exact q3
    ·rw[q6 t (fun q hq=>ht q (A5 _ hq)),hd]
     simp only[St.put]
     rw[Aq (fun e=>ht o A9 (by rw[hd,e]))]
   ·rename_i j w0 hg
    split at h
    ·rename_i x1 x2 g d' c x y ty pos af pg i' r' hsp
     have hl:=spanG_eq j _ hsp
     cases hb1:((decide (j<o.2)&&dstOf ops j==some c)&&g.all fun q=>okG T o.snd j w0 c q.fst q.snd)&&pgOk act pg with
     |false=>rw[hb1] at h;simp at h
     |true=>
      rw[hb1] at h
      simp only[cond_true] at h
      simp only[A4,beq_iff_eq,AH,decide_eq_true_eq] at hb1
      obtain⟨⟨⟨hji,hdst⟩,hall⟩,hpg⟩:=hb1
      rw[ho2] at hji hall
      cases hv:boolOf (σ.fr.getD c .no) with
      |none=>rw[hv] at h;simp at h
      |some v=>
       rw[hv] at h
       simp only[B2] at h
       obtain⟨t,ht,hk⟩:=h
       have hgd:Guards ops S sk σ0.fr.length i j v:=by
        obtain⟨ms,hm',e⟩:=boolOf_some hv
        rw[AR] at e
        cases hz:σ.fr[c]? with
        |none=>rw[hz] at e;cases e
        |some u=>
         rw[hz] at e
         simp only[Ar] at e
         subst e
         have hlt:c<σ0.fr.length:=by rw[<-hw.same.len];exact(AY.1 hz).1
         obtain⟨pj,hpj,hpd⟩:∃pj,ops[j]?=some pj/\pj.dst=some c:=by
          unfold dstOf at hdst
          cases hp:ops[j]? with
          |none=>rw[hp] at hdst;cases hdst
          |some pj=>rw[hp] at hdst;exact⟨pj,rfl,hdst⟩
         have hSj: .val ⟨.bool,v,ms⟩ hm'=S j:=by
          rcases hw.slot c _ hz with h1|⟨h1,_⟩|⟨j',p',h1,h2,h3,h4⟩
          ·cases h1
          ·exact absurd hpd (h1 j pj hji hpj)
          ·have:=H.inj j' p' j pj c (by have:=H.le;omega) h2 (by have:=H.le;omega) hpj h3 hpd
           subst this
           exact h4
         refine⟨hji,?_,c,hdst,hlt,ms,hm',hSj.symm⟩
         cases hs:sk j with
         |false=>rfl
         |true=>rw[hsk j hji hs] at hSj;cases hSj
       have hgc:∀q∈g,q.1.dst≠some c:=fun q hq=>by
        have:=hall q hq
        simp only[okG,okH,A4,AE,beq_eq_false_iff_ne,ne_eq] at this
        exact this.1.2
       rw[hl] at hc hi hm hh ⊢
       obtain⟨hc1,hc2⟩:=contig_append hc
       have hi'2:i'=i+g.length:=hc2.1
       have hmem:∀q∈g,q∈g++(⟨some d',.pick (.tmp c) x y,ty,pos,af,pg⟩,i')::r':=fun q hq=>AO _ hq
       have hmem2:∀q∈r',q∈g++((⟨some d',.pick (.tmp c) x y,ty,pos,af,pg⟩:Oper),i')::r':=fun q hq=>AN _ (A5 _ hq)
       have hpi:ops[i']?=some ⟨some d',.pick (.tmp c) x y,ty,pos,af,pg⟩:=hi _ (AN _ A9)
       have hlen:(g++((⟨some d',.pick (.tmp c) x y,ty,pos,af,pg⟩:Oper),i')::r').length=g.length+1+r'.length:=by simp;omega
       rw[hlen] at hm ⊢
       have hgin:=contig_has hc1 (fun q hq=>hi q (hmem q hq))
       have fin:∀ (S1:Nat->Slot) (sk1:Nat->Bool) (σ1:St),(∀k,k<i->S1 k=S k/\sk1 k=sk k)->(∀k o,i<=k->k<i'->ops[k]?=some o->CertAt P X D ops S1 sk1 σ0 k o)->(∀k,k<i'->sk1 k=true->S1 k= .no)->Walk ops S1 σ0 σ1 i'->
         boolOf (σ1.fr.getD c .no)=some v->boolOf (opd σ1 (bif v then x else y))=some t->
         ∃S' sk' σ',(∀k,k<i->S' k=S k/\sk' k=sk k)/\(∀k o,i<=k->k<i+(g.length+1+r'.length)->ops[k]?=some o->CertAt P X D ops S' sk' σ0 k o)/\Walk ops S' σ0 σ' (i+(g.length+1+r'.length))/\(∀k,k<i+(g.length+1+r'.length)->sk' k=true->S' k= .no)/\k σ'=some r/\
          ∀t,(∀q∈g++((⟨some d',.pick (.tmp c) x y,ty,pos,af,pg⟩:Oper),i')::r',q.1.dst≠some t)->σ'.fr[t]?=σ.fr[t]?:=by
        intro S1 sk1 σ1 e1 e2 e3 e4 e5 e6
        have hS2:∀k,k<i'->(fun k=>if k=i' then Slot.val ⟨.bool,t,[]⟩ none else S1 k) k=S1 k:=fun k hk=>if_neg (by omega)
        have hsk2:∀k,k<i'->(fun k=>if k=i' then false else sk1 k) k=sk1 k:=fun k hk=>if_neg (by omega)
        have hb2:∀k,k<i'->(fun k=>if k=i' then Slot.val ⟨.bool,t,[]⟩ none else S1 k) k=S1 k/\(fun k=>if k=i' then false else sk1 k) k=sk1 k:=fun k hk=>⟨hS2 k hk,hsk2 k hk⟩
        have hb3:∀k,k<i->(fun k=>if k=i' then Slot.val ⟨.bool,t,[]⟩ none else S1 k) k=S k/\(fun k=>if k=i' then false else sk1 k) k=sk k:=fun k hk=>⟨(hS2 k (by omega)).trans (e1 k hk).1,(hsk2 k (by omega)).trans (e1 k hk).2⟩
        have hwk:Walk ops (fun k=>if k=i' then Slot.val ⟨.bool,t,[]⟩ none else S1 k) σ0 ((clearD g σ).put (some d') (.val ⟨.bool,t,[]⟩ none)) (i'+1):=by
         have h1:=hw.clear (S':=S1) (n:=i') (g:=g) (fun k hk=>(e1 k hk).1) (by omega) (fun j p h1 h2 hp=>hgin j p h1 (by omega) hp)
         exact h1.put hpi (d:=d') rfl _ _ hS2 (if_pos rfl)
        have hact2:∀q∈act,Guards ops (fun k=>if k=i' then Slot.val ⟨.bool,t,[]⟩ none else S1 k) (fun k=>if k=i' then false else sk1 k) σ0.fr.length (i'+1) q.1 q.2:=fun q hq=>by
         have h1:=(hact q hq).congr hb3
         exact⟨by have:=h1.1;omega,h1.2⟩
        obtain⟨S',sk',σ',q1,q2,q3,q4,q5,q6⟩:=ih hk (by have:=hc2.2;rwa [<-hi'2] at this) (fun q hq=>hi q (hmem2 q hq)) (by omega) (fun q hq=>hh q (hmem2 q hq)) hwk (sk:=fun k=>if k=i' then false else sk1 k) (fun k hk hs=>by
          by_cases hki:k=i'
          ·simp[hki] at hs
          ·simp only[if_neg hki] at hs ⊢;exact e3 k (by omega) hs) hact2
        have hlen2:i+(g.length+1+r'.length)=i'+1+r'.length:=by omega
        rw[hlen2]
        refine⟨S',sk',σ',fun k hk=>⟨((q1 k (by omega)).1).trans (hb3 k hk).1,((q1 k (by omega)).2).trans (hb3 k hk).2⟩,fun k p h1 h2 hp=>?_,q3,q4,q5,fun u hu=>?_⟩
        ·rcases Ah k i' with hki|hki
         ·exact(e2 k p h1 hki hp).congr fun z hz=>⟨((q1 z (by omega)).1).trans (hS2 z (by omega)),((q1 z (by omega)).2).trans (hsk2 z (by omega))⟩
         ·by_cases hk2:k=i'
          ·subst hk2
           rw[hpi] at hp
           have:=A3 hp
           subst this
           have hcert:CertAt P X D ops (fun z=>if z=k then Slot.val ⟨.bool,t,[]⟩ none else S1 z) (fun z=>if z=k then false else sk1 z) σ0 k ⟨some d',.pick (.tmp c) x y,ty,pos,af,pg⟩:=by
            refine .inr ⟨if_pos rfl,fun j' w hg'=>?_,_,(e4.sees H (by omega) hpi).congr hS2,fun E a w hr=>?_⟩
            ·have hg2:pg=some (j',w):=hg'
             subst hg2
             have h1:=(hact (j',w) (by simpa[pgOk] using hpg)).congr hb3
             exact⟨by have:=h1.1;omega,h1.2⟩
            ·simp only[if_pos]
             have hlc:c∈Oper.looksAt ops ⟨some d',.pick (.tmp c) x y,ty,pos,af,pg⟩:=AO _ (Ad.2 ⟨.tmp c,by simp[Op.operands],rfl⟩)
             refine pick_upon rfl (v:=v) (t:=t) ?_ ?_ hr
             ·rw[opd_hide (fun u hu=>by cases hu;exact hlc)];exact e5
             ·have hop:opd (hide D (Oper.looksAt ops ⟨some d',.pick (.tmp c) x y,ty,pos,af,pg⟩) σ1) (bif v then x else y)=opd σ1 (bif v then x else y):=opd_hide fun u hu=>AO _ (Ad.2 ⟨.tmp u,by rw[<-hu];cases v<;>simp[Op.operands],rfl⟩)
              rw[hop];exact e6
           exact hcert.congr fun z hz=>q1 z (by omega)
          ·exact q2 k p (by omega) (by omega) hp
        ·rw[q6 u (fun q hq=>hu q (hmem2 q hq))]
         simp only[St.put]
         rw[Aq (fun e=>hu _ (AN _ A9) (by rw[e]))]
         exact clear_at g σ (fun q hq=>hu q (hmem q hq))
       cases hvw:(bif w0 then v else !v) with
       |true=>
        rw[hvw] at ht
        simp only[cond_true] at ht
        have hvw':v=w0:=bool_yes hvw
        subst hvw'
        obtain⟨S1,sk1,σ1,e1,e2,e3,e4,e5,e6⟩:=ih ht hc1 (fun q hq=>hi q (hmem q hq)) (by omega) (fun q hq=>hh q (hmem q hq)) hw hsk (by
         intro q hq
         rcases AU.1 hq with rfl|hq
         ·exact hgd
         ·exact hact q hq)
        rw[<-hi'2] at e2 e3 e4
        refine fin S1 sk1 σ1 e1 e2 e4 e3 ?_ e5
        rw[AR,e6 c hgc,<-AR];exact hv
       |false=>
        rw[hvw] at ht
        simp only[cond_false] at ht
        have hvw':v= !w0:=bool_no hvw
        have hwc:Walk ops (fun k=>if i<=k then .no else S k) σ0 (clearD g σ) i':=hw.clear (fun k hk=>if_neg (by omega)) (by omega) (fun j p h1 h2 hp=>hgin j p h1 (by omega) hp)
        refine fin (fun k=>if i<=k then .no else S k) (fun k=>if i<=k then true else sk k) (clearD g σ) (fun k hk=>⟨if_neg (by omega),if_neg (by omega)⟩) (fun k p h1 h2 hp=>?_) (fun k hk hs=>?_) hwc ?_ ?_
        ·have hin:=hgin k p h1 (by omega) hp
         have:=hall _ hin
         simp only[okG,okH,A4,AE,beq_eq_false_iff_ne,ne_eq] at this
         refine .inl ⟨if_pos h1,if_pos h1,?_⟩
         cases hgu:p.guard with
         |none=>rw[hgu] at this;exact absurd this.1.1 (by simp)
         |some z=>
          obtain⟨j',w'⟩:=z
          rw[hgu] at this
          simp only[A6,A4,beq_iff_eq,decide_eq_true_eq] at this
          rcases this.1.1 with⟨rfl,rfl⟩|⟨k1,k2⟩
          ·refine⟨j',w',rfl,by omega,.inr ⟨v,by rw[hvw'];cases w'<;>simp,?_⟩⟩
           have h3:=hgd.congr (S':=fun k=>if i<=k then .no else S k) (sk':=fun k=>if i<=k then true else sk k) (fun k hk=>⟨if_neg (by omega),if_neg (by omega)⟩)
           exact⟨by omega,h3.2⟩
          ·exact⟨j',w',rfl,k2,.inl (if_pos k1)⟩
        ·by_cases hk2:i<=k
         ·simp only[if_pos hk2]
         ·simp only[if_neg hk2] at hs ⊢;exact hsk k (by omega) hs
        ·have h8:(clearD g σ).fr[c]?=σ.fr[c]?:=clear_at g σ hgc
         rw[AR,h8,<-AR];exact hv
        ·have hxy:(bif v then x else y)=(bif w0 then y else x):=by rw[hvw'];cases w0<;>rfl
         rw[hxy];exact ht
    ·cases h
end
end Go.Proofs.YtibidhcmenljoaaDoor.V
namespace Go.Proofs.YtibidhcmenljoaaDoor.V
open Go
section
variable {P:Program} {X:Ctx} {E:Env} {σ0:St} {a:Act} {w:World} {R:Type} {ops:Array Oper} {D:List Nat} {m n:Nat} {inf:Nat->Tmp×Array Value×TypeId} {S:Nat->Slot} {sk:Nat->Bool}
theorem RelE.frames {A0 A1:Array Value} {σ:St} (hr:RelE X E σ0 A0 w) (hs:SameB σ0 σ) (hl:A1.size=A0.size) (h:∀ (i:Nat) s v,σ.fr[i]?=some s->A1[i]?=some v->SlotOk w (Fz X E σ0 w) E σ0 s v):RelE X E σ A1 w:=by
 rw[hs.eq]
 exact {hr with
  len:=by show σ.fr.length=_;rw[hs.len,hr.len,hl]
  slot:=fun i s v hs' hv=>(h i s v hs' hv).fr hr.ge
  bx:=fun b hb=>(hr.bx b hb).fr (hr.idlt b hb) hr.ge}
theorem SlotOk.frs {A:Nat->Prop} {σ:St} {s:Slot} {v:Value} (hs:SameB σ0 σ) (hge:∀τ∈σ0.al,2<=τ/\τ∉σ0.fz) (h:SlotOk w A E σ s v):SlotOk w A E σ0 s v:=by
 have h2:σ0={σ with fr:=σ0.fr}:=by
  obtain⟨fr,bx,al,fz,ln,nt⟩:=σ0
  obtain⟨h1,h2,h3,h4,h5,_⟩:=hs
  simp only at h1 h2 h3 h4 h5
  subst h1;subst h2;subst h3;subst h4;subst h5;rfl
 rw[h2]
 refine SlotOk.fr h (fun τ ht=>?_)
 rw[hs.al] at ht
 rw[hs.fz]
 exact hge τ ht
theorem fz_same {σ:St} (hs:SameB σ0 σ):Fz X E σ w=Fz X E σ0 w:=by
 funext b
 simp only[Fz,owned,hs.bx,hs.al]
theorem upon_same {σ:St} (hs:SameB σ0 σ) (hge:∀τ∈σ0.al,2<=τ/\τ∉σ0.fz) {s:Slot} {q:Result Next} (h:slotUpon P X E σ w s q):slotUpon P X E σ0 w s q:=by
 cases q with
 |halt x w2=>exact h
 |ok n w2=>
  cases n with
  |value u=>exact⟨h.1,by have:=h.2;rw[fz_same hs] at this;exact this.frs hs hge⟩
  |enter f args=>exact⟨h.1,h.2.mono fun e w3 ⟨v,h1,h2,h3⟩=>⟨v,h1,h2,by rw[fz_same hs] at h3;exact h3.frs hs hge⟩⟩
  |_=>exact h
theorem keep_outs {A0:Array Value} {l l':List Nat} {w1:World} (hr:RelE X (E.outs l) σ0 A0 w) (hx:Ext w w1) (hl:∀b∈l',b∈l\/w.heap.size<=b):Keep w w1 (Fz X (E.outs l) σ0 w) (Fz X (E.outs l') σ0 w1) (E.outs l) (E.outs l') σ0 σ0:=by
 have K:=hr.keepExt hx
 refine⟨fun b hb=>⟨⟨hb.1,AB hb.2.1 hx.size,fun ho=>hb.2.2 ?_⟩,hx.block b hb.2.1⟩,K.nt,fun _ _=>rfl,fun _ _=>rfl,fun _ _ h=>.inl h,K.al,K.ge,K.pin⟩
 simp only[owned,B6] at ho ⊢
 rcases ho with ho|ho|ho
 ·exact .inl ho
 ·exact .inr (.inl ho)
 ·rcases hl b ho with h|h
  ·exact .inr (.inr h)
  ·have:=hb.2.1;omega
structure HInv (X:Ctx) (E:Env) (ops:Array Oper) (m n:Nat) (inf:Nat->Tmp×Array Value×TypeId) (S:Nat->Slot) (sk:Nat->Bool) (σ0:St) (a:Act) (w:World) (bl:Nat->Nat) (l:List Nat) (listed:Array Bool) (a':Act) (w':World):Prop where
 head:HeadInv .any ops n listed
 ext:Ext w w'
 dfr:a'.defers=a.defers
 siz:a'.tmps.size=a.tmps.size
 oth:∀t,(∀i o,i<n->ops[i]?=some o->o.dst≠some t)->a'.tmps[t]?=a.tmps[t]?
 slt:∀i o d u,i<m->ops[i]?=some o->o.dst=some d->listed.getD i false=true->a'.tmps[d]?=some u->SlotOk w' (Fz X (E.outs (l++E.out)) σ0 w') (E.outs (l++E.out)) σ0 (S i) u
 skp:∀i o d u,i<m->ops[i]?=some o->o.dst=some d->listed.getD i false=true->sk i=true->a'.tmps[d]?=some u->u=undef
 new:∀i,m<=i->i<n->listed.getD i false=true->(∀b:Act,b.tmps.size=a.tmps.size->a'.tmps[(inf i).1]?=(b.put (some (inf i).1) (.pointer (some ⟨bl i,0,none⟩))).tmps[(inf i).1]?)/\
  w.heap.size<=bl i/\bl i<w'.heap.size/\w'.heap[bl i]?=some (.cells (inf i).2.1 (inf i).2.2 (0,0))
 inj:∀i j,m<=i->i<n->m<=j->j<n->listed.getD i false=true->listed.getD j false=true->bl i=bl j->i=j
 lnd:l.Nodup
 lfr:∀b∈l,w.heap.size<=b/\b<w'.heap.size
 lmem:∀i,m<=i->i<n->listed.getD i false=true->bl i∈l
theorem HInv.base {bl:Nat->Nat} {l:List Nat} {listed:Array Bool} {a':Act} {w':World} (inv:HInv X E ops m n inf S sk σ0 a w bl l listed a' w') (hr:RelE X E σ0 a.tmps w):RelE X (E.outs (l++E.out)) σ0 a.tmps w':=by
 refine(hr.world (w1:=w') (l:=l++E.out) (fun b hb _=>inv.ext.block b hb) (hr.fr.ext inv.ext) inv.ext.size ?_ (fun b hb=>?_)).1
 ·have ho:E.out.Nodup:=by
   have:=hr.nodup
   simp only[owned] at this
   exact(AP.1 (AP.1 this).2.1).2.1
  refine AP.2 ⟨inv.lnd,ho,fun b hb c hc he=>?_⟩
  have h1:=(inv.lfr b hb).1
  have h2:c<w.heap.size:=(hr.lt c (mem_out hr hc)).1
  omega
 ·rcases B6.1 hb with h|h
  ·exact⟨.inr (inv.lfr b h).1,(inv.lfr b h).2⟩
  ·exact⟨.inl h,AB (hr.lt b (mem_out hr h)).1 inv.ext.size⟩
theorem HInv.rel {bl:Nat->Nat} {l:List Nat} {listed:Array Bool} {a':Act} {w':World} (inv:HInv X E ops m n inf S sk σ0 a w bl l listed a' w') (hr:RelE X E σ0 a.tmps w) {σ:St} (hs:SameB σ0 σ)
  (h:∀t s,σ.fr[t]?=some s->s= .no\/((∀j p,j<n->ops[j]?=some p->p.dst≠some t)/\σ0.fr[t]?=some s)\/∃j p,j<m/\ops[j]?=some p/\p.dst=some t/\listed.getD j false=true/\s=S j):RelE X (E.outs (l++E.out)) σ a'.tmps w':=by
 have hr':=inv.base hr
 refine hr'.frames hs inv.siz (fun t s v h1 h2=>?_)
 rcases h t s h1 with h3|⟨h3,h4⟩|⟨j,p,q1,q2,q3,q4,q5⟩
 ·subst h3;trivial
 ·rw[inv.oth t h3] at h2
  exact hr'.slot t s v h4 h2
 ·subst q5
  exact inv.slt j p t v q1 q2 q3 q4 h2
theorem bare_upon {o:Oper} {s:Slot} {σ:St} (hb:bareOp o=true) (h:slotUpon P X E σ w s ((execOp a.eval o).run P w)):∃v,(execOp a.eval o).run P w= .ok (.value v) w/\Yields P ops o v a:=by
 simp only[bareOp,A4] at hb
 have hg:o.guard=none:=by simpa using hb.1
 have hw:AC o (yielded ops a.tmps)=true:=by simp[AC,hg]
 have h2:=hb.2
 split at h2
 ·rename_i x i ho
  simp only[execOp,ho,AQ] at h ⊢
  cases hx:a.eval x<;>simp[hx,Instr.extract,slotUpon] at h ⊢
  rename_i vs
  cases hi:vs[i]? with
  |none=>rw[hi] at h;simp[slotUpon] at h
  |some u=>
   simp only[AT,AI]
   exact⟨u,rfl,.inl ⟨hw,fun w'=>by simp[execOp,ho,hx,Instr.extract,hi]⟩⟩
 ·rename_i x ho
  exact⟨a.eval x,by simp[execOp,ho],.inl ⟨hw,fun w'=>by simp[execOp,ho]⟩⟩
 ·rename_i x ho
  exact⟨a.eval x,by simp[execOp,ho],.inl ⟨hw,fun w'=>by simp[execOp,ho]⟩⟩
 ·cases h2
theorem head_any {Q:Exit->Act->World->Prop} (hQp:∀c a w,¬Q (.panic c) a w) (hB:mixB ops m n=true) (H:HeadOk ops D m n) (hr:RelE X E σ0 a.tmps w) (hcert:∀i o,i<m->ops[i]?=some o->CertAt P X D ops S sk σ0 i o)
  (hnew:∀i,m<=i->i<n->∃o,ops[i]?=some o/\NewAt P o (inf i).1 (inf i).2.1 (inf i).2.2)
  (hQ:∀ (a':Act) (w':World) (bl:Nat->Nat) (l:List Nat) (listed:Array Bool),(∀i,i<n->listed.getD i false=true)->HInv X E ops m n inf S sk σ0 a w bl l listed a' w'->wpOps P ops Q (BI n (ops.size-n)) a' w'):
  ∀ (k:Nat) (listed:Array Bool) (a':Act) (w':World) (bl:Nat->Nat) (l:List Nat),(AZ n).countP (fun i=> !listed.getD i true)=k->HInv X E ops m n inf S sk σ0 a w bl l listed a' w'->wpAny P .any ops Q (k+(ops.size-n)) listed a' w':=by
 simp only[mixB,A4,decide_eq_true_eq,AH,AD] at hB
 obtain⟨⟨⟨⟨hsel,hmn⟩,hns⟩,hops⟩,htail⟩:=hB
 have hop:∀i,i<n->∃o d,ops[i]?=some o/\o.dst=some d/\(∀e∈o.after,Ai .any e=true->e.on<i)/\(∀j p,j<n->j≠i->ops[j]?=some p->p.dst≠some d)/\
   (i<m->∀j p t,j<n->ops[j]?=some p->p.dst=some t->t∈o.looksAt ops->j<i/\A8 .any ops i j=true)/\
   (n<ops.size->(lateB ops m n i=true->bareOp o=true/\∀j p,ops[j]?=some p->j≠i->A8 .any ops j i=true\/A8 .any ops i j=true\/o.apart ops p=true)/\
    (lateB ops m n i=false->∃j,j<=n/\i<j/\A8 .any ops j i=true/\(j=n\/lateB ops m n j=false))):=by
  intro i hi
  have h:=hops i hi
  cases ho:ops[i]? with
  |none=>rw[ho] at h;simp at h
  |some o=>
   rw[ho] at h
   simp only[A4,AH,AD] at h
   obtain⟨⟨⟨⟨h1,h2⟩,h3⟩,h4⟩,h5⟩:=h
   cases hd:o.dst with
   |none=>rw[hd] at h1;simp at h1
   |some d=>
    refine⟨o,d,rfl,hd,fun e he hb=>?_,fun j p hj hne hp he=>?_,fun him j p t hj hp ht hl=>?_,fun hlt=>?_⟩
    ·have:=Aj.1 h2 e he
     simp only[hb,Al,Ay,decide_eq_true_eq] at this
     exact this
    ·have:=h3 j hj
     rw[hp] at this
     simp only[A6,beq_iff_eq,AE,beq_eq_false_iff_ne,ne_eq] at this
     rcases this with h|h
     ·exact hne h
     ·exact h (he.trans hd.symm)
    ·simp only[A6,decide_eq_true_eq,AH,AD] at h4
     rcases h4 with h|h
     ·omega
     ·have:=h j hj
      rw[hp] at this
      simp only[AV,ht,A6,AE,A4,decide_eq_true_eq] at this
      rcases this with h|h
      ·simp[Ac,hl] at h
      ·exact⟨h.1.2,h.2⟩
    ·have h6:(bif lateB ops m n i then bareOp o&&(AZ ops.size).all (fun j=>j==i||A8 .any ops j i||A8 .any ops i j||(match ops[j]? with|some p=>o.apart ops p|none=>true))
       else(AZ (n+1)).any (fun j=>decide (i<j)&&A8 .any ops j i&&(j==n|| !lateB ops m n j)))=true:=by
      rcases A6 _ _▸h5 with h|h
      ·have:n=ops.size:=by simpa using h
       omega
      ·exact h
     refine⟨fun hla=>?_,fun hla=>?_⟩
     ·rw[hla] at h6
      simp only[cond_true,A4,AH,AD] at h6
      refine⟨h6.1,fun j p hp hne=>?_⟩
      have:=h6.2 j (AG.1 hp).1
      rw[hp] at this
      simp only[A6,beq_iff_eq] at this
      rcases this with((h|h)|h)|h
      ·exact absurd h hne
      ·exact .inl h
      ·exact .inr (.inl h)
      ·exact .inr (.inr h)
     ·rw[hla] at h6
      simp only[cond_false,Az,AD,A4,decide_eq_true_eq,A6,beq_iff_eq,AE] at h6
      obtain⟨j,h7,⟨h8,h9⟩,h10⟩:=h6
      exact⟨j,by omega,h8,h9,h10⟩
 intro k
 induction k with
 |zero=>
  intro listed a' w' bl l hk inv
  have hall:∀i,i<n->listed.getD i false=true:=by
   intro i hi
   refine listed_of_not (by rw[inv.head.size];omega) (fun h=>?_)
   have:=Aw.1 hk i (AD.2 hi)
   simp[h] at this
  rw[Ap]
  exact any_of_tail hQp hsel hns htail inv.head hall (hQ a' w' bl l listed hall inv)
 |succ k ih=>
  intro listed a' w' bl l hk inv
  rw[show k+1+(ops.size-n)=(k+(ops.size-n))+1 by omega]
  have hex:∃i,i<n/\listed.getD i true=false:=by
   obtain⟨i,hi,h⟩:=Ax.1 (show 0<(AZ n).countP (fun i=> !listed.getD i true) by omega)
   exact⟨i,AD.1 hi,by simpa using h⟩
  have hmin:∃i,i<n/\listed.getD i true=false/\i∈AL .any ops listed:=by
   obtain⟨i,hi,h⟩:=hex
   induction i using B7 with
   |_ i ihi=>
    by_cases hlow:∃j,j<i/\listed.getD j true=false
    ·obtain⟨j,hj,hj2⟩:=hlow
     exact ihi j hj (by omega) hj2
    ·obtain⟨o,d,e1,_,e3,_⟩:=hop i hi
     refine⟨i,hi,h,mem_ready.2 ⟨h,o,e1,fun e he hb=>?_⟩⟩
     have hlt:=e3 e he hb
     exact listed_of_not (by rw[inv.head.size];omega) (fun hn=>hlow ⟨e.on,hlt,hn⟩)
  have hcount:∀i,i<n->listed.getD i true=false->(AZ n).countP (fun j=> !(listed.setIfInBounds i true).getD j true)=k:=by
   intro i hin hun
   have:=countP_one (f:=fun j=> !listed.getD j true) (g:=fun j=> !(listed.setIfInBounds i true).getD j true) (i:=i) (B0) (AD.2 hin) (by simp only[hun];rfl)
    (by
     have hlt:i<listed.size:=by rw[inv.head.size];omega
     simp[A7,hlt])
    (fun j _ hj=>by
     have:=getD_set_ne (listed:=listed) true (Ne.symm hj)
     simp only[this])
   omega
  have hnext:∀i oi d v w2,i<m->ops[i]?=some oi->oi.dst=some d->i∈AL .any ops listed->Ext w' w2->SlotOk w2 (Fz X (E.outs (l++E.out)) σ0 w2) (E.outs (l++E.out)) σ0 (S i) v->(sk i=true->v=undef)->HInv X E ops m n inf S sk σ0 a w bl l (listed.setIfInBounds i true) (a'.put oi.dst v) w2:=by
   intro i oi d v w2 him hoi hd hi hw2 hv hs
   have hin:i<n:=by have:=H.le;omega
   obtain⟨o',d',e1,e2,_,e4,_,_⟩:=hop i hin
   rw[hoi] at e1
   have:=A3 e1
   subst this
   rw[hd] at e2
   have:=A3 e2
   subst this
   have head':=inv.head.set hi hin
   have K:=(inv.base hr).keepExt hw2
   have hput:∀t,t≠d->(a'.put oi.dst v).tmps[t]?=a'.tmps[t]?:=fun t ht=>put_other _ _ t (fun e=>ht (by rw[hd] at e;exact A3 e))
   have hself:∀u,(a'.put oi.dst v).tmps[d]?=some u->u=v:=by
    intro u hu
    rw[hd] at hu
    simp only[Act.put] at hu
    by_cases hlt:d<a'.tmps.size
    ·rw[AX hlt] at hu;exact(A3 hu).symm
    ·rw[An (by rw[Aa];exact Ag hlt)] at hu;cases hu
   refine⟨head',inv.ext.trans hw2,(put_defers _ _).trans inv.dfr,(put_size _ _).trans inv.siz,fun t ht=>?_,fun j p t u hj hp hpt hlj hu=>?_,fun j p t u hj hp hpt hlj hsj hu=>?_,fun j h1 h2 hlj=>?_,fun j l h1 h2 h3 h4 h5 h6=>?_,inv.lnd,fun b hb=>⟨(inv.lfr b hb).1,AB (inv.lfr b hb).2 hw2.size⟩,fun j h1 h2 hlj=>inv.lmem j h1 h2 (listed_set hlj (by omega))⟩
   ·rw[hput t (fun e=>ht i oi hin hoi (by rw[hd,e]))]
    exact inv.oth t ht
   ·by_cases hji:j=i
    ·subst hji
     rw[hoi] at hp
     have:=A3 hp
     subst this
     rw[hd] at hpt
     have:=A3 hpt
     subst this
     rw[hself u hu];exact hv
    ·rw[hput t (fun e=>e4 j p (by have:=H.le;omega) hji hp (by rw[hpt,e]))] at hu
     exact K.slot (inv.slt j p t u hj hp hpt (listed_set hlj hji) hu)
   ·by_cases hji:j=i
    ·subst hji
     rw[hoi] at hp
     have:=A3 hp
     subst this
     rw[hd] at hpt
     have:=A3 hpt
     subst this
     rw[hself u hu];exact hs hsj
    ·rw[hput t (fun e=>e4 j p (by have:=H.le;omega) hji hp (by rw[hpt,e]))] at hu
     exact inv.skp j p t u hj hp hpt (listed_set hlj hji) hsj hu
   ·have hji:j≠i:=by omega
    obtain⟨n1,n2,n3,n4⟩:=inv.new j h1 h2 (listed_set hlj hji)
    obtain⟨oj,hoj,hN⟩:=hnew j h1 h2
    refine⟨fun b hb=>?_,n2,AB n3 hw2.size,(hw2.block _ n3).trans n4⟩
    rw[hput _ (fun e=>e4 j oj h2 hji hoj (by rw[hN.dst,e]))]
    exact n1 b hb
   ·exact inv.inj j l h1 h2 h3 h4 (listed_set h5 (by omega)) (listed_set h6 (by omega))
  have hdo:∀i,i∈AL .any ops listed->i<m->∃oi d,ops[i]?=some oi/\oi.dst=some d/\((AC oi (yielded ops a'.tmps)=false/\sk i=true/\S i= .no)\/(AC oi (yielded ops a'.tmps)=true/\sk i=false/\slotUpon P X (E.outs (l++E.out)) σ0 w' (S i) ((execOp a'.eval oi).run P w'))):=by
   intro i hi hin
   obtain⟨hun,o',ho',hwait⟩:=mem_ready.1 hi
   have hle:=H.le
   obtain⟨oi,d,hoi,hd,e3,e4,e5,_⟩:=hop i (by omega)
   rw[hoi] at ho'
   have:=A3 ho'
   subst this
   refine⟨oi,d,hoi,hd,?_⟩
   have hlist:∀j p t,j<n->ops[j]?=some p->p.dst=some t->t∈oi.looksAt ops->listed.getD j false=true:=by
    intro j p t hj hp hpt ht
    obtain⟨_,hw⟩:=e5 hin j p t hj hp hpt ht
    obtain⟨o2,ho2,e,he,hb,hon⟩:=AM hw
    rw[hoi] at ho2
    have:=A3 ho2
    subst this
    have:=hwait e he hb
    rwa [hon] at this
   have hguard:∀j w,oi.guard=some (j,w)->j<i->∀c,dstOf ops j=some c->∃pj,ops[j]?=some pj/\pj.dst=some c/\listed.getD j false=true:=by
    intro j w hg hji c hc
    have hc':=hc
    unfold dstOf at hc'
    cases hp:ops[j]? with
    |none=>rw[hp] at hc';cases hc'
    |some pj=>
     rw[hp] at hc'
     refine⟨pj,rfl,hc',hlist j pj c (by omega) hp hc' ?_⟩
     refine AN _ ?_
     rw[hg]
     simp only[hp,AV]
     rw[show pj.dst=some c from hc']
     simp
   have hyes:∀j w v,oi.guard=some (j,w)->Guards ops S sk σ0.fr.length i j v->yielded ops a'.tmps j=some v:=by
    intro j w v hg hG
    obtain⟨h1,h2,c,h3,h4,ms,hm',h5⟩:=hG
    obtain⟨pj,q1,q2,q3⟩:=hguard j w hg h1 c h3
    have hlt:c<a'.tmps.size:=by rw[inv.siz,<-hr.len];exact h4
    have hs:=inv.slt j pj c _ (by omega) q1 q2 q3 (AJ hlt)
    rw[h5] at hs
    rw[yielded_dst h3,AJ hlt,val_bool hs]
   rcases hcert i oi hin hoi with⟨h1,h2,j,w,h3,h4,h5⟩|⟨h1,h2,σ,h3,h4⟩
   ·refine .inl ⟨?_,h1,h2⟩
    unfold AC
    rw[h3]
    rcases h5 with h5|⟨v,h5,h6⟩
    ·have:yielded ops a'.tmps j=none:=by
      cases hc:dstOf ops j with
      |none=>exact yielded_none hc
      |some c=>
       obtain⟨pj,q1,q2,q3⟩:=hguard j w h3 h4 c hc
       rw[yielded_dst hc]
       cases hz:a'.tmps[c]? with
       |none=>rfl
       |some u=>rw[inv.skp j pj c u (by omega) q1 q2 q3 h5 hz];rfl
     simp[this]
    ·have:=hyes j w v h3 h6
     simp[this,h5]
   ·refine .inr ⟨?_,h1,?_⟩
    ·unfold AC
     cases hg:oi.guard with
     |none=>rfl
     |some z=>
      obtain⟨j,w⟩:=z
      have:=hyes j w w hg (h2 j w hg)
      simp[this]
    ·refine upon_same h3.same hr.ge (h4 _ a' w' (inv.rel hr h3.same fun t s ht=>?_))
     rcases h3.slot t s ht with q1|⟨q1,q2⟩|⟨j,p,q1,q2,q3,q4,q5⟩
     ·exact .inl q1
     ·refine .inr (.inl ⟨fun j p hj hp he=>q1 ((H.mem t).2 ⟨j,p,hj,hp,he⟩),q2⟩)
     ·exact .inr (.inr ⟨j,p,by omega,q2,q3,hlist j p t (by omega) q2 q3 q4,q5⟩)
  by_cases hlt:∃i,i∈AL .any ops listed/\n<ops.size/\lateB ops m n i=true
  ·obtain⟨i,hi,hns',hla⟩:=hlt
   have him:i<m:=by simp only[lateB,A4,decide_eq_true_eq] at hla;exact hla.1
   obtain⟨hun,_,_,hwait⟩:=mem_ready.1 hi
   obtain⟨oi,d,hoi,hd,hcase⟩:=hdo i hi him
   have hle:=H.le
   obtain⟨o,d',e1,e2,e3,e4,e5,e6⟩:=hop i (by omega)
   rw[hoi] at e1
   have:=A3 e1
   subst this
   obtain⟨hbare,hap⟩:=(e6 hns').1 hla
   have hgn:oi.guard=none:=by simp only[bareOp,A4] at hbare;simpa using hbare.1
   rcases hcase with⟨h1,_⟩|⟨_,h2,h3⟩
   ·simp[AC,hgn] at h1
   ·obtain⟨v,hv,hy⟩:=bare_upon (ops:=ops) hbare h3
    rw[hv] at h3
    refine wpAny_first hoi (fun j oj cs b hj=>Ab hsel j oj cs b hj) (fun c a w h=>absurd h (hQp c _ w)) _ _ _ _ (fun j oj hj hji hju hno=>?_) hi hy (ih _ _ _ bl l (hcount i (by omega) hun) (hnext i oi d v w' him hoi hd hi (Ext.refl _) h3.2 (fun h=>by rw[h2] at h;cases h)))
    rcases hap j oj hj hji with h|h|h
    ·obtain⟨o',ho',e,he,hb,hon⟩:=AM h
     rw[hj] at ho'
     have:=A3 ho'
     subst this
     exact absurd hon (hno e he hb)
    ·obtain⟨o',ho',e,he,hb,hon⟩:=AM h
     obtain⟨_,o2,ho2,hw2⟩:=mem_ready.1 hi
     rw[ho'] at ho2
     have:=A3 ho2
     subst this
     have h1:=hw2 e he hb
     rw[hon,getD_both hju] at h1
     cases h1
    ·exact h
  have hlow:∀i∈AL .any ops listed,i<n:=by
   intro i hi
   obtain⟨hun,oi,hoi,_⟩:=mem_ready.1 hi
   have hlt':i<ops.size:=(AG.1 hoi).1
   rcases Ah i n with h|h
   ·exact h
   ·exfalso
    rcases(Or.inr htail:n=ops.size\/tailB ops n=true) with h'|h2
    ·omega
    ·obtain⟨j,hj,hj2,hj3⟩:=hmin
     have hnl:lateB ops m n j=false:=by
      cases hla:lateB ops m n j with
      |false=>rfl
      |true=>exact absurd ⟨j,hj3,by omega,hla⟩ hlt
     exact tail_waits2 (fun i hi hl=>((hop i hi).choose_spec.choose_spec.2.2.2.2.2 (by omega)).2 hl) h2 (by omega) inv.head _ j rfl hj hnl hj2 i h hi
  refine⟨fun h=>?_,fun i hi=>?_⟩
  ·obtain⟨i,_,_,hi⟩:=hmin
   rw[h] at hi;cases hi
  ·have hin:=hlow i hi
   obtain⟨hun,_,_,_⟩:=mem_ready.1 hi
   by_cases him:i<m
   ·obtain⟨oi,d,hoi,hd,hcase⟩:=hdo i hi him
    unfold wpOp
    simp only[hoi]
    rcases hcase with⟨h1,h2,h3⟩|⟨h1,h2,h3⟩
    ·simp only[h1,Am,if_false]
     exact ih _ _ _ bl l (hcount i hin hun) (hnext i oi d undef w' him hoi hd hi (Ext.refl _) (by rw[h3];trivial) (fun _=>rfl))
    ·simp only[h1,if_true]
     left
     unfold Oper.wp
     generalize (execOp a'.eval oi).run P w'=q at h3
     cases q with
     |halt x w2=>exact h3.elim
     |ok n w2=>
      cases n with
      |value u=>simp only[Oper.upon];exact ih _ _ _ bl l (hcount i hin hun) (hnext i oi d u w2 him hoi hd hi h3.1 h3.2 (fun h=>by rw[h2] at h;cases h))
      |enter f args=>
       obtain⟨e1,hc⟩:=h3
       simp only[Oper.upon]
       rw[e1]
       exact hc.mono fun e w3 ⟨v,he,hx,hs⟩=>by
        subst he
        exact ih _ _ _ bl l (hcount i hin hun) (hnext i oi d v w3 him hoi hd hi hx hs (fun h=>by rw[h2] at h;cases h))
      |_=>exact h3.elim
   ·-- a new box
    obtain⟨oi,d,hoi,e2,e3,e4,e5,_⟩:=hop i hin
    obtain⟨oj,hoj,hN⟩:=hnew i (by omega) hin
    rw[hoi] at hoj
    have:=A3 hoj
    subst this
    have head':=inv.head.set hi hin
    have hd:d=(inf i).1:=by have:=hN.dst;rw[e2] at this;exact A3 this
    unfold wpOp
    simp only[hoi,AC,hN.guard,if_true]
    left
    unfold Oper.wp
    rw[hN.run a' w',Oper.upon_value]
    have hext:=Ext.alloc w' (.cells (inf i).2.1 (inf i).2.2)
    have K:=keep_outs (l':=(w'.heap.size::l)++E.out) (inv.base hr) hext (fun b hb=>by
     rcases AU.1 hb with rfl|hb
     ·exact .inr (AW _)
     ·exact .inl hb)
    refine ih _ _ _ (fun j=>if j=i then w'.heap.size else bl j) (w'.heap.size::l) (hcount i hin hun) ?_
    have hput:∀t,t≠d->(a'.put oi.dst (.pointer (some ⟨w'.heap.size,0,none⟩))).tmps[t]?=a'.tmps[t]?:=fun t ht=>put_other _ _ t (fun e=>ht (by rw[e2] at e;exact A3 e))
    refine⟨head',inv.ext.trans hext,(put_defers _ _).trans inv.dfr,(put_size _ _).trans inv.siz,fun t ht=>?_,fun j p t u hj hp hpt hlj hu=>?_,fun j p t u hj hp hpt hlj hsj hu=>?_,fun j h1 h2 hlj=>?_,fun j l h1 h2 h3 h4 h5 h6 h7=>?_,?_,fun b hb=>?_,fun j h1 h2 hlj=>?_⟩
    ·rw[hput t (fun e=>ht i oi hin hoi (by rw[e2,e]))]
     exact inv.oth t ht
    ·have hji:j≠i:=by omega
     rw[hput t (fun e=>e4 j p (by omega) hji hp (by rw[hpt,e]))] at hu
     exact K.slot (inv.slt j p t u hj hp hpt (listed_set hlj hji) hu)
    ·have hji:j≠i:=by omega
     rw[hput t (fun e=>e4 j p (by omega) hji hp (by rw[hpt,e]))] at hu
     exact inv.skp j p t u hj hp hpt (listed_set hlj hji) hsj hu
    ·by_cases hji:j=i
     ·subst hji
      simp only[if_true]
      refine⟨fun b hb=>?_,inv.ext.size,by simp,heap_alloc_new w' _⟩
      rw[e2,<-hd]
      exact put_same (inv.siz.trans hb.symm)
     ·simp only[if_neg hji]
      obtain⟨n1,n2,n3,n4⟩:=inv.new j h1 h2 (listed_set hlj hji)
      obtain⟨oj,hoj,hNj⟩:=hnew j h1 h2
      refine⟨fun b hb=>?_,n2,AB n3 hext.size,(hext.block _ n3).trans n4⟩
      rw[hput _ (fun e=>e4 j oj h2 hji hoj (by rw[hNj.dst,e]))]
      exact n1 b hb
    ·by_cases hji:j=i
     ·by_cases hli:l=i
      ·omega
      ·simp only[hji,if_true,if_neg hli] at h7
       have:=(inv.new l h3 h4 (listed_set h6 hli)).2.2.1
       omega
     ·by_cases hli:l=i
      ·simp only[hli,if_true,if_neg hji] at h7
       have:=(inv.new j h1 h2 (listed_set h5 hji)).2.2.1
       omega
      ·simp only[if_neg hji,if_neg hli] at h7
       exact inv.inj j l h1 h2 h3 h4 (listed_set h5 hji) (listed_set h6 hli) h7
    ·refine B8.2 ⟨fun h=>?_,inv.lnd⟩
     have:=(inv.lfr _ h).2
     omega
    ·rcases AU.1 hb with rfl|hb
     ·exact⟨inv.ext.size,by simp⟩
     ·exact⟨(inv.lfr b hb).1,AB (inv.lfr b hb).2 hext.size⟩
    ·by_cases hji:j=i
     ·simp[hji]
     ·simp only[if_neg hji]
      exact A5 _ (inv.lmem j h1 h2 (listed_set hlj hji))
end
end Go.Proofs.YtibidhcmenljoaaDoor.V
namespace Go.Proofs.YtibidhcmenljoaaDoor.V
open Go
section
variable {P:Program} {X:Ctx} {E:Env} {σ:St} {A0:Array Value} {a:Act} {w:World} {R:Type} {ops:Array Oper} {D:List Nat} {m n q:Nat} {inf:Nat->Tmp×Array Value×TypeId} {S:Nat->Slot} {sk:Nat->Bool} {ids:List Nat} {idf:Nat->Nat}
theorem poison_mem {b:Bx} (h:b∈(poison ids σ).bx):(b.id∈ids/\b.x=⟨.unit,(),[]⟩/\∃c∈σ.bx,c.id=b.id)\/(b∈σ.bx/\b.id∉ids):=by
 simp only[poison,Ae] at h
 obtain⟨c,hc,he⟩:=h
 cases hb:ids.contains c.id with
 |true=>
  rw[hb] at he
  simp only[cond_true] at he
  subst he
  exact .inl ⟨by simpa using hb,rfl,c,hc,rfl⟩
 |false=>
  rw[hb] at he
  simp only[cond_false] at he
  subst he
  exact .inr ⟨hc,by simpa using hb⟩
theorem mem_poison {c:Bx} (hc:c∈σ.bx) (hi:c.id∈ids):⟨c.id,⟨.unit,(),[]⟩⟩∈(poison ids σ).bx:=by
 simp only[poison,Ae]
 exact⟨c,hc,by simp[hi]⟩
theorem poison_ids:(poison ids σ).bx.map (·.id)=σ.bx.map (·.id):=by
 simp only[poison,List.map_map]
 apply List.map_congr_left
 intro b _
 simp only[Function.comp]
 cases ids.contains b.id<;>rfl
theorem owned_ids {σ1 σ2:St} (h1:σ1.bx.map (·.id)=σ2.bx.map (·.id)) (h2:σ1.al=σ2.al):owned E σ1=owned E σ2:=by
 have h3:∀l:List Bx,l.map (fun b=>(E.ad b.id).1)=(l.map (·.id)).map (fun i=>(E.ad i).1):=fun l=>by simp
 simp only[owned,h3,h1,h2]
theorem fz_ids {σ1 σ2:St} (h1:σ1.bx.map (·.id)=σ2.bx.map (·.id)) (h2:σ1.al=σ2.al):Fz X E σ1 w=Fz X E σ2 w:=by
 funext b
 simp only[Fz,owned_ids h1 h2]
theorem keep_bx {σ1 σ2:St} (h1:σ2.bx.map (·.id)=σ1.bx.map (·.id)) (h2:σ2.al=σ1.al) (h3:σ2.fz=σ1.fz) (h4:σ2.nt=σ1.nt) (hge:∀τ∈σ1.al,2<=τ/\τ∉σ1.fz):Keep w w (Fz X E σ1 w) (Fz X E σ2 w) E E σ1 σ2:=
 ⟨fun b hb=>⟨by rw[fz_ids h1 h2];exact hb,rfl⟩,by rw[h4];exact AW _,fun _ _=>rfl,fun _ _=>rfl,fun τ _ h=>.inl (by rw[h3] at h;exact h),fun τ _ h=>⟨by rw[h2] at h;exact h,fun _ _=>rfl⟩,hge,fun _ h=>⟨h,rfl⟩⟩
theorem RelE.poison (hr:RelE X E σ A0 w) (ids:List Nat):RelE X E (poison ids σ) A0 w:=by
 have K:Keep w w (Fz X E σ w) (Fz X E (V.poison ids σ) w) E E σ (V.poison ids σ):=keep_bx poison_ids rfl rfl rfl hr.ge
 have ho:owned E (V.poison ids σ)=owned E σ:=owned_ids poison_ids rfl
 refine {hr with
  slot:=fun i s v hs hv=>K.slot (hr.slot i s v hs hv)
  bx:=fun b hb=>?_
  nodup:=by rw[ho];exact hr.nodup
  lt:=fun b hb=>hr.lt b (by rw[ho] at hb;exact hb)
  ids:=by rw[poison_ids];exact hr.ids
  idlt:=fun b hb=>?_
  srcb:=fun b hb=>?_
  pinlt:=fun b hb=>by rw[ho];exact hr.pinlt b hb}
 ·rcases poison_mem hb with⟨_,h2,c,h3,h4⟩|⟨h1,_⟩
  ·obtain⟨cs,cc,e,_,_,k3,k4,_⟩:=hr.bx c h3
   rw[h4] at k3 k4
   refine⟨[],cc,e,?_,?_,k3,by simp;omega,fun j v hv=>by simp at hv⟩
   ·rw[h2];rfl
   ·rw[h2];rfl
  ·exact K.bx (hr.bx b h1) (hr.idlt b h1) rfl
 ·rcases poison_mem hb with⟨_,_,c,h3,h4⟩|⟨h1,_⟩
  ·rw[<-h4];exact hr.idlt c h3
  ·exact hr.idlt b h1
 ·rcases poison_mem hb with⟨_,h2,c,h3,h4⟩|⟨h1,_⟩
  ·have:=hr.srcb c h3
   rw[h4] at this
   refine this.imp (fun⟨s,h5,h6⟩=>⟨s,?_,h6⟩) id
   rw[h2];exact Nat.zero_le _
  ·exact hr.srcb b h1
theorem RelE.poke (hr:RelE X E σ A0 w) {id:Nat} (hmem:⟨id,⟨.unit,(),[]⟩⟩∈σ.bx) {cur:Array Value} {e:TypeId} {cs:List Value} (hb:w.heap[(E.ad id).1]?=some (.cells cur e (0,0))) (hfit:(E.ad id).2+cs.length<=cur.size)
  (hM:(∃s,cs.length<=s/\(id,E.ad id,s)∈X.pbx)\/X.w0.heap.size<=(E.ad id).1):
  RelE X E σ A0 (w.setRow (E.ad id).1 (splice cur (E.ad id).2 cs))/\Keep w (w.setRow (E.ad id).1 (splice cur (E.ad id).2 cs)) (Fz X E σ w) (Fz X E σ (w.setRow (E.ad id).1 (splice cur (E.ad id).2 cs))) E E σ σ:=by
 have hne:∀b,b∈σ.bx->b.id≠id->(E.ad b.id).1≠(E.ad id).1:=by
  intro b hb' hbid he
  have hn:=hr.nodup
  simp only[owned] at hn
  have hn1:=(AP.1 hn).1
  have hinj:=inj_of_nodup (f:=fun b:Bx=>(E.ad b.id).1) hn1 hb' hmem he
  exact hbid (by rw[hinj])
 have hal:∀τ∈σ.al,∀g,E.hd τ=some g->g≠(E.ad id).1:=by
  intro τ hτ g hg he
  have hn:=hr.nodup
  simp only[owned] at hn
  exact(AP.1 hn).2.2 _ (Ae.2 ⟨_,hmem,rfl⟩) g (AO _ (Au.2 ⟨τ,hτ,by simp[tokB,hg]⟩)) he.symm
 have hother:∀b,b≠(E.ad id).1->(w.setRow (E.ad id).1 (splice cur (E.ad id).2 cs)).heap[b]?=w.heap[b]?:=fun b hb'=>setRow_other w _ b _ hb'
 have K:Keep w (w.setRow (E.ad id).1 (splice cur (E.ad id).2 cs)) (Fz X E σ w) (Fz X E σ (w.setRow (E.ad id).1 (splice cur (E.ad id).2 cs))) E E σ σ:=
  ⟨fun b hb'=>⟨⟨hb'.1,by simpa[B1] using hb'.2.1,hb'.2.2⟩,hother b (fun he=>hb'.2.2 (he▸mem_owned_bx hmem))⟩,AW _,fun _ _=>rfl,fun _ _=>rfl,fun _ _ h=>.inl h,fun τ _ hτ=>⟨hτ,fun g hg=>hother g (hal τ hτ g hg)⟩,hr.ge,fun b hb'=>⟨hb',hother b (fun he=>(hr.pinlt b hb').2 (he▸mem_owned_bx hmem))⟩⟩
 refine⟨{hr with
  slot:=fun i s u hs hu=>K.slot (hr.slot i s u hs hu)
  bx:=fun b hb'=>?_
  lt:=fun b hb'=>⟨by simpa[B1] using(hr.lt b hb').1,(hr.lt b hb').2⟩
  fr:=hr.fr.setRow hb (splice_size hfit) (fun hlt o ho=>?_)
  pinlt:=fun b hb'=>⟨by simpa[B1] using(hr.pinlt b hb').1,(hr.pinlt b hb').2⟩},K⟩
 ·by_cases hbi:b.id=id
  ·obtain⟨c1,c2,c3,h1,h2,h3,h4,h5⟩:=hr.bx b hb'
   have hx:b=⟨id,⟨.unit,(),[]⟩⟩:=inj_of_nodup (f:=fun b:Bx=>b.id) hr.ids hb' hmem hbi
   subst hx
   refine⟨[],_,e,rfl,rfl,setRow_heap w _ cur _ e _ hb,?_,fun j v hv=>by simp at hv⟩
   rw[splice_size hfit]
   simp only[B9]
   omega
  ·exact K.bx (hr.bx b hb') (hr.idlt b hb') (hother _ (hne b hb' hbi))
 ·rw[splice_get hfit]
  rcases hM with⟨s,h0,h1⟩|h1
  ·split
   ·rfl
   ·split
    ·exact absurd (hr.pbm _ h1 o (by dsimp only;omega) (by dsimp only;omega)) ho
    ·rfl
  ·omega
theorem RelE.fill (hr:RelE X E σ A0 w) {σ':St} {id:Nat} {x:Val} {cs:List Value} {cur:Array Value} {e:TypeId} (h1:σ'.bx.map (·.id)=σ.bx.map (·.id)) (h2:σ'.al=σ.al) (h3:σ'.fz=σ.fz) (h4:σ'.nt=σ.nt) (h5:σ'.ln=σ.ln) (h6:σ'.fr=σ.fr)
  (hbx:∀b∈σ'.bx,b=⟨id,x⟩\/b∈σ.bx) (hid:id<σ.nt) (hv:Rv w (Fz X E σ w) E σ x.t x.v x.ms cs) (hms:x.ms.length=x.t.nl) (hb:w.heap[(E.ad id).1]?=some (.cells cur e (0,0))) (hfit:(E.ad id).2+cs.length<=cur.size) (hat:At w (E.ad id).1 (E.ad id).2 cs)
  (hM:(∃s,x.t.size<=s/\(id,E.ad id,s)∈X.pbx)\/X.w0.heap.size<=(E.ad id).1):RelE X E σ' A0 w:=by
 have K:Keep w w (Fz X E σ w) (Fz X E σ' w) E E σ σ':=keep_bx h1 h2 h3 h4 hr.ge
 have ho:owned E σ'=owned E σ:=owned_ids h1 h2
 exact {hr with
  len:=by rw[h6];exact hr.len
  slot:=fun i s v hs hv=>K.slot (hr.slot i s v (by rw[h6] at hs;exact hs) hv)
  bx:=fun b hb'=>by
   rcases hbx b hb' with rfl|hb'
   ·exact⟨cs,cur,e,K.rv hv,hms,hb,hfit,hat⟩
   ·exact K.bx (hr.bx b hb') (hr.idlt b hb') rfl
  nodup:=by rw[ho];exact hr.nodup
  lt:=fun b hb=>hr.lt b (by rw[ho] at hb;exact hb)
  ids:=by rw[h1];exact hr.ids
  idlt:=fun b hb'=>by
   rw[h4]
   rcases hbx b hb' with rfl|hb'
   ·exact hid
   ·exact hr.idlt b hb'
  aln:=by rw[h2];exact hr.aln
  alr:=fun τ hτ=>by rw[h2] at hτ;rw[h3,h4];exact hr.alr τ hτ
  fzr:=fun τ hτ=>by rw[h3] at hτ;rw[h4];exact hr.fzr τ hτ
  nt2:=by rw[h4];exact hr.nt2
  srct:=fun τ hτ=>hr.srct τ (by rw[h2] at hτ;exact hτ)
  srcb:=fun b hb'=>by
   rcases hbx b hb' with rfl|hb'
   ·exact hM
   ·exact hr.srcb b hb'
  lnr:=fun p hp=>hr.lnr p (by rw[h5] at hp;exact hp)
  lnlt:=fun p hp=>by rw[h5] at hp;rw[h4];exact hr.lnlt p hp
  pinlt:=fun b hb=>by rw[ho];exact hr.pinlt b hb
  adx:=fun p hp=>by rw[h4];exact hr.adx p hp
  hdx:=fun p hp=>by rw[h4];exact hr.hdx p hp}
def StoreAt (T:Tabs) (σ σ1:St) (D:List Nat) (o:Oper) (id:Nat):Prop:=
 o.guard=none/\o.dst=none/\∃t p x tt r t' y v ms,o.op= .store t (.tmp p) x/\T.T t=some tt/\p∉D/\σ.fr[p]?=some (.ptr id r [] t')/\⟨id,y⟩∈σ.bx/\y.t=tt/\coe tt (opd σ1 x)=some (v,ms)
structure EInv (T:Tabs) (X:Ctx) (E:Env) (ops:Array Oper) (m n q:Nat) (inf:Nat->Tmp×Array Value×TypeId) (S:Nat->Slot) (sk:Nat->Bool) (σ:St) (ids:List Nat) (idf:Nat->Nat) (a:Act) (w:World) (bl:Nat->Nat) (l:List Nat) (listed:Array Bool) (a':Act) (w':World):Prop where
 head:HeadInv .any ops q listed
 base:RelE X (E.outs (l++E.out)) (poison ids σ) a.tmps w'
 hsz:w.heap.size<=w'.heap.size
 dfr:a'.defers=a.defers
 siz:a'.tmps.size=a.tmps.size
 oth:∀t,(∀i o,i<n->ops[i]?=some o->o.dst≠some t)->a'.tmps[t]?=a.tmps[t]?
 slt:∀i o d u,i<m->ops[i]?=some o->o.dst=some d->listed.getD i false=true->a'.tmps[d]?=some u->SlotOk w' (Fz X (E.outs (l++E.out)) (poison ids σ) w') (E.outs (l++E.out)) (poison ids σ) (S i) u
 skp:∀i o d u,i<m->ops[i]?=some o->o.dst=some d->listed.getD i false=true->sk i=true->a'.tmps[d]?=some u->u=undef
 new:∀i,m<=i->i<n->listed.getD i false=true->(∀b:Act,b.tmps.size=a.tmps.size->a'.tmps[(inf i).1]?=(b.put (some (inf i).1) (.pointer (some ⟨bl i,0,none⟩))).tmps[(inf i).1]?)/\
  w.heap.size<=bl i/\bl i<w'.heap.size/\w'.heap[bl i]?=some (.cells (inf i).2.1 (inf i).2.2 (0,0))
 inj:∀i j,m<=i->i<n->m<=j->j<n->listed.getD i false=true->listed.getD j false=true->bl i=bl j->i=j
 lfr:∀b∈l,w.heap.size<=b/\b<w'.heap.size
 lmem:∀i,m<=i->i<n->listed.getD i false=true->bl i∈l
 sto:∀i o t p x tt,n<=i->i<q->ops[i]?=some o->o.op= .store t (.tmp p) x->T.T t=some tt->∃cur e,w'.heap[(E.ad (idf i)).1]?=some (.cells cur e (0,0))/\(E.ad (idf i)).2+tt.size<=cur.size/\
  (listed.getD i false=true->∀ (j:Nat) u,(a'.eval x).cells[j]?=some u->cur[(E.ad (idf i)).2+j]?=some u)
theorem EInv.rel {T:Tabs} {bl:Nat->Nat} {l:List Nat} {listed:Array Bool} {a':Act} {w':World} (inv:EInv T X E ops m n q inf S sk σ ids idf a w bl l listed a' w') {σ2:St} (hs:SameB (poison ids σ) σ2)
  (h:∀t s,σ2.fr[t]?=some s->s= .no\/((∀j p,j<n->ops[j]?=some p->p.dst≠some t)/\σ.fr[t]?=some s)\/∃j p,j<m/\ops[j]?=some p/\p.dst=some t/\listed.getD j false=true/\s=S j):RelE X (E.outs (l++E.out)) σ2 a'.tmps w':=by
 refine inv.base.frames hs inv.siz (fun t s v h1 h2=>?_)
 rcases h t s h1 with h3|⟨h3,h4⟩|⟨j,p,q1,q2,q3,q4,q5⟩
 ·subst h3;trivial
 ·rw[inv.oth t h3] at h2
  exact inv.base.slot t s v h4 h2
 ·subst q5
  exact inv.slt j p t v q1 q2 q3 q4 h2
theorem early_any (T:Tabs) (hT:TabOk P T.T) {σ1:St} {Q:Exit->Act->World->Prop} (hQp:∀c a w,¬Q (.panic c) a w) (hB:earlyB ops m n q=true) (H:HeadOk ops D m n) (hr:RelE X E σ a.tmps w) (hcert:∀i o,i<m->ops[i]?=some o->CertAt P X D ops S sk (poison ids σ) i o)
  (hw1:Walk ops S (poison ids σ) σ1 m) (hst:∀i o,n<=i->i<q->ops[i]?=some o->StoreAt T σ σ1 D o (idf i)/\idf i∈ids) (hidf:∀i j,n<=i->i<q->n<=j->j<q->idf i=idf j->i=j)
  (hnew:∀i,m<=i->i<n->∃o,ops[i]?=some o/\NewAt P o (inf i).1 (inf i).2.1 (inf i).2.2)
  (hQ:∀ (a':Act) (w':World) (bl:Nat->Nat) (l:List Nat) (listed:Array Bool),(∀i,i<q->listed.getD i false=true)->EInv T X E ops m n q inf S sk σ ids idf a w bl l listed a' w'->wpOps P ops Q (BI q (ops.size-q)) a' w'):
  ∀ (k:Nat) (listed:Array Bool) (a':Act) (w':World) (bl:Nat->Nat) (l:List Nat),(AZ q).countP (fun i=> !listed.getD i true)=k->EInv T X E ops m n q inf S sk σ ids idf a w bl l listed a' w'->wpAny P .any ops Q (k+(ops.size-q)) listed a' w':=by
 simp only[earlyB,A4,decide_eq_true_eq,AH,AD] at hB
 obtain⟨⟨⟨⟨⟨hsel,hmn⟩,hnq⟩,hns⟩,hops⟩,htail⟩:=hB
 have hop:∀i,i<q->∃o,ops[i]?=some o/\(∀e∈o.after,Ai .any e=true->e.on<i)/\(i<n->∃d,o.dst=some d/\∀j p,j<n->j≠i->ops[j]?=some p->p.dst≠some d)/\
   ((i<m\/n<=i)->∀j p t,j<n->ops[j]?=some p->p.dst=some t->t∈o.looksAt ops->j<m/\j<i/\A8 .any ops i j=true)/\
   (q<ops.size->(lateB ops m q i=true->bareOp o=true/\∀j p,ops[j]?=some p->j≠i->A8 .any ops j i=true\/A8 .any ops i j=true\/o.apart ops p=true)/\
    (lateB ops m q i=false->∃j,j<=q/\i<j/\A8 .any ops j i=true/\(j=q\/lateB ops m q j=false))):=by
  intro i hi
  have h:=hops i hi
  cases ho:ops[i]? with
  |none=>rw[ho] at h;simp at h
  |some o=>
   rw[ho] at h
   simp only[A4,AH,AD] at h
   obtain⟨⟨⟨h2,h13⟩,h4⟩,h5⟩:=h
   refine⟨o,rfl,fun e he hb=>?_,fun hin=>?_,fun him j p t hj hp ht hl=>?_,fun hlt=>?_⟩
   ·have:=Aj.1 h2 e he
    simp only[hb,Al,Ay,decide_eq_true_eq] at this
    exact this
   ·simp only[A6,decide_eq_true_eq,A4,AH,AD] at h13
    rcases h13 with h|⟨h1,h3⟩
    ·omega
    ·cases hd:o.dst with
     |none=>rw[hd] at h1;simp at h1
     |some d=>
      refine⟨d,rfl,fun j p hj hne hp he=>?_⟩
      have:=h3 j hj
      rw[hp] at this
      simp only[beq_iff_eq,AE,beq_eq_false_iff_ne,ne_eq] at this
      rcases this with h|h
      ·exact hne h
      ·exact h (he.trans hd.symm)
   ·simp only[A6,A4,decide_eq_true_eq,AH,AD] at h4
    rcases h4 with h|h
    ·omega
    ·have:=h j hj
     rw[hp] at this
     simp only[AV,ht,A6,AE,A4,decide_eq_true_eq] at this
     rcases this with h|h
     ·simp[Ac,hl] at h
     ·exact⟨h.1.1,h.1.2,h.2⟩
   ·have h6:(bif lateB ops m q i then bareOp o&&(AZ ops.size).all (fun j=>j==i||A8 .any ops j i||A8 .any ops i j||(match ops[j]? with|some p=>o.apart ops p|none=>true))
      else(AZ (q+1)).any (fun j=>decide (i<j)&&A8 .any ops j i&&(j==q|| !lateB ops m q j)))=true:=by
     rcases A6 _ _▸h5 with h|h
     ·have:q=ops.size:=by simpa using h
      omega
     ·exact h
    refine⟨fun hla=>?_,fun hla=>?_⟩
    ·rw[hla] at h6
     simp only[cond_true,A4,AH,AD] at h6
     refine⟨h6.1,fun j p hp hne=>?_⟩
     have:=h6.2 j (AG.1 hp).1
     rw[hp] at this
     simp only[A6,beq_iff_eq] at this
     rcases this with((h|h)|h)|h
     ·exact absurd h hne
     ·exact .inl h
     ·exact .inr (.inl h)
     ·exact .inr (.inr h)
    ·rw[hla] at h6
     simp only[cond_false,Az,AD,A4,decide_eq_true_eq,A6,beq_iff_eq,AE] at h6
     obtain⟨j,h7,⟨h8,h9⟩,h10⟩:=h6
     exact⟨j,by omega,h8,h9,h10⟩
 have hdD:∀t,t∉D->∀i o,i<n->ops[i]?=some o->o.dst≠some t:=fun t ht i o hi ho he=>ht ((H.mem t).2 ⟨i,o,hi,ho,he⟩)
 intro k
 induction k with
 |zero=>
  intro listed a' w' bl l hk inv
  have hall:∀i,i<q->listed.getD i false=true:=by
   intro i hi
   refine listed_of_not (by rw[inv.head.size];omega) (fun h=>?_)
   have:=Aw.1 hk i (AD.2 hi)
   simp[h] at this
  rw[Ap]
  exact any_of_tail hQp hsel hns htail inv.head hall (hQ a' w' bl l listed hall inv)
 |succ k ih=>
  intro listed a' w' bl l hk inv
  rw[show k+1+(ops.size-q)=(k+(ops.size-q))+1 by omega]
  have hex:∃i,i<q/\listed.getD i true=false:=by
   obtain⟨i,hi,h⟩:=Ax.1 (show 0<(AZ q).countP (fun i=> !listed.getD i true) by omega)
   exact⟨i,AD.1 hi,by simpa using h⟩
  have hmin:∃i,i<q/\listed.getD i true=false/\i∈AL .any ops listed:=by
   obtain⟨i,hi,h⟩:=hex
   induction i using B7 with
   |_ i ihi=>
    by_cases hlow:∃j,j<i/\listed.getD j true=false
    ·obtain⟨j,hj,hj2⟩:=hlow
     exact ihi j hj (by omega) hj2
    ·obtain⟨o,e1,e3,_⟩:=hop i hi
     refine⟨i,hi,h,mem_ready.2 ⟨h,o,e1,fun e he hb=>?_⟩⟩
     have hlt:=e3 e he hb
     exact listed_of_not (by rw[inv.head.size];omega) (fun hn=>hlow ⟨e.on,hlt,hn⟩)
  have hcount:∀i,i<q->listed.getD i true=false->(AZ q).countP (fun j=> !(listed.setIfInBounds i true).getD j true)=k:=by
   intro i hin hun
   have:=countP_one (f:=fun j=> !listed.getD j true) (g:=fun j=> !(listed.setIfInBounds i true).getD j true) (i:=i) (B0) (AD.2 hin) (by simp only[hun];rfl)
    (by
     have hlt:i<listed.size:=by rw[inv.head.size];omega
     simp[A7,hlt])
    (fun j _ hj=>by
     have:=getD_set_ne (listed:=listed) true (Ne.symm hj)
     simp only[this])
   omega
  have hlist:∀i oi,i∈AL .any ops listed->ops[i]?=some oi->i<q->(i<m\/n<=i)->∀j p t,j<n->ops[j]?=some p->p.dst=some t->t∈oi.looksAt ops->j<m/\listed.getD j false=true:=by
   intro i oi hi hoi hiq him j p t hj hp hpt ht
   obtain⟨hun,o',ho',hwait⟩:=mem_ready.1 hi
   rw[hoi] at ho'
   have:=A3 ho'
   subst this
   obtain⟨o2,e1,_,_,e5,_⟩:=hop i hiq
   rw[hoi] at e1
   have:=A3 e1
   subst this
   obtain⟨hjm,_,hw⟩:=e5 him j p t hj hp hpt ht
   obtain⟨o2,ho2,e,he,hb,hon⟩:=AM hw
   rw[hoi] at ho2
   have:=A3 ho2
   subst this
   have:=hwait e he hb
   rw[hon] at this
   exact⟨hjm,this⟩
  have hkeep:∀i oi t p x,n<=i->i<q->ops[i]?=some oi->oi.op= .store t (.tmp p) x->listed.getD i false=true->∀j pj d v,j<n->ops[j]?=some pj->pj.dst=some d->listed.getD j true=false->(a'.put (some d) v).eval x=a'.eval x:=by
   intro i oi t p x hni hiq hoi hop' hli j pj d v hj hpj hpd hun
   cases x with
   |tmp u=>
    by_cases hu:u=d
    ·exfalso
     subst hu
     obtain⟨o2,e1,_,_,e5,_⟩:=hop i hiq
     rw[hoi] at e1
     have:=A3 e1
     subst this
     obtain⟨_,_,hw⟩:=e5 (.inr hni) j pj u hj hpj hpd (AO _ (Ad.2 ⟨.tmp u,by rw[hop'];simp[Op.operands],rfl⟩))
     obtain⟨o2,ho2,e,he,hb,hon⟩:=AM hw
     have h2:=inv.head.closed i o2 ho2 hli e he hb
     rw[hon,getD_both hun] at h2
     cases h2
    ·show(a'.put (some d) v).tmps.getD u undef=a'.tmps.getD u undef
     rw[A7,A7,put_other _ _ u (fun e=>hu (A3 e))]
   |_=>rfl
  have hnext:∀i oi d v w2,i<m->ops[i]?=some oi->oi.dst=some d->i∈AL .any ops listed->Ext w' w2->SlotOk w2 (Fz X (E.outs (l++E.out)) (poison ids σ) w2) (E.outs (l++E.out)) (poison ids σ) (S i) v->(sk i=true->v=undef)->EInv T X E ops m n q inf S sk σ ids idf a w bl l (listed.setIfInBounds i true) (a'.put oi.dst v) w2:=by
   intro i oi d v w2 him hoi hd hi hw2 hv hs
   have hin:i<n:=by have:=H.le;omega
   have hun:=(mem_ready.1 hi).1
   obtain⟨o',e1,_,e24,_,_⟩:=hop i (by omega)
   rw[hoi] at e1
   have:=A3 e1
   subst this
   obtain⟨d',e2,e4⟩:=e24 hin
   rw[hd] at e2
   have:=A3 e2
   subst this
   have head':=inv.head.set hi (by omega)
   have K:=inv.base.keepExt hw2
   have hput:∀t,t≠d->(a'.put oi.dst v).tmps[t]?=a'.tmps[t]?:=fun t ht=>put_other _ _ t (fun e=>ht (by rw[hd] at e;exact A3 e))
   have hself:∀u,(a'.put oi.dst v).tmps[d]?=some u->u=v:=by
    intro u hu
    rw[hd] at hu
    simp only[Act.put] at hu
    by_cases hlt:d<a'.tmps.size
    ·rw[AX hlt] at hu;exact(A3 hu).symm
    ·rw[An (by rw[Aa];exact Ag hlt)] at hu;cases hu
   refine⟨head',inv.base.ext hw2,Ao inv.hsz hw2.size,(put_defers _ _).trans inv.dfr,(put_size _ _).trans inv.siz,fun t ht=>?_,fun j p t u hj hp hpt hlj hu=>?_,fun j p t u hj hp hpt hlj hsj hu=>?_,fun j h1 h2 hlj=>?_,fun j l h1 h2 h3 h4 h5 h6=>?_,fun b hb=>⟨(inv.lfr b hb).1,AB (inv.lfr b hb).2 hw2.size⟩,fun j h1 h2 hlj=>inv.lmem j h1 h2 (listed_set hlj (by omega)),fun j oj t p x tt h1 h2 hoj hop' hTt=>?_⟩
   ·rw[hput t (fun e=>ht i oi hin hoi (by rw[hd,e]))]
    exact inv.oth t ht
   ·by_cases hji:j=i
    ·subst hji
     rw[hoi] at hp
     have:=A3 hp
     subst this
     rw[hd] at hpt
     have:=A3 hpt
     subst this
     rw[hself u hu];exact hv
    ·rw[hput t (fun e=>e4 j p (by omega) hji hp (by rw[hpt,e]))] at hu
     exact K.slot (inv.slt j p t u hj hp hpt (listed_set hlj hji) hu)
   ·by_cases hji:j=i
    ·subst hji
     rw[hoi] at hp
     have:=A3 hp
     subst this
     rw[hd] at hpt
     have:=A3 hpt
     subst this
     rw[hself u hu];exact hs hsj
    ·rw[hput t (fun e=>e4 j p (by omega) hji hp (by rw[hpt,e]))] at hu
     exact inv.skp j p t u hj hp hpt (listed_set hlj hji) hsj hu
   ·have hji:j≠i:=by omega
    obtain⟨n1,n2,n3,n4⟩:=inv.new j h1 h2 (listed_set hlj hji)
    obtain⟨oj,hoj,hN⟩:=hnew j h1 h2
    refine⟨fun b hb=>?_,n2,AB n3 hw2.size,(hw2.block _ n3).trans n4⟩
    rw[hput _ (fun e=>e4 j oj h2 hji hoj (by rw[hN.dst,e]))]
    exact n1 b hb
   ·exact inv.inj j l h1 h2 h3 h4 (listed_set h5 (by omega)) (listed_set h6 (by omega))
   ·obtain⟨cur,e,s1,s2,s3⟩:=inv.sto j oj t p x tt h1 h2 hoj hop' hTt
    have hlt:(E.ad (idf j)).1<w'.heap.size:=(AG.1 s1).1
    refine⟨cur,e,(hw2.block _ hlt).trans s1,s2,fun hlj=>?_⟩
    have hlj':=listed_set hlj (show j≠i by omega)
    rw[hd,hkeep j oj t p x h1 h2 hoj hop' hlj' i oi d v hin hoi hd hun]
    exact s3 hlj'
  have hdo:∀i,i∈AL .any ops listed->i<m->∃oi d,ops[i]?=some oi/\oi.dst=some d/\((AC oi (yielded ops a'.tmps)=false/\sk i=true/\S i= .no)\/(AC oi (yielded ops a'.tmps)=true/\sk i=false/\slotUpon P X (E.outs (l++E.out)) (poison ids σ) w' (S i) ((execOp a'.eval oi).run P w'))):=by
   intro i hi hin
   have hle:=H.le
   obtain⟨oi,hoi,e3,e24,e5,_⟩:=hop i (by omega)
   obtain⟨d,hd,e4⟩:=e24 (by omega)
   refine⟨oi,d,hoi,hd,?_⟩
   have hlist':∀j p t,j<n->ops[j]?=some p->p.dst=some t->t∈oi.looksAt ops->listed.getD j false=true:=fun j p t hj hp hpt ht=>(hlist i oi hi hoi (by omega) (.inl hin) j p t hj hp hpt ht).2
   have hguard:∀j w,oi.guard=some (j,w)->j<i->∀c,dstOf ops j=some c->∃pj,ops[j]?=some pj/\pj.dst=some c/\listed.getD j false=true:=by
    intro j w hg hji c hc
    have hc':=hc
    unfold dstOf at hc'
    cases hp:ops[j]? with
    |none=>rw[hp] at hc';cases hc'
    |some pj=>
     rw[hp] at hc'
     refine⟨pj,rfl,hc',hlist' j pj c (by omega) hp hc' ?_⟩
     refine AN _ ?_
     rw[hg]
     simp only[hp,AV]
     rw[show pj.dst=some c from hc']
     simp
   have hyes:∀j w v,oi.guard=some (j,w)->Guards ops S sk (poison ids σ).fr.length i j v->yielded ops a'.tmps j=some v:=by
    intro j w v hg hG
    obtain⟨h1,h2,c,h3,h4,ms,hm',h5⟩:=hG
    obtain⟨pj,q1,q2,q3⟩:=hguard j w hg h1 c h3
    have hlt:c<a'.tmps.size:=by rw[inv.siz,<-hr.len];exact h4
    have hs:=inv.slt j pj c _ (by omega) q1 q2 q3 (AJ hlt)
    rw[h5] at hs
    rw[yielded_dst h3,AJ hlt,val_bool hs]
   rcases hcert i oi hin hoi with⟨h1,h2,j,w,h3,h4,h5⟩|⟨h1,h2,σs,h3,h4⟩
   ·refine .inl ⟨?_,h1,h2⟩
    unfold AC
    rw[h3]
    rcases h5 with h5|⟨v,h5,h6⟩
    ·have:yielded ops a'.tmps j=none:=by
      cases hc:dstOf ops j with
      |none=>exact yielded_none hc
      |some c=>
       obtain⟨pj,q1,q2,q3⟩:=hguard j w h3 h4 c hc
       rw[yielded_dst hc]
       cases hz:a'.tmps[c]? with
       |none=>rfl
       |some u=>rw[inv.skp j pj c u (by omega) q1 q2 q3 h5 hz];rfl
     simp[this]
    ·have:=hyes j w v h3 h6
     simp[this,h5]
   ·refine .inr ⟨?_,h1,?_⟩
    ·unfold AC
     cases hg:oi.guard with
     |none=>rfl
     |some z=>
      obtain⟨j,w⟩:=z
      have:=hyes j w w hg (h2 j w hg)
      simp[this]
    ·refine upon_same h3.same inv.base.ge (h4 _ a' w' (inv.rel h3.same fun t s ht=>?_))
     rcases h3.slot t s ht with q1|⟨q1,q2⟩|⟨j,p,q1,q2,q3,q4,q5⟩
     ·exact .inl q1
     ·exact .inr (.inl ⟨hdD t q1,q2⟩)
     ·exact .inr (.inr ⟨j,p,by omega,q2,q3,hlist' j p t (by omega) q2 q3 q4,q5⟩)
  by_cases hlt:∃i,i∈AL .any ops listed/\q<ops.size/\lateB ops m q i=true
  ·obtain⟨i,hi,hns',hla⟩:=hlt
   have him:i<m:=by simp only[lateB,A4,decide_eq_true_eq] at hla;exact hla.1
   obtain⟨hun,_,_,hwait⟩:=mem_ready.1 hi
   obtain⟨oi,d,hoi,hd,hcase⟩:=hdo i hi him
   have hle:=H.le
   obtain⟨o,e1,e3,_,_,e6⟩:=hop i (by omega)
   rw[hoi] at e1
   have:=A3 e1
   subst this
   obtain⟨hbare,hap⟩:=(e6 hns').1 hla
   have hgn:oi.guard=none:=by simp only[bareOp,A4] at hbare;simpa using hbare.1
   rcases hcase with⟨h1,_⟩|⟨_,h2,h3⟩
   ·simp[AC,hgn] at h1
   ·obtain⟨v,hv,hy⟩:=bare_upon (ops:=ops) hbare h3
    rw[hv] at h3
    refine wpAny_first hoi (fun j oj cs b hj=>Ab hsel j oj cs b hj) (fun c a w h=>absurd h (hQp c _ w)) _ _ _ _ (fun j oj hj hji hju hno=>?_) hi hy (ih _ _ _ bl l (hcount i (by omega) hun) (hnext i oi d v w' him hoi hd hi (Ext.refl _) h3.2 (fun h=>by rw[h2] at h;cases h)))
    rcases hap j oj hj hji with h|h|h
    ·obtain⟨o',ho',e,he,hb,hon⟩:=AM h
     rw[hj] at ho'
     have:=A3 ho'
     subst this
     exact absurd hon (hno e he hb)
    ·obtain⟨o',ho',e,he,hb,hon⟩:=AM h
     obtain⟨_,o2,ho2,hw2⟩:=mem_ready.1 hi
     rw[ho'] at ho2
     have:=A3 ho2
     subst this
     have h1:=hw2 e he hb
     rw[hon,getD_both hju] at h1
     cases h1
    ·exact h
  have hlow:∀i∈AL .any ops listed,i<q:=by
   intro i hi
   obtain⟨hun,oi,hoi,_⟩:=mem_ready.1 hi
   have hlt':i<ops.size:=(AG.1 hoi).1
   rcases Ah i q with h|h
   ·exact h
   ·exfalso
    rcases(Or.inr htail:q=ops.size\/tailB ops q=true) with h'|h2
    ·omega
    ·obtain⟨j,hj,hj2,hj3⟩:=hmin
     have hnl:lateB ops m q j=false:=by
      cases hla:lateB ops m q j with
      |false=>rfl
      |true=>exact absurd ⟨j,hj3,by omega,hla⟩ hlt
     exact tail_waits2 (fun i hi hl=>((hop i hi).choose_spec.2.2.2.2 (by omega)).2 hl) h2 (by omega) inv.head _ j rfl hj hnl hj2 i h hi
  refine⟨fun h=>?_,fun i hi=>?_⟩
  ·obtain⟨i,_,_,hi⟩:=hmin
   rw[h] at hi;cases hi
  ·have hiq:=hlow i hi
   obtain⟨hun,_,_,_⟩:=mem_ready.1 hi
   by_cases him:i<m
   ·obtain⟨oi,d,hoi,hd,hcase⟩:=hdo i hi him
    unfold wpOp
    simp only[hoi]
    rcases hcase with⟨h1,h2,h3⟩|⟨h1,h2,h3⟩
    ·simp only[h1,Am,if_false]
     exact ih _ _ _ bl l (hcount i hiq hun) (hnext i oi d undef w' him hoi hd hi (Ext.refl _) (by rw[h3];trivial) (fun _=>rfl))
    ·simp only[h1,if_true]
     left
     unfold Oper.wp
     generalize (execOp a'.eval oi).run P w'=r at h3
     cases r with
     |halt x w2=>exact h3.elim
     |ok nx w2=>
      cases nx with
      |value u=>simp only[Oper.upon];exact ih _ _ _ bl l (hcount i hiq hun) (hnext i oi d u w2 him hoi hd hi h3.1 h3.2 (fun h=>by rw[h2] at h;cases h))
      |enter f args=>
       obtain⟨e1,hc⟩:=h3
       simp only[Oper.upon]
       rw[e1]
       exact hc.mono fun e w3 ⟨v,he,hx,hs⟩=>by
        subst he
        exact ih _ _ _ bl l (hcount i hiq hun) (hnext i oi d v w3 him hoi hd hi hx hs (fun h=>by rw[h2] at h;cases h))
      |_=>exact h3.elim
   ·by_cases hin:i<n
    ·-- a new box
     obtain⟨oi,hoi,e3,e24,e5,_⟩:=hop i hiq
     obtain⟨d,e2,e4⟩:=e24 hin
     obtain⟨oj,hoj,hN⟩:=hnew i (by omega) hin
     rw[hoi] at hoj
     have:=A3 hoj
     subst this
     have head':=inv.head.set hi hiq
     have hd:d=(inf i).1:=by have:=hN.dst;rw[e2] at this;exact A3 this
     unfold wpOp
     simp only[hoi,AC,hN.guard,if_true]
     left
     unfold Oper.wp
     rw[hN.run a' w',Oper.upon_value]
     have hext:=Ext.alloc w' (.cells (inf i).2.1 (inf i).2.2)
     have K:=keep_outs (l':=(w'.heap.size::l)++E.out) inv.base hext (fun b hb=>by
      rcases AU.1 hb with rfl|hb
      ·exact .inr (AW _)
      ·exact .inl hb)
     have hnd:(l++E.out).Nodup:=by
      have:=inv.base.nodup
      simp only[owned] at this
      exact(AP.1 (AP.1 this).2.1).2.1
     have hltE:∀b∈l++E.out,b<w'.heap.size:=fun b hb=>(inv.base.lt b (mem_out inv.base hb)).1
     have hbase:RelE X (E.outs ((w'.heap.size::l)++E.out)) (poison ids σ) a.tmps (w'.alloc (.cells (inf i).2.1 (inf i).2.2)):=
      (inv.base.world (w1:=w'.alloc (.cells (inf i).2.1 (inf i).2.2)) (l:=(w'.heap.size::l)++E.out) (fun b hb _=>hext.block b hb) (inv.base.fr.ext hext) hext.size (by
       rw[Av]
       exact B8.2 ⟨fun h=>by have:=hltE _ h;omega,hnd⟩) (fun b hb=>by
       rw[Av] at hb
       rcases AU.1 hb with rfl|hb
       ·exact⟨.inr (AW _),by simp⟩
       ·exact⟨.inl hb,AB (hltE b hb) hext.size⟩)).1
     refine ih _ _ _ (fun j=>if j=i then w'.heap.size else bl j) (w'.heap.size::l) (hcount i hiq hun) ?_
     have hput:∀t,t≠d->(a'.put oi.dst (.pointer (some ⟨w'.heap.size,0,none⟩))).tmps[t]?=a'.tmps[t]?:=fun t ht=>put_other _ _ t (fun e=>ht (by rw[e2] at e;exact A3 e))
     refine⟨head',hbase,Ao inv.hsz hext.size,(put_defers _ _).trans inv.dfr,(put_size _ _).trans inv.siz,fun t ht=>?_,fun j p t u hj hp hpt hlj hu=>?_,fun j p t u hj hp hpt hlj hsj hu=>?_,fun j h1 h2 hlj=>?_,fun j l h1 h2 h3 h4 h5 h6 h7=>?_,fun b hb=>?_,fun j h1 h2 hlj=>?_,fun j oj t p x tt h1 h2 hoj hop' hTt=>?_⟩
     ·rw[hput t (fun e=>ht i oi hin hoi (by rw[e2,e]))]
      exact inv.oth t ht
     ·have hji:j≠i:=by omega
      rw[hput t (fun e=>e4 j p (by omega) hji hp (by rw[hpt,e]))] at hu
      exact K.slot (inv.slt j p t u hj hp hpt (listed_set hlj hji) hu)
     ·have hji:j≠i:=by omega
      rw[hput t (fun e=>e4 j p (by omega) hji hp (by rw[hpt,e]))] at hu
      exact inv.skp j p t u hj hp hpt (listed_set hlj hji) hsj hu
     ·by_cases hji:j=i
      ·subst hji
       simp only[if_true]
       refine⟨fun b hb=>?_,inv.hsz,by simp,heap_alloc_new w' _⟩
       rw[e2,<-hd]
       exact put_same (inv.siz.trans hb.symm)
      ·simp only[if_neg hji]
       obtain⟨n1,n2,n3,n4⟩:=inv.new j h1 h2 (listed_set hlj hji)
       obtain⟨oj,hoj,hNj⟩:=hnew j h1 h2
       refine⟨fun b hb=>?_,n2,AB n3 hext.size,(hext.block _ n3).trans n4⟩
       rw[hput _ (fun e=>e4 j oj h2 hji hoj (by rw[hNj.dst,e]))]
       exact n1 b hb
     ·by_cases hji:j=i
      ·by_cases hli:l=i
       ·omega
       ·simp only[hji,if_true,if_neg hli] at h7
        have:=(inv.new l h3 h4 (listed_set h6 hli)).2.2.1
        omega
      ·by_cases hli:l=i
       ·simp only[hli,if_true,if_neg hji] at h7
        have:=(inv.new j h1 h2 (listed_set h5 hji)).2.2.1
        omega
       ·simp only[if_neg hji,if_neg hli] at h7
        exact inv.inj j l h1 h2 h3 h4 (listed_set h5 hji) (listed_set h6 hli) h7
     ·rcases AU.1 hb with rfl|hb
      ·exact⟨inv.hsz,by simp⟩
      ·exact⟨(inv.lfr b hb).1,AB (inv.lfr b hb).2 hext.size⟩
     ·by_cases hji:j=i
      ·simp[hji]
      ·simp only[if_neg hji]
       exact A5 _ (inv.lmem j h1 h2 (listed_set hlj hji))
     ·obtain⟨cur,e,s1,s2,s3⟩:=inv.sto j oj t p x tt h1 h2 hoj hop' hTt
      have hlt:(E.ad (idf j)).1<w'.heap.size:=(AG.1 s1).1
      refine⟨cur,e,(hext.block _ hlt).trans s1,s2,fun hlj=>?_⟩
      have hlj':=listed_set hlj (show j≠i by omega)
      rw[e2,hkeep j oj t p x h1 h2 hoj hop' hlj' i oi d _ hin hoi e2 hun]
      exact s3 hlj'
    ·-- a store
     obtain⟨oi,hoi,e3,_,e5,_⟩:=hop i hiq
     have hni:n<=i:=by omega
     obtain⟨⟨hg,hdn,t,p,x,tt,r,t',y,v,ms,hop',hTt,hpD,hptr,hy,hyt,hco⟩,hidm⟩:=hst i oi hni hiq hoi
     have head':=inv.head.set hi hiq
     obtain⟨cur,e,s1,s2,_⟩:=inv.sto i oi t p x tt hni hiq hoi hop' hTt
     obtain⟨tn,htt⟩:=hT.ty t _ hTt
     have hlp:p<a.tmps.size:=by rw[<-hr.len];exact(AY.1 hptr).1
     have hpe:a'.eval (.tmp p)= .pointer (some ⟨(E.ad (idf i)).1,(E.ad (idf i)).2,none⟩):=by
      show a'.tmps.getD p undef=_
      rw[A7,inv.oth p (hdD p hpD),AJ hlp]
      obtain⟨_,b,o',h1,h2⟩:=hr.slot p _ _ hptr (AJ hlp)
      rw[Ar,h1]
      cases hr':r<;>rw[hr'] at h2<;>simp[addr] at h2<;>obtain⟨_,h2⟩:=h2<;>rw[h2]
     have hrel:RelE X (E.outs (l++E.out)) (hide D (oi.looksAt ops) σ1) a'.tmps w':=inv.rel (hw1.same.hide _) fun u s hu=>by
      rcases hide_at hu with h1|⟨h1,h2⟩
      ·exact .inl h1
      ·rcases hw1.slot u s h1 with h3|⟨h3,h4⟩|⟨j,pj,h3,h4,h5,h6⟩
       ·exact .inl h3
       ·refine .inr (.inl ⟨hdD u fun hD=>?_,h4⟩)
        obtain⟨j,pj,q1,q2,q3⟩:=(H.mem u).1 hD
        exact h3 j pj (hlist i oi hi hoi hiq (.inr hni) j pj u q1 q2 q3 (h2 hD)).1 q2 q3
       ·exact .inr (.inr ⟨j,pj,h3,h4,h5,(hlist i oi hi hoi hiq (.inr hni) j pj u (by have:=H.le;omega) h4 h5 (h2 ((H.mem u).2 ⟨j,pj,by have:=H.le;omega,h4,h5⟩))).2,h6⟩)
     have hlx:∀u,x= .tmp u->u∈oi.looksAt ops:=fun u hu=>AO _ (Ad.2 ⟨.tmp u,by rw[hop',<-hu];simp[Op.operands],rfl⟩)
     obtain⟨cs,c1,c2,c3⟩:=hrel.coe (show V.coe tt (opd (hide D (oi.looksAt ops) σ1) x)=some (v,ms) by rw[opd_hide hlx];exact hco)
     have hcl:(a'.eval x).cells=cs.toArray:=by rw[c2];exact cells_toVal c1 (tyB_scalar htt)
     have hfit:(E.ad (idf i)).2+cs.length<=cur.size:=by rw[c1.length];exact s2
     have hrun:(execOp a'.eval oi).run P w'= .ok .skip (w'.setRow (E.ad (idf i)).1 (splice cur (E.ad (idf i)).2 cs)):=by
      simp only[execOp,hop',hpe,AQ,run_storeAt_ty htt hcl c1.length c1.one s1 hfit,AI,AT]
     unfold wpOp
     simp only[hoi,AC,hg,if_true]
     left
     unfold Oper.wp
     rw[hrun]
     simp only[Oper.upon,hdn]
     have hM:(∃s,cs.length<=s/\(idf i,E.ad (idf i),s)∈X.pbx)\/X.w0.heap.size<=(E.ad (idf i)).1:=by
      have:=hr.srcb _ hy
      dsimp only at this
      rw[hyt,<-c1.length] at this
      exact this
     obtain⟨hbase,K⟩:=inv.base.poke (id:=idf i) (cs:=cs) (mem_poison hy hidm) s1 hfit hM
     have hsize:(w'.setRow (E.ad (idf i)).1 (splice cur (E.ad (idf i)).2 cs)).heap.size=w'.heap.size:=by simp[B1]
     have hbw:(E.ad (idf i)).1<w.heap.size:=(hr.lt _ (mem_owned_bx hy)).1
     refine ih _ _ _ bl l (hcount i hiq hun) ?_
     show EInv T X E ops m n q inf S sk σ ids idf a w bl l _ a' _
     refine⟨head',hbase,by rw[hsize];exact inv.hsz,inv.dfr,inv.siz,inv.oth,fun j pj d u hj hp hpt hlj hu=>K.slot (inv.slt j pj d u hj hp hpt (listed_set hlj (by omega)) hu),fun j pj d u hj hp hpt hlj=>inv.skp j pj d u hj hp hpt (listed_set hlj (by omega)),
      fun j h1 h2 hlj=>?_,fun j z h1 h2 h3 h4 h5 h6=>inv.inj j z h1 h2 h3 h4 (listed_set h5 (by omega)) (listed_set h6 (by omega)),fun b hb=>by rw[hsize];exact inv.lfr b hb,fun j h1 h2 hlj=>inv.lmem j h1 h2 (listed_set hlj (by omega)),fun j oj t2 p2 x2 tt2 h1 h2 hoj hop2 hTt2=>?_⟩
     ·obtain⟨n1,n2,n3,n4⟩:=inv.new j h1 h2 (listed_set hlj (by omega))
      refine⟨n1,n2,by rw[hsize];exact n3,?_⟩
      rw[setRow_other w' _ _ _ (by omega)]
      exact n4
     ·by_cases hji:j=i
      ·subst hji
       rw[hoi] at hoj
       have:=A3 hoj
       subst this
       rw[hop'] at hop2
       simp only[Op.store.injEq,Operand.tmp.injEq] at hop2
       obtain⟨rfl,rfl,rfl⟩:=hop2
       rw[hTt] at hTt2
       have:=A3 hTt2
       subst this
       refine⟨_,e,setRow_heap w' _ cur _ e _ s1,by rw[splice_size hfit];exact s2,fun _ z u hz=>?_⟩
       rw[hcl] at hz
       have hz':cs[z]?=some u:=by simpa using hz
       have hzl:=(AY.1 hz').1
       rw[splice_get hfit,if_neg (by omega),if_pos (by omega),show(E.ad (idf j)).2+z-(E.ad (idf j)).2=z by omega]
       exact hz'
      ·obtain⟨cur2,ec2,z1,z2,z3⟩:=inv.sto j oj t2 p2 x2 tt2 h1 h2 hoj hop2 hTt2
       obtain⟨⟨_,_,_,_,_,_,_,_,y2,_,_,_,_,_,_,hy2,_,_⟩,_⟩:=hst j oj h1 h2 hoj
       have hne:(E.ad (idf j)).1≠(E.ad (idf i)).1:=fun he=>by
        have hn:=hr.nodup
        simp only[owned] at hn
        have hn1:=(AP.1 hn).1
        have hinj:=inj_of_nodup (f:=fun b:Bx=>(E.ad b.id).1) hn1 hy2 hy he
        have:idf j=idf i:=congrArg Bx.id hinj
        exact hji (hidf j i h1 h2 hni hiq this)
       refine⟨cur2,ec2,?_,z2,fun hlj=>z3 (listed_set hlj hji)⟩
       rw[setRow_other w' _ _ _ hne]
       exact z1
end
end Go.Proofs.YtibidhcmenljoaaDoor.V
namespace Go.Proofs.YtibidhcmenljoaaDoor.V
open Go
section
variable {P:Program} {X:Ctx} {E:Env} {σ:St} {A0:Array Value} {a:Act} {w:World} {o:Oper} {R:Type}
theorem gather_mu:∀ {ks:List AK} {ss:List Slot} {k:Tup (tysOf ks)->St->Option R} {r:R},muOnly ks=true->gatherK ks ss σ k=some r->
  ∃x,k x σ=some r/\∀ (R':Type) (k':Tup (tysOf ks)->St->Option R'),gatherK ks ss σ k'=k' x σ:=by
 intro ks
 induction ks with
 |nil=>
  intro ss k r _ h
  cases ss with
  |nil=>exact⟨(),h,fun _ _=>rfl⟩
  |cons s ss=>simp[gatherK] at h
 |cons c ks ih=>
  intro ss k r hro h
  cases ss with
  |nil=>simp[gatherK] at h
  |cons s ss=>
   simp only[gatherK] at h
   cases c with
   |ro t=>
    simp only[muOnly] at hro
    simp only[oneK] at h
    cases hc:coe t s with
    |none=>rw[hc] at h;simp at h
    |some q=>
     obtain⟨v,ms⟩:=q
     rw[hc] at h
     simp only at h
     cases hu:allUs σ ms with
     |false=>rw[hu] at h;simp at h
     |true=>
      rw[hu] at h
      simp only[cond_true] at h
      obtain⟨x,h1,h2⟩:=ih hro h
      refine⟨Tup.cons (t:=t) (r:=tysOf ks) v x,h1,fun R' k'=>?_⟩
      simp only[gatherK,oneK,hc,hu,cond_true]
      exact h2 R' _
   |pin t=>
    simp only[muOnly] at hro
    simp only[oneK] at h
    obtain⟨x0,hm,h1,h2,_⟩:=readK_nat h
    cases hc:cast? t x0 with
    |none=>rw[hc] at h1;simp at h1
    |some q=>
     obtain⟨v,ms⟩:=q
     rw[hc] at h1
     simp only at h1
     cases hu:allUs σ ms with
     |false=>rw[hu] at h1;simp at h1
     |true=>
      rw[hu] at h1
      simp only[cond_true] at h1
      obtain⟨x,h3,h4⟩:=ih hro h1
      refine⟨Tup.cons (t:=t) (r:=tysOf ks) v x,h3,fun R' k'=>?_⟩
      simp only[gatherK,oneK]
      rw[h2]
      simp only[hc,hu,cond_true]
      exact h4 R' _
   |own t=>simp[muOnly] at hro
   |mu t=>
    simp only[muOnly] at hro
    have h':(readK σ s fun x _=>match cast? t x with
      |some (v,ms)=>bif allUs σ ms&&noneAl σ ms then gatherK ks ss σ fun x σ=>k (Tup.cons v x) σ else none
      |none=>none)=some r:=by
     cases s with
     |rptr τ x=>simp[oneK] at h
     |_=>exact h
    have hone:∀ {R':Type} (k':t.den->St->Option R'),oneK (.mu t) s σ k'=readK σ s fun x _=>match cast? t x with
      |some (v,ms)=>bif allUs σ ms&&noneAl σ ms then k' v σ else none
      |none=>none:=by
     intro R' k'
     cases s with
     |rptr τ x=>simp[oneK] at h
     |_=>rfl
    obtain⟨x0,hm,h1,h2,_⟩:=readK_nat h'
    cases hc:cast? t x0 with
    |none=>rw[hc] at h1;simp at h1
    |some q=>
     obtain⟨v,ms⟩:=q
     rw[hc] at h1
     simp only at h1
     cases hu:allUs σ ms&&noneAl σ ms with
     |false=>rw[hu] at h1;simp at h1
     |true=>
      rw[hu] at h1
      simp only[cond_true] at h1
      obtain⟨x,h3,h4⟩:=ih hro h1
      refine⟨Tup.cons (t:=t) (r:=tysOf ks) v x,h3,fun R' k'=>?_⟩
      simp only[gatherK]
      refine(hone _).trans ?_
      refine(h2 R' _).trans ?_
      simp only[hc,hu,cond_true]
      exact h4 R' _
   |pio t=>simp[muOnly] at hro
   |clo f n cs=>
    cases s with
    |clo f' n' caps=>
     simp only[oneK] at h
     cases hc:f'==f&&n'==n with
     |false=>rw[hc] at h;simp at h
     |true=>
      rw[hc] at h
      simp only[cond_true] at h
      obtain⟨v,h1,h2⟩:=capsK_nat h
      obtain⟨x,h3,h4⟩:=ih (by simpa[muOnly] using hro) h1
      refine⟨Tup.cons (t:=cloTy cs) (r:=tysOf ks) v x,h3,fun R' k'=>?_⟩
      simp only[gatherK,oneK,hc,cond_true]
      rw[h2]
      exact h4 R' _
    |_=>simp[oneK] at h
theorem lend_mnat {aks:List AK} {sh:Bool} {ss:List Slot} {k:Tup (tysOf aks)->St->Option R} {r:R} (hro:muOnly aks=true) (hno:sh=true->noneAl σ (roToks σ aks ss)=true) (h:lendK aks sh ss σ k=some r):
  ∃x,k x σ=some r/\∀ (R':Type) (k':Tup (tysOf aks)->St->Option R'),lendK aks sh ss σ k'=k' x σ:=by
 unfold lendK at h
 cases hg: !sh||noPins aks with
 |false=>rw[hg] at h;simp at h
 |true=>
  rw[hg] at h
  simp only[cond_true] at h
  have hf:(bif sh then σ.freeze (roToks σ aks ss) else σ)=σ:=by
   cases sh with
   |false=>rfl
   |true=>exact freeze_noop (hno rfl)
  rw[hf] at h
  obtain⟨x,h1,h2⟩:=gather_mu hro h
  cases hc:noDup (exclOf σ aks ss)&&lentOk σ (exclOf σ aks ss) aks ss with
  |false=>rw[hc] at h1;simp at h1
  |true=>
   rw[hc] at h1
   simp only[Al,cond_false] at h1
   refine⟨x,h1,fun R' k'=>?_⟩
   unfold lendK
   rw[hg,hf]
   simp only[cond_true]
   rw[h2]
   simp only[hc,Al,cond_false]
theorem rows_mu {A pin:Nat->Prop}:∀ {ks:List AK} {x:Tup (tysOf ks)} {us:List Value} {fs:List Foot},muOnly ks=true->ArgsOk w A pin ks x us fs->rowsOf fs=[]:=by
 intro ks
 induction ks with
 |nil=>intro x us fs _ h;cases us<;>cases fs<;>first|rfl|exact h.elim
 |cons c r ih=>
  intro x us fs hro h
  cases us with
  |nil=>cases fs<;>exact h.elim
  |cons u us=>
   cases fs with
   |nil=>exact h.elim
   |cons f fs=>
    have hf:f.rows=[]:=by
     have h1:=h.1
     cases c with
     |ro t=>rw[h1.2]
     |pin t=>rw[h1.2]
     |clo g n ks=>rw[h1.2]
     |mu t=>obtain⟨_,_,_,_,_,_,_,_,_,_,h1⟩:=h1;rw[h1]
     |_=>simp[muOnly] at hro
    have hro':muOnly r=true:=by cases c<;>simp[muOnly] at hro<;>exact hro
    show f.rows.filterMap id++rowsOf fs=[]
    rw[hf,ih hro' h.2];rfl
theorem lent_mu {aks:List AK} {sh:Bool} {ss:List Slot} {us:List Value} {x:Tup (tysOf aks)} (hro:muOnly aks=true) (hno:sh=true->noneAl σ (roToks σ aks ss)=true) (hr:RelE X E σ A0 w) (hlen:ss.length=us.length)
  (hsl:∀ (i:Nat) s u,ss[i]?=some s->us[i]?=some u->SlotOk w (Fz X E σ w) E σ s u) (h:lendK aks sh ss σ (fun x σ'=>some (x,σ'))=some (x,σ)):
  ∃fs A pin,Pre aks x w A pin us fs/\(sh=true->∀b,A b->Fz X E σ w b)/\lentOk σ (exclOf σ aks ss) aks ss=true:=by
 have h0:=h
 unfold lendK at h
 cases hg: !sh||noPins aks with
 |false=>rw[hg] at h;simp at h
 |true=>
  rw[hg] at h
  simp only[cond_true] at h
  have hf:(bif sh then σ.freeze (roToks σ aks ss) else σ)=σ:=by
   cases sh with
   |false=>rfl
   |true=>exact freeze_noop (hno rfl)
  rw[hf] at h
  obtain⟨x',σ1,E1,fs,q1,q2,q3,q4,q5⟩:=gather_ok hr hlen hsl h
  cases hc:noDup (exclOf σ1 aks ss)&&lentOk σ1 (exclOf σ1 aks ss) aks ss with
  |false=>rw[hc] at q1;simp at q1
  |true=>
   rw[hc] at q1
   simp only[Al,cond_false,AS,BO] at q1
   obtain⟨e1,e2⟩:=q1
   subst e1;subst e2
   simp only[A4] at hc
   have hsl1:∀ (i:Nat) s u,ss[i]?=some s->us[i]?=some u->SlotOk w (Fz X E1 σ1 w) E1 σ1 s u:=fun i s u h1 h2=>q3.K.slot (hsl i s u h1 h2)
   have hsh:ShOks σ1 sh aks ss:=shOks_of (ks0:=aks) (ss0:=ss) (σ:=σ1) (fun hs τ hτ hal=>noneAl_iff.1 (hno hs) τ hτ hal)
    (fun hs=>by rw[hs] at hg;simpa using hg) (fun _ h=>h) id
   obtain⟨w1,w2,w3⟩:=lend_all q2 hsl1 q5 hc.2 hsh
   obtain⟨w4,w5⟩:=lend_apart (sh:=sh) q2 q4 w2 w3 hc.1
   have hrow:=rows_mu hro w1
   refine⟨fs,_,_,⟨w1,w4,w5,fun b hb=>?_,fun b hb=>?_,fun p hp=>⟨(q2.glob hp).1,.inl (q2.glob hp).2⟩⟩,fun hs b hb=>?_,hc.2⟩
   ·rcases hb with h|⟨_,τ,h1,_,h2⟩
    ·exact h.2.1
    ·exact(q2.lt b (mem_owned_al h1 h2)).1
   ·rcases hb with h|⟨q,h1,_,rfl⟩|h|⟨τ,h1,_,h2⟩
    ·exact(q2.pinlt b h).1
    ·exact(q2.lt _ (mem_owned_bx h1)).1
    ·exact h.2.1
    ·exact(q2.lt b (mem_owned_al h1 h2)).1
   ·rcases hb with h|⟨h,_⟩
    ·refine⟨h.1,h.2.1,fun ho=>h.2.2 ?_⟩
     rw[hrow,List.nil_append] at q4
     simp only[owned,B6] at ho ⊢
     rcases ho with ho|ho|ho
     ·left
      obtain⟨q,hq,he⟩:=Ae.1 ho
      exact Ae.2 ⟨q,hq,by rw[q3.ad];exact he⟩
     ·right;left
      obtain⟨τ,hτ,he⟩:=Au.1 ho
      exact Au.2 ⟨τ,hτ,by simpa[tokB,q3.hd] using he⟩
     ·right;right;exact q4.mem_iff.2 ho
    ·rw[hs] at h;cases h
theorem lent_none {ex:List (Nat×Nat)}:∀ {ks:List AK} {ss:List Slot},muOnly ks=true->lentOk σ ex ks ss=true->ks.length=ss.length->exclOf σ ks ss=[]->roOnly ks=true:=by
 intro ks
 induction ks with
 |nil=>intro ss _ _ _ _;rfl
 |cons c ks ih=>
  intro ss hm hl hlen he
  cases ss with
  |nil=>simp at hlen
  |cons s ss=>
   simp only[lentOk,A4] at hl
   cases c with
   |ro t=>exact ih (by simpa[muOnly] using hm) hl.2 (by simpa using hlen) (by simpa[exclOf] using he)
   |pin t=>exact ih (by simpa[muOnly] using hm) hl.2 (by simpa using hlen) (by simpa[exclOf] using he)
   |clo g n cs=>exact ih (by simpa[muOnly] using hm) hl.2 (by simpa using hlen) (by simpa[exclOf] using he)
   |mu t=>
    exfalso
    have h1:=hl.1
    cases s<;>simp[lendAt] at h1
    simp[exclOf] at he
   |_=>simp[muOnly] at hm
theorem one_place {w':World} {AF A pin:Nat->Prop} {ex:List (Nat×Nat)}:∀ {ks:List AK} {ss:List Slot} {us:List Value} {x:Tup (tysOf ks)} {fs:List Foot} {bo:List (List (Option Nat))} {y:Tup (outsOf ks)},muOnly ks=true->(exclOf σ ks ss).length=1->lentOk σ ex ks ss=true->ss.length=us.length->
  ArgsOk w A pin ks x us fs->OutsOk w' AF ks y us fs bo->flatB bo=[]/\∃t v s b of cs,muSlot ks ss=some s/\muVal ks y=some ⟨t,v,List.replicate t.nl 0⟩/\(∃i:Nat,ss[i]?=some s/\us[i]?=some (Value.pointer (some ⟨b,of,none⟩)))/\Rf w' AF t v cs/\At w' b of cs/\
   (∀c j,footM ks fs c j->c=b/\of<=j/\j<of+t.size)/\(∃c e,w.heap[b]?=some (.cells c e (0,0))/\of+t.size<=c.size)/\(t.nl=0\/sharesO ks=true)/\b∈(placesOf fs).map (·.1):=by
 intro ks
 induction ks with
 |nil=>intro ss us x fs bo y _ h;simp[exclOf] at h
 |cons c ks ih=>
  intro ss us x fs bo y hm hex hl hlen hargs hout
  cases us with
  |nil=>cases fs<;>exact hargs.elim
  |cons u us=>
  cases fs with
  |nil=>exact hargs.elim
  |cons f fs=>
  cases bo with
  |nil=>exact hout.elim
  |cons bs bo=>
  cases ss with
  |nil=>simp at hlen
  |cons s ss=>
   obtain⟨a1,a2⟩:=hargs
   obtain⟨o1,o2⟩:=hout
   simp only[lentOk,A4] at hl
   have skip:muOnly ks=true->f=⟨[],none⟩->bs=[]->(exclOf σ ks ss).length=1->muSlot (c::ks) (s::ss)=muSlot ks ss->muVal (c::ks) y=muVal ks (Tup.snd (a:=c.outs) (b:=outsOf ks) y)->(sharesO ks=true->sharesO (c::ks)=true)->flatB (bs::bo)=[]/\∃t v s' b of cs,muSlot (c::ks) (s::ss)=some s'/\muVal (c::ks) y=some ⟨t,v,List.replicate t.nl 0⟩/\(∃i:Nat,(s::ss)[i]?=some s'/\(u::us)[i]?=some (.pointer (some ⟨b,of,none⟩)))/\Rf w' AF t v cs/\At w' b of cs/\
     (∀d j,footM (c::ks) (f::fs) d j->d=b/\of<=j/\j<of+t.size)/\(∃c e,w.heap[b]?=some (.cells c e (0,0))/\of+t.size<=c.size)/\(t.nl=0\/sharesO (c::ks)=true)/\b∈(placesOf (f::fs)).map (·.1):=by
    intro hm' hf hb he e1 e2 e3
    subst hf;subst hb
    obtain⟨h0,t,v,s',b,of,cs,h1,h2,⟨i,h3,h4⟩,h5,h6,h7,h8,h9,h10⟩:=ih hm' he hl.2 (by simpa using hlen) a2 o2
    refine⟨by rw[flatB_cons];exact h0,t,v,s',b,of,cs,e1.trans h1,e2.trans h2,⟨i+1,by simpa using h3,by simpa using h4⟩,h5,h6,fun d j h=>?_,h8,h9.imp id e3,by simpa[placesOf] using h10⟩
    rcases h with h|⟨p,h,_⟩|h
    ·cases h
    ·cases h
    ·exact h7 d j h
   cases c with
   |ro t=>exact skip (by simpa[muOnly] using hm) a1.2 o1 (by simpa[exclOf] using hex) rfl rfl (fun h=>by simp[sharesO,AK.outs,h])
   |pin t=>exact skip (by simpa[muOnly] using hm) a1.2 o1 (by simpa[exclOf] using hex) rfl rfl (fun h=>by simp[sharesO,AK.outs,h])
   |clo g n cs=>exact skip (by simpa[muOnly] using hm) a1.2 o1 (by simpa[exclOf] using hex) rfl rfl (fun h=>by simp[sharesO,AK.outs,h])
   |mu t=>
    obtain⟨b,of,cs0,c0,e0,g1,g2,g3,g4,g5,g6⟩:=a1
    subst g6
    obtain⟨rfl,b',of',cs,k1,k2,k3⟩:=o1
    rw[g1] at k1
    simp only[Value.pointer.injEq,AS,Addr.mk.injEq,and_true] at k1
    obtain⟨rfl,rfl⟩:=k1
    have h1:=hl.1
    cases s<;>simp[lendAt] at h1
    rename_i id r0 p0 t0
    have hex2:exclOf σ ks ss=[]:=by
     simp only[exclOf,As,Nat.add_eq_right,B3] at hex
     exact hex
    have klen:∀ {ks:List AK} {x:Tup (tysOf ks)} {us:List Value} {fs:List Foot},ArgsOk w A pin ks x us fs->ks.length=us.length:=by
     intro ks
     induction ks with
     |nil=>intro x us fs h;cases us<;>cases fs<;>first|rfl|exact h.elim
     |cons k ks ih=>
      intro x us fs h
      cases us with
      |nil=>cases fs<;>exact h.elim
      |cons u us=>cases fs with
       |nil=>exact h.elim
       |cons f fs=>simp[ih h.2]
    have hro:=lent_none (by simpa[muOnly] using hm) hl.2 (by rw[klen a2];simpa using hlen.symm) hex2
    have hlen0:=(show Rf w A t _ cs0 from g2).length
    refine⟨by rw[flatB_cons];exact outs_ro hro o2,t,_,_,b,of,cs,rfl,rfl,⟨0,rfl,by rw[g1];rfl⟩,k2,k3,fun d j h=>?_,⟨c0,e0,g4,by rw[<-hlen0];exact g5⟩,?_,by simp[placesOf]⟩
    ·rcases h with h|⟨p,h,h2,h3⟩|h
     ·cases h
     ·cases h
      exact⟨h2.symm,h3⟩
     ·exact absurd h (foot_ro hro a2 d j)
    ·by_cases hn:t.nl=0
     ·exact .inl hn
     ·right
      simp only[sharesO,A6]
      left;left
      simpa using hn
   |_=>simp[muOnly] at hm
theorem Fr.compose2 {M M':Nat->Nat->Prop} {w0 w w':World} (h:Fr M w0 w) (k:Fr M' w w') (hm:∀b o,b<w0.heap.size->M' b o->M b o):Fr M w0 w':=by
 refine⟨k.os.trans h.os,k.tape.trans h.tape,k.output.trans h.output,Ao h.size k.size,fun b hb=>?_⟩
 rcases k.block b (AB hb h.size) with h1|⟨c,c',e,h1,h2,h3,h4⟩
 ·rw[h1];exact h.block b hb
 ·rcases h.block b hb with q1|⟨d,d',e',q1,q2,q3,q4⟩
  ·exact .inr ⟨c,c',e,by rw[<-q1];exact h1,h2,h3,fun o ho=>h4 o fun hm'=>ho (hm b o hb hm')⟩
  ·rw[h1] at q2
   simp only[AS,Obj.cells.injEq,and_true] at q2
   obtain⟨rfl,rfl⟩:=q2
   exact .inr ⟨d,c',e,q1,h2,h3.trans q3,fun o ho=>(h4 o fun hm'=>ho (hm b o hb hm')).trans (q4 o ho)⟩
theorem RelE.pokes (hr:RelE X E σ A0 w) {w3:World} {M:Nat->Nat->Prop} (hfr:Fr M w w3) {id:Nat} (hmem:⟨id,⟨.unit,(),[]⟩⟩∈σ.bx) {n:Nat} (hM:∀b j,M b j->b=(E.ad id).1/\(E.ad id).2<=j/\j<(E.ad id).2+n) (hX:(∃s,n<=s/\(id,E.ad id,s)∈X.pbx)\/X.w0.heap.size<=(E.ad id).1):
  RelE X E σ A0 w3/\Keep w w3 (Fz X E σ w) (Fz X E σ w3) E E σ σ/\(∀b,b<w.heap.size->b≠(E.ad id).1->w3.heap[b]?=w.heap[b]?):=by
 have hother:∀b,b<w.heap.size->b≠(E.ad id).1->w3.heap[b]?=w.heap[b]?:=by
  intro b hb hne
  rcases hfr.block b hb with h1|⟨c,c',e,h1,h2,_,h4⟩
  ·exact h1
  ·have:c'=c:=Array.ext_getElem? fun o=>h4 o (fun hm=>hne (hM b o hm).1)
   rw[h2,this,h1]
 have hne:∀b,b∈σ.bx->b.id≠id->(E.ad b.id).1≠(E.ad id).1:=by
  intro b hb' hbid he
  have hn:=hr.nodup
  simp only[owned] at hn
  have hn1:=(AP.1 hn).1
  have hinj:=inj_of_nodup (f:=fun b:Bx=>(E.ad b.id).1) hn1 hb' hmem he
  exact hbid (by rw[hinj])
 have hal:∀τ∈σ.al,∀g,E.hd τ=some g->g≠(E.ad id).1:=by
  intro τ hτ g hg he
  have hn:=hr.nodup
  simp only[owned] at hn
  exact(AP.1 hn).2.2 _ (Ae.2 ⟨_,hmem,rfl⟩) g (AO _ (Au.2 ⟨τ,hτ,by simp[tokB,hg]⟩)) he.symm
 have K:Keep w w3 (Fz X E σ w) (Fz X E σ w3) E E σ σ:=
  ⟨fun b hb'=>⟨⟨hb'.1,AB hb'.2.1 hfr.size,hb'.2.2⟩,hother b hb'.2.1 (fun he=>hb'.2.2 (he▸mem_owned_bx hmem))⟩,AW _,fun _ _=>rfl,fun _ _=>rfl,fun _ _ h=>.inl h,fun τ _ hτ=>⟨hτ,fun g hg=>hother g (hr.lt g (mem_owned_al hτ hg)).1 (hal τ hτ g hg)⟩,hr.ge,fun b hb'=>⟨hb',hother b (hr.pinlt b hb').1 (fun he=>(hr.pinlt b hb').2 (he▸mem_owned_bx hmem))⟩⟩
 refine⟨{hr with
  slot:=fun i s u hs hu=>K.slot (hr.slot i s u hs hu)
  bx:=fun b hb'=>?_
  lt:=fun b hb'=>⟨AB (hr.lt b hb').1 hfr.size,(hr.lt b hb').2⟩
  fr:=?_
  pinlt:=fun b hb'=>⟨AB (hr.pinlt b hb').1 hfr.size,(hr.pinlt b hb').2⟩},K,hother⟩
 ·by_cases hbi:b.id=id
  ·obtain⟨c1,c2,c3,h1,h2,h3,h4,h5⟩:=hr.bx b hb'
   have hx:b=⟨id,⟨.unit,(),[]⟩⟩:=inj_of_nodup (f:=fun b:Bx=>b.id) hr.ids hb' hmem hbi
   subst hx
   dsimp only at h3 h4
   rcases hfr.block _ (AG.1 h3).1 with h6|⟨d,d',e',k1,k2,k3,_⟩
   ·exact⟨[],c2,c3,rfl,rfl,h6.trans h3,by simp only[B9];omega,fun j v hv=>by simp at hv⟩
   ·rw[h3] at k1
    simp only[AS,Obj.cells.injEq,and_true] at k1
    obtain⟨rfl,rfl⟩:=k1
    exact⟨[],d',c3,rfl,rfl,k2,by simp only[B9];omega,fun j v hv=>by simp at hv⟩
  ·exact K.bx (hr.bx b hb') (hr.idlt b hb') (hother _ (hr.lt _ (mem_owned_bx hb')).1 (hne b hb' hbi))
 ·refine hr.fr.compose2 hfr (fun b o hb hm=>?_)
  obtain⟨rfl,h1,h2⟩:=hM b o hm
  rcases hX with⟨s,h3,h4⟩|h3
  ·exact hr.pbm _ h4 o h1 (by dsimp only;omega)
  ·omega
theorem fillK_nat {s:Slot} {x:Val} {k:Nat->Option R} {r:R} (h:fillK σ s x k=some r):∃id r0 t' y,s= .ptr id r0 [] t'/\σ.find id=some y/\y.t=r0/\y.t=x.t/\k id=some r/\
  ∀ (R':Type) (k':Nat->Option R'),fillK σ s x k'=k' id:=by
 unfold fillK at h
 split at h
 ·rename_i id r0 t'
  cases hf:σ.find id with
  |none=>rw[hf] at h;cases h
  |some y=>
   rw[hf] at h
   simp only at h
   cases hb:Ty.beq y.t r0&&Ty.beq y.t x.t with
   |false=>rw[hb] at h;cases h
   |true=>
    rw[hb] at h
    have hb2:=hb
    simp only[A4] at hb2
    exact⟨id,r0,t',y,rfl,hf,Ty.eq_of_beq hb2.1,Ty.eq_of_beq hb2.2,h,fun R' k'=>by simp only[fillK,hf,hb,cond_true]⟩
 ·cases h
theorem effK_nat (T:Tabs) {k:Nat->Val->Slot->Option R} {r:R} (h:effK T o σ k=some r):∃id x s,k id x s=some r/\∀ (R':Type) (k':Nat->Val->Slot->Option R'),effK T o σ k'=k' id x s:=by
 unfold effK at h
 split at h
 ·rename_i f args ats ho
  cases hf:T.F f with
  |none=>rw[hf] at h;cases h
  |some fn=>
   rw[hf] at h
   simp only at h
   cases hb: !fn.s.bx&&muOnly fn.s.args&&(exclOf σ fn.s.args (args.toList.map (opd σ))).length==1&&(!shares fn.s||noneAl σ (roToks σ fn.s.args (args.toList.map (opd σ)))) with
   |false=>rw[hb] at h;cases h
   |true=>
    rw[hb] at h
    simp only[cond_true] at h
    have hb2:=hb
    simp only[A4,A6,AE,beq_iff_eq] at hb2
    obtain⟨x,h1,h2⟩:=lend_mnat hb2.1.1.2 (fun hs=>hb2.2.resolve_left (by rw[hs];simp)) h
    cases hy:fn.f x with
    |none=>rw[hy] at h1;cases h1
    |some y=>
     rw[hy] at h1
     simp only[AV] at h1
     split at h1
     ·rename_i s v e1 e2
      obtain⟨id,r0,t2,yb,g1,g2,g3,g4,g5,g6⟩:=fillK_nat h1
      exact⟨id,v,_,g5,fun R' k'=>by simp only[effK,ho,hf,hb,cond_true];rw[h2,hy];simp only[AV,e1,e2];exact g6 R' _⟩
     ·cases h1
 ·cases h
def effUpon (P:Program) (X:Ctx) (E:Env) (σ σ':St) (A0:Array Value) (w:World) (s:Slot):Result Next->Prop
 | .ok (.enter f args) w2=>w2=w/\Calls P f args w (fun e w3=>∃v,e= .returned v/\RelE X E σ' A0 w3/\Keep w w3 (Fz X E σ w) (Fz X E σ' w3) E E σ σ'/\w.heap.size<=w3.heap.size/\(∀b∈E.out,w3.heap[b]?=w.heap[b]?)/\SlotOk w3 (Fz X E σ' w3) E σ' s v)
 |_=>False
theorem eff_ok (T:Tabs) (hT:TabOk P T.T) (hF:FOk P T.F) {id:Nat} {v:Val} {s:Slot} (h:effK T o σ (fun id x s=>some (id,x,s))=some (id,v,s)) (hr:RelE X E σ a.tmps w):
  effUpon P X E σ {σ with bx:=setBx id v σ.bx} a.tmps w s ((execOp a.eval o).run P w):=by
 unfold effK at h
 split at h
 ·rename_i f args ats ho
  cases hf:T.F f with
  |none=>rw[hf] at h;cases h
  |some fn=>
   rw[hf] at h
   simp only at h
   cases hb: !fn.s.bx&&muOnly fn.s.args&&(exclOf σ fn.s.args (args.toList.map (opd σ))).length==1&&(!shares fn.s||noneAl σ (roToks σ fn.s.args (args.toList.map (opd σ)))) with
   |false=>rw[hb] at h;cases h
   |true=>
    rw[hb] at h
    simp only[cond_true] at h
    simp only[A4,A6,AE,beq_iff_eq] at hb
    obtain⟨⟨⟨hbx,hmu⟩,hex⟩,hno0⟩:=hb
    have hno:shares fn.s=true->noneAl σ (roToks σ fn.s.args (args.toList.map (opd σ)))=true:=fun hs=>hno0.resolve_left (by rw[hs];simp)
    obtain⟨x,h1,h2⟩:=lend_mnat hmu hno h
    cases hy:fn.f x with
    |none=>rw[hy] at h1;cases h1
    |some y=>
     rw[hy] at h1
     simp only[AV] at h1
     split at h1
     ·rename_i s0 v0 e1 e2
      obtain⟨id0,r0,t2,yb,g1,g2,g3,g4,g5,_⟩:=fillK_nat h1
      simp only[AS,BO] at g5
      obtain⟨g5,g6,g7⟩:=g5
      subst g5;subst g6;subst g7;subst g1
      obtain⟨hm,g,p1,p2,p3⟩:=hF f fn hf
      have hrun:(execOp a.eval o).run P w= .ok (.enter f (args.toList.map a.eval).toArray) w:=by
       have q1:a.eval (.func f)= .func (.func f) #[] #[]:=rfl
       have hb:¬g.body=none:=by intro h;rw[h] at p2;cases p2
       have hn:¬g.name="runtime.NumGoroutine":=by simpa using p3
       simp[execOp,ho,resolve,q1,Deferred.ofValue,invoke,callFunc,p1]
       rw[if_neg hn,if_neg hb,<-BK]
      rw[hrun]
      refine⟨rfl,?_⟩
      have hlen:(args.toList.map (opd σ)).length=(args.toList.map a.eval).length:=by simp
      have hsl:∀ (i:Nat) s u,(args.toList.map (opd σ))[i]?=some s->(args.toList.map a.eval)[i]?=some u->SlotOk w (Fz X E σ w) E σ s u:=fun i s u q1 q2=>by
       rw[BH] at q1 q2
       cases hz:args.toList[i]? with
       |none=>rw[hz] at q1;simp at q1
       |some z=>
        rw[hz] at q1 q2
        simp only[BL,AS] at q1 q2
        subst q1;subst q2
        exact slot_opd hr z
      obtain⟨fs,A,pin,hpre,hA,hlent⟩:=lent_mu hmu hno hr hlen hsl (h2 _ _)
      refine(hm x y hy w A pin _ fs hpre).mono fun e w3 he=>?_
      cases e with
      |panicked c=>exact he.elim
      |outgrown=>exact he.elim
      |returned u=>
       obtain⟨vs,rfl,hp⟩:=he.1 hbx
       obtain⟨bo,br,hnd,hrets,hres,houts⟩:=hp.ex
       obtain⟨hbo,t,vv,s1,b,of,cs,m1,m2,⟨i,m3,m4⟩,m5,m6,m7,⟨c0,ec,m8,m8'⟩,m9,_⟩:=one_place hmu hex hlent hlen hpre.args houts
       rw[e1] at m1
       rw[e2] at m2
       have m1':=A3 m1
       have m2':=A3 m2
       subst m1';subst m2'
       dsimp only at g4
       have hpl:(E.ad id0)=(b,of):=by
        obtain⟨_,b',o',k1,k2⟩:=hsl i _ _ m3 m4
        simp only[Value.pointer.injEq,AS,Addr.mk.injEq,and_true] at k1
        obtain⟨k1,k3⟩:=k1
        subst k1;subst k3
        cases hr':r0<;>rw[hr'] at k2<;>simp[addr] at k2<;>exact k2.2
       have hb1:(E.ad id0).1=b:=by rw[hpl]
       have hb2:(E.ad id0).2=of:=by rw[hpl]
       have hmem:=find_mem g2
       have hX:(∃s,t.size<=s/\(id0,E.ad id0,s)∈X.pbx)\/X.w0.heap.size<=(E.ad id0).1:=by
        have:=hr.srcb _ hmem
        dsimp only at this
        rw[g4] at this
        exact this
       obtain⟨hr3,K1,hoth⟩:=(hr.poison [id0]).pokes hp.fr (mem_poison (c:=⟨id0,yb⟩) hmem A9) (n:=t.size) (fun c j hj=>by rw[hb1,hb2];exact m7 c j hj) hX
       have hKa:Keep w w (Fz X E σ w) (Fz X E (poison [id0] σ) w) E E σ (poison [id0] σ):=keep_bx poison_ids rfl rfl rfl hr.ge
       have hKc:Keep w3 w3 (Fz X E (poison [id0] σ) w3) (Fz X E ({σ with bx:=setBx id0 ⟨t,vv,List.replicate t.nl 0⟩ σ.bx}:St) w3) E E (poison [id0] σ) ({σ with bx:=setBx id0 ⟨t,vv,List.replicate t.nl 0⟩ σ.bx}:St):=
        keep_bx (by rw[poison_ids];exact setBx_ids σ.bx) rfl rfl rfl hr3.ge
       have K:=(hKa.trans K1).trans hKc
       have hrow:=rows_mu hmu hpre.args
       have hw0:X.w0.heap.size<=w.heap.size:=hr.fr.size
       have hfresh:∀c,w.heap.size<=c->c<w3.heap.size->Fz X E (poison [id0] σ) w3 c:=fun c q1 q2=>
        ⟨hr.new c (Ao hw0 q1),q2,fun hn=>by have:=((hr.poison [id0]).lt c hn).1;omega⟩
       have hAF:shares fn.s=true->∀c,After w w3 A fs (flatB bo++flatB br) c->Fz X E (poison [id0] σ) w3 c:=fun hs c hc=>by
        obtain⟨q1,q2,_⟩:=hc
        rcases q1 with q1|q1|q1
        ·exact((hKa.trans K1).A c (hA hs c q1)).1
        ·rw[hrow] at q1;cases q1
        ·exact hfresh c q1 q2
       have hrf:Rf w3 (Fz X E (poison [id0] σ) w3) t vv cs:=by
        rcases m9 with m9|m9
        ·exact rf_any m9 m5
        ·exact m5.mono (hAF (by simp only[shares,A6];exact .inr m9)) (fun _ _=>rfl)
       obtain⟨cur,hcur,hcsz⟩:∃cur,w3.heap[b]?=some (.cells cur ec (0,0))/\cur.size=c0.size:=by
        rcases hp.fr.block b (AG.1 m8).1 with q1|⟨d,d',e',q1,q2,q3,_⟩
        ·exact⟨c0,q1.trans m8,rfl⟩
        ·rw[m8] at q1
         simp only[AS,Obj.cells.injEq,and_true] at q1
         obtain⟨rfl,rfl⟩:=q1
         exact⟨d',q2,q3⟩
       have hnt:0<(poison [id0] σ).nt:=by have:=hr.nt2;show 0<σ.nt;omega
       have hz:0∉(poison [id0] σ).al:=fun hn=>by have:=(hr.alr 0 hn).1;omega
       have hr4:RelE X E ({σ with bx:=setBx id0 ⟨t,vv,List.replicate t.nl 0⟩ σ.bx}:St) a.tmps w3:=
        hr3.fill (id:=id0) (x:=⟨t,vv,List.replicate t.nl 0⟩) (cs:=cs) (cur:=cur) (e:=ec) (by rw[poison_ids];exact setBx_ids σ.bx) rfl rfl rfl rfl rfl (fun b' hb'=>by
         rcases setBx_mem hr.ids hb' with rfl|⟨q1,q2⟩
         ·exact .inl rfl
         ·right
          simp only[poison,Ae]
          exact⟨b',q1,by simp[q2]⟩) (hr.idlt _ hmem) (rv_of_rf hnt hz hrf) (by simp) (by rw[hb1];exact hcur) (by rw[hb2,hrf.length,hcsz];exact m8') (by rw[hb1,hb2];exact m6) hX
       refine⟨_,rfl,hr4,K,hp.fr.size,fun c hc=>?_,?_⟩
       ·refine hoth c (hr.lt c (mem_out hr hc)).1 (fun he=>?_)
        have hn:=hr.nodup
        simp only[owned] at hn
        exact(AP.1 hn).2.2 _ (Ae.2 ⟨_,hmem,rfl⟩) c (AN _ hc) he.symm
       ·obtain⟨k1,k2⟩:=res0_ok (w:=w3) (E:=E) (σ:=poison [id0] σ) (B:=Fz X E (poison [id0] σ) w3) hnt hz hres (fun b' hb'=>by
         obtain⟨q1,q2⟩:=hrets b' (AN _ hb')
         rcases q1 with q1|q1
         ·rw[hrow] at q1;cases q1
         ·exact hfresh b' q1 q2) (by
         cases hs:shares fn.s with
         |false=>left;simp only[shares,Af] at hs;exact hs.1
         |true=>right;exact hAF hs)
        exact hKc.slot (resVal_slot k1 k2)
     ·cases h1
 ·cases h
end
end Go.Proofs.YtibidhcmenljoaaDoor.V
namespace Go.Proofs.YtibidhcmenljoaaDoor.V
open Go
section
variable {P:Program} {ops:Array Oper} {a:Act} {w:World}
theorem storeCells_frame {b o:Nat}:∀ (vs:List Value) (i:Nat) {cur:Array Value} {e:TypeId} {w w2:World},w.heap[b]?=some (.cells cur e (0,0))->o+i+vs.length<=cur.size->(storeCells ⟨b,o,none⟩ vs i).run P w= .ok () w2->
  (∀c,c≠b->w2.heap[c]?=w.heap[c]?)/\∃cur',w2.heap[b]?=some (.cells cur' e (0,0))/\cur'.size=cur.size:=by
 intro vs
 induction vs with
 |nil=>
  intro i cur e w w2 hb _ h
  simp only[storeCells,AT,Result.ok.injEq] at h
  rw[<-h.2]
  exact⟨fun _ _=>rfl,cur,hb,rfl⟩
 |cons v vs ih=>
  intro i cur e w w2 hb hlen h
  simp only[As] at hlen
  have hadd:(⟨b,o,none⟩:Addr).add i=⟨b,o+i,none⟩:=by unfold Addr.add;split<;>simp_all
  have hlt:o+i<cur.size:=by omega
  have hc:w.cell? ⟨b,o+i,none⟩=some cur[o+i]:=by simp[World.cell?,hb,hlt]
  have hf:w.frozen? ⟨b,o+i,none⟩=false:=by simp[World.frozen?,hb]
  cases h1:v.oneCell' with
  |false=>
   exfalso
   cases v<;>simp only[Value.oneCell',reduceCtorEq] at h1<;>simp[storeCells,store,AQ,Sem.run] at h
  |true=>
   simp only[storeCells,AQ] at h
   rw[hadd,run_store P w _ v _ h1,hc] at h
   simp only[hf,Am,if_false,AI] at h
   have hb2:(w.setCell ⟨b,o+i,none⟩ v).heap[b]?=some (.cells (cur.setIfInBounds (o+i) v) e (0,0)):=by
    simp[BP,BC,hb]
   obtain⟨h2,cur',h3,h4⟩:=ih (i+1) hb2 (by rw[Aa];omega) h
   refine⟨fun c hcb=>?_,cur',h3,by rw[h4,Aa]⟩
   rw[h2 c hcb]
   simp[BP,BC,Ne.symm hcb]
theorem storeAt_frame {t:TypeId} {x:Value} {b o n:Nat} {cur:Array Value} {e:TypeId} {w w2:World} (hn:∀w,(sizeOf t).run P w= .ok n w) (hb:w.heap[b]?=some (.cells cur e (0,0))) (hlen:o+n<=cur.size) (h:(Instr.storeAt t (.pointer (some ⟨b,o,none⟩)) x).run P w= .ok () w2):
  (∀c,c≠b->w2.heap[c]?=w.heap[c]?)/\∃cur',w2.heap[b]?=some (.cells cur' e (0,0))/\cur'.size=cur.size:=by
 simp only[Instr.storeAt,Instr.sureAddr,storeVar,AQ,AT,AI,hn] at h
 by_cases hs:x.cells.size≠n
 ·simp[hs,stuck,Sem.run] at h
 ·simp only[hs,if_false,AT,AQ,AI] at h
  exact storeCells_frame x.cells.toList 0 hb (by simp at hs ⊢;omega) h
theorem any_first_inv {Q:Exit->Act->World->Prop} {J:Array Bool->Act->World->Prop} {i:Nat} {oi:Oper} {v:Value}
  (hyield:∀listed a w K,J listed a w->K (a.put oi.dst v) w->wpOp P ops Q i K a w)
  (hstep:∀listed a w j oj K,J listed a w->i∈AL .any ops listed->ops[j]?=some oj->j≠i->listed.getD j true=false->(∀e∈oj.after,Ai .any e=true->e.on≠i)->wpOp P ops Q j K (a.put oi.dst v) w->wpOp P ops Q j (fun a' w'=>J (listed.setIfInBounds j true) a' w'/\K (a'.put oi.dst v) w') a w):
  ∀ (fuel:Nat) (listed:Array Bool) (a:Act) (w:World),J listed a w->i∈AL .any ops listed->wpAny P .any ops Q fuel (listed.setIfInBounds i true) (a.put oi.dst v) w->wpAny P .any ops Q (fuel+1) listed a w:=by
 intro fuel
 induction fuel with
 |zero=>
  intro listed a w hJ hr H
  refine⟨fun h=>(by rw[h] at hr;cases hr),fun j hj=>?_⟩
  by_cases hji:j=i
  ·subst hji;exact hyield _ _ _ _ hJ H
  ·have:=ready_mono hj hji
   rw[H.1] at this
   cases this
 |succ fuel ih=>
  intro listed a w hJ hr H
  refine⟨fun h=>(by rw[h] at hr;cases hr),fun j hj=>?_⟩
  by_cases hji:j=i
  ·subst hji;exact hyield _ _ _ _ hJ H
  ·have h1:=H.2 j (ready_mono hj hji)
   obtain⟨hjun,oj,hoj,hall⟩:=mem_ready.1 hj
   have hnot:∀e∈oj.after,Ai .any e=true->e.on≠i:=fun e he hb heq=>by
    have h1:=hall e he hb
    rw[heq,getD_both (mem_ready.1 hr).1] at h1
    cases h1
   refine wpOp_mono (fun a' w' h3=>ih (listed.setIfInBounds j true) a' w' h3.1 (ready_mono hr (Ne.symm hji)) ?_) (hstep _ _ _ _ _ _ hJ hr hoj hji hjun hnot h1)
   rw[Array.setIfInBounds_comm _ _ hji]
   exact h3.2
def StoreQ (P:Program) (ops:Array Oper) (oj:Oper) (b1:Nat) (a:Act) (w:World):Prop:=
 oj.guard=none/\oj.dst=none/\∃ (t2:TypeId) (p2:Tmp) (x2:Operand) (b2 o2 n:Nat) (cur:Array Value) (e:TypeId),oj.op= .store t2 (.tmp p2) x2/\(∀ (j:Nat) (q:Oper),ops[j]?=some q->q.dst≠some p2)/\(∀w,(sizeOf t2).run P w= .ok n w)/\a.tmps.getD p2 undef= .pointer (some ⟨b2,o2,none⟩)/\b2≠b1/\w.heap[b2]?=some (.cells cur e (0,0))/\o2+n<=cur.size
theorem StoreQ.go {oj:Oper} {b1:Nat} {w2:World} {a a2:Act} (h:StoreQ P ops oj b1 a w) (hw:∀ (c:Nat) (cur:Array Value) (e:TypeId),w.heap[c]?=some (Obj.cells cur e (0,0))->∃cur':Array Value,w2.heap[c]?=some (Obj.cells cur' e (0,0))/\cur'.size=cur.size)
  (ha:∀p,(∀ (j:Nat) (q:Oper),ops[j]?=some q->q.dst≠some p)->a2.tmps.getD p undef=a.tmps.getD p undef):StoreQ P ops oj b1 a2 w2:=by
 obtain⟨h1,h2,t2,p2,x2,b2,o2,n,cur,e,h3,h0,h4,h5,h6,h7,h8⟩:=h
 obtain⟨cur',h9,h10⟩:=hw b2 cur e h7
 exact⟨h1,h2,t2,p2,x2,b2,o2,n,cur',e,h3,h0,h4,by rw[ha p2 h0];exact h5,h6,h9,by omega⟩
def LoadQ (oj:Oper):Prop:=oj.guard=none/\∃t p,oj.op= .load t (.tmp p)
theorem loadAt_looks (t:TypeId) (v:Value):(Instr.loadAt t v).Looks:=by
 unfold Instr.loadAt
 refine BA.bind ?_ (fun b=>?_)
 ·unfold Instr.sureAddr
  split<;>trivial
 ·unfold loadVar
  refine BA.bind ?_ (fun g=>?_)
  ·unfold isAgg
   refine BA.bind (underlying_looks t) (fun d=>?_)
   split<;>trivial
  ·split
   ·exact BA.bind (sizeOf_looks t) (fun n=>BA.bind (loadCells_looks b n) (fun c=>trivial))
   ·exact load_looks b _
theorem getD_put {a:Act} {d:Option Tmp} {v:Value} {p:Tmp} (h:d≠some p):(a.put d v).tmps.getD p undef=a.tmps.getD p undef:=by
 rw[A7,A7,put_other _ _ p (Ne.symm h)]
theorem load_first {Q:Exit->Act->World->Prop} (hQp:∀c a w,¬Q (.panic c) a w) (hsel:BM ops=true) {i:Nat} {oi:Oper} {t p:Nat} {v vp:Value} {b1:Nat} {ob1:Obj} (hi:ops[i]?=some oi) (hg:oi.guard=none) (hop:oi.op= .load t (.tmp p))
  (hv:∀w:World,w.heap[b1]?=some ob1->(Instr.loadAt t vp).run P w= .ok v w) (fuel:Nat) (listed:Array Bool) (a:Act) (w:World) (hp:a.tmps.getD p undef=vp) (hb:w.heap[b1]?=some ob1)
  (hall:∀j oj,ops[j]?=some oj->j≠i->listed.getD j true=false->(∀e∈oj.after,Ai .any e=true->e.on≠i)->oi.apart ops oj=true/\(bareOp oj=true\/LoadQ oj\/StoreQ P ops oj b1 a w))
  (hr:i∈AL .any ops listed) (h:wpAny P .any ops Q fuel (listed.setIfInBounds i true) (a.put oi.dst v) w):wpAny P .any ops Q (fuel+1) listed a w:=by
 have hpl:p∈oi.looksAt ops:=AO _ (Ad.2 ⟨.tmp p,by simp[hop,Op.operands],rfl⟩)
 refine any_first_inv (i:=i) (oi:=oi) (v:=v) (J:=fun listed a w=>a.tmps.getD p undef=vp/\w.heap[b1]?=some ob1/\∀j oj,ops[j]?=some oj->j≠i->listed.getD j true=false->(∀e∈oj.after,Ai .any e=true->e.on≠i)->oi.apart ops oj=true/\(bareOp oj=true\/LoadQ oj\/StoreQ P ops oj b1 a w))
  (fun listed a w K ⟨h1,h2,_⟩ hK=>?_) (fun listed a w j oj K ⟨h1,h2,h3⟩ hr hoj hji hju hno hK=>?_) fuel listed a w ⟨hp,hb,hall⟩ hr h
 ·unfold wpOp
  simp only[hi,AC,hg,if_true]
  left
  have:(execOp a.eval oi).run P w= .ok (.value v) w:=by
   have he:a.eval (.tmp p)=vp:=h1
   simp only[execOp,hop,he,AQ,hv w h2,AI,AT]
  unfold Oper.wp
  rw[this];exact hK
 ·obtain⟨hap,hcl⟩:=h3 j oj hoj hji hju hno
  obtain⟨q1,q2,q3⟩:=Oper.apart_spec hap
  have hsub:∀k,(listed.setIfInBounds j true).getD k true=false->listed.getD k true=false:=by
   intro k hk
   by_cases hkj:j=k
   ·subst hkj;exact hju
   ·rwa [getD_set_ne true hkj] at hk
  rcases hcl with hb|hld|hst
  ·obtain⟨u,hy,hK2⟩:=bare_step hQp hoj hb hK
   have hy2:Yields P ops oj u a:=hy.of_same (execOp_put oj (fun cs b=>Ab hsel j oj cs b hoj) a oi.dst v q1).symm (wanted_put oj a oi.dst v q1).symm
   refine hy2.wpOp hoj ⟨⟨?_,h2,fun k ok hk hki hun hno2=>?_⟩,?_⟩
   ·rw[getD_put (fun he=>q3 p he hpl)];exact h1
   ·obtain⟨z1,z2⟩:=h3 k ok hk hki (hsub k hun) hno2
    exact⟨z1,z2.imp id fun z=>z.imp id fun z=>z.go (fun c cur e hc=>⟨cur,hc,rfl⟩) (fun p hp=>getD_put (hp j oj hoj))⟩
   ·rw[<-Act.put_comm a v u q2];exact hK2
  ·obtain⟨g1,t2,p2,g3⟩:=hld
   unfold wpOp at hK ⊢
   simp only[hoj,AC,g1,if_true] at hK ⊢
   have hex:=execOp_put oj (fun cs b=>Ab hsel j oj cs b hoj) a oi.dst v q1
   rcases hK with hK|⟨hK,hl⟩
   ·left
    unfold Oper.wp at hK ⊢
    rw[hex] at hK
    simp only[execOp,g3,AQ] at hK ⊢
    cases hs:(Instr.loadAt t2 (a.eval (.tmp p2))).run P w with
    |ok u w2=>
     have hw2:w2=w:=(loadAt_looks _ _).ok hs
     subst hw2
     rw[hs] at hK
     simp only[AI,AT,Oper.upon] at hK ⊢
     refine⟨⟨?_,h2,fun k ok hk hki hun hno2=>?_⟩,?_⟩
     ·rw[getD_put (fun he=>q3 p he hpl)];exact h1
     ·obtain⟨z1,z2⟩:=h3 k ok hk hki (hsub k hun) hno2
      exact⟨z1,z2.imp id fun z=>z.imp id fun z=>z.go (fun c cur e hc=>⟨cur,hc,rfl⟩) (fun p hp=>getD_put (hp j oj hoj))⟩
     ·rw[<-Act.put_comm a v u q2];exact hK
    |halt x w2=>
     rw[hs] at hK
     cases x<;>simp only[BE,Oper.upon] at hK ⊢
     all_goals exact absurd hK (hQp _ _ _)
   ·right
    unfold Oper.asks at hK ⊢
    rw[hex] at hK
    exact⟨hK,hl⟩
  ·obtain⟨g1,g2,t2,p2,x2,b2,o2,n,cur,e,g3,g4,g5,g6,g7,g8,g9⟩:=hst
   unfold wpOp at hK ⊢
   simp only[hoj,AC,g1,if_true] at hK ⊢
   have hex:=execOp_put oj (fun cs b=>Ab hsel j oj cs b hoj) a oi.dst v q1
   rcases hK with hK|⟨hK,hl⟩
   ·left
    unfold Oper.wp at hK ⊢
    rw[hex] at hK
    have he:a.eval (.tmp p2)= .pointer (some ⟨b2,o2,none⟩):=g6
    simp only[execOp,g3,he,AQ] at hK ⊢
    cases hs:(Instr.storeAt t2 (.pointer (some ⟨b2,o2,none⟩)) (a.eval x2)).run P w with
    |ok u w2=>
     rw[hs] at hK
     simp only[AI,AT,Oper.upon,g2] at hK ⊢
     obtain⟨k1,cur',k2,k3⟩:=storeAt_frame g5 g8 g9 hs
     refine⟨⟨h1,(k1 b1 (Ne.symm g7)).trans h2,fun k ok hk hki hun hno2=>?_⟩,hK⟩
     obtain⟨z1,z2⟩:=h3 k ok hk hki (hsub k hun) hno2
     refine⟨z1,z2.imp id fun z=>z.imp id fun z=>z.go (fun c cur2 e2 hc=>?_) (fun p _=>rfl)⟩
     by_cases hcb:c=b2
     ·subst hcb
      rw[g8] at hc
      simp only[AS,Obj.cells.injEq,and_true] at hc
      exact⟨cur',by rw[k2,hc.2],by rw[k3,hc.1]⟩
     ·exact⟨cur2,(k1 c hcb).trans hc,rfl⟩
    |halt x w2=>
     rw[hs] at hK
     cases x<;>simp only[BE,Oper.upon] at hK ⊢
     all_goals exact absurd hK (hQp _ _ _)
   ·right
    unfold Oper.asks at hK ⊢
    rw[hex] at hK
    exact⟨hK,hl⟩
end
end Go.Proofs.YtibidhcmenljoaaDoor.V
namespace Go.Proofs.YtibidhcmenljoaaDoor.V
open Go
section
variable {P:Program} {X:Ctx} {E:Env} {σ:St} {a:Act} {w:World} {R:Type} {ops:Array Oper}
theorem perm_ready {d:List Nat} {o:Oper} (h:readyP d o=true):∀e∈o.after,Ai .any e=true->e.on∈d:=by
 intro e he hb
 unfold readyP at h
 have:=Array.all_eq_true'.1 h e he
 simp only[A6,AE,Ac] at this
 rcases this with h|h
 ·rw[hb] at h;cases h
 ·exact h
theorem any_of_perm {Q:Exit->Act->World->Prop} (hQp:∀c a w,¬Q (.panic c) a w) (hsel:BM ops=true):∀ (π d:List Nat) (listed:Array Bool) (a:Act) (w:World),permGo ops d π=true->listed.size=ops.size->
  (∀i,listed.getD i false=true↔i∈d)->(∀i,i<ops.size->i∈d\/i∈π)->wpOps P ops Q π a w->wpAny P .any ops Q π.length listed a w:=by
 intro π
 induction π with
 |nil=>
  intro d listed a w hB hsz h1 h2 h
  refine⟨List.eq_nil_iff_forall_not_mem.2 fun i hi=>?_,h⟩
  obtain⟨hun,oi,hoi,_⟩:=mem_ready.1 hi
  have hlt:i<ops.size:=(AG.1 hoi).1
  have hd:i∈d:=by
   rcases h2 i hlt with h|h
   ·exact h
   ·cases h
  have:=(h1 i).2 hd
  rw[getD_both hun] at this
  cases this
 |cons n π ih=>
  intro d listed a w hB hsz h1 h2 h
  simp only[permGo,A4] at hB
  cases ho:ops[n]? with
  |none=>rw[ho] at hB;simp at hB
  |some o=>
   rw[ho] at hB
   simp only[A4,AE] at hB
   obtain⟨⟨⟨hnd,hrd⟩,halt⟩,hB'⟩:=hB
   have hnd':n∉d:=fun hm=>by rw[Ac.2 hm] at hnd;cases hnd
   have hlt:n<ops.size:=(AG.1 ho).1
   have hdl:∀e,e∈d->listed.getD e true=true:=by
    intro e he
    have:=(h1 e).2 he
    rw[A7] at this ⊢
    cases hx:listed[e]? with
    |none=>rfl
    |some b=>rw[hx] at this;exact this
   have hunl:listed.getD n true=false:=by
    rw[A7,AJ (by omega)]
    cases hx:listed[n]'(by omega) with
    |false=>simp[hx]
    |true=>
     exfalso
     refine hnd' ((h1 n).1 ?_)
     rw[A7,AJ (by omega)];simp[hx]
   have hmem:n∈AL .any ops listed:=mem_ready.2 ⟨hunl,o,ho,fun e he hb=>(h1 e.on).2 (perm_ready hrd e he hb)⟩
   have hset:(listed.setIfInBounds n true).size=ops.size/\(∀i,(listed.setIfInBounds n true).getD i false=true↔i∈n::d)/\(∀i,i<ops.size->i∈n::d\/i∈π):=by
    refine⟨by simp[hsz],fun i=>?_,fun i hi=>?_⟩
    ·by_cases hin:i=n
     ·subst hin
      have:i<listed.size:=by omega
      simp[A7,this]
     ·rw[getD_set_ne false (Ne.symm hin),h1 i]
      simp[hin]
    ·rcases h2 i hi with h|h
     ·exact .inl (A5 _ h)
     ·rcases AU.1 h with h|h
      ·exact .inl (by rw[h];exact A9)
      ·exact .inr h
   have hrest:∀j p,ops[j]?=some p->listed.getD j true=false->j≠n->j∈π:=by
    intro j p hp hun hjn
    have hjl:j<ops.size:=(AG.1 hp).1
    rcases h2 j hjl with h|h
    ·have:=hdl j h
     rw[hun] at this
     cases this
    ·rcases AU.1 h with h|h
     ·exact absurd h hjn
     ·exact h
   rw[As]
   rw[wpOps_cons] at h
   rcases A6 _ _▸halt with halt|halt
   ·refine⟨fun h1=>(by rw[h1] at hmem;cases hmem),fun i hi=>?_⟩
    obtain⟨hun,oi,hoi,hall⟩:=mem_ready.1 hi
    have hin:i=n:=by
     refine Classical.byContradiction fun hne=>?_
     have hj:=AH.1 halt i (hrest i oi hoi hun hne)
     rw[hoi] at hj
     simp only at hj
     obtain⟨e,he,hb⟩:=BG.1 hj
     simp only[A4,AE] at hb
     have h3:=hall e he hb.1
     have hnm:e.on∉d:=fun hm=>by rw[Ac.2 hm] at hb;cases hb.2
     exact hnm ((h1 e.on).1 h3)
    subst hin
    exact wpOp_mono (fun a' w' h'=>ih (i::d) _ a' w' hB' hset.1 hset.2.1 hset.2.2 h') h
   ·simp only[A4,AH,A6] at halt
    obtain⟨v,hy,hK⟩:=bare_step hQp ho halt.1 h
    refine wpAny_first ho (fun j oj cs b hj=>Ab hsel j oj cs b hj) (fun c a w h=>absurd h (hQp c _ w)) _ _ _ _ (fun j oj hj hji hju hno=>?_) hmem hy (ih (n::d) _ _ _ hB' hset.1 hset.2.1 hset.2.2 hK)
    have h':=halt.2 j (hrest j oj hj hju hji)
    rw[hj] at h'
    simp only[A6] at h'
    rcases h' with h'|h'
    ·obtain⟨e,he,hb⟩:=BG.1 h'
     simp only[A4,beq_iff_eq] at hb
     exact absurd hb.2 (hno e he hb.1)
    ·exact h'
theorem permGo_at:∀ {π d:List Nat},permGo ops d π=true->∀i∈π,∃o,ops[i]?=some o:=by
 intro π
 induction π with
 |nil=>intro d _ i hi;cases hi
 |cons n π ih=>
  intro d h i hi
  simp only[permGo,A4] at h
  rcases AU.1 hi with hi|hi
  ·rw[hi]
   cases ho:ops[n]? with
   |none=>rw[ho] at h;simp at h
   |some o=>exact⟨o,rfl⟩
  ·exact ih h.2 i hi
theorem steps_ok (T:Tabs) (hT:TabOk P T.T) (hF:FOk P T.F):∀ (l:List (Oper×Nat)) {R:Type} {σ:St} {k:St->Option R} {r:R} {a:Act} {w:World} {E:Env},
  stepsK T (l.map (·.1)) σ k=some r->RelE X E σ a.tmps w->(∀q∈l,ops[q.2]?=some q.1)->∀ (Q:Exit->Act->World->Prop),
  (∀a' w',End X T l a w (fun σ'=>k σ'=some r) a' w'->wpOps P ops Q [] a' w')->wpOps P ops Q (l.map (·.2)) a w:=by
 intro l
 induction l with
 |nil=>intro R σ k r a w E h hr _ Q hend;exact hend a w ⟨rfl,rfl,fun _ _=>rfl,fun _=>Ext.refl w,σ,h,E,hr⟩
 |cons o l ih=>
  intro R σ k r a w E h hr hi Q hend
  simp only[Ak,stepsK] at h
  cases hg:o.1.guard.isNone with
  |false=>rw[hg] at h;simp at h
  |true=>
   rw[hg] at h
   simp only[cond_true] at h
   have hgn:o.1.guard=none:=by simpa using hg
   have ho:=hi o A9
   have hw:AC o.1 (yielded ops a.tmps)=true:=by simp[AC,hgn]
   simp only[Ak,wpOps,ho,hw,if_true]
   left
   refine Oper.wp_mono (fun a1 w1 ⟨d1,s1,z1,x1,σ1,hk,E1,hr1⟩=>?_) (step_ok T hT hF h hr Q)
   exact ih hk hr1 (fun q hq=>hi q (A5 _ hq)) Q (fun a2 w2 he=>hend a2 w2 (End.cons d1 z1 s1 x1 he))
end
end Go.Proofs.YtibidhcmenljoaaDoor.V
namespace Go.Proofs.YtibidhcmenljoaaDoor.V
open Go
section
variable {P:Program} {X:Ctx} {E:Env} {σ:St} {a:Act} {w:World} {R:Type} {ops:Array Oper} {D:List Nat} {m n:Nat} {inf:Nat->Tmp×Array Value×TypeId} {S:Nat->Slot} {ids:List Nat} {B:Nat->List Bx}
def efB (T:Tabs) (ops:Array Oper) (i:Nat):Bool:=match ops[i]? with
 |some o=>isEff T o.op
 |none=>false
def GCert (P:Program) (T:Tabs) (X:Ctx) (D:List Nat) (ops:Array Oper) (ids:List Nat) (S:Nat->Slot) (B:Nat->List Bx) (σ:St) (i:Nat) (o:Oper):Prop:=
 o.guard=none/\((efB T ops i=true/\∃σ2,Sees D ops S {σ with bx:=B i} σ2 i o/\∀ (E:Env) (a:Act) (w:World),RelE X E σ2 a.tmps w->effUpon P X E σ2 {σ2 with bx:=B (i+1)} a.tmps w (S i) ((execOp a.eval o).run P w))\/
  (efB T ops i=false/\B (i+1)=B i/\∃σ2,Sees D ops S (poison ids σ) σ2 i o/\∀ (E:Env) (a:Act) (w:World),RelE X E σ2 a.tmps w->slotUpon P X E σ2 w (S i) ((execOp a.eval o).run P w)))
theorem GCert.congr {T:Tabs} {S':Nat->Slot} {B':Nat->List Bx} {i:Nat} {o:Oper} (h:GCert P T X D ops ids S B σ i o) (hs:∀k,k<i+1->S' k=S k) (hb:∀k,k<=i+1->B' k=B k):GCert P T X D ops ids S' B' σ i o:=by
 obtain⟨h0,h⟩:=h
 refine⟨h0,?_⟩
 rw[hb (i+1) (by omega),hb i (by omega),hs i (by omega)]
 rcases h with⟨h1,σ2,h2,h3⟩|⟨h1,h2,σ2,h3,h4⟩
 ·exact .inl ⟨h1,σ2,h2.congr (fun k hk=>hs k (by omega)),h3⟩
 ·exact .inr ⟨h1,h2,σ2,h3.congr (fun k hk=>hs k (by omega)),h4⟩
theorem Walk.rebx {i:Nat} {σi:St} (h:Walk ops S σ σi i) (b:List Bx):Walk ops S {σ with bx:=b} {σi with bx:=b} i:=⟨⟨rfl,h.same.al,h.same.fz,h.same.ln,h.same.nt,h.same.len⟩,h.slot⟩
theorem poison_set {id:Nat} {x:Val} (hid:ids.contains id=true):∀ (l:List Bx),(setBx id x l).map (fun b=>bif ids.contains b.id then(⟨b.id,⟨.unit,(),[]⟩⟩:Bx) else b)=l.map (fun b=>bif ids.contains b.id then(⟨b.id,⟨.unit,(),[]⟩⟩:Bx) else b):=by
 intro l
 induction l with
 |nil=>rfl
 |cons b l ih=>
  simp only[setBx]
  by_cases hb:b.id=id
  ·rw[if_pos hb,Ak,Ak]
   congr 1
   rw[hb]
   simp only[hid,cond_true]
  ·rw[if_neg hb,Ak,Ak,ih]
theorem g_cert (T:Tabs) (hT:TabOk P T.T) (hF:FOk P T.F) (H:HeadOk ops D m n):∀ {l:List (Oper×Nat)} {i:Nat} {σi:St} {k:St->Option R} {r:R} {S:Nat->Slot} {B:Nat->List Bx},
  gK T D ops ids l σi k=some r->Contig i l->(∀q∈l,ops[q.2]?=some q.1)->i+l.length<=m->(∀q∈l,∃d,q.1.dst=some d)->Walk ops S {σ with bx:=B i} σi i->(∀j,j<=i->poison ids {σ with bx:=B j}=poison ids σ)->
  ∃S' B' σ',(∀j,j<i->S' j=S j)/\(∀j,j<=i->B' j=B j)/\(∀j o,i<=j->j<i+l.length->ops[j]?=some o->GCert P T X D ops ids S' B' σ j o)/\Walk ops S' {σ with bx:=B' (i+l.length)} σ' (i+l.length)/\
   (∀j,j<=i+l.length->poison ids {σ with bx:=B' j}=poison ids σ)/\k σ'=some r:=by
 intro l
 induction l with
 |nil=>intro i σi k r S B h hc hi hm hh hw hp;exact⟨S,B,σi,fun _ _=>rfl,fun _ _=>rfl,fun j o h1 h2=>by simp at h2;omega,hw,hp,h⟩
 |cons o l ih=>
  intro i σi k r S B h hc hi hm hh hw hp
  have ho:=hi o A9
  have ho2:o.2=i:=hc.1
  rw[ho2] at ho
  have him:i<m:=by simp at hm;omega
  obtain⟨d,hd⟩:=hh o A9
  have hbi:σi.bx=B i:=hw.same.bx
  have fin:∀ (s:Slot) (bn:List Bx) (σn:St),σn=({σi with bx:=bn}:St).put o.1.dst s->poison ids {σ with bx:=bn}=poison ids σ->gK T D ops ids l σn k=some r->(∀ (S':Nat->Slot) (B':Nat->List Bx),(∀j,j<i->S' j=S j)->S' i=s->(∀j,j<=i->B' j=B j)->B' (i+1)=bn->GCert P T X D ops ids S' B' σ i o.1)->
    ∃S' B' σ',(∀j,j<i->S' j=S j)/\(∀j,j<=i->B' j=B j)/\(∀j p,i<=j->j<i+(o::l).length->ops[j]?=some p->GCert P T X D ops ids S' B' σ j p)/\Walk ops S' {σ with bx:=B' (i+(o::l).length)} σ' (i+(o::l).length)/\
     (∀j,j<=i+(o::l).length->poison ids {σ with bx:=B' j}=poison ids σ)/\k σ'=some r:=by
   intro s bn σn hσ hpn hg hcert
   have hS1:∀j,j<i->(fun j=>if j=i then s else S j) j=S j:=fun j hj=>if_neg (by omega)
   have hB1:∀j,j<=i->(fun j=>if j=i+1 then bn else B j) j=B j:=fun j hj=>if_neg (by omega)
   have hw1:Walk ops (fun j=>if j=i then s else S j) {σ with bx:=(fun j=>if j=i+1 then bn else B j) (i+1)} σn (i+1):=by
    rw[hσ]
    have:=(hw.rebx bn).put (S':=fun j=>if j=i then s else S j) ho hd s hS1 (if_pos rfl)
    simpa using this
   obtain⟨S',B',σ',q1,q2,q3,q4,q5,q6⟩:=ih (S:=fun j=>if j=i then s else S j) (B:=fun j=>if j=i+1 then bn else B j) hg hc.2 (fun q hq=>hi q (A5 _ hq)) (by simp at hm;omega) (fun q hq=>hh q (A5 _ hq)) hw1 (fun j hj=>by
    by_cases hji:j=i+1
    ·simp only[hji,if_true];exact hpn
    ·simp only[if_neg hji];exact hp j (by omega))
   have hlen:i+(o::l).length=i+1+l.length:=by simp;omega
   rw[hlen]
   refine⟨S',B',σ',fun j hj=>(q1 j (by omega)).trans (hS1 j hj),fun j hj=>(q2 j (by omega)).trans (hB1 j hj),fun j p h3 h4 hp'=>?_,q4,q5,q6⟩
   by_cases hji:j=i
   ·subst hji
    rw[ho] at hp'
    have:=A3 hp'
    subst this
    exact hcert S' B' (fun k hk=>(q1 k (by omega)).trans (hS1 k hk)) ((q1 j (by omega)).trans (if_pos rfl)) (fun k hk=>(q2 k (by omega)).trans (hB1 k hk)) ((q2 (j+1) (by omega)).trans (if_pos rfl))
   ·exact q3 j p (by omega) h4 hp'
  simp only[gK] at h
  cases he:isEff T o.1.op with
  |true=>
   rw[he] at h
   simp only[cond_true] at h
   have hef:efB T ops i=true:=by simp only[efB,ho,he]
   cases hgu:o.1.guard.isNone with
   |false=>rw[hgu] at h;simp at h
   |true=>
    rw[hgu] at h
    simp only[cond_true] at h
    have hg0:o.1.guard=none:=by simpa using hgu
    obtain⟨id,x,s,h1,h2⟩:=effK_nat T h
    cases hid:ids.contains id with
    |false=>rw[hid] at h1;simp at h1
    |true=>
     rw[hid] at h1
     simp only[cond_true] at h1
     refine fin s (setBx id x σi.bx) _ rfl ?_ h1 (fun S' B' e1 e2 e3 e4=>⟨hg0,.inl ⟨hef,hide D (o.1.looksAt ops) σi,?_,fun E a w hr=>?_⟩⟩)
     ·rw[hbi]
      have:=hp i (AW i)
      simp only[poison] at this ⊢
      rw[poison_set hid]
      exact this
     ·have:=(hw.sees H him ho).congr e1
      rw[e3 i (AW i)];exact this
     ·rw[e2,e4]
      exact eff_ok T hT hF (h2 _ _) hr
  |false=>
   rw[he] at h
   simp only[cond_false] at h
   have hef:efB T ops i=false:=by simp only[efB,ho,he]
   cases hgu:o.1.guard.isNone&&headOp T o.1.op with
   |false=>rw[hgu] at h;simp at h
   |true=>
    rw[hgu] at h
    simp only[cond_true] at h
    simp only[A4] at hgu
    have hg0:o.1.guard=none:=by simpa using hgu.1
    obtain⟨s,h1,h2⟩:=slotK_nat T hgu.2 h
    refine fin s (B i) _ (by rw[<-hbi]) (hp i (AW i)) h1 (fun S' B' e1 e2 e3 e4=>⟨hg0,.inr ⟨hef,by rw[e4,e3 i (AW i)],hide D (o.1.looksAt ops) (poison ids σi),?_,fun E a w hr=>?_⟩⟩)
    ·have hwp:Walk ops S (poison ids σ) (poison ids σi) i:=by
      have h3:=hp i (AW i)
      have h4:(poison ids σi).bx=(poison ids σ).bx:=by rw[<-h3];simp only[poison,hbi]
      exact⟨⟨h4,hw.same.al,hw.same.fz,hw.same.ln,hw.same.nt,hw.same.len⟩,hw.slot⟩
     exact(hwp.sees H him ho).congr e1
    ·rw[e2]
     exact slotK_ok T hT hF hgu.2 (h2 _ _) hr
structure GInv (T:Tabs) (X:Ctx) (E:Env) (ops:Array Oper) (m n:Nat) (inf:Nat->Tmp×Array Value×TypeId) (S:Nat->Slot) (B:Nat->List Bx) (σ:St) (ids:List Nat) (a:Act) (w:World) (bl:Nat->Nat) (l:List Nat) (listed:Array Bool) (a':Act) (w':World):Prop where
 head:HeadInv .any ops n listed
 full:∃c,c<=m/\RelE X (E.outs (l++E.out)) {σ with bx:=B c} a.tmps w'/\∀i,i<m->efB T ops i=true->(listed.getD i false=true↔i<c)
 hsz:w.heap.size<=w'.heap.size
 dfr:a'.defers=a.defers
 siz:a'.tmps.size=a.tmps.size
 oth:∀t,(∀i o,i<n->ops[i]?=some o->o.dst≠some t)->a'.tmps[t]?=a.tmps[t]?
 slt:∀i o d u,i<m->ops[i]?=some o->o.dst=some d->listed.getD i false=true->a'.tmps[d]?=some u->SlotOk w' (Fz X (E.outs (l++E.out)) (poison ids σ) w') (E.outs (l++E.out)) (poison ids σ) (S i) u
 new:∀i,m<=i->i<n->listed.getD i false=true->(∀b:Act,b.tmps.size=a.tmps.size->a'.tmps[(inf i).1]?=(b.put (some (inf i).1) (.pointer (some ⟨bl i,0,none⟩))).tmps[(inf i).1]?)/\
  w.heap.size<=bl i/\bl i<w'.heap.size/\w'.heap[bl i]?=some (.cells (inf i).2.1 (inf i).2.2 (0,0))
 inj:∀i j,m<=i->i<n->m<=j->j<n->listed.getD i false=true->listed.getD j false=true->bl i=bl j->i=j
 lfr:∀b∈l,w.heap.size<=b/\b<w'.heap.size
 lmem:∀i,m<=i->i<n->listed.getD i false=true->bl i∈l
section
variable {T:Tabs} {bl:Nat->Nat} {l:List Nat} {listed:Array Bool} {a':Act} {w':World}
theorem GInv.base (inv:GInv T X E ops m n inf S B σ ids a w bl l listed a' w') (hP:∀c,c<=m->poison ids {σ with bx:=B c}=poison ids σ):RelE X (E.outs (l++E.out)) (poison ids σ) a.tmps w':=by
 obtain⟨c,hc,hr,_⟩:=inv.full
 have:=hr.poison ids
 rwa [hP c hc] at this
theorem GInv.rel (inv:GInv T X E ops m n inf S B σ ids a w bl l listed a' w') {σ0 σ2:St} (hr:RelE X (E.outs (l++E.out)) σ0 a.tmps w') (hK:Keep w' w' (Fz X (E.outs (l++E.out)) (poison ids σ) w') (Fz X (E.outs (l++E.out)) σ0 w') (E.outs (l++E.out)) (E.outs (l++E.out)) (poison ids σ) σ0) (hs:SameB σ0 σ2)
  (h:∀t s,σ2.fr[t]?=some s->s= .no\/((∀j p,j<n->ops[j]?=some p->p.dst≠some t)/\σ0.fr[t]?=some s)\/∃j p,j<m/\ops[j]?=some p/\p.dst=some t/\listed.getD j false=true/\s=S j):RelE X (E.outs (l++E.out)) σ2 a'.tmps w':=by
 refine hr.frames hs inv.siz (fun t s v h1 h2=>?_)
 rcases h t s h1 with h3|⟨h3,h4⟩|⟨j,p,q1,q2,q3,q4,q5⟩
 ·subst h3;trivial
 ·rw[inv.oth t h3] at h2
  exact hr.slot t s v h4 h2
 ·subst q5
  exact hK.slot (inv.slt j p t v q1 q2 q3 q4 h2)
end
theorem Keep.self {σ0:St} {A0:Array Value} (hr:RelE X E σ0 A0 w):Keep w w (Fz X E σ0 w) (Fz X E σ0 w) E E σ0 σ0:=keep_bx rfl rfl rfl rfl hr.ge
theorem alloc_out {l:List Nat} {σ0:St} {A0:Array Value} (hr:RelE X (E.outs (l++E.out)) σ0 A0 w) (ob:Obj):RelE X (E.outs ((w.heap.size::l)++E.out)) σ0 A0 (w.alloc ob):=by
 have hext:=Ext.alloc w ob
 have hnd:(l++E.out).Nodup:=by
  have:=hr.nodup
  simp only[owned] at this
  exact(AP.1 (AP.1 this).2.1).2.1
 have hltE:∀b∈l++E.out,b<w.heap.size:=fun b hb=>(hr.lt b (mem_out hr hb)).1
 exact(hr.world (w1:=w.alloc ob) (l:=(w.heap.size::l)++E.out) (fun b hb _=>hext.block b hb) (hr.fr.ext hext) hext.size (by
  rw[Av]
  exact B8.2 ⟨fun h=>by have:=hltE _ h;omega,hnd⟩) (fun b hb=>by
  rw[Av] at hb
  rcases AU.1 hb with rfl|hb
  ·exact⟨.inr (AW _),by simp⟩
  ·exact⟨.inl hb,AB (hltE b hb) hext.size⟩)).1
def BoxAt (T:Tabs) (ops:Array Oper) (ids:List Nat) (σ:St) (t:TypeId) (p:Tmp) (id:Nat) (tt:Ty):Prop:=
 T.T t=some tt/\(∀ (j:Nat) (q:Oper),ops[j]?=some q->q.dst≠some p)/\(∃r t',σ.fr[p]?=some (.ptr id r [] t'))/\∃y,⟨id,y⟩∈σ.bx/\y.t=tt/\id∉ids
def LateAt (T:Tabs) (ops:Array Oper) (ids:List Nat) (m n:Nat) (σ:St) (i:Nat) (o:Oper):Prop:=
 o.guard=none/\∃t p id tt,o.op= .load t (.tmp p)/\BoxAt T ops ids σ t p id tt/\∀ (j:Nat) oj,ops[j]?=some oj->j≠i->A8 .any ops j i=false->A8 .any ops i j=false->
  (j<n/\lateB ops m n j=false)\/(o.apart ops oj=true/\(bareOp oj=true\/LoadQ oj\/(oj.guard=none/\oj.dst=none/\∃t2 p2 x2 id2 tt2,oj.op= .store t2 (.tmp p2) x2/\BoxAt T ops ids σ t2 p2 id2 tt2/\id2≠id)))
theorem poison_keep {b:Bx} (hb:b∈σ.bx) (hi:b.id∉ids):b∈(poison ids σ).bx:=by
 simp only[poison,Ae]
 exact⟨b,hb,by simp[hi]⟩
theorem GInv.box {T:Tabs} {bl:Nat->Nat} {l:List Nat} {listed:Array Bool} {a':Act} {w':World} (inv:GInv T X E ops m n inf S B σ ids a w bl l listed a' w') (hP:∀c,c<=m->poison ids {σ with bx:=B c}=poison ids σ) {t:TypeId} {p:Tmp} {id:Nat} {tt:Ty} (h:BoxAt T ops ids σ t p id tt):
  ∃cs cur e,a'.tmps.getD p undef= .pointer (some ⟨(E.ad id).1,(E.ad id).2,none⟩)/\w'.heap[(E.ad id).1]?=some (.cells cur e (0,0))/\(E.ad id).2+tt.size<=cur.size/\At w' (E.ad id).1 (E.ad id).2 cs/\cs.length=tt.size:=by
 obtain⟨_,hnp,⟨r,t',hptr⟩,y,hy,hyt,hid⟩:=h
 have hbase:=inv.base hP
 obtain⟨cs,cur,e,h1,_,h3,h4,h5⟩:=hbase.bx _ (poison_keep hy hid)
 have hlen:cs.length=tt.size:=by rw[<-hyt];exact h1.length
 refine⟨cs,cur,e,?_,h3,by rw[<-hlen];exact h4,h5,hlen⟩
 have hlp:p<a.tmps.size:=by rw[<-hbase.len];exact(AY.1 hptr).1
 rw[A7,inv.oth p (fun j q _ hq=>hnp j q hq),AJ hlp]
 obtain⟨_,b,o',h1,h2⟩:=hbase.slot p _ _ hptr (AJ hlp)
 rw[Ar,h1]
 show _=Value.pointer (some ⟨((E.outs (l++E.out)).ad id).1,((E.outs (l++E.out)).ad id).2,none⟩)
 cases hr':r<;>rw[hr'] at h2<;>simp[addr] at h2<;>obtain⟨_,h2⟩:=h2<;>rw[h2]
theorem GInv.apart {T:Tabs} {bl:Nat->Nat} {l:List Nat} {listed:Array Bool} {a':Act} {w':World} (inv:GInv T X E ops m n inf S B σ ids a w bl l listed a' w') (hP:∀c,c<=m->poison ids {σ with bx:=B c}=poison ids σ) {t t2:TypeId} {p p2:Tmp} {id id2:Nat} {tt tt2:Ty} (h:BoxAt T ops ids σ t p id tt) (h2:BoxAt T ops ids σ t2 p2 id2 tt2) (hne:id2≠id):(E.ad id2).1≠(E.ad id).1:=by
 obtain⟨_,_,_,y,hy,_,hid⟩:=h
 obtain⟨_,_,_,y2,hy2,_,hid2⟩:=h2
 intro he
 have hn:=(inv.base hP).nodup
 simp only[owned] at hn
 have hn1:=(AP.1 hn).1
 exact hne (congrArg Bx.id (inj_of_nodup (f:=fun b:Bx=>(E.ad b.id).1) hn1 (poison_keep hy2 hid2) (poison_keep hy hid) he))
theorem g_any (T:Tabs) (hT:TabOk P T.T) {Q:Exit->Act->World->Prop} (hQp:∀c a w,¬Q (.panic c) a w) (hB:mixL ops m n=true) (H:HeadOk ops D m n) (hr:RelE X E σ a.tmps w) (hcert:∀i o,i<m->ops[i]?=some o->GCert P T X D ops ids S B σ i o)
  (hP:∀c,c<=m->poison ids {σ with bx:=B c}=poison ids σ) (hch:∀i j,i<m->j<i->efB T ops i=true->efB T ops j=true->A8 .any ops i j=true)
  (hload:n<ops.size->∀i o,i<m->ops[i]?=some o->lateB ops m n i=true->bareOp o=false->LateAt T ops ids m n σ i o)
  (hnew:∀i,m<=i->i<n->∃o,ops[i]?=some o/\NewAt P o (inf i).1 (inf i).2.1 (inf i).2.2)
  (hQ:∀ (a':Act) (w':World) (bl:Nat->Nat) (l:List Nat) (listed:Array Bool),(∀i,i<n->listed.getD i false=true)->GInv T X E ops m n inf S B σ ids a w bl l listed a' w'->wpOps P ops Q (BI n (ops.size-n)) a' w'):
  ∀ (k:Nat) (listed:Array Bool) (a':Act) (w':World) (bl:Nat->Nat) (l:List Nat),(AZ n).countP (fun i=> !listed.getD i true)=k->GInv T X E ops m n inf S B σ ids a w bl l listed a' w'->wpAny P .any ops Q (k+(ops.size-n)) listed a' w':=by
 simp only[mixL,A4,decide_eq_true_eq,AH,AD] at hB
 obtain⟨⟨⟨⟨hsel,hmn⟩,hns⟩,hops⟩,htail⟩:=hB
 have hop:∀i,i<n->∃o d,ops[i]?=some o/\o.dst=some d/\(∀e∈o.after,Ai .any e=true->e.on<i)/\(∀j p,j<n->j≠i->ops[j]?=some p->p.dst≠some d)/\
   (i<m->∀j p t,j<n->ops[j]?=some p->p.dst=some t->t∈o.looksAt ops->j<i/\A8 .any ops i j=true)/\
   (n<ops.size->(lateB ops m n i=true->bareOp o=true->∀j p,ops[j]?=some p->j≠i->A8 .any ops j i=true\/A8 .any ops i j=true\/o.apart ops p=true)/\
    (lateB ops m n i=false->∃j,j<=n/\i<j/\A8 .any ops j i=true/\(j=n\/lateB ops m n j=false))):=by
  intro i hi
  have h:=hops i hi
  cases ho:ops[i]? with
  |none=>rw[ho] at h;simp at h
  |some o=>
   rw[ho] at h
   simp only[A4,AH,AD] at h
   obtain⟨⟨⟨⟨h1,h2⟩,h3⟩,h4⟩,h5⟩:=h
   cases hd:o.dst with
   |none=>rw[hd] at h1;simp at h1
   |some d=>
    refine⟨o,d,rfl,hd,fun e he hb=>?_,fun j p hj hne hp he=>?_,fun him j p t hj hp ht hl=>?_,fun hlt=>?_⟩
    ·have:=Aj.1 h2 e he
     simp only[hb,Al,Ay,decide_eq_true_eq] at this
     exact this
    ·have:=h3 j hj
     rw[hp] at this
     simp only[A6,beq_iff_eq,AE,beq_eq_false_iff_ne,ne_eq] at this
     rcases this with h|h
     ·exact hne h
     ·exact h (he.trans hd.symm)
    ·simp only[A6,decide_eq_true_eq,AH,AD] at h4
     rcases h4 with h|h
     ·omega
     ·have:=h j hj
      rw[hp] at this
      simp only[AV,ht,A6,AE,A4,decide_eq_true_eq] at this
      rcases this with h|h
      ·simp[Ac,hl] at h
      ·exact⟨h.1.2,h.2⟩
    ·have h6:(bif lateB ops m n i then !bareOp o||(AZ ops.size).all (fun j=>j==i||A8 .any ops j i||A8 .any ops i j||(match ops[j]? with|some p=>o.apart ops p|none=>true))
       else(AZ (n+1)).any (fun j=>decide (i<j)&&A8 .any ops j i&&(j==n|| !lateB ops m n j)))=true:=by
      rcases A6 _ _▸h5 with h|h
      ·have:n=ops.size:=by simpa using h
       omega
      ·exact h
     refine⟨fun hla hba=>?_,fun hla=>?_⟩
     ·rw[hla,hba] at h6
      simp only[cond_true,Al,Ay,AH,AD] at h6
      intro j p hp hne
      have:=h6 j (AG.1 hp).1
      rw[hp] at this
      simp only[A6,beq_iff_eq] at this
      rcases this with((h|h)|h)|h
      ·exact absurd h hne
      ·exact .inl h
      ·exact .inr (.inl h)
      ·exact .inr (.inr h)
     ·rw[hla] at h6
      simp only[cond_false,Az,AD,A4,decide_eq_true_eq,A6,beq_iff_eq,AE] at h6
      obtain⟨j,h7,⟨h8,h9⟩,h10⟩:=h6
      exact⟨j,by omega,h8,h9,h10⟩
 have hsame:∀c i,c<=i->i<=m->(∀j,c<=j->j<i->efB T ops j=false)->B i=B c:=by
  intro c i hci him h
  induction i with
  |zero=>
   have:c=0:=by omega
   rw[this]
  |succ i ihi=>
   by_cases hc:c=i+1
   ·rw[hc]
   ·have hlt:i<ops.size:=by have:=H.le;omega
    rcases hcert i _ (by omega) (AJ hlt) with⟨_,⟨h1,_⟩|⟨_,h2,_⟩⟩
    ·rw[h i (by omega) (by omega)] at h1;cases h1
    ·rw[h2];exact ihi (by omega) (by omega) (fun j h3 h4=>h j h3 (by omega))
 intro k
 induction k with
 |zero=>
  intro listed a' w' bl l hk inv
  have hall:∀i,i<n->listed.getD i false=true:=by
   intro i hi
   refine listed_of_not (by rw[inv.head.size];omega) (fun h=>?_)
   have:=Aw.1 hk i (AD.2 hi)
   simp[h] at this
  rw[Ap]
  exact any_of_tail hQp hsel hns htail inv.head hall (hQ a' w' bl l listed hall inv)
 |succ k ih=>
  intro listed a' w' bl l hk inv
  rw[show k+1+(ops.size-n)=(k+(ops.size-n))+1 by omega]
  have hex:∃i,i<n/\listed.getD i true=false:=by
   obtain⟨i,hi,h⟩:=Ax.1 (show 0<(AZ n).countP (fun i=> !listed.getD i true) by omega)
   exact⟨i,AD.1 hi,by simpa using h⟩
  have hmin:∃i,i<n/\listed.getD i true=false/\i∈AL .any ops listed:=by
   obtain⟨i,hi,h⟩:=hex
   induction i using B7 with
   |_ i ihi=>
    by_cases hlow:∃j,j<i/\listed.getD j true=false
    ·obtain⟨j,hj,hj2⟩:=hlow
     exact ihi j hj (by omega) hj2
    ·obtain⟨o,d,e1,_,e3,_⟩:=hop i hi
     refine⟨i,hi,h,mem_ready.2 ⟨h,o,e1,fun e he hb=>?_⟩⟩
     have hlt:=e3 e he hb
     exact listed_of_not (by rw[inv.head.size];omega) (fun hn=>hlow ⟨e.on,hlt,hn⟩)
  have hcount:∀i,i<n->listed.getD i true=false->(AZ n).countP (fun j=> !(listed.setIfInBounds i true).getD j true)=k:=by
   intro i hin hun
   have:=countP_one (f:=fun j=> !listed.getD j true) (g:=fun j=> !(listed.setIfInBounds i true).getD j true) (i:=i) (B0) (AD.2 hin) (by simp only[hun];rfl)
    (by
     have hlt:i<listed.size:=by rw[inv.head.size];omega
     simp[A7,hlt])
    (fun j _ hj=>by
     have:=getD_set_ne (listed:=listed) true (Ne.symm hj)
     simp only[this])
   omega
  have hle:=H.le
  have hbase:=inv.base hP
  have hset:∀i,i<n->listed.getD i true=false->(listed.setIfInBounds i true).getD i false=true:=by
   intro i hin _
   have hlt:i<listed.size:=by rw[inv.head.size];omega
   simp[A7,hlt]
  have hselfG:∀ (d:Tmp) (v u:Value),(a'.put (some d) v).tmps[d]?=some u->u=v:=by
   intro d v u hu
   simp only[Act.put] at hu
   by_cases hlt:d<a'.tmps.size
   ·rw[AX hlt] at hu;exact(A3 hu).symm
   ·rw[An (by rw[Aa];exact Ag hlt)] at hu;cases hu
  have hnext:∀i oi d v w2,i<m->ops[i]?=some oi->oi.dst=some d->i∈AL .any ops listed->w'.heap.size<=w2.heap.size->(∀b∈l,w2.heap[b]?=w'.heap[b]?)->
    Keep w' w2 (Fz X (E.outs (l++E.out)) (poison ids σ) w') (Fz X (E.outs (l++E.out)) (poison ids σ) w2) (E.outs (l++E.out)) (E.outs (l++E.out)) (poison ids σ) (poison ids σ)->
    (∃c,c<=m/\RelE X (E.outs (l++E.out)) {σ with bx:=B c} a.tmps w2/\∀j,j<m->efB T ops j=true->((listed.setIfInBounds i true).getD j false=true↔j<c))->
    SlotOk w2 (Fz X (E.outs (l++E.out)) (poison ids σ) w2) (E.outs (l++E.out)) (poison ids σ) (S i) v->GInv T X E ops m n inf S B σ ids a w bl l (listed.setIfInBounds i true) (a'.put oi.dst v) w2:=by
   intro i oi d v w2 him hoi hd hi hsz hout K hfull hv
   have hin:i<n:=by omega
   obtain⟨o',d',e1,e2,_,e4,_,_⟩:=hop i hin
   rw[hoi] at e1
   have:=A3 e1
   subst this
   rw[hd] at e2
   have:=A3 e2
   subst this
   have head':=inv.head.set hi hin
   have hput:∀t,t≠d->(a'.put oi.dst v).tmps[t]?=a'.tmps[t]?:=fun t ht=>put_other _ _ t (fun e=>ht (by rw[hd] at e;exact A3 e))
   refine⟨head',hfull,Ao inv.hsz hsz,(put_defers _ _).trans inv.dfr,(put_size _ _).trans inv.siz,fun t ht=>?_,fun j p t u hj hp hpt hlj hu=>?_,fun j h1 h2 hlj=>?_,fun j l h1 h2 h3 h4 h5 h6=>?_,fun b hb=>⟨(inv.lfr b hb).1,AB (inv.lfr b hb).2 hsz⟩,fun j h1 h2 hlj=>inv.lmem j h1 h2 (listed_set hlj (by omega))⟩
   ·rw[hput t (fun e=>ht i oi hin hoi (by rw[hd,e]))]
    exact inv.oth t ht
   ·by_cases hji:j=i
    ·subst hji
     rw[hoi] at hp
     have:=A3 hp
     subst this
     rw[hd] at hpt
     have:=A3 hpt
     subst this
     rw[hd] at hu
     rw[hselfG d v u hu];exact hv
    ·rw[hput t (fun e=>e4 j p (by omega) hji hp (by rw[hpt,e]))] at hu
     exact K.slot (inv.slt j p t u hj hp hpt (listed_set hlj hji) hu)
   ·have hji:j≠i:=by omega
    have hlj':=listed_set hlj hji
    obtain⟨n1,n2,n3,n4⟩:=inv.new j h1 h2 hlj'
    obtain⟨oj,hoj,hN⟩:=hnew j h1 h2
    refine⟨fun b hb=>?_,n2,AB n3 hsz,(hout _ (inv.lmem j h1 h2 hlj')).trans n4⟩
    rw[hput _ (fun e=>e4 j oj h2 hji hoj (by rw[hN.dst,e]))]
    exact n1 b hb
   ·exact inv.inj j l h1 h2 h3 h4 (listed_set h5 (by omega)) (listed_set h6 (by omega))
  have hstep:∀i oi d v w2,i<m->ops[i]?=some oi->oi.dst=some d->i∈AL .any ops listed->efB T ops i=false->Ext w' w2->SlotOk w2 (Fz X (E.outs (l++E.out)) (poison ids σ) w2) (E.outs (l++E.out)) (poison ids σ) (S i) v->GInv T X E ops m n inf S B σ ids a w bl l (listed.setIfInBounds i true) (a'.put oi.dst v) w2:=by
   intro i oi d v w2 him hoi hd hi hef hx hv
   refine hnext i oi d v w2 him hoi hd hi hx.size (fun b hb=>hx.block b (inv.lfr b hb).2) (hbase.keepExt hx) ?_ hv
   obtain⟨c,hc,hrc,hlc⟩:=inv.full
   refine⟨c,hc,hrc.ext hx,fun j hj hej=>?_⟩
   have hji:j≠i:=fun e=>by rw[e,hef] at hej;cases hej
   have hg:(listed.setIfInBounds i true).getD j false=listed.getD j false:=getD_set_ne (listed:=listed) false (Ne.symm hji)
   rw[hg]
   exact hlc j hj hej
  have hlistG:∀i oi,i∈AL .any ops listed->ops[i]?=some oi->i<m->∀j p t,j<n->ops[j]?=some p->p.dst=some t->t∈oi.looksAt ops->listed.getD j false=true:=by
   intro i oi hi hoi him j p t hj hp hpt ht
   obtain⟨_,o',ho',hwait⟩:=mem_ready.1 hi
   rw[hoi] at ho'
   have:=A3 ho'
   subst this
   obtain⟨o1,d1,f1,_,_,_,f5,_⟩:=hop i (by omega)
   rw[hoi] at f1
   have:=A3 f1
   subst this
   obtain⟨_,hw⟩:=f5 him j p t hj hp hpt ht
   obtain⟨o2,ho2,e,he,hb,hon⟩:=AM hw
   rw[hoi] at ho2
   have:=A3 ho2
   subst this
   have:=hwait e he hb
   rwa [hon] at this
  have hdo:∀i,i∈AL .any ops listed->i<m->∃oi d,ops[i]?=some oi/\oi.dst=some d/\oi.guard=none/\((efB T ops i=false/\slotUpon P X (E.outs (l++E.out)) (poison ids σ) w' (S i) ((execOp a'.eval oi).run P w'))\/
    (efB T ops i=true/\∃σ2,SameB {σ with bx:=B i} σ2/\RelE X (E.outs (l++E.out)) {σ with bx:=B i} a.tmps w'/\effUpon P X (E.outs (l++E.out)) σ2 {σ2 with bx:=B (i+1)} a'.tmps w' (S i) ((execOp a'.eval oi).run P w')/\(∀j,j<m->efB T ops j=true->(listed.getD j false=true↔j<i)))):=by
   intro i hi hin
   obtain⟨hun,o',ho',hwait⟩:=mem_ready.1 hi
   obtain⟨oi,d,hoi,hd,e3,e4,e5,_⟩:=hop i (by omega)
   rw[hoi] at ho'
   have:=A3 ho'
   subst this
   obtain⟨hg,hc⟩:=hcert i oi hin hoi
   refine⟨oi,d,hoi,hd,hg,?_⟩
   have hlist:=hlistG i oi hi hoi hin
   rcases hc with⟨hef,σ2,h3,h4⟩|⟨hef,_,σ2,h3,h4⟩
   ·right
    obtain⟨c,hc,hrc,hlc⟩:=inv.full
    have hunf:listed.getD i false≠true:=fun h=>by rw[getD_both hun] at h;cases h
    have hci:c<=i:=Ag fun h=>hunf ((hlc i hin hef).2 h)
    have hnone:∀j,c<=j->j<i->efB T ops j=false:=by
     intro j h1 h2
     cases hej:efB T ops j with
     |false=>rfl
     |true=>
      obtain⟨o2,ho2,e,he,hb,hon⟩:=AM (hch i j hin h2 hef hej)
      rw[hoi] at ho2
      have:=A3 ho2
      subst this
      have h5:=hwait e he hb
      rw[hon] at h5
      have:=(hlc j (by omega) hej).1 h5
      omega
    have hBe:=hsame c i hci (by omega) hnone
    have hrc':RelE X (E.outs (l++E.out)) {σ with bx:=B i} a.tmps w':=by rw[hBe];exact hrc
    have hK:Keep w' w' (Fz X (E.outs (l++E.out)) (poison ids σ) w') (Fz X (E.outs (l++E.out)) {σ with bx:=B i} w') (E.outs (l++E.out)) (E.outs (l++E.out)) (poison ids σ) {σ with bx:=B i}:=
     keep_bx (by rw[<-hP i (by omega),poison_ids]) rfl rfl rfl hbase.ge
    refine⟨hef,σ2,h3.same,hrc',h4 _ a' w' (inv.rel hrc' hK h3.same fun t s ht=>?_),fun j hj hej=>?_⟩
    ·rcases h3.slot t s ht with q1|⟨q1,q2⟩|⟨j,p,q1,q2,q3,q4,q5⟩
     ·exact .inl q1
     ·exact .inr (.inl ⟨fun j p hj hp he=>q1 ((H.mem t).2 ⟨j,p,hj,hp,he⟩),q2⟩)
     ·exact .inr (.inr ⟨j,p,by omega,q2,q3,hlist j p t (by omega) q2 q3 q4,q5⟩)
    ·rw[hlc j hj hej]
     refine⟨fun h=>by omega,fun h=>?_⟩
     rcases Ah j c with h1|h1
     ·exact h1
     ·rw[hnone j h1 h] at hej;cases hej
   ·left
    refine⟨hef,?_⟩
    have hrel:=inv.rel hbase (Keep.self hbase) h3.same fun t s ht=>?_
    ·exact upon_same h3.same hbase.ge (h4 _ a' w' hrel)
    ·rcases h3.slot t s ht with q1|⟨q1,q2⟩|⟨j,p,q1,q2,q3,q4,q5⟩
     ·exact .inl q1
     ·exact .inr (.inl ⟨fun j p hj hp he=>q1 ((H.mem t).2 ⟨j,p,hj,hp,he⟩),q2⟩)
     ·exact .inr (.inr ⟨j,p,by omega,q2,q3,hlist j p t (by omega) q2 q3 q4,q5⟩)
  by_cases hlt:∃i o,i∈AL .any ops listed/\n<ops.size/\lateB ops m n i=true/\ops[i]?=some o/\bareOp o=true
  ·obtain⟨i,ob,hi,hns',hla,hob,hbare⟩:=hlt
   have him:i<m:=by simp only[lateB,A4,decide_eq_true_eq] at hla;exact hla.1
   obtain⟨hun,_,_,hwait⟩:=mem_ready.1 hi
   obtain⟨oi,d,hoi,hd,_,hcase⟩:=hdo i hi him
   obtain⟨o,d',e1,e2,e3,e4,e5,e6⟩:=hop i (by omega)
   rw[hoi] at e1
   have:=A3 e1
   subst this
   rw[hoi] at hob
   have:=A3 hob
   subst this
   have hap:=(e6 hns').1 hla hbare
   rcases hcase with⟨hef,h3⟩|⟨hef,_⟩
   ·obtain⟨v,hv,hy⟩:=bare_upon (ops:=ops) hbare h3
    rw[hv] at h3
    refine wpAny_first hoi (fun j oj cs b hj=>Ab hsel j oj cs b hj) (fun c a w h=>absurd h (hQp c _ w)) _ _ _ _ (fun j oj hj hji hju hno=>?_) hi hy (ih _ _ _ bl l (hcount i (by omega) hun) (hstep i oi d v w' him hoi hd hi hef (Ext.refl _) h3.2))
    rcases hap j oj hj hji with h|h|h
    ·obtain⟨o',ho',e,he,hb,hon⟩:=AM h
     rw[hj] at ho'
     have:=A3 ho'
     subst this
     exact absurd hon (hno e he hb)
    ·obtain⟨o',ho',e,he,hb,hon⟩:=AM h
     obtain⟨_,o2,ho2,hw2⟩:=mem_ready.1 hi
     rw[ho'] at ho2
     have:=A3 ho2
     subst this
     have h1:=hw2 e he hb
     rw[hon,getD_both hju] at h1
     cases h1
    ·exact h
   ·exfalso
    simp only[efB,hoi] at hef
    simp only[bareOp,A4] at hbare
    have h2:=hbare.2
    split at h2
    ·rename_i ho;rw[ho] at hef;simp[isEff] at hef
    ·rename_i ho;rw[ho] at hef;simp[isEff] at hef
    ·rename_i ho;rw[ho] at hef;simp[isEff] at hef
    ·cases h2
  by_cases hnl:n<ops.size->∃j,j<n/\listed.getD j true=false/\lateB ops m n j=false
  case neg=>
   have hns':n<ops.size:=by
    rcases Ah n ops.size with h|h
    ·exact h
    ·exact absurd (fun h2=>by omega) hnl
   have hla0:∀j,j<n->listed.getD j true=false->lateB ops m n j=true:=by
    intro j hj hju
    cases h:lateB ops m n j with
    |true=>rfl
    |false=>exact absurd (fun _=>⟨j,hj,hju,h⟩) hnl
   obtain⟨i,hin,hun,hi⟩:=hmin
   have hla:=hla0 i hin hun
   have him:i<m:=by simp only[lateB,A4,decide_eq_true_eq] at hla;exact hla.1
   obtain⟨oi,d,hoi,hd,_,hcase⟩:=hdo i hi him
   have hbare:bareOp oi=false:=by
    cases hb:bareOp oi with
    |false=>rfl
    |true=>exact absurd ⟨i,oi,hi,hns',hla,hoi,hb⟩ hlt
   obtain⟨hg,t,p,id,tt,hop',hbox,hcomp⟩:=hload hns' i oi him hoi hla hbare
   have hef:efB T ops i=false:=by simp only[efB,hoi,hop',isEff]
   obtain⟨tn,htt⟩:=hT.ty t _ hbox.1
   obtain⟨cs,cur,e,b1,b2,b3,b4,b5⟩:=inv.box hP hbox
   have hv:∀w2:World,w2.heap[(E.ad id).1]?=some (.cells cur e (0,0))->(Instr.loadAt t (.pointer (some ⟨(E.ad id).1,(E.ad id).2,none⟩))).run P w2= .ok (toVal tt cs) w2:=
    fun w2 hw2=>run_loadAt_ty htt b5 (b4.mono (hw2.trans b2.symm))
   have hrun:(execOp a'.eval oi).run P w'= .ok (.value (toVal tt cs)) w':=by
    have he:a'.eval (.tmp p)=_:=b1
    simp only[execOp,hop',he,AQ,hv w' b2,AI,AT]
   rcases hcase with⟨_,h3⟩|⟨h1,_⟩
   ·rw[hrun] at h3
    refine load_first hQp hsel hoi hg hop' hv _ _ _ _ b1 b2 (fun j oj hoj hji hju hno=>?_) hi (ih _ _ _ bl l (hcount i hin hun) (hstep i oi d _ w' him hoi hd hi hef (Ext.refl _) h3.2))
    have hw1:A8 .any ops j i=false:=by
     cases h:A8 .any ops j i with
     |false=>rfl
     |true=>
      obtain⟨o',ho',e,he,hb,hon⟩:=AM h
      rw[hoj] at ho'
      have:=A3 ho'
      subst this
      exact absurd hon (hno e he hb)
    have hw2:A8 .any ops i j=false:=by
     cases h:A8 .any ops i j with
     |false=>rfl
     |true=>
      obtain⟨o',ho',e,he,hb,hon⟩:=AM h
      obtain⟨_,o2,ho2,hw2⟩:=mem_ready.1 hi
      rw[ho'] at ho2
      have:=A3 ho2
      subst this
      have h1:=hw2 e he hb
      rw[hon,getD_both hju] at h1
      cases h1
    rcases hcomp j oj hoj hji hw1 hw2 with⟨h1,h2⟩|⟨h1,h2⟩
    ·rw[hla0 j h1 hju] at h2;cases h2
    ·refine⟨h1,h2.imp (fun z=>z) fun h=>h.imp (fun z=>z) fun⟨q1,q2,t2,p2,x2,id2,tt2,q3,q4,q5⟩=>?_⟩
     obtain⟨tn2,htt2⟩:=hT.ty t2 _ q4.1
     obtain⟨_,cur2,e2,z1,z2,z3,_,_⟩:=inv.box hP q4
     exact⟨q1,q2,t2,p2,x2,_,_,tt2.size,cur2,e2,q3,q4.2.1,run_sizeOf_ty htt2,z1,inv.apart hP hbox q4 q5,z2,z3⟩
   ·rw[hef] at h1;cases h1
  have hlow:∀i∈AL .any ops listed,i<n:=by
   intro i hi
   obtain⟨hun,oi,hoi,_⟩:=mem_ready.1 hi
   have hlt':i<ops.size:=(AG.1 hoi).1
   rcases Ah i n with h|h
   ·exact h
   ·exfalso
    obtain⟨j,hj,hj2,hj3⟩:=hnl (by omega)
    exact tail_waits2 (fun i hi hl=>((hop i hi).choose_spec.choose_spec.2.2.2.2.2 (by omega)).2 hl) htail (by omega) inv.head _ j rfl hj hj3 hj2 i h hi
  refine⟨fun h=>?_,fun i hi=>?_⟩
  ·obtain⟨i,_,_,hi⟩:=hmin
   rw[h] at hi;cases hi
  ·have hin:=hlow i hi
   obtain⟨hun,_,_,_⟩:=mem_ready.1 hi
   by_cases him:i<m
   ·obtain⟨oi,d,hoi,hd,hg,hcase⟩:=hdo i hi him
    unfold wpOp
    simp only[hoi,AC,hg,if_true]
    left
    unfold Oper.wp
    rcases hcase with⟨hef,h3⟩|⟨hef,σ2,hs2,hrc,h3,hlc⟩
    ·generalize (execOp a'.eval oi).run P w'=q at h3
     cases q with
     |halt x w2=>exact h3.elim
     |ok n w2=>
      cases n with
      |value u=>simp only[Oper.upon];exact ih _ _ _ bl l (hcount i hin hun) (hstep i oi d u w2 him hoi hd hi hef h3.1 h3.2)
      |enter f args=>
       obtain⟨e1,hc⟩:=h3
       simp only[Oper.upon]
       rw[e1]
       exact hc.mono fun e w3 ⟨v,he,hx,hs⟩=>by
        subst he
        exact ih _ _ _ bl l (hcount i hin hun) (hstep i oi d v w3 him hoi hd hi hef hx hs)
      |_=>exact h3.elim
    ·generalize (execOp a'.eval oi).run P w'=q at h3
     cases q with
     |halt x w2=>exact h3.elim
     |ok n w2=>
      cases n with
      |enter f args=>
       obtain⟨e1,hc⟩:=h3
       simp only[Oper.upon]
       rw[e1]
       exact hc.mono fun e w3 ⟨v,he,hr3,hK,hsz3,hout3,hs⟩=>by
        subst he
        have hid2:σ2.bx.map (·.id)=(poison ids σ).bx.map (·.id):=by rw[hs2.bx,<-hP i (by omega),poison_ids]
        have hge2:∀τ∈σ2.al,2<=τ/\τ∉σ2.fz:=fun τ hτ=>by
         rw[hs2.al] at hτ
         rw[hs2.fz]
         exact hbase.ge τ hτ
        have K0:Keep w' w' (Fz X (E.outs (l++E.out)) (poison ids σ) w') (Fz X (E.outs (l++E.out)) σ2 w') (E.outs (l++E.out)) (E.outs (l++E.out)) (poison ids σ) σ2:=keep_bx hid2 hs2.al hs2.fz hs2.nt hbase.ge
        have hidn:(poison ids σ).bx.map (·.id)=(B (i+1)).map (·.id):=by rw[<-hP (i+1) (by omega),poison_ids]
        have K1:Keep w3 w3 (Fz X (E.outs (l++E.out)) ({σ2 with bx:=B (i+1)}:St) w3) (Fz X (E.outs (l++E.out)) (poison ids σ) w3) (E.outs (l++E.out)) (E.outs (l++E.out)) ({σ2 with bx:=B (i+1)}:St) (poison ids σ):=keep_bx hidn hs2.al.symm hs2.fz.symm hs2.nt.symm hge2
        have Kc:Keep w' w' (Fz X (E.outs (l++E.out)) ({σ with bx:=B i}:St) w') (Fz X (E.outs (l++E.out)) σ2 w') (E.outs (l++E.out)) (E.outs (l++E.out)) ({σ with bx:=B i}:St) σ2:=keep_bx (by rw[hs2.bx]) hs2.al hs2.fz hs2.nt hrc.ge
        refine ih _ _ _ bl l (hcount i hin hun) (hnext i oi d v w3 him hoi hd hi hsz3 (fun b hb=>hout3 b (AO _ hb)) ((K0.trans hK).trans K1) ⟨i+1,by omega,?_,fun j hj hej=>?_⟩ (K1.slot hs))
        ·refine hr3.frames (σ:={σ with bx:=B (i+1)}) ⟨rfl,hs2.al.symm,hs2.fz.symm,hs2.ln.symm,hs2.nt.symm,hs2.len.symm⟩ inv.siz.symm (fun t s u h1 h2=>?_)
         exact(Kc.trans hK).slot (hrc.slot t s u h1 h2)
        ·by_cases hji:j=i
         ·subst hji
          exact⟨fun _=>by omega,fun _=>hset j hin hun⟩
         ·have hg2:(listed.setIfInBounds i true).getD j false=listed.getD j false:=getD_set_ne (listed:=listed) false (Ne.symm hji)
          rw[hg2,hlc j hj hej]
          omega
      |_=>exact h3.elim
   ·-- a new box
    obtain⟨oi,d,hoi,e2,e3,e4,e5,_⟩:=hop i hin
    obtain⟨oj,hoj,hN⟩:=hnew i (by omega) hin
    rw[hoi] at hoj
    have:=A3 hoj
    subst this
    have head':=inv.head.set hi hin
    have hd:d=(inf i).1:=by have:=hN.dst;rw[e2] at this;exact A3 this
    unfold wpOp
    simp only[hoi,AC,hN.guard,if_true]
    left
    unfold Oper.wp
    rw[hN.run a' w',Oper.upon_value]
    have hext:=Ext.alloc w' (.cells (inf i).2.1 (inf i).2.2)
    have K:=keep_outs (l':=(w'.heap.size::l)++E.out) hbase hext (fun b hb=>by
     rcases AU.1 hb with rfl|hb
     ·exact .inr (AW _)
     ·exact .inl hb)
    refine ih _ _ _ (fun j=>if j=i then w'.heap.size else bl j) (w'.heap.size::l) (hcount i hin hun) ?_
    have hput:∀t,t≠d->(a'.put oi.dst (.pointer (some ⟨w'.heap.size,0,none⟩))).tmps[t]?=a'.tmps[t]?:=fun t ht=>put_other _ _ t (fun e=>ht (by rw[e2] at e;exact A3 e))
    refine⟨head',?_,Ao inv.hsz hext.size,(put_defers _ _).trans inv.dfr,(put_size _ _).trans inv.siz,fun t ht=>?_,fun j p t u hj hp hpt hlj hu=>?_,fun j h1 h2 hlj=>?_,fun j l h1 h2 h3 h4 h5 h6 h7=>?_,fun b hb=>?_,fun j h1 h2 hlj=>?_⟩
    ·obtain⟨c,hc,hrc,hlc⟩:=inv.full
     refine⟨c,hc,alloc_out hrc _,fun j hj hej=>?_⟩
     have hji:j≠i:=by omega
     have hg:(listed.setIfInBounds i true).getD j false=listed.getD j false:=getD_set_ne (listed:=listed) false (Ne.symm hji)
     rw[hg]
     exact hlc j hj hej
    ·rw[hput t (fun e=>ht i oi hin hoi (by rw[e2,e]))]
     exact inv.oth t ht
    ·have hji:j≠i:=by omega
     rw[hput t (fun e=>e4 j p (by omega) hji hp (by rw[hpt,e]))] at hu
     exact K.slot (inv.slt j p t u hj hp hpt (listed_set hlj hji) hu)
    ·by_cases hji:j=i
     ·subst hji
      simp only[if_true]
      refine⟨fun b hb=>?_,inv.hsz,by simp,heap_alloc_new w' _⟩
      rw[e2,<-hd]
      exact put_same (inv.siz.trans hb.symm)
     ·simp only[if_neg hji]
      obtain⟨n1,n2,n3,n4⟩:=inv.new j h1 h2 (listed_set hlj hji)
      obtain⟨oj,hoj,hNj⟩:=hnew j h1 h2
      refine⟨fun b hb=>?_,n2,AB n3 hext.size,(hext.block _ n3).trans n4⟩
      rw[hput _ (fun e=>e4 j oj h2 hji hoj (by rw[hNj.dst,e]))]
      exact n1 b hb
    ·by_cases hji:j=i
     ·by_cases hli:l=i
      ·omega
      ·simp only[hji,if_true,if_neg hli] at h7
       have:=(inv.new l h3 h4 (listed_set h6 hli)).2.2.1
       omega
     ·by_cases hli:l=i
      ·simp only[hli,if_true,if_neg hji] at h7
       have:=(inv.new j h1 h2 (listed_set h5 hji)).2.2.1
       omega
      ·simp only[if_neg hji,if_neg hli] at h7
       exact inv.inj j l h1 h2 h3 h4 (listed_set h5 hji) (listed_set h6 hli) h7
    ·rcases AU.1 hb with rfl|hb
     ·exact⟨inv.hsz,by simp⟩
     ·exact⟨(inv.lfr b hb).1,AB (inv.lfr b hb).2 hext.size⟩
    ·by_cases hji:j=i
     ·simp[hji]
     ·simp only[if_neg hji]
      exact A5 _ (inv.lmem j h1 h2 (listed_set hlj hji))
end
end Go.Proofs.YtibidhcmenljoaaDoor.V
