/- A typed evaluator of the program's code and its soundness (part VB). Of a function it shows what it computes, as a plain function on numbers, bools, strings, lists and pairs. -/
import Derived.Test.YtacbkfginiknaaaDoorVA
import Derived.StillTail
open Array renaming getElem?_setIfInBounds_self_of_lt->AE,getD_eq_getD_getElem?->AH,getElem?_eq_some_iff->AL,getElem?_eq_none->AT,ext_getElem?->AY,size_setIfInBounds->AZ,getElem?_setIfInBounds_ne->Aw,getElem?_eq_getElem->BB,toList_map->BF,mem_toList_iff->BW,range->Bt
open Bool renaming and_eq_true->A3,or_eq_false_iff->AG,not_eq_true'->AJ,or_eq_true->AS,not_true->Ay,false_eq_true->B0,not_eq_false'->BC,not_false->BJ,false_or->BK,or_false->Bn,true_and->Bo,true_or->Bq
open Go.Region renaming wanted->AI,waitsFor->Ai,binds->Am,ready->B5,waitsFor_spec->B7,noSelect_spec->BI,noSelect->Bi
open Go.Result renaming andThen_ok->Ab
open Go.Sem renaming run_bind->Ac,run_pure->B4
open Int renaming le_trans->Br
open List renaming mem_cons_of_mem->A5,mem_append_right->A6,mem_cons_self->A7,mem_cons->A9,mem_append_left->AB,mem_map->AC,nodup_append->AD,all_eq_true->AM,getElem?_eq_getElem->AN,append_assoc->AO,eq_nil_of_length_eq_zero->AR,mem_append->AU,nodup_cons->AV,mem_flatMap->AW,getElem?_cons_zero->Aa,map_cons->Ad,mem_of_mem_erase->Ae,mem_filterMap->Af,mem_range->Ah,Perm->Aj,getElem?_take->Al,perm_append_comm->An,mem_of_mem_take->Ao,mem_of_mem_drop->Aq,getElem?_eq_some_iff->Ar,range->As,filterMap_cons->Av,getElem?_drop->Az,contains_iff_mem->B2,take_append_drop->B3,cons_append->B6,getElem?_append_right->B8,getD_eq_getElem?_getD->B9,getElem?_append_left->BA,flatMap_cons->BD,getElem?_map->BL,length_cons->BO,getElem?_replicate->BQ,map_append->BR,headD_cons->BS,getElem?_set_self->BV,mem_of_getElem?->BX,map_congr_left->BZ,range'->Bc,perm_middle->Bd,countP_cons->Be,length_take->Bf,nil_append->Bg,foldr_cons->Bh,nodup_nil->Bj,drop_drop->Bk,drop_take->Bl,any_cons->Bm,any_nil->Bp
open Nat renaming lt_succ_of_lt->AP,lt_of_lt_of_le->AX,le_of_not_lt->Ak,le_refl->Au,le_trans->B1,ne_of_lt->BG,lt_succ_self->BM,lt_or_ge->BP,strongRecOn->BT,mul_le_mul_right->BY,zero_add->Ba,le_succ_of_le->Bb,le_succ->Bs
open Option renaming bind_some->AQ,bind_eq_some_iff->Ax,map_some->BH,getD_some->BN,map_none->BU
open Option.some renaming injEq->A4,inj->A8
open Prod.mk renaming injEq->BE
namespace Go.Proofs.YtacbkfginiknaaaDoor.V
open Go
def Ow (w:World) (A:Nat->Prop):(t:Ty)->t.den->List Value->List (Option Nat)->Prop
 | .int k,n,cs,_=>cs=[.int k n]
 | .bool,b,cs,_=>cs=[.bool b]
 | .str,s,cs,_=>cs=[.string ⟨(s:List UInt8).toArray⟩]
 | .unit,_,cs,_=>cs=[]
 | .pair a b,v,cs,bs=>∃c1 c2,cs=c1++c2/\Ow w A a v.1 c1 (bs.take a.nl)/\Ow w A b v.2 c2 (bs.drop a.nl)
 | .st t,v,cs,bs=>Ow w A t v cs bs
 | .arr n t,v,cs,_=>(v:List t.den).length=n/\cs.length=n*t.size/\(∀ (i:Nat) (x:t.den),(v:List t.den)[i]?=some x->Rf w A t x (seg cs t.size i))/\t.nl=0
 | .sl e t,v,cs,bs=>∃cap css,cs=[.slice ((bs.headD none).map fun b=>⟨b,0,none⟩) (v:List t.den).length cap]/\
   w.ownsRow 0 e t.size (.slice ((bs.headD none).map fun b=>⟨b,0,none⟩) (v:List t.den).length cap) (v:List t.den).length css/\
   ∀ (i:Nat) (x:t.den),(v:List t.den)[i]?=some x->Rf w A t x (seg css t.size i)
structure Foot where
 rows:List (Option Nat)
 place:Option (Nat×Nat)
def Foot.blocks (f:Foot):List Nat:=f.rows.filterMap id++(f.place.map (·.1)).toList
def blocksOf (fs:List Foot):List Nat:=fs.flatMap Foot.blocks
def rowsOf (fs:List Foot):List Nat:=fs.flatMap fun f=>f.rows.filterMap id
def footM:List AK->List Foot->Nat->Nat->Prop
 |a::r,f::fs,b,o=>some b∈f.rows\/(∃p,f.place=some p/\p.1=b/\p.2<=o/\o<p.2+a.ty.size)\/footM r fs b o
 |_,_,_,_=>False
def CapsOk (w:World) (pin:Nat->Prop):(ks:List (Bool×Ty))->(cloTy ks).den->List Value->Prop
 |[],_,[]=>True
 |(b,t)::r,v,u::us=>(t.flat=true/\if b then ∃bl o,u= .pointer (some ⟨bl,o,none⟩)/\At w bl o (flatC t v.1)/\pin bl else u=toVal t (flatC t v.1))/\CapsOk w pin r v.2 us
 |_,_,_=>False
def ArgOk (w:World) (A pin:Nat->Prop) (a:AK) (v:a.ty.den) (u:Value) (f:Foot):Prop:=
 match a,v with
 | .ro t,v=>(∃cs,Rf w A t v cs/\u=toVal t cs)/\f=⟨[],none⟩
 | .own t,v=>(∃cs,Ow w A t v cs f.rows/\u=toVal t cs)/\f.rows.length=t.nl/\f.place=none
 | .io t,v=>(∃cs,Ow w A t v cs f.rows/\u=toVal t cs)/\f.rows.length=t.nl/\f.place=none
 | .mu t,v=>∃b o cs c e,u= .pointer (some ⟨b,o,none⟩)/\Rf w A t v cs/\At w b o cs/\w.heap[b]?=some (.cells c e (0,0))/\o+cs.length<=c.size/\f=⟨[],some (b,o)⟩
 | .pin t,v=>(∃b o cs,u= .pointer (some ⟨b,o,none⟩)/\Rf w A t v cs/\At w b o cs/\pin b)/\f=⟨[],none⟩
 | .clo g n ks,v=>(∃us,u=cloV g n us/\CapsOk w pin ks v us)/\f=⟨[],none⟩
 | .pio t,v=>∃b o cs c e,u= .pointer (some ⟨b,o,none⟩)/\Ow w A t v cs f.rows/\f.rows.length=t.nl/\At w b o cs/\w.heap[b]?=some (.cells c e (0,0))/\o+cs.length<=c.size/\f.place=some (b,o)
def ArgsOk (w:World) (A pin:Nat->Prop):(ks:List AK)->Tup (tysOf ks)->List Value->List Foot->Prop
 |[],_,[],[]=>True
 |a::r,x,u::us,f::fs=>ArgOk w A pin a (Tup.hd x) u f/\ArgsOk w A pin r (Tup.tl x) us fs
 |_,_,_,_=>False
def ResOk (w:World) (A:Nat->Prop):(rs:List (Ty×Bool))->Tup (resOf rs)->List Value->List (List (Option Nat))->Prop
 |[],_,[],[]=>True
 |(t,o)::r,y,u::us,bs::bss=>(∃cs,u=toVal t cs/\if o then Ow w A t (Tup.hd y) cs bs/\bs.length=t.nl else Rf w A t (Tup.hd y) cs/\bs=[])/\ResOk w A r (Tup.tl y) us bss
 |_,_,_,_=>False
def OutOk (w:World) (A:Nat->Prop) (a:AK) (u:Value) (f:Foot) (bs:List (Option Nat)):Tup a.outs->Prop:=
 match a with
 | .mu t=>fun v=>bs=[]/\∃b o cs,u= .pointer (some ⟨b,o,none⟩)/\Rf w A t v cs/\At w b o cs
 | .pio t=>fun v=>bs.length=t.nl/\∃b o cs,u= .pointer (some ⟨b,o,none⟩)/\Ow w A t v cs bs/\At w b o cs
 | .io t=>fun v=>bs.length=t.nl/\∃cs,u=toVal t cs/\Ow w A t v cs bs
 |_=>fun _=>bs=[]
def OutsOk (w:World) (A:Nat->Prop):(ks:List AK)->Tup (outsOf ks)->List Value->List Foot->List (List (Option Nat))->Prop
 |[],_,[],[],[]=>True
 |a::r,y,u::us,f::fs,bs::bss=>OutOk w A a u f bs (Tup.fst (a:=a.outs) (b:=outsOf r) y)/\OutsOk w A r (Tup.snd (a:=a.outs) (b:=outsOf r) y) us fs bss
 |_,_,_,_,_=>False
def resVal:List Value->Value
 |[v]=>v
 |l=>.tuple l.toArray
def flatB (bss:List (List (Option Nat))):List Nat:=bss.flatMap fun bs=>bs.filterMap id
def After (w w':World) (A:Nat->Prop) (fs:List Foot) (rets:List Nat) (b:Nat):Prop:=(A b\/b∈rowsOf fs\/w.heap.size<=b)/\b<w'.heap.size/\b∉rets
structure PostL (ks:List AK) (rs:List (Ty×Bool)) (w:World) (A:Nat->Prop) (us:List Value) (fs:List Foot) (y:Tup (resOf rs++outsOf ks)) (vs:List Value) (w':World):Prop where
 fr:Fr (footM ks fs) w w'
 ex:∃bo br,(flatB bo++flatB br).Nodup/\(∀b∈flatB bo++flatB br,(b∈rowsOf fs\/w.heap.size<=b)/\b<w'.heap.size)/\
  ResOk w' (After w w' A fs (flatB bo++flatB br)) rs (Tup.fst (a:=resOf rs) (b:=outsOf ks) y) vs br/\
  OutsOk w' (After w w' A fs (flatB bo++flatB br)) ks (Tup.snd (a:=resOf rs) (b:=outsOf ks) y) us fs bo
def Post (s:Sig) (w:World) (A:Nat->Prop) (us:List Value) (fs:List Foot) (y:s.Out) (v:Value) (w':World):Prop:=∃vs,v=resVal vs/\PostL s.args s.res w A us fs y vs w'
def BoxOk (w:World) (A:Nat->Prop) (v:Value) (w':World):(rs:List (Ty×Bool))->Tup (resOf rs)->Prop
 |[(t,_)],y=>∃b o cs c e,v= .pointer (some ⟨b,o,none⟩)/\w.heap.size<=b/\w'.heap[b]?=some (.cells c e (0,0))/\o+cs.length<=c.size/\At w' b o cs/\Rf w' (fun b'=>(A b'\/w.heap.size<=b')/\b'<w'.heap.size/\b'≠b) t (Tup.hd y) cs
 |_,_=>False
def PostS (s:Sig) (w:World) (A:Nat->Prop) (us:List Value) (fs:List Foot) (y:s.Out) (v:Value) (w':World):Prop:=
 (s.bx=false->Post s w A us fs y v w')/\(s.bx=true->Fr (footM s.args fs) w w'/\BoxOk w A v w' s.res (Tup.fst (a:=resOf s.res) (b:=outsOf s.args) y))
structure Pre (ks:List AK) (x:Tup (tysOf ks)) (w:World) (A pin:Nat->Prop) (us:List Value) (fs:List Foot):Prop where
 args:ArgsOk w A pin ks x us fs
 nodup:(blocksOf fs).Nodup
 apart:∀b∈blocksOf fs,b<w.heap.size/\¬A b/\¬pin b
 ltA:∀b,A b->b<w.heap.size
 ltpin:∀b,pin b->b<w.heap.size
 gl:∀p∈gdat,GRead w p.1 p.2/\A p.1
def Meets (P:Program) (f:FuncId) (fn:Fn):Prop:=
 ∀x y,fn.f x=some y->∀ (w:World) (A pin:Nat->Prop) (us:List Value) (fs:List Foot),Pre fn.s.args x w A pin us fs->
  Calls P f us.toArray w fun e w'=>match e with
   | .returned v=>PostS fn.s w A us fs y v w'
   |_=>False
section
variable {w w':World} {A A':Nat->Prop} {E:Env} {σ:St}
theorem Ow.length:∀ {t:Ty} {v:t.den} {cs:List Value} {bs:List (Option Nat)},Ow w A t v cs bs->cs.length=t.size:=by
 intro t
 induction t with
 |int k=>intro v cs bs h;simp only[Ow] at h;subst h;rfl
 |bool=>intro v cs bs h;simp only[Ow] at h;subst h;rfl
 |str=>intro v cs bs h;simp only[Ow] at h;subst h;rfl
 |unit=>intro v cs bs h;simp only[Ow] at h;subst h;rfl
 |pair a b iha ihb=>
  intro v cs bs h;obtain⟨c1,c2,rfl,h1,h2⟩:=h
  rw[List.length_append,iha h1,ihb h2];rfl
 |st t ih=>intro v cs bs h;exact ih h
 |arr n t _=>intro v cs bs h;exact h.2.1
 |sl e t _=>intro v cs bs h;obtain⟨cap,css,rfl,_⟩:=h;rfl
theorem Ow.monoA (hA:∀b,A b->A' b):∀ {t:Ty} {v:t.den} {cs:List Value} {bs:List (Option Nat)},Ow w A t v cs bs->Ow w A' t v cs bs:=by
 intro t
 induction t with
 |int k=>intro v cs bs h;exact h
 |bool=>intro v cs bs h;exact h
 |str=>intro v cs bs h;exact h
 |unit=>intro v cs bs h;exact h
 |pair a b iha ihb=>intro v cs bs h;obtain⟨c1,c2,e,h1,h2⟩:=h;exact⟨c1,c2,e,iha h1,ihb h2⟩
 |st t ih=>intro v cs bs h;exact ih h
 |arr n t _=>intro v cs bs h;exact⟨h.1,h.2.1,fun i x hx=>(h.2.2.1 i x hx).mono hA (fun _ _=>rfl),h.2.2.2⟩
 |sl e t _=>intro v cs bs h;obtain⟨cap,css,e1,h1,h2⟩:=h;exact⟨cap,css,e1,h1,fun i x hx=>(h2 i x hx).mono hA (fun _ _=>rfl)⟩
theorem ow_of_rv (h1:E.hd 1=none) (h2:∀τ∈σ.al,2<=τ):∀ {t:Ty} {v:t.den} {ms:List Nat} {cs:List Value},(∀τ∈ms,τ=1\/τ∈σ.al)->ms.length=t.nl->Rv w A E σ t v ms cs->Ow w A t v cs (ms.map E.hd):=by
 intro t
 induction t with
 |int k=>intro v ms cs _ _ h;exact h
 |bool=>intro v ms cs _ _ h;exact h
 |str=>intro v ms cs _ _ h;exact h
 |unit=>intro v ms cs _ _ h;exact h
 |pair a b iha ihb=>
  intro v ms cs hz hl h;obtain⟨c1,c2,e,q1,q2⟩:=h
  simp only[Ty.nl] at hl
  refine⟨c1,c2,e,?_,?_⟩
  ·rw[<-List.map_take];exact iha (fun τ hτ=>hz τ (Ao hτ)) (by simp;omega) q1
  ·rw[<-List.map_drop];exact ihb (fun τ hτ=>hz τ (Aq hτ)) (by simp;omega) q2
 |st t ih=>intro v ms cs hz hl h;exact ih hz hl h
 |arr n t _=>intro v ms cs _ _ h;exact h
 |sl e t _=>
  intro v ms cs hz hl h
  obtain⟨c,rfl,_,ad,cap,rfl,_,q1,q2,q3⟩:=h
  match ms,hl with
  |[τ],_=>
   rcases hz τ (by simp) with h|h
   ·subst h
    obtain⟨rfl,rfl,hx⟩:=q1 rfl
    have hx':(v:List t.den)=[]:=hx
    refine⟨0,[],?_,?_,fun i x hx=>by rw[hx'] at hx;simp at hx⟩
    ·simp[h1]
    ·refine⟨by rw[hx'];simp,.inl ⟨by rw[hx'];simp[h1],by rw[hx'];rfl⟩⟩
   ·obtain⟨css,q4,q5⟩:=q3 h
    have q6:=q2 (h2 τ h)
    have q7:ad=(E.hd τ).map fun b=>⟨b,0,none⟩:=q6
    subst q7
    exact⟨cap,css,rfl,q4,q5⟩
theorem rv_of_ow:∀ {t:Ty} {v:t.den} {ms:List Nat} {cs:List Value} {bs:List (Option Nat)},(∀ (i:Nat) τ,ms[i]?=some τ->2<=τ/\τ<σ.nt/\τ∉σ.fz/\bs[i]?=some (E.hd τ))->ms.length=t.nl->bs.length=t.nl->
  Ow w A t v cs bs->Rv w A E σ t v ms cs:=by
 intro t
 induction t with
 |int k=>intro v ms cs bs _ _ _ h;exact h
 |bool=>intro v ms cs bs _ _ _ h;exact h
 |str=>intro v ms cs bs _ _ _ h;exact h
 |unit=>intro v ms cs bs _ _ _ h;exact h
 |pair a b iha ihb=>
  intro v ms cs bs hz hl hl2 h;obtain⟨c1,c2,e,q1,q2⟩:=h
  simp only[Ty.nl] at hl hl2
  refine⟨c1,c2,e,iha (fun i τ hτ=>?_) (by simp;omega) (by simp;omega) q1,ihb (fun i τ hτ=>?_) (by simp;omega) (by simp;omega) q2⟩
  ·rw[Al] at hτ
   split at hτ
   ·rename_i hi
    obtain⟨k1,k2,k3,k4⟩:=hz i τ hτ
    exact⟨k1,k2,k3,by rw[Al,if_pos hi];exact k4⟩
   ·cases hτ
  ·rw[Az] at hτ
   obtain⟨k1,k2,k3,k4⟩:=hz _ τ hτ
   exact⟨k1,k2,k3,by rw[Az];exact k4⟩
 |st t ih=>intro v ms cs bs hz hl hl2 h;exact ih hz hl hl2 h
 |arr n t _=>intro v ms cs bs _ _ _ h;exact h
 |sl e t _=>
  intro v ms cs bs hz hl hl2 h
  obtain⟨cap,css,rfl,q1,q2⟩:=h
  match ms,bs,hl,hl2 with
  |[τ],[g],_,_=>
   obtain⟨k1,k2,k3,k4⟩:=hz 0 τ rfl
   simp only[Aa,A4] at k4
   subst k4
   refine⟨_,rfl,k2,_,cap,rfl,fun hf=>?_,fun h=>?_,fun _=>rfl,fun _=>⟨css,q1,q2⟩⟩
   ·rcases hf with h|h
    ·have h':τ=0:=h
     omega
    ·exact absurd h k3
   ·have h':τ=1:=h
    omega
end
end Go.Proofs.YtacbkfginiknaaaDoor.V
namespace Go.Proofs.YtacbkfginiknaaaDoor.V
open Go
section
variable {P:Program} {X:Ctx} {E:Env} {σ:St} {A0:Array Value} {a:Act} {w:World} {o:Oper} {R:Type}
def Env.give (E:Env) (g:Option Nat):Env:={E with out:=g.toList++E.out}
def Env.outs (E:Env) (l:List Nat):Env:={E with out:=l}
theorem owned_give {τ:Nat} (ht:τ∈σ.al):(owned (E.give (E.hd τ)) {σ with al:=σ.al.erase τ}).Perm (owned E σ):=by
 have hp:σ.al.Perm (τ::σ.al.erase τ):=List.perm_cons_erase ht
 have h1:(σ.al.flatMap (tokB E)++E.out).Perm ((tokB E τ++(σ.al.erase τ).flatMap (tokB E))++E.out):=Aj.append_right _ (by simpa using Aj.flatMap_right (tokB E) hp)
 have h2:((σ.al.erase τ).flatMap (tokB E)++(tokB E τ++E.out)).Perm ((tokB E τ++(σ.al.erase τ).flatMap (tokB E))++E.out):=by
  rw[<-AO]
  exact Aj.append_right _ An
 exact Aj.append_left _ (h2.trans h1.symm)
theorem RelE.give (hr:RelE X E σ A0 w) {τ:Nat} (ht:τ∈σ.al):
  RelE X (E.give (E.hd τ)) {σ with al:=σ.al.erase τ} A0 w/\Keep w w (Fz X E σ w) (Fz X (E.give (E.hd τ)) {σ with al:=σ.al.erase τ} w) E (E.give (E.hd τ)) σ {σ with al:=σ.al.erase τ}:=by
 have hp:=owned_give (E:=E) ht
 have K:Keep w w (Fz X E σ w) (Fz X (E.give (E.hd τ)) {σ with al:=σ.al.erase τ} w) E (E.give (E.hd τ)) σ {σ with al:=σ.al.erase τ}:=
  ⟨fun b hb=>⟨⟨hb.1,hb.2.1,fun h=>hb.2.2 (hp.mem_iff.1 h)⟩,rfl⟩,Au _,fun _ _=>rfl,fun _ _=>rfl,fun υ _ hυ=>.inl hυ,
   fun υ _ hυ=>⟨Ae hυ,fun _ _=>rfl⟩,hr.ge,fun _ h=>⟨h,rfl⟩⟩
 exact⟨{hr with
  slot:=fun i s u hs hu=>K.slot (hr.slot i s u hs hu)
  bx:=fun b hb=>K.bx (hr.bx b hb) (hr.idlt b hb) rfl
  nodup:=hp.nodup_iff.2 hr.nodup
  lt:=fun b hb=>hr.lt b (hp.mem_iff.1 hb)
  aln:=hr.aln.erase τ
  alr:=fun υ hυ=>hr.alr υ (Ae hυ)
  srct:=fun υ hυ=>hr.srct υ (Ae hυ)
  srco:=fun b hb=>by
   have hb:b∈(E.hd τ).toList++E.out:=hb
   rcases AU.1 hb with h|h
   ·exact hr.srct τ ht b (by simpa using h)
   ·exact hr.srco b h
  pinlt:=fun b hb=>⟨(hr.pinlt b hb).1,fun h=>(hr.pinlt b hb).2 (hp.mem_iff.1 h)⟩},K⟩
theorem RelE.world (hr:RelE X E σ A0 w) {w1:World} {l:List Nat} (hw:∀b,b<w.heap.size->b∉E.out->w1.heap[b]?=w.heap[b]?) (hfr:Fr X.M X.w0 w1) (hsz:w.heap.size<=w1.heap.size)
  (hl:l.Nodup) (hlm:∀b∈l,(b∈E.out\/w.heap.size<=b)/\b<w1.heap.size):
  RelE X (E.outs l) σ A0 w1/\Keep w w1 (Fz X E σ w) (Fz X (E.outs l) σ w1) E (E.outs l) σ σ:=by
 have hbx:∀b∈σ.bx,(E.ad b.id).1∉E.out:=fun b hb h=>by
  have hn:=hr.nodup
  simp only[owned] at hn
  exact(AD.1 hn).2.2 _ (AC.2 ⟨b,hb,rfl⟩) _ (A6 _ h) rfl
 have hal:∀τ∈σ.al,∀b,E.hd τ=some b->b∉E.out:=fun τ hτ b hb h=>by
  have hn:=hr.nodup
  simp only[owned] at hn
  exact(AD.1 (AD.1 hn).2.1).2.2 b (AW.2 ⟨τ,hτ,by simp[tokB,hb]⟩) b h rfl
 have hout:∀b∈E.out,b∈owned E σ:=fun b hb=>A6 _ (A6 _ hb)
 have hown:∀b,b∈owned (E.outs l) σ->b∈l\/(b∈owned E σ/\b∉E.out):=by
  intro b hb
  rcases AU.1 hb with h|h
  ·obtain⟨q,hq,rfl⟩:=AC.1 h
   exact .inr ⟨mem_owned_bx hq,hbx q hq⟩
  ·rcases AU.1 h with h|h
   ·obtain⟨τ,hτ,hb⟩:=AW.1 h
    have hb':E.hd τ=some b:=by
     have:b∈(E.hd τ).toList:=hb
     simpa using this
    exact .inr ⟨mem_owned_al hτ hb',hal τ hτ b hb'⟩
   ·exact .inl h
 have K:Keep w w1 (Fz X E σ w) (Fz X (E.outs l) σ w1) E (E.outs l) σ σ:=
  ⟨fun b hb=>⟨⟨hb.1,AX hb.2.1 hsz,fun h=>by
    rcases hown b h with h|h
    ·rcases(hlm b h).1 with h|h
     ·exact hb.2.2 (hout b h)
     ·have:=hb.2.1;omega
    ·exact hb.2.2 h.1⟩,hw b hb.2.1 (fun h=>hb.2.2 (hout b h))⟩,Au _,fun _ _=>rfl,fun _ _=>rfl,fun υ _ hυ=>.inl hυ,
   fun υ _ hυ=>⟨hυ,fun b hb=>hw b (hr.lt b (mem_owned_al hυ hb)).1 (hal υ hυ b hb)⟩,hr.ge,fun b hb=>⟨hb,hw b (hr.pinlt b hb).1 (fun h=>(hr.pinlt b hb).2 (hout b h))⟩⟩
 refine⟨{hr with
  slot:=fun i s u hs hu=>K.slot (hr.slot i s u hs hu)
  bx:=fun b hb=>K.bx (hr.bx b hb) (hr.idlt b hb) (hw _ (hr.lt _ (mem_owned_bx hb)).1 (hbx b hb))
  nodup:=?_
  lt:=fun b hb=>?_
  fr:=hfr
  srco:=fun b hb=>by
   rcases(hlm b hb).1 with h|h
   ·exact hr.srco b h
   ·exact .inr (B1 hr.fr.size h)
  pinlt:=fun b hb=>⟨AX (hr.pinlt b hb).1 hsz,fun h=>?_⟩},K⟩
 ·have hn:=hr.nodup
  simp only[owned] at hn ⊢
  rw[AD] at hn ⊢
  refine⟨hn.1,?_,fun x hx y hy=>?_⟩
  ·have h2:=hn.2.1
   rw[AD] at h2 ⊢
   refine⟨h2.1,hl,fun x hx y hy he=>?_⟩
   subst he
   rcases(hlm x hy).1 with h|h
   ·exact h2.2.2 x hx x h rfl
   ·obtain⟨τ,hτ,hb⟩:=AW.1 hx
    have hb':E.hd τ=some x:=by
     have:x∈(E.hd τ).toList:=hb
     simpa using this
    have:=(hr.lt x (mem_owned_al hτ hb')).1
    omega
  ·intro he
   subst he
   rcases AU.1 hy with h|h
   ·exact hn.2.2 x hx x (AB _ h) rfl
   ·have h:x∈l:=h
    rcases(hlm x h).1 with h|h
    ·exact hn.2.2 x hx x (A6 _ h) rfl
    ·obtain⟨q,hq,rfl⟩:=AC.1 hx
     have h1:=(hr.lt _ (mem_owned_bx hq)).1
     have h2:w.heap.size<=(E.ad q.id).1:=h
     omega
 ·rcases hown b hb with h|h
  ·refine⟨(hlm b h).2,?_⟩
   rcases(hlm b h).1 with h|h
   ·exact(hr.lt b (hout b h)).2
   ·exact hr.new b (B1 hr.fr.size h)
  ·exact⟨AX (hr.lt b h.1).1 hsz,(hr.lt b h.1).2⟩
 ·rcases hown b h with h|h
  ·rcases(hlm b h).1 with h|h
   ·exact(hr.pinlt b hb).2 (hout b h)
   ·have:=(hr.pinlt b hb).1;omega
  ·exact(hr.pinlt b hb).2 h.1
theorem RelE.adopt (hr:RelE X E σ A0 w) {g:Option Nat} {l:List Nat} (ho:E.out=g.toList++l):
  RelE X ((E.outs l).tok σ.nt g) {σ with al:=σ.nt::σ.al,nt:=σ.nt+1} A0 w/\
   Keep w w (Fz X E σ w) (Fz X ((E.outs l).tok σ.nt g) {σ with al:=σ.nt::σ.al,nt:=σ.nt+1} w) E ((E.outs l).tok σ.nt g) σ {σ with al:=σ.nt::σ.al,nt:=σ.nt+1}:=by
 let E1:Env:=(E.outs l).tok σ.nt g
 have hhd:∀υ,υ<σ.nt->E1.hd υ=E.hd υ:=fun υ h=>if_neg (BG h)
 have hhn:E1.hd σ.nt=g:=if_pos rfl
 have hrest:σ.al.flatMap (tokB E1)=σ.al.flatMap (tokB E):=by
  simp only[List.flatMap]
  rw[BZ (fun υ hυ=>by show(E1.hd υ).toList=(E.hd υ).toList;rw[hhd υ (hr.alr υ hυ).2.1])]
  rfl
 have hp:(owned E1 {σ with al:=σ.nt::σ.al,nt:=σ.nt+1}).Perm (owned E σ):=by
  show(σ.bx.map (fun b=>(E.ad b.id).1)++((σ.nt::σ.al).flatMap (tokB E1)++l)).Perm (σ.bx.map (fun b=>(E.ad b.id).1)++(σ.al.flatMap (tokB E)++E.out))
  rw[BD,hrest,ho]
  show(_++((E1.hd σ.nt).toList++_++l)).Perm _
  rw[hhn]
  refine Aj.append_left _ ?_
  rw[<-AO]
  exact Aj.append_right _ An
 have K:Keep w w (Fz X E σ w) (Fz X E1 {σ with al:=σ.nt::σ.al,nt:=σ.nt+1} w) E E1 σ {σ with al:=σ.nt::σ.al,nt:=σ.nt+1}:=
  ⟨fun b hb=>⟨⟨hb.1,hb.2.1,fun h=>hb.2.2 (hp.mem_iff.1 h)⟩,rfl⟩,Bs _,hhd,fun _ _=>rfl,fun υ _ hυ=>.inl hυ,
   fun υ hlt hυ=>by
    rcases A9.1 hυ with h|h
    ·omega
    ·exact⟨h,fun _ _=>rfl⟩,hr.ge,fun _ h=>⟨h,rfl⟩⟩
 exact⟨{hr with
  slot:=fun i s u hs hu=>K.slot (hr.slot i s u hs hu)
  bx:=fun b hb=>K.bx (hr.bx b hb) (hr.idlt b hb) rfl
  nodup:=hp.nodup_iff.2 hr.nodup
  lt:=fun b hb=>hr.lt b (hp.mem_iff.1 hb)
  idlt:=fun b hb=>AP (hr.idlt b hb)
  aln:=AV.2 ⟨fun h=>by have:=(hr.alr _ h).2.1;omega,hr.aln⟩
  alr:=fun υ hυ=>by
   rcases A9.1 hυ with rfl|h
   ·exact⟨hr.nt2,BM _,fun h=>by have:=(hr.fzr _ h).2;omega⟩
   ·exact⟨(hr.alr υ h).1,AP (hr.alr υ h).2.1,(hr.alr υ h).2.2⟩
  fzr:=fun υ hυ=>⟨(hr.fzr υ hυ).1,AP (hr.fzr υ hυ).2⟩
  nt2:=Bb hr.nt2
  hd0:=fun υ hυ=>by rw[show E1.hd υ=E.hd υ from hhd υ (by have:=hr.nt2;omega)];exact hr.hd0 υ hυ
  srct:=fun υ hυ b hb=>by
   rcases A9.1 hυ with rfl|h
   ·have hg:g=some b:=by rw[<-hhn];exact hb
    exact hr.srco b (by rw[ho,hg];simp)
   ·exact hr.srct υ h b (by rw[<-hhd υ (hr.alr υ h).2.1];exact hb)
  srco:=fun b hb=>hr.srco b (by rw[ho];exact A6 _ hb)
  lnr:=fun p hp=>by
   show E1.hd p.1=E1.hd p.2
   rw[hhd _ (hr.lnlt p hp).1,hhd _ (hr.lnlt p hp).2]
   exact hr.lnr p hp
  lnlt:=fun p hp=>⟨AP (hr.lnlt p hp).1,AP (hr.lnlt p hp).2⟩
  pinlt:=fun b hb=>⟨(hr.pinlt b hb).1,fun h=>(hr.pinlt b hb).2 (hp.mem_iff.1 h)⟩
  adx:=fun e he=>⟨AP (hr.adx e he).1,(hr.adx e he).2⟩
  hdx:=fun e he=>⟨AP (hr.hdx e he).1,(hhd _ (hr.hdx e he).1).trans (hr.hdx e he).2⟩},K⟩
theorem RelE.keep (hr:RelE X E σ A0 w):Keep w w (Fz X E σ w) (Fz X E σ w) E E σ σ:=
 ⟨fun _ h=>⟨h,rfl⟩,Au _,fun _ _=>rfl,fun _ _=>rfl,fun _ _ h=>.inl h,fun _ _ h=>⟨h,fun _ _=>rfl⟩,hr.ge,fun _ h=>⟨h,rfl⟩⟩
theorem take_ok:∀ (l:List Nat) {E:Env} {σ:St} {k:St->Option R} {r:R},RelE X E σ A0 w->takeK σ l k=some r->
  ∃σ' E',k σ'=some r/\RelE X E' σ' A0 w/\Keep w w (Fz X E σ w) (Fz X E' σ' w) E E' σ σ'/\(∀τ∈l,τ=1\/τ∈σ.al)/\E'.out.Perm ((l.map E.hd).filterMap id++E.out)/\
   E'.hd=E.hd/\E'.ad=E.ad/\E'.pin=E.pin/\σ'.fr=σ.fr/\σ'.bx=σ.bx/\σ'.nt=σ.nt/\σ'.ln=σ.ln/\σ'.fz=σ.fz/\(∀τ,τ∈σ'.al->τ∈σ.al/\τ∉l):=by
 intro l
 induction l with
 |nil=>intro E σ k r hr h;exact⟨σ,E,h,hr,hr.keep,(fun _ h=>nomatch h),by simp,rfl,rfl,rfl,rfl,rfl,rfl,rfl,rfl,fun _ h=>⟨h,by simp⟩⟩
 |cons τ l ih=>
  intro E σ k r hr h
  simp only[takeK] at h
  cases h1:τ==1 with
  |true=>
   rw[h1] at h
   simp only[cond_true] at h
   have e1:τ=1:=by simpa using h1
   obtain⟨σ',E',q1,q2,q3,q4,q5,q6⟩:=ih hr h
   refine⟨σ',E',q1,q2,q3,fun υ hυ=>?_,?_,q6.1,q6.2.1,q6.2.2.1,q6.2.2.2.1,q6.2.2.2.2.1,q6.2.2.2.2.2.1,q6.2.2.2.2.2.2.1,q6.2.2.2.2.2.2.2.1,fun υ hυ=>?_⟩
   ·rcases A9.1 hυ with h|h
    ·exact .inl (h.trans e1)
    ·exact q4 υ h
   ·have:E.hd τ=none:=by rw[e1];exact hr.hd0 1 (by omega)
    simpa[this] using q5
   ·obtain⟨k1,k2⟩:=q6.2.2.2.2.2.2.2.2 υ hυ
    exact⟨k1,fun h=>by
     rcases A9.1 h with h|h
     ·have:=(hr.alr υ k1).1;omega
     ·exact k2 h⟩
  |false=>
   rw[h1] at h
   simp only[cond_false] at h
   cases h2:σ.al.contains τ with
   |false=>rw[h2] at h;simp only[cond_false] at h;cases h
   |true=>
    rw[h2] at h
    simp only[cond_true] at h
    have hal:τ∈σ.al:=by simpa using h2
    obtain⟨hr1,K1⟩:=hr.give hal
    obtain⟨σ',E',q1,q2,q3,q4,q5,q6⟩:=ih hr1 h
    refine⟨σ',E',q1,q2,K1.trans q3,fun υ hυ=>?_,?_,q6.1,q6.2.1,q6.2.2.1,q6.2.2.2.1,q6.2.2.2.2.1,q6.2.2.2.2.2.1,q6.2.2.2.2.2.2.1,q6.2.2.2.2.2.2.2.1,fun υ hυ=>?_⟩
    ·rcases A9.1 hυ with h|h
     ·exact .inr (h▸hal)
     ·exact(q4 υ h).imp id Ae
    ·have q7:E'.out.Perm ((l.map E.hd).filterMap id++((E.hd τ).toList++E.out)):=q5
     refine q7.trans ?_
     cases hh:E.hd τ with
     |none=>simp[hh]
     |some b=>
      simp only[Ad,hh,Av,id,Option.toList_some,B6,Bg]
      exact Bd
    ·obtain⟨k1,k2⟩:=q6.2.2.2.2.2.2.2.2 υ hυ
     have k3:=hr.aln.mem_erase_iff.1 k1
     exact⟨k3.2,fun h=>by
      rcases A9.1 h with h|h
      ·exact k3.1 h
      ·exact k2 h⟩
theorem adopt_ok:∀ (bs:List (Option Nat)) {E:Env} {σ:St} {l:List Nat},RelE X E σ A0 w->E.out=bs.filterMap id++l->
  ∃E',RelE X E' (σ.more bs.length) A0 w/\Keep w w (Fz X E σ w) (Fz X E' (σ.more bs.length) w) E E' σ (σ.more bs.length)/\E'.out=l/\E'.ad=E.ad/\E'.pin=E.pin/\(σ.more bs.length).nt=σ.nt+bs.length/\(σ.more bs.length).fz=σ.fz/\
   (σ.more bs.length).fr=σ.fr/\(σ.more bs.length).bx=σ.bx/\(σ.more bs.length).ln=σ.ln/\(∀ (i:Nat) g,bs[i]?=some g->E'.hd (σ.nt+i)=g/\σ.nt+i∈(σ.more bs.length).al):=by
 intro bs
 induction hn:bs.length generalizing bs with
 |zero=>
  intro E σ l hr ho
  have:bs=[]:=AR hn
  subst this
  exact⟨E,hr,hr.keep,by simpa using ho,rfl,rfl,rfl,rfl,rfl,rfl,rfl,fun i g h=>by simp at h⟩
 |succ n ih=>
  intro E σ l hr ho
  rcases List.eq_nil_or_concat bs with rfl|⟨bs',g,rfl⟩
  ·simp at hn
  ·rw[List.concat_eq_append] at *
   have hn':bs'.length=n:=by simpa using hn
   obtain⟨E',q1,q2,q3,q4,q5,q6,q7,q8,q9,q10,q11⟩:=ih bs' hn' (l:=g.toList++l) hr (by rw[ho];cases g<;>simp)
   obtain⟨r1,K1⟩:=q1.adopt q3
   refine⟨_,r1,q2.trans K1,rfl,q4,q5,?_,q7,q8,q9,q10,fun i g' hi=>?_⟩
   ·show(σ.more n).nt+1=_
    rw[q6];omega
   ·by_cases hin:i<n
    ·rw[BA (by omega)] at hi
     obtain⟨k1,k2⟩:=q11 i g' hi
     refine⟨?_,A5 _ k2⟩
     show(if σ.nt+i=(σ.more n).nt then g else E'.hd (σ.nt+i))=g'
     rw[if_neg (by rw[q6];omega)]
     exact k1
    ·have hi2:=(Ar.1 hi).1
     have:i=n:=by simp at hi2;omega
     subst this
     rw[B8 (by omega)] at hi
     simp[hn'] at hi
     subst hi
     refine⟨?_,?_⟩
     ·show(if σ.nt+i=(σ.more i).nt then g else E'.hd (σ.nt+i))=g
      rw[if_pos (by rw[q6])]
     ·show σ.nt+i∈(σ.more i).nt::(σ.more i).al
      rw[q6];exact A7
end
end Go.Proofs.YtacbkfginiknaaaDoor.V
namespace Go.Proofs.YtacbkfginiknaaaDoor.V
open Go
section
variable {P:Program} {X:Ctx} {E:Env} {σ:St} {A0:Array Value} {a:Act} {w:World} {o:Oper} {R:Type}
theorem getK_nat:∀ {t:Ty} {v:t.den} {ms:List Nat} {p:List Sel} {k:Val->Option R} {r:R},getK t v ms p k=some r->∃x,k x=some r/\∀ (R':Type) (k':Val->Option R'),getK t v ms p k'=k' x:=by
 intro t
 induction t with
 |st t ih=>
  intro v ms p k r h
  cases p with
  |nil=>exact⟨_,by simpa[getK] using h,fun R' k'=>by simp[getK]⟩
  |cons s p=>exact ih (p:=s::p) (by simpa[getK] using h)
 |pair a b iha ihb=>
  intro v ms p k r h
  cases p with
  |nil=>exact⟨_,by simpa[getK] using h,fun R' k'=>by simp[getK]⟩
  |cons s p=>cases s with
   |fst=>
    obtain⟨x,h1,h2⟩:=iha (by simpa[getK] using h)
    exact⟨x,h1,fun R' k'=>by simpa[getK] using h2 R' k'⟩
   |snd=>
    obtain⟨x,h1,h2⟩:=ihb (by simpa[getK] using h)
    exact⟨x,h1,fun R' k'=>by simpa[getK] using h2 R' k'⟩
   |ix i=>simp[getK] at h
 |arr n t ih=>
  intro v ms p k r h
  cases p with
  |nil=>exact⟨_,by simpa[getK] using h,fun R' k'=>by simp[getK]⟩
  |cons s p=>cases s with
   |fst=>simp[getK] at h
   |snd=>simp[getK] at h
   |ix i=>
    simp only[getK] at h
    cases hx:(v:List t.den)[i]? with
    |none=>rw[hx] at h;simp at h
    |some x=>
     rw[hx] at h
     obtain⟨y,h1,h2⟩:=ih h
     exact⟨y,h1,fun R' k'=>by simp only[getK,hx,AQ];exact h2 R' k'⟩
 |_=>
  intro v ms p k r h
  cases p with
  |nil=>exact⟨_,by simpa[getK] using h,fun R' k'=>by simp[getK]⟩
  |cons s p=>cases s<;>simp[getK] at h
structure Same (σ σ1:St):Prop where
 fr:σ1.fr=σ.fr
 bx:σ1.bx=σ.bx
 nt:σ1.nt=σ.nt
 ln:σ1.ln=σ.ln
 fz:σ1.fz=σ.fz
 al:∀τ,τ∈σ1.al->τ∈σ.al
theorem Same.refl (σ:St):Same σ σ:=⟨rfl,rfl,rfl,rfl,rfl,fun _ h=>h⟩
theorem Same.trans {σ σ1 σ2:St} (h:Same σ σ1) (k:Same σ1 σ2):Same σ σ2:=⟨k.fr.trans h.fr,k.bx.trans h.bx,k.nt.trans h.nt,k.ln.trans h.ln,k.fz.trans h.fz,fun τ ht=>h.al τ (k.al τ ht)⟩
theorem Same.find {σ σ1:St} (h:Same σ σ1) (id:Nat):σ1.find id=σ.find id:=by simp[St.find,h.bx]
theorem Same.root {σ σ1:St} (h:Same σ σ1) (r:Root):σ1.root r=σ.root r:=by cases r<;>simp[St.root,h.fr,h.find]
theorem Same.us {σ σ1:St} (h:Same σ σ1) {τ:Nat} (hu:σ1.us τ=true):σ.us τ=true:=by
 rw[us_iff] at hu ⊢
 rcases hu with q|q|q|q
 ·exact .inl q
 ·exact .inr (.inl q)
 ·exact .inr (.inr (.inl (h.al τ q)))
 ·exact .inr (.inr (.inr (h.fz▸q)))
theorem readK_nat {s:Slot} {k:Val->Option Home->Option R} {r:R} (h:readK σ s k=some r):
  ∃x hm,k x hm=some r/\(∀ (R':Type) (k':Val->Option Home->Option R'),readK σ s k'=k' x hm)/\∀σ1,Same σ σ1->∀ (R':Type) (k':Val->Option Home->Option R') q,readK σ1 s k'=some q->k' x hm=some q:=by
 cases s with
 |ptr id r' p t=>
  simp only[readK] at h ⊢
  cases hf:σ.find id with
  |none=>simp[hf] at h
  |some y=>
   simp only[hf] at h
   cases hb:Ty.beq y.t r' with
   |false=>simp[hb] at h
   |true=>
    rw[hb] at h
    simp only[cond_true] at h
    obtain⟨x,h1,h2⟩:=getK_nat h
    refine⟨x,_,h1,fun R' k'=>by simp only[hb,cond_true];exact h2 R' fun x=>k' x _,fun σ1 hs R' k' q hq=>?_⟩
    rw[hs.find,hf] at hq
    simp only[hb,cond_true] at hq
    rw[h2 R' fun x=>k' x _] at hq
    exact hq
 |eptr hm τ i u p t=>
  simp only[readK,rowK] at h ⊢
  cases hy:σ.root hm.root with
  |none=>simp[hy] at h
  |some y=>
   simp only[hy] at h
   obtain⟨z,h1,h2⟩:=getK_nat h
   obtain⟨zt,zv,zm⟩:=z
   cases zt with
   |sl e u'=>
    simp only at h1
    cases hc:σ.us (zm.headD 0)&&(rootTok σ.ln (zm.headD 0)==rootTok σ.ln τ)&&Ty.beq u' u with
    |false=>rw[hc] at h1;simp at h1
    |true=>
     rw[hc] at h1
     simp only[cond_true] at h1
     cases hx:(zv:List u'.den)[i]? with
     |none=>rw[hx] at h1;simp at h1
     |some x=>
      rw[hx] at h1
      simp only[AQ] at h1
      obtain⟨x2,g1,g2⟩:=getK_nat h1
      refine⟨x2,none,g1,fun R' k'=>?_,fun σ1 hs R' k' q hq=>?_⟩
      ·simp only
       rw[h2]
       simp only[hc,cond_true,hx,AQ]
       exact g2 R' fun x=>k' x none
      ·rw[hs.root,hy] at hq
       simp only at hq
       rw[h2] at hq
       simp only at hq
       cases hc1:σ1.us (zm.headD 0)&&(rootTok σ1.ln (zm.headD 0)==rootTok σ1.ln τ)&&Ty.beq u' u with
       |false=>rw[hc1] at hq;simp at hq
       |true=>
        rw[hc1] at hq
        simp only[cond_true,hx,AQ] at hq
        rw[g2 R' fun x=>k' x none] at hq
        exact hq
   |_=>simp at h1
 |rptr τ x=>
  simp only[readK] at h ⊢
  cases hc:σ.us τ&& !(τ==1) with
  |false=>rw[hc] at h;simp at h
  |true=>
   rw[hc] at h
   simp only[cond_true] at h
   refine⟨x,none,h,fun R' k'=>by simp,fun σ1 hs R' k' q hq=>?_⟩
   cases hc1:σ1.us τ&& !(τ==1) with
   |false=>rw[hc1] at hq;simp at hq
   |true=>rw[hc1] at hq;simpa using hq
 |_=>simp[readK] at h
structure Gone (X:Ctx) (w:World) (E:Env) (σ:St) (E1:Env) (σ1:St):Prop where
 K:Keep w w (Fz X E σ w) (Fz X E1 σ1 w) E E1 σ σ1
 S:Same σ σ1
 hd:E1.hd=E.hd
 ad:E1.ad=E.ad
 pin:E1.pin=E.pin
theorem Gone.trans {E1 E2:Env} {σ1 σ2:St} (h:Gone X w E σ E1 σ1) (k:Gone X w E1 σ1 E2 σ2):Gone X w E σ E2 σ2:=⟨h.K.trans k.K,h.S.trans k.S,k.hd.trans h.hd,k.ad.trans h.ad,k.pin.trans h.pin⟩
def PendC (w:World):(ks:List (Bool×Ty))->(cloTy ks).den->List Slot->List Value->Prop
 |[],_,[],[]=>True
 |(b,t)::r,v,_::ss,u::us=>(t.flat=true/\if b then ∃bl o,u= .pointer (some ⟨bl,o,none⟩)/\At w bl o (flatC t v.1) else u=toVal t (flatC t v.1))/\PendC w r v.2 ss us
 |_,_,_,_=>False
def Pend (X:Ctx) (w:World) (E:Env) (σ:St) (a:AK) (s:Slot) (u:Value) (v:a.ty.den) (f:Foot):Prop:=
 match a,v with
 | .ro t,v=>f=⟨[],none⟩/\∃ms cs,coe t s=some (v,ms)/\Rv w (Fz X E σ w) E σ t v ms cs/\u=toVal t cs/\ms.length=t.nl
 | .own t,v=>f.place=none/\f.rows.length=t.nl/\∃cs,Ow w (Fz X E σ w) t v cs f.rows/\u=toVal t cs
 | .io t,v=>f.place=none/\f.rows.length=t.nl/\∃cs,Ow w (Fz X E σ w) t v cs f.rows/\u=toVal t cs
 | .mu t,v=>∃b o cs,f=⟨[],some (b,o)⟩/\u= .pointer (some ⟨b,o,none⟩)/\Rf w (Fz X E σ w) t v cs/\At w b o cs
 | .pin t,v=>f=⟨[],none⟩/\∃ms b o cs hm,u= .pointer (some ⟨b,o,none⟩)/\Rv w (Fz X E σ w) E σ t v ms cs/\ms.length=t.nl/\At w b o cs/\
   ∀σ2,Same σ σ2->∀ (R':Type) (k':Val->Option Home->Option R') q,readK σ2 s k'=some q->k' ⟨t,v,ms⟩ hm=some q
 | .clo g n ks,v=>f=⟨[],none⟩/\∃us caps,s= .clo g n caps/\u=cloV g n us/\PendC w ks v caps us
 | .pio t,v=>∃b o cs,f.place=some (b,o)/\u= .pointer (some ⟨b,o,none⟩)/\Ow w (Fz X E σ w) t v cs f.rows/\f.rows.length=t.nl/\At w b o cs
theorem Pend.gone {E1:Env} {σ1:St} {b:AK} {s:Slot} {u:Value} {v:b.ty.den} {f:Foot} (h:Pend X w E σ b s u v f) (g:Gone X w E σ E1 σ1):Pend X w E1 σ1 b s u v f:=by
 cases b with
 |ro t=>obtain⟨h1,ms,cs,h2,h3,h4,h5⟩:=h;exact⟨h1,ms,cs,h2,g.K.rv h3,h4,h5⟩
 |own t=>obtain⟨h1,h2,cs,h3,h4⟩:=h;exact⟨h1,h2,cs,h3.monoA (fun b hb=>(g.K.A b hb).1),h4⟩
 |io t=>obtain⟨h1,h2,cs,h3,h4⟩:=h;exact⟨h1,h2,cs,h3.monoA (fun b hb=>(g.K.A b hb).1),h4⟩
 |mu t=>obtain⟨b,o,cs,h1,h2,h3,h4⟩:=h;exact⟨b,o,cs,h1,h2,h3.mono (fun b hb=>(g.K.A b hb).1) (fun _ _=>rfl),h4⟩
 |pin t=>obtain⟨h1,ms,b,o,cs,hm,h2,h3,h4,h5,h6⟩:=h;exact⟨h1,ms,b,o,cs,hm,h2,g.K.rv h3,h4,h5,fun σ2 hs=>h6 σ2 (g.S.trans hs)⟩
 |pio t=>obtain⟨b,o,cs,h1,h2,h3,h4,h5⟩:=h;exact⟨b,o,cs,h1,h2,h3.monoA (fun b hb=>(g.K.A b hb).1),h4,h5⟩
 |clo f n ks=>exact h
theorem noneAl_mem {l:List Nat} {τ:Nat} (h:noneAl σ l=true) (ht:τ∈l):τ∉σ.al:=by
 simp only[noneAl,AM] at h
 simpa using h τ ht
theorem us_frz {τ:Nat} (h:σ.us τ=true) (hn:τ∉σ.al):τ=1\/frz σ τ:=by
 rcases us_iff.1 h with h|h|h|h
 ·exact .inr (.inl h)
 ·exact .inl h
 ·exact absurd h hn
 ·exact .inr (.inr h)
theorem al_ge (hr:RelE X E σ A0 w):∀τ∈σ.al,2<=τ:=fun τ ht=>(hr.alr τ ht).1
theorem capK_nat {b:Bool} {t:Ty} {s:Slot} {k:t.den->Option R} {r:R} (h:capK σ b t s k=some r):t.flat=true/\∃v,k v=some r/\∀ (R':Type) (k':t.den->Option R'),capK σ b t s k'=k' v:=by
 unfold capK at h
 cases hf:t.flat with
 |false=>rw[hf] at h;simp at h
 |true=>
  rw[hf] at h
  simp only[cond_true] at h
  refine⟨rfl,?_⟩
  cases b with
  |true=>
   simp only[cond_true] at h
   obtain⟨x,hm,h1,h2,_⟩:=readK_nat h
   cases hc:cast? t x with
   |none=>rw[hc] at h1;simp at h1
   |some p=>
    rw[hc] at h1
    exact⟨p.1,h1,fun R' k'=>by unfold capK;rw[hf];simp only[cond_true];rw[h2,hc]⟩
  |false=>
   simp only[cond_false] at h
   cases s with
   |val x hm=>
    simp only at h
    cases hc:cast? t x with
    |none=>rw[hc] at h;simp at h
    |some p=>
     rw[hc] at h
     exact⟨p.1,h,fun R' k'=>by unfold capK;rw[hf];simp only[cond_true,cond_false,hc]⟩
   |_=>simp at h
theorem capsK_nat:∀ {ks:List (Bool×Ty)} {l:List Slot} {k:(cloTy ks).den->Option R} {r:R},capsK σ ks l k=some r->∃v,k v=some r/\∀ (R':Type) (k':(cloTy ks).den->Option R'),capsK σ ks l k'=k' v:=by
 intro ks
 induction ks with
 |nil=>intro l k r h;cases l with
  |nil=>exact⟨(),h,fun _ _=>rfl⟩
  |cons x l=>simp[capsK] at h
 |cons p ks ih=>
  intro l k r h
  cases l with
  |nil=>simp[capsK] at h
  |cons s l=>
   obtain⟨b,t⟩:=p
   simp only[capsK] at h
   obtain⟨_,v,h1,h2⟩:=capK_nat h
   obtain⟨z,h3,h4⟩:=ih h1
   exact⟨(v,z),h3,fun R' k'=>by simp only[capsK];rw[h2,h4]⟩
theorem capsK_ok (hr:RelE X E σ A0 w):∀ {ks:List (Bool×Ty)} {l:List Slot} {us:List Value} {k:(cloTy ks).den->Option R} {r:R},capsK σ ks l k=some r->us.length=l.length->(∀ (i:Nat) c u,l[i]?=some c->us[i]?=some u->SlotB w (Fz X E σ w) E σ c u)->
  ∃v,k v=some r/\PendC w ks v l us:=by
 intro ks
 induction ks with
 |nil=>intro l us k r h hl _;cases l with
  |nil=>exact⟨(),h,by cases us with|nil=>trivial|cons _ _=>simp at hl⟩
  |cons x l=>simp[capsK] at h
 |cons p ks ih=>
  intro l us k r h hl hs
  cases l with
  |nil=>simp[capsK] at h
  |cons s l=>
   cases us with
   |nil=>simp at hl
   |cons u us=>
    obtain⟨b,t⟩:=p
    simp only[capsK] at h
    obtain⟨hf,v,h1,h2⟩:=capK_nat h
    obtain⟨z,h3,h4⟩:=ih h1 (by simpa using hl) (fun i c u' e1 e2=>hs (i+1) c u' (by simpa using e1) (by simpa using e2))
    refine⟨(v,z),h3,⟨hf,?_⟩,h4⟩
    have hs0:=hs 0 _ _ rfl rfl
    have h5:=h2 _ (fun v=>some v)
    unfold capK at h5
    rw[hf] at h5
    simp only[cond_true] at h5
    cases b with
    |true=>
     simp only[cond_true] at h5
     obtain⟨x,hm,b',o,cs,q1,q2,q3,_,q5⟩:=read_ok (a:=⟨A0,[]⟩) hr hs0.ok h5
     cases hc:cast? t x with
     |none=>rw[hc] at q1;simp at q1
     |some p=>
      rw[hc] at q1
      simp only[A4] at q1
      have e:=cast?_some hc
      subst e
      rw[flatR_ok hf q3] at q5
      rw[q1] at q5
      exact⟨b',o,q2,q5⟩
    |false=>
     simp only[cond_false] at h5
     cases s with
     |val x hm=>
      simp only at h5
      cases hc:cast? t x with
      |none=>rw[hc] at h5;simp at h5
      |some p=>
       rw[hc] at h5
       simp only[A4] at h5
       have e:=cast?_some hc
       subst e
       obtain⟨cs,g1,g2,_⟩:=hs0
       rw[flatR_ok hf g1,h5] at g2
       exact g2
     |_=>simp at h5
theorem one_ok {b:AK} {s:Slot} {u:Value} {k:b.ty.den->St->Option R} {r:R} (hr:RelE X E σ A0 w) (hs:SlotOk w (Fz X E σ w) E σ s u) (h:oneK b s σ k=some r):
  ∃v σ1 E1 f,k v σ1=some r/\RelE X E1 σ1 A0 w/\Gone X w E σ E1 σ1/\E1.out.Perm (f.rows.filterMap id++E.out)/\Pend X w E1 σ1 b s u v f:=by
 have hr0:∀ (a:Act),a.tmps=A0->RelE X E σ a.tmps w:=fun a ha=>ha▸hr
 have hra:=hr0 ⟨A0,[]⟩ rfl
 have g0:Gone X w E σ E σ:=⟨hr.keep,Same.refl σ,rfl,rfl,rfl⟩
 have take:∀ {t:Ty} {v:t.den} {ms:List Nat} {cs:List Value} {k:St->Option R},takeK σ ms k=some r->Rv w (Fz X E σ w) E σ t v ms cs->ms.length=t.nl->
   ∃σ1 E1,k σ1=some r/\RelE X E1 σ1 A0 w/\Gone X w E σ E1 σ1/\E1.out.Perm ((ms.map E.hd).filterMap id++E.out)/\Ow w (Fz X E1 σ1 w) t v cs (ms.map E.hd):=by
  intro t v ms cs k h hv hl
  obtain⟨σ1,E1,q1,q2,q3,q4,q5,q6,q7,q8,q9,q10,q11,q12,q13,q14⟩:=take_ok ms hr h
  exact⟨σ1,E1,q1,q2,⟨q3,⟨q9,q10,q11,q12,q13,fun τ ht=>(q14 τ ht).1⟩,q6,q7,q8⟩,q5,(ow_of_rv (hr.hd0 1 (by omega)) (al_ge hr) q4 hl hv).monoA (fun b hb=>(q3.A b hb).1)⟩
 have readw:∀ {k:Val->Option Home->Option R},readK σ s k=some r->∃x hm b o cs,k x hm=some r/\u= .pointer (some ⟨b,o,none⟩)/\Rv w (Fz X E σ w) E σ x.t x.v x.ms cs/\x.ms.length=x.t.nl/\At w b o cs/\
   ∀σ2,Same σ σ2->∀ (R':Type) (k':Val->Option Home->Option R') q,readK σ2 s k'=some q->k' x hm=some q:=by
  intro k h
  obtain⟨x,hm,h1,h2,h3⟩:=readK_nat h
  obtain⟨x',hm',b,o,cs,q1,q2,q3,q4,q5⟩:=read_ok hra hs (h2 _ fun x hm=>some (x,hm))
  simp only[A4,BE] at q1
  obtain⟨rfl,rfl⟩:=q1
  exact⟨x',hm',b,o,cs,h1,q2,q3,q4,q5,h3⟩
 cases b with
 |ro t=>
  simp only[oneK] at h
  cases hc:coe t s with
  |none=>simp[hc] at h
  |some p=>
   obtain⟨v,ms⟩:=p
   simp only[hc] at h
   cases hu:allUs σ ms with
   |false=>rw[hu] at h;simp at h
   |true=>
    rw[hu] at h
    simp only[cond_true] at h
    obtain⟨cs,q1,q2,q3⟩:=coe_ok hc hs hr.nt2 hr.no1.1 hr.no1.2
    exact⟨v,σ,E,⟨[],none⟩,h,hr,g0,by simp,rfl,ms,cs,hc,q1,q2,q3⟩
 |own t=>
  simp only[oneK] at h
  cases hc:coe t s with
  |none=>simp[hc] at h
  |some p=>
   obtain⟨v,ms⟩:=p
   simp only[hc] at h
   obtain⟨cs,q1,q2,q3⟩:=coe_ok hc hs hr.nt2 hr.no1.1 hr.no1.2
   obtain⟨σ1,E1,w1,w2,w3,w4,w5⟩:=take h q1 q3
   exact⟨v,σ1,E1,⟨ms.map E.hd,none⟩,w1,w2,w3,w4,rfl,by simpa using q3,cs,w5,q2⟩
 |io t=>
  simp only[oneK] at h
  cases hc:coe t s with
  |none=>simp[hc] at h
  |some p=>
   obtain⟨v,ms⟩:=p
   simp only[hc] at h
   obtain⟨cs,q1,q2,q3⟩:=coe_ok hc hs hr.nt2 hr.no1.1 hr.no1.2
   obtain⟨σ1,E1,w1,w2,w3,w4,w5⟩:=take h q1 q3
   exact⟨v,σ1,E1,⟨ms.map E.hd,none⟩,w1,w2,w3,w4,rfl,by simpa using q3,cs,w5,q2⟩
 |mu t=>
  have h':(readK σ s fun x _=>match cast? t x with
    |some (v,ms)=>bif allUs σ ms&&noneAl σ ms then k v σ else none
    |none=>none)=some r:=by
   cases s with
   |rptr τ x=>simp[oneK] at h
   |_=>exact h
  obtain⟨x,hm,b,o,cs,q1,q2,q3,q4,q5,q6⟩:=readw h'
  cases hc:cast? t x with
  |none=>simp[hc] at q1
  |some p=>
   obtain⟨v,ms⟩:=p
   simp only[hc] at q1
   have e:=cast?_some hc
   subst e
   cases hu:allUs σ ms&&noneAl σ ms with
   |false=>rw[hu] at q1;simp at q1
   |true=>
    rw[hu] at q1
    simp only[cond_true] at q1
    simp only[A3] at hu
    have hfz:=rf_of_frz (A:=Fz X E σ w) (σ:=σ) (E:=E) (fun τ hτ=>us_frz (allUs_mem hu.1 hτ) (noneAl_mem hu.2 hτ)) q4 q3
    exact⟨v,σ,E,⟨[],some (b,o)⟩,q1,hr,g0,by simp,b,o,cs,rfl,q2,hfz,q5⟩
 |pin t=>
  simp only[oneK] at h
  obtain⟨x,hm,b,o,cs,q1,q2,q3,q4,q5,q6⟩:=readw h
  cases hc:cast? t x with
  |none=>simp[hc] at q1
  |some p=>
   obtain⟨v,ms⟩:=p
   simp only[hc] at q1
   have e:=cast?_some hc
   subst e
   cases hu:allUs σ ms with
   |false=>rw[hu] at q1;simp at q1
   |true=>
    rw[hu] at q1
    simp only[cond_true] at q1
    exact⟨v,σ,E,⟨[],none⟩,q1,hr,g0,by simp,rfl,ms,b,o,cs,hm,q2,q3,q4,q5,q6⟩
 |pio t=>
  have h':(readK σ s fun x _=>match cast? t x with
    |some (v,ms)=>takeK σ ms fun σ=>k v σ
    |none=>none)=some r:=by
   cases s with
   |rptr τ x=>simp[oneK] at h
   |_=>exact h
  obtain⟨x,hm,b,o,cs,q1,q2,q3,q4,q5,q6⟩:=readw h'
  cases hc:cast? t x with
  |none=>simp[hc] at q1
  |some p=>
   obtain⟨v,ms⟩:=p
   simp only[hc] at q1
   have e:=cast?_some hc
   subst e
   obtain⟨σ1,E1,w1,w2,w3,w4,w5⟩:=take q1 q3 q4
   exact⟨v,σ1,E1,⟨ms.map E.hd,some (b,o)⟩,w1,w2,w3,w4,b,o,cs,rfl,q2,w5,by simpa using q4,q5⟩
 |clo f n ks=>
  cases s with
  |clo f' n' caps=>
   simp only[oneK] at h
   cases hc:f'==f&&n'==n with
   |false=>rw[hc] at h;simp at h
   |true=>
    rw[hc] at h
    simp only[cond_true] at h
    simp only[A3,beq_iff_eq] at hc
    obtain⟨rfl,rfl⟩:=hc
    obtain⟨us,h1,h2,h3⟩:=hs
    obtain⟨v,q1,q2⟩:=capsK_ok hr h h2 h3
    exact⟨v,σ,E,⟨[],none⟩,q1,hr,g0,by simp,rfl,us,caps,rfl,h1,q2⟩
  |_=>simp[oneK] at h
def Pends (X:Ctx) (w:World) (E:Env) (σ:St):(ks:List AK)->List Slot->List Value->Tup (tysOf ks)->List Foot->Prop
 |[],[],[],_,[]=>True
 |b::r,s::ss,u::us,x,f::fs=>Pend X w E σ b s u (Tup.hd x) f/\Pends X w E σ r ss us (Tup.tl x) fs
 |_,_,_,_,_=>False
theorem Pends.gone {E1:Env} {σ1:St} (g:Gone X w E σ E1 σ1):∀ {ks:List AK} {ss:List Slot} {us:List Value} {x:Tup (tysOf ks)} {fs:List Foot},Pends X w E σ ks ss us x fs->Pends X w E1 σ1 ks ss us x fs:=by
 intro ks
 induction ks with
 |nil=>intro ss us x fs h;cases ss<;>cases us<;>cases fs<;>exact h
 |cons b r ih=>
  intro ss us x fs h
  cases ss<;>cases us<;>cases fs<;>first|exact h|exact⟨h.1.gone g,ih h.2⟩
theorem tup_hd {t:Ty} {r:List Ty} (v:t.den) (x:Tup r):Tup.hd (Tup.cons v x)=v:=by cases r<;>rfl
theorem tup_tl {t:Ty} {r:List Ty} (v:t.den) (x:Tup r):Tup.tl (Tup.cons v x)=x:=by cases r<;>rfl
theorem gather_ok:∀ {ks:List AK} {ss:List Slot} {us:List Value} {E:Env} {σ:St} {k:Tup (tysOf ks)->St->Option R} {r:R},RelE X E σ A0 w->ss.length=us.length->
  (∀ (i:Nat) s u,ss[i]?=some s->us[i]?=some u->SlotOk w (Fz X E σ w) E σ s u)->gatherK ks ss σ k=some r->
  ∃x σ1 E1 fs,k x σ1=some r/\RelE X E1 σ1 A0 w/\Gone X w E σ E1 σ1/\E1.out.Perm (rowsOf fs++E.out)/\Pends X w E1 σ1 ks ss us x fs:=by
 intro ks
 induction ks with
 |nil=>
  intro ss us E σ k r hr hl hs h
  cases ss with
  |nil=>
   have:us=[]:=AR hl.symm
   subst this
   exact⟨(),σ,E,[],h,hr,⟨hr.keep,Same.refl σ,rfl,rfl,rfl⟩,by simp[rowsOf],trivial⟩
  |cons s ss=>simp[gatherK] at h
 |cons b ks ih=>
  intro ss us E σ k r hr hl hs h
  cases ss with
  |nil=>simp[gatherK] at h
  |cons s ss=>
   cases us with
   |nil=>simp at hl
   |cons u us=>
    simp only[gatherK] at h
    obtain⟨v,σ1,E1,f,q1,q2,q3,q4,q5⟩:=one_ok hr (hs 0 s u rfl rfl) h
    obtain⟨x,σ2,E2,fs,w1,w2,w3,w4,w5⟩:=ih q2 (by simpa using hl) (fun i s' u' hs' hu'=>q3.K.slot (hs (i+1) s' u' hs' hu')) q1
    refine⟨Tup.cons v x,σ2,E2,f::fs,w1,w2,q3.trans w3,?_,?_,?_⟩
    ·refine w4.trans ?_
     refine(Aj.append_left _ q4).trans ?_
     simp only[rowsOf,BD,<-AO]
     exact Aj.append_right _ An
    ·rw[tup_hd];exact q5.gone w3
    ·rw[tup_tl];exact w5
end
end Go.Proofs.YtacbkfginiknaaaDoor.V
namespace Go.Proofs.YtacbkfginiknaaaDoor.V
open Go
section
variable {P:Program} {X:Ctx} {E:Env} {σ:St} {A0:Array Value} {a:Act} {w:World} {o:Oper} {R:Type}
def AA (X:Ctx) (w:World) (E:Env) (σ:St) (ex:List (Nat×Nat)) (sh:Bool) (b:Nat):Prop:=Fz X E σ w b\/(sh=false/\∃τ∈σ.al,(0,τ)∉ex/\E.hd τ=some b)
def PP (X:Ctx) (w:World) (E:Env) (σ:St) (ex:List (Nat×Nat)) (b:Nat):Prop:=
 E.pin b\/(∃q∈σ.bx,(1,q.id)∉ex/\b=(E.ad q.id).1)\/Fz X E σ w b\/(∃τ∈σ.al,(0,τ)∉ex/\E.hd τ=some b)
theorem addr_fst:∀ {t u:Ty} {q q':Nat×Nat} {p:List Sel},addr t q p=some (u,q')->q'.1=q.1:=by
 intro t
 induction t with
 |st t ih=>
  intro u q q' p h
  cases p with
  |nil=>simp[addr] at h;rw[h.2]
  |cons s p=>exact ih (p:=s::p) h
 |pair a b iha ihb=>
  intro u q q' p h
  cases p with
  |nil=>simp[addr] at h;rw[h.2]
  |cons s p=>cases s with
   |fst=>exact iha h
   |snd=>
    have h':addr b (q.1,q.2+a.size) p=some (u,q'):=h
    have:=ihb h'
    exact this
   |ix i=>simp[addr] at h
 |arr n t ih=>
  intro u q q' p h
  cases p with
  |nil=>simp[addr] at h;rw[h.2]
  |cons s p=>cases s with
   |fst=>simp[addr] at h
   |snd=>simp[addr] at h
   |ix i=>
    simp only[addr] at h
    split at h
    ·have:=ih h
     exact this
    ·cases h
 |_=>
  intro u q q' p h
  cases p with
  |nil=>simp[addr] at h;rw[h.2]
  |cons s p=>cases s<;>simp[addr] at h
theorem freeToks_mem {ex:List (Nat×Nat)} {ms:List Nat} {τ:Nat} (h:freeToks σ ex ms=true) (ht:τ∈ms):σ.us τ=true/\(0,τ)∉ex:=by
 have:=AM.1 h τ ht
 simpa using this
theorem rf_lent (hr:RelE X E σ A0 w) {ex:List (Nat×Nat)} {sh:Bool}:∀ {t:Ty} {v:t.den} {ms:List Nat} {cs:List Value},(∀τ∈ms,(σ.us τ=true/\(0,τ)∉ex)/\(sh=true->τ∉σ.al))->ms.length=t.nl->Rv w (Fz X E σ w) E σ t v ms cs->Rf w (AA X w E σ ex sh) t v cs:=by
 intro t
 induction t with
 |int k=>intro v ms cs _ _ h;exact h
 |bool=>intro v ms cs _ _ h;exact h
 |str=>intro v ms cs _ _ h;exact h
 |unit=>intro v ms cs _ _ h;exact h
 |pair a b iha ihb=>
  intro v ms cs hz hl h;obtain⟨c1,c2,e,h1,h2⟩:=h
  simp only[Ty.nl] at hl
  exact⟨c1,c2,e,iha (fun τ hτ=>hz τ (Ao hτ)) (by simp;omega) h1,ihb (fun τ hτ=>hz τ (Aq hτ)) (by simp;omega) h2⟩
 |st t ih=>intro v ms cs hz hl h;exact ih hz hl h
 |arr n t _=>intro v ms cs _ _ h;exact⟨h.1,h.2.1,fun i x hx=>(h.2.2.1 i x hx).mono (fun _ h=>.inl h) (fun _ _=>rfl),h.2.2.2⟩
 |sl e t _=>
  intro v ms cs hz hl h
  obtain⟨c,rfl,hleaf⟩:=h
  match ms,hl with
  |[τ],_=>
   obtain⟨⟨hu,hex⟩,hsh⟩:=hz τ (by simp)
   obtain⟨ad,cap,css,rfl,q1,q2,q3,q4⟩:=leaf_row (a:=⟨A0,[]⟩) hr hleaf hu
   refine⟨ad,cap,css,rfl,q1,fun i x hx=>(q2 i x hx).mono (fun _ h=>.inl h) (fun _ _=>rfl),fun hn=>?_,q4⟩
   obtain⟨b,o,k1,k2,k3,k4⟩:=q3 hn
   refine⟨b,o,k1,?_,k2⟩
   by_cases hal:τ∈σ.al
   ·refine .inr ⟨?_,τ,hal,hex,(k4 (hr.alr τ hal).1).2⟩
    cases sh with
    |false=>rfl
    |true=>exact absurd hal (hsh rfl)
   ·exact .inl (k3 hal)
theorem al_inj (hr:RelE X E σ A0 w) {τ υ b:Nat} (h1:τ∈σ.al) (h2:υ∈σ.al) (h3:E.hd τ=some b) (h4:E.hd υ=some b):τ=υ:=by
 have hn:=hr.nodup
 simp only[owned] at hn
 have hn2:=(AD.1 (AD.1 hn).2.1).1
 clear hn
 have key:∀l:List Nat,(l.flatMap (tokB E)).Nodup->τ∈l->υ∈l->τ=υ:=by
  intro l
  induction l with
  |nil=>intro _ h;cases h
  |cons c l ih=>
   intro hn ht hu
   simp only[BD,AD] at hn
   have mem:∀ {ρ:Nat},ρ∈l->E.hd ρ=some b->b∈l.flatMap (tokB E):=fun hρ hb=>AW.2 ⟨_,hρ,by simp[tokB,hb]⟩
   have memc:∀ {ρ:Nat},E.hd ρ=some b->b∈tokB E ρ:=fun hb=>by simp[tokB,hb]
   rcases A9.1 ht with h5|ht'<;>rcases A9.1 hu with h6|hu'
   ·rw[h5,h6]
   ·exact absurd rfl (hn.2.2 b (h5▸memc h3) b (mem hu' h4))
   ·exact absurd rfl (hn.2.2 b (h6▸memc h4) b (mem ht' h3))
   ·exact ih hn.2.1 ht' hu'
 exact key _ hn2 h1 h2
theorem bx_al (hr:RelE X E σ A0 w) {q:Bx} {τ b:Nat} (h1:q∈σ.bx) (h2:τ∈σ.al) (h3:E.hd τ=some b):(E.ad q.id).1≠b:=fun he=>by
 have hn:=hr.nodup
 simp only[owned] at hn
 exact(AD.1 hn).2.2 _ (AC.2 ⟨q,h1,rfl⟩) b (AB _ (AW.2 ⟨τ,h2,by simp[tokB,h3]⟩)) he
theorem bx_out (hr:RelE X E σ A0 w) {q:Bx} {b:Nat} (h1:q∈σ.bx) (h2:b∈E.out):(E.ad q.id).1≠b:=fun he=>by
 have hn:=hr.nodup
 simp only[owned] at hn
 exact(AD.1 hn).2.2 _ (AC.2 ⟨q,h1,rfl⟩) b (A6 _ h2) he
theorem al_out (hr:RelE X E σ A0 w) {τ b:Nat} (h1:τ∈σ.al) (h2:E.hd τ=some b):b∉E.out:=fun h=>by
 have hn:=hr.nodup
 simp only[owned] at hn
 exact(AD.1 (AD.1 hn).2.1).2.2 b (AW.2 ⟨τ,h1,by simp[tokB,h2]⟩) b h rfl
theorem bx_inj (hr:RelE X E σ A0 w) {q q':Bx} (h1:q∈σ.bx) (h2:q'∈σ.bx) (h3:(E.ad q.id).1=(E.ad q'.id).1):q=q':=by
 have hn:=hr.nodup
 simp only[owned] at hn
 exact inj_of_nodup (f:=fun b:Bx=>(E.ad b.id).1) (AD.1 hn).1 h1 h2 h3
theorem mem_out (hr:RelE X E σ A0 w) {b:Nat} (h:b∈E.out):b∈owned E σ:=A6 _ (A6 _ h)
theorem rowTok_ok (hr:RelE X E σ A0 w) {h:Home} {υ:Nat} (ht:rowTok σ h=some υ) (hal:υ∈σ.al) {b:Nat} (hb:E.hd υ=some b):∃c e,w.heap[b]?=some (.cells c e (0,0)):=by
 unfold rowTok rowK at ht
 cases hy:σ.root h.root with
 |none=>simp[hy] at ht
 |some y=>
  simp only[hy] at ht
  obtain⟨cs,h1,h2,_⟩:=root_cells (a:=⟨A0,[]⟩) hr hy
  obtain⟨z,d,q1,q2,_⟩:=get_ok (by have:=hr.nt2;omega) (fun h=>by have:=(hr.alr 0 h).1;omega) ht h1 h2
  obtain⟨zt,zv,zm⟩:=z
  cases zt with
  |sl e u=>
   simp only[A4] at q1
   subst q1
   obtain⟨c,_,_,ad,cap,rfl,_,_,k1,k2⟩:=q2
   obtain⟨css,hown,_⟩:=k2 hal
   have k3:=k1 (hr.alr _ hal).1
   rw[hb] at k3
   simp only[BH] at k3
   subst k3
   rcases hown.2 with⟨e1,_⟩|⟨g,cap',cur,e1,_,hg,_⟩
   ·cases e1
   ·simp only[Value.slice.injEq,A4,Addr.mk.injEq,and_true,true_and] at e1
    obtain⟨rfl,_⟩:=e1
    exact⟨cur,e,hg⟩
  |_=>simp at q1
def blk (E:Env) (e:Nat×Nat):Option Nat:=if e.1=0 then E.hd e.2 else some (E.ad e.2).1
def Valid (σ:St) (e:Nat×Nat):Prop:=(e.1=1/\∃q∈σ.bx,q.id=e.2)\/(e.1=0/\e.2∈σ.al)
theorem blk_owned (hr:RelE X E σ A0 w) {e:Nat×Nat} (hv:Valid σ e) {b:Nat} (hb:blk E e=some b):b∈owned E σ/\b∉E.out:=by
 obtain⟨k,i⟩:=e
 rcases hv with⟨h1,q,hq,h2⟩|⟨h1,h2⟩
 ·dsimp only at h1 h2;subst h1;subst h2
  simp[blk] at hb
  subst hb
  exact⟨mem_owned_bx hq,fun h=>bx_out hr hq h rfl⟩
 ·dsimp only at h1 h2;subst h1
  simp[blk] at hb
  exact⟨mem_owned_al h2 hb,al_out hr h2 hb⟩
theorem blk_inj (hr:RelE X E σ A0 w) {e f:Nat×Nat} (he:Valid σ e) (hf:Valid σ f) {b:Nat} (h1:blk E e=some b) (h2:blk E f=some b):e=f:=by
 obtain⟨k,i⟩:=e
 obtain⟨l,j⟩:=f
 rcases he with⟨e1,q,hq,e2⟩|⟨e1,e2⟩<;>rcases hf with⟨f1,q',hq',f2⟩|⟨f1,f2⟩<;>dsimp only at e1 e2 f1 f2<;>subst e1<;>subst f1<;>simp[blk] at h1 h2
 ·subst e2;subst f2
  rw[bx_inj hr hq hq' (h1.trans h2.symm)]
 ·subst e2
  exact absurd h1 (bx_al hr hq f2 h2)
 ·subst f2
  exact absurd h2 (bx_al hr hq' e2 h1)
 ·rw[al_inj hr e2 f2 h1 h2]
end
end Go.Proofs.YtacbkfginiknaaaDoor.V
namespace Go.Proofs.YtacbkfginiknaaaDoor.V
open Go
section
variable {P:Program} {X:Ctx} {E:Env} {σ:St} {A0:Array Value} {a:Act} {w:World} {o:Oper} {R:Type}
def ShOk (σ:St) (sh:Bool) (b:AK) (s:Slot):Prop:=
 match b with
 | .ro t=>sh=true->∀v ms,coe t s=some (v,ms)->∀τ∈ms,τ∉σ.al
 | .pin t=>sh=true->t.nl=0
 |_=>True
def ex1 (σ:St) (b:AK) (s:Slot):List (Nat×Nat):=exclOf σ [b] [s]
theorem exclOf_cons (σ:St) (b:AK) (r:List AK) (s:Slot) (ss:List Slot):exclOf σ (b::r) (s::ss)=ex1 σ b s++exclOf σ r ss:=by
 cases b<;>cases s<;>simp[ex1,exclOf]
theorem lendP_ok (hr:RelE X E σ A0 w) {ex:List (Nat×Nat)} {s:Slot} {u:Value} {b o:Nat} {q:List Nat} (hs:SlotOk w (Fz X E σ w) E σ s u) (h1:u= .pointer (some ⟨b,o,none⟩)) (hrd:(readK σ s fun x _=>some x.ms)=some q\/isEl s=true) (hl:lendP σ ex s=true):PP X w E σ ex b:=by
 unfold lendP at hl
 cases s with
 |ptr id r p t'=>
  obtain⟨_,b',o',e1,e2⟩:=hs
  rw[h1] at e1
  simp only[Value.pointer.injEq,A4,Addr.mk.injEq,and_true] at e1
  obtain⟨rfl,rfl⟩:=e1
  have hb:=addr_fst e2
  dsimp only at hb
  cases hf:σ.find id with
  |none=>
   simp[readK,hf,isEl] at hrd
  |some y=>
   refine .inr (.inl ⟨⟨id,y⟩,find_mem hf,?_,hb⟩)
   simpa using hl
 |eptr h τ i z p t'=>
  obtain⟨_,g,b',o',e0,e1,e2⟩:=hs
  rw[h1] at e1
  simp only[Value.pointer.injEq,A4,Addr.mk.injEq,and_true] at e1
  obtain⟨rfl,rfl⟩:=e1
  have hb:=addr_fst e2
  dsimp only at hb
  subst hb
  cases hrt:rowTok σ h with
  |none=>simp[hrt] at hl
  |some υ=>
   simp only[hrt,A3,beq_iff_eq,B2,AJ] at hl
   refine .inr (.inr (.inr ⟨υ,hl.1.2,by simpa using hl.2,?_⟩))
   rw[<-rootTok_hd hr.lnr υ,hl.1.1,rootTok_hd hr.lnr τ,e0]
 |rptr τ x=>
  obtain⟨_,b',o',e1,e2⟩:=hs
  rw[h1] at e1
  simp only[Value.pointer.injEq,A4,Addr.mk.injEq,and_true] at e1
  obtain⟨rfl,rfl⟩:=e1
  have hτ:=freeToks_mem hl (List.mem_singleton_self τ)
  have hne:τ≠1:=by
   intro he
   subst he
   simp[readK,isEl] at hrd
  have hfr:frz σ τ\/τ∈σ.al:=by
   rcases us_iff.1 hτ.1 with h|h|h|h
   ·exact .inl (.inl h)
   ·exact absurd h hne
   ·exact .inr h
   ·exact .inl (.inr h)
  obtain⟨_,_,_,_,k1,k2⟩:=e2 hfr
  by_cases hal:τ∈σ.al
  ·exact .inr (.inr (.inr ⟨τ,hal,hτ.2,k1 hal⟩))
  ·rcases k2 hal with h|h
   ·exact .inr (.inr (.inl h))
   ·exact .inl h
 |_=>simp at hl
theorem cloV_inj {f:FuncId} {n:Nat} {us us':List Value} (h:cloV f n us=cloV f n us'):us=us':=by
 simp only[cloV,Value.func.injEq,List.toArray_inj,true_and] at h
 have h1:=congrArg Array.toList h.1
 have h2:=congrArg Array.toList h.2
 simp only at h1 h2
 rw[<-B3 n us,h1,h2,B3]
theorem caps_lent (hr:RelE X E σ A0 w) {ex:List (Nat×Nat)}:∀ {ks:List (Bool×Ty)} {v:(cloTy ks).den} {l:List Slot} {us:List Value},(∀ (i:Nat) c u,l[i]?=some c->us[i]?=some u->SlotB w (Fz X E σ w) E σ c u)->
  PendC w ks v l us->lendCaps σ ex ks l=true->CapsOk w (PP X w E σ ex) ks v us:=by
 intro ks
 induction ks with
 |nil=>intro v l us _ h _;cases l<;>cases us<;>first|trivial|exact h.elim
 |cons p ks ih=>
  intro v l us hs h hl
  obtain⟨b,t⟩:=p
  cases l with
  |nil=>cases us<;>exact h.elim
  |cons s l=>
   cases us with
   |nil=>exact h.elim
   |cons u us=>
    obtain⟨⟨h1,h2⟩,h3⟩:=h
    simp only[lendCaps,A3] at hl
    refine⟨⟨h1,?_⟩,ih (fun i c u' e1 e2=>hs (i+1) c u' (by simpa using e1) (by simpa using e2)) h3 hl.2⟩
    cases b with
    |false=>exact h2
    |true=>
     obtain⟨bl,o,e1,e2⟩:=h2
     have hl1:=hl.1
     simp only[cond_true] at hl1
     cases hrd:readK σ s fun x _=>some x.ms with
     |none=>rw[hrd] at hl1;cases hl1
     |some q=>
      rw[hrd] at hl1
      exact⟨bl,o,e1,e2,lendP_ok hr (hs 0 _ _ rfl rfl).ok e1 (.inl hrd) hl1⟩
theorem lend_one (hr:RelE X E σ A0 w) {ex:List (Nat×Nat)} {sh:Bool} {b:AK} {s:Slot} {u:Value} {v:b.ty.den} {f:Foot} (hs:SlotOk w (Fz X E σ w) E σ s u) (hp:Pend X w E σ b s u v f) (hl:lendAt σ ex b s=true) (hsh:ShOk σ sh b s):
  ArgOk w (AA X w E σ ex sh) (PP X w E σ ex) b v u f/\(ex1 σ b s).map (blk E)=f.place.toList.map (fun p=>some p.1)/\∀e∈ex1 σ b s,Valid σ e:=by
 cases b with
 |ro t=>
  obtain⟨rfl,ms,cs,h1,h2,h3,h4⟩:=hp
  refine⟨⟨⟨cs,rf_lent hr (fun τ hτ=>⟨?_,fun h=>hsh h v ms h1 τ hτ⟩) h4 h2,h3⟩,rfl⟩,by simp[ex1,exclOf],by simp[ex1,exclOf]⟩
  simp only[lendAt,h1] at hl
  exact freeToks_mem hl hτ
 |own t=>
  obtain⟨h1,h2,cs,h3,h4⟩:=hp
  exact⟨⟨⟨cs,h3.monoA (fun _ h=>.inl h),h4⟩,h2,h1⟩,by simp[ex1,exclOf,h1],by simp[ex1,exclOf]⟩
 |io t=>
  obtain⟨h1,h2,cs,h3,h4⟩:=hp
  exact⟨⟨⟨cs,h3.monoA (fun _ h=>.inl h),h4⟩,h2,h1⟩,by simp[ex1,exclOf,h1],by simp[ex1,exclOf]⟩
 |mu t=>
  obtain⟨b,o,cs,rfl,h2,h3,h5⟩:=hp
  simp only[lendAt,A3,AJ,beq_eq_false_iff_ne,ne_eq] at hl
  obtain⟨hsz,hl2⟩:=hl
  have hlen:=h3.length
  cases s with
  |ptr id r p t'=>
   obtain⟨_,b',o',e1,e2⟩:=hs
   rw[h2] at e1
   simp only[Value.pointer.injEq,A4,Addr.mk.injEq,and_true] at e1
   obtain⟨rfl,rfl⟩:=e1
   have hb:=addr_fst e2
   dsimp only at hb
   cases hf:σ.find id with
   |none=>simp[hf] at hl2
   |some y=>
    obtain⟨_,c,e,_,_,q,_⟩:=hr.bx _ (find_mem hf)
    rw[<-hb] at q
    refine⟨⟨b,o,cs,c,e,h2,h3.mono (fun _ h=>.inl h) (fun _ _=>rfl),h5,q,?_,rfl⟩,by simp[ex1,exclOf,blk,hb],by simp[ex1,exclOf,Valid];exact⟨_,find_mem hf,rfl⟩⟩
    have hj:cs.length-1<cs.length:=by omega
    have:=h5 (cs.length-1) _ (AN hj)
    rw[cell_of_row w b _ c e _ q] at this
    have:=(AL.1 this).1
    omega
  |_=>simp at hl2
 |pin t=>
  obtain⟨rfl,ms,b,o,cs,hm,h1,h2,h3,h4,h5⟩:=hp
  simp only[lendAt,A3] at hl
  obtain⟨hl1,hl2⟩:=hl
  have hms:freeToks σ ex ms=true:=by
   cases hz:t.nl==0&&isEl s with
   |true=>
    simp only[A3,beq_iff_eq] at hz
    have:ms=[]:=AR (h3.trans hz.1)
    rw[this];rfl
   |false=>
    rw[hz] at hl1
    simp only[cond_false] at hl1
    cases hrd:readK σ s fun x _=>some x.ms with
    |none=>rw[hrd] at hl1;cases hl1
    |some ms'=>
     rw[hrd] at hl1
     have:=h5 σ (Same.refl σ) _ (fun x _=>some x.ms) ms' hrd
     simp only[A4] at this
     rw[this];exact hl1
  have hnl:sh=true->t.nl=0:=hsh
  refine⟨⟨⟨b,o,cs,h1,rf_lent hr (fun τ hτ=>⟨freeToks_mem hms hτ,fun h=>?_⟩) h3 h2,h4,?_⟩,rfl⟩,by simp[ex1,exclOf],by simp[ex1,exclOf]⟩
  ·have:ms=[]:=AR (h3.trans (hnl h))
   rw[this] at hτ;cases hτ
  ·cases hz:t.nl==0&&isEl s with
   |true=>
    simp only[A3,beq_iff_eq] at hz
    exact lendP_ok (q:=[]) hr hs h1 (.inr hz.2) hl2
   |false=>
    rw[hz] at hl1
    simp only[cond_false] at hl1
    cases hrd:readK σ s fun x _=>some x.ms with
    |none=>rw[hrd] at hl1;cases hl1
    |some q=>exact lendP_ok hr hs h1 (.inl hrd) hl2
 |pio t=>
  obtain⟨b,o,cs,h1,h2,h3,h4,h5⟩:=hp
  simp only[lendAt,A3,AJ,beq_eq_false_iff_ne,ne_eq] at hl
  obtain⟨hsz,hl2⟩:=hl
  have hlen:=h3.length
  have key:∀c e,w.heap[b]?=some (.cells c e (0,0))->ArgOk w (AA X w E σ ex sh) (PP X w E σ ex) (.pio t) v u f:=by
   intro c e hc
   refine⟨b,o,cs,c,e,h2,h3.monoA (fun _ h=>.inl h),h4,h5,hc,?_,h1⟩
   have hj:cs.length-1<cs.length:=by omega
   have:=h5 (cs.length-1) _ (AN hj)
   rw[cell_of_row w b _ c e _ hc] at this
   have:=(AL.1 this).1
   omega
  cases s with
  |ptr id r p t'=>
   obtain⟨_,b',o',e1,e2⟩:=hs
   rw[h2] at e1
   simp only[Value.pointer.injEq,A4,Addr.mk.injEq,and_true] at e1
   obtain⟨rfl,rfl⟩:=e1
   have hb:=addr_fst e2
   dsimp only at hb
   cases hf:σ.find id with
   |none=>simp[hf] at hl2
   |some y=>
    obtain⟨_,c,e,_,_,q,_⟩:=hr.bx _ (find_mem hf)
    exact⟨key c e (by rw[hb];exact q),by simp[ex1,exclOf,h1,blk,hb],by simp[ex1,exclOf,Valid];exact⟨_,find_mem hf,rfl⟩⟩
  |eptr h τ i z p t'=>
   obtain⟨_,g,b',o',e0,e1,e2⟩:=hs
   rw[h2] at e1
   simp only[Value.pointer.injEq,A4,Addr.mk.injEq,and_true] at e1
   obtain⟨rfl,rfl⟩:=e1
   have hb:=addr_fst e2
   dsimp only at hb
   subst hb
   cases hrt:rowTok σ h with
   |none=>simp[hrt] at hl2
   |some υ=>
    simp only[hrt,A3,beq_iff_eq,B2] at hl2
    have hhd:E.hd υ=some b:=by rw[<-rootTok_hd hr.lnr υ,hl2.1,rootTok_hd hr.lnr τ,e0]
    obtain⟨c,e,q⟩:=rowTok_ok hr hrt hl2.2 hhd
    exact⟨key c e q,by simp[ex1,exclOf,hrt,h1,blk,hhd],by simp[ex1,exclOf,hrt,Valid,hl2.2]⟩
  |_=>simp at hl2
 |clo g n ks=>
  obtain⟨rfl,us,caps,rfl,h1,h2⟩:=hp
  obtain⟨us',k1,k2,k3⟩:=hs
  have he:us=us':=cloV_inj (h1.symm.trans k1)
  subst he
  simp only[lendAt] at hl
  exact⟨⟨⟨us,h1,caps_lent hr k3 h2 hl⟩,rfl⟩,by simp[ex1,exclOf],by simp[ex1,exclOf]⟩
def placesOf (fs:List Foot):List (Nat×Nat):=fs.filterMap (·.place)
def ShOks (σ:St) (sh:Bool):List AK->List Slot->Prop
 |b::r,s::ss=>ShOk σ sh b s/\ShOks σ sh r ss
 |_,_=>True
theorem lend_all (hr:RelE X E σ A0 w) {ex:List (Nat×Nat)} {sh:Bool}:∀ {ks:List AK} {ss:List Slot} {us:List Value} {x:Tup (tysOf ks)} {fs:List Foot},(∀ (i:Nat) s u,ss[i]?=some s->us[i]?=some u->SlotOk w (Fz X E σ w) E σ s u)->
  Pends X w E σ ks ss us x fs->lentOk σ ex ks ss=true->ShOks σ sh ks ss->
  ArgsOk w (AA X w E σ ex sh) (PP X w E σ ex) ks x us fs/\(exclOf σ ks ss).map (blk E)=(placesOf fs).map (fun p=>some p.1)/\∀e∈exclOf σ ks ss,Valid σ e:=by
 intro ks
 induction ks with
 |nil=>
  intro ss us x fs _ h _ _
  cases ss<;>cases us<;>cases fs<;>first|exact h.elim|exact⟨trivial,rfl,fun e h=>by cases h⟩
 |cons b r ih=>
  intro ss us x fs hs h hl hsh
  cases ss with
  |nil=>cases us<;>cases fs<;>exact h.elim
  |cons s ss=>
   cases us with
   |nil=>cases fs<;>exact h.elim
   |cons u us=>
    cases fs with
    |nil=>exact h.elim
    |cons f fs=>
     simp only[lentOk,A3] at hl
     obtain⟨q1,q2,q3⟩:=lend_one hr (hs 0 s u rfl rfl) h.1 hl.1 hsh.1
     obtain⟨w1,w2,w3⟩:=ih (fun i s' u' h1 h2=>hs (i+1) s' u' h1 h2) h.2 hl.2.2 hsh.2
     refine⟨⟨q1,w1⟩,?_,fun e he=>?_⟩
     ·rw[exclOf_cons,BR,q2,w2]
      cases hp:f.place<;>simp[placesOf,hp]
     ·rw[exclOf_cons] at he
      rcases AU.1 he with h|h
      ·exact q3 e h
      ·exact w3 e h
theorem blocks_mem {fs:List Foot} {b:Nat}:b∈blocksOf fs↔b∈rowsOf fs\/∃p∈placesOf fs,p.1=b:=by
 induction fs with
 |nil=>simp[blocksOf,rowsOf,placesOf]
 |cons f fs ih=>
  have e1:blocksOf (f::fs)=f.blocks++blocksOf fs:=rfl
  have e2:rowsOf (f::fs)=f.rows.filterMap id++rowsOf fs:=rfl
  rw[e1,e2,AU,AU,ih]
  cases hp:f.place<;>simp[Foot.blocks,placesOf,hp,or_assoc,or_comm,or_left_comm,eq_comm]
theorem blocks_perm (fs:List Foot):(blocksOf fs).Perm (rowsOf fs++(placesOf fs).map (·.1)):=by
 induction fs with
 |nil=>simp[blocksOf,rowsOf,placesOf]
 |cons f fs ih=>
  have e1:blocksOf (f::fs)=f.rows.filterMap id++((f.place.map (·.1)).toList++blocksOf fs):=by simp[blocksOf,Foot.blocks]
  have e2:rowsOf (f::fs)=f.rows.filterMap id++rowsOf fs:=rfl
  have e3:(placesOf (f::fs)).map (·.1)=(f.place.map (·.1)).toList++(placesOf fs).map (·.1):=by cases hp:f.place<;>simp[placesOf,hp]
  rw[e1,e2,e3,AO]
  refine Aj.append_left _ ?_
  refine(Aj.append_left _ ih).trans ?_
  rw[<-AO,<-AO]
  exact Aj.append_right _ An
theorem noDup_nodup:∀ {l:List (Nat×Nat)},noDup l=true->l.Nodup:=by
 intro l
 induction l with
 |nil=>intro _;exact Bj
 |cons c r ih=>
  intro h
  simp only[noDup,A3,AJ] at h
  exact AV.2 ⟨by simpa using h.1,ih h.2⟩
theorem lend_apart (hr:RelE X E σ A0 w) {ex:List (Nat×Nat)} {sh:Bool} {fs:List Foot} {l:List Nat} (ho:E.out.Perm (rowsOf fs++l)) (hex:ex.map (blk E)=(placesOf fs).map (fun p=>some p.1)) (hv:∀e∈ex,Valid σ e) (hnd:noDup ex=true):
  (blocksOf fs).Nodup/\(∀b∈blocksOf fs,b<w.heap.size/\¬AA X w E σ ex sh b/\¬PP X w E σ ex b):=by
 have hplace:∀p∈placesOf fs,∃e∈ex,blk E e=some p.1:=by
  intro p hp
  have:some p.1∈(placesOf fs).map (fun p=>some p.1):=AC.2 ⟨p,hp,rfl⟩
  rw[<-hex] at this
  obtain⟨e,he,hb⟩:=AC.1 this
  exact⟨e,he,hb⟩
 have hrow:∀b∈rowsOf fs,b∈E.out:=fun b hb=>ho.mem_iff.2 (AB _ hb)
 have hout:E.out.Nodup:=by
  have hn:=hr.nodup
  simp only[owned] at hn
  exact(AD.1 (AD.1 hn).2.1).2.1
 refine⟨(blocks_perm fs).nodup_iff.2 ?_,fun b hb=>?_⟩
 ·rw[AD]
  refine⟨(AD.1 (ho.nodup_iff.1 hout)).1,?_,fun x hx y hy he=>?_⟩
  ·have h1:(ex.map (blk E)).Nodup:=by
    have hnd':=noDup_nodup hnd
    have hsome:∀e∈ex,∃q,blk E e=some q:=by
     intro e he
     have:blk E e∈ex.map (blk E):=AC.2 ⟨e,he,rfl⟩
     rw[hex] at this
     obtain⟨p,_,hp⟩:=AC.1 this
     exact⟨p.1,hp.symm⟩
    clear hex hplace hnd
    induction ex with
    |nil=>exact Bj
    |cons c r ih=>
     simp only[Ad,AV] at hnd' ⊢
     refine⟨fun h=>?_,ih (fun e he=>hv e (A5 _ he)) hnd'.2 (fun e he=>hsome e (A5 _ he))⟩
     obtain⟨e,he,hb⟩:=AC.1 h
     obtain⟨q,hq⟩:=hsome c A7
     have he':=blk_inj hr (hv c A7) (hv e (A5 _ he)) hq (hb.trans hq)
     subst he'
     exact hnd'.1 he
   rw[hex] at h1
   have:(placesOf fs).map (fun p=>some p.1)=((placesOf fs).map (·.1)).map some:=by simp
   rw[this] at h1
   exact List.Pairwise.of_map some (fun a b h e=>h (congrArg some e)) h1
  ·subst he
   obtain⟨p,hp,rfl⟩:=AC.1 hy
   obtain⟨e,he,hb⟩:=hplace p hp
   exact(blk_owned hr (hv e he) hb).2 (hrow _ hx)
 ·rcases blocks_mem.1 hb with h|⟨p,hp,rfl⟩
  ·have ho':=hrow b h
   have hown:=mem_out hr ho'
   refine⟨(hr.lt b hown).1,fun hA=>?_,fun hP=>?_⟩
   ·rcases hA with h|⟨_,τ,h1,_,h2⟩
    ·exact h.2.2 hown
    ·exact al_out hr h1 h2 ho'
   ·rcases hP with h|⟨q,h1,_,h2⟩|h|⟨τ,h1,_,h2⟩
    ·exact(hr.pinlt b h).2 hown
    ·exact bx_out hr h1 ho' h2.symm
    ·exact h.2.2 hown
    ·exact al_out hr h1 h2 ho'
  ·obtain⟨e,he,hb⟩:=hplace p hp
   have hown:=(blk_owned hr (hv e he) hb).1
   have hval:=hv e he
   refine⟨(hr.lt _ hown).1,fun hA=>?_,fun hP=>?_⟩
   ·rcases hA with h|⟨_,τ,h1,h3,h2⟩
    ·exact h.2.2 hown
    ·have:=blk_inj hr hval (f:=(0,τ)) (.inr ⟨rfl,h1⟩) hb (by simpa[blk] using h2)
     subst this
     exact h3 he
   ·rcases hP with h|⟨q,h1,h3,h2⟩|h|⟨τ,h1,h3,h2⟩
    ·exact(hr.pinlt _ h).2 hown
    ·have:=blk_inj hr hval (f:=(1,q.id)) (.inl ⟨rfl,q,h1,rfl⟩) hb (by simp[blk,h2])
     subst this
     exact h3 he
    ·exact h.2.2 hown
    ·have:=blk_inj hr hval (f:=(0,τ)) (.inr ⟨rfl,h1⟩) hb (by simpa[blk] using h2)
     subst this
     exact h3 he
end
end Go.Proofs.YtacbkfginiknaaaDoor.V
namespace Go.Proofs.YtacbkfginiknaaaDoor.V
open Go
section
variable {P:Program} {X:Ctx} {E:Env} {σ:St} {A0:Array Value} {a:Act} {w:World} {o:Oper} {R:Type}
def restore (w:World):List Nat->World->World
 |[],W=>W
 |b::r,W=>restore w r (match w.heap[b]? with
  |some (.cells c _ _)=>W.setRow b c
  |_=>W)
theorem restore_size (w:World):∀ (l:List Nat) (W:World),(restore w l W).heap.size=W.heap.size:=by
 intro l
 induction l with
 |nil=>intro W;rfl
 |cons b r ih=>
  intro W
  simp only[restore]
  rw[ih]
  split
  ·simp
  ·rfl
theorem restore_world (w:World):∀ (l:List Nat) (W:World),∃H,restore w l W={W with heap:=H}:=by
 intro l
 induction l with
 |nil=>intro W;exact⟨W.heap,rfl⟩
 |cons b r ih=>
  intro W
  simp only[restore]
  split
  ·obtain⟨H,h⟩:=ih (W.setRow b _)
   exact⟨H,by rw[h];rfl⟩
  ·exact ih W
theorem restore_other (w:World) {b:Nat}:∀ (l:List Nat) (W:World),b∉l->(restore w l W).heap[b]?=W.heap[b]?:=by
 intro l
 induction l with
 |nil=>intro W _;rfl
 |cons c r ih=>
  intro W h
  simp only[A9,not_or] at h
  simp only[restore]
  rw[ih _ h.2]
  split
  ·exact setRow_other W _ _ _ h.1
  ·rfl
theorem restore_at (w:World) {b:Nat} {c:Array Value} {e:TypeId} (hw:w.heap[b]?=some (.cells c e (0,0))):∀ (l:List Nat) (W:World) {c':Array Value},W.heap[b]?=some (.cells c' e (0,0))->b∈l->(restore w l W).heap[b]?=some (.cells c e (0,0)):=by
 intro l
 induction l with
 |nil=>intro W c' _ h;cases h
 |cons d r ih=>
  intro W c' hW h
  simp only[restore]
  by_cases hd:d=b
  ·subst hd
   rw[hw]
   have h1:=setRow_heap W d c' c e (0,0) hW
   by_cases hr:d∈r
   ·exact ih _ h1 hr
   ·rw[restore_other w r _ hr];exact h1
  ·have hr:b∈r:=by
    rcases A9.1 h with h|h
    ·exact absurd h.symm hd
    ·exact h
   refine ih _ (c':=c') ?_ hr
   split
   ·rw[setRow_other W _ _ _ (fun h=>hd h.symm)];exact hW
   ·exact hW
theorem footM_mem:∀ {ks:List AK} {fs:List Foot} {b o:Nat},footM ks fs b o->b∈rowsOf fs\/∃p∈placesOf fs,p.1=b:=by
 intro ks
 induction ks with
 |nil=>intro fs b o h;cases fs<;>exact h.elim
 |cons k ks ih=>
  intro fs b o h
  cases fs with
  |nil=>exact h.elim
  |cons f fs=>
   rcases h with h|⟨p,h1,h2,_⟩|h
   ·left
    show b∈f.rows.filterMap id++rowsOf fs
    exact AB _ (Af.2 ⟨some b,h,rfl⟩)
   ·right
    exact⟨p,by simp[placesOf,h1],h2⟩
   ·rcases ih h with h|⟨p,h1,h2⟩
    ·left
     show b∈f.rows.filterMap id++rowsOf fs
     exact A6 _ h
    ·right
     refine⟨p,?_,h2⟩
     simp only[placesOf,Av] at h1 ⊢
     cases f.place with
     |none=>exact h1
     |some q=>exact A5 _ h1
theorem Fr.compose {M M':Nat->Nat->Prop} {w0 w w':World} (h:Fr M w0 w) (k:Fr M' w w') (hm:∀b,b<w0.heap.size->(∃o,M' b o)->∀o,M b o):Fr M w0 w':=by
 refine⟨k.os.trans h.os,k.tape.trans h.tape,k.output.trans h.output,B1 h.size k.size,fun b hb=>?_⟩
 rcases k.block b (AX hb h.size) with h1|⟨c,c',e,h1,h2,h3,h4⟩
 ·rw[h1];exact h.block b hb
 ·by_cases hM:∃o,M' b o
  ·have hall:=hm b hb hM
   rcases h.block b hb with q1|⟨d,d',e',q1,q2,q3,q4⟩
   ·exact .inr ⟨c,c',e,by rw[<-q1];exact h1,h2,h3,fun o ho=>absurd (hall o) ho⟩
   ·rw[h1] at q2
    simp only[A4,Obj.cells.injEq,and_true] at q2
    obtain⟨rfl,rfl⟩:=q2
    exact .inr ⟨d,c',e,q1,h2,h3.trans q3,fun o ho=>absurd (hall o) ho⟩
  ·have:c'=c:=by
    apply AY
    intro o
    exact h4 o (fun h=>hM ⟨o,h⟩)
   subst this
   rw[h2,<-h1]
   exact h.block b hb
theorem mid_ok (hr:RelE X E σ A0 w) {ks:List AK} {fs:List Foot} {w':World} (hfr:Fr (footM ks fs) w w') (hrow:∀b∈rowsOf fs,b∈E.out) (hplace:∀p∈placesOf fs,p.1∈owned E σ/\p.1∉E.out/\∃c e,w.heap[p.1]?=some (.cells c e (0,0))) {l:List Nat} (hl:l.Nodup)
  (hlm:∀b∈l,(b∈rowsOf fs\/w.heap.size<=b)/\b<w'.heap.size):
  RelE X (E.outs l) σ A0 (restore w ((placesOf fs).map (·.1)) w')/\Keep w (restore w ((placesOf fs).map (·.1)) w') (Fz X E σ w) (Fz X (E.outs l) σ (restore w ((placesOf fs).map (·.1)) w')) E (E.outs l) σ σ/\
   (∀p∈placesOf fs,(restore w ((placesOf fs).map (·.1)) w').heap[p.1]?=w.heap[p.1]?)/\
   ∀b,b∈rowsOf fs\/w.heap.size<=b->b<w'.heap.size->b∉l->Fz X (E.outs l) σ (restore w ((placesOf fs).map (·.1)) w') b:=by
 have hsize:=restore_size w ((placesOf fs).map (·.1)) w'
 have hat:∀p∈placesOf fs,(restore w ((placesOf fs).map (·.1)) w').heap[p.1]?=w.heap[p.1]?:=by
  intro p hp
  obtain⟨h1,h2,c,e,h3⟩:=hplace p hp
  have hlt:=(hr.lt _ h1).1
  rw[h3]
  rcases hfr.block p.1 hlt with q|⟨d,d',e',q1,q2,_⟩
  ·exact restore_at w h3 _ w' (c':=c) (q.trans h3) (AC.2 ⟨p,hp,rfl⟩)
  ·rw[h3] at q1
   simp only[A4,Obj.cells.injEq,and_true] at q1
   obtain⟨rfl,rfl⟩:=q1
   exact restore_at w h3 _ w' q2 (AC.2 ⟨p,hp,rfl⟩)
 have hsame:∀b,b<w.heap.size->b∉rowsOf fs->(restore w ((placesOf fs).map (·.1)) w').heap[b]?=w.heap[b]?:=by
  intro b hb hnr
  by_cases hp:∃p∈placesOf fs,p.1=b
  ·obtain⟨p,hp,rfl⟩:=hp
   exact hat p hp
  ·rw[restore_other w _ w' (fun h=>by obtain⟨p,hp',he⟩:=AC.1 h;exact hp ⟨p,hp',he⟩)]
   rcases hfr.block b hb with q|⟨c,c',e,q1,q2,q3,q4⟩
   ·exact q
   ·have:c'=c:=by
     apply AY
     intro o
     exact q4 o (fun h=>by
      rcases footM_mem h with h|h
      ·exact hnr h
      ·exact hp h)
    rw[q2,this,q1]
 obtain⟨H,hH⟩:=restore_world w ((placesOf fs).map (·.1)) w'
 have hfr2:Fr X.M X.w0 (restore w ((placesOf fs).map (·.1)) w'):=by
  have k:Fr (fun b _=>b∈rowsOf fs) w (restore w ((placesOf fs).map (·.1)) w'):=by
   refine⟨by rw[hH];exact hfr.os,by rw[hH];exact hfr.tape,by rw[hH];exact hfr.output,by rw[hsize];exact hfr.size,fun b hb=>?_⟩
   by_cases hbr:b∈rowsOf fs
   ·have hnp:b∉(placesOf fs).map (·.1):=fun h=>by
     obtain⟨p,hp',he⟩:=AC.1 h
     exact(hplace p hp').2.1 (he▸hrow b hbr)
    rw[restore_other w _ w' hnp]
    rcases hfr.block b hb with q|⟨c,c',e,q1,q2,q3,_⟩
    ·exact .inl q
    ·exact .inr ⟨c,c',e,q1,q2,q3,fun o ho=>absurd hbr ho⟩
   ·exact .inl (hsame b hb hbr)
  refine hr.fr.compose k (fun b hb ⟨_,h⟩=>?_)
  rcases hr.srco b (hrow b h) with h1|h1
  ·exact hr.fpm b h1
  ·omega
 have hw:=hr.world (w1:=restore w ((placesOf fs).map (·.1)) w') (l:=l) (fun b hb hno=>hsame b hb (fun h=>hno (hrow b h))) hfr2 (by rw[hsize];exact hfr.size) hl (fun b hb=>⟨(hlm b hb).1.imp (hrow b) id,by rw[hsize];exact(hlm b hb).2⟩)
 refine⟨hw.1,hw.2,hat,fun b hb hlt hnl=>?_⟩
 have hok:X.ok b:=by
  rcases hb with h|h
  ·exact(hr.lt b (mem_out hr (hrow b h))).2
  ·exact hr.new b (B1 hr.fr.size h)
 refine⟨hok,by rw[hsize];exact hlt,fun h=>?_⟩
 have hn:=hr.nodup
 simp only[owned] at hn
 rcases AU.1 h with h|h
 ·obtain⟨q,hq,rfl⟩:=AC.1 h
  rcases hb with hb|hb
  ·exact bx_out hr hq (hrow _ hb) rfl
  ·have h1:=(hr.lt _ (mem_owned_bx hq)).1
   have h2:w.heap.size<=(E.ad q.id).1:=hb
   omega
 ·rcases AU.1 h with h|h
  ·obtain⟨τ,hτ,hb'⟩:=AW.1 h
   have hb2:E.hd τ=some b:=by
    have:b∈(E.hd τ).toList:=hb'
    simpa using this
   rcases hb with hb|hb
   ·exact al_out hr hτ hb2 (hrow _ hb)
   ·have:=(hr.lt _ (mem_owned_al hτ hb2)).1;omega
  ·exact hnl h
end
end Go.Proofs.YtacbkfginiknaaaDoor.V
namespace Go.Proofs.YtacbkfginiknaaaDoor.V
open Go
section
variable {P:Program} {X:Ctx} {E:Env} {σ:St} {A0:Array Value} {a:Act} {w:World} {o:Oper} {R:Type}
theorem rf_any {w W:World} {A A':Nat->Prop}:∀ {t:Ty} {v:t.den} {cs:List Value},t.nl=0->Rf w A t v cs->Rf W A' t v cs:=by
 intro t
 induction t with
 |int k=>intro v cs _ h;exact h
 |bool=>intro v cs _ h;exact h
 |str=>intro v cs _ h;exact h
 |unit=>intro v cs _ h;exact h
 |pair a b iha ihb=>
  intro v cs hn h;obtain⟨c1,c2,e,h1,h2⟩:=h
  simp only[Ty.nl] at hn
  exact⟨c1,c2,e,iha (by omega) h1,ihb (by omega) h2⟩
 |st t ih=>intro v cs hn h;exact ih hn h
 |arr n t ih=>intro v cs _ h;exact⟨h.1,h.2.1,fun i x hx=>ih h.2.2.2 (h.2.2.1 i x hx),h.2.2.2⟩
 |sl e t _=>intro v cs hn h;simp[Ty.nl] at hn
theorem Ow.move {w W:World} {A A':Nat->Prop}:∀ {t:Ty} {v:t.den} {cs:List Value} {bs:List (Option Nat)},bs.length=t.nl->(∀b,some b∈bs->W.heap[b]?=w.heap[b]?)->(t.deep=false\/∀b,A b->A' b/\W.heap[b]?=w.heap[b]?)->
  Ow w A t v cs bs->Ow W A' t v cs bs:=by
 intro t
 induction t with
 |int k=>intro v cs bs _ _ _ h;exact h
 |bool=>intro v cs bs _ _ _ h;exact h
 |str=>intro v cs bs _ _ _ h;exact h
 |unit=>intro v cs bs _ _ _ h;exact h
 |pair a b iha ihb=>
  intro v cs bs hl hb hA h;obtain⟨c1,c2,e,h1,h2⟩:=h
  simp only[Ty.nl] at hl
  have hA1:a.deep=false\/∀b,A b->A' b/\W.heap[b]?=w.heap[b]?:=hA.imp (fun h=>by simp only[Ty.deep,AG] at h;exact h.1) id
  have hA2:b.deep=false\/∀b,A b->A' b/\W.heap[b]?=w.heap[b]?:=hA.imp (fun h=>by simp only[Ty.deep,AG] at h;exact h.2) id
  exact⟨c1,c2,e,iha (by simp;omega) (fun x hx=>hb x (Ao hx)) hA1 h1,ihb (by simp;omega) (fun x hx=>hb x (Aq hx)) hA2 h2⟩
 |st t ih=>intro v cs bs hl hb hA h;exact ih hl hb hA h
 |arr n t _=>intro v cs bs _ _ _ h;exact⟨h.1,h.2.1,fun i x hx=>rf_any h.2.2.2 (h.2.2.1 i x hx),h.2.2.2⟩
 |sl e t _=>
  intro v cs bs hl hb hA h
  obtain⟨cap,css,e1,h1,h2⟩:=h
  match bs,hl with
  |[g],_=>
   refine⟨cap,css,e1,⟨h1.1,?_⟩,fun i x hx=>?_⟩
   ·rcases h1.2 with h|⟨b,cap',cur,q1,q2,q3,q4⟩
    ·exact .inl h
    ·refine .inr ⟨b,cap',cur,q1,q2,?_,q4⟩
     have hg:g=some b:=by
      cases g with
      |none=>simp at q1
      |some b'=>simp at q1;rw[q1.1]
     rw[hb b (by rw[hg];simp)]
     exact q3
   ·rcases hA with hA|hA
    ·simp only[Ty.deep,BC,beq_iff_eq] at hA
     exact rf_any hA (h2 i x hx)
    ·exact(h2 i x hx).mono (fun b hb=>(hA b hb).1) (fun b hb=>(hA b hb).2)
theorem adopt_valP (hr:RelE X E σ A0 w) {t:Ty} {v:t.den} {cs:List Value} {bs:List (Option Nat)} {l:List Nat} (ho:E.out=bs.filterMap id++l) (hl:bs.length=t.nl) (hv:Ow w (Fz X E σ w) t v cs bs):
  ∃E',RelE X E' (σ.more t.nl) A0 w/\Keep w w (Fz X E σ w) (Fz X E' (σ.more t.nl) w) E E' σ (σ.more t.nl)/\E'.out=l/\E'.pin=E.pin/\E'.ad=E.ad/\Rv w (Fz X E' (σ.more t.nl) w) E' (σ.more t.nl) t v (σ.new t.nl) cs/\(σ.new t.nl).length=t.nl:=by
 obtain⟨E',q1,q2,q3,q4,q5,q6,q7,q8,q9,q10,q11⟩:=adopt_ok bs hr ho
 rw[hl] at q1 q2 q6 q7 q11
 refine⟨E',q1,q2,q3,q5,q4,rv_of_ow (bs:=bs) (fun i τ hτ=>?_) (by simp[St.new]) hl (hv.monoA (fun b hb=>(q2.A b hb).1)),by simp[St.new]⟩
 have hi:i<t.nl:=by have:=(Ar.1 hτ).1;simpa[St.new] using this
 have hτ':τ=σ.nt+i:=by
  simp only[St.new] at hτ
  rw[List.getElem?_range' (by omega)] at hτ
  simp at hτ
  omega
 subst hτ'
 have hb:bs[i]?=some bs[i]:=AN (by omega)
 obtain⟨k1,k2⟩:=q11 i _ hb
 obtain⟨k3,k4,k5⟩:=q1.alr _ k2
 exact⟨k3,k4,k5,by rw[hb,k1]⟩
theorem adopt_val (hr:RelE X E σ A0 w) {t:Ty} {v:t.den} {cs:List Value} {bs:List (Option Nat)} {l:List Nat} (ho:E.out=bs.filterMap id++l) (hl:bs.length=t.nl) (hv:Ow w (Fz X E σ w) t v cs bs):
  ∃E',RelE X E' (σ.more t.nl) A0 w/\Keep w w (Fz X E σ w) (Fz X E' (σ.more t.nl) w) E E' σ (σ.more t.nl)/\E'.out=l/\Rv w (Fz X E' (σ.more t.nl) w) E' (σ.more t.nl) t v (σ.new t.nl) cs/\(σ.new t.nl).length=t.nl:=by
 obtain⟨E',q1,q2,q3,_,_,q4,q5⟩:=adopt_valP hr ho hl hv
 exact⟨E',q1,q2,q3,q4,q5⟩
def PlacesOk (w w':World):List AK->List Foot->Prop
 |a::r,f::fs=>(∀b o,f.place=some (b,o)->∃c c' e,w.heap[b]?=some (.cells c e (0,0))/\w'.heap[b]?=some (.cells c' e (0,0))/\c'.size=c.size/\∀j,¬ (o<=j/\j<o+a.ty.size)->c'[j]?=c[j]?)/\PlacesOk w w' r fs
 |_,_=>True
def PlaceArg:List AK->List Value->List Foot->Prop
 |a::r,u::us,f::fs=>(match a with| .pio _| .mu _=>∃b o,f.place=some (b,o)/\u= .pointer (some ⟨b,o,none⟩)|_=>f.place=none)/\PlaceArg r us fs
 |_,_,_=>True
def NoMu:List AK->Prop
 |[]=>True
 |_::r=>True/\NoMu r
theorem flatB_cons (b:List (Option Nat)) (r:List (List (Option Nat))):flatB (b::r)=b.filterMap id++flatB r:=rfl
def HomeAt (W:World) (E:Env) (A0:Array Value) (σ:St) (t:Ty) (s:Slot) (u:Value):Prop:=
 ∀x h y cs,s= .val x (some h)->σ.root h.root=some y->RootCells W E A0 h.root y.t cs->cs.length=y.t.size->(∀i∈mirL σ y,A0[i]?=some (toVal y.t cs))/\
  ∀d c,(∀b o,addr y.t (b,o) h.path=some (t,(b,o+d)))->u=toVal t c->c.length=t.size->(cs.drop d).take t.size=c
def HomesAt (W:World) (E:Env) (A0:Array Value) (σ:St):List AK->List Slot->List Value->Prop
 |a::r,s::ss,u::us=>(match a with| .io t=>HomeAt W E A0 σ t s u|_=>True)/\HomesAt W E A0 σ r ss us
 |_,_,_=>True
def IoB:List AK->Prop
 |[]=>True
 |a::r=>ioR a r=true/\IoB r
theorem noIo_of:∀ {ks:List AK},noOut ks=true->noIo ks=true:=by
 intro ks
 induction ks with
 |nil=>intro _;rfl
 |cons c ks ih=>intro h;cases c<;>simp only[noOut,noIo] at h ⊢<;>first|exact ih h|cases h
theorem homes_noIo {W:World} {E:Env} {σ:St}:∀ {ks:List AK} {ss:List Slot} {us:List Value},noIo ks=true->HomesAt W E A0 σ ks ss us:=by
 intro ks
 induction ks with
 |nil=>intro ss us _;cases ss<;>cases us<;>trivial
 |cons c ks ih=>
  intro ss us h
  cases ss with
  |nil=>trivial
  |cons s ss=>
   cases us with
   |nil=>trivial
   |cons u us=>cases c<;>simp only[noIo] at h<;>first|exact⟨trivial,ih h⟩|cases h
theorem more_fr {σ:St}:∀ {n:Nat},(σ.more n).fr=σ.fr/\(σ.more n).bx=σ.bx:=by
 intro n
 induction n with
 |zero=>exact⟨rfl,rfl⟩
 |succ n ih=>exact ih
theorem mir_ok {y:Val} {cs:List Value}:∀ {l:List Nat} {σ:St},RelE X E σ A0 w->Rv w (Fz X E σ w) E σ y.t y.v y.ms cs->y.ms.length=y.t.nl->(∀i∈l,A0[i]?=some (toVal y.t cs))->
  RelE X E (mirPut l y σ) A0 w/\Keep w w (Fz X E σ w) (Fz X E (mirPut l y σ) w) E E σ (mirPut l y σ):=by
 intro l
 induction l with
 |nil=>intro σ hr _ _ _;exact⟨hr,hr.keep⟩
 |cons i l ih=>
  intro σ hr hv hl hA
  have hs:SlotOk w (Fz X E σ w) E σ (.val y (some ⟨.tmp i,[]⟩)) (toVal y.t cs):=⟨cs,hv,rfl,hl⟩
  have h1:=hr.set i hs
  have e:A0.setIfInBounds i (toVal y.t cs)=A0:=by
   have hi:=hA i A7
   apply AY
   intro j
   by_cases hj:i=j
   ·subst hj
    rw[AE (AL.1 hi).1,hi]
   ·rw[Aw hj]
  rw[e] at h1
  have K:Keep w w (Fz X E σ w) (Fz X E {σ with fr:=σ.fr.set i (.val y (some ⟨.tmp i,[]⟩))} w) E E σ {σ with fr:=σ.fr.set i (.val y (some ⟨.tmp i,[]⟩))}:=
   ⟨fun _ h=>⟨h,rfl⟩,Au _,fun _ _=>rfl,fun _ _=>rfl,fun _ _ h=>.inl h,fun _ _ h=>⟨h,fun _ _=>rfl⟩,hr.ge,fun _ h=>⟨h,rfl⟩⟩
  obtain⟨g1,g2⟩:=ih h1 (K.rv hv) hl (fun j hj=>hA j (A5 _ hj))
  exact⟨g1,K.trans g2⟩
theorem more_root {σ:St} {r:Root} {n:Nat}:(σ.more n).root r=σ.root r:=by
 have h:(σ.more n).fr=σ.fr/\(σ.more n).bx=σ.bx:=more_fr
 cases r with
 |tmp i=>simp only[St.root,h.1]
 |bx id=>simp only[St.root,St.find,h.2]
theorem putBack_ok {w w':World} {AF:Nat->Prop} {sh:Bool}:∀ {ks:List AK} {ss:List Slot} {us:List Value} {fs:List Foot} {bo:List (List (Option Nat))} {y:Tup (outsOf ks)} {E:Env} {σ:St} {W:World} {l:List Nat} {k:St->Option R} {r:R},
  NoMu ks->IoB ks->HomesAt W E a.tmps σ ks ss us->RelE X E σ a.tmps W->E.out=flatB bo++l->ss.length=us.length->(∀ (i:Nat) s u,ss[i]?=some s->us[i]?=some u->SlotOk W (Fz X E σ W) E σ s u)->
  OutsOk w' AF ks y us fs bo->PlaceArg ks us fs->PlacesOk w w' ks fs->((placesOf fs).map (·.1)).Nodup->(∃H,W={w' with heap:=H})->
  (∀b,b∉(placesOf fs).map (·.1)->W.heap[b]?=w'.heap[b]?)->(∀p∈placesOf fs,W.heap[p.1]?=w.heap[p.1]?)->(∀b∈flatB bo,b∉(placesOf fs).map (·.1))->
  (sharesO ks=false\/∀b,AF b->Fz X E σ W b/\b∉(placesOf fs).map (·.1))->putBackK ks ss y σ k=some r->
  ∃σ' E',k σ'=some r/\RelE X E' σ' a.tmps w'/\E'.out=l/\Keep W w' (Fz X E σ W) (Fz X E' σ' w') E E' σ σ':=by
 intro ks
 induction ks with
 |nil=>
  intro ss us fs bo y E σ W l k r _ _ _ hr ho hln hs hout hpa hpl hnd hH hsame hold hrow hA h
  have e1:us=[]/\fs=[]/\bo=[]:=by
   cases us<;>cases fs<;>cases bo<;>first|exact⟨rfl,rfl,rfl⟩|exact hout.elim
  obtain⟨rfl,rfl,rfl⟩:=e1
  have e2:ss=[]:=AR hln
  subst e2
  have hW:W=w':=by
   obtain⟨H,rfl⟩:=hH
   have:H=w'.heap:=by
    apply AY
    intro i
    exact hsame i (by simp[placesOf])
   rw[this]
  subst hW
  exact⟨σ,E,by simpa[putBackK] using h,hr,by simpa[flatB] using ho,hr.keep⟩
 |cons b ks ih=>
  intro ss us fs bo y E σ W l k r hmu hio hhome hr ho hln hs hout hpa hpl hnd hH hsame hold hrow hA h
  cases us with
  |nil=>exact hout.elim
  |cons u us=>
   cases ss with
   |nil=>simp at hln
   |cons s ss=>
    cases fs with
    |nil=>exact hout.elim
    |cons f fs=>
     cases bo with
     |nil=>exact hout.elim
     |cons bs bo=>
      obtain⟨ho1,ho2⟩:=hout
      simp only[putBackK] at h
      rw[flatB_cons] at ho hrow
      have hs':∀ (i:Nat) s u,ss[i]?=some s->us[i]?=some u->SlotOk W (Fz X E σ W) E σ s u:=fun i s' u' h1 h2=>hs (i+1) s' u' h1 h2
      cases b with
      |mu t=>
       obtain⟨rfl,b,q,cs,hu,hv,hat⟩:=ho1
       obtain⟨⟨b1,q1,hp1,hp2⟩,hpa'⟩:=hpa
       rw[hu] at hp2
       simp only[Value.pointer.injEq,A4,Addr.mk.injEq,and_true] at hp2
       obtain⟨rfl,rfl⟩:=hp2
       have hpls:placesOf (f::fs)=(b,q)::placesOf fs:=by simp[placesOf,hp1]
       rw[hpls] at hnd hsame hold hrow hA
       simp only[Ad,A9,not_or,AV] at hnd hsame hold hrow hA
       have hv':Rf W (Fz X E σ W) t (Tup.fst (a:=(AK.mu t).outs) (b:=outsOf ks) y) cs:=by
        rcases hA with hA|hA
        ·simp only[sharesO,AG,BC,beq_iff_eq] at hA
         exact rf_any hA.1.1 hv
        ·exact hv.mono (fun b hb=>(hA b hb).1) (fun b hb=>hsame b (hA b hb).2)
       have h':writeK σ s ⟨t,(Tup.fst (a:=(AK.mu t).outs) (b:=outsOf ks) y:t.den),List.replicate t.nl 0⟩ (fun σ=>putBackK ks ss (Tup.snd (a:=(AK.mu t).outs) (b:=outsOf ks) y) σ k)=some r:=h
       obtain⟨b',f',cur,e,σ2,E2,g1,g2,g3,g4,g5,g6,g7⟩:=write_ok hr (hs 0 s u rfl rfl) (x:=⟨t,(Tup.fst (a:=(AK.mu t).outs) (b:=outsOf ks) y:t.den),List.replicate t.nl 0⟩) (rv_of_rf (by have:=hr.nt2;omega) (fun h=>by have:=(hr.alr 0 h).1;omega) hv') (by simp) h'
       rw[hu] at g1
       simp only[Value.pointer.injEq,A4,Addr.mk.injEq,and_true] at g1
       obtain⟨rfl,rfl⟩:=g1
       obtain⟨c,c',e',k1,k2,k3,k4⟩:=hpl.1 b q hp1
       have hWb:=hold (b,q) (.inl rfl)
       dsimp only at hWb
       rw[k1,g2] at hWb
       simp only[A4,Obj.cells.injEq,and_true] at hWb
       obtain⟨rfl,rfl⟩:=hWb
       have hlen:cs.length=t.size:=hv.length
       have hsp:splice cur q cs=c':=by
        apply AY
        intro j
        rw[splice_get g3]
        by_cases hj1:j<q
        ·rw[if_pos hj1,k4 j (by omega)]
        ·rw[if_neg hj1]
         by_cases hj2:j<q+cs.length
         ·rw[if_pos hj2]
          have hj3:j-q<cs.length:=by omega
          have:=hat (j-q) _ (AN hj3)
          rw[cell_of_row w' b _ c' e _ k2] at this
          rw[AN hj3,<-this]
          congr 1;omega
         ·rw[if_neg hj2,k4 j (by show ¬ (q<=j/\j<q+t.size);omega)]
       have hnew:(W.setRow b (splice cur q cs)).heap[b]?=w'.heap[b]?:=by rw[setRow_heap W b cur _ e _ g2,hsp,k2]
       have hsame2:∀b2,b2∉(placesOf fs).map (·.1)->(W.setRow b (splice cur q cs)).heap[b2]?=w'.heap[b2]?:=by
        intro b2 hb2
        by_cases hb:b2=b
        ·subst hb;exact hnew
        ·rw[setRow_other W _ _ _ hb];exact hsame b2 ⟨hb,hb2⟩
       obtain⟨σ',E',z1,z2,z3,z4⟩:=ih hmu.2 hio.2 (homes_noIo hio.1) g5 (g7.trans (by simpa using ho)) (by simpa using hln) (fun i s' u' h1 h2=>g6.slot (hs' i s' u' h1 h2)) ho2 hpa' hpl.2 hnd.2
        (by obtain⟨H,rfl⟩:=hH;exact⟨_,rfl⟩) hsame2 (fun p hp=>by rw[setRow_other W _ _ _ (fun he=>hnd.1 (AC.2 ⟨p,hp,he⟩))];exact hold p (.inr hp))
        (fun x hx=>(hrow x (A6 _ hx)).2)
        (by
         rcases hA with hA|hA
         ·left
          simp only[sharesO,AG] at hA
          exact hA.2
         ·exact .inr fun x hx=>⟨(g6.A x (hA x hx).1).1,(hA x hx).2.2⟩) g4
       exact⟨σ',E',z1,z2,z3,g6.trans z4⟩
      |pio t=>
       obtain⟨hbl,b,q,cs,hu,hv,hat⟩:=ho1
       obtain⟨⟨b1,q1,hp1,hp2⟩,hpa'⟩:=hpa
       rw[hu] at hp2
       simp only[Value.pointer.injEq,A4,Addr.mk.injEq,and_true] at hp2
       obtain⟨rfl,rfl⟩:=hp2
       have hpls:placesOf (f::fs)=(b,q)::placesOf fs:=by simp[placesOf,hp1]
       rw[hpls] at hnd hsame hold hrow hA
       simp only[Ad,A9,not_or,AV] at hnd hsame hold hrow hA
       have hdeep:t.deep=false\/∀b,AF b->Fz X E σ W b/\W.heap[b]?=w'.heap[b]?:=by
        rcases hA with hA|hA
        ·left
         simp only[sharesO,AK.outs,Bm,Bp,Bn,BK,AG] at hA
         exact hA.1
        ·exact .inr fun b hb=>⟨(hA b hb).1,hsame b (hA b hb).2⟩
       have hv':=hv.move (W:=W) (A':=Fz X E σ W) hbl (fun x hx=>hsame x (hrow x (AB _ (Af.2 ⟨some x,hx,rfl⟩)))) hdeep
       rw[AO] at ho
       have h':writeK (σ.more t.nl) s ⟨t,(Tup.fst (a:=(AK.pio t).outs) (b:=outsOf ks) y:t.den),σ.new t.nl⟩ (fun σ=>putBackK ks ss (Tup.snd (a:=(AK.pio t).outs) (b:=outsOf ks) y) σ k)=some r:=h
       obtain⟨E1,r1,K1,r2,r3,r4⟩:=adopt_val hr ho hbl hv'
       obtain⟨b',f',cur,e,σ2,E2,g1,g2,g3,g4,g5,g6,g7⟩:=write_ok r1 (K1.slot (hs 0 s u rfl rfl)) (x:=⟨t,(Tup.fst (a:=(AK.pio t).outs) (b:=outsOf ks) y:t.den),σ.new t.nl⟩) r3 r4 h'
       rw[hu] at g1
       simp only[Value.pointer.injEq,A4,Addr.mk.injEq,and_true] at g1
       obtain⟨rfl,rfl⟩:=g1
       obtain⟨c,c',e',k1,k2,k3,k4⟩:=hpl.1 b q hp1
       have hWb:=hold (b,q) (.inl rfl)
       dsimp only at hWb
       rw[k1,g2] at hWb
       simp only[A4,Obj.cells.injEq,and_true] at hWb
       obtain⟨rfl,rfl⟩:=hWb
       have hlen:cs.length=t.size:=hv.length
       have hsp:splice cur q cs=c':=by
        apply AY
        intro j
        rw[splice_get g3]
        by_cases hj1:j<q
        ·rw[if_pos hj1,k4 j (by omega)]
        ·rw[if_neg hj1]
         by_cases hj2:j<q+cs.length
         ·rw[if_pos hj2]
          have hj3:j-q<cs.length:=by omega
          have:=hat (j-q) _ (AN hj3)
          rw[cell_of_row w' b _ c' e _ k2] at this
          rw[AN hj3,<-this]
          congr 1;omega
         ·rw[if_neg hj2,k4 j (by show ¬ (q<=j/\j<q+t.size);omega)]
       have hnew:(W.setRow b (splice cur q cs)).heap[b]?=w'.heap[b]?:=by rw[setRow_heap W b cur _ e _ g2,hsp,k2]
       have hsame2:∀b2,b2∉(placesOf fs).map (·.1)->(W.setRow b (splice cur q cs)).heap[b2]?=w'.heap[b2]?:=by
        intro b2 hb2
        by_cases hb:b2=b
        ·subst hb;exact hnew
        ·rw[setRow_other W _ _ _ hb];exact hsame b2 ⟨hb,hb2⟩
       obtain⟨σ',E',z1,z2,z3,z4⟩:=ih hmu.2 hio.2 (homes_noIo hio.1) g5 (g7.trans r2) (by simpa using hln) (fun i s' u' h1 h2=>(K1.trans g6).slot (hs' i s' u' h1 h2)) ho2 hpa' hpl.2 hnd.2
        (by obtain⟨H,rfl⟩:=hH;exact⟨_,rfl⟩) hsame2 (fun p hp=>by rw[setRow_other W _ _ _ (fun he=>hnd.1 (AC.2 ⟨p,hp,he⟩))];exact hold p (.inr hp))
        (fun x hx=>(hrow x (A6 _ hx)).2)
        (by
         rcases hA with hA|hA
         ·left
          simp only[sharesO,AG] at hA
          exact hA.2
         ·exact .inr fun x hx=>⟨((K1.trans g6).A x (hA x hx).1).1,(hA x hx).2.2⟩) g4
       exact⟨σ',E',z1,z2,z3,(K1.trans g6).trans z4⟩
      |io t=>
       obtain⟨hbl,cs,hu,hv⟩:=ho1
       have hpls:placesOf (f::fs)=placesOf fs:=by simp[placesOf,show f.place=none from hpa.1]
       rw[hpls] at hnd hsame hold hrow hA
       have hdeep:t.deep=false\/∀b,AF b->Fz X E σ W b/\W.heap[b]?=w'.heap[b]?:=by
        rcases hA with hA|hA
        ·left
         simp only[sharesO,AK.outs,Bm,Bp,Bn,BK,AG] at hA
         exact hA.1
        ·exact .inr fun b hb=>⟨(hA b hb).1,hsame b (hA b hb).2⟩
       have hv':=hv.move (W:=W) (A':=Fz X E σ W) hbl (fun x hx=>hsame x (hrow x (AB _ (Af.2 ⟨some x,hx,rfl⟩)))) hdeep
       rw[AO] at ho
       obtain⟨E1,r1,K1,r2,r3,r4⟩:=adopt_val hr ho hbl hv'
       cases s with
       |val x hm=>
        cases hm with
        |none=>exact absurd h (by simp[putOne])
        |some hm=>
         have h':homeK (σ.more t.nl) hm ⟨t,(Tup.fst (a:=(AK.io t).outs) (b:=outsOf ks) y:t.den),σ.new t.nl⟩ (fun σ=>putBackK ks ss (Tup.snd (a:=(AK.io t).outs) (b:=outsOf ks) y) σ k)=some r:=h
         unfold homeK at h'
         cases hy:(σ.more t.nl).root hm.root with
         |none=>rw[hy] at h';cases h'
         |some yy=>
          rw[hy] at h'
          simp only at h'
          obtain⟨cr,c1,c2,c3⟩:=root_cells r1 hy
          obtain⟨v2,ms2,d,y1,y2,y3,y4,y5⟩:=set_ok h' c1 c2 (x:=⟨t,(Tup.fst (a:=(AK.io t).outs) (b:=outsOf ks) y:t.den),σ.new t.nl⟩) r3 r4
          have hcl:cs.length=t.size:=hv.length
          have hy0:σ.root hm.root=some yy:=by rw[<-hy,more_root]
          have c3':RootCells W E a.tmps hm.root yy.t cr:=by
           revert hy0 c3
           cases hm.root with
           |tmp i=>exact fun c3 _=>c3
           |bx id=>
            intro c3 hy0
            have hlt:=hr.idlt _ (find_mem hy0)
            have e1:E1.ad id=E.ad id:=K1.ad id hlt
            simp only[RootCells,e1] at c3 ⊢
            exact c3
          obtain⟨hmir,hseg⟩:=hhome.1 x hm yy cr rfl hy0 c3' c1.length
          have hseg:=hseg d cs y5 hu hcl
          have hcs:cr.take d++cs++cr.drop (d+cs.length)=cr:=by
           have h3:cr.take d++((cr.drop d).take t.size)++cr.drop (d+((cr.drop d).take t.size).length)=cr:=by
            have:((cr.drop d).take t.size).length=t.size:=by rw[hseg];exact hcl
            rw[this,AO,<-Bk,B3,B3]
           rwa [hseg] at h3
          rw[hcs] at y2
          have hfin0:=r1.setRootSame hy c3 y2 y3
          have hmirE:mirL (σ.more t.nl) yy=mirL σ yy:=by unfold mirL;rw[more_fr.1]
          rw[hmirE] at y1
          have hfin1:=mir_ok (y:=⟨yy.t,v2,ms2⟩) hfin0.1 (hfin0.2.rv y2) y3 hmir
          have hfin:_/\_:=⟨hfin1.1,hfin0.2.trans hfin1.2⟩
          obtain⟨σ',E',z1,z2,z3,z4⟩:=ih hmu.2 hio.2 (homes_noIo (noIo_of hio.1)) hfin.1 r2 (by simpa using hln) (fun i s' u' h1 h2=>(K1.trans hfin.2).slot (hs' i s' u' h1 h2)) ho2 hpa.2 hpl.2 hnd hH hsame hold
           (fun x hx=>hrow x (A6 _ hx))
           (by
            rcases hA with hA|hA
            ·left
             simp only[sharesO,AG] at hA
             exact hA.2
            ·exact .inr fun x hx=>⟨((K1.trans hfin.2).A x (hA x hx).1).1,(hA x hx).2⟩) y1
          exact⟨σ',E',z1,z2,z3,(K1.trans hfin.2).trans z4⟩
       |_=>exact absurd h (by simp[putOne])
      |ro t=>
       have hb0:bs=[]:=ho1
       subst hb0
       have hpls:placesOf (f::fs)=placesOf fs:=by simp[placesOf,show f.place=none from hpa.1]
       rw[hpls] at hnd hsame hold hrow hA
       exact ih hmu.2 hio.2 hhome.2 hr (by simpa using ho) (by simpa using hln) hs' ho2 hpa.2 hpl.2 hnd hH hsame hold (by simpa using hrow) hA h
      |own t=>
       have hb0:bs=[]:=ho1
       subst hb0
       have hpls:placesOf (f::fs)=placesOf fs:=by simp[placesOf,show f.place=none from hpa.1]
       rw[hpls] at hnd hsame hold hrow hA
       exact ih hmu.2 hio.2 hhome.2 hr (by simpa using ho) (by simpa using hln) hs' ho2 hpa.2 hpl.2 hnd hH hsame hold (by simpa using hrow) hA h
      |pin t=>
       have hb0:bs=[]:=ho1
       subst hb0
       have hpls:placesOf (f::fs)=placesOf fs:=by simp[placesOf,show f.place=none from hpa.1]
       rw[hpls] at hnd hsame hold hrow hA
       exact ih hmu.2 hio.2 hhome.2 hr (by simpa using ho) (by simpa using hln) hs' ho2 hpa.2 hpl.2 hnd hH hsame hold (by simpa using hrow) hA h
      |clo g n cs=>
       have hb0:bs=[]:=ho1
       subst hb0
       have hpls:placesOf (f::fs)=placesOf fs:=by simp[placesOf,show f.place=none from hpa.1]
       rw[hpls] at hnd hsame hold hrow hA
       exact ih hmu.2 hio.2 hhome.2 hr (by simpa using ho) (by simpa using hln) hs' ho2 hpa.2 hpl.2 hnd hH hsame hold (by simpa using hrow) hA h
end
end Go.Proofs.YtacbkfginiknaaaDoor.V
namespace Go.Proofs.YtacbkfginiknaaaDoor.V
open Go
section
variable {P:Program} {X:Ctx} {E:Env} {σ:St} {A0:Array Value} {a:Act} {w:World} {o:Oper} {R:Type}
theorem res_ok {AF:Nat->Prop}:∀ {rs:List (Ty×Bool)} {y:Tup (resOf rs)} {vs:List Value} {br:List (List (Option Nat))} {E:Env} {σ:St} {l:List Nat},RelE X E σ A0 w->E.out=flatB br++l->ResOk w AF rs y vs br->
  (sharesR rs=false\/∀b,AF b->Fz X E σ w b)->
  ∃E',RelE X E' (resVals rs y σ).2 A0 w/\Keep w w (Fz X E σ w) (Fz X E' (resVals rs y σ).2 w) E E' σ (resVals rs y σ).2/\(resVals rs y σ).1.length=vs.length/\
   ∀ (i:Nat) x u,(resVals rs y σ).1[i]?=some x->vs[i]?=some u->ValOk w (Fz X E' (resVals rs y σ).2 w) E' (resVals rs y σ).2 x u:=by
 intro rs
 induction rs with
 |nil=>
  intro y vs br E σ l hr ho h _
  cases vs with
  |nil=>exact⟨E,hr,hr.keep,rfl,fun i x u h=>by simp[resVals] at h⟩
  |cons v vs=>cases br<;>exact h.elim
 |cons p rs ih=>
  intro y vs br E σ l hr ho h hA
  obtain⟨t,own⟩:=p
  cases vs with
  |nil=>cases br<;>exact h.elim
  |cons u vs=>
   cases br with
   |nil=>exact h.elim
   |cons bs br=>
    obtain⟨⟨cs,hu,hc⟩,h2⟩:=h
    rw[flatB_cons,AO] at ho
    have hA2:sharesR rs=false\/∀b,AF b->Fz X E σ w b:=hA.imp (fun h=>by simp only[sharesR,AG] at h;exact h.2) id
    cases own with
    |true=>
     obtain⟨hv,hl⟩:=hc
     have hd:t.deep=false\/∀b,AF b->Fz X E σ w b/\w.heap[b]?=w.heap[b]?:=hA.imp (fun h=>by simp only[sharesR,AG] at h;exact h.1.2) (fun h b hb=>⟨h b hb,rfl⟩)
     obtain⟨E1,r1,K1,r2,r3,r4⟩:=adopt_val hr ho hl (hv.move (A':=Fz X E σ w) hl (fun _ _=>rfl) hd)
     obtain⟨E2,q1,q2,q3,q4⟩:=ih (y:=Tup.tl y) r1 r2 h2 (hA2.imp id fun h b hb=>(K1.A b (h b hb)).1)
     refine⟨E2,q1,K1.trans q2,by simpa[resVals] using q3,fun i x u' hx hu'=>?_⟩
     cases i with
     |zero=>
      simp only[resVals,cond_true,Aa,A4] at hx hu'
      subst hx;subst hu'
      exact⟨cs,q2.rv r3,hu,r4⟩
     |succ i=>exact q4 i x u' (by simpa[resVals] using hx) (by simpa using hu')
    |false=>
     obtain⟨hv,hb⟩:=hc
     have hb':bs=[]:=hb
     subst hb'
     have hrf:Rf w (Fz X E σ w) t (Tup.hd y) cs:=by
      rcases hA with hA|hA
      ·simp only[sharesR,AG,BJ,Bo,BC,beq_iff_eq] at hA
       exact rf_any hA.1.1 hv
      ·exact hv.mono hA (fun _ _=>rfl)
     obtain⟨E2,q1,q2,q3,q4⟩:=ih (y:=Tup.tl y) hr (by simpa using ho) h2 hA2
     refine⟨E2,q1,q2,by simpa[resVals] using q3,fun i x u' hx hu'=>?_⟩
     cases i with
     |zero=>
      simp only[resVals,cond_false,Aa,A4] at hx hu'
      subst hx;subst hu'
      exact⟨cs,q2.rv (rv_of_rf (by have:=hr.nt2;omega) (fun h=>by have:=(hr.alr 0 h).1;omega) hrf),hu,by simp⟩
     |succ i=>exact q4 i x u' (by simpa[resVals] using hx) (by simpa using hu')
theorem placeArg_of {A pin:Nat->Prop}:∀ {ks:List AK} {x:Tup (tysOf ks)} {us:List Value} {fs:List Foot},ArgsOk w A pin ks x us fs->PlaceArg ks us fs:=by
 intro ks
 induction ks with
 |nil=>intro x us fs h;cases us<;>cases fs<;>trivial
 |cons b r ih=>
  intro x us fs h
  cases us with
  |nil=>cases fs<;>exact h.elim
  |cons u us=>
   cases fs with
   |nil=>exact h.elim
   |cons f fs=>
    refine⟨?_,ih h.2⟩
    have h1:=h.1
    cases b with
    |ro t=>rw[h1.2]
    |own t=>exact h1.2.2
    |io t=>exact h1.2.2
    |mu t=>obtain⟨b,o,cs,c,e,q1,_,_,_,_,q2⟩:=h1;exact⟨b,o,by rw[q2],q1⟩
    |pin t=>rw[h1.2]
    |clo g n ks=>rw[h1.2]
    |pio t=>obtain⟨b,o,cs,c,e,q1,_,_,_,_,_,q2⟩:=h1;exact⟨b,o,q2,q1⟩
theorem placesOk_of {A pin:Nat->Prop} {M:Nat->Nat->Prop} {w':World} (hfr:Fr M w w'):∀ {ks:List AK} {x:Tup (tysOf ks)} {us:List Value} {fs:List Foot},ArgsOk w A pin ks x us fs->
  (∀b j,(∃p∈placesOf fs,p.1=b)->M b j->footM ks fs b j)->(∀p∈placesOf fs,p.1∉rowsOf fs)->((placesOf fs).map (·.1)).Nodup->PlacesOk w w' ks fs:=by
 intro ks
 induction ks with
 |nil=>intro x us fs h _ _ _;cases fs<;>trivial
 |cons b r ih=>
  intro x us fs h hM hrow hnd
  cases us with
  |nil=>cases fs<;>exact h.elim
  |cons u us=>
   cases fs with
   |nil=>exact h.elim
   |cons f fs=>
    have hsub:∀p∈placesOf fs,p∈placesOf (f::fs):=by
     intro p hp
     simp only[placesOf,Av] at hp ⊢
     cases f.place with
     |none=>exact hp
     |some q=>exact A5 _ hp
    have hrowsub:∀c,c∈rowsOf fs->c∈rowsOf (f::fs):=fun c hc=>A6 _ hc
    refine⟨fun bb oo hp=>?_,ih h.2 (fun b' j hp hm=>?_) (fun p hp hc=>hrow p (hsub p hp) (hrowsub _ hc)) ?_⟩
    ·have hpls:placesOf (f::fs)=(bb,oo)::placesOf fs:=by simp[placesOf,hp]
     rw[hpls] at hnd hrow
     simp only[Ad,AV] at hnd
     have h1:=h.1
     obtain⟨c,e,q5⟩:∃c e,w.heap[bb]?=some (.cells c e (0,0)):=by
      cases b with
      |ro t=>rw[h1.2] at hp;cases hp
      |own t=>rw[show f.place=none from h1.2.2] at hp;cases hp
      |io t=>rw[show f.place=none from h1.2.2] at hp;cases hp
      |mu t=>
       obtain⟨b2,o2,cs,c,e,q1,q2,q3,q5,q6,q7⟩:=h1
       rw[q7] at hp
       simp only[A4,BE] at hp
       obtain⟨rfl,rfl⟩:=hp
       exact⟨c,e,q5⟩
      |pin t=>rw[h1.2] at hp;cases hp
      |clo g n ks=>rw[h1.2] at hp;cases hp
      |pio t=>
       obtain⟨b2,o2,cs,c,e,q1,q2,q3,q4,q5,q6,q7⟩:=h1
       rw[hp] at q7
       simp only[A4,BE] at q7
       obtain⟨rfl,rfl⟩:=q7
       exact⟨c,e,q5⟩
     have hlt:bb<w.heap.size:=(AL.1 q5).1
     have hin:∀j,¬ (oo<=j/\j<oo+b.ty.size)->¬M bb j:=by
      intro j hj hm
      have:=hM bb j ⟨(bb,oo),by rw[hpls];exact A7,rfl⟩ hm
      rcases this with h|⟨p,h1,h2,h3⟩|h
      ·exact hrow (bb,oo) A7 (AB _ (Af.2 ⟨some bb,h,rfl⟩))
      ·rw[hp] at h1
       simp only[A4] at h1
       subst h1
       exact hj h3
      ·rcases footM_mem h with h|⟨p,h1,h2⟩
       ·exact hrow (bb,oo) A7 (hrowsub _ h)
       ·exact hnd.1 (AC.2 ⟨p,h1,h2⟩)
     rcases hfr.block bb hlt with h|⟨d,d',e',h1,h2,h3,h4⟩
     ·exact⟨c,c,e,q5,h.trans q5,rfl,fun _ _=>rfl⟩
     ·exact⟨d,d',e',h1,h2,h3,fun j hj=>h4 j (hin j hj)⟩
    ·obtain⟨p,hp1,rfl⟩:=hp
     have:=hM p.1 j ⟨p,hsub p hp1,rfl⟩ hm
     rcases this with h|⟨q,h1,h2,h3⟩|h
     ·exact(hrow p (hsub p hp1) (AB _ (Af.2 ⟨some p.1,h,rfl⟩))).elim
     ·have hpls:placesOf (f::fs)=q::placesOf fs:=by simp[placesOf,h1]
      rw[hpls] at hnd
      simp only[Ad,AV] at hnd
      exact absurd (AC.2 ⟨p,hp1,h2.symm⟩) hnd.1
     ·exact h
    ·simp only[placesOf,Av] at hnd ⊢
     cases hp:f.place with
     |none=>simpa[hp] using hnd
     |some q=>
      simp only[hp,Ad,AV] at hnd
      exact hnd.2
theorem noMu_of {ex:List (Nat×Nat)} {X:Ctx} {E:Env}:∀ {ks:List AK} {ss:List Slot} {us:List Value} {x:Tup (tysOf ks)} {fs:List Foot},Pends X w E σ ks ss us x fs->lentOk σ ex ks ss=true->NoMu ks:=by
 intro ks
 induction ks with
 |nil=>intro ss us x fs _ _;trivial
 |cons b r ih=>
  intro ss us x fs h hl
  cases ss with
  |nil=>cases us<;>cases fs<;>exact h.elim
  |cons s ss=>
   cases us with
   |nil=>cases fs<;>exact h.elim
   |cons u us=>
    cases fs with
    |nil=>exact h.elim
    |cons f fs=>
     simp only[lentOk,A3] at hl
     exact⟨trivial,ih h.2 hl.2.2⟩
theorem ioB_of {ex:List (Nat×Nat)} {X:Ctx} {E:Env}:∀ {ks:List AK} {ss:List Slot} {us:List Value} {x:Tup (tysOf ks)} {fs:List Foot},Pends X w E σ ks ss us x fs->lentOk σ ex ks ss=true->IoB ks:=by
 intro ks
 induction ks with
 |nil=>intro ss us x fs _ _;trivial
 |cons b r ih=>
  intro ss us x fs h hl
  cases ss with
  |nil=>cases us<;>cases fs<;>exact h.elim
  |cons s ss=>
   cases us with
   |nil=>cases fs<;>exact h.elim
   |cons u us=>
    cases fs with
    |nil=>exact h.elim
    |cons f fs=>
     simp only[lentOk,A3] at hl
     exact⟨hl.2.1,ih h.2 hl.2.2⟩
theorem same_cells {A:Nat->Prop} (h2:∀τ∈σ.al,2<=τ):∀ {t:Ty} {v v':t.den} {ms:List Nat} {c c':List Value},Rv w A E σ t v ms c->Rv w A E σ t v' ms c'->(∀τ∈ms,τ=1\/τ∈σ.al)->ms.length=t.nl->sameK t v v'=true->c=c':=by
 intro t
 induction t with
 |int k=>intro v v' ms c c' h h' _ _ hs;simp only[sameK,decide_eq_true_eq] at hs;subst hs;exact(show c=_ from h).trans (show c'=_ from h').symm
 |bool=>intro v v' ms c c' h h' _ _ hs;simp only[sameK,decide_eq_true_eq] at hs;subst hs;exact(show c=_ from h).trans (show c'=_ from h').symm
 |str=>intro v v' ms c c' h h' _ _ hs;simp only[sameK,decide_eq_true_eq] at hs;subst hs;exact(show c=_ from h).trans (show c'=_ from h').symm
 |unit=>intro v v' ms c c' h h' _ _ _;exact(show c=_ from h).trans (show c'=_ from h').symm
 |st t ih=>intro v v' ms c c' h h' hm hl hs;exact ih (v:=v) (v':=v') h h' hm hl hs
 |arr n t _=>intro v v' ms c c' _ _ _ _ hs;simp[sameK] at hs
 |pair a b iha ihb=>
  intro v v' ms c c' ⟨c1,c2,e,g1,g2⟩ ⟨d1,d2,e',k1,k2⟩ hm hl hs
  simp only[sameK,A3] at hs
  simp only[Ty.nl] at hl
  rw[e,e',iha g1 k1 (fun τ hτ=>hm τ (Ao hτ)) (by simp;omega) hs.1,ihb g2 k2 (fun τ hτ=>hm τ (Aq hτ)) (by simp;omega) hs.2]
 |sl e t _=>
  intro v v' ms c c' ⟨s,e1,hs⟩ ⟨s',e2,hs'⟩ hm hl hk
  simp only[sameK,A3,AJ,beq_eq_false_iff_ne,ne_eq,decide_eq_true_eq] at hk
  obtain⟨hz,hk⟩:=hk
  obtain⟨τ,rfl⟩:∃τ,ms=[τ]:=by
   match ms,hl with
   |[τ],_=>exact⟨τ,rfl⟩
  simp only[BS] at hs hs'
  obtain⟨_,ad,cap,rfl,_,q1,q2,q3⟩:=hs
  obtain⟨_,ad',cap',rfl,_,p1,p2,p3⟩:=hs'
  rw[e1,e2]
  congr 1
  rcases hm τ (List.mem_singleton.2 rfl) with h|h
  ·obtain⟨rfl,rfl,_⟩:=q1 h
   obtain⟨rfl,rfl,_⟩:=p1 h
   rw[hk]
  ·have had:ad=ad':=(q2 (h2 τ h)).trans (p2 (h2 τ h)).symm
   subst had
   obtain⟨css,o1,_⟩:=q3 h
   obtain⟨css',o2,_⟩:=p3 h
   rcases o1.2 with⟨z1,_⟩|⟨g,cp,cur,z1,_,z2,_,_,z3,_⟩
   ·injection z1 with i1 i2 i3
    subst i1;subst i3
    rcases o2.2 with⟨y1,_⟩|⟨g',cp',cur',y1,_⟩
    ·injection y1 with j1 j2 j3
     rw[hk,j3]
    ·injection y1 with j1
     cases j1
   ·injection z1 with i1 i2 i3
    subst i1;subst i3
    rcases o2.2 with⟨y1,_⟩|⟨g',cp',cur',y1,_,y2,_,_,y3,_⟩
    ·injection y1 with j1
     cases j1
    ·injection y1 with j1 j2 j3
     subst j3
     injection j1 with j1
     injection j1 with j1
     subst j1
     rw[z2] at y2
     simp only[A4,Obj.cells.injEq,and_true] at y2
     obtain⟨rfl,_⟩:=y2
     have:cap=cap':=Nat.eq_of_mul_eq_mul_right (Nat.pos_of_ne_zero hz) (z3.symm.trans y3)
     rw[hk,this]
theorem toVal_inj {t:Ty} {c c':List Value} (h:toVal t c=toVal t c') (hc:c.length=t.size) (hc':c'.length=t.size) (h1:t.agg=false->t.size=1):c=c':=by
 unfold toVal at h
 cases ha:t.agg with
 |true=>
  rw[ha] at h
  simp only[if_true,Value.agg.injEq] at h
  exact congrArg Array.toList h
 |false=>
  rw[ha] at h
  simp only[B0,if_false] at h
  have hs:=h1 ha
  match c,c',hc.trans hs,hc'.trans hs with
  |[x],[y],_,_=>simp only[BS] at h;rw[h]
theorem val_one {t:Ty} (h:valK t=true) (ha:t.agg=false):t.size=1:=by
 simp only[valK,ha,BK,beq_iff_eq] at h
 exact h
theorem rootCells_inj {A0:Array Value} {r:Root} {t:Ty} {c c':List Value} (h:RootCells w E A0 r t c) (h':RootCells w E A0 r t c') (hc:c.length=t.size) (hc':c'.length=t.size) (hv:valK t=true):c=c':=by
 cases r with
 |tmp i=>
  simp only[RootCells] at h h'
  rw[h] at h'
  exact toVal_inj (A8 h') hc hc' (val_one hv)
 |bx id=>
  obtain⟨_,_,_,_,g1⟩:=h
  obtain⟨_,_,_,_,g2⟩:=h'
  apply List.ext_getElem (hc.trans hc'.symm)
  intro i h1 h2
  have k1:=g1 i _ (AN h1)
  have k2:=g2 i _ (AN h2)
  rw[k1] at k2
  exact A8 k2
theorem take_alive:∀ {l:List Nat} {σ:St} {R:Type} {k:St->Option R} {r:R},takeK σ l k=some r->∀τ∈l,τ=1\/τ∈σ.al:=by
 intro l
 induction l with
 |nil=>intro σ R k r _ τ h;cases h
 |cons υ l ih=>
  intro σ R k r h τ hτ
  simp only[takeK] at h
  cases h1:υ==1 with
  |true=>
   rw[h1] at h
   rcases A9.1 hτ with rfl|hτ
   ·exact .inl (by simpa using h1)
   ·exact ih h τ hτ
  |false=>
   rw[h1] at h
   simp only[cond_false] at h
   cases h2:σ.al.contains υ with
   |false=>rw[h2] at h;simp at h
   |true=>
    rw[h2] at h
    simp only[cond_true] at h
    rcases A9.1 hτ with rfl|hτ
    ·exact .inr (by simpa using h2)
    ·exact(ih h τ hτ).imp id Ae
theorem mirOk_at {ms:List Nat} {y:Val}:∀ {l:List Nat},mirOk σ ms y l=true->∀i∈l,∃z hm v zs,σ.fr.getD i .no= .val z hm/\cast? y.t z=some (v,zs)/\sameK y.t v y.v=true/\∀τ∈y.ms,τ=1\/τ∈σ.al\/τ∈ms:=by
 intro l
 induction l with
 |nil=>intro _ i hi;cases hi
 |cons j l ih=>
  intro h i hi
  simp only[mirOk,A3] at h
  rcases A9.1 hi with rfl|hi
  ·have h1:=h.1
   split at h1
   ·rename_i z hm hz
    split at h1
    ·rename_i v zs hc
     simp only[A3,AM,AS,beq_iff_eq,B2] at h1
     exact⟨z,hm,v,zs,hz,hc,h1.1,fun τ hτ=>by rcases h1.2 τ hτ with(h|h)|h;exact .inl h;exact .inr (.inl h);exact .inr (.inr h)⟩
    ·cases h1
   ·cases h1
  ·exact ih h.2 i hi
theorem gather_homes {A0:Array Value}:∀ {ks:List AK} {ss:List Slot} {us:List Value} {E:Env} {σ:St} {k:Tup (tysOf ks)->St->Option R} {r:R},RelE X E σ A0 w->ss.length=us.length->
  (∀ (i:Nat) s u,ss[i]?=some s->us[i]?=some u->SlotOk w (Fz X E σ w) E σ s u)->gatherK ks ss σ k=some r->
  ∃x σ1 E1 fs,k x σ1=some r/\RelE X E1 σ1 A0 w/\Gone X w E σ E1 σ1/\E1.out.Perm (rowsOf fs++E.out)/\Pends X w E1 σ1 ks ss us x fs/\∀ex,lentOk σ1 ex ks ss=true->HomesAt w E A0 σ1 ks ss us:=by
 intro ks
 induction ks with
 |nil=>
  intro ss us E σ k r hr hl hs h
  cases ss with
  |nil=>
   have:us=[]:=AR hl.symm
   subst this
   exact⟨(),σ,E,[],h,hr,⟨hr.keep,Same.refl σ,rfl,rfl,rfl⟩,by simp[rowsOf],trivial,fun _ _=>trivial⟩
  |cons s ss=>simp[gatherK] at h
 |cons b ks ih=>
  intro ss us E σ k r hr hl hs h
  cases ss with
  |nil=>simp[gatherK] at h
  |cons s ss=>
   cases us with
   |nil=>simp at hl
   |cons u us=>
    simp only[gatherK] at h
    obtain⟨v,σ2,E2,f,q1,q2,q3,q4,q5⟩:=one_ok hr (hs 0 s u rfl rfl) h
    obtain⟨x,σ1,E1,fs,w1,w2,w3,w4,w5,w6⟩:=ih q2 (by simpa using hl) (fun i s' u' hs' hu'=>q3.K.slot (hs (i+1) s' u' hs' hu')) q1
    have g13:=q3.trans w3
    refine⟨Tup.cons v x,σ1,E1,f::fs,w1,w2,g13,?_,⟨?_,?_⟩,fun ex hlo=>?_⟩
    ·refine w4.trans ?_
     refine(Aj.append_left _ q4).trans ?_
     simp only[rowsOf,BD,<-AO]
     exact Aj.append_right _ An
    ·rw[tup_hd];exact q5.gone w3
    ·rw[tup_tl];exact w5
    simp only[lentOk,A3] at hlo
    have hrest:=w6 ex hlo.2.2
    have hfr:=g13.S.fr
    have hbx:=g13.S.bx
    refine⟨?_,?_⟩
    ·cases b with
     |io t=>
      have hlo1:=hlo.1
      simp only[lendAt,ioAt] at hlo1
      simp only[oneK] at h
      split at hlo1
      ·rename_i x0 hm
       have hs0:=hs 0 _ u rfl rfl
       obtain⟨cu,hcu,hu,hcul⟩:=hs0
       simp only[coe] at h
       cases hc:cast? t x0 with
       |none=>rw[hc] at h;simp at h
       |some p=>
        obtain⟨v0,ms⟩:=p
        rw[hc] at h hlo1
        simp only at h hlo1
        have hx:=cast?_some hc
        subst hx
        have hal:=take_alive h
        have hrt:∀rt,σ1.root rt=σ.root rt:=fun rt=>by
         cases rt with
         |tmp i=>simp only[St.root,hfr]
         |bx id=>simp only[St.root,St.find,hbx]
        cases hrk:rowK σ1 hm (ioZ σ1 t v0 ms) with
        |none=>rw[hrk] at hlo1;cases hlo1
        |some bb=>
         rw[hrk] at hlo1
         simp only[BN] at hlo1
         subst hlo1
         simp only[rowK,hrt] at hrk
         cases hy:σ.root hm.root with
         |none=>rw[hy] at hrk;cases hrk
         |some y=>
          rw[hy] at hrk
          simp only at hrk
          obtain⟨cr,c1,c2,c3⟩:=root_cells (a:=⟨A0,[]⟩) hr hy
          obtain⟨z,d,g1,g2,g3,g4,g5⟩:=get_ok (by have:=hr.nt2;omega) (RelE.z (a:=⟨A0,[]⟩) hr) hrk c1 c2
          unfold ioZ at g1
          cases hcz:cast? t z with
          |none=>rw[hcz] at g1;cases g1
          |some p=>
           obtain⟨v1,ms1⟩:=p
           rw[hcz] at g1
           simp only[A4,A3,decide_eq_true_eq] at g1
           have hz:=cast?_some hcz
           subst hz
           obtain⟨⟨⟨hsame,rfl⟩,hmir⟩,hvy,hvt⟩:=g1
           have h2:∀τ∈σ.al,2<=τ:=fun τ hτ=>(hr.alr τ hτ).1
           have heq:=same_cells h2 hcu g2 hal hcul hsame
           intro x' h' y' cs e1 e2 e3 e4
           simp only[Slot.val.injEq,A4] at e1
           obtain⟨_,rfl⟩:=e1
           rw[hrt,hy] at e2
           have:=A8 e2
           subst this
           have hcc:=rootCells_inj e3 c3 e4 c1.length hvy
           subst hcc
           refine⟨fun i hi=>?_,fun d' c e5 e6 e7=>?_⟩
           ·obtain⟨z,zm,zv,zs,m1,m2,m3,m4⟩:=mirOk_at hmir i hi
            obtain⟨hilt,hma⟩:=List.mem_filter.1 hi
            rw[m1] at hma
            have hzz:=cast?_some m2
            subst hzz
            have hzs:zs=y.ms:=by
             unfold mirAt at hma
             split at hma
             ·rename_i z' j he
              simp only[Slot.val.injEq] at he
              obtain⟨rfl,_⟩:=he
              simp only[A3,decide_eq_true_eq] at hma
              exact hma.2
             ·cases hma
            have hlt:i<σ.fr.length:=by rw[<-hfr];exact Ah.1 hilt
            have hsi:σ.fr[i]?=some (.val ⟨y.t,zv,zs⟩ zm):=by
             rw[<-m1,hfr,B9,AN hlt];rfl
            have hai:i<A0.size:=by rw[<-hr.len];exact hlt
            obtain⟨cz,z1,z2,z3⟩:=hr.slot i _ _ hsi (BB hai)
            subst hzs
            have hal2:∀τ∈y.ms,τ=1\/τ∈σ.al:=fun τ hτ=>by
             rcases m4 τ hτ with h|h|h
             ·exact .inl h
             ·exact .inr (g13.S.al τ h)
             ·exact hal τ h
            have:=same_cells h2 z1 c1 hal2 z3 m3
            rw[BB hai,z2,this]
           ·have hd:=e5 0 0
            rw[g5 0 0] at hd
            simp at hd
            subst hd
            have hcc:=toVal_inj (e6.symm.trans hu) e7 hcu.length (val_one hvt)
            rw[hcc,heq]
      ·cases hlo1
     |_=>trivial
    ·have key:∀ {ks:List AK} {ss:List Slot} {us:List Value},HomesAt w E2 A0 σ1 ks ss us->HomesAt w E A0 σ1 ks ss us:=by
      intro ks
      induction ks with
      |nil=>intro ss us _;cases ss<;>cases us<;>trivial
      |cons c ks ih2=>
       intro ss us hh
       cases ss with
       |nil=>trivial
       |cons s ss=>
        cases us with
        |nil=>trivial
        |cons u us=>
         refine⟨?_,ih2 hh.2⟩
         have h1:=hh.1
         cases c with
         |io t=>
          intro x h y cs e1 e2 e3 e4
          refine h1 x h y cs e1 e2 ?_ e4
          cases hrr:h.root with
          |tmp i=>rw[hrr] at e3;exact e3
          |bx id=>rw[hrr] at e3;simp only[RootCells,q3.ad] at e3 ⊢;exact e3
         |_=>trivial
     exact key hrest
theorem homes_after {A0:Array Value} {W:World} {E':Env} (had:E'.ad=E.ad) (hW:∀b∈σ.bx,W.heap[(E.ad b.id).1]?=w.heap[(E.ad b.id).1]?):∀ {ks:List AK} {ss:List Slot} {us:List Value},HomesAt w E A0 σ ks ss us->HomesAt W E' A0 σ ks ss us:=by
 intro ks
 induction ks with
 |nil=>intro ss us _;cases ss<;>cases us<;>trivial
 |cons c ks ih=>
  intro ss us hh
  cases ss with
  |nil=>trivial
  |cons s ss=>
   cases us with
   |nil=>trivial
   |cons u us=>
    refine⟨?_,ih hh.2⟩
    have h1:=hh.1
    cases c with
    |io t=>
     intro x h y cs e1 e2 e3 e4
     refine h1 x h y cs e1 e2 ?_ e4
     cases hrr:h.root with
     |tmp i=>rw[hrr] at e3;exact e3
     |bx id=>
      rw[hrr] at e3 e2
      obtain⟨cc,e,k1,k2,k3⟩:=e3
      rw[had] at k1 k2 k3
      have hb:=hW _ (find_mem e2)
      dsimp only at hb
      exact⟨cc,e,hb.symm.trans k1,k2,k3.mono hb.symm⟩
    |_=>trivial
end
end Go.Proofs.YtacbkfginiknaaaDoor.V
namespace Go.Proofs.YtacbkfginiknaaaDoor.V
open Go
section
variable {P:Program} {X:Ctx} {E:Env} {σ:St} {A0:Array Value} {a:Act} {w:World} {o:Oper} {R:Type}
theorem freeze_notin:∀ (l:List Nat) {σ:St} {τ:Nat},σ.al.Nodup->τ∈l->τ∉(σ.freeze l).al:=by
 intro l
 induction l with
 |nil=>intro σ τ _ h;cases h
 |cons υ r ih=>
  intro σ τ hn h
  simp only[St.freeze]
  have hsub:∀ (l:List Nat) {σ:St},τ∉σ.al->τ∉(σ.freeze l).al:=by
   intro l
   induction l with
   |nil=>intro σ h;exact h
   |cons υ r ih=>
    intro σ h
    simp only[St.freeze]
    cases hc:σ.al.contains υ with
    |false=>exact ih h
    |true=>exact ih (fun h'=>h (Ae h'))
  cases hc:σ.al.contains υ with
  |false=>
   rcases A9.1 h with rfl|h
   ·exact hsub r (by simpa using hc)
   ·exact ih hn h
  |true=>
   simp only[cond_true]
   rcases A9.1 h with rfl|h
   ·exact hsub r (fun h'=>(hn.mem_erase_iff.1 h').1 rfl)
   ·exact ih (hn.erase υ) h
theorem roToks_mem:∀ {ks:List AK} {ss:List Slot} {t:Ty} {s:Slot} {v:t.den} {ms:List Nat} {i:Nat},ks[i]?=some (.ro t)->ss[i]?=some s->coe t s=some (v,ms)->∀τ∈ms,τ∈roToks σ ks ss:=by
 intro ks
 induction ks with
 |nil=>intro ss t s v ms i h;simp at h
 |cons b r ih=>
  intro ss t s v ms i h1 h2 h3 τ hτ
  cases ss with
  |nil=>simp at h2
  |cons s' ss=>
   cases i with
   |zero=>
    simp only[Aa,A4] at h1 h2
    subst h1;subst h2
    simp only[roToks,h3]
    exact AB _ hτ
   |succ i=>
    have:=ih (by simpa using h1) (by simpa using h2) h3 τ hτ
    cases b<;>simp only[roToks]<;>first|exact this|exact A6 _ this
theorem shOks_of {sh:Bool} {σ1:St} {ks0:List AK} {ss0:List Slot} (hno:sh=true->∀τ,τ∈roToks σ ks0 ss0->τ∉σ1.al) (hpin:sh=true->noPins ks0=true):∀ {ks:List AK} {ss:List Slot},(∀τ,τ∈roToks σ ks ss->τ∈roToks σ ks0 ss0)->(noPins ks0=true->noPins ks=true)->ShOks σ1 sh ks ss:=by
 intro ks
 induction ks with
 |nil=>intro ss _ _;cases ss<;>trivial
 |cons b r ih=>
  intro ss hsub hp
  cases ss with
  |nil=>trivial
  |cons s ss=>
   refine⟨?_,ih (fun τ hτ=>hsub τ (by cases b<;>simp only[roToks]<;>first|exact hτ|exact A6 _ hτ)) (fun h=>?_)⟩
   ·cases b with
    |ro t=>
     intro hs v ms hc τ hτ
     exact hno hs τ (hsub τ (roToks_mem (i:=0) rfl rfl hc τ hτ))
    |pin t=>
     intro hs
     have:=hp (hpin hs)
     simp only[noPins,A3,beq_iff_eq] at this
     exact this.1
    |_=>trivial
   ·have:=hp h
    cases b<;>simp only[noPins,A3] at this<;>first|exact this|exact this.2
theorem resVal_slot {A:Nat->Prop} {l:List Val} {vs:List Value} (hl:l.length=vs.length) (h:∀ (i:Nat) x u,l[i]?=some x->vs[i]?=some u->ValOk w A E σ x u):SlotOk w A E σ (resSlot l) (resVal vs):=by
 match l,vs,hl with
 |[],[],_=>exact⟨[],rfl,rfl,fun i x u h=>by simp at h⟩
 |[x],[v],_=>exact h 0 x v rfl rfl
 |x::y::l,v::u::vs,hl=>exact⟨_,rfl,hl.symm,h⟩
theorem foot_ro {A pin:Nat->Prop}:∀ {ks:List AK} {x:Tup (tysOf ks)} {us:List Value} {fs:List Foot},roOnly ks=true->ArgsOk w A pin ks x us fs->∀b o,¬footM ks fs b o:=by
 intro ks
 induction ks with
 |nil=>intro x us fs _ _ b o h;cases fs<;>exact h
 |cons c r ih=>
  intro x us fs hro h b o hm
  cases us with
  |nil=>cases fs<;>exact h.elim
  |cons u us=>
   cases fs with
   |nil=>exact h.elim
   |cons f fs=>
    have hf:f=⟨[],none⟩:=by
     have h1:=h.1
     cases c with
     |ro t=>exact h1.2
     |pin t=>exact h1.2
     |clo g n ks=>exact h1.2
     |_=>simp[roOnly] at hro
    have hro':roOnly r=true:=by cases c<;>simp[roOnly] at hro<;>exact hro
    subst hf
    rcases hm with h1|⟨p,h1,_⟩|h1
    ·cases h1
    ·cases h1
    ·exact ih hro' h.2 b o h1
theorem Fr.toExt {M:Nat->Nat->Prop} {w w':World} (h:Fr M w w') (hM:∀b o,¬M b o):Ext w w':=by
 refine⟨h.os,h.tape,h.output,h.size,fun b hb=>?_⟩
 rcases h.block b hb with h1|⟨c,c',e,h1,h2,_,h4⟩
 ·exact h1
 ·have:c'=c:=AY fun o=>h4 o (hM b o)
  rw[h2,this,h1]
theorem lent_ok {aks:List AK} {sh:Bool} {ss:List Slot} {us:List Value} {k:Tup (tysOf aks)->St->Option R} {r:R} (hr:RelE X E σ A0 w) (hlen:ss.length=us.length)
  (hsl:∀ (i:Nat) s u,ss[i]?=some s->us[i]?=some u->SlotOk w (Fz X E σ w) E σ s u) (h:lendK aks sh ss σ k=some r):
  ∃x σ1 E1 fs A pin,k x σ1=some r/\Pre aks x w A pin us fs/\RelE X E1 σ1 A0 w/\E1.ad=E.ad/\(∀b,A b->X.ok b/\∀q∈σ1.bx,(E1.ad q.id).1≠b)/\(∀b∈rowsOf fs,b∈X.fps\/X.w0.heap.size<=b)/\(sh=true->∀b,A b->Fz X E1 σ1 w b)/\
   ∀ {R':Type} {rs:List (Ty×Bool)} {y:Tup (resOf rs++outsOf aks)} {vs:List Value} {w':World} {kk:List Val->St->Option R'} {r':R'},(sh=false->sharesR rs=false/\sharesO aks=false)->
    PostL aks rs w A us fs y vs w'->backK aks ss rs y σ1 kk=some r'->(roOnly aks=true->Ext w w')/\∃l σ2 E2,kk l σ2=some r'/\RelE X E2 σ2 A0 w'/\l.length=vs.length/\
     ∀ (i:Nat) x u,l[i]?=some x->vs[i]?=some u->ValOk w' (Fz X E2 σ2 w') E2 σ2 x u:=by
 unfold lendK at h
 cases hg: !sh||noPins aks with
 |false=>rw[hg] at h;simp at h
 |true=>
  rw[hg] at h
  simp only[cond_true] at h
  generalize hσf:(bif sh then σ.freeze (roToks σ aks ss) else σ)=σf at h
  have hrf:RelE X E σf A0 w/\Keep w w (Fz X E σ w) (Fz X E σf w) E E σ σf:=by
   rw[<-hσf]
   cases sh with
   |true=>exact hr.freezeK _
   |false=>exact⟨hr,hr.keep⟩
  obtain⟨hrf,hKf⟩:=hrf
  obtain⟨x,σ1,E1,fs,q1,q2,q3,q4,q5,q6⟩:=gather_homes hrf hlen (fun i s u h1 h2=>hKf.slot (hsl i s u h1 h2)) h
  cases hc:noDup (exclOf σ1 aks ss)&&lentOk σ1 (exclOf σ1 aks ss) aks ss with
  |false=>rw[hc] at q1;simp at q1
  |true=>
   rw[hc] at q1
   simp only[Ay,cond_false] at q1
   simp only[A3] at hc
   have hsl1:∀ (i:Nat) s u,ss[i]?=some s->us[i]?=some u->SlotOk w (Fz X E1 σ1 w) E1 σ1 s u:=fun i s u h1 h2=>q3.K.slot (hKf.slot (hsl i s u h1 h2))
   have hsh:ShOks σ1 sh aks ss:=shOks_of (ks0:=aks) (ss0:=ss) (σ:=σ) (fun hs τ hτ hal=>by
     have:=q3.S.al τ hal
     rw[<-hσf,hs] at this
     exact freeze_notin _ hr.aln hτ this)
    (fun hs=>by rw[hs] at hg;simpa using hg) (fun _ h=>h) id
   obtain⟨w1,w2,w3⟩:=lend_all q2 hsl1 q5 hc.2 hsh
   obtain⟨w4,w5⟩:=lend_apart (sh:=sh) q2 q4 w2 w3 hc.1
   have hmu:=noMu_of q5 hc.2
   have hio:=ioB_of q5 hc.2
   have hhm:=q6 _ hc.2
   refine⟨x,σ1,E1,fs,_,_,q1,⟨w1,w4,w5,fun b hb=>?_,fun b hb=>?_,fun p hp=>⟨(q2.glob hp).1,.inl (q2.glob hp).2⟩⟩,q2,q3.ad,fun b hb=>?_,fun b hb=>q2.srco b (q4.mem_iff.2 (AB _ hb)),fun hs b hb=>?_,?_⟩
   ·rcases hb with h|⟨_,τ,h1,_,h2⟩
    ·exact h.2.1
    ·exact(q2.lt b (mem_owned_al h1 h2)).1
   ·rcases hb with h|⟨q,h1,_,rfl⟩|h|⟨τ,h1,_,h2⟩
    ·exact(q2.pinlt b h).1
    ·exact(q2.lt _ (mem_owned_bx h1)).1
    ·exact h.2.1
    ·exact(q2.lt b (mem_owned_al h1 h2)).1
   ·rcases hb with h|⟨_,τ,h1,_,h2⟩
    ·exact⟨h.1,fun q hq he=>h.2.2 (he▸mem_owned_bx hq)⟩
    ·exact⟨(q2.lt b (mem_owned_al h1 h2)).2,fun q hq=>bx_al q2 hq h1 h2⟩
   ·rcases hb with h|⟨h,_⟩
    ·exact h
    ·rw[hs] at h;cases h
   ·intro R' rs y vs w' kk r' hshr he q1
    obtain⟨hfr,bo,br,hnd,hrets,hres,houts⟩:=he
    have hrowout:∀b∈rowsOf fs,b∈E1.out:=fun b hb=>q4.mem_iff.2 (AB _ hb)
    have hplown:∀p∈placesOf fs,p.1∈owned E1 σ1/\p.1∉E1.out:=by
     intro p hp
     have:some p.1∈(placesOf fs).map (fun p=>some p.1):=AC.2 ⟨p,hp,rfl⟩
     rw[<-w2] at this
     obtain⟨e,he,hb⟩:=AC.1 this
     exact blk_owned q2 (w3 e he) hb
    have hpl0:=placeArg_of w1
    have hplnd:((placesOf fs).map (·.1)).Nodup:=by
     have:=(blocks_perm fs).nodup_iff.1 w4
     exact(AD.1 this).2.1
    have hprow:∀p∈placesOf fs,p.1∉rowsOf fs:=fun p hp h=>(hplown p hp).2 (hrowout _ h)
    have hpls:=placesOk_of hfr w1 (fun b j _ h=>h) hprow hplnd
    have hcell:∀p∈placesOf fs,∃c e,w.heap[p.1]?=some (.cells c e (0,0)):=by
     have key:∀ {ks:List AK} {fs:List Foot},PlacesOk w w' ks fs->ks.length=fs.length->∀p∈placesOf fs,∃c e,w.heap[p.1]?=some (.cells c e (0,0)):=by
      intro ks
      induction ks with
      |nil=>intro fs _ hl p hp;cases fs with|nil=>simp[placesOf] at hp|cons _ _=>simp at hl
      |cons b r ih=>
       intro fs h hl p hp
       cases fs with
       |nil=>simp at hl
       |cons f fs=>
        simp only[placesOf,Av] at hp
        cases hf:f.place with
        |none=>rw[hf] at hp;exact ih h.2 (by simpa using hl) p hp
        |some q=>
         rw[hf] at hp
         rcases A9.1 hp with rfl|hp
         ·obtain⟨c,_,e,h1,_⟩:=h.1 p.1 p.2 hf
          exact⟨c,e,h1⟩
         ·exact ih h.2 (by simpa using hl) p hp
     refine key hpls ?_
     have len:∀ {ks:List AK} {x:Tup (tysOf ks)} {us:List Value} {fs:List Foot},ArgsOk w (AA X w E1 σ1 (exclOf σ1 aks ss) sh) (PP X w E1 σ1 (exclOf σ1 aks ss)) ks x us fs->ks.length=fs.length:=by
      intro ks
      induction ks with
      |nil=>intro x us fs h;cases us<;>cases fs<;>first|rfl|exact h.elim
      |cons b r ih=>
       intro x us fs h
       cases us with
       |nil=>cases fs<;>exact h.elim
       |cons u us=>cases fs with
        |nil=>exact h.elim
        |cons f fs=>simp[ih h.2]
     exact len w1
    obtain⟨m1,m2,m3,m4⟩:=mid_ok q2 hfr hrowout (fun p hp=>⟨(hplown p hp).1,(hplown p hp).2,hcell p hp⟩) (l:=flatB bo++flatB br) hnd hrets
    have hAF:sh=false\/∀b,After w w' (AA X w E1 σ1 (exclOf σ1 aks ss) sh) fs (flatB bo++flatB br) b->
      Fz X (E1.outs (flatB bo++flatB br)) σ1 (restore w ((placesOf fs).map (·.1)) w') b/\b∉(placesOf fs).map (·.1):=by
     cases hs:sh with
     |false=>exact .inl rfl
     |true=>
      refine .inr fun b hb=>?_
      obtain⟨h1,h2,h3⟩:=hb
      have hnp:b∉(placesOf fs).map (·.1):=by
       intro hbp
       obtain⟨p,hp,rfl⟩:=AC.1 hbp
       rcases h1 with h|h|h
       ·have:=(w5 p.1 (blocks_mem.2 (.inr ⟨p,hp,rfl⟩))).2.1
        rw[hs] at this
        exact this h
       ·exact hprow p hp h
       ·have:=(q2.lt _ (hplown p hp).1).1;omega
      refine⟨?_,hnp⟩
      rcases h1 with h|h|h
      ·rcases h with h|⟨h,_⟩
       ·exact(m2.A b h).1
       ·cases h
      ·exact m4 b (.inl h) h2 h3
      ·exact m4 b (.inr h) h2 h3
    have hAFo:sharesO aks=false\/_:=hAF.imp (fun h=>(hshr h).2) id
    have hbxh:∀b∈σ1.bx,(restore w ((placesOf fs).map (·.1)) w').heap[(E.ad b.id).1]?=w.heap[(E.ad b.id).1]?:=by
     intro b hb
     rw[<-q3.ad]
     have hown:=mem_owned_bx (E:=E1) hb
     by_cases hp:(E1.ad b.id).1∈(placesOf fs).map (·.1)
     ·obtain⟨p,hp,he⟩:=AC.1 hp
      rw[<-he];exact m3 p hp
     ·rw[restore_other w _ w' hp]
      rcases hfr.block _ (q2.lt _ hown).1 with g|⟨d,d',e,g1,g2,_,g4⟩
      ·exact g
      ·have hno:∀o,¬footM aks fs (E1.ad b.id).1 o:=fun o ho=>by
        rcases footM_mem ho with h|⟨p,h1,h2⟩
        ·have hn:=q2.nodup
         simp only[owned] at hn
         exact(AD.1 hn).2.2 _ (AC.2 ⟨b,hb,rfl⟩) _ (A6 _ (hrowout _ h)) rfl
        ·exact hp (AC.2 ⟨p,h1,h2⟩)
       have:d'=d:=AY fun o=>g4 o (hno o)
       rw[g2,this,g1]
    obtain⟨σ2,E2,n1,n2,n3,n4⟩:=putBack_ok (a:=⟨A0,[]⟩) (w:=w) (sh:=sh) hmu hio (homes_after (E':=E1.outs (flatB bo++flatB br)) q3.ad hbxh hhm) m1 rfl hlen (fun i s u h1 h2=>m2.slot (hsl1 i s u h1 h2)) houts hpl0 hpls hplnd (restore_world w _ w')
     (fun b hb=>restore_other w _ w' hb) m3 (fun b hb hbp=>by
      obtain⟨p,hp,rfl⟩:=AC.1 hbp
      rcases(hrets p.1 (AB _ hb)).1 with h|h
      ·exact hprow p hp h
      ·have:=(q2.lt _ (hplown p hp).1).1;omega) hAFo q1
    obtain⟨E3,z1,z2,z3,z4⟩:=res_ok (y:=Tup.fst (a:=resOf rs) (b:=outsOf aks) y) (l:=[]) n2 (by simpa using n3) hres
     (hAF.imp (fun h=>(hshr h).1) (fun h b hb=>(n4.A b (h b hb).1).1))
    exact⟨fun hro=>hfr.toExt (foot_ro hro w1),_,_,E3,n1,z1,z3,z4⟩
theorem call_okS {fn:Fn} {f:FuncId} (hm:Meets P f fn) (hbx:fn.s.bx=false) {ss:List Slot} {us:List Value} {d:Option Tmp} {k:St->Option R} {r:R} (hr:RelE X E σ a.tmps w) (hlen:ss.length=us.length)
  (hsl:∀ (i:Nat) s u,ss[i]?=some s->us[i]?=some u->SlotOk w (Fz X E σ w) E σ s u) (h:callK fn ss d σ k=some r):
  Calls P f us.toArray w fun e w'=>match e with
   | .returned v=>(roOnly fn.s.args=true->Ext w w')/\∃σ',k σ'=some r/\Rel X σ' (a.put d v).tmps w'
   |_=>False:=by
 unfold callK at h
 rw[hbx] at h
 simp only[cond_false] at h
 obtain⟨x,σ1,E1,fs,A,pin,h1,h2,_,_,_,_,_,h3⟩:=lent_ok hr hlen hsl h
 cases hy:fn.f x with
 |none=>rw[hy] at h1;simp at h1
 |some y=>
  rw[hy] at h1
  simp only[AQ] at h1
  refine(hm x y hy w _ _ _ fs h2).mono fun e w' he=>?_
  cases e with
  |returned v=>
   obtain⟨vs,rfl,hp⟩:=he.1 hbx
   obtain⟨k1,l,σ2,E2,k2,k3,k4,k5⟩:=h3 (fun hs=>by simpa[shares] using hs) hp h1
   exact⟨k1,_,k2,E2,k3.put d (resVal_slot k4 k5)⟩
  |panicked c=>exact he
  |outgrown=>exact he
theorem call_ok {fn:Fn} {f:FuncId} (hm:Meets P f fn) (hbx:fn.s.bx=false) {args:List Operand} {d:Option Tmp} {k:St->Option R} {r:R} (hr:RelE X E σ a.tmps w) (h:callK fn (args.map (opd σ)) d σ k=some r):
  Calls P f (args.map a.eval).toArray w fun e w'=>match e with
   | .returned v=>(roOnly fn.s.args=true->Ext w w')/\∃σ',k σ'=some r/\Rel X σ' (a.put d v).tmps w'
   |_=>False:=call_okS hm hbx hr (by simp) (args_slots hr) h
end
end Go.Proofs.YtacbkfginiknaaaDoor.V
namespace Go.Proofs.YtacbkfginiknaaaDoor.V
open Go
section
variable {P:Program} {X:Ctx} {E:Env} {σ:St} {A0:Array Value} {a:Act} {w:World} {o:Oper} {R:Type}
theorem gather_ro:∀ {ks:List AK} {ss:List Slot} {k:Tup (tysOf ks)->St->Option R} {r:R},roOnly ks=true->gatherK ks ss σ k=some r->
  ∃x,k x σ=some r/\∀ (R':Type) (k':Tup (tysOf ks)->St->Option R'),gatherK ks ss σ k'=k' x σ:=by
 intro ks
 induction ks with
 |nil=>
  intro ss k r _ h
  cases ss with
  |nil=>exact⟨(),h,fun _ _=>rfl⟩
  |cons s ss=>simp[gatherK] at h
 |cons c ks ih=>
  intro ss k r hro h
  cases ss with
  |nil=>simp[gatherK] at h
  |cons s ss=>
   simp only[gatherK] at h
   cases c with
   |ro t=>
    simp only[roOnly] at hro
    simp only[oneK] at h
    cases hc:coe t s with
    |none=>rw[hc] at h;simp at h
    |some q=>
     obtain⟨v,ms⟩:=q
     rw[hc] at h
     simp only at h
     cases hu:allUs σ ms with
     |false=>rw[hu] at h;simp at h
     |true=>
      rw[hu] at h
      simp only[cond_true] at h
      obtain⟨x,h1,h2⟩:=ih hro h
      refine⟨Tup.cons (t:=t) (r:=tysOf ks) v x,h1,fun R' k'=>?_⟩
      simp only[gatherK,oneK,hc,hu,cond_true]
      exact h2 R' _
   |pin t=>
    simp only[roOnly] at hro
    simp only[oneK] at h
    obtain⟨x0,hm,h1,h2,_⟩:=readK_nat h
    cases hc:cast? t x0 with
    |none=>rw[hc] at h1;simp at h1
    |some q=>
     obtain⟨v,ms⟩:=q
     rw[hc] at h1
     simp only at h1
     cases hu:allUs σ ms with
     |false=>rw[hu] at h1;simp at h1
     |true=>
      rw[hu] at h1
      simp only[cond_true] at h1
      obtain⟨x,h3,h4⟩:=ih hro h1
      refine⟨Tup.cons (t:=t) (r:=tysOf ks) v x,h3,fun R' k'=>?_⟩
      simp only[gatherK,oneK]
      rw[h2]
      simp only[hc,hu,cond_true]
      exact h4 R' _
   |clo f n cs=>
    cases s with
    |clo f' n' caps=>
     simp only[oneK] at h
     cases hc:f'==f&&n'==n with
     |false=>rw[hc] at h;simp at h
     |true=>
      rw[hc] at h
      simp only[cond_true] at h
      obtain⟨v,h1,h2⟩:=capsK_nat h
      obtain⟨x,h3,h4⟩:=ih (by simpa[roOnly] using hro) h1
      refine⟨Tup.cons (t:=cloTy cs) (r:=tysOf ks) v x,h3,fun R' k'=>?_⟩
      simp only[gatherK,oneK,hc,cond_true]
      rw[h2]
      exact h4 R' _
    |_=>simp[oneK] at h
   |own t=>simp[roOnly] at hro
   |mu t=>simp[roOnly] at hro
   |pio t=>simp[roOnly] at hro
   |io t=>simp[roOnly] at hro
theorem noneAl_iff {l:List Nat}:noneAl σ l=true↔∀τ∈l,τ∉σ.al:=by
 simp[noneAl,AM]
theorem freeze_noop:∀ {l:List Nat},noneAl σ l=true->σ.freeze l=σ:=by
 intro l
 induction l with
 |nil=>intro _;rfl
 |cons τ l ih=>
  intro h
  rw[noneAl_iff] at h
  have h1:σ.al.contains τ=false:=by simpa using h τ A7
  simp only[St.freeze,h1,cond_false]
  exact ih (noneAl_iff.2 fun υ hυ=>h υ (A5 _ hυ))
theorem lend_nat {aks:List AK} {sh:Bool} {ss:List Slot} {k:Tup (tysOf aks)->St->Option R} {r:R} (hro:roOnly aks=true) (hno:sh=true->noneAl σ (roToks σ aks ss)=true) (h:lendK aks sh ss σ k=some r):
  ∃x,k x σ=some r/\∀ (R':Type) (k':Tup (tysOf aks)->St->Option R'),lendK aks sh ss σ k'=k' x σ:=by
 unfold lendK at h
 cases hg: !sh||noPins aks with
 |false=>rw[hg] at h;simp at h
 |true=>
  rw[hg] at h
  simp only[cond_true] at h
  have hf:(bif sh then σ.freeze (roToks σ aks ss) else σ)=σ:=by
   cases sh with
   |false=>rfl
   |true=>exact freeze_noop (hno rfl)
  rw[hf] at h
  obtain⟨x,h1,h2⟩:=gather_ro hro h
  cases hc:noDup (exclOf σ aks ss)&&lentOk σ (exclOf σ aks ss) aks ss with
  |false=>rw[hc] at h1;simp at h1
  |true=>
   rw[hc] at h1
   simp only[Ay,cond_false] at h1
   refine⟨x,h1,fun R' k'=>?_⟩
   unfold lendK
   rw[hg,hf]
   simp only[cond_true]
   rw[h2]
   simp only[hc,Ay,cond_false]
theorem rows_ro {A pin:Nat->Prop}:∀ {ks:List AK} {x:Tup (tysOf ks)} {us:List Value} {fs:List Foot},roOnly ks=true->ArgsOk w A pin ks x us fs->rowsOf fs=[]:=by
 intro ks
 induction ks with
 |nil=>intro x us fs _ h;cases us<;>cases fs<;>first|rfl|exact h.elim
 |cons c r ih=>
  intro x us fs hro h
  cases us with
  |nil=>cases fs<;>exact h.elim
  |cons u us=>
   cases fs with
   |nil=>exact h.elim
   |cons f fs=>
    have hf:f=⟨[],none⟩:=by
     have h1:=h.1
     cases c with
     |ro t=>exact h1.2
     |pin t=>exact h1.2
     |clo g n ks=>exact h1.2
     |_=>simp[roOnly] at hro
    have hro':roOnly r=true:=by cases c<;>simp[roOnly] at hro<;>exact hro
    subst hf
    show rowsOf fs=[]
    exact ih hro' h.2
theorem lent_ro {aks:List AK} {sh:Bool} {ss:List Slot} {us:List Value} {x:Tup (tysOf aks)} (hro:roOnly aks=true) (hno:sh=true->noneAl σ (roToks σ aks ss)=true) (hr:RelE X E σ A0 w) (hlen:ss.length=us.length)
  (hsl:∀ (i:Nat) s u,ss[i]?=some s->us[i]?=some u->SlotOk w (Fz X E σ w) E σ s u) (h:lendK aks sh ss σ (fun x σ'=>some (x,σ'))=some (x,σ)):
  ∃fs A pin,Pre aks x w A pin us fs/\(sh=true->∀b,A b->Fz X E σ w b):=by
 have h0:=h
 unfold lendK at h
 cases hg: !sh||noPins aks with
 |false=>rw[hg] at h;simp at h
 |true=>
  rw[hg] at h
  simp only[cond_true] at h
  have hf:(bif sh then σ.freeze (roToks σ aks ss) else σ)=σ:=by
   cases sh with
   |false=>rfl
   |true=>exact freeze_noop (hno rfl)
  rw[hf] at h
  obtain⟨x',σ1,E1,fs,q1,q2,q3,q4,q5⟩:=gather_ok hr hlen hsl h
  cases hc:noDup (exclOf σ1 aks ss)&&lentOk σ1 (exclOf σ1 aks ss) aks ss with
  |false=>rw[hc] at q1;simp at q1
  |true=>
   rw[hc] at q1
   simp only[Ay,cond_false,A4,BE] at q1
   obtain⟨e1,e2⟩:=q1
   subst e1;subst e2
   simp only[A3] at hc
   have hsl1:∀ (i:Nat) s u,ss[i]?=some s->us[i]?=some u->SlotOk w (Fz X E1 σ1 w) E1 σ1 s u:=fun i s u h1 h2=>q3.K.slot (hsl i s u h1 h2)
   have hsh:ShOks σ1 sh aks ss:=shOks_of (ks0:=aks) (ss0:=ss) (σ:=σ1) (fun hs τ hτ hal=>noneAl_iff.1 (hno hs) τ hτ hal)
    (fun hs=>by rw[hs] at hg;simpa using hg) (fun _ h=>h) id
   obtain⟨w1,w2,w3⟩:=lend_all q2 hsl1 q5 hc.2 hsh
   obtain⟨w4,w5⟩:=lend_apart (sh:=sh) q2 q4 w2 w3 hc.1
   have hrow:=rows_ro hro w1
   refine⟨fs,_,_,⟨w1,w4,w5,fun b hb=>?_,fun b hb=>?_,fun p hp=>⟨(q2.glob hp).1,.inl (q2.glob hp).2⟩⟩,fun hs b hb=>?_⟩
   ·rcases hb with h|⟨_,τ,h1,_,h2⟩
    ·exact h.2.1
    ·exact(q2.lt b (mem_owned_al h1 h2)).1
   ·rcases hb with h|⟨q,h1,_,rfl⟩|h|⟨τ,h1,_,h2⟩
    ·exact(q2.pinlt b h).1
    ·exact(q2.lt _ (mem_owned_bx h1)).1
    ·exact h.2.1
    ·exact(q2.lt b (mem_owned_al h1 h2)).1
   ·rcases hb with h|⟨h,_⟩
    ·refine⟨h.1,h.2.1,fun ho=>h.2.2 ?_⟩
     rw[hrow,Bg] at q4
     simp only[owned,AU] at ho ⊢
     rcases ho with ho|ho|ho
     ·left
      obtain⟨q,hq,he⟩:=AC.1 ho
      exact AC.2 ⟨q,hq,by rw[q3.ad];exact he⟩
     ·right;left
      obtain⟨τ,hτ,he⟩:=AW.1 ho
      exact AW.2 ⟨τ,hτ,by simpa[tokB,q3.hd] using he⟩
     ·right;right;exact q4.mem_iff.2 ho
    ·rw[hs] at h;cases h
theorem RelE.outBox (hr:RelE X E σ A0 w) {t:Ty} {v:t.den} {ms:List Nat} {cs:List Value} {b of:Nat} {l:List Nat} {c:Array Value} {e:TypeId} (ho:E.out=b::l) (hnew:X.w0.heap.size<=b) (hv:Rv w (Fz X E σ w) E σ t v ms cs) (hms:ms.length=t.nl)
  (hb:w.heap[b]?=some (.cells c e (0,0))) (hsz:of+cs.length<=c.size) (hat:At w b of cs):
  ∃E',RelE X E' {σ with bx:=⟨σ.nt,⟨t,v,ms⟩⟩::σ.bx,nt:=σ.nt+1} A0 w/\E'.out=l/\
   SlotOk w (Fz X E' {σ with bx:=⟨σ.nt,⟨t,v,ms⟩⟩::σ.bx,nt:=σ.nt+1} w) E' {σ with bx:=⟨σ.nt,⟨t,v,ms⟩⟩::σ.bx,nt:=σ.nt+1} (.ptr σ.nt t [] t) (.pointer (some ⟨b,of,none⟩))/\∀i,i<σ.nt->E'.ad i=E.ad i:=by
 let E':Env:=⟨fun i=>if i=σ.nt then(b,of) else E.ad i,E.hd,l,E.pin⟩
 let σ':St:={σ with bx:=⟨σ.nt,⟨t,v,ms⟩⟩::σ.bx,nt:=σ.nt+1}
 have hE:∀q∈σ.bx,E'.ad q.id=E.ad q.id:=fun q hq=>if_neg (BG (hr.idlt q hq))
 have hEn:E'.ad σ.nt=(b,of):=if_pos rfl
 have hp:(owned E' σ').Perm (owned E σ):=by
  show((E'.ad σ.nt).1::(σ.bx.map (fun q=>(E'.ad q.id).1))++(σ.al.flatMap (tokB E)++l)).Perm (σ.bx.map (fun q=>(E.ad q.id).1)++(σ.al.flatMap (tokB E)++E.out))
  rw[hEn,BZ (fun q hq=>by rw[hE q hq]),ho,B6,<-AO,<-AO]
  exact Bd.symm
 have K:Keep w w (Fz X E σ w) (Fz X E' σ' w) E E' σ σ':=
  ⟨fun b' hb'=>⟨⟨hb'.1,hb'.2.1,fun h=>hb'.2.2 (hp.mem_iff.1 h)⟩,rfl⟩,Bs _,fun _ _=>rfl,fun i hi=>if_neg (BG hi),fun _ _ h=>.inl h,
   fun τ _ hτ=>⟨hτ,fun b hb=>rfl⟩,hr.ge,fun b hb=>⟨hb,rfl⟩⟩
 refine⟨E',{hr with
  slot:=fun i s u hs hu=>K.slot (hr.slot i s u hs hu)
  bx:=fun q hq=>?_
  nodup:=hp.nodup_iff.2 hr.nodup
  lt:=fun b' hb'=>hr.lt b' (hp.mem_iff.1 hb')
  ids:=?_
  idlt:=fun q hq=>?_
  alr:=fun τ hτ=>⟨(hr.alr τ hτ).1,AP (hr.alr τ hτ).2.1,(hr.alr τ hτ).2.2⟩
  fzr:=fun τ hτ=>⟨(hr.fzr τ hτ).1,AP (hr.fzr τ hτ).2⟩
  nt2:=Bb hr.nt2
  lnlt:=fun p hp=>⟨AP (hr.lnlt p hp).1,AP (hr.lnlt p hp).2⟩
  srcb:=fun q hq=>?_
  srco:=fun b' hb'=>hr.srco b' (by rw[ho];exact A5 _ hb')
  adx:=fun p hp=>⟨AP (hr.adx p hp).1,(if_neg (BG (hr.adx p hp).1)).trans (hr.adx p hp).2⟩
  hdx:=fun e he=>⟨AP (hr.hdx e he).1,(hr.hdx e he).2⟩
  pinlt:=fun b' hb'=>⟨(hr.pinlt b' hb').1,fun h=>(hr.pinlt b' hb').2 (hp.mem_iff.1 h)⟩},rfl,⟨BM _,b,of,rfl,by rw[hEn];simp[addr]⟩,fun i hi=>if_neg (BG hi)⟩
 ·rcases A9.1 hq with rfl|hq
  ·exact⟨cs,c,e,K.rv hv,hms,by rw[hEn];exact hb,by rw[hEn];exact hsz,by rw[hEn];exact hat⟩
  ·exact K.bx (hr.bx q hq) (hr.idlt q hq) rfl
 ·show(σ.nt::σ.bx.map (·.id)).Nodup
  refine AV.2 ⟨fun h=>?_,hr.ids⟩
  obtain⟨b,hb,he⟩:=AC.1 h
  have:=hr.idlt b hb
  omega
 ·rcases A9.1 hq with rfl|hq
  ·exact BM _
  ·exact AP (hr.idlt q hq)
 ·rcases A9.1 hq with rfl|hq
  ·right;rw[hEn];exact hnew
  ·rw[hE q hq];exact hr.srcb q hq
theorem callX_ok {fn:Fn} {f:FuncId} (hm:Meets P f fn) (hbx:fn.s.bx=true) {args:List Operand} {d:Option Tmp} {k:St->Option R} {r:R} (hr:RelE X E σ a.tmps w) (h:callX fn (args.map (opd σ)) d σ k=some r):
  Calls P f (args.map a.eval).toArray w fun e w'=>match e with
   | .returned v=>(roOnly fn.s.args=true->Ext w w')/\∃σ',k σ'=some r/\Rel X σ' (a.put d v).tmps w'
   |_=>False:=by
 unfold callX at h
 cases hb:roOnly fn.s.args&&noneAl σ (roToks σ fn.s.args (args.map (opd σ))) with
 |false=>rw[hb] at h;cases h
 |true=>
  rw[hb] at h
  simp only[cond_true] at h
  simp only[A3] at hb
  obtain⟨hro,hno⟩:=hb
  obtain⟨x,h1,h2⟩:=lend_nat hro (fun _=>hno) h
  cases hy:fn.f x with
  |none=>rw[hy] at h1;cases h1
  |some y=>
   rw[hy] at h1
   simp only[AQ] at h1
   obtain⟨fs,A,pin,hpre,hA⟩:=lent_ro (us:=args.map a.eval) hro (fun _=>hno) hr (by simp) (fun i s u q1 q2=>by
    rw[BL] at q1 q2
    cases hz:args[i]? with
    |none=>rw[hz] at q1;simp at q1
    |some z=>
     rw[hz] at q1 q2
     simp only[BH,A4] at q1 q2
     subst q1;subst q2
     exact slot_opd hr z) (h2 _ _)
   refine(hm x y hy w A pin _ fs hpre).mono fun e w3 he=>?_
   cases e with
   |panicked c=>exact he.elim
   |outgrown=>exact he.elim
   |returned v=>
    obtain⟨hfr,hbox⟩:=he.2 hbx
    have hext:=hfr.toExt (foot_ro hro hpre.args)
    refine⟨fun _=>hext,?_⟩
    generalize Tup.fst (a:=resOf fn.s.res) (b:=outsOf fn.s.args) y=y1 at hbox h1
    generalize fn.s.res=rs at y1 hbox h1
    match rs,y1,hbox,h1 with
    |[(t,fl)],y1,hbox,h1=>
     obtain⟨b,of,cs,c,e,rfl,hnew,hhp,hsz,hat,hrf⟩:=hbox
     simp only[boxRes] at h1
     have hw0:X.w0.heap.size<=w.heap.size:=hr.fr.size
     have hlt:b<w3.heap.size:=(AL.1 hhp).1
     have hnd:(b::E.out).Nodup:=by
      have ho:E.out.Nodup:=by
       have:=hr.nodup
       simp only[owned] at this
       exact(AD.1 (AD.1 this).2.1).2.1
      exact AV.2 ⟨fun h=>by have:=(hr.lt b (mem_out hr h)).1;omega,ho⟩
     have hr1:=(hr.world (w1:=w3) (l:=b::E.out) (fun b' hb' _=>hext.block b' hb') (hr.fr.ext hext) hext.size hnd (fun b' hb'=>by
      rcases A9.1 hb' with rfl|hb'
      ·exact⟨.inr hnew,hlt⟩
      ·exact⟨.inl hb',AX (hr.lt b' (mem_out hr hb')).1 hext.size⟩)).1
     have hv:Rv w3 (Fz X (E.outs (b::E.out)) σ w3) (E.outs (b::E.out)) σ t (Tup.hd y1) (List.replicate t.nl 0) cs:=by
      refine rv_of_rf (by have:=hr.nt2;omega) (fun h=>by have:=(hr.alr 0 h).1;omega) (hrf.mono (fun b' hb'=>?_) (fun _ _=>rfl))
      obtain⟨q1,q2,q3⟩:=hb'
      have hnow:b'∉owned E σ->b'∉owned (E.outs (b::E.out)) σ:=fun h ho=>by
       simp only[owned,Env.outs,AU,A9] at h ho
       rcases ho with ho|ho|ho|ho
       ·exact h (.inl ho)
       ·exact h (.inr (.inl ho))
       ·exact q3 ho
       ·exact h (.inr (.inr ho))
      rcases q1 with q1|q1
      ·obtain⟨z1,z2,z3⟩:=hA rfl b' q1
       exact⟨z1,q2,hnow z3⟩
      ·exact⟨hr.new b' (B1 hw0 q1),q2,hnow fun ho=>by have:=(hr.lt b' ho).1;omega⟩
     obtain⟨E',r1,_,r3,_⟩:=hr1.outBox (l:=E.out) rfl (B1 hw0 hnew) hv (by simp) hhp hsz hat
     exact⟨_,h1,E',r1.put d r3⟩
end
end Go.Proofs.YtacbkfginiknaaaDoor.V
namespace Go.Proofs.YtacbkfginiknaaaDoor.V
open Go
section
variable {P:Program} {X:Ctx} {E:Env} {σ:St} {A0:Array Value} {a:Act} {w:World} {o:Oper} {R:Type}
def FOk (P:Program) (F:FuncId->Option Fn):Prop:=∀f fn,F f=some fn->Meets P f fn/\∃g,P.funcs[f]?=some g/\g.body.isSome=true/\(g.name=="runtime.NumGoroutine")=false
theorem step_call (T:Tabs) (hF:FOk P T.F) {f:FuncId} {args:Array Operand} {ats:Array TypeId} (ho:o.op= .call ⟨.value (.func f),args,ats⟩) {k:St->Option R} {r:R} (h:stepK T o σ k=some r) (hr:RelE X E σ a.tmps w):StepOk P X T o a w (fun σ'=>k σ'=some r):=by
 simp only[stepK,ho] at h
 cases hf:T.F f with
 |none=>simp[hf] at h
 |some fn=>
  simp only[hf] at h
  obtain⟨hm,g,g1,g2,g3⟩:=hF f fn hf
  have hcall:Calls P f (args.toList.map a.eval).toArray w fun e w'=>match e with
    | .returned v=>(roOnly fn.s.args=true->Ext w w')/\∃σ',k σ'=some r/\Rel X σ' (a.put o.dst v).tmps w'
    |_=>False:=by
   cases hbx:fn.s.bx with
   |false=>exact call_ok hm hbx (d:=o.dst) hr h
   |true=>
    unfold callK at h
    rw[hbx] at h
    simp only[cond_true] at h
    exact callX_ok hm hbx (d:=o.dst) hr h
  intro Q
  unfold Oper.wp
  have hx:(execOp a.eval o).run P w= .ok (.enter f (args.toList.map a.eval).toArray) w:=by
   have e1:a.eval (.func f)= .func (.func f) #[] #[]:=rfl
   have hb:¬g.body=none:=by intro h;rw[h] at g2;cases g2
   have hn:¬g.name="runtime.NumGoroutine":=by simpa using g3
   simp[execOp,ho,resolve,e1,Deferred.ofValue,invoke,callFunc,g1]
   rw[if_neg hn,if_neg hb,<-BF]
  rw[hx,Oper.upon_enter]
  refine hcall.mono fun e w' he=>?_
  cases e with
  |returned v=>exact⟨put_defers _ _,fun i hi=>put_other _ _ i hi,put_size _ _,fun hq=>he.1 (by simpa[quiet,ho,hf] using hq),he.2⟩
  |panicked c=>exact he.elim
  |outgrown=>exact he.elim
theorem flat_rv {A:Nat->Prop}:∀ {t:Ty} {v:t.den} {ms:List Nat},t.flat=true->Rv w A E σ t v ms (flatC t v):=by
 intro t
 induction t with
 |pair a b iha ihb=>
  intro v ms hf
  simp only[Ty.flat,A3] at hf
  exact⟨_,_,rfl,iha hf.1,ihb hf.2⟩
 |st t ih=>intro v ms hf;exact ih hf
 |arr n t _=>intro v ms hf;simp[Ty.flat] at hf
 |sl e t _=>intro v ms hf;simp[Ty.flat] at hf
 |int k=>intro v ms _;rfl
 |bool=>intro v ms _;rfl
 |str=>intro v ms _;rfl
 |unit=>intro v ms _;rfl
theorem nl_flat:∀ {t:Ty},t.flat=true->t.nl=0:=by
 intro t
 induction t with
 |pair a b iha ihb=>intro hf;simp only[Ty.flat,A3] at hf;simp[Ty.nl,iha hf.1,ihb hf.2]
 |st t ih=>intro hf;exact ih hf
 |arr n t _=>intro hf;simp[Ty.flat] at hf
 |sl e t _=>intro hf;simp[Ty.flat] at hf
 |_=>intro _;rfl
theorem slots_app {A:Nat->Prop} {s1 s2:List Slot} {u1 u2:List Value} (hl:s1.length=u1.length) (h1:∀ (i:Nat) s u,s1[i]?=some s->u1[i]?=some u->SlotOk w A E σ s u) (h2:∀ (i:Nat) s u,s2[i]?=some s->u2[i]?=some u->SlotOk w A E σ s u):
  ∀ (i:Nat) s u,(s1++s2)[i]?=some s->(u1++u2)[i]?=some u->SlotOk w A E σ s u:=fun i s u e1 e2=>by
 by_cases hi:i<s1.length
 ·rw[BA hi] at e1
  rw[BA (by omega)] at e2
  exact h1 i s u e1 e2
 ·rw[B8 (by omega)] at e1
  rw[B8 (by omega),<-hl] at e2
  exact h2 _ s u e1 e2
theorem step_callT (T:Tabs) (hF:FOk P T.F) {t:Nat} {args:Array Operand} {ats:Array TypeId} (ho:o.op= .call ⟨.value (.tmp t),args,ats⟩) {k:St->Option R} {r:R} (h:stepK T o σ k=some r) (hr:RelE X E σ a.tmps w):StepOk P X T o a w (fun σ'=>k σ'=some r):=by
 simp only[stepK,ho] at h
 have hs:=slot_opd hr (.tmp t)
 simp only[opd] at hs
 cases hc:σ.fr.getD t .no with
 |clo f n caps=>
  rw[hc] at h hs
  simp only at h
  cases hf:T.F f with
  |none=>simp[hf] at h
  |some fn=>
   simp only[hf] at h
   obtain⟨hm,g,g1,g2,g3⟩:=hF f fn hf
   cases hbx:fn.s.bx with
   |true=>rw[hbx] at h;simp at h
   |false=>
    rw[hbx] at h
    simp only[cond_false] at h
    obtain⟨us,hv,hlen,hcs⟩:=hs
    have hsl:∀ (i:Nat) s u,(caps.take n++args.toList.map (opd σ)++caps.drop n)[i]?=some s->
      (us.take n++args.toList.map a.eval++us.drop n)[i]?=some u->SlotOk w (Fz X E σ w) E σ s u:=by
     refine slots_app (by simp[hlen]) (slots_app (by simp[hlen]) (fun i s u e1 e2=>?_) (args_slots hr)) (fun i s u e1 e2=>?_)
     ·rw[Al] at e1 e2
      split at e1
      ·rename_i hi;rw[if_pos hi] at e2;exact(hcs i s u e1 e2).ok
      ·cases e1
     ·rw[Az] at e1 e2
      exact(hcs _ s u e1 e2).ok
    have hcall:=call_okS hm hbx (d:=o.dst) hr (by simp[hlen]) hsl h
    intro Q
    unfold Oper.wp
    have hx:(execOp a.eval o).run P w= .ok (.enter f (us.take n++args.toList.map a.eval++us.drop n).toArray) w:=by
     have e1:a.eval (.tmp t)=cloV f n us:=hv
     have hb:¬g.body=none:=by intro h;rw[h] at g2;cases g2
     have hn:¬g.name="runtime.NumGoroutine":=by simpa using g3
     simp[execOp,ho,resolve,e1,cloV,Deferred.ofValue,invoke,callFunc,g1]
     rw[if_neg hn,if_neg hb]
     simp
    rw[hx,Oper.upon_enter]
    refine hcall.mono fun e w' he=>?_
    cases e with
    |returned v=>exact⟨put_defers _ _,fun i hi=>put_other _ _ i hi,put_size _ _,fun hq=>by simp[quiet,ho] at hq,he.2⟩
    |panicked c=>exact he.elim
    |outgrown=>exact he.elim
 |_=>rw[hc] at h;simp at h
theorem step_ok (T:Tabs) (hT:TabOk P T.T) (hF:FOk P T.F) {k:St->Option R} {r:R} (h:stepK T o σ k=some r) (hr:RelE X E σ a.tmps w):StepOk P X T o a w (fun σ'=>k σ'=some r):=by
 cases ho:o.op with
 |move x=>exact((step_move T ho h hr).fix hr).ok
 |assign x=>exact((step_assign T ho h hr).fix hr).ok
 |pick c x y=>exact((step_pick T ho h hr).fix hr).ok
 |alloc e=>exact step_alloc T hT ho h hr
 |box e x=>exact step_box T hT ho h hr
 |build t ps=>exact((step_build T hT ho h hr).fix hr).ok
 |buildSlice t n ps=>exact step_buildSlice T hT ho h hr
 |load t x=>exact((step_load T hT ho h hr).fix hr).ok
 |store t p x=>exact step_store T hT ho h hr
 |nilCheck x=>exact((step_nilCheck T ho h hr).fix hr).ok
 |binOp op t x y yt=>exact((step_binOp T hT ho h hr).fix hr).ok
 |unOp op t x=>exact((step_unOp T ho h hr).fix hr).ok
 |convert s d x=>exact((step_convert T hT ho h hr).fix hr).ok
 |makeSlice t n c=>exact step_makeSlice T hT ho h hr
 |slice t x lo hi mx=>
  cases mx with
  |none=>exact(step_slice T hT ho h hr).ok
  |some m=>simp[stepK,ho] at h
 |fieldAddr s x j=>exact((step_fieldAddr T hT ho h hr).fix hr).ok
 |field s x j=>exact((step_field T hT ho h hr).fix hr).ok
 |indexAddr s x i=>exact((step_indexAddr T hT ho h hr).fix hr).ok
 |index s x i=>exact((step_index T hT ho h hr).fix hr).ok
 |extract x i=>exact((step_extract T ho h hr).fix hr).ok
 |makeFunc fn fi ca=>
  cases fn with
  |func f=>exact((step_makeFunc T ho h hr).fix hr).ok
  |_=>simp[stepK,ho] at h
 |call c=>
  obtain⟨callee,args,ats⟩:=c
  cases callee with
  |builtin b=>
   cases b with
   |len=>exact((step_len T hT ho h hr).fix hr).ok
   |min=>exact((step_min T ho h hr).fix hr).ok
   |max=>exact((step_max T ho h hr).fix hr).ok
   |append=>exact step_append T hT ho h hr
   |_=>simp[stepK,ho] at h
  |value x=>
   cases x with
   |func f=>exact step_call T hF ho h hr
   |tmp t=>exact step_callT T hF ho h hr
   |_=>simp[stepK,ho] at h
  |invoke x n=>simp[stepK,ho] at h
 |_=>simp[stepK,ho] at h
end
end Go.Proofs.YtacbkfginiknaaaDoor.V
namespace Go.Proofs.YtacbkfginiknaaaDoor.V
open Go
section
variable {P:Program} {X:Ctx} {E:Env} {σ:St} {A0:Array Value} {a:Act} {w:World} {o:Oper} {R:Type}
def Contig:Nat->List (Oper×Nat)->Prop
 |_,[]=>True
 |i,q::r=>q.2=i/\Contig (i+1) r
theorem spanG_eq (j:Nat):∀ (l:List (Oper×Nat)) {g r:List (Oper×Nat)},spanG j l=(g,r)->l=g++r:=by
 intro l
 induction l with
 |nil=>intro g r h;simp[spanG] at h;simp[h.1,h.2]
 |cons o l ih=>
  intro g r h
  simp only[spanG] at h
  cases hd:decide (j<gOf o.1) with
  |false=>rw[hd] at h;simp at h;simp[h.1,h.2]
  |true=>
   rw[hd] at h
   simp only[cond_true,BE] at h
   obtain⟨rfl,rfl⟩:=h
   have:=ih (g:=(spanG j l).1) (r:=(spanG j l).2) rfl
   rw[B6,<-this]
theorem contig_append {g r:List (Oper×Nat)}:∀ {i:Nat},Contig i (g++r)->Contig i g/\Contig (i+g.length) r:=by
 induction g with
 |nil=>intro i h;exact⟨trivial,by simpa using h⟩
 |cons q g ih=>
  intro i h
  obtain⟨h1,h2⟩:=ih h.2
  exact⟨⟨h.1,h1⟩,by rw[BO,show i+(g.length+1)=i+1+g.length by omega];exact h2⟩
theorem clearD_fr:∀ (g:List (Oper×Nat)) (σ:St),(clearD g σ).bx=σ.bx/\(clearD g σ).al=σ.al/\(clearD g σ).fz=σ.fz/\(clearD g σ).ln=σ.ln/\(clearD g σ).nt=σ.nt/\(clearD g σ).fr.length=σ.fr.length/\
  ∀i s,(clearD g σ).fr[i]?=some s->s= .no\/(σ.fr[i]?=some s/\∀q∈g,q.1.dst≠some i):=by
 intro g
 induction g with
 |nil=>intro σ;exact⟨rfl,rfl,rfl,rfl,rfl,rfl,fun i s h=>.inr ⟨h,fun q hq=>by cases hq⟩⟩
 |cons q g ih=>
  intro σ
  obtain⟨h1,h2,h3,h4,h5,h6,h7⟩:=ih (σ.put q.1.dst .no)
  have e:clearD (q::g) σ=clearD g (σ.put q.1.dst .no):=rfl
  rw[e]
  cases hd:q.1.dst with
  |none=>
   rw[hd] at h1 h2 h3 h4 h5 h6 h7
   refine⟨h1,h2,h3,h4,h5,h6,fun i s hs=>?_⟩
   rcases h7 i s hs with h|⟨h,k⟩
   ·exact .inl h
   ·exact .inr ⟨h,fun q' hq'=>by
     rcases A9.1 hq' with rfl|hq'
     ·rw[hd];simp
     ·exact k q' hq'⟩
  |some d=>
   rw[hd] at h1 h2 h3 h4 h5 h6 h7
   refine⟨h1,h2,h3,h4,h5,by rw[h6];simp[St.put],fun i s hs=>?_⟩
   rcases h7 i s hs with h|⟨h,k⟩
   ·exact .inl h
   ·by_cases hi:d=i
    ·subst hi
     simp only[St.put] at h
     rw[BV (by have:=(Ar.1 h).1;simpa using this)] at h
     injection h with h
     exact .inl h.symm
    ·simp only[St.put] at h
     rw[List.getElem?_set_ne hi] at h
     exact .inr ⟨h,fun q' hq'=>by
      rcases A9.1 hq' with rfl|hq'
      ·rw[hd];simpa using hi
      ·exact k q' hq'⟩
theorem RelE.clear (hr:RelE X E σ A0 w) (g:List (Oper×Nat)) {A1:Array Value} (hs:A1.size=A0.size) (ho:∀i,(∀q∈g,q.1.dst≠some i)->A1[i]?=A0[i]?):RelE X E (clearD g σ) A1 w:=by
 obtain⟨h1,h2,h3,h4,h5,h6,h7⟩:=clearD_fr g σ
 have e:clearD g σ={σ with fr:=(clearD g σ).fr}:=by
  have:clearD g σ=⟨(clearD g σ).fr,(clearD g σ).bx,(clearD g σ).al,(clearD g σ).fz,(clearD g σ).ln,(clearD g σ).nt⟩:=rfl
  rw[this,h1,h2,h3,h4,h5]
 rw[e]
 exact {hr with
  len:=by show(clearD g σ).fr.length=_;rw[h6,hr.len,hs]
  slot:=fun i s v hs' hv=>by
   rcases h7 i s hs' with h|⟨h,k⟩
   ·subst h;trivial
   ·rw[ho i k] at hv
    exact(hr.slot i s v h hv).fr hr.ge
  bx:=fun b hb=>(hr.bx b hb).fr (hr.idlt b hb) hr.ge}
def End (X:Ctx) (T:Tabs) (l:List (Oper×Nat)) (a:Act) (w:World) (G:St->Prop) (a':Act) (w':World):Prop:=
 a'.defers=a.defers/\a'.tmps.size=a.tmps.size/\(∀i,(∀q∈l,q.1.dst≠some i)->a'.tmps[i]?=a.tmps[i]?)/\((∀q∈l,quiet T q.1.op=true)->Ext w w')/\∃σ',G σ'/\Rel X σ' a'.tmps w'
theorem yielded_dst {ops:Array Oper} {tmps:Array Value} {j:Nat} {c:Tmp} (h:dstOf ops j=some c):yielded ops tmps j=(match tmps[c]? with|some (.bool b)=>some b|_=>none):=by
 unfold yielded dstOf at *
 rw[h]
 simp only[AQ]
 cases tmps[c]? with
 |none=>rfl
 |some v=>cases v<;>rfl
theorem yielded_none {ops:Array Oper} {tmps:Array Value} {j:Nat} (h:dstOf ops j=none):yielded ops tmps j=none:=by
 unfold yielded dstOf at *
 rw[h];rfl
theorem skip_ok {ops:Array Oper} {i0 j:Nat} {v:Bool} {c:Tmp} {Q:Exit->Act->World->Prop} {rest:List Nat}:∀ {g:List (Oper×Nat)} {a:Act} {i:Nat},Contig i g->(∀q∈g,ops[q.2]?=some q.1)->(∀q∈g,okH i0 j v c q.1 q.2=true)->dstOf ops j=some c->
  yielded ops a.tmps j≠some v->(∀j',i0<=j'->j'<i->yielded ops a.tmps j'=none)->(∀a',a'.defers=a.defers->a'.tmps.size=a.tmps.size->(∀i,(∀q∈g,q.1.dst≠some i)->a'.tmps[i]?=a.tmps[i]?)->wpOps P ops Q rest a' w)->
  wpOps P ops Q (g.map (·.2)++rest) a w:=by
 intro g
 induction g with
 |nil=>intro a i _ _ _ _ _ _ h;exact h a rfl rfl (fun _ _=>rfl)
 |cons q g ih=>
  intro a i hc hi hok hd hy hn h
  have hq:=hi q A7
  have ho:=hok q A7
  simp only[okH,A3,AJ,beq_eq_false_iff_ne,ne_eq] at ho
  have hun:AI q.1 (yielded ops a.tmps)=false:=by
   unfold AI
   cases hg:q.1.guard with
   |none=>rw[hg] at ho;exact absurd ho.1 (by simp)
   |some p=>
    obtain⟨j',w'⟩:=p
    rw[hg] at ho
    simp only[AS,A3,beq_iff_eq,decide_eq_true_eq] at ho
    rcases ho.1 with⟨rfl,rfl⟩|⟨h1,h2⟩
    ·simpa using hy
    ·have:=hn j' h1 (by rw[<-hc.1];exact h2)
     simp[this]
  simp only[Ad,B6,wpOps,hq,hun,B0,if_false]
  have hput:∀k,q.1.dst≠some k->(a.put q.1.dst undef).tmps[k]?=a.tmps[k]?:=fun k hk=>put_other _ _ k (fun e=>hk e.symm)
  refine ih hc.2 (fun q' hq'=>hi q' (A5 _ hq')) (fun q' hq'=>hok q' (A5 _ hq')) hd ?_ (fun j' h1 h2=>?_) (fun a' e1 e2 e3=>h a' ?_ ?_ ?_)
  ·rw[yielded_dst hd,hput c ho.2,<-yielded_dst hd];exact hy
  ·cases hdj:dstOf ops j' with
   |none=>exact yielded_none hdj
   |some d=>
    rw[yielded_dst hdj]
    by_cases he:q.1.dst=some d
    ·have hund:∀u,(a.put q.1.dst undef).tmps[d]?=some u->u=undef:=by
      intro u hu
      rw[he] at hu
      simp only[Act.put] at hu
      by_cases hlt:d<a.tmps.size
      ·rw[AE hlt] at hu
       exact(A8 hu).symm
      ·rw[AT (by rw[AZ];exact Ak hlt)] at hu;cases hu
     cases hz:(a.put q.1.dst undef).tmps[d]? with
     |none=>rfl
     |some u=>rw[hund u hz];rfl
    ·rw[hput d he,<-yielded_dst hdj]
     by_cases hj:j'=i
     ·subst hj
      have:dstOf ops j'=q.1.dst:=by unfold dstOf;rw[<-hc.1,hq];rfl
      rw[this] at hdj
      exact absurd hdj he
     ·exact hn j' h1 (by omega)
  ·rw[e1];exact put_defers _ _
  ·rw[e2];exact put_size _ _
  ·intro k hk
   rw[e3 k (fun q' hq'=>hk q' (A5 _ hq'))]
   exact hput k (hk q A7)
end
end Go.Proofs.YtacbkfginiknaaaDoor.V
namespace Go.Proofs.YtacbkfginiknaaaDoor.V
open Go
section
variable {P:Program} {X:Ctx} {E:Env} {σ:St} {A0:Array Value} {a:Act} {w:World} {o:Oper} {R:Type}
theorem End.cons {T:Tabs} {q:Oper×Nat} {l:List (Oper×Nat)} {G:St->Prop} {a1 a2:Act} {w1 w2:World} (h1:a1.defers=a.defers) (h2:a1.tmps.size=a.tmps.size) (h3:∀i,some i≠q.1.dst->a1.tmps[i]?=a.tmps[i]?) (h4:quiet T q.1.op=true->Ext w w1)
  (h:End X T l a1 w1 G a2 w2):End X T (q::l) a w G a2 w2:=by
 obtain⟨k1,k2,k3,k4,k5⟩:=h
 exact⟨k1.trans h1,k2.trans h2,fun i hi=>(k3 i fun q' hq'=>hi q' (A5 _ hq')).trans (h3 i (fun e=>hi q A7 e.symm)),
  fun hq=>(h4 (hq q A7)).trans (k4 fun q' hq'=>hq q' (A5 _ hq')),k5⟩
theorem End.append {T:Tabs} {g l:List (Oper×Nat)} {G:St->Prop} {a1 a2:Act} {w1 w2:World} (h1:a1.defers=a.defers) (h2:a1.tmps.size=a.tmps.size) (h3:∀i,(∀q∈g,q.1.dst≠some i)->a1.tmps[i]?=a.tmps[i]?) (h4:(∀q∈g,quiet T q.1.op=true)->Ext w w1)
  (h:End X T l a1 w1 G a2 w2):End X T (g++l) a w G a2 w2:=by
 obtain⟨k1,k2,k3,k4,k5⟩:=h
 exact⟨k1.trans h1,k2.trans h2,fun i hi=>(k3 i fun q' hq'=>hi q' (A6 _ hq')).trans (h3 i (fun q hq=>hi q (AB _ hq))),
  fun hq=>(h4 fun q hq'=>hq q (AB _ hq')).trans (k4 fun q' hq'=>hq q' (A6 _ hq')),k5⟩
def ActOk (ops:Array Oper) (tmps:Array Value) (act:List (Nat×Bool)) (l:List (Oper×Nat)):Prop:=∀g∈act,yielded ops tmps g.1=some g.2/\∀c,dstOf ops g.1=some c->∀q∈l,q.1.dst≠some c
theorem ActOk.next {ops:Array Oper} {t1 t2:Array Value} {act:List (Nat×Bool)} {l l2:List (Oper×Nat)} (h:ActOk ops t1 act l) (hsub:∀q∈l2,q∈l) (ht:∀i,(∀q∈l,q.1.dst≠some i)->t2[i]?=t1[i]?):ActOk ops t2 act l2:=by
 intro g hg
 obtain⟨h1,h2⟩:=h g hg
 refine⟨?_,fun c hc q hq=>h2 c hc q (hsub q hq)⟩
 cases hd:dstOf ops g.1 with
 |none=>rw[yielded_none hd] at h1;cases h1
 |some c=>rw[yielded_dst hd,ht c (h2 c hd),<-yielded_dst hd];exact h1
theorem ops_ok (T:Tabs) (hT:TabOk P T.T) (hF:FOk P T.F) {ops:Array Oper}:∀ (n:Nat) {act:List (Nat×Bool)} {R:Type} {l:List (Oper×Nat)} {i:Nat} {σ:St} {k:St->Option R} {r:R} {a:Act} {w:World} {E:Env},
  opsK T ops n act R l σ k=some r->RelE X E σ a.tmps w->Contig i l->(∀q∈l,ops[q.2]?=some q.1)->ActOk ops a.tmps act l->∀ (Q:Exit->Act->World->Prop) (rest:List Nat),
  (∀a' w',End X T l a w (fun σ'=>k σ'=some r) a' w'->wpOps P ops Q rest a' w')->wpOps P ops Q (l.map (·.2)++rest) a w:=by
 intro n
 induction n with
 |zero=>
  intro act R l i σ k r a w E h hr _ _ _ Q rest hend
  cases l with
  |nil=>exact hend a w ⟨rfl,rfl,fun _ _=>rfl,fun _=>Ext.refl w,σ,by simpa[opsK] using h,E,hr⟩
  |cons o l=>simp[opsK] at h
 |succ n ih=>
  intro act R l i σ k r a w E h hr hc hi hact Q rest hend
  cases l with
  |nil=>exact hend a w ⟨rfl,rfl,fun _ _=>rfl,fun _=>Ext.refl w,σ,by simpa[opsK] using h,E,hr⟩
  |cons o l=>
   simp only[opsK] at h
   have ho:=hi o A7
   split at h
   ·rename_i hg
    have hw:AI o.1 (yielded ops a.tmps)=true:=by
     unfold AI
     unfold openG at hg
     cases hgu:o.1.guard with
     |none=>rfl
     |some g=>
      rw[hgu] at hg
      simp only at hg
      cases hcon:act.contains g with
      |false=>rw[hcon] at hg;simp at hg
      |true=>
       have:=(hact g (by simpa using hcon)).1
       simp[this]
    simp only[Ad,B6,wpOps,ho,hw,if_true]
    left
    refine Oper.wp_mono (fun a1 w1 ⟨d1,s1,z1,x1,σ1,hk,E1,hr1⟩=>?_) (step_ok T hT hF h hr Q)
    refine ih hk hr1 hc.2 (fun q hq=>hi q (A5 _ hq)) (hact.next (fun q hq=>A5 _ hq) (fun i hi'=>s1 i (fun e=>hi' o A7 e.symm))) Q rest (fun a2 w2 he=>hend a2 w2 (End.cons d1 z1 s1 x1 he))
   ·rename_i j w0 hg
    split at h
    ·rename_i x1 x2 g d c x y ty pos af pg i' r' hsp
     have hl:=spanG_eq j _ hsp
     have hc0:o.2=i:=hc.1
     have key:∀v,(∀q∈g,okH o.snd j w0 c q.1 q.2=true)->dstOf ops j=some c->pgOk act pg=true->boolOf (σ.fr.getD c .no)=some v->
       ((bif w0 then v else !v)=true->opsK T ops n ((j,w0)::act) R g σ (fun σ'=>(boolOf (opd σ' (bif w0 then x else y))).bind fun t=>opsK T ops n act R r' ((clearD g σ').put (some d) (.val ⟨.bool,t,[]⟩ none)) k)=some r\/
        ((∀q∈g,quiet T q.1.op=true)/\∃t,opsK T ops n ((j,w0)::act) Bool g σ (fun σ'=>boolOf (opd σ' (bif w0 then x else y)))=some t/\opsK T ops n act R r' ((clearD g σ).put (some d) (.val ⟨.bool,t,[]⟩ none)) k=some r))->
       ((bif w0 then v else !v)=false->∃t,boolOf (opd (clearD g σ) (bif w0 then y else x))=some t/\opsK T ops n act R r' ((clearD g σ).put (some d) (.val ⟨.bool,t,[]⟩ none)) k=some r)->
       wpOps P ops Q ((o::l).map (·.2)++rest) a w:=by
       intro v hok hdst hpg hv hyes hno
       have hevc:a.eval (.tmp c)= .bool v:=by
        have hs:=slot_opd hr (.tmp c)
        simp only[opd] at hs
        unfold boolOf at hv
        split at hv
        ·rename_i b ms hm e
         injection hv with hv;subst hv
         rw[e] at hs
         exact val_bool hs
        ·cases hv
       have hac:a.tmps[c]?=some (.bool v):=by
        have h1:a.tmps.getD c undef= .bool v:=hevc
        rw[AH] at h1
        cases hz:a.tmps[c]? with
        |none=>rw[hz] at h1;cases h1
        |some u=>rw[hz] at h1;simpa using h1
       have hyj:yielded ops a.tmps j=some v:=by rw[yielded_dst hdst,hac]
       have hgc:∀q∈g,q.1.dst≠some c:=fun q hq=>by
        have:=hok q hq
        simp only[okH,A3,AJ,beq_eq_false_iff_ne,ne_eq] at this
        exact this.2
       rw[hl] at hc hi hact hend ⊢
       obtain⟨hc1,hc2⟩:=contig_append hc
       have hmem:∀q∈g,q∈g++(⟨some d,.pick (.tmp c) x y,ty,pos,af,pg⟩,i')::r':=fun q hq=>AB _ hq
       have hmem2:∀q∈r',q∈g++((⟨some d,.pick (.tmp c) x y,ty,pos,af,pg⟩:Oper),i')::r':=fun q hq=>A6 _ (A5 _ hq)
       have fin:∀a1 w1 t E1 σ1,a1.defers=a.defers->a1.tmps.size=a.tmps.size->(∀i,(∀q∈g,q.1.dst≠some i)->a1.tmps[i]?=a.tmps[i]?)->((∀q∈g,quiet T q.1.op=true)->Ext w w1)->a1.eval (bif v then x else y)= .bool t->
         RelE X E1 σ1 a1.tmps w1->opsK T ops n act R r' (σ1.put (some d) (.val ⟨.bool,t,[]⟩ none)) k=some r->wpOps P ops Q (i'::(r'.map (·.2)++rest)) a1 w1:=by
        intro a1 w1 t E1 σ1 e1 e2 e3 e4 e5 hr1 hk
        have hp:=hi (⟨some d,.pick (.tmp c) x y,ty,pos,af,pg⟩,i') (A6 _ A7)
        have hact1:ActOk ops a1.tmps act (((⟨some d,.pick (.tmp c) x y,ty,pos,af,pg⟩:Oper),i')::r'):=by
         intro q hq
         obtain⟨k1,k2⟩:=hact q hq
         refine⟨?_,fun c' hc' q' hq'=>k2 c' hc' q' (A6 _ hq')⟩
         cases hd:dstOf ops q.1 with
         |none=>rw[yielded_none hd] at k1;cases k1
         |some c'=>rw[yielded_dst hd,e3 c' (fun q' hq'=>k2 c' hd q' (hmem q' hq')),<-yielded_dst hd];exact k1
        have hw:AI (⟨some d,.pick (.tmp c) x y,ty,pos,af,pg⟩:Oper) (yielded ops a1.tmps)=true:=by
         unfold AI
         cases pg with
         |none=>rfl
         |some q=>
          have:=(hact1 q (by simpa[pgOk] using hpg)).1
          simp[this]
        simp only[wpOps,hp,hw,if_true]
        left
        unfold Oper.wp
        have hx:(execOp a1.eval (⟨some d,.pick (.tmp c) x y,ty,pos,af,pg⟩:Oper)).run P w1= .ok (.value (.bool t)) w1:=by
         have h1:a1.eval (.tmp c)= .bool v:=by
          show a1.tmps.getD c undef=_
          rw[AH,e3 c hgc,hac];rfl
         simp only[execOp,h1,asBool,Ac,B4,Ab]
         rw[<-e5]
         cases v<;>simp
        rw[hx,Oper.upon_value]
        have hr2:RelE X E1 (σ1.put (some d) (.val ⟨.bool,t,[]⟩ none)) (a1.put (some d) (.bool t)).tmps w1:=hr1.put (some d) (slot_bool t none)
        refine ih hk hr2 hc2.2 (fun q hq=>hi q (hmem2 q hq)) (hact1.next (fun q hq=>A5 _ hq) (fun i hi'=>put_other _ _ i (fun e=>hi' _ A7 e.symm))) Q rest (fun a2 w2 he=>?_)
        exact hend a2 w2 (End.append e1 e2 e3 e4 (End.cons (q:=(⟨some d,.pick (.tmp c) x y,ty,pos,af,pg⟩,i')) (put_defers _ _) (put_size _ _) (fun i hi'=>put_other _ _ i hi') (fun _=>Ext.refl _) he))
       rw[BR,AO]
       have bev:∀ {a1:Act} {w1:World} {E1:Env} {σ1:St} {z:Operand} {t:Bool},RelE X E1 σ1 a1.tmps w1->boolOf (opd σ1 z)=some t->a1.eval z= .bool t:=by
        intro a1 w1 E1 σ1 z t hr1 hb
        have hs:=slot_opd hr1 z
        unfold boolOf at hb
        split at hb
        ·rename_i b ms hm e
         injection hb with hb;subst hb
         rw[e] at hs
         exact val_bool hs
        ·cases hb
       have hactg:w0=v->ActOk ops a.tmps ((j,w0)::act) g:=by
        intro he q hq
        rcases A9.1 hq with rfl|hq
        ·exact⟨by rw[he];exact hyj,fun c' hc' q' hq'=>by
          have:c'=c:=by
           have h1:dstOf ops j=some c':=hc'
           rw[hdst] at h1;exact(A8 h1).symm
          subst this
          exact hgc q' hq'⟩
        ·exact⟨(hact q hq).1,fun c' hc' q' hq'=>(hact q hq).2 c' hc' q' (hmem q' hq')⟩
       cases hvw:(bif w0 then v else !v) with
       |true=>
        have hvw':v=w0:=by cases v<;>cases w0<;>simp_all
        rcases hyes hvw with ht|⟨hgq,t,ht,hk⟩
        ·refine ih ht hr hc1 (fun q hq=>hi q (hmem q hq)) (hactg hvw'.symm) Q _ (fun a1 w1 he=>?_)
         obtain⟨e1,e2,e3,e4,σ',hσ,E',hr'⟩:=he
         simp only[Ax] at hσ
         obtain⟨t,ht1,ht2⟩:=hσ
         refine fin a1 w1 t E' (clearD g σ') e1 e2 e3 e4 ?_ (hr'.clear g rfl (fun _ _=>rfl)) ht2
         rw[hvw'];exact bev hr' ht1
        ·refine ih ht hr hc1 (fun q hq=>hi q (hmem q hq)) (hactg hvw'.symm) Q _ (fun a1 w1 he=>?_)
         obtain⟨e1,e2,e3,e4,σ',hσ,E',hr'⟩:=he
         refine fin a1 w1 t E (clearD g σ) e1 e2 e3 e4 ?_ ((hr.ext (e4 hgq)).clear g e2 e3) hk
         rw[hvw'];exact bev hr' hσ
       |false=>
        obtain⟨t,ht,hk⟩:=hno hvw
        have hvw':v= !w0:=by cases v<;>cases w0<;>simp_all
        refine skip_ok (i0:=o.2) (j:=j) (v:=w0) (c:=c) hc1 (fun q hq=>hi q (hmem q hq)) hok hdst (by rw[hyj,hvw'];cases w0<;>simp) (fun j' h1 h2=>by have:=hc0;omega) (fun a1 e1 e2 e3=>fin a1 w t E (clearD g σ) e1 e2 e3 (fun _=>Ext.refl w) ?_ (hr.clear g e2 e3) hk)
        have hr1:RelE X E (clearD g σ) a1.tmps w:=hr.clear g e2 e3
        have hxy:(bif v then x else y)=(bif w0 then y else x):=by rw[hvw'];cases w0<;>rfl
        rw[hxy]
        exact bev hr1 ht
     cases hb1:(dstOf ops j==some c&&g.all fun q=>okG T o.snd j w0 c q.fst q.snd)&&pgOk act pg with
     |true=>
      rw[hb1] at h
      simp only[cond_true] at h
      simp only[A3,beq_iff_eq,AM,okG] at hb1
      obtain⟨⟨hdst,hall⟩,hpg⟩:=hb1
      cases hv:boolOf (σ.fr.getD c .no) with
      |none=>rw[hv] at h;simp at h
      |some v=>
       rw[hv] at h
       simp only[Ax] at h
       obtain⟨t,ht,hk⟩:=h
       refine key v (fun q hq=>(hall q hq).1) hdst hpg hv (fun hb=>.inr ⟨fun q hq=>(hall q hq).2,t,?_,hk⟩) (fun hb=>⟨t,?_,hk⟩)
       ·rw[hb] at ht;exact ht
       ·rw[hb] at ht;exact ht
     |false=>
      rw[hb1] at h
      simp only[cond_false] at h
      cases hb2:(dstOf ops j==some c&&g.all fun q=>okH o.snd j w0 c q.fst q.snd)&&pgOk act pg with
      |false=>rw[hb2] at h;simp at h
      |true=>
       rw[hb2] at h
       simp only[cond_true] at h
       simp only[A3,beq_iff_eq,AM] at hb2
       obtain⟨⟨hdst,hall⟩,hpg⟩:=hb2
       cases hv:boolOf (σ.fr.getD c .no) with
       |none=>rw[hv] at h;simp at h
       |some v=>
        rw[hv] at h
        simp only at h
        refine key v hall hdst hpg hv (fun hb=>.inl ?_) (fun hb=>?_)
        ·rw[hb] at h;exact h
        ·rw[hb] at h
         simp only[cond_false,Ax] at h
         exact h
    ·cases h
end
end Go.Proofs.YtacbkfginiknaaaDoor.V
namespace Go.Proofs.YtacbkfginiknaaaDoor.V
open Go
section
variable {P:Program} {ops:Array Oper} {a:Act} {w:World}
def fixUpon (P:Program) (w':World) (v:Value):Result Next->Prop
 | .ok (.value u) w2=>w2=w'/\u=v
 | .ok (.enter f args) w2=>w2=w'/\Calls P f args w' (fun e w3=>e= .returned v/\Ext w' w3)
 |_=>False
def FixAt (P:Program) (o:Oper) (a:Act) (w:World) (v:Value):Prop:=∀w',Ext w w'->fixUpon P w' v ((execOp a.eval o).run P w')
def FixV (P:Program) (ops:Array Oper) (o:Oper) (a:Act) (w:World) (v:Value):Prop:=
 (AI o (yielded ops a.tmps)=true/\FixAt P o a w v)\/(AI o (yielded ops a.tmps)=false/\v=undef)
def wpFix (P:Program) (ops:Array Oper) (w:World) (Q:Act->Prop):List Oper->Act->Prop
 |[],a=>Q a
 |o::r,a=>∃v,FixV P ops o a w v/\wpFix P ops w Q r (a.put o.dst v)
theorem FixV.congr {o:Oper} {a a':Act} {v:Value} (hs:∀cs b,o.op≠ .select cs b) (h:FixV P ops o a w v) (he:∀t∈o.looksAt ops,a'.tmps[t]?=a.tmps[t]?):FixV P ops o a' w v:=by
 have hw:AI o (yielded ops a'.tmps)=AI o (yielded ops a.tmps):=by
  unfold AI
  cases hg:o.guard with
  |none=>rfl
  |some gw=>
   obtain⟨g,want⟩:=gw
   have:yielded ops a'.tmps g=yielded ops a.tmps g:=by
    unfold yielded
    cases ht:(ops[g]?).bind (·.dst) with
    |none=>rfl
    |some t=>
     simp only[AQ]
     rw[he t (by simp[Oper.looksAt,hg,ht])]
   simp only[this]
 have hx:execOp a'.eval o=execOp a.eval o:=execOp_congr o hs fun x hx=>by
  cases x with
  |tmp t=>
   have:=he t (AB _ (Af.2 ⟨.tmp t,by simpa using hx,rfl⟩))
   show a'.tmps.getD t undef=a.tmps.getD t undef
   rw[AH,AH,this]
  |_=>rfl
 unfold FixV FixAt at *
 rw[hw,hx]
 exact h
theorem FixV.run {Q:Exit->Act->World->Prop} {i:Nat} {o:Oper} {v:Value} {w':World} {K:Act->World->Prop} (hi:ops[i]?=some o) (h:FixV P ops o a w v) (hx:Ext w w') (hK:∀w2,Ext w' w2->K (a.put o.dst v) w2):wpOp P ops Q i K a w':=by
 unfold wpOp
 simp only[hi]
 rcases h with⟨hw,hf⟩|⟨hw,rfl⟩
 ·simp only[hw,if_true]
  left
  have h1:=hf w' hx
  unfold Oper.wp
  generalize (execOp a.eval o).run P w'=r at *
  cases r with
  |halt x w2=>exact h1.elim
  |ok n w2=>
   cases n<;>simp only[fixUpon] at h1<;>simp only[Oper.upon]
   case value u=>obtain⟨e1,e2⟩:=h1;rw[e1,e2];exact hK _ (Ext.refl _)
   case enter f args=>
    obtain⟨e1,hc⟩:=h1
    rw[e1]
    exact hc.mono fun e w3 ⟨he,hw3⟩=>by subst he;exact hK _ hw3
 ·simp only[hw,B0,if_false];exact hK _ (Ext.refl _)
structure NewAt (P:Program) (o:Oper) (d:Tmp) (c:Array Value) (e:TypeId):Prop where
 dst:o.dst=some d
 guard:o.guard=none
 run:∀ (a:Act) (w:World),(execOp a.eval o).run P w= .ok (.value (.pointer (some ⟨w.heap.size,0,none⟩))) (w.alloc (.cells c e))
def dstsOf (ops:Array Oper) (n:Nat):List Tmp:=(ops.toList.take n).filterMap (·.dst)
theorem ldO_le {o:Oper} {i:Nat} (h:ldO o<=i):∀e∈o.after,Am .any e=true->e.on<i:=by
 have:∀l:List Edge,l.foldr (fun e m=>bif Am .any e then max m (e.on+1) else m) 0<=i->∀e∈l,Am .any e=true->e.on<i:=by
  intro l
  induction l with
  |nil=>intro _ e he;cases he
  |cons x l ih=>
   intro h e he hb
   simp only[Bh] at h
   rcases A9.1 he with rfl|he
   ·rw[hb] at h;simp only[cond_true] at h;omega
   ·refine ih ?_ e he hb
    cases hx:Am .any x<;>simp only[hx,cond_true,cond_false] at h<;>omega
 exact fun e he=>this o.after.toList h e (BW.2 he)
theorem ldO_gt {o:Oper} {i:Nat} (h:i<ldO o):∃e∈o.after,Am .any e=true/\i<=e.on:=by
 have:∀l:List Edge,i<l.foldr (fun e m=>bif Am .any e then max m (e.on+1) else m) 0->∃e∈l,Am .any e=true/\i<=e.on:=by
  intro l
  induction l with
  |nil=>intro h;simp at h
  |cons x l ih=>
   intro h
   simp only[Bh] at h
   cases hx:Am .any x with
   |false=>
    simp only[hx,cond_false] at h
    obtain⟨e,h1,h2⟩:=ih h
    exact⟨e,A5 _ h1,h2⟩
   |true=>
    simp only[hx,cond_true] at h
    by_cases hi:i<=x.on
    ·exact⟨x,A7,hx,hi⟩
    ·obtain⟨e,h1,h2⟩:=ih (by omega)
     exact⟨e,A5 _ h1,h2⟩
 obtain⟨e,h1,h2⟩:=this o.after.toList h
 exact⟨e,BW.1 h1,h2⟩
theorem bare_step {Q:Exit->Act->World->Prop} (hQp:∀c a w,¬Q (.panic c) a w) {i:Nat} {o:Oper} {K:Act->World->Prop} (hi:ops[i]?=some o) (hb:bareOp o=true) (h:wpOp P ops Q i K a w):∃v,Yields P ops o v a/\K (a.put o.dst v) w:=by
 simp only[bareOp,A3] at hb
 have hg:o.guard=none:=by simpa using hb.1
 have hw:AI o (yielded ops a.tmps)=true:=by simp[AI,hg]
 unfold wpOp at h
 simp only[hi,hw,if_true] at h
 have h2:=hb.2
 split at h2
 ·rename_i x i ho
  rcases h with h|⟨h,_⟩
  ·simp only[Oper.wp,execOp,ho,Ac] at h
   cases hx:a.eval x<;>simp[hx,Instr.extract,Oper.upon] at h
   rename_i vs
   cases hv:vs[i]? with
   |none=>rw[hv] at h;simp[Oper.upon] at h
   |some u=>
    rw[hv] at h
    simp[Oper.upon] at h
    exact⟨u,.inl ⟨hw,fun w'=>by simp[execOp,ho,hx,Instr.extract,hv]⟩,h⟩
  ·exfalso
   have h3:=h.1
   simp only[execOp,ho] at h3
   have h4:∀v,((Next.value <$> Instr.extract v i:Sem Next).runT P w #[]).2= #[]:=by
    intro v
    unfold Instr.extract
    split
    ·split<;>rfl
    ·rfl
   have h5:noRoomEvent∈(#[]:Array Event):=(h4 (a.eval x))▸h3
   cases h5 with|mk h=>cases h
 ·rename_i x ho
  rcases h with h|⟨h,_⟩
  ·simp[Oper.wp,execOp,ho,Oper.upon] at h
   exact⟨a.eval x,.inl ⟨hw,fun w'=>by simp[execOp,ho]⟩,h⟩
  ·exfalso
   have h3:=h.1
   simp only[execOp,ho] at h3
   have h5:noRoomEvent∈(#[]:Array Event):=h3
   cases h5 with|mk h=>cases h
 ·rename_i x ho
  rcases h with h|⟨h,_⟩
  ·simp[Oper.wp,execOp,ho,Oper.upon] at h
   exact⟨a.eval x,.inl ⟨hw,fun w'=>by simp[execOp,ho]⟩,h⟩
  ·exfalso
   have h3:=h.1
   simp only[execOp,ho] at h3
   have h5:noRoomEvent∈(#[]:Array Event):=h3
   cases h5 with|mk h=>cases h
 ·cases h2
theorem any_of_tailGo {Q:Exit->Act->World->Prop} (hQp:∀c a w,¬Q (.panic c) a w) (hsel:Bi ops=true):∀ (l:List Oper) (n:Nat) (listed:Array Bool) (a:Act) (w:World),ops.toList.drop n=l->n<=ops.size->tailGo ops n l=true->
  listed.size=ops.size->(∀i,i<n->listed.getD i false=true)->(∀t,n<=t->t<ops.size->listed.getD t true=false)->
  wpOps P ops Q (Bc n l.length) a w->wpAny P .any ops Q l.length listed a w:=by
 intro l
 induction l with
 |nil=>
  intro n listed a w hl hn hB hsz h1 h2 h
  refine⟨?_,h⟩
  have hle:ops.size<=n:=by simpa using hl
  refine List.eq_nil_iff_forall_not_mem.2 fun i hi=>?_
  obtain⟨hun,oi,hoi,_⟩:=mem_ready.1 hi
  have hlt:i<ops.size:=(AL.1 hoi).1
  have:=h1 i (by omega)
  rw[getD_both hun] at this
  cases this
 |cons o l ih=>
  intro n listed a w hl hn hB hsz h1 h2 h
  have hat:∀j,ops[n+j]?=(o::l)[j]?:=fun j=>by rw[<-hl,Az];simp
  have ho:ops[n]?=some o:=by simpa using hat 0
  have hlt:n<ops.size:=(AL.1 ho).1
  have hrest:∀j p,n<j->ops[j]?=some p->p∈l:=by
   intro j p hj hp
   have:=hat (j-n)
   rw[show n+(j-n)=(j:Nat) by omega,hp,show j-n=(j-n-1)+1 by omega,List.getElem?_cons_succ] at this
   exact BX this.symm
  simp only[tailGo,A3,decide_eq_true_eq] at hB
  obtain⟨⟨hd,halt⟩,hB'⟩:=hB
  have hmem:n∈B5 .any ops listed:=mem_ready.2 ⟨h2 n (Au _) hlt,o,ho,fun e he hb=>h1 e.on (ldO_le hd e he hb)⟩
  have hset:(listed.setIfInBounds n true).size=ops.size/\(∀i,i<n+1->(listed.setIfInBounds n true).getD i false=true)/\(∀t,n+1<=t->t<ops.size->(listed.setIfInBounds n true).getD t true=false):=by
   refine⟨by simp[hsz],fun i hi=>?_,fun t ht ht'=>by rw[getD_set_ne true (by omega)];exact h2 t (by omega) ht'⟩
   by_cases hin:i=n
   ·subst hin
    have:i<listed.size:=by omega
    simp[AH,this]
   ·rw[getD_set_ne false (Ne.symm hin)];exact h1 i (by omega)
  have hl':ops.toList.drop (n+1)=l:=by rw[<-Bk,hl];rfl
  rw[BO,List.range'_succ,wpOps_cons] at h
  rcases AS _ _▸halt with halt|halt
  ·refine⟨fun h1=>(by rw[h1] at hmem;cases hmem),fun i hi=>?_⟩
   obtain⟨hun,oi,hoi,hall⟩:=mem_ready.1 hi
   have hin:i=n:=by
    rcases Nat.lt_trichotomy i n with hi'|hi'|hi'
    ·have:=h1 i hi'
     rw[getD_both hun] at this
     cases this
    ·exact hi'
    ·exfalso
     have:=AM.1 halt oi (hrest i oi hi' hoi)
     obtain⟨e,he,hb,hle⟩:=ldO_gt (of_decide_eq_true this)
     have h3:=hall e he hb
     rcases BP e.on ops.size with h4|h4
     ·rw[getD_both (h2 e.on hle h4)] at h3;cases h3
     ·rw[AH,AT (by omega)] at h3;cases h3
   subst hin
   exact wpOp_mono (fun a' w' h'=>ih (i+1) _ a' w' hl' hlt hB' hset.1 hset.2.1 hset.2.2 h') h
  ·simp only[A3,AM,AS] at halt
   obtain⟨v,hy,hK⟩:=bare_step hQp ho halt.1 h
   refine wpAny_first ho (fun j oj cs b hj=>BI hsel j oj cs b hj) (fun c a w h=>absurd h (hQp c _ w)) _ _ _ _ (fun j oj hj hji hju hno=>?_) hmem hy (ih (n+1) _ _ _ hl' hlt hB' hset.1 hset.2.1 hset.2.2 hK)
   have hjn:n<j:=by
    rcases BP j n with h'|h'
    ·have:=h1 j h'
     rw[getD_both hju] at this
     cases this
    ·omega
   rcases halt.2 oj (hrest j oj hjn hj) with h'|h'
   ·obtain⟨e,he,hb⟩:=Array.any_eq_true'.1 h'
    simp only[A3,beq_iff_eq] at hb
    exact absurd hb.2 (hno e he hb.1)
   ·exact h'
theorem any_of_tail {Q:Exit->Act->World->Prop} (hQp:∀c a w,¬Q (.panic c) a w) (hsel:Bi ops=true) {n:Nat} {listed:Array Bool} (hn:n<=ops.size) (hB:tailB ops n=true) (inv:HeadInv .any ops n listed) (h1:∀i,i<n->listed.getD i false=true)
  (h:wpOps P ops Q (Bc n (ops.size-n)) a w):wpAny P .any ops Q (ops.size-n) listed a w:=by
 simp only[tailB,A3] at hB
 have hl:(ops.toList.drop n).length=ops.size-n:=by simp
 have:=any_of_tailGo (P:=P) hQp hsel (ops.toList.drop n) n listed a w rfl hn hB.2 inv.size h1 inv.tail (by rw[hl];exact h)
 rwa [hl] at this
theorem fold_listed (n:Nat):∀ (k:Nat) (l:Array Bool),((As n).foldl (fun l i=>l.setIfInBounds i true) l).size=l.size/\
  (k<n->k<l.size->((As n).foldl (fun l i=>l.setIfInBounds i true) l)[k]?=some true)/\(n<=k->((As n).foldl (fun l i=>l.setIfInBounds i true) l)[k]?=l[k]?):=by
 induction n with
 |zero=>intro k l;exact⟨rfl,fun h=>absurd h (by omega),fun _=>rfl⟩
 |succ n ih=>
  intro k l
  rw[List.range_succ,List.foldl_append]
  obtain⟨h1,h2,h3⟩:=ih k l
  refine⟨by simpa using h1,fun hk hs=>?_,fun hk=>?_⟩
  ·show(((As n).foldl _ l).setIfInBounds n true)[k]?=some true
   by_cases hkn:n=k
   ·subst hkn
    rw[AE (by rw[h1];exact hs)]
   ·rw[Aw hkn];exact h2 (by omega) hs
  ·show(((As n).foldl _ l).setIfInBounds n true)[k]?=l[k]?
   rw[Aw (by omega)];exact h3 (by omega)
theorem fix_parts:∀ {l:List Oper} {a aL:Act},(∀ (i:Nat) o,l[i]?=some o->∃d,o.dst=some d)->(∀ (i j:Nat) o p,l[i]?=some o->l[j]?=some p->i≠j->o.dst≠p.dst)->wpFix P ops w (fun x=>x=aL) l a->
  aL.defers=a.defers/\aL.tmps.size=a.tmps.size/\(∀t,(∀ (i:Nat) o,l[i]?=some o->o.dst≠some t)->aL.tmps[t]?=a.tmps[t]?)/\
  ∃vs:List Value,vs.length=l.length/\∀ (i:Nat) o,l[i]?=some o->∃ai v,vs[i]?=some v/\FixV P ops o ai w v/\(∀d,o.dst=some d->∀b:Act,b.tmps.size=a.tmps.size->aL.tmps[d]?=(b.put (some d) v).tmps[d]?)/\
   (∀t,(∀ (j:Nat) p,l[j]?=some p->i<=j->p.dst≠some t)->ai.tmps[t]?=aL.tmps[t]?)/\(∀t,(∀ (j:Nat) p,l[j]?=some p->p.dst≠some t)->ai.tmps[t]?=a.tmps[t]?):=by
 intro l
 induction l with
 |nil=>
  intro a aL _ _ h
  have h':a=aL:=h
  subst h'
  exact⟨rfl,rfl,fun _ _=>rfl,[],rfl,fun i o h=>by simp at h⟩
 |cons o l ih=>
  intro a aL hd hne h
  obtain⟨v,hv,hr⟩:=h
  obtain⟨d,hdo⟩:=hd 0 o rfl
  obtain⟨k1,k2,k3,vs,k4,k5⟩:=ih (fun i o h=>hd (i+1) o (by simpa using h)) (fun i j o p h1 h2 h3=>hne (i+1) (j+1) o p (by simpa using h1) (by simpa using h2) (by omega)) hr
  refine⟨k1.trans (put_defers _ _),k2.trans (put_size _ _),fun t ht=>?_,v::vs,by simp[k4],fun i p hp=>?_⟩
  ·rw[k3 t (fun i o h=>ht (i+1) o (by simpa using h))]
   exact put_other _ _ t (fun e=>ht 0 o rfl e.symm)
  ·cases i with
   |zero=>
    have hp':o=p:=by simpa using hp
    subst hp'
    refine⟨a,v,rfl,hv,fun d' hd' b hb=>?_,fun t ht=>?_,fun t _=>rfl⟩
    ·rw[k3 d' (fun i q hq he=>hne 0 (i+1) o q rfl (by simpa using hq) (by omega) (hd'.trans he.symm)),hd']
     simp only[Act.put]
     by_cases hlt:d'<a.tmps.size
     ·rw[AE hlt,AE (by rw[hb];exact hlt)]
     ·rw[AT (by rw[AZ];exact Ak hlt),AT (by rw[AZ,hb];exact Ak hlt)]
    ·rw[k3 t (fun i q hq=>ht (i+1) q (by simpa using hq) (by omega))]
     exact(put_other _ _ t (fun e=>ht 0 o rfl (Au _) e.symm)).symm
   |succ i=>
    obtain⟨ai,u,q1,q2,q3,q4,q5⟩:=k5 i p (by simpa using hp)
    refine⟨ai,u,by simpa using q1,q2,fun d' hd' b hb=>q3 d' hd' b (by rw[hb];exact(put_size _ _).symm),fun t ht=>q4 t (fun j q hq hij=>ht (j+1) q (by simpa using hq) (by omega)),fun t ht=>?_⟩
    rw[q5 t (fun j q hq=>ht (j+1) q (by simpa using hq))]
    exact put_other _ _ t (fun e=>ht 0 o rfl e.symm)
end
end Go.Proofs.YtacbkfginiknaaaDoor.V
namespace Go.Proofs.YtacbkfginiknaaaDoor.V
open Go
section
variable {P:Program} {ops:Array Oper} {a:Act} {w:World}
theorem countP_one {f g:Nat->Bool} {i:Nat}:∀ {l:List Nat},l.Nodup->i∈l->f i=true->g i=false->(∀j∈l,j≠i->g j=f j)->l.countP f=l.countP g+1:=by
 intro l
 induction l with
 |nil=>intro _ h;cases h
 |cons x l ih=>
  intro hn hi h1 h2 h3
  rw[AV] at hn
  rw[Be,Be]
  rcases A9.1 hi with rfl|hi
  ·have:l.countP f=l.countP g:=by
    apply List.countP_congr
    intro j hj
    rw[h3 j (A5 _ hj) (fun e=>hn.1 (e▸hj))]
   rw[h1,h2,this];simp
  ·have hx:x≠i:=fun e=>hn.1 (e▸hi)
   rw[h3 x A7 hx,ih hn.2 hi h1 h2 (fun j hj=>h3 j (A5 _ hj))]
   omega
structure MixInv (ops:Array Oper) (m n:Nat) (a aL:Act) (w:World) (inf:Nat->Tmp×Array Value×TypeId) (bl:Nat->Nat) (listed:Array Bool) (a':Act) (w':World):Prop where
 head:HeadInv .any ops n listed
 ext:Ext w w'
 dfr:a'.defers=a.defers
 siz:a'.tmps.size=a.tmps.size
 oth:∀t,(∀i o,i<n->ops[i]?=some o->o.dst≠some t)->a'.tmps[t]?=a.tmps[t]?
 fix:∀i o d,i<m->ops[i]?=some o->o.dst=some d->listed.getD i false=true->a'.tmps[d]?=aL.tmps[d]?
 new:∀i,m<=i->i<n->listed.getD i false=true->(∀b:Act,b.tmps.size=a.tmps.size->a'.tmps[(inf i).1]?=(b.put (some (inf i).1) (.pointer (some ⟨bl i,0,none⟩))).tmps[(inf i).1]?)/\
  w.heap.size<=bl i/\bl i<w'.heap.size/\w'.heap[bl i]?=some (.cells (inf i).2.1 (inf i).2.2 (0,0))
 inj:∀i j,m<=i->i<n->m<=j->j<n->listed.getD i false=true->listed.getD j false=true->bl i=bl j->i=j
theorem tail_waits2 {m n:Nat} {listed:Array Bool} (hs:∀i,i<n->lateB ops m n i=false->∃j,j<=n/\i<j/\Ai .any ops j i=true/\(j=n\/lateB ops m n j=false)) (hc:tailB ops n=true) (hn:n<ops.size) (inv:HeadInv .any ops n listed):
  ∀ (d i:Nat),n-i=d->i<n->lateB ops m n i=false->listed.getD i true=false->∀t,n<=t->t∉B5 .any ops listed:=by
 intro d
 induction d using BT with
 |_ d ih=>
  intro i hd hi hnl hun t ht hr
  obtain⟨_,ot,hot,hall⟩:=mem_ready.1 hr
  have htlt:t<ops.size:=(AL.1 hot).1
  by_cases htn:t=n
  ·subst htn
   obtain⟨j,hj,hij,hw,hjn⟩:=hs i hi hnl
   obtain⟨oj,hoj,e,he,hb,hon⟩:=B7 hw
   by_cases hjt:j=t
   ·subst hjt
    rw[hot] at hoj
    have:=A8 hoj
    subst this
    have h2:=hall e he hb
    rw[hon,getD_both hun] at h2
    cases h2
   ·cases hl:listed.getD j false with
    |true=>
     have h2:=inv.closed j oj hoj hl e he hb
     rw[hon,getD_both hun] at h2
     cases h2
    |false=>
     have hjs:j<listed.size:=by rw[inv.size];omega
     exact ih (t-j) (by omega) j rfl (by omega) (hjn.resolve_left hjt) (getD_in hjs hl) t (Au _) hr
  ·simp only[tailB,A3,AM,decide_eq_true_eq] at hc
   have hmem:ot∈ops.toList.drop (n+1):=by
    refine BX (i:=t-(n+1)) ?_
    rw[Az,show n+1+(t-(n+1))=t by omega]
    simpa using hot
   obtain⟨e,he,hb,hle⟩:=ldO_gt (hc.1 ot hmem)
   have h2:=hall e he hb
   rcases BP e.on ops.size with h4|h4
   ·rw[getD_both (inv.tail e.on hle h4)] at h2;cases h2
   ·rw[AH,AT (by rw[inv.size];omega)] at h2;cases h2
theorem bare_yields {o:Oper} {v:Value} (hb:bareOp o=true) (h:FixV P ops o a w v):Yields P ops o v a:=by
 simp only[bareOp,A3] at hb
 have hg:o.guard=none:=by simpa using hb.1
 have hw:AI o (yielded ops a.tmps)=true:=by simp[AI,hg]
 rcases h with⟨_,hf⟩|⟨h,_⟩
 ·refine .inl ⟨hw,fun w'=>?_⟩
  have h1:=hf w (Ext.refl w)
  have h2:=hb.2
  split at h2
  ·rename_i x i ho
   simp only[execOp,ho,Ac] at h1 ⊢
   cases hx:a.eval x<;>simp[hx,Instr.extract,fixUpon] at h1 ⊢
   rename_i vs
   cases hi:vs[i]? with
   |none=>rw[hi] at h1;simp[fixUpon] at h1
   |some u=>rw[hi] at h1;simp[fixUpon] at h1;simp[h1]
  ·rename_i x ho
   simp only[execOp,ho] at h1 ⊢
   have:a.eval x=v:=by simpa[fixUpon] using h1
   simp[this]
  ·rename_i x ho
   simp only[execOp,ho] at h1 ⊢
   have:a.eval x=v:=by simpa[fixUpon] using h1
   simp[this]
  ·cases h2
 ·rw[hw] at h;cases h
theorem listed_of_not {listed:Array Bool} {i:Nat} (hi:i<listed.size) (h:¬listed.getD i true=false):listed.getD i false=true:=by
 simp only[AH,BB hi,BN] at h ⊢
 simpa using h
theorem listed_set {listed:Array Bool} {i j:Nat} (h:(listed.setIfInBounds i true).getD j false=true) (hne:j≠i):listed.getD j false=true:=by
 rwa [getD_set_ne false (Ne.symm hne)] at h
theorem put_same {d:Tmp} {v:Value} {b b':Act} (h:b.tmps.size=b'.tmps.size):(b.put (some d) v).tmps[d]?=(b'.put (some d) v).tmps[d]?:=by
 simp only[Act.put]
 by_cases hlt:d<b.tmps.size
 ·rw[AE hlt,AE (by rw[<-h];exact hlt)]
 ·rw[AT (by rw[AZ];exact Ak hlt),AT (by rw[AZ,<-h];exact Ak hlt)]
theorem mix_any {Q:Exit->Act->World->Prop} {m n:Nat} {aL:Act} {inf:Nat->Tmp×Array Value×TypeId} (hQp:∀c a w,¬Q (.panic c) a w) (hB:mixB ops m n=true) (hfix:wpFix P ops w (fun x=>x=aL) (ops.toList.take m) a)
  (hnew:∀i,m<=i->i<n->∃o,ops[i]?=some o/\NewAt P o (inf i).1 (inf i).2.1 (inf i).2.2)
  (hQ:∀ (a':Act) (w':World) (bl:Nat->Nat),a'.defers=a.defers->a'.tmps.size=a.tmps.size->(∀t,(∀i,m<=i->i<n->(inf i).1≠t)->a'.tmps[t]?=aL.tmps[t]?)->
   (∀i,m<=i->i<n->(∀b:Act,b.tmps.size=a.tmps.size->a'.tmps[(inf i).1]?=(b.put (some (inf i).1) (.pointer (some ⟨bl i,0,none⟩))).tmps[(inf i).1]?)/\
    w.heap.size<=bl i/\bl i<w'.heap.size/\w'.heap[bl i]?=some (.cells (inf i).2.1 (inf i).2.2 (0,0)))->
   (∀i j,m<=i->i<n->m<=j->j<n->bl i=bl j->i=j)->Ext w w'->wpOps P ops Q (Bc n (ops.size-n)) a' w'):
  ∀ (k:Nat) (listed:Array Bool) (a':Act) (w':World) (bl:Nat->Nat),(As n).countP (fun i=> !listed.getD i true)=k->MixInv ops m n a aL w inf bl listed a' w'->wpAny P .any ops Q (k+(ops.size-n)) listed a' w':=by
 simp only[mixB,A3,decide_eq_true_eq,AM,Ah] at hB
 obtain⟨⟨⟨⟨hsel,hmn⟩,hns⟩,hops⟩,htail⟩:=hB
 have hop:∀i,i<n->∃o d,ops[i]?=some o/\o.dst=some d/\(∀e∈o.after,Am .any e=true->e.on<i)/\(∀j p,j<n->j≠i->ops[j]?=some p->p.dst≠some d)/\
   (i<m->∀j p t,j<n->ops[j]?=some p->p.dst=some t->t∈o.looksAt ops->j<m/\j<i/\Ai .any ops i j=true)/\
   (n<ops.size->(lateB ops m n i=true->bareOp o=true/\∀j p,ops[j]?=some p->j≠i->Ai .any ops j i=true\/Ai .any ops i j=true\/o.apart ops p=true)/\
    (lateB ops m n i=false->∃j,j<=n/\i<j/\Ai .any ops j i=true/\(j=n\/lateB ops m n j=false))):=by
  intro i hi
  have h:=hops i hi
  cases ho:ops[i]? with
  |none=>rw[ho] at h;simp at h
  |some o=>
   rw[ho] at h
   simp only[A3,AM,Ah] at h
   obtain⟨⟨⟨⟨h1,h2⟩,h3⟩,h4⟩,h5⟩:=h
   cases hd:o.dst with
   |none=>rw[hd] at h1;simp at h1
   |some d=>
    refine⟨o,d,rfl,hd,fun e he hb=>?_,fun j p hj hne hp he=>?_,fun him j p t hj hp ht hl=>?_,fun hlt=>?_⟩
    ·have:=Array.all_eq_true_iff_forall_mem.1 h2 e he
     simp only[hb,Ay,BK,decide_eq_true_eq] at this
     exact this
    ·have:=h3 j hj
     rw[hp] at this
     simp only[AS,beq_iff_eq,AJ,beq_eq_false_iff_ne,ne_eq] at this
     rcases this with h|h
     ·exact hne h
     ·exact h (he.trans hd.symm)
    ·simp only[AS,decide_eq_true_eq,AM,Ah] at h4
     rcases h4 with h|h
     ·omega
     ·have:=h j hj
      rw[hp] at this
      simp only[AQ,ht,AS,AJ,A3,decide_eq_true_eq] at this
      rcases this with h|h
      ·simp[B2,hl] at h
      ·exact⟨h.1.1,h.1.2,h.2⟩
    ·have h6:(bif lateB ops m n i then bareOp o&&(As ops.size).all (fun j=>j==i||Ai .any ops j i||Ai .any ops i j||(match ops[j]? with|some p=>o.apart ops p|none=>true))
       else(As (n+1)).any (fun j=>decide (i<j)&&Ai .any ops j i&&(j==n|| !lateB ops m n j)))=true:=by
      rcases AS _ _▸h5 with h|h
      ·have:n=ops.size:=by simpa using h
       omega
      ·exact h
     refine⟨fun hla=>?_,fun hla=>?_⟩
     ·rw[hla] at h6
      simp only[cond_true,A3,AM,Ah] at h6
      refine⟨h6.1,fun j p hp hne=>?_⟩
      have:=h6.2 j (AL.1 hp).1
      rw[hp] at this
      simp only[AS,beq_iff_eq] at this
      rcases this with((h|h)|h)|h
      ·exact absurd h hne
      ·exact .inl h
      ·exact .inr (.inl h)
      ·exact .inr (.inr h)
     ·rw[hla] at h6
      simp only[cond_false,List.any_eq_true,Ah,A3,decide_eq_true_eq,AS,beq_iff_eq,AJ] at h6
      obtain⟨j,h7,⟨h8,h9⟩,h10⟩:=h6
      exact⟨j,by omega,h8,h9,h10⟩
 have hdm:∀ (i:Nat) o,(ops.toList.take m)[i]?=some o->i<m/\ops[i]?=some o:=by
  intro i o h
  rw[Al] at h
  split at h
  ·exact⟨by assumption,by simpa using h⟩
  ·cases h
 obtain⟨f1,f2,f3,vs,f4,f5⟩:=fix_parts (fun i o h=>by
   obtain⟨h1,h2⟩:=hdm i o h
   obtain⟨o',d,e1,e2,_⟩:=hop i (by omega)
   rw[h2] at e1
   exact⟨d,by rw[A8 e1];exact e2⟩)
  (fun i j o p h1 h2 hne he=>by
   obtain⟨i1,i2⟩:=hdm i o h1
   obtain⟨j1,j2⟩:=hdm j p h2
   obtain⟨o',d,e1,e2,_,e3,_,_⟩:=hop i (by omega)
   rw[i2] at e1
   have:=A8 e1
   subst this
   exact e3 j p (by omega) (Ne.symm hne) j2 (by rw[<-he];exact e2)) hfix
 have hat:∀i o,i<m->ops[i]?=some o->(ops.toList.take m)[i]?=some o:=by
  intro i o hi ho
  rw[Al,if_pos hi]
  simpa using ho
 intro k
 induction k with
 |zero=>
  intro listed a' w' bl hk inv
  have hall:∀i,i<n->listed.getD i false=true:=by
   intro i hi
   refine listed_of_not (by rw[inv.head.size];omega) (fun h=>?_)
   have:=List.countP_eq_zero.1 hk i (Ah.2 hi)
   simp[h] at this
  rw[Ba]
  refine any_of_tail hQp hsel hns htail inv.head hall (hQ a' w' bl inv.dfr inv.siz (fun t ht=>?_) (fun i h1 h2=>inv.new i h1 h2 (hall i h2)) (fun i j h1 h2 h3 h4=>inv.inj i j h1 h2 h3 h4 (hall i h2) (hall j h4)) inv.ext)
  by_cases hd:∃i o,i<n/\ops[i]?=some o/\o.dst=some t
  ·obtain⟨i,o,hi,ho,hdt⟩:=hd
   by_cases him:i<m
   ·exact inv.fix i o t him ho hdt (hall i hi)
   ·exfalso
    obtain⟨o',ho',hN⟩:=hnew i (by omega) hi
    rw[ho] at ho'
    have:=A8 ho'
    subst this
    refine ht i (by omega) hi ?_
    have:=hN.dst
    rw[hdt] at this
    exact(A8 this).symm
  ·rw[inv.oth t (fun i o hi ho he=>hd ⟨i,o,hi,ho,he⟩),f3 t (fun i o h he=>by
    obtain⟨h1,h2⟩:=hdm i o h
    exact hd ⟨i,o,by omega,h2,he⟩)]
 |succ k ih=>
  intro listed a' w' bl hk inv
  rw[show k+1+(ops.size-n)=(k+(ops.size-n))+1 by omega]
  have hex:∃i,i<n/\listed.getD i true=false:=by
   obtain⟨i,hi,h⟩:=List.countP_pos_iff.1 (show 0<(As n).countP (fun i=> !listed.getD i true) by omega)
   exact⟨i,Ah.1 hi,by simpa using h⟩
  have hrdy:∃i,i∈B5 .any ops listed:=by
   obtain⟨i,hi,h⟩:=hex
   induction i using BT with
   |_ i ihi=>
    by_cases hlow:∃j,j<i/\listed.getD j true=false
    ·obtain⟨j,hj,hj2⟩:=hlow
     exact ihi j hj (by omega) hj2
    ·obtain⟨o,d,e1,_,e3,_⟩:=hop i hi
     refine⟨i,mem_ready.2 ⟨h,o,e1,fun e he hb=>?_⟩⟩
     have hlt:=e3 e he hb
     exact listed_of_not (by rw[inv.head.size];omega) (fun hn=>hlow ⟨e.on,hlt,hn⟩)
  have hcount:∀i,i<n->listed.getD i true=false->(As n).countP (fun j=> !(listed.setIfInBounds i true).getD j true)=k:=by
   intro i hin hun
   have:=countP_one (f:=fun j=> !listed.getD j true) (g:=fun j=> !(listed.setIfInBounds i true).getD j true) (i:=i) (List.nodup_range) (Ah.2 hin) (by simp only[hun];rfl)
    (by
     have hlt:i<listed.size:=by rw[inv.head.size];omega
     simp[AH,hlt])
    (fun j _ hj=>by
     have:=getD_set_ne (listed:=listed) true (Ne.symm hj)
     simp only[this])
   omega
  have hfx:∀i∈B5 .any ops listed,i<m->∃oi v,ops[i]?=some oi/\FixV P ops oi a' w v/\∀w2,Ext w' w2->MixInv ops m n a aL w inf bl (listed.setIfInBounds i true) (a'.put oi.dst v) w2:=by
   intro i hi him
   have hin:i<n:=by omega
   obtain⟨hun,oi,hoi,hwait⟩:=mem_ready.1 hi
   obtain⟨o,d,e1,e2,e3,e4,e5,_⟩:=hop i hin
   rw[hoi] at e1
   have:=A8 e1
   subst this
   have head':=inv.head.set hi hin
   obtain⟨ai,v,g1,g2,g3,g4,g5⟩:=f5 i oi (hat i oi him hoi)
   refine⟨oi,v,hoi,?_,fun w2 hw2=>?_⟩
   ·refine g2.congr (fun cs b=>BI hsel i oi cs b hoi) (fun t ht=>?_)
    by_cases hd:∃j p,j<n/\ops[j]?=some p/\p.dst=some t
    ·obtain⟨j,p,hj,hp,hpt⟩:=hd
     obtain⟨j1,j2,j3⟩:=e5 him j p t hj hp hpt ht
     obtain⟨oj,hoj,e,he,hb,hon⟩:=B7 j3
     rw[hoi] at hoj
     have:=A8 hoj
     subst this
     have hlj:=hwait e he hb
     rw[hon] at hlj
     rw[inv.fix j p t j1 hp hpt hlj]
     symm
     refine g4 t (fun q r hr hq hrd=>?_)
     obtain⟨q1,q2⟩:=hdm q r hr
     obtain⟨p',d',z1,z2,_,z4,_,_⟩:=hop j hj
     rw[hp] at z1
     have:=A8 z1
     subst this
     rw[hpt] at z2
     have:=A8 z2
     subst this
     exact z4 q r (by omega) (by omega) q2 hrd
    ·rw[inv.oth t (fun j p hj hp he=>hd ⟨j,p,hj,hp,he⟩)]
     exact(g5 t (fun j p hp he=>by
      obtain⟨q1,q2⟩:=hdm j p hp
      exact hd ⟨j,p,by omega,q2,he⟩)).symm
   ·have hput:∀t,t≠d->(a'.put oi.dst v).tmps[t]?=a'.tmps[t]?:=fun t ht=>put_other _ _ t (fun e=>ht (by rw[e2] at e;exact A8 e))
    refine⟨head',inv.ext.trans hw2,(put_defers _ _).trans inv.dfr,(put_size _ _).trans inv.siz,fun t ht=>?_,fun j p t hj hp hpt hlj=>?_,fun j h1 h2 hlj=>?_,fun j l h1 h2 h3 h4 h5 h6=>?_⟩
    ·rw[hput t (fun e=>ht i oi hin hoi (by rw[e2,e]))]
     exact inv.oth t ht
    ·by_cases hji:j=i
     ·subst hji
      rw[hoi] at hp
      have:=A8 hp
      subst this
      rw[hpt,g3 t hpt a' inv.siz]
     ·rw[hput t (fun e=>e4 j p (by omega) hji hp (by rw[hpt,e]))]
      exact inv.fix j p t hj hp hpt (listed_set hlj hji)
    ·have hji:j≠i:=by omega
     obtain⟨n1,n2,n3,n4⟩:=inv.new j h1 h2 (listed_set hlj hji)
     obtain⟨oj,hoj,hN⟩:=hnew j h1 h2
     refine⟨fun b hb=>?_,n2,AX n3 hw2.size,(hw2.block _ n3).trans n4⟩
     rw[hput _ (fun e=>e4 j oj h2 hji hoj (by rw[hN.dst,e]))]
     exact n1 b hb
    ·exact inv.inj j l h1 h2 h3 h4 (listed_set h5 (by omega)) (listed_set h6 (by omega))
  by_cases hlt:∃i,i∈B5 .any ops listed/\n<ops.size/\lateB ops m n i=true
  ·obtain⟨i,hi,hns',hla⟩:=hlt
   have him:i<m:=by simp only[lateB,A3,decide_eq_true_eq] at hla;exact hla.1
   obtain⟨hun,_,_,hwait⟩:=mem_ready.1 hi
   obtain⟨oi,v,hoi,hv,hinv⟩:=hfx i hi him
   obtain⟨o,d,e1,e2,e3,e4,e5,e6⟩:=hop i (by omega)
   rw[hoi] at e1
   have:=A8 e1
   subst this
   obtain⟨hbare,hap⟩:=(e6 hns').1 hla
   refine wpAny_first hoi (fun j oj cs b hj=>BI hsel j oj cs b hj) (fun c a w h=>absurd h (hQp c _ w)) _ _ _ _ (fun j oj hj hji hju hno=>?_) hi (bare_yields hbare hv) (ih _ _ _ bl (hcount i (by omega) hun) (hinv w' (Ext.refl _)))
   rcases hap j oj hj hji with h|h|h
   ·obtain⟨o',ho',e,he,hb,hon⟩:=B7 h
    rw[hj] at ho'
    have:=A8 ho'
    subst this
    exact absurd hon (hno e he hb)
   ·obtain⟨o',ho',e,he,hb,hon⟩:=B7 h
    obtain⟨_,o2,ho2,hw2⟩:=mem_ready.1 hi
    rw[ho'] at ho2
    have:=A8 ho2
    subst this
    have h1:=hw2 e he hb
    rw[hon,getD_both hju] at h1
    cases h1
   ·exact h
  have hlow:∀i∈B5 .any ops listed,i<n:=by
   intro i hi
   obtain⟨hun,oi,hoi,_⟩:=mem_ready.1 hi
   have hlt':i<ops.size:=(AL.1 hoi).1
   rcases BP i n with h|h
   ·exact h
   ·exfalso
    rcases(Or.inr htail:n=ops.size\/tailB ops n=true) with h'|h2
    ·omega
    ·-- the least that is still to come is ready,so it isn't late
     obtain⟨j,hj,hj2,hj3⟩:∃j,j<n/\listed.getD j true=false/\j∈B5 .any ops listed:=by
      obtain⟨i,hi,h⟩:=hex
      induction i using BT with
      |_ i ihi=>
       by_cases hlow:∃j,j<i/\listed.getD j true=false
       ·obtain⟨j,hj,hj2⟩:=hlow
        exact ihi j hj (by omega) hj2
       ·obtain⟨o,d,e1,_,e3,_⟩:=hop i hi
        refine⟨i,hi,h,mem_ready.2 ⟨h,o,e1,fun e he hb=>?_⟩⟩
        have hlt:=e3 e he hb
        exact listed_of_not (by rw[inv.head.size];omega) (fun hn=>hlow ⟨e.on,hlt,hn⟩)
     have hnl:lateB ops m n j=false:=by
      cases hla:lateB ops m n j with
      |false=>rfl
      |true=>exact absurd ⟨j,hj3,by omega,hla⟩ hlt
     exact tail_waits2 (fun i hi hl=>((hop i hi).choose_spec.choose_spec.2.2.2.2.2 (by omega)).2 hl) h2 (by omega) inv.head _ j rfl hj hnl hj2 i h hi
  refine⟨fun h=>?_,fun i hi=>?_⟩
  ·obtain⟨i,hi⟩:=hrdy
   rw[h] at hi;cases hi
  ·have hin:=hlow i hi
   obtain⟨hun,oi,hoi,hwait⟩:=mem_ready.1 hi
   obtain⟨o,d,e1,e2,e3,e4,e5,_⟩:=hop i hin
   rw[hoi] at e1
   have:=A8 e1
   subst this
   have head':=inv.head.set hi hin
   by_cases him:i<m
   ·obtain⟨oj,v,hoj,hv,hinv⟩:=hfx i hi him
    rw[hoi] at hoj
    have:=A8 hoj
    subst this
    exact hv.run hoi inv.ext (fun w2 hw2=>ih _ _ _ bl (hcount i hin hun) (hinv w2 hw2))
   ·-- a new box
    obtain⟨oj,hoj,hN⟩:=hnew i (by omega) hin
    rw[hoi] at hoj
    have:=A8 hoj
    subst this
    have hd:d=(inf i).1:=by have:=hN.dst;rw[e2] at this;exact A8 this
    unfold wpOp
    simp only[hoi,AI,hN.guard,if_true]
    left
    unfold Oper.wp
    rw[hN.run a' w',Oper.upon_value]
    have hext:=Ext.alloc w' (.cells (inf i).2.1 (inf i).2.2)
    refine ih _ _ _ (fun j=>if j=i then w'.heap.size else bl j) (hcount i hin hun) ?_
    have hput:∀t,t≠d->(a'.put oi.dst (.pointer (some ⟨w'.heap.size,0,none⟩))).tmps[t]?=a'.tmps[t]?:=fun t ht=>put_other _ _ t (fun e=>ht (by rw[e2] at e;exact A8 e))
    refine⟨head',inv.ext.trans hext,(put_defers _ _).trans inv.dfr,(put_size _ _).trans inv.siz,fun t ht=>?_,fun j p t hj hp hpt hlj=>?_,fun j h1 h2 hlj=>?_,fun j l h1 h2 h3 h4 h5 h6 h7=>?_⟩
    ·rw[hput t (fun e=>ht i oi hin hoi (by rw[e2,e]))]
     exact inv.oth t ht
    ·have hji:j≠i:=by omega
     rw[hput t (fun e=>e4 j p (by omega) hji hp (by rw[hpt,e]))]
     exact inv.fix j p t hj hp hpt (listed_set hlj hji)
    ·by_cases hji:j=i
     ·subst hji
      simp only[if_true]
      refine⟨fun b hb=>?_,inv.ext.size,by simp,heap_alloc_new w' _⟩
      rw[e2,<-hd]
      exact put_same (inv.siz.trans hb.symm)
     ·simp only[if_neg hji]
      obtain⟨n1,n2,n3,n4⟩:=inv.new j h1 h2 (listed_set hlj hji)
      obtain⟨oj,hoj,hNj⟩:=hnew j h1 h2
      refine⟨fun b hb=>?_,n2,AX n3 hext.size,(hext.block _ n3).trans n4⟩
      rw[hput _ (fun e=>e4 j oj h2 hji hoj (by rw[hNj.dst,e]))]
      exact n1 b hb
    ·by_cases hji:j=i
     ·by_cases hli:l=i
      ·omega
      ·simp only[hji,if_true,if_neg hli] at h7
       have:=(inv.new l h3 h4 (listed_set h6 hli)).2.2.1
       omega
     ·by_cases hli:l=i
      ·simp only[hli,if_true,if_neg hji] at h7
       have:=(inv.new j h1 h2 (listed_set h5 hji)).2.2.1
       omega
      ·simp only[if_neg hji,if_neg hli] at h7
       exact inv.inj j l h1 h2 h3 h4 (listed_set h5 hji) (listed_set h6 hli) h7
end
end Go.Proofs.YtacbkfginiknaaaDoor.V
namespace Go.Proofs.YtacbkfginiknaaaDoor.V
open Go
section
variable {P:Program} {X:Ctx} {E:Env} {σ:St} {A0:Array Value} {a:Act} {w:World} {o:Oper} {R:Type}
theorem flatC_ok {A:Nat->Prop}:∀ {t:Ty} {v:t.den} {cs:List Value},t.flat=true->Rf w A t v cs->cs=flatC t v:=by
 intro t
 induction t with
 |int k=>intro v cs _ h;exact h
 |bool=>intro v cs _ h;exact h
 |str=>intro v cs _ h;exact h
 |unit=>intro v cs _ h;exact h
 |pair a b iha ihb=>
  intro v cs hf h
  simp only[Ty.flat,A3] at hf
  obtain⟨c1,c2,rfl,h1,h2⟩:=h
  rw[iha hf.1 h1,ihb hf.2 h2];rfl
 |st t ih=>intro v cs hf h;exact ih hf h
 |arr n t _=>intro v cs hf;simp[Ty.flat] at hf
 |sl e t _=>intro v cs hf;simp[Ty.flat] at hf
theorem flatO_ok {A:Nat->Prop}:∀ {t:Ty} {v:t.den} {cs:List Value} {bs:List (Option Nat)},t.flat=true->Ow w A t v cs bs->cs=flatC t v:=by
 intro t
 induction t with
 |int k=>intro v cs bs _ h;exact h
 |bool=>intro v cs bs _ h;exact h
 |str=>intro v cs bs _ h;exact h
 |unit=>intro v cs bs _ h;exact h
 |pair a b iha ihb=>
  intro v cs bs hf h
  simp only[Ty.flat,A3] at hf
  obtain⟨c1,c2,rfl,h1,h2⟩:=h
  rw[iha hf.1 h1,ihb hf.2 h2];rfl
 |st t ih=>intro v cs bs hf h;exact ih hf h
 |arr n t _=>intro v cs bs hf;simp[Ty.flat] at hf
 |sl e t _=>intro v cs bs hf;simp[Ty.flat] at hf
theorem flat_nl:∀ {t:Ty},t.flat=true->t.nl=0/\t.deep=false:=by
 intro t
 induction t with
 |pair a b iha ihb=>
  intro hf
  simp only[Ty.flat,A3] at hf
  simp[Ty.nl,Ty.deep,iha hf.1,ihb hf.2]
 |st t ih=>intro hf;exact ih hf
 |arr n t _=>intro hf;simp[Ty.flat] at hf
 |sl e t _=>intro hf;simp[Ty.flat] at hf
 |_=>intro _;simp[Ty.nl,Ty.deep]
theorem flat_val {A:Nat->Prop}:∀ {t:Ty} {v:t.den} {ms:List Nat},t.flat=true->Rv w A E σ t v ms (flatC t v):=by
 intro t
 induction t with
 |pair a b iha ihb=>
  intro v ms hf
  simp only[Ty.flat,A3] at hf
  exact⟨_,_,rfl,iha hf.1,ihb hf.2⟩
 |st t ih=>intro v ms hf;exact ih hf
 |arr n t _=>intro v ms hf;simp[Ty.flat] at hf
 |sl e t _=>intro v ms hf;simp[Ty.flat] at hf
 |int k=>intro v ms _;rfl
 |bool=>intro v ms _;rfl
 |str=>intro v ms _;rfl
 |unit=>intro v ms _;rfl
def flatVs:(rs:List (Ty×Bool))->Tup (resOf rs)->List Value
 |[],_=>[]
 |(t,_)::r,y=>toVal t (flatC t (Tup.hd y))::flatVs r (Tup.tl y)
theorem res_flat {A:Nat->Prop}:∀ {rs:List (Ty×Bool)} {y:Tup (resOf rs)} {vs:List Value} {br:List (List (Option Nat))},flatRes rs=true->ResOk w A rs y vs br->vs=flatVs rs y:=by
 intro rs
 induction rs with
 |nil=>intro y vs br _ h;cases vs<;>cases br<;>first|rfl|exact h.elim
 |cons p rs ih=>
  intro y vs br hf h
  obtain⟨t,o⟩:=p
  simp only[flatRes,A3] at hf
  cases vs with
  |nil=>cases br<;>exact h.elim
  |cons u vs=>cases br with
   |nil=>exact h.elim
   |cons b br=>
    obtain⟨⟨cs,h1,h2⟩,h3⟩:=h
    rw[ih hf.2 h3,h1]
    cases o with
    |true=>rw[flatO_ok hf.1 h2.1];rfl
    |false=>rw[flatC_ok hf.1 h2.1];rfl
theorem resVals_flat:∀ {rs:List (Ty×Bool)} {y:Tup (resOf rs)} {σ:St},flatRes rs=true->(resVals rs y σ).2=σ/\(resVals rs y σ).1.length=(flatVs rs y).length/\
  ∀ {w:World} {A:Nat->Prop} {E:Env} {σ':St} (i:Nat) x u,(resVals rs y σ).1[i]?=some x->(flatVs rs y)[i]?=some u->ValOk w A E σ' x u:=by
 intro rs
 induction rs with
 |nil=>intro y σ _;exact⟨rfl,rfl,fun i x u h=>by simp[resVals] at h⟩
 |cons p rs ih=>
  intro y σ hf
  obtain⟨t,o⟩:=p
  simp only[flatRes,A3] at hf
  have hnl:=(flat_nl hf.1).1
  have hm:(bif o then σ.more t.nl else σ)=σ:=by rw[hnl];cases o<;>rfl
  obtain⟨h1,h2,h3⟩:=ih (y:=Tup.tl y) (σ:=σ) hf.2
  refine⟨?_,?_,fun {w A E σ'} i x u hx hu=>?_⟩
  ·simp only[resVals,hm];exact h1
  ·simp only[resVals,hm,flatVs,BO,h2]
  ·simp only[resVals,hm,flatVs] at hx hu
   cases i with
   |zero=>
    simp only[Aa,A4] at hx hu
    subst hx;subst hu
    exact⟨flatC t (Tup.hd y),flat_val hf.1,rfl,by cases o<;>simp[hnl,St.new]⟩
   |succ i=>exact h3 i x u (by simpa using hx) (by simpa using hu)
theorem flat_shares {s:Sig} (h1:roOnly s.args=true) (h2:flatRes s.res=true):shares s=false:=by
 have e1:∀ {rs:List (Ty×Bool)},flatRes rs=true->sharesR rs=false:=by
  intro rs
  induction rs with
  |nil=>intro _;rfl
  |cons p rs ih=>
   intro hf
   obtain⟨t,o⟩:=p
   simp only[flatRes,A3] at hf
   simp[sharesR,ih hf.2,flat_nl hf.1]
 have e2:∀ {ks:List AK},roOnly ks=true->sharesO ks=false:=by
  intro ks
  induction ks with
  |nil=>intro _;rfl
  |cons k ks ih=>intro h;cases k<;>simp[roOnly] at h<;>simp[sharesO,AK.outs,ih h]
 simp[shares,e1 h2,e2 h1]
theorem putBack_ro:∀ {ks:List AK} {ss:List Slot} {y:Tup (outsOf ks)} {k:St->Option R},roOnly ks=true->putBackK ks ss y σ k=k σ:=by
 intro ks
 induction ks with
 |nil=>intro ss y k _;rfl
 |cons c ks ih=>
  intro ss y k h
  cases ss with
  |nil=>rfl
  |cons s ss=>
   cases c with
   |ro t=>exact ih (by simpa[roOnly] using h)
   |pin t=>exact ih (by simpa[roOnly] using h)
   |clo g n cs=>exact ih (by simpa[roOnly] using h)
   |own t=>simp[roOnly] at h
   |mu t=>simp[roOnly] at h
   |pio t=>simp[roOnly] at h
   |io t=>simp[roOnly] at h
theorem call_slot {fn:Fn} {f:FuncId} (hm:Meets P f fn) (hbx:fn.s.bx=false) (hro:roOnly fn.s.args=true) (hfl:flatRes fn.s.res=true) {args:List Operand} {d:Option Tmp} {k:St->Option R} {r:R} (hr:RelE X E σ a.tmps w) (h:callK fn (args.map (opd σ)) d σ k=some r):
  ∃v,(∀w',Ext w w'->Calls P f (args.map a.eval).toArray w' fun e w3=>e= .returned v/\Ext w' w3)/\∃s,k (σ.put d s)=some r/\SlotOk w (Fz X E σ w) E σ s v:=by
 have hsh:=flat_shares hro hfl
 unfold callK at h
 rw[hbx] at h
 simp only[cond_false] at h
 unfold lendK at h
 rw[hsh] at h
 simp only[BJ,Bq,cond_true,cond_false] at h
 obtain⟨x,h1,h2⟩:=gather_ro hro h
 cases hc:noDup (exclOf σ fn.s.args (args.map (opd σ)))&&lentOk σ (exclOf σ fn.s.args (args.map (opd σ))) fn.s.args (args.map (opd σ)) with
 |false=>rw[hc] at h1;simp at h1
 |true=>
  rw[hc] at h1
  simp only[Ay,cond_false] at h1
  cases hy:fn.f x with
  |none=>rw[hy] at h1;simp at h1
  |some y=>
   rw[hy] at h1
   simp only[AQ,backK] at h1
   rw[putBack_ro hro] at h1
   obtain⟨e1,e2,e3⟩:=resVals_flat (y:=Tup.fst (a:=resOf fn.s.res) (b:=outsOf fn.s.args) y) (σ:=σ) hfl
   refine⟨resVal (flatVs fn.s.res (Tup.fst (a:=resOf fn.s.res) (b:=outsOf fn.s.args) y)),fun w' hx=>?_,resSlot (resVals fn.s.res (Tup.fst (a:=resOf fn.s.res) (b:=outsOf fn.s.args) y) σ).1,?_,resVal_slot e2 e3⟩
   ·have hr':=hr.ext hx
    have hl:lendK fn.s.args false (args.map (opd σ)) σ (fun x _=>some x)=some x:=by
     unfold lendK
     simp only[BJ,Bq,cond_true,cond_false]
     rw[h2]
     simp only[hc,Ay,cond_false]
    obtain⟨x',σ1,E1,fs,A,pin,g1,g2,_⟩:=lent_ok (us:=args.map a.eval) hr' (by simp) (fun i s u q1 q2=>by
     rw[BL] at q1 q2
     cases hz:args[i]? with
     |none=>rw[hz] at q1;simp at q1
     |some z=>
      rw[hz] at q1 q2
      simp only[BH,A4] at q1 q2
      subst q1;subst q2
      exact slot_opd hr' z) hl
    have hx':x'=x:=by injection g1
    subst hx'
    refine(hm x' y hy w' A pin _ fs g2).mono fun e w3 he=>?_
    cases e with
    |panicked c=>exact he.elim
    |outgrown=>exact he.elim
    |returned v=>
     obtain⟨vs,rfl,hp⟩:=he.1 hbx
     obtain⟨bo,br,_,_,hres,_⟩:=hp.ex
     rw[res_flat hfl hres]
     exact⟨rfl,hp.fr.toExt (foot_ro hro g2.args)⟩
   ·rw[<-h1]
    have:(resVals fn.s.res (Tup.fst (a:=resOf fn.s.res) (b:=outsOf fn.s.args) y) σ)=((resVals fn.s.res (Tup.fst (a:=resOf fn.s.res) (b:=outsOf fn.s.args) y) σ).1,σ):=Prod.ext rfl e1
    rw[this]
theorem call_fix {fn:Fn} {f:FuncId} (hm:Meets P f fn) (hbx:fn.s.bx=false) (hro:roOnly fn.s.args=true) (hfl:flatRes fn.s.res=true) {args:List Operand} {d:Option Tmp} {k:St->Option R} {r:R} (hr:RelE X E σ a.tmps w) (h:callK fn (args.map (opd σ)) d σ k=some r):
  ∃v,(∀w',Ext w w'->Calls P f (args.map a.eval).toArray w' fun e w3=>e= .returned v/\Ext w' w3)/\∃σ',k σ'=some r/\Rel X σ' (a.put d v).tmps w:=by
 obtain⟨v,h1,s,h2,h3⟩:=call_slot hm hbx hro hfl hr h
 exact⟨v,h1,_,h2,E,hr.put d h3⟩
theorem StepFix.fixAt {G:St->Prop} (h:StepFix P X o a w G):∃v,FixAt P o a w v/\∃σ',G σ'/\Rel X σ' (a.put o.dst v).tmps w:=by
 obtain⟨v,h1,h2⟩:=h
 refine⟨v,fun w' hx=>?_,h2⟩
 rw[h1 w' hx]
 exact⟨rfl,rfl⟩
theorem fix_step (T:Tabs) (hT:TabOk P T.T) (hF:FOk P T.F) {k:St->Option R} {r:R} (hfix:fixK T o.op=true) (h:stepK T o σ k=some r) (hr:RelE X E σ a.tmps w):∃v,FixAt P o a w v/\∃σ',k σ'=some r/\Rel X σ' (a.put o.dst v).tmps w:=by
 cases ho:o.op with
 |move x=>exact((step_move T ho h hr).fix hr).fixAt
 |assign x=>exact((step_assign T ho h hr).fix hr).fixAt
 |pick c x y=>exact((step_pick T ho h hr).fix hr).fixAt
 |load t x=>exact((step_load T hT ho h hr).fix hr).fixAt
 |nilCheck x=>exact((step_nilCheck T ho h hr).fix hr).fixAt
 |binOp op t x y yt=>exact((step_binOp T hT ho h hr).fix hr).fixAt
 |unOp op t x=>exact((step_unOp T ho h hr).fix hr).fixAt
 |convert s d x=>exact((step_convert T hT ho h hr).fix hr).fixAt
 |slice t x lo hi mx=>
  cases mx with
  |none=>exact(step_slice T hT ho h hr).fixAt
  |some m=>simp[stepK,ho] at h
 |fieldAddr s x j=>exact((step_fieldAddr T hT ho h hr).fix hr).fixAt
 |field s x j=>exact((step_field T hT ho h hr).fix hr).fixAt
 |indexAddr s x i=>exact((step_indexAddr T hT ho h hr).fix hr).fixAt
 |index s x i=>exact((step_index T hT ho h hr).fix hr).fixAt
 |extract x i=>exact((step_extract T ho h hr).fix hr).fixAt
 |build t ps=>exact((step_build T hT ho h hr).fix hr).fixAt
 |makeFunc fn fi ca=>
  cases fn with
  |func f=>exact((step_makeFunc T ho h hr).fix hr).fixAt
  |_=>simp[stepK,ho] at h
 |call c=>
  obtain⟨callee,args,ats⟩:=c
  cases callee with
  |builtin b=>
   cases b with
   |len=>exact((step_len T hT ho h hr).fix hr).fixAt
   |min=>exact((step_min T ho h hr).fix hr).fixAt
   |max=>exact((step_max T ho h hr).fix hr).fixAt
   |_=>simp[fixK,ho] at hfix
  |value x=>
   cases x with
   |func f=>
    simp only[stepK,ho] at h
    simp only[fixK,ho] at hfix
    cases hf:T.F f with
    |none=>simp[hf] at h
    |some fn=>
     simp only[hf,A3,AJ] at h hfix
     obtain⟨hm,g,g1,g2,g3⟩:=hF f fn hf
     obtain⟨v,q1,q2⟩:=call_fix hm hfix.2 hfix.1.1 hfix.1.2 (d:=o.dst) hr h
     refine⟨v,fun w' hx=>?_,q2⟩
     have hrun:(execOp a.eval o).run P w'= .ok (.enter f (args.toList.map a.eval).toArray) w':=by
      have e1:a.eval (.func f)= .func (.func f) #[] #[]:=rfl
      have hb:¬g.body=none:=by intro h;rw[h] at g2;cases g2
      have hn:¬g.name="runtime.NumGoroutine":=by simpa using g3
      simp[execOp,ho,resolve,e1,Deferred.ofValue,invoke,callFunc,g1]
      rw[if_neg hn,if_neg hb,<-BF]
     rw[hrun]
     exact⟨rfl,q1 w' hx⟩
   |_=>simp[fixK,ho] at hfix
  |invoke x n=>simp[fixK,ho] at hfix
 |_=>simp[fixK,ho] at hfix
theorem StepSlot.at {G:St->Prop} (h:StepSlot P X E σ o a w G):∃v,FixAt P o a w v/\∃s,G (σ.put o.dst s)/\SlotOk w (Fz X E σ w) E σ s v:=by
 obtain⟨v,h1,h2⟩:=h
 refine⟨v,fun w' hx=>?_,h2⟩
 rw[h1 w' hx]
 exact⟨rfl,rfl⟩
theorem slot_step (T:Tabs) (hT:TabOk P T.T) (hF:FOk P T.F) {k:St->Option R} {r:R} (hfix:fixK T o.op=true) (hns:∀t x lo hi mx,o.op≠ .slice t x lo hi mx) (h:stepK T o σ k=some r) (hr:RelE X E σ a.tmps w):
  ∃v,FixAt P o a w v/\∃s,k (σ.put o.dst s)=some r/\SlotOk w (Fz X E σ w) E σ s v:=by
 cases ho:o.op with
 |move x=>exact(step_move T ho h hr).at
 |assign x=>exact(step_assign T ho h hr).at
 |pick c x y=>exact(step_pick T ho h hr).at
 |load t x=>exact(step_load T hT ho h hr).at
 |nilCheck x=>exact(step_nilCheck T ho h hr).at
 |binOp op t x y yt=>exact(step_binOp T hT ho h hr).at
 |unOp op t x=>exact(step_unOp T ho h hr).at
 |convert s d x=>exact(step_convert T hT ho h hr).at
 |slice t x lo hi mx=>exact absurd ho (hns t x lo hi mx)
 |fieldAddr s x j=>exact(step_fieldAddr T hT ho h hr).at
 |field s x j=>exact(step_field T hT ho h hr).at
 |indexAddr s x i=>exact(step_indexAddr T hT ho h hr).at
 |index s x i=>exact(step_index T hT ho h hr).at
 |extract x i=>exact(step_extract T ho h hr).at
 |build t ps=>exact(step_build T hT ho h hr).at
 |makeFunc fn fi ca=>
  cases fn with
  |func f=>exact(step_makeFunc T ho h hr).at
  |_=>simp[stepK,ho] at h
 |call c=>
  obtain⟨callee,args,ats⟩:=c
  cases callee with
  |builtin b=>
   cases b with
   |len=>exact(step_len T hT ho h hr).at
   |min=>exact(step_min T ho h hr).at
   |max=>exact(step_max T ho h hr).at
   |_=>simp[fixK,ho] at hfix
  |value x=>
   cases x with
   |func f=>
    simp only[stepK,ho] at h
    simp only[fixK,ho] at hfix
    cases hf:T.F f with
    |none=>simp[hf] at h
    |some fn=>
     simp only[hf,A3,AJ] at h hfix
     obtain⟨hm,g,g1,g2,g3⟩:=hF f fn hf
     obtain⟨v,q1,q2⟩:=call_slot hm hfix.2 hfix.1.1 hfix.1.2 (d:=o.dst) hr h
     refine⟨v,fun w' hx=>?_,q2⟩
     have hrun:(execOp a.eval o).run P w'= .ok (.enter f (args.toList.map a.eval).toArray) w':=by
      have e1:a.eval (.func f)= .func (.func f) #[] #[]:=rfl
      have hb:¬g.body=none:=by intro h;rw[h] at g2;cases g2
      have hn:¬g.name="runtime.NumGoroutine":=by simpa using g3
      simp[execOp,ho,resolve,e1,Deferred.ofValue,invoke,callFunc,g1]
      rw[if_neg hn,if_neg hb,<-BF]
     rw[hrun]
     exact⟨rfl,q1 w' hx⟩
   |_=>simp[fixK,ho] at hfix
  |invoke x n=>simp[fixK,ho] at hfix
 |_=>simp[fixK,ho] at hfix
end
end Go.Proofs.YtacbkfginiknaaaDoor.V
namespace Go.Proofs.YtacbkfginiknaaaDoor.V
open Go
section
variable {P:Program} {X:Ctx} {E:Env} {σ:St} {A0:Array Value} {a:Act} {w:World} {o:Oper} {R:Type}
theorem wpFix_append {ops:Array Oper} {Q:Act->Prop}:∀ {l1 l2:List Oper} {a a1:Act},wpFix P ops w (fun x=>x=a1) l1 a->wpFix P ops w Q l2 a1->wpFix P ops w Q (l1++l2) a:=by
 intro l1
 induction l1 with
 |nil=>intro l2 a a1 h h2;have h':a=a1:=h;subst h';exact h2
 |cons o l1 ih=>intro l2 a a1 h h2;obtain⟨v,h3,h4⟩:=h;exact⟨v,h3,ih h4 h2⟩
def FEnd (X:Ctx) (w:World) (l:List (Oper×Nat)) (a:Act) (G:St->Prop) (a':Act):Prop:=
 a'.defers=a.defers/\a'.tmps.size=a.tmps.size/\(∀i,(∀q∈l,q.1.dst≠some i)->a'.tmps[i]?=a.tmps[i]?)/\∃σ',G σ'/\Rel X σ' a'.tmps w
theorem skip_fix {T:Tabs} {ops:Array Oper} {i0 j:Nat} {v:Bool} {c:Tmp}:∀ {g:List (Oper×Nat)} {a:Act} {i:Nat},Contig i g->(∀q∈g,ops[q.2]?=some q.1)->(∀q∈g,okG T i0 j v c q.1 q.2=true)->dstOf ops j=some c->
  yielded ops a.tmps j≠some v->(∀j',i0<=j'->j'<i->yielded ops a.tmps j'=none)->
  ∃a',wpFix P ops w (fun x=>x=a') (g.map (·.1)) a/\a'.defers=a.defers/\a'.tmps.size=a.tmps.size/\(∀i,(∀q∈g,q.1.dst≠some i)->a'.tmps[i]?=a.tmps[i]?):=by
 intro g
 induction g with
 |nil=>intro a i _ _ _ _ _ _;exact⟨a,rfl,rfl,rfl,fun _ _=>rfl⟩
 |cons q g ih=>
  intro a i hc hi hok hd hy hn
  have hq:=hi q A7
  have ho:=hok q A7
  simp only[okG,okH,A3,AJ,beq_eq_false_iff_ne,ne_eq] at ho
  have hun:AI q.1 (yielded ops a.tmps)=false:=by
   unfold AI
   cases hg:q.1.guard with
   |none=>rw[hg] at ho;exact absurd ho.1.1 (by simp)
   |some p=>
    obtain⟨j',w'⟩:=p
    rw[hg] at ho
    simp only[AS,A3,beq_iff_eq,decide_eq_true_eq] at ho
    rcases ho.1.1 with⟨rfl,rfl⟩|⟨h1,h2⟩
    ·simpa using hy
    ·have:=hn j' h1 (by rw[<-hc.1];exact h2)
     simp[this]
  have hput:∀k,q.1.dst≠some k->(a.put q.1.dst undef).tmps[k]?=a.tmps[k]?:=fun k hk=>put_other _ _ k (fun e=>hk e.symm)
  obtain⟨a',h1,h2,h3,h4⟩:=ih (a:=a.put q.1.dst undef) hc.2 (fun q' hq'=>hi q' (A5 _ hq')) (fun q' hq'=>hok q' (A5 _ hq')) hd (by
    rw[yielded_dst hd,hput c ho.1.2,<-yielded_dst hd];exact hy) (fun j' h1 h2=>by
    cases hdj:dstOf ops j' with
    |none=>exact yielded_none hdj
    |some d=>
     rw[yielded_dst hdj]
     by_cases he:q.1.dst=some d
     ·have hund:∀u,(a.put q.1.dst undef).tmps[d]?=some u->u=undef:=by
       intro u hu
       rw[he] at hu
       simp only[Act.put] at hu
       by_cases hlt:d<a.tmps.size
       ·rw[AE hlt] at hu
        exact(A8 hu).symm
       ·rw[AT (by rw[AZ];exact Ak hlt)] at hu;cases hu
      cases hz:(a.put q.1.dst undef).tmps[d]? with
      |none=>rfl
      |some u=>rw[hund u hz];rfl
     ·rw[hput d he,<-yielded_dst hdj]
      by_cases hj:j'=i
      ·subst hj
       have:dstOf ops j'=q.1.dst:=by unfold dstOf;rw[<-hc.1,hq];rfl
       rw[this] at hdj
       exact absurd hdj he
      ·exact hn j' h1 (by omega))
  exact⟨a',⟨undef,.inr ⟨hun,rfl⟩,h1⟩,h2.trans (put_defers _ _),h3.trans (put_size _ _),fun k hk=>(h4 k (fun q' hq'=>hk q' (A5 _ hq'))).trans (hput k (hk q A7))⟩
theorem fix_quiet (T:Tabs) {o:Op} (h:fixK T o=true):quiet T o=true:=by
 unfold fixK at h
 split at h<;>first|rfl|(cases h;done)|skip
 rename_i f args ats
 simp only[quiet]
 cases hf:T.F f with
 |none=>rw[hf] at h;cases h
 |some fn=>rw[hf] at h;simp only[A3] at h ⊢;exact h.1.1
theorem fixops_ok (T:Tabs) (hT:TabOk P T.T) (hF:FOk P T.F) {ops:Array Oper}:∀ (n:Nat) {act:List (Nat×Bool)} {R:Type} {l:List (Oper×Nat)} {i:Nat} {σ:St} {k:St->Option R} {r:R} {a:Act} {E:Env},
  opsK T ops n act R l σ k=some r->RelE X E σ a.tmps w->Contig i l->(∀q∈l,ops[q.2]?=some q.1)->ActOk ops a.tmps act l->(∀q∈l,fixK T q.1.op=true)->
  ∃a',wpFix P ops w (fun x=>x=a') (l.map (·.1)) a/\FEnd X w l a (fun σ'=>k σ'=some r) a':=by
 intro n
 induction n with
 |zero=>
  intro act R l i σ k r a E h hr _ _ _ _
  cases l with
  |nil=>exact⟨a,rfl,rfl,rfl,fun _ _=>rfl,σ,by simpa[opsK] using h,E,hr⟩
  |cons o l=>simp[opsK] at h
 |succ n ih=>
  intro act R l i σ k r a E h hr hc hi hact hfx
  cases l with
  |nil=>exact⟨a,rfl,rfl,rfl,fun _ _=>rfl,σ,by simpa[opsK] using h,E,hr⟩
  |cons o l=>
   simp only[opsK] at h
   have ho:=hi o A7
   split at h
   ·rename_i hg
    have hw:AI o.1 (yielded ops a.tmps)=true:=by
     unfold AI
     unfold openG at hg
     cases hgu:o.1.guard with
     |none=>rfl
     |some g=>
      rw[hgu] at hg
      simp only at hg
      cases hcon:act.contains g with
      |false=>rw[hcon] at hg;simp at hg
      |true=>
       have:=(hact g (by simpa using hcon)).1
       simp[this]
    obtain⟨v,g1,σ1,hk,E1,hr1⟩:=fix_step T hT hF (hfx o A7) h hr
    obtain⟨a',q1,q2,q3,q4,q5⟩:=ih hk hr1 hc.2 (fun q hq=>hi q (A5 _ hq)) (hact.next (fun q hq=>A5 _ hq) (fun i hi'=>put_other _ _ i (fun e=>hi' o A7 e.symm))) (fun q hq=>hfx q (A5 _ hq))
    exact⟨a',⟨v,.inl ⟨hw,g1⟩,q1⟩,q2.trans (put_defers _ _),q3.trans (put_size _ _),fun i hi'=>(q4 i (fun q hq=>hi' q (A5 _ hq))).trans (put_other _ _ i (fun e=>hi' o A7 e.symm)),q5⟩
   ·rename_i j w0 hg
    split at h
    ·rename_i x1 x2 g d c x y ty pos af pg i' r' hsp
     have hl:=spanG_eq j _ hsp
     have ho2:o.2=i:=hc.1
     cases hb1:(dstOf ops j==some c&&g.all fun q=>okG T o.snd j w0 c q.fst q.snd)&&pgOk act pg with
     |false=>
      rw[hb1] at h
      simp only[cond_false] at h
      cases hb2:(dstOf ops j==some c&&g.all fun q=>okH o.snd j w0 c q.fst q.snd)&&pgOk act pg with
      |false=>rw[hb2] at h;simp at h
      |true=>
       exfalso
       simp only[A3,beq_iff_eq,AM] at hb2
       have:((dstOf ops j==some c&&g.all fun q=>okG T o.snd j w0 c q.fst q.snd)&&pgOk act pg)=true:=by
        simp only[A3,beq_iff_eq,AM,okG]
        exact⟨⟨hb2.1.1,fun q hq=>⟨hb2.1.2 q hq,fix_quiet T (hfx q (by rw[hl];exact AB _ hq))⟩⟩,hb2.2⟩
       rw[this] at hb1;cases hb1
     |true=>
      rw[hb1] at h
      simp only[cond_true] at h
      simp only[A3,beq_iff_eq,AM] at hb1
      obtain⟨⟨hdst,hall⟩,hpg⟩:=hb1
      cases hv:boolOf (σ.fr.getD c .no) with
      |none=>rw[hv] at h;simp at h
      |some v=>
       rw[hv] at h
       simp only[Ax] at h
       obtain⟨t,ht,hk⟩:=h
       have hevc:a.eval (.tmp c)= .bool v:=by
        have hs:=slot_opd hr (.tmp c)
        simp only[opd] at hs
        unfold boolOf at hv
        split at hv
        ·rename_i b ms hm e
         injection hv with hv;subst hv
         rw[e] at hs
         exact val_bool hs
        ·cases hv
       have hac:a.tmps[c]?=some (.bool v):=by
        have h1:a.tmps.getD c undef= .bool v:=hevc
        rw[AH] at h1
        cases hz:a.tmps[c]? with
        |none=>rw[hz] at h1;cases h1
        |some u=>rw[hz] at h1;simpa using h1
       have hyj:yielded ops a.tmps j=some v:=by rw[yielded_dst hdst,hac]
       have hok:∀q∈g,okG T o.snd j w0 c q.1 q.2=true:=hall
       have hgc:∀q∈g,q.1.dst≠some c:=fun q hq=>by
        have:=hok q hq
        simp only[okG,okH,A3,AJ,beq_eq_false_iff_ne,ne_eq] at this
        exact this.1.2
       rw[hl] at hc hi hact hfx ⊢
       obtain⟨hc1,hc2⟩:=contig_append hc
       have hmem:∀q∈g,q∈g++(⟨some d,.pick (.tmp c) x y,ty,pos,af,pg⟩,i')::r':=fun q hq=>AB _ hq
       have hmem2:∀q∈r',q∈g++((⟨some d,.pick (.tmp c) x y,ty,pos,af,pg⟩:Oper),i')::r':=fun q hq=>A6 _ (A5 _ hq)
       have fin:∀a1,wpFix P ops w (fun x=>x=a1) (g.map (·.1)) a->a1.defers=a.defers->a1.tmps.size=a.tmps.size->(∀i,(∀q∈g,q.1.dst≠some i)->a1.tmps[i]?=a.tmps[i]?)->a1.eval (bif v then x else y)= .bool t->
         ∃a',wpFix P ops w (fun x=>x=a') ((g++((⟨some d,.pick (.tmp c) x y,ty,pos,af,pg⟩:Oper),i')::r').map (·.1)) a/\FEnd X w (g++((⟨some d,.pick (.tmp c) x y,ty,pos,af,pg⟩:Oper),i')::r') a (fun σ'=>k σ'=some r) a':=by
        intro a1 e0 e1 e2 e3 e5
        have hact1:ActOk ops a1.tmps act (((⟨some d,.pick (.tmp c) x y,ty,pos,af,pg⟩:Oper),i')::r'):=by
         intro q hq
         obtain⟨k1,k2⟩:=hact q hq
         refine⟨?_,fun c' hc' q' hq'=>k2 c' hc' q' (A6 _ hq')⟩
         cases hd:dstOf ops q.1 with
         |none=>rw[yielded_none hd] at k1;cases k1
         |some c'=>rw[yielded_dst hd,e3 c' (fun q' hq'=>k2 c' hd q' (hmem q' hq')),<-yielded_dst hd];exact k1
        have hw:AI (⟨some d,.pick (.tmp c) x y,ty,pos,af,pg⟩:Oper) (yielded ops a1.tmps)=true:=by
         unfold AI
         cases pg with
         |none=>rfl
         |some q=>
          have:=(hact1 q (by simpa[pgOk] using hpg)).1
          simp[this]
        have hx:FixAt P (⟨some d,.pick (.tmp c) x y,ty,pos,af,pg⟩:Oper) a1 w (.bool t):=by
         intro w' _
         have hx:(execOp a1.eval (⟨some d,.pick (.tmp c) x y,ty,pos,af,pg⟩:Oper)).run P w'= .ok (.value (.bool t)) w':=by
          have h1:a1.eval (.tmp c)= .bool v:=by
           show a1.tmps.getD c undef=_
           rw[AH,e3 c hgc,hac];rfl
          simp only[execOp,h1,asBool,Ac,B4,Ab]
          rw[<-e5]
          cases v<;>simp
         rw[hx]
         exact⟨rfl,rfl⟩
        have hr1:RelE X E (clearD g σ) a1.tmps w:=hr.clear g e2 e3
        have hr2:RelE X E ((clearD g σ).put (some d) (.val ⟨.bool,t,[]⟩ none)) (a1.put (some d) (.bool t)).tmps w:=hr1.put (some d) (slot_bool t none)
        obtain⟨a',q1,q2,q3,q4,q5⟩:=ih hk hr2 hc2.2 (fun q hq=>hi q (hmem2 q hq)) (hact1.next (fun q hq=>A5 _ hq) (fun i hi'=>put_other _ _ i (fun e=>hi' _ A7 e.symm))) (fun q hq=>hfx q (hmem2 q hq))
        refine⟨a',?_,(q2.trans (put_defers _ _)).trans e1,(q3.trans (put_size _ _)).trans e2,fun i hi'=>?_,q5⟩
        ·rw[BR]
         exact wpFix_append e0 ⟨.bool t,.inl ⟨hw,hx⟩,q1⟩
        ·rw[q4 i (fun q hq=>hi' q (hmem2 q hq)),put_other _ _ i (fun e=>hi' _ (A6 _ A7) e.symm),e3 i (fun q hq=>hi' q (hmem q hq))]
       cases hvw:(bif w0 then v else !v) with
       |true=>
        rw[hvw] at ht
        simp only[cond_true] at ht
        have hvw':v=w0:=by cases v<;>cases w0<;>simp_all
        subst hvw'
        obtain⟨a1,e0,e1,e2,e3,σ',hσ,E',hr'⟩:=ih ht hr hc1 (fun q hq=>hi q (hmem q hq)) (by
         intro q hq
         rcases A9.1 hq with rfl|hq
         ·exact⟨hyj,fun c' hc' q' hq'=>by
           have:c'=c:=by
            have h1:dstOf ops j=some c':=hc'
            rw[hdst] at h1;exact(A8 h1).symm
           subst this
           exact hgc q' hq'⟩
         ·exact⟨(hact q hq).1,fun c' hc' q' hq'=>(hact q hq).2 c' hc' q' (hmem q' hq')⟩) (fun q hq=>hfx q (hmem q hq))
        refine fin a1 e0 e1 e2 e3 ?_
        have hs:=slot_opd (a:=a1) hr' (bif v then x else y)
        unfold boolOf at hσ
        split at hσ
        ·rename_i b ms hm e
         injection hσ with hσ;subst hσ
         rw[e] at hs
         exact val_bool hs
        ·cases hσ
       |false=>
        rw[hvw] at ht
        simp only[cond_false] at ht
        have hvw':v= !w0:=by cases v<;>cases w0<;>simp_all
        obtain⟨a1,e0,e1,e2,e3⟩:=skip_fix (P:=P) (w:=w) (T:=T) (i0:=o.2) (j:=j) (v:=w0) (c:=c) (a:=a) hc1 (fun q hq=>hi q (hmem q hq)) hok hdst (by rw[hyj,hvw'];cases w0<;>simp) (fun j' h1 h2=>by omega)
        refine fin a1 e0 e1 e2 e3 ?_
        have hr1:RelE X E (clearD g σ) a1.tmps w:=hr.clear g e2 e3
        have hs:=slot_opd (a:=a1) hr1 (bif w0 then y else x)
        have hxy:(bif v then x else y)=(bif w0 then y else x):=by rw[hvw'];cases w0<;>rfl
        rw[hxy]
        unfold boolOf at ht
        split at ht
        ·rename_i b ms hm e
         injection ht with ht;subst ht
         rw[e] at hs
         exact val_bool hs
        ·cases ht
    ·cases h
end
end Go.Proofs.YtacbkfginiknaaaDoor.V
namespace Go.Proofs.YtacbkfginiknaaaDoor.V
open Go
section
variable {P:Program} {X:Ctx} {E:Env} {σ:St} {A0:Array Value} {a:Act} {w:World} {R:Type}
theorem rf_of_ow {A B:Nat->Prop} (hA:∀b,A b->B b):∀ {t:Ty} {v:t.den} {cs:List Value} {bs:List (Option Nat)},bs.length=t.nl->(∀b,some b∈bs->B b)->Ow w A t v cs bs->Rf w B t v cs:=by
 intro t
 induction t with
 |int k=>intro v cs bs _ _ h;exact h
 |bool=>intro v cs bs _ _ h;exact h
 |str=>intro v cs bs _ _ h;exact h
 |unit=>intro v cs bs _ _ h;exact h
 |pair a b iha ihb=>
  intro v cs bs hl hb h
  obtain⟨c1,c2,h1,h2,h3⟩:=h
  have hl':bs.length=a.nl+b.nl:=hl
  exact⟨c1,c2,h1,iha (by rw[Bf];omega) (fun b hm=>hb b (Ao hm)) h2,ihb (by rw[List.length_drop];omega) (fun b hm=>hb b (Aq hm)) h3⟩
 |st t ih=>intro v cs bs hl hb h;exact ih (bs:=bs) hl hb h
 |arr n t ih=>
  intro v cs bs _ _ h
  obtain⟨h1,h2,h3,h4⟩:=h
  exact⟨h1,h2,fun i x hx=>(h3 i x hx).mono hA (fun _ _=>rfl),h4⟩
 |sl e t ih=>
  intro v cs bs hl hb h
  obtain⟨cap,css,h1,h2,h3⟩:=h
  refine⟨_,cap,css,h1,h2.1,fun i x hx=>(h3 i x hx).mono hA (fun _ _=>rfl),fun hne=>?_,ownsRow_cap h2⟩
  cases hd:bs.headD none with
  |none=>
   rw[hd] at h2
   rcases h2.2 with⟨_,e2⟩|⟨g,cap',cur,e1,_,_,hle,_⟩
   ·exfalso
    have h4:=h2.1
    have e3:List.length (α:=t.den) v=0:=e2
    apply hne
    apply List.length_eq_zero_iff.1
    rw[h4,e3]
    simp
   ·simp at e1
  |some g=>
   refine⟨g,0,rfl,hb g ?_,ownsAt (by rw[hd] at h2;exact h2)⟩
   cases bs with
   |nil=>simp at hd
   |cons x l=>simp at hd;subst hd;exact A7
end
end Go.Proofs.YtacbkfginiknaaaDoor.V
namespace Go.Proofs.YtacbkfginiknaaaDoor.V
open Go
section
variable {P:Program} {X:Ctx} {E:Env} {σ:St} {A0:Array Value} {a:Act} {w:World} {o:Oper} {R:Type}
theorem guardK_nat {b:Bool} {k:Option R} {r:R} (h:guardK b k=some r):k=some r/\∀ (R':Type) (k':Option R'),guardK b k'=k':=by
 obtain⟨h1,h2⟩:=guardK_some h
 exact⟨h2,fun R' k'=>by rw[h1];rfl⟩
theorem intBin_nat {op:BinOp} {q:IntKind} {x y:Int} {kk:(t:Ty)->t.den->Option R} {r:R} (h:intBin op q x y kk=some r):∃t v,kk t v=some r/\∀ (R':Type) (k':(t:Ty)->t.den->Option R'),intBin op q x y k'=k' t v:=by
 cases op<;>simp only[intBin] at h ⊢<;>first|(cases h;done)|exact⟨_,_,h,fun _ _=>rfl⟩|(obtain⟨h1,h2⟩:=guardK_nat h;exact⟨_,_,h1,fun R' k'=>h2 R' _⟩)
theorem shBin_nat {op:BinOp} {q:IntKind} {x y:Int} {kk:(t:Ty)->t.den->Option R} {r:R} (h:shBin op q x y kk=some r):∃t v,kk t v=some r/\∀ (R':Type) (k':(t:Ty)->t.den->Option R'),shBin op q x y k'=k' t v:=by
 unfold shBin at h
 obtain⟨h1,h2⟩:=guardK_nat h
 cases op<;>simp only[] at h1<;>first|(cases h1;done)|exact⟨_,_,h1,fun R' k'=>h2 R' _⟩
theorem strBin_nat {op:BinOp} {x y:List UInt8} {kk:(t:Ty)->t.den->Option R} {r:R} (h:strBin op x y kk=some r):∃t v,kk t v=some r/\∀ (R':Type) (k':(t:Ty)->t.den->Option R'),strBin op x y k'=k' t v:=by
 cases op<;>simp only[strBin] at h ⊢<;>first|(cases h;done)|exact⟨_,_,h,fun _ _=>rfl⟩|(obtain⟨h1,h2⟩:=guardK_nat h;exact⟨_,_,h1,fun R' k'=>h2 R' _⟩)
theorem binK_nat {tt:Option Ty} {op:BinOp} {x y:Slot} {kk:(t:Ty)->t.den->Option R} {r:R} (h:binK tt op x y kk=some r):∃t v,kk t v=some r/\∀ (R':Type) (k':(t:Ty)->t.den->Option R'),binK tt op x y k'=k' t v:=by
 unfold binK at h
 split at h
 ·rename_i q a m1 h1 q' b m2 h2
  cases op<;>simp only[] at h<;>first
   |(obtain⟨t,v,g1,g2⟩:=shBin_nat h;exact⟨t,v,g1,fun R' k'=>g2 R' k'⟩)
   |(cases hq:(q==q') with
    |false=>rw[hq] at h;cases h
    |true=>
     rw[hq] at h
     simp only[cond_true] at h
     obtain⟨t,v,g1,g2⟩:=intBin_nat h
     exact⟨t,v,g1,fun R' k'=>by simp only[binK,hq,cond_true];exact g2 R' k'⟩)
 ·obtain⟨t,v,g1,g2⟩:=strBin_nat h
  exact⟨t,v,g1,fun R' k'=>g2 R' k'⟩
 ·rename_i x hx y hy hn1 hn2
  split at h
  ·rename_i t
   split at h
   ·rename_i a m1 b m2 e1 e2
    cases hc:t.comparable with
    |false=>rw[hc] at h;cases h
    |true=>
     rw[hc] at h
     simp only[cond_true] at h
     have f1:=cast?_some e1
     have f2:=cast?_some e2
     subst f1;subst f2
     cases t<;>first
      |(exact(hn1 _ _ _ _ _ _ rfl rfl).elim)
      |(exact(hn2 _ _ _ _ rfl rfl).elim)
      |(cases op<;>simp only[] at h<;>first|(cases h;done)|exact⟨_,_,h,fun R' k'=>by simp only[binK,e1,e2,hc,cond_true]⟩)
   ·cases h
  ·cases h
 ·cases h
theorem unK_nat {op:UnOp} {x:Slot} {kk:(t:Ty)->t.den->Option R} {r:R} (h:unK op x kk=some r):∃t v,kk t v=some r/\∀ (R':Type) (k':(t:Ty)->t.den->Option R'),unK op x k'=k' t v:=by
 unfold unK at h
 split at h
 ·exact⟨_,_,h,fun _ _=>rfl⟩
 ·exact⟨_,_,h,fun _ _=>rfl⟩
 ·exact⟨_,_,h,fun _ _=>rfl⟩
 ·cases h
theorem idxK_nat {α:Type} {xs:List α} {i:Slot} {k:Nat->α->Option R} {r:R} (h:idxK xs i k=some r):∃n x,k n x=some r/\∀ (R':Type) (k':Nat->α->Option R'),idxK xs i k'=k' n x:=by
 unfold idxK at h
 split at h
 ·rename_i q i ms hm
  obtain⟨h1,h2⟩:=guardK_nat h
  cases hx:xs[Int.toNat i]? with
  |none=>rw[hx] at h1;cases h1
  |some x=>
   rw[hx] at h1
   exact⟨_,x,h1,fun R' k'=>by simp only[idxK];rw[h2,hx];rfl⟩
 ·cases h
theorem boundK_nat {n:Nat} {lo hi:Option Slot} {k:Nat->Nat->Option R} {r:R} (h:boundK n lo hi k=some r):∃l m,k l m=some r/\∀ (R':Type) (k':Nat->Nat->Option R'),boundK n lo hi k'=k' l m:=by
 unfold boundK at h
 split at h
 ·exact⟨_,_,h,fun _ _=>rfl⟩
 ·obtain⟨h1,h2⟩:=guardK_nat h;exact⟨_,_,h1,fun R' k'=>h2 R' _⟩
 ·obtain⟨h1,h2⟩:=guardK_nat h;exact⟨_,_,h1,fun R' k'=>h2 R' _⟩
 ·obtain⟨h1,h2⟩:=guardK_nat h;exact⟨_,_,h1,fun R' k'=>h2 R' _⟩
 ·cases h
theorem setK_nat:∀ {t:Ty} {v:t.den} {ms:List Nat} {p:List Sel} {x:Val} {k:t.den->List Nat->Option R} {r:R},setK t v ms p x k=some r->∃v' ms',k v' ms'=some r/\∀ (R':Type) (k':t.den->List Nat->Option R'),setK t v ms p x k'=k' v' ms':=by
 intro t
 have nilc:∀ {t:Ty} {v:t.den} {ms:List Nat} {x:Val} {k:t.den->List Nat->Option R} {r:R},setK t v ms [] x k=some r->∃v' ms',k v' ms'=some r/\∀ (R':Type) (k':t.den->List Nat->Option R'),setK t v ms [] x k'=k' v' ms':=by
  intro t v ms x k r h
  have e:∀ (R':Type) (k':t.den->List Nat->Option R'),setK t v ms [] x k'=(match cast? t x with
    |some (v,ms)=>k' v ms
    |none=>none):=by intro R' k';cases t<;>rfl
  rw[e] at h
  cases hc:cast? t x with
  |none=>rw[hc] at h;cases h
  |some q=>obtain⟨v',ms'⟩:=q;rw[hc] at h;exact⟨v',ms',h,fun R' k'=>by rw[e,hc]⟩
 induction t with
 |st t ih=>
  intro v ms p x k r h
  cases p with
  |nil=>exact nilc h
  |cons s p=>exact ih (p:=s::p) h
 |pair a b iha ihb=>
  intro v ms p x k r h
  cases p with
  |nil=>exact nilc h
  |cons s p=>
   cases s with
   |fst=>
    simp only[setK] at h
    obtain⟨v',ms',h1,h2⟩:=iha h
    exact⟨_,_,h1,fun R' k'=>by simp only[setK];rw[h2]⟩
   |snd=>
    simp only[setK] at h
    obtain⟨v',ms',h1,h2⟩:=ihb h
    exact⟨_,_,h1,fun R' k'=>by simp only[setK];rw[h2]⟩
   |ix i=>simp[setK] at h
 |arr n t ih=>
  intro v ms p x k r h
  cases p with
  |nil=>exact nilc h
  |cons s p=>
   cases s with
   |ix i=>
    simp only[setK] at h
    cases hy:(v:List t.den)[i]? with
    |none=>rw[hy] at h;cases h
    |some y=>
     rw[hy] at h
     simp only[AQ] at h
     obtain⟨v',ms',h1,h2⟩:=ih h
     exact⟨_,_,h1,fun R' k'=>by simp only[setK];rw[hy];simp only[AQ];rw[h2]⟩
   |fst=>simp[setK] at h
   |snd=>simp[setK] at h
 |_=>
  intro v ms p x k r h
  cases p with
  |nil=>exact nilc h
  |cons s p=>simp[setK] at h
theorem partsK_nat {t:Ty}:∀ {l:List (Nat×Slot)} {x:Val} {k:Val->Option R} {r:R},partsK t l x k=some r->∃y,k y=some r/\∀ (R':Type) (k':Val->Option R'),partsK t l x k'=k' y:=by
 intro l
 induction l with
 |nil=>intro x k r h;exact⟨x,h,fun _ _=>rfl⟩
 |cons p l ih=>
  intro x k r h
  obtain⟨i,s⟩:=p
  unfold partsK at h
  split at h
  ·rename_i u
   cases hp:fieldPath u i with
   |none=>rw[hp] at h;cases h
   |some p=>
    simp only[hp] at h
    cases hc:coe (fieldTy u p) s with
    |none=>rw[hc] at h;cases h
    |some q=>
     obtain⟨v,ms⟩:=q
     simp only[hc] at h
     obtain⟨v',ms',h1,h2⟩:=setK_nat h
     obtain⟨y,h3,h4⟩:=ih h1
     exact⟨y,h3,fun R' k'=>by rw[partsK];simp only[hp,hc];rw[h2];exact h4 R' k'⟩
  ·rename_i n u
   cases hc:coe u s with
   |none=>rw[hc] at h;cases h
   |some q=>
    obtain⟨v,ms⟩:=q
    simp only[hc] at h
    cases hi:decide (i<n) with
    |false=>rw[hi] at h;cases h
    |true=>
     simp only[hi,cond_true] at h
     obtain⟨v',ms',h1,h2⟩:=setK_nat h
     obtain⟨y,h3,h4⟩:=ih h1
     exact⟨y,h3,fun R' k'=>by rw[partsK];simp only[hc,hi,cond_true];rw[h2];exact h4 R' k'⟩
  ·cases h
theorem listK_nat {t:Ty}:∀ {l:List (Nat×Slot)} {xs:List t.den} {ts:List Nat} {k:List t.den->List Nat->Option R} {r:R},listK t l xs ts k=some r->∃ys us,k ys us=some r/\∀ (R':Type) (k':List t.den->List Nat->Option R'),listK t l xs ts k'=k' ys us:=by
 intro l
 induction l with
 |nil=>intro xs ts k r h;exact⟨xs,ts,h,fun _ _=>rfl⟩
 |cons p l ih=>
  intro xs ts k r h
  obtain⟨i,s⟩:=p
  unfold listK at h
  cases hc:coe t s with
  |none=>rw[hc] at h;cases h
  |some q=>
   obtain⟨v,ms⟩:=q
   simp only[hc] at h
   cases hi:decide (i<xs.length) with
   |false=>rw[hi] at h;cases h
   |true=>
    simp only[hi,cond_true] at h
    obtain⟨ys,us,h3,h4⟩:=ih h
    exact⟨ys,us,h3,fun R' k'=>by rw[listK];simp only[hc,hi,cond_true];exact h4 R' k'⟩
theorem stepK_nat (T:Tabs) {k:St->Option R} {r:R} (hfix:fixK T o.op=true) (hnc:∀f args ats,o.op≠ .call ⟨.value (.func f),args,ats⟩) (h:stepK T o σ k=some r):∃σ',k σ'=some r/\∀ (R':Type) (k':St->Option R'),stepK T o σ k'=k' σ':=by
 cases ho:o.op with
 |move x=>
  simp only[stepK,ho] at h ⊢
  cases hs:opd σ x<;>simp only[hs] at h ⊢<;>first|(cases h;done)|exact⟨_,h,fun _ _=>rfl⟩|(split at h<;>first|(cases h;done)|exact⟨_,h,fun _ _=>by simp only[*]⟩)
 |assign x=>
  simp only[stepK,ho] at h ⊢
  cases hs:opd σ x<;>simp only[hs] at h ⊢<;>first|(cases h;done)|exact⟨_,h,fun _ _=>rfl⟩|(split at h<;>first|(cases h;done)|exact⟨_,h,fun _ _=>by simp only[*]⟩)
 |pick c x y=>
  simp only[stepK,ho] at h ⊢
  split at h<;>first|(cases h;done)|exact⟨_,h,fun _ _=>by simp only[*]⟩
 |load t x=>
  simp only[stepK,ho] at h ⊢
  cases ht:T.T t with
  |none=>rw[ht] at h;cases h
  |some t=>
   simp only[ht] at h ⊢
   obtain⟨y,hm,h1,h2,_⟩:=readK_nat h
   cases hb:Ty.beq y.t t with
   |false=>rw[hb] at h1;cases h1
   |true=>simp only[hb,cond_true] at h1;exact⟨_,h1,fun R' k'=>by rw[h2];simp only[hb,cond_true]⟩
 |nilCheck x=>
  simp only[stepK,ho] at h ⊢
  cases hs:opd σ x<;>simp only[hs] at h ⊢<;>first|(cases h;done)|exact⟨_,h,fun _ _=>rfl⟩
 |binOp op t x y yt=>
  simp only[stepK,ho] at h ⊢
  obtain⟨t,v,h1,h2⟩:=binK_nat h
  exact⟨_,h1,fun R' k'=>by rw[h2]⟩
 |unOp op t x=>
  simp only[stepK,ho] at h ⊢
  obtain⟨t,v,h1,h2⟩:=unK_nat h
  exact⟨_,h1,fun R' k'=>by rw[h2]⟩
 |convert s d x=>
  simp only[stepK,ho] at h ⊢
  split at h
  ·rename_i e1 e2 e3
   exact⟨_,h,fun _ _=>by simp only[e1,e2,e3]⟩
  ·rename_i e1 e2 e3
   exact⟨_,h,fun _ _=>by simp only[e1,e2,e3]⟩
  ·rename_i e1 e2
   split at h
   ·rename_i n ms hm e3
    cases hu:σ.us (ms.headD 0) with
    |false=>rw[hu] at h;cases h
    |true=>simp only[hu,cond_true] at h;exact⟨_,h,fun _ _=>by simp only[e1,e2,e3,hu,cond_true]⟩
   ·rename_i e3
    exact⟨_,h,fun _ _=>by simp only[e1,e2,e3]⟩
   ·cases h
  ·cases h
 |slice t x lo hi mx=>
  cases mx with
  |some m=>simp[stepK,ho] at h
  |none=>
   simp only[stepK,ho] at h ⊢
   split at h
   ·rename_i e1
    split at h
    ·rename_i e2
     obtain⟨l,m,h1,h2⟩:=boundK_nat h
     exact⟨_,h1,fun R' k'=>by first|rw[h2]|(simp only[e1,e2];rw[h2])⟩
    ·cases h
   ·rename_i e t e1
    split at h
    ·rename_i y hm e2
     cases hc:cast? (.sl e t) y with
     |none=>rw[hc] at h;cases h
     |some q=>
      obtain⟨s,ms⟩:=q
      simp only[hc] at h
      obtain⟨l,m,h1,h2⟩:=boundK_nat h
      cases lo with
      |none=>
       simp only at h1
       cases hu:σ.us (ms.headD 0) with
       |false=>rw[hu] at h1;cases h1
       |true=>simp only[hu,cond_true] at h1;exact⟨_,h1,fun R' k'=>by simp only[e1,e2,hc];rw[h2];simp only[hu,cond_true]⟩
      |some z=>
       simp only at h1
       cases hu:σ.us (ms.headD 0) with
       |false=>rw[hu] at h1;cases h1
       |true=>simp only[hu,cond_true] at h1;exact⟨_,h1,fun R' k'=>by simp only[e1,e2,hc];rw[h2];simp only[hu,cond_true]⟩
    ·cases h
   ·cases h
 |fieldAddr s x j=>
  simp only[stepK,ho] at h ⊢
  split at h
  ·rename_i u e1
   cases hp:fieldPath u j with
   |none=>rw[hp] at h;cases h
   |some p=>
    simp only[hp] at h
    split at h
    ·rename_i id r' q t e2
     cases hb:Ty.beq t (.st u)&& !p.isEmpty with
     |false=>rw[hb] at h;cases h
     |true=>simp only[hb,cond_true] at h;exact⟨_,h,fun R' k'=>by simp only[e1,hp,e2,hb,cond_true]⟩
    ·rename_i hm τ i z q t e2
     cases hb:Ty.beq t (.st u)&& !p.isEmpty with
     |false=>rw[hb] at h;cases h
     |true=>simp only[hb,cond_true] at h;exact⟨_,h,fun R' k'=>by simp only[e1,hp,e2,hb,cond_true]⟩
    ·rename_i τ y e2
     cases hc:cast? (.st u) y with
     |none=>rw[hc] at h;cases h
     |some q=>
      obtain⟨v,ms⟩:=q
      simp only[hc] at h
      obtain⟨z,h1,h2⟩:=getK_nat h
      exact⟨_,h1,fun R' k'=>by simp only[e1,hp,e2,hc];rw[h2]⟩
    ·cases h
  ·cases h
 |field s x j=>
  simp only[stepK,ho] at h ⊢
  split at h
  ·rename_i u e1
   cases hp:fieldPath u j with
   |none=>rw[hp] at h;cases h
   |some p=>
    simp only[hp] at h
    split at h
    ·rename_i y hm e2
     cases hc:cast? (.st u) y with
     |none=>rw[hc] at h;cases h
     |some q=>
      obtain⟨v,ms⟩:=q
      simp only[hc] at h
      obtain⟨z,h1,h2⟩:=getK_nat h
      exact⟨_,h1,fun R' k'=>by simp only[e1,hp,e2,hc];rw[h2]⟩
    ·cases h
  ·cases h
 |indexAddr s x i=>
  simp only[stepK,ho] at h ⊢
  split at h
  ·rename_i n u e1
   split at h
   ·rename_i id r' q t e2
    cases hb:Ty.beq t (.arr n u) with
    |false=>rw[hb] at h;cases h
    |true=>
     simp only[hb,cond_true] at h
     split at h
     ·rename_i e3
      obtain⟨h1,h2⟩:=guardK_nat h
      exact⟨_,h1,fun R' k'=>by simp only[e1,e2,hb,cond_true,e3];rw[h2]⟩
     ·cases h
   ·rename_i τ y e2
    cases hc:cast? (.arr n u) y with
    |none=>rw[hc] at h;cases h
    |some q=>
     obtain⟨v,ms⟩:=q
     simp only[hc] at h
     cases hb:σ.us τ&& !(τ==1) with
     |false=>rw[hb] at h;cases h
     |true=>
      simp only[hb,cond_true] at h
      obtain⟨z1,z2,h1,h2⟩:=idxK_nat h
      exact⟨_,h1,fun R' k'=>by simp only[e1,e2,hc,hb,cond_true];rw[h2]⟩
   ·cases h
  ·rename_i e u e1
   split at h
   ·rename_i y hm e2
    cases hc:cast? (.sl e u) y with
    |none=>rw[hc] at h;cases h
    |some q=>
     obtain⟨v,ms⟩:=q
     simp only[hc] at h
     obtain⟨z1,z2,h1,h2⟩:=idxK_nat h
     cases hat:atHome σ e u (ms.headD 0) hm with
     |some hh=>simp only[hat] at h1;exact⟨_,h1,fun R' k'=>by simp only[e1,e2,hc];rw[h2];simp only[hat]⟩
     |none=>
      simp only[hat] at h1
      cases hu:σ.us (ms.headD 0) with
      |false=>rw[hu] at h1;cases h1
      |true=>simp only[hu,cond_true] at h1;exact⟨_,h1,fun R' k'=>by simp only[e1,e2,hc];rw[h2];simp only[hat,hu,cond_true]⟩
   ·cases h
  ·cases h
 |index s x i=>
  simp only[stepK,ho] at h ⊢
  split at h
  ·rename_i e1
   split at h
   ·rename_i e2
    obtain⟨z1,z2,h1,h2⟩:=idxK_nat h
    exact⟨_,h1,fun R' k'=>by first|rw[h2]|(simp only[e1,e2];rw[h2])⟩
   ·cases h
  ·rename_i n u e1
   split at h
   ·rename_i y hm e2
    cases hc:cast? (.arr n u) y with
    |none=>rw[hc] at h;cases h
    |some q=>
     obtain⟨v,ms⟩:=q
     simp only[hc] at h
     cases hb:u.nl==0 with
     |false=>rw[hb] at h;cases h
     |true=>
      simp only[hb,cond_true] at h
      obtain⟨z1,z2,h1,h2⟩:=idxK_nat h
      exact⟨_,h1,fun R' k'=>by simp only[e1,e2,hc,hb,cond_true];rw[h2]⟩
   ·cases h
  ·cases h
 |extract x i=>
  simp only[stepK,ho] at h ⊢
  split at h
  ·rename_i l e1
   cases hi:l[i]? with
   |none=>rw[hi] at h;cases h
   |some v=>simp only[hi] at h;exact⟨_,h,fun R' k'=>by simp only[e1,hi]⟩
  ·cases h
 |makeFunc fn fi ca=>
  cases fn with
  |func f=>
   simp only[stepK,ho] at h ⊢
   cases hc:capsOf ((fi++ca).toList.map (opd σ)) with
   |none=>rw[hc] at h;cases h
   |some l=>rw[hc] at h;exact⟨_,h,fun R' k'=>rfl⟩
  |_=>simp[stepK,ho] at h
 |build t ps=>
  simp only[stepK,ho] at h ⊢
  cases ht:T.T t with
  |none=>rw[ht] at h;cases h
  |some t=>
   simp only[ht] at h ⊢
   cases hb:t.agg with
   |false=>rw[hb] at h;cases h
   |true=>
    simp only[hb,cond_true] at h ⊢
    obtain⟨y,h1,h2⟩:=partsK_nat h
    exact⟨_,h1,fun R' k'=>by rw[h2]⟩
 |call c=>
  obtain⟨callee,args,ats⟩:=c
  cases callee with
  |builtin b=>
   cases b with
   |len=>
    simp only[stepK,ho] at h ⊢
    split at h
    ·rename_i e1 e2
     exact⟨_,h,fun R' k'=>by simp only[e1,e2]⟩
    ·rename_i e t y hm e1 e2
     cases hc:cast? (.sl e t) y with
     |none=>rw[hc] at h;cases h
     |some q=>obtain⟨v,ms⟩:=q;simp only[hc] at h;exact⟨_,h,fun R' k'=>by simp only[e1,e2,hc]⟩
    ·cases h
   |min=>
    simp only[stepK,ho] at h ⊢
    split at h
    ·rename_i e1;exact⟨_,h,fun R' k'=>by simp only[e1]⟩
    ·cases h
   |max=>
    simp only[stepK,ho] at h ⊢
    split at h
    ·rename_i e1;exact⟨_,h,fun R' k'=>by simp only[e1]⟩
    ·cases h
   |_=>simp[fixK,ho] at hfix
  |value x=>
   cases x with
   |func f=>exact absurd ho (hnc f args ats)
   |_=>simp[fixK,ho] at hfix
  |invoke x n=>simp[fixK,ho] at hfix
 |_=>simp[fixK,ho] at hfix
end
end Go.Proofs.YtacbkfginiknaaaDoor.V
namespace Go.Proofs.YtacbkfginiknaaaDoor.V
open Go
section
variable {P:Program} {X:Ctx} {E:Env} {σ:St} {A0:Array Value} {a:Act} {w:World} {o:Oper} {R:Type}
theorem step_slice_slot (T:Tabs) (hT:TabOk P T.T) {s:TypeId} {x:Operand} {lo hi:Option Operand} (ho:o.op= .slice s x lo hi none) (hno:lo=none\/∀y hm,opd σ x= .val y hm->noneAl σ y.ms=true) {k:St->Option R} {r:R} (h:stepK T o σ k=some r) (hr:RelE X E σ a.tmps w):StepSlot P X E σ o a w (fun σ'=>k σ'=some r):=by
 simp only[stepK,ho] at h
 have hnt:0<σ.nt:=by have:=hr.nt2;omega
 split at h
 ·rename_i hTs
  obtain⟨m,ht⟩:=hT.ty s _ hTs
  split at h
  ·rename_i l ms hm ex
   obtain⟨i,j,h2,hij,hjn,hcut,_,hb⟩:=boundK_ok (P:=P) hr h
   have hv:=val_str (slot_of_opd hr ex)
   rw[hcut _ _ rfl] at h2
   refine stepSlot_value (v:=.string ⟨(((l:List UInt8).take j).drop i).toArray⟩) (s:=.val ⟨.str,((l:List UInt8).take j).drop i,[]⟩ none) (fun w1 hx1=>?_) (slot_str _ none) h2
   have hb':=hb false _ (Au _)
   simp only[execOp,ho,hv,Ac,BU]
   rw[run_sliceAt_string _ _ _ _ _ _ (tyB_str ht)]
   have hsize:(⟨(l:List UInt8).toArray⟩:ByteArray).size=(l:List UInt8).length:=rfl
   simp only[Instr.slice,Ac,run_underlying (tyB_str ht),Ab,hsize,hb',B4,Option.isSome_none,B0,if_false]
   rw[ByteArray.extract_mk,Bl]
  ·cases h
 ·rename_i e t hTs
  obtain⟨m,ht⟩:=hT.ty s _ hTs
  obtain⟨m2,hu,he⟩:=tyB_sl ht
  have hel:P.elem s=e:=by simp[Program.elem,hu]
  have hsz:∀w:World,(sizeOf e).run P w= .ok t.size w:=fun w=>run_sizeOf_ty he w
  have hpos:0<t.size:=by have:=tyB_ok ht;simp[Ty.ok] at this;exact this.2
  have hs:=slot_opd hr x
  revert hs h
  cases ex:opd σ x with
  |val y hm=>
   intro h hs
   cases hc:cast? (.sl e t) y with
   |none=>simp only[hc] at h;cases h
   |some q=>
    obtain⟨v,ms⟩:=q
    simp only[hc] at h
    have e':=cast?_some hc
    subst e'
    obtain⟨i,j,h2,hij,hjn,hcut,hlo,hb⟩:=boundK_ok (P:=P) hr h
    obtain⟨cs,⟨c,ec,hleaf⟩,hv,hms⟩:=hs
    subst ec
    obtain⟨ad,cap,hcc⟩:∃ad cap,c= .slice ad (v:List t.den).length cap:=by obtain⟨_,ad,cap,hcc,_⟩:=hleaf;exact⟨ad,cap,hcc⟩
    subst hcc
    have hcap:(v:List t.den).length<=cap->∀w1,Ext w w1->(execOp a.eval o).run P w1= .ok (.value (.slice (if cap=i then ad else ad.map (·.add (i*t.size))) (j-i) (cap-i))) w1:=by
     intro hcap w1 _
     have hb':=hb true cap hcap
     simp only[execOp,ho,hv,toVal,Ty.agg,B0,if_false,BS,Ac,BU]
     rw[run_sliceAt_slice _ _ _ _ _ _ (by rw[hel];exact hu)]
     simp only[Instr.slice,Ac,run_underlying hu,Ab,hb',hsz,B4]
    cases lo with
    |none=>
     have hi0:=hlo rfl
     subst hi0
     simp only at h2
     cases hus:σ.us (ms.headD 0) with
     |false=>rw[hus] at h2;simp only[cond_false] at h2;cases h2
     |true=>
     rw[hus] at h2
     simp only[cond_true] at h2
     have hct:=hcut t.den (v:List t.den) rfl
     simp only[BU,List.drop_zero] at hct
     rw[hct] at h2
     have hle:(v:List t.den).length<=cap:=by
      obtain⟨_,_,_,q1,_,_,_,q5⟩:=leaf_row hr hleaf hus
      simp only[Value.slice.injEq,true_and] at q1
      rw[q1.2];exact q5
     refine stepSlot_value (s:=.val ⟨.sl e t,(v:List t.den).take j,ms⟩ hm) (hcap hle) ⟨_,⟨_,rfl,hleaf.take hjn⟩,?_,hms⟩ h2
     have hadd:ad.map (·.add (0*t.size))=ad:=by cases ad<;>simp[Addr.add]
     rw[hadd]
     simp[toVal,Ty.agg]
    |some lo'=>
     simp only at h2
     cases hus:σ.us (ms.headD 0) with
     |false=>rw[hus] at h2;simp only[cond_false] at h2;cases h2
     |true=>
      rw[hus] at h2
      simp only[cond_true] at h2
      have hna:noneAl σ ms=true:=(hno.resolve_left (by simp)) _ hm ex
      rw[freeze_noop hna] at h2
      have hms1:ms=[ms.headD 0]:=by
       have:ms.length=1:=hms
       match ms,this with
       |[τ],_=>rfl
      have hnal:ms.headD 0∉σ.al:=noneAl_iff.1 hna _ (by rw[hms1];simp)
      obtain⟨_,_,_,q1,_,_,_,q5⟩:=leaf_row hr hleaf hus
      simp only[Value.slice.injEq,true_and] at q1
      have hle:(v:List t.den).length<=cap:=by rw[q1.2];exact q5
      rw[hcut t.den (v:List t.den) rfl] at h2
      exact stepSlot_value (s:=.val ⟨.sl e t,((v:List t.den).take j).drop i,[0]⟩ none) (hcap hle) ⟨_,⟨_,rfl,leaf_cut hr hleaf hus hnal hij hjn hpos⟩,rfl,rfl⟩ h2
  |_=>intro h;simp at h
 ·cases h
def slotUpon (P:Program) (X:Ctx) (E:Env) (σ:St) (w:World) (s:Slot):Result Next->Prop
 | .ok (.value u) w2=>Ext w w2/\SlotOk w2 (Fz X E σ w2) E σ s u
 | .ok (.enter f args) w2=>w2=w/\Calls P f args w (fun e w3=>∃v,e= .returned v/\Ext w w3/\SlotOk w3 (Fz X E σ w3) E σ s v)
 |_=>False
theorem res0_ok {AF B:Nat->Prop} (hnt:0<σ.nt) (hz:0∉σ.al):∀ {rs:List (Ty×Bool)} {y:Tup (resOf rs)} {vs:List Value} {br:List (List (Option Nat))},ResOk w AF rs y vs br->(∀b∈flatB br,B b)->(sharesR rs=false\/∀b,AF b->B b)->
  (resVals0 rs y).length=vs.length/\∀ (i:Nat) x u,(resVals0 rs y)[i]?=some x->vs[i]?=some u->ValOk w B E σ x u:=by
 intro rs
 induction rs with
 |nil=>
  intro y vs br h _ _
  cases vs with
  |nil=>exact⟨rfl,fun i x u h=>by simp[resVals0] at h⟩
  |cons v vs=>cases br<;>exact h.elim
 |cons p rs ih=>
  intro y vs br h hB hA
  obtain⟨t,own⟩:=p
  cases vs with
  |nil=>cases br<;>exact h.elim
  |cons u vs=>
   cases br with
   |nil=>exact h.elim
   |cons bs br=>
    obtain⟨⟨cs,hu,hc⟩,h2⟩:=h
    rw[flatB_cons] at hB
    have hA2:sharesR rs=false\/∀b,AF b->B b:=hA.imp (fun h=>by simp only[sharesR,AG] at h;exact h.2) id
    obtain⟨k1,k2⟩:=ih (y:=Tup.tl y) h2 (fun b hb=>hB b (A6 _ hb)) hA2
    have hrf:Rf w B t (Tup.hd y) cs:=by
     cases own with
     |true=>
      obtain⟨hv,hl⟩:=hc
      have hd:t.deep=false\/∀b,AF b->B b/\w.heap[b]?=w.heap[b]?:=hA.imp (fun h=>by simp only[sharesR,AG] at h;exact h.1.2) (fun h b hb=>⟨h b hb,rfl⟩)
      exact rf_of_ow (fun _ h=>h) hl (fun b hb=>hB b (AB _ (Af.2 ⟨some b,hb,rfl⟩))) (hv.move (A':=B) hl (fun _ _=>rfl) hd)
     |false=>
      obtain⟨hv,hb⟩:=hc
      rcases hA with hA|hA
      ·simp only[sharesR,AG,BJ,Bo,BC,beq_iff_eq] at hA
       exact rf_any hA.1.1 hv
      ·exact hv.mono hA (fun _ _=>rfl)
    refine⟨by simp[resVals0,k1],fun i x u' hx hu'=>?_⟩
    cases i with
    |zero=>
     simp only[resVals0,Aa,A4] at hx hu'
     subst hx;subst hu'
     exact⟨cs,rv_of_rf hnt hz hrf,hu,by simp⟩
    |succ i=>exact k2 i x u' (by simpa[resVals0] using hx) (by simpa using hu')
theorem outs_ro {A:Nat->Prop}:∀ {ks:List AK} {y:Tup (outsOf ks)} {us:List Value} {fs:List Foot} {bo:List (List (Option Nat))},roOnly ks=true->OutsOk w A ks y us fs bo->flatB bo=[]:=by
 intro ks
 induction ks with
 |nil=>intro y us fs bo _ h;cases us<;>cases fs<;>cases bo<;>first|rfl|exact h.elim
 |cons c r ih=>
  intro y us fs bo hro h
  cases us with
  |nil=>cases fs<;>cases bo<;>exact h.elim
  |cons u us=>
   cases fs with
   |nil=>cases bo<;>exact h.elim
   |cons f fs=>
    cases bo with
    |nil=>exact h.elim
    |cons b bo=>
     have hb:b=[]:=by
      have h1:=h.1
      cases c with
      |ro t=>exact h1
      |pin t=>exact h1
      |clo g n ks=>exact h1
      |_=>simp[roOnly] at hro
     have hro':roOnly r=true:=by cases c<;>simp[roOnly] at hro<;>exact hro
     subst hb
     show flatB bo=[]
     exact ih hro' h.2
theorem call_make {fn:Fn} {f:FuncId} (hm:Meets P f fn) (hbx:fn.s.bx=false) (hro:roOnly fn.s.args=true) {args:List Operand} {x:fn.s.In} {y:fn.s.Out} (hno:shares fn.s=true->noneAl σ (roToks σ fn.s.args (args.map (opd σ)))=true)
  (h:lendK fn.s.args (shares fn.s) (args.map (opd σ)) σ (fun x σ'=>some (x,σ'))=some (x,σ)) (hy:fn.f x=some y) (hr:RelE X E σ a.tmps w):
  Calls P f (args.map a.eval).toArray w fun e w3=>∃v,e= .returned v/\Ext w w3/\SlotOk w3 (Fz X E σ w3) E σ (resSlot (resVals0 fn.s.res (Tup.fst (a:=resOf fn.s.res) (b:=outsOf fn.s.args) y))) v:=by
 obtain⟨fs,A,pin,hpre,hA⟩:=lent_ro (us:=args.map a.eval) hro hno hr (by simp) (fun i s u q1 q2=>by
  rw[BL] at q1 q2
  cases hz:args[i]? with
  |none=>rw[hz] at q1;simp at q1
  |some z=>
   rw[hz] at q1 q2
   simp only[BH,A4] at q1 q2
   subst q1;subst q2
   exact slot_opd hr z) h
 refine(hm x y hy w A pin _ fs hpre).mono fun e w3 he=>?_
 cases e with
 |panicked c=>exact he.elim
 |outgrown=>exact he.elim
 |returned v=>
  obtain⟨vs,rfl,hp⟩:=he.1 hbx
  obtain⟨bo,br,hnd,hrets,hres,houts⟩:=hp.ex
  have hext:=hp.fr.toExt (foot_ro hro hpre.args)
  have hrow:=rows_ro hro hpre.args
  have hbo:=outs_ro hro houts
  have hw0:X.w0.heap.size<=w.heap.size:=hr.fr.size
  have hfresh:∀b,w.heap.size<=b->b<w3.heap.size->Fz X E σ w3 b:=fun b h1 h2=>
   ⟨hr.new b (B1 hw0 h1),h2,fun ho=>by have:=(hr.lt b ho).1;omega⟩
  refine⟨_,rfl,hext,?_⟩
  obtain⟨k1,k2⟩:=res0_ok (w:=w3) (E:=E) (σ:=σ) (B:=Fz X E σ w3) (by have:=hr.nt2;omega) (fun h=>by have:=(hr.alr 0 h).1;omega) hres (fun b hb=>by
    obtain⟨h1,h2⟩:=hrets b (A6 _ hb)
    rcases h1 with h1|h1
    ·rw[hrow] at h1;cases h1
    ·exact hfresh b h1 h2) (by
    cases hs:shares fn.s with
    |false=>left;simp only[shares,AG] at hs;exact hs.1
    |true=>
     right
     intro b hb
     obtain⟨h1,h2,_⟩:=hb
     rcases h1 with h1|h1|h1
     ·obtain⟨z1,z2,z3⟩:=hA hs b h1
      exact⟨z1,h2,z3⟩
     ·rw[hrow] at h1;cases h1
     ·exact hfresh b h1 h2)
  exact resVal_slot k1 k2
theorem buildSlice_slot (T:Tabs) (hT:TabOk P T.T) {s:TypeId} {n:Nat} {ps:Array (Nat×Operand)} (ho:o.op= .buildSlice s n ps) {sl:Slot} (h:slotK T o σ (fun s=>some s)=some sl) (hr:RelE X E σ a.tmps w):slotUpon P X E σ w sl ((execOp a.eval o).run P w):=by
 simp only[slotK,ho] at h
 split at h
 ·rename_i e t hTs
  obtain⟨_,ht⟩:=hT.ty s _ hTs
  obtain⟨m,hu,he⟩:=tyB_sl ht
  have hpos:0<t.size:=by have:=tyB_ok ht;simp[Ty.ok] at this;exact this.2
  obtain⟨fi,z,i1,i2,i3,i4,i5⟩:=tyB_info he
  have hzl:(zc t).length=t.size:=(rf_zero (w:=w) (A:=fun _=>False) (tyB_ok he)).length
  obtain⟨xs,ts,css,w1,w2,w3,_,w5,w6⟩:=list_ok (css:=(madeCells z.cells (n*t.size)).toList) hr he ps.toList h (by simp[size_madeCells])
  obtain⟨g1,g2⟩:=guardK_some w1
  simp only[A3,decide_eq_true_eq] at g1
  have hfz:σ.freeze ts=σ:=freeze_noop g1.1.1
  have hrs:=w6 σ hr rfl (fun τ hτ=>by
   have:=freeze_frz (σ:=σ) ts hτ (allUs_mem g1.1.2 hτ)
   rwa [hfz] at this) (fun i x hx=>by
   have hi:i<n:=by have:=(Ar.1 hx).1;simpa using this
   rw[BQ,if_pos hi] at hx
   injection hx with hx;subst hx
   rw[seg_made i5 hzl hpos hi]
   exact rf_zero (tyB_ok he))
  have hxn:xs.length=n:=by rw[w2];simp
  have hcn:css.length=n*t.size:=by rw[w3];simp[size_madeCells]
  have hmap:(ps.map fun(i,x)=>(i,a.eval x)).toList=ps.toList.map fun p=>(p.1,a.eval p.2):=by simp
  have hrun:(execOp a.eval o).run P w= .ok (.value (.slice (some ⟨w.heap.size,0,none⟩) n n)) (w.alloc (.cells css.toArray e)):=by
   simp only[execOp,ho,Ac]
   have hf:Instr.fill (fun i=>some (i*fi.size,fi.size)) ((Bt (n*fi.size)).map (z.cells[·%z.cells.size]!)) (ps.map fun(i,x)=>(i,a.eval x)).toList=some css.toArray:=by
    rw[hmap,i2]
    have:(madeCells z.cells (n*t.size)).toList.toArray=madeCells z.cells (n*t.size):=by simp
    rw[this] at w5
    exact w5
   by_cases hn:n=0
   ·subst hn
    have hps:ps= #[]:=by
     rw[<-Array.toList_inj]
     cases hl:ps.toList with
     |nil=>rfl
     |cons p r=>
      rw[hl] at h
      simp only[Ad,listK] at h
      split at h
      ·simp at h
      ·cases h
    have hc0:css=[]:=AR (by omega)
    subst hps;subst hc0
    have hb:(Instr.buildSlice s 0 ((#[]:Array (Nat×Operand)).map fun(i,x)=>(i,a.eval x))).run P w= .ok (.slice (some ⟨w.heap.size,0,none⟩) 0 0) (w.alloc (.cells #[] e)):=by
     simp only[Instr.buildSlice,run_underlying hu,sizeOf,typeInfo,i1,newRow,Ac,Ab,Nat.zero_mul]
     have h0:∀f:Nat->Value,(Bt 0).map f= #[]:=fun f=>Array.eq_empty_of_size_eq_zero (by simp)
     simp[i1,Instr.fill]
     rw[h0]
    rw[hb];simp only[Ab,B4]
   ·have hp:n*fi.size≠0:=by
     rw[i2]
     intro h0
     rcases Nat.mul_eq_zero.1 h0 with h|h<;>omega
    rw[run_buildSlice w s e n _ css.toArray fi z hu i1 i4 (by rw[i2];have:=g1.2;omega) hp hf]
    simp only[Ab,B4]
  have hx:=Ext.alloc w (.cells css.toArray e)
  rw[hrun]
  refine⟨hx,?_⟩
  injection g2 with g2
  subst g2
  have hw0:X.w0.heap.size<=w.heap.size:=hr.fr.size
  have K:=hr.keepExt hx
  refine⟨[.slice (some ⟨w.heap.size,0,none⟩) n n],?_,by simp[toVal,Ty.agg],rfl⟩
  refine rv_of_rf (t:=.sl e t) (by have:=hr.nt2;omega) (fun h=>by have:=(hr.alr 0 h).1;omega) ⟨_,n,css,by rw[hxn],by rw[hcn,hxn],fun i x hx=>K.rf (hrs i x hx),fun _=>⟨w.heap.size,0,rfl,⟨hr.new _ hw0,by simp,fun ho=>by have:=(hr.lt _ ho).1;omega⟩,fun j v hv=>?_⟩,by rw[hxn];exact Au _⟩
  rw[Ba,cell_of_row _ _ j css.toArray e (0,0) (heap_alloc_new w _)]
  simpa using hv
 ·cases h
theorem makeSlice_slot (T:Tabs) (hT:TabOk P T.T) {s:TypeId} {x y:Operand} (ho:o.op= .makeSlice s x y) {sl:Slot} (h:slotK T o σ (fun s=>some s)=some sl) (hr:RelE X E σ a.tmps w):slotUpon P X E σ w sl ((execOp a.eval o).run P w):=by
 simp only[slotK,ho] at h
 split at h
 ·rename_i e t q1 n m1 h1 q2 c m2 h2 hs ex ey
  obtain⟨_,hs'⟩:=hT.ty s _ hs
  obtain⟨_,hu,he⟩:=tyB_sl hs'
  have hpos:0<t.size:=by have:=tyB_ok hs';simp[Ty.ok] at this;exact this.2
  obtain⟨g1,g2⟩:=guardK_some h
  simp only[A3,decide_eq_true_eq] at g1
  obtain⟨fi,z,i1,i2,i3,i4,i5⟩:=tyB_info he
  have v1:=int_opd hr ex
  have v2:=int_opd hr ey
  have a1:(0:Int)<=n:=g1.1.1
  have a2:(n:Int)<=c:=g1.1.2
  have a3:(c:Int)<=4294967296:=g1.2
  have hb:(fi.bytes:Int)*c<=281474976710656:=by
   have h5:(fi.bytes:Int)<=32768:=by omega
   have h6:(0:Int)<=c:=Br a1 a2
   calc (fi.bytes:Int)*c<=32768*c:=Int.mul_le_mul_of_nonneg_right h5 h6
    _<=32768*4294967296:=Int.mul_le_mul_of_nonneg_left a3 (by decide)
    _<=281474976710656:=by decide
  have hrun:=run_make (P:=P) w s e fi z hu i1 i4 q1 q2 n c a1 a2 hb (Br a3 (show(4294967296:Int)<=9223372036854775807 by decide))
  have hzl:(zc t).length=t.size:=(rf_zero (w:=w) (A:=fun _=>False) (tyB_ok he)).length
  have hx:=Ext.alloc w (.cells (madeCells z.cells ((c:Int).toNat*fi.size)) e)
  have key:∀n c:Int,0<=n->n<=c->c<=4294967296->n.toNat<=c.toNat/\c.toNat<=maxLen:=fun n c _ _ _=>by simp only[maxLen];omega
  obtain⟨k1,k2⟩:=key n c a1 a2 a3
  have hln:(List.replicate (n:Int).toNat t.zero).length=(n:Int).toNat:=by simp
  have hle:(n:Int).toNat*t.size<=(c:Int).toNat*t.size:=BY _ k1
  have hex:(execOp a.eval o).run P w= .ok (.value (.slice (some ⟨w.heap.size,0,none⟩) (n:Int).toNat (c:Int).toNat)) (w.alloc (.cells (madeCells z.cells ((c:Int).toNat*fi.size)) e)):=by
   simp only[execOp,ho,v1,v2,hrun,Ac,Ab,B4]
  rw[hex]
  refine⟨hx,?_⟩
  injection g2 with g2
  subst g2
  have hw0:X.w0.heap.size<=w.heap.size:=hr.fr.size
  refine⟨[.slice (some ⟨w.heap.size,0,none⟩) (n:Int).toNat (c:Int).toNat],?_,by simp[toVal,Ty.agg],rfl⟩
  refine rv_of_rf (t:=.sl e t) (by have:=hr.nt2;omega) (fun h=>by have:=(hr.alr 0 h).1;omega) ⟨_,(c:Int).toNat,(madeCells z.cells ((c:Int).toNat*fi.size)).toList.take ((n:Int).toNat*t.size),by rw[hln],by rw[hln,Bf,Array.length_toList,size_madeCells,i2];omega,fun i v hv=>?_,
   fun _=>⟨w.heap.size,0,rfl,⟨hr.new _ hw0,by simp,fun ho=>by have:=(hr.lt _ ho).1;omega⟩,fun j v hv=>?_⟩,by rw[hln];exact k1⟩
  ·rw[BQ] at hv
   split at hv
   ·rename_i hi
    injection hv with hv;subst hv
    have h6:(i+1)*t.size<=(n:Int).toNat*t.size:=BY _ hi
    rw[Nat.add_mul] at h6
    have:seg ((madeCells z.cells ((c:Int).toNat*fi.size)).toList.take ((n:Int).toNat*t.size)) t.size i=zc t:=by
     rw[<-seg_made (z:=z.cells) (n:=(c:Int).toNat) i5 hzl hpos (AX hi k1),i2]
     simp only[V.seg]
     rw[Bl,List.take_take,Nat.min_eq_left (by omega)]
    rw[this]
    exact rf_zero (tyB_ok he)
   ·cases hv
  ·rw[Ba,cell_of_row _ _ j _ e (0,0) (heap_alloc_new w _)]
   rw[Al] at hv
   split at hv
   ·simpa using hv
   ·cases hv
 ·cases h
theorem slotAt_ok {A:Nat->Prop} {s s':Slot} {v:Value} (h:slotAt (σ.put o.dst s') o.dst=s) (hs:SlotOk w A E σ s' v):SlotOk w A E σ s v:=by
 subst h
 cases hd:o.dst with
 |none=>trivial
 |some d=>
  simp only[slotAt,St.put]
  by_cases hlt:d<σ.fr.length
  ·simp only[B9,BV hlt,BN];exact hs
  ·simp only[B9,List.getElem?_eq_none (show(σ.fr.set d s').length<=d by simpa using Ak hlt),Option.getD_none];trivial
theorem slotK_nat (T:Tabs) {k:Slot->Option R} {r:R} (hh:headOp T o.op=true) (h:slotK T o σ k=some r):∃s,k s=some r/\∀ (R':Type) (k':Slot->Option R'),slotK T o σ k'=k' s:=by
 by_cases hc:∃f args ats,o.op= .call ⟨.value (.func f),args,ats⟩
 ·obtain⟨f,args,ats,ho⟩:=hc
  simp only[slotK,ho] at h ⊢
  cases hf:T.F f with
  |none=>rw[hf] at h;cases h
  |some fn=>
   simp only[hf] at h ⊢
   cases hb:roOnly fn.s.args&& !fn.s.bx&&(!shares fn.s||noneAl σ (roToks σ fn.s.args (args.toList.map (opd σ)))) with
   |false=>rw[hb] at h;cases h
   |true=>
    simp only[hb,cond_true] at h ⊢
    simp only[A3,AS,AJ] at hb
    obtain⟨x,h1,h2⟩:=lend_nat hb.1.1 (fun hs=>hb.2.resolve_left (by rw[hs];simp)) h
    cases hy:fn.f x with
    |none=>rw[hy] at h1;cases h1
    |some y=>rw[hy] at h1;exact⟨_,h1,fun R' k'=>by rw[h2,hy];rfl⟩
 ·by_cases hb:∃t n ps,o.op= .buildSlice t n ps
  ·obtain⟨t,n,ps,ho⟩:=hb
   simp only[slotK,ho] at h ⊢
   split at h
   ·rename_i e t e1
    obtain⟨xs,ts,h1,h2⟩:=listK_nat h
    obtain⟨h3,h4⟩:=guardK_nat h1
    exact⟨_,h3,fun R' k'=>by first|(rw[h2];exact h4 R' _)|(simp only[e1];rw[h2];exact h4 R' _)⟩
   ·cases h
  by_cases hmk:∃t n c,o.op= .makeSlice t n c
  ·obtain⟨t,n,c,ho⟩:=hmk
   simp only[slotK,ho] at h ⊢
   split at h
   ·rename_i e t q1 n m1 h1 q2 c m2 h2 e1 e2 e3
    obtain⟨h3,h4⟩:=guardK_nat h
    exact⟨_,h3,fun R' k'=>by first|exact h4 R' _|(simp only[e1,e2,e3];exact h4 R' _)⟩
   ·cases h
  ·have hfix:fixK T o.op=true:=by
    unfold headOp at hh
    split at hh
    ·rename_i t n ps ho;exact absurd ⟨_,_,_,ho⟩ hb
    ·rename_i t n ps ho;exact absurd ⟨_,_,_,ho⟩ hmk
    ·rename_i f args ats ho;exact absurd ⟨_,_,_,ho⟩ hc
    ·exact hh
   have hnc:∀f args ats,o.op≠ .call ⟨.value (.func f),args,ats⟩:=fun f args ats ho=>hc ⟨_,_,_,ho⟩
   by_cases hs:∃t x lo hi mx,o.op= .slice t x lo hi mx
   ·obtain⟨t,x,lo,hi,mx,ho⟩:=hs
    have key:∀ (R':Type) (k':Slot->Option R'),slotK T o σ k'=bif lo.isNone||(match opd σ x with| .val y _=>noneAl σ y.ms|_=>true) then stepK T o σ fun σ'=>k' (slotAt σ' o.dst) else none:=fun R' k'=>by simp only[slotK,ho];rfl
    rw[key] at h
    cases hb:lo.isNone||(match opd σ x with| .val y _=>noneAl σ y.ms|_=>true) with
    |false=>rw[hb] at h;cases h
    |true=>
     rw[hb] at h
     simp only[cond_true] at h
     obtain⟨σ',h1,h2⟩:=stepK_nat T hfix hnc h
     exact⟨_,h1,fun R' k'=>by rw[key,hb];simp only[cond_true];rw[h2]⟩
   ·have key:∀ (R':Type) (k':Slot->Option R'),slotK T o σ k'=stepK T o σ fun σ'=>k' (slotAt σ' o.dst):=by
     intro R' k'
     unfold slotK
     split
     ·rename_i ho;exact absurd ⟨_,_,_,ho⟩ hb
     ·rename_i ho;exact absurd ⟨_,_,_,ho⟩ hc
     ·rename_i ho;exact absurd ⟨_,_,_,ho⟩ hmk
     ·rename_i ho;exact absurd ⟨_,_,_,_,_,ho⟩ hs
     ·rfl
    rw[key] at h
    obtain⟨σ',h1,h2⟩:=stepK_nat T hfix hnc h
    exact⟨_,h1,fun R' k'=>by rw[key,h2]⟩
theorem slotK_ok (T:Tabs) (hT:TabOk P T.T) (hF:FOk P T.F) {s:Slot} (hh:headOp T o.op=true) (h:slotK T o σ (fun s=>some s)=some s) (hr:RelE X E σ a.tmps w):slotUpon P X E σ w s ((execOp a.eval o).run P w):=by
 by_cases hc:∃f args ats,o.op= .call ⟨.value (.func f),args,ats⟩
 ·obtain⟨f,args,ats,ho⟩:=hc
  simp only[slotK,ho] at h
  cases hf:T.F f with
  |none=>rw[hf] at h;cases h
  |some fn=>
   simp only[hf] at h
   cases hb:roOnly fn.s.args&& !fn.s.bx&&(!shares fn.s||noneAl σ (roToks σ fn.s.args (args.toList.map (opd σ)))) with
   |false=>rw[hb] at h;cases h
   |true=>
    simp only[hb,cond_true] at h
    simp only[A3,AS,AJ] at hb
    have hno:shares fn.s=true->noneAl σ (roToks σ fn.s.args (args.toList.map (opd σ)))=true:=fun hs=>hb.2.resolve_left (by rw[hs];simp)
    obtain⟨x,h1,h2⟩:=lend_nat hb.1.1 hno h
    cases hy:fn.f x with
    |none=>rw[hy] at h1;cases h1
    |some y=>
     rw[hy] at h1
     simp only[AQ,A4] at h1
     subst h1
     obtain⟨hm,g,g1,g2,g3⟩:=hF f fn hf
     have hcall:=call_make hm hb.1.2 hb.1.1 hno (h2 _ _) hy hr
     have hrun:(execOp a.eval o).run P w= .ok (.enter f (args.toList.map a.eval).toArray) w:=by
      have e1:a.eval (.func f)= .func (.func f) #[] #[]:=rfl
      have hb:¬g.body=none:=by intro h;rw[h] at g2;cases g2
      have hn:¬g.name="runtime.NumGoroutine":=by simpa using g3
      simp[execOp,ho,resolve,e1,Deferred.ofValue,invoke,callFunc,g1]
      rw[if_neg hn,if_neg hb,<-BF]
     rw[hrun]
     exact⟨rfl,hcall⟩
 ·by_cases hb:∃t n ps,o.op= .buildSlice t n ps
  ·obtain⟨t,n,ps,ho⟩:=hb
   exact buildSlice_slot T hT ho h hr
  by_cases hmk:∃t n c,o.op= .makeSlice t n c
  ·obtain⟨t,n,c,ho⟩:=hmk
   exact makeSlice_slot T hT ho h hr
  ·have hfix:fixK T o.op=true:=by
    unfold headOp at hh
    split at hh
    ·rename_i t n ps ho;exact absurd ⟨_,_,_,ho⟩ hb
    ·rename_i t n ps ho;exact absurd ⟨_,_,_,ho⟩ hmk
    ·rename_i f args ats ho;exact absurd ⟨_,_,_,ho⟩ hc
    ·exact hh
   have fin:∀ {v:Value} {s':Slot},FixAt P o a w v->slotAt (σ.put o.dst s') o.dst=s->SlotOk w (Fz X E σ w) E σ s' v->slotUpon P X E σ w s ((execOp a.eval o).run P w):=by
    intro v s' h1 h2 h3
    have h4:=slotAt_ok h2 h3
    have h5:=h1 w (Ext.refl w)
    generalize (execOp a.eval o).run P w=q at h5
    cases q with
    |halt x w2=>exact h5.elim
    |ok n w2=>
     cases n with
     |value u=>obtain⟨e1,e2⟩:=h5;subst e1;subst e2;exact⟨Ext.refl _,h4⟩
     |enter f args=>
      obtain⟨e1,hcl⟩:=h5
      subst e1
      exact⟨rfl,hcl.mono fun e w3 ⟨he,hx⟩=>⟨v,he,hx,(hr.keepExt hx).slot h4⟩⟩
     |_=>exact h5.elim
   by_cases hs:∃t x lo hi mx,o.op= .slice t x lo hi mx
   ·obtain⟨t,x,lo,hi,mx,ho⟩:=hs
    have key:slotK T o σ (fun s=>some s)=bif lo.isNone||(match opd σ x with| .val y _=>noneAl σ y.ms|_=>true) then stepK T o σ fun σ'=>some (slotAt σ' o.dst) else none:=by simp only[slotK,ho];rfl
    rw[key] at h
    cases hb:lo.isNone||(match opd σ x with| .val y _=>noneAl σ y.ms|_=>true) with
    |false=>rw[hb] at h;cases h
    |true=>
     rw[hb] at h
     simp only[cond_true] at h
     cases mx with
     |some m=>simp[stepK,ho] at h
     |none=>
      obtain⟨v,h1,s',h2,h3⟩:=(step_slice_slot T hT ho (by
       cases lo with
       |none=>exact .inl rfl
       |some z=>
        right
        intro y hm e
        rw[e] at hb
        simpa using hb) h hr).at
      exact fin h1 (A8 h2) h3
   ·have key:slotK T o σ (fun s=>some s)=stepK T o σ fun σ'=>some (slotAt σ' o.dst):=by
     unfold slotK
     split
     ·rename_i ho;exact absurd ⟨_,_,_,ho⟩ hb
     ·rename_i ho;exact absurd ⟨_,_,_,ho⟩ hc
     ·rename_i ho;exact absurd ⟨_,_,_,ho⟩ hmk
     ·rename_i ho;exact absurd ⟨_,_,_,_,_,ho⟩ hs
     ·rfl
    rw[key] at h
    obtain⟨v,h1,s',h2,h3⟩:=slot_step T hT hF hfix (fun t x lo hi mx ho=>hs ⟨_,_,_,_,_,ho⟩) h hr
    exact fin h1 (A8 h2) h3
end
end Go.Proofs.YtacbkfginiknaaaDoor.V
