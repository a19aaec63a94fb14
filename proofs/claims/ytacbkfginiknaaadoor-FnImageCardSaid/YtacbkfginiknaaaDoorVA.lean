/- A typed evaluator of the program's code and its soundness (part VA). Of a function it shows what it computes, as a plain function on numbers, bools, strings, lists and pairs. -/
import Derived.Test.YtacbkfginiknaaaDoorProg
import Derived.WalkKit
import Derived.KernelRfl
import Derived.StillTail
import Derived.Great.BuildSlice
open Array renaming length_toList->AT,getElem?_toList->Aa,getElem?_eq_getElem->B8,toList_inj->BG,getElem?_setIfInBounds_ne->BK,ext_getElem?->Bq,toList_map->Bu,range->CF
open BitVec renaming ofInt->AU
open Bool renaming and_eq_true->A4,false_eq_true->Ab,not_eq_true'->BD,eq_iff_iff->C1,or_eq_true->C3
open Go.IntKind renaming i64->CD
open Go.Program renaming elem->BY,built->CA
open Go.Region renaming waitsFor->AG,noSelect->BL,binds->BT
open Go.Result renaming andThen_ok->A3
open Go.Sem renaming run_bind->A5,run_pure->A6
open Go.World renaming setRow->BW,alloc_eq->C6,cell?->CC
open Int renaming le_trans->BZ
open List renaming getElem?_eq_some_iff->A8,range->A9,getElem?_take->AC,mem_cons->AD,getElem?_drop->AI,length_take->AJ,mem_cons_of_mem->AL,getElem?_eq_getElem->AM,length_append->AN,eq_nil_of_length_eq_zero->AP,mem_of_mem_erase->AR,mem_append_left->AS,length_drop->AV,getElem?_append->AW,map_cons->AY,mem_cons_self->AZ,append_assoc->Ac,drop_eq_nil_of_le->Ad,Sublist->Ae,mem_append_right->Af,length_set->Ai,nodup_cons->Aj,ext_getElem?->Al,mem_map->Am,mem_append->Aq,nil_append->Ar,take_left'->As,headD_cons->Au,getElem?_set_self->Av,drop_append_of_le_length->Aw,take_append_of_le_length->Ax,nodup_append->Ay,size_toArray->Az,toArray->B1,mem_flatMap->B2,getElem?_set_ne->B3,map_toArray->B4,getElem?_append_right->B5,getElem?_append_left->B7,drop_take->BA,take_take->BB,getElem?_replicate->BC,flatMap_cons->BE,cons_append->BH,contains_iff_mem->BJ,drop_left'->BN,map_nil->BO,erase_sublist->BR,isEmpty_eq_false_iff->BS,drop_append->BV,take_of_length_le->Bc,getElem?_eq_none->Bd,drop_drop->Be,mem_iff_getElem?->Bg,erase_of_not_mem->Bh,take_append_drop->Bi,mem_iff_getElem->Bj,mem_erase_of_ne->Bk,take_replicate->Bm,drop_replicate->Bn,toList_toArray->Bo,map_congr_left->Bp,take_length->Bv,length_cons->Bw,append_nil->By,drop_zero->C4,drop_left->C5,take_left->C7,Perm->C8
open List.cons renaming injEq->Ba
open Nat renaming mul_le_mul_right->A7,lt_of_lt_of_le->AB,add_mul->AH,lt_succ_of_lt->AO,le_refl->AQ,add_sub_cancel_left->AX,min_eq_left->Ah,lt_succ_self->An,zero_add->B0,add_assoc->B6,zero_le->BF,le_trans->BM,lt_or_gt_of_ne->BP,zero_mul->BU,ne_of_lt->BX,mul_eq_zero->Bb,div_lt_iff_lt_mul->Bf,add_sub_cancel'->Bl,eq_zero_or_pos->Br,add_zero->Bs,le_succ_of_le->Bt,div_add_mod->Bz,lt_irrefl->C9,mul_comm->CB,le_succ->CE,mod_lt->CG
open Option renaming map_some->Ak,map_none->B9,bind_some->BI,toList_some->BQ
open Option.some renaming injEq->AE,inj->C2
open Prod.mk renaming injEq->Ao
namespace Go.Proofs.YtacbkfginiknaaaDoor.V
open Go

inductive Ty where
 |int (k:IntKind)
 |bool
 |str
 |unit
 |pair (a b:Ty)
 |st (t:Ty)
 |arr (n:Nat) (t:Ty)
 |sl (e:TypeId) (t:Ty)
 deriving DecidableEq

namespace Ty
@[reducible] def den:Ty->Type
 |int _=>Int
 |bool=>Bool
 |str=>List UInt8
 |unit=>Unit
 |pair a b=>a.den×b.den
 |st t=>t.den
 |arr _ t=>List t.den
 |sl _ t=>List t.den
def size:Ty->Nat
 |int _|bool|str|sl _ _=>1
 |unit=>0
 |pair a b=>a.size+b.size
 |st t=>t.size
 |arr n t=>n*t.size
def nl:Ty->Nat
 |sl _ _=>1
 |pair a b=>a.nl+b.nl
 |st t=>t.nl
 |_=>0
def ok:Ty->Bool
 |pair a b=>a.ok&&b.ok
 |st t=>t.ok
 |arr _ t=>t.ok&&t.nl==0
 |sl _ t=>t.ok&&decide (0<t.size)
 |_=>true
def agg:Ty->Bool
 |st _|arr _ _=>true
 |_=>false
def zero:(t:Ty)->t.den
 |int _=>(0:Int)
 |bool=>false
 |str=>([]:List UInt8)
 |unit=>()
 |pair a b=>(a.zero,b.zero)
 |st t=>t.zero
 |arr n t=>List.replicate n t.zero
 |sl _ t=>([]:List t.den)
def beq:Ty->Ty->Bool
 |int k,int k'=>k==k'
 |bool,bool=>true
 |str,str=>true
 |unit,unit=>true
 |pair a b,pair c d=>beq a c&&beq b d
 |st a,st b=>beq a b
 |arr n a,arr m b=>n==m&&beq a b
 |sl e a,sl f b=>e==f&&beq a b
 |_,_=>false
theorem eq_of_beq:∀ {a b:Ty},beq a b=true->a=b:=by
 intro a
 induction a with
 |int k=>intro b h;cases b<;>simp[beq] at h;subst h;rfl
 |bool=>intro b h;cases b<;>simp[beq] at h;rfl
 |str=>intro b h;cases b<;>simp[beq] at h;rfl
 |unit=>intro b h;cases b<;>simp[beq] at h;rfl
 |pair a b iha ihb=>intro c h;cases c<;>simp[beq] at h;rw[iha h.1,ihb h.2]
 |st a ih=>intro c h;cases c<;>simp[beq] at h;rw[ih h]
 |arr n a ih=>intro c h;cases c<;>simp[beq] at h;rw[h.1,ih h.2]
 |sl e a ih=>intro c h;cases c<;>simp[beq] at h;rw[h.1,ih h.2]
def eqb:(t:Ty)->t.den->t.den->Bool
 |int _,x,y=>decide ((x:Int)=y)
 |bool,x,y=>(x:Bool)==y
 |str,x,y=>decide ((x:List UInt8)=y)
 |unit,_,_=>true
 |pair a b,x,y=>eqb a x.1 y.1&&eqb b x.2 y.2
 |st t,x,y=>eqb t x y
 |arr _ _,_,_=>false
 |sl _ _,_,_=>false
def comparable:Ty->Bool
 |int _|bool|str|unit=>true
 |pair a b=>a.comparable&&b.comparable
 |st t=>t.comparable
 |_=>false
end Ty

def Ty.flat:Ty->Bool
 | .int _| .bool| .str| .unit=>true
 | .pair a b=>a.flat&&b.flat
 | .st t=>t.flat
 |_=>false
def flatC:(t:Ty)->t.den->List Value
 | .int k,n=>[.int k n]
 | .bool,b=>[.bool b]
 | .str,s=>[.string ⟨(s:List UInt8).toArray⟩]
 | .unit,_=>[]
 | .pair a b,v=>flatC a v.1++flatC b v.2
 | .st t,v=>flatC t v
 |_,_=>[]
inductive Sel where
 |fst|snd
 |ix (i:Nat)
inductive Root where
 |tmp (i:Nat)
 |bx (i:Nat)
structure Home where
 root:Root
 path:List Sel
structure Val where
 t:Ty
 v:t.den
 ms:List Nat
def gv0:List Int:=[1116352408,1899447441,3049323471,3921009573,961987163,1508970993,2453635748,2870763221,3624381080,310598401,607225278,1426881987,1925078388,2162078206,2614888103,3248222580,3835390401,4022224774,264347078,604807628,770255983,1249150122,1555081692,1996064986,2554220882,2821834349,2952996808,3210313671,3336571891,3584528711,113926993,338241895,666307205,773529912,1294757372,1396182291,1695183700,1986661051,2177026350,2456956037,2730485921,2820302411,3259730800,3345764771,3516065817,3600352804,4094571909,275423344,430227734,506948616,659060556,883997877,958139571,1322822218,1537002063,1747873779,1955562222,2024104815,2227730452,2361852424,2428436474,2756734187,3204031479,3329325298]
def gdat:List (Nat×Val):=[(0,⟨.arr 64 (.int .u32),gv0,[]⟩)]
inductive Slot where
 |no
 |val (x:Val) (h:Option Home)
 |nilsl
 |ptr (id:Nat) (r:Ty) (p:List Sel) (t:Ty)
 |eptr (h:Home) (τ:Nat) (i:Nat) (u:Ty) (p:List Sel) (t:Ty)
 |rptr (τ:Nat) (x:Val)
 |clo (f:FuncId) (n:Nat) (caps:List Slot)
 |tup (l:List Val)
structure Bx where
 id:Nat
 x:Val
structure St where
 fr:List Slot
 bx:List Bx
 al:List Nat
 fz:List Nat
 ln:List (Nat×Nat)
 nt:Nat

def cast? (t:Ty) (x:Val):Option (t.den×List Nat):=
 if h:Ty.beq x.t t=true then some (Ty.eq_of_beq h▸x.v,x.ms) else none
def St.us (σ:St) (τ:Nat):Bool:=τ==0||τ==1||σ.al.contains τ||σ.fz.contains τ
def St.own (σ:St) (τ:Nat):Bool:=τ==1||σ.al.contains τ

def LIM:Nat:=4294967296
def SLIM:Nat:=4611686018427387904

section
variable {R:Type}
def getK:(t:Ty)->t.den->List Nat->List Sel->(Val->Option R)->Option R
 |t,v,ms,[],k=>k ⟨t,v,ms⟩
 | .st t,v,ms,s::p,k=>getK t v ms (s::p) k
 | .pair a _,v,ms,.fst::p,k=>getK a v.1 (ms.take a.nl) p k
 | .pair a b,v,ms,.snd::p,k=>getK b v.2 (ms.drop a.nl) p k
 | .arr _ t,v,_,.ix i::p,k=>((v:List t.den)[i]?).bind fun x=>getK t x [] p k
 |_,_,_,_,_=>none
def setK:(t:Ty)->t.den->List Nat->List Sel->Val->(t.den->List Nat->Option R)->Option R
 |t,_,_,[],x,k=>match cast? t x with
  |some (v,ms)=>k v ms
  |none=>none
 | .st t,v,ms,s::p,x,k=>setK t v ms (s::p) x k
 | .pair a b,v,ms,.fst::p,x,k=>setK a v.1 (ms.take a.nl) p x fun v' ms'=>k ((v',v.2):a.den×b.den) (ms'++ms.drop a.nl)
 | .pair a b,v,ms,.snd::p,x,k=>setK b v.2 (ms.drop a.nl) p x fun v' ms'=>k ((v.1,v'):a.den×b.den) (ms.take a.nl++ms')
 | .arr _ t,v,ms,.ix i::p,x,k=>((v:List t.den)[i]?).bind fun y=>setK t y [] p x fun y' _=>k ((v:List t.den).set i y') ms
 |_,_,_,_,_,_=>none
end
def fieldPath:Ty->Nat->Option (List Sel)
 | .pair _ _,0=>some [.fst]
 | .pair _ b,i+1=>match fieldPath b i with
  |some p=>some (.snd::p)
  |none=>none
 | .unit,_=>none
 |_,0=>some []
 |_,_=>none
def fieldTy:Ty->List Sel->Ty
 |t,[]=>t
 | .pair a _,.fst::p=>fieldTy a p
 | .pair _ b,.snd::p=>fieldTy b p
 |t,_=>t

def St.find (σ:St) (id:Nat):Option Val:=
 go σ.bx
where go:List Bx->Option Val
 |[]=>none
 |b::r=>if b.id=id then some b.x else go r
def setBx (id:Nat) (x:Val):List Bx->List Bx
 |[]=>[]
 |b::r=>if b.id=id then⟨id,x⟩::r else b::setBx id x r
def St.root (σ:St):Root->Option Val
 | .tmp i=>match σ.fr.getD i .no with
  | .val x _=>some x
  |_=>none
 | .bx id=>σ.find id
def St.setRoot (σ:St) (root:Root) (x:Val):St:=
 match root with
 | .tmp i=>{σ with fr:=σ.fr.set i (.val x none)}
 | .bx id=>{σ with bx:=setBx id x σ.bx}
def rootTok (ln:List (Nat×Nat)) (τ:Nat):Nat:=
 match ln with
 |[]=>τ
 |(a,b)::r=>bif a==τ then rootTok r b else rootTok r τ

section
variable {R:Type}
def rowK (σ:St) (h:Home) (k:Val->Val->Option R):Option R:=
 match σ.root h.root with
 |some y=>getK y.t y.v y.ms h.path fun z=>k y z
 |none=>none
def readK (σ:St) (s:Slot) (k:Val->Option Home->Option R):Option R:=
 match s with
 | .ptr id r p _=>(match σ.find id with
  |some y=>bif Ty.beq y.t r then getK y.t y.v y.ms p fun x=>k x (some ⟨.bx id,p⟩) else none
  |none=>none)
 | .eptr h τ i u p _=>rowK σ h fun _ z=>match z with
  |⟨.sl _ t,xs,ms⟩=>bif σ.us (ms.headD 0)&&(rootTok σ.ln (ms.headD 0)==rootTok σ.ln τ)&&Ty.beq t u then
    ((xs:List t.den)[i]?).bind fun x=>getK t x (List.replicate t.nl 0) p fun x=>k x none
   else none
  |_=>none
 | .rptr τ x=>bif σ.us τ&& !(τ==1) then k x none else none
 |_=>none
def writeK (σ:St) (s:Slot) (x:Val) (k:St->Option R):Option R:=
 match s with
 | .ptr id r p _=>(match σ.find id with
  |some y=>bif Ty.beq y.t r then setK y.t y.v y.ms p x fun v ms=>k {σ with bx:=setBx id ⟨y.t,v,ms⟩ σ.bx} else none
  |none=>none)
 | .eptr h τ i u p _=>rowK σ h fun y z=>match z with
  |⟨.sl e t,xs,ms⟩=>bif σ.al.contains (ms.headD 0)&&(rootTok σ.ln (ms.headD 0)==rootTok σ.ln τ)&&Ty.beq t u then
    ((xs:List t.den)[i]?).bind fun z=>setK t z (List.replicate t.nl 0) p x fun z' ms0=>bif ms0.all (fun τ=>τ==0||τ==1||σ.fz.contains τ) then setK y.t y.v y.ms h.path ⟨.sl e t,(xs:List t.den).set i z',[σ.nt]⟩ fun v ms'=>
     k ({σ with al:=σ.nt::σ.al.erase (ms.headD 0),ln:=(σ.nt,ms.headD 0)::σ.ln,nt:=σ.nt+1}.setRoot h.root ⟨y.t,v,ms'⟩)
    else none
   else none
  |_=>none
 |_=>none
def mirAt (y:Val) (i:Nat):Slot->Bool
 | .val z (some ⟨.tmp j,[]⟩)=>j==i&&Ty.beq z.t y.t&&decide (z.ms=y.ms)
 |_=>false
def mirL (σ:St) (y:Val):List Nat:=(A9 σ.fr.length).filter fun i=>mirAt y i (σ.fr.getD i .no)
def mirPut:List Nat->Val->St->St
 |[],_,σ=>σ
 |i::l,x,σ=>mirPut l x {σ with fr:=σ.fr.set i (.val x (some ⟨.tmp i,[]⟩))}
def homeK (σ:St) (h:Home) (x:Val) (k:St->Option R):Option R:=
 match σ.root h.root with
 |some y=>setK y.t y.v y.ms h.path x fun v ms=>k (mirPut (mirL σ y) ⟨y.t,v,ms⟩ (σ.setRoot h.root ⟨y.t,v,ms⟩))
 |none=>none
end
def St.freeze (σ:St):List Nat->St
 |[]=>σ
 |τ::r=>(bif σ.al.contains τ then {σ with al:=σ.al.erase τ,fz:=τ::σ.fz} else σ).freeze r
inductive AK where
 |ro (t:Ty)|own (t:Ty)|mu (t:Ty)|pin (t:Ty)|pio (t:Ty)|io (t:Ty)|clo (f:FuncId) (n:Nat) (ks:List (Bool×Ty))
def cloTy:List (Bool×Ty)->Ty
 |[]=>.unit
 |t::r=>.pair t.2 (cloTy r)
def cloVals:(ks:List (Bool×Ty))->(cloTy ks).den->List Slot
 |[],_=>[]
 |(b,t)::r,v=>(bif b then .rptr 0 ⟨t,v.1,[]⟩ else .val ⟨t,v.1,[]⟩ none)::cloVals r v.2
def AK.ty:AK->Ty
 |ro t|own t|mu t|pin t|pio t|io t=>t
 |clo _ _ ks=>cloTy ks
def AK.outs:AK->List Ty
 |mu t|pio t|io t=>[t]
 |_=>[]
@[reducible] def Tup:List Ty->Type
 |[]=>Unit
 |[t]=>t.den
 |t::u::r=>t.den×Tup (u::r)
def Tup.cons {t:Ty}:{r:List Ty}->t.den->Tup r->Tup (t::r)
 |[],v,_=>v
 |_::_,v,x=>(v,x)
def Tup.hd {t:Ty}:{r:List Ty}->Tup (t::r)->t.den
 |[],v=>v
 |_::_,x=>x.1
def Tup.tl {t:Ty}:{r:List Ty}->Tup (t::r)->Tup r
 |[],_=>()
 |_::_,x=>x.2
structure Sig where
 args:List AK
 res:List (Ty×Bool)
 bx:Bool
def outsOf:List AK->List Ty
 |[]=>[]
 |a::r=>a.outs++outsOf r
def tysOf:List AK->List Ty
 |[]=>[]
 |a::r=>a.ty::tysOf r
def resOf:List (Ty×Bool)->List Ty
 |[]=>[]
 |a::r=>a.1::resOf r
@[reducible] def Sig.In (s:Sig):Type:=Tup (tysOf s.args)
@[reducible] def Sig.Out (s:Sig):Type:=Tup (resOf s.res++outsOf s.args)
structure Fn where
 s:Sig
 f:s.In->Option s.Out
end Go.Proofs.YtacbkfginiknaaaDoor.V
namespace Go.Proofs.YtacbkfginiknaaaDoor.V
open Go

structure Tabs where
 T:TypeId->Option Ty
 F:FuncId->Option Fn
inductive XK where
 |nor|ex (id:Nat)|ret
def XK.beq:XK->XK->Bool
 | .nor,.nor=>true
 | .ex i,.ex j=>i==j
 | .ret,.ret=>true
 |_,_=>false
structure CutSig where
 n:Nat
 ds:List Nat
 aks:List AK
 exits:List (XK×List Nat×List (Ty×Bool))
@[reducible] def XOuts (aks:List AK):List (XK×List Nat×List (Ty×Bool))->Type
 |[]=>Empty
 |[e]=>Tup (resOf e.2.2++outsOf aks)
 |e::f::r=>Tup (resOf e.2.2++outsOf aks)⊕XOuts aks (f::r)
@[reducible] def CutSig.In (c:CutSig):Type:=Tup (tysOf c.aks)
@[reducible] def CutSig.Out (c:CutSig):Type:=XOuts c.aks c.exits
structure Cut where
 s:CutSig
 f:s.In->Option s.Out
abbrev Cuts:=Nat->Option Cut

def gval (g:Nat):List (Nat×Val)->Slot
 |[]=>.no
 |(h,x)::r=>bif h==g then .rptr 0 x else gval g r
def opd (σ:St):Operand->Slot
 | .tmp t=>σ.fr.getD t .no
 | .const (.int k n)=>.val ⟨.int k,n,[]⟩ none
 | .const (.bool b)=>.val ⟨.bool,b,[]⟩ none
 | .const (.string s)=>.val ⟨.str,s.data.toList,[]⟩ none
 | .const (.slice none 0 0)=>.nilsl
 | .func f=>.clo f 0 []
 | .global g=>gval g gdat
 |_=>.no
def coe (t:Ty):Slot->Option (t.den×List Nat)
 | .val x _=>cast? t x
 | .nilsl=>match t with
  | .sl _ _=>some ([],[1])
  |_=>none
 |_=>none
def St.put (σ:St) (d:Option Tmp) (s:Slot):St:=
 match d with
 |some d=>{σ with fr:=σ.fr.set d s}
 |none=>σ
def St.putv (σ:St) (d:Option Tmp) (t:Ty) (v:t.den):St:=σ.put d (.val ⟨t,v,[]⟩ none)

section
variable {R:Type}
def guardK (b:Bool) (k:Option R):Option R:=bif b then k else none

def intBin (op:BinOp) (k:IntKind) (x y:Int) (kk:(t:Ty)->t.den->Option R):Option R:=
 match op with
 | .add=>kk (.int k) (k.wrap (x+y))
 | .sub=>kk (.int k) (k.wrap (x-y))
 | .mul=>kk (.int k) (k.wrap (x*y))
 | .quo=>guardK (!decide (y=0)) (kk (.int k) (k.wrap (x.tdiv y)))
 | .rem=>guardK (!decide (y=0)) (kk (.int k) (x.tmod y))
 | .and=>kk (.int k) (k.wrap (AU k.bits x&&&AU k.bits y).toNat)
 | .or=>kk (.int k) (k.wrap (AU k.bits x|||AU k.bits y).toNat)
 | .xor=>kk (.int k) (k.wrap (AU k.bits x^^^AU k.bits y).toNat)
 | .andNot=>kk (.int k) (k.wrap (AU k.bits x&&& ~~~ AU k.bits y).toNat)
 | .eql=>kk .bool (decide (x=y))
 | .neq=>kk .bool (!decide (x=y))
 | .lss=>kk .bool (decide (x<y))
 | .leq=>kk .bool (decide (x<=y))
 | .gtr=>kk .bool (decide (y<x))
 | .geq=>kk .bool (decide (y<=x))
 |_=>none
def shBin (op:BinOp) (k:IntKind) (x y:Int) (kk:(t:Ty)->t.den->Option R):Option R:=
 guardK (decide (0<=y)) (match op with
 | .shl=>kk (.int k) (k.wrap (x*2^(min y.toNat k.bits)))
 | .shr=>kk (.int k) (x.fdiv (2^(min y.toNat k.bits)))
 |_=>none)
def strBin (op:BinOp) (x y:List UInt8) (kk:(t:Ty)->t.den->Option R):Option R:=
 match op with
 | .add=>guardK (decide (x.length+y.length<=SLIM)) (kk .str (x++y))
 | .eql=>kk .bool (decide (x=y))
 | .neq=>kk .bool (!decide (x=y))
 | .lss=>kk .bool (Op.bytesLess x y)
 | .leq=>kk .bool (Op.bytesLess x y||decide (x=y))
 | .gtr=>kk .bool (!(Op.bytesLess x y||decide (x=y)))
 | .geq=>kk .bool (!Op.bytesLess x y)
 |_=>none
def binK (tt:Option Ty) (op:BinOp) (x y:Slot) (kk:(t:Ty)->t.den->Option R):Option R:=
 match x,y with
 | .val ⟨.int k,a,_⟩ _,.val ⟨.int k',b,_⟩ _=>(match op with
  | .shl| .shr=>shBin op k a b kk
  |_=>bif k==k' then intBin op k a b kk else none)
 | .val ⟨.str,a,_⟩ _,.val ⟨.str,b,_⟩ _=>strBin op a b kk
 | .val x _,.val y _=>(match tt with
  |some t=>(match cast? t x,cast? t y with
   |some (a,_),some (b,_)=>bif t.comparable then(match op with
    | .eql=>kk .bool (Ty.eqb t a b)
    | .neq=>kk .bool (!Ty.eqb t a b)
    |_=>none) else none
   |_,_=>none)
  |none=>none)
 |_,_=>none
def unK (op:UnOp) (x:Slot) (kk:(t:Ty)->t.den->Option R):Option R:=
 match op,x with
 | .not,.val ⟨.bool,b,_⟩ _=>kk .bool (!b)
 | .neg,.val ⟨.int k,n,_⟩ _=>kk (.int k) (k.wrap (0-n))
 | .xor,.val ⟨.int k,n,_⟩ _=>kk (.int k) (k.wrap (AU k.bits (if k.signed then -1 else k.max)^^^AU k.bits n).toNat)
 |_,_=>none
def idxK {α:Type} (xs:List α) (i:Slot) (k:Nat->α->Option R):Option R:=
 match i with
 | .val ⟨.int _,i,_⟩ _=>guardK (decide (0<=i)) ((xs[i.toNat]?).bind fun x=>k i.toNat x)
 |_=>none
def boundK (n:Nat) (lo hi:Option Slot) (k:Nat->Nat->Option R):Option R:=
 match lo,hi with
 |none,none=>k 0 n
 |none,some (.val ⟨.int _,h,_⟩ _)=>guardK (decide (0<=h)&&decide (h<=n)) (k 0 h.toNat)
 |some (.val ⟨.int _,l,_⟩ _),none=>guardK (decide (0<=l)&&decide (l<=n)) (k l.toNat n)
 |some (.val ⟨.int _,l,_⟩ _),some (.val ⟨.int _,h,_⟩ _)=>guardK (decide (0<=l)&&decide (l<=h)&&decide (0<=h)&&decide (h<=n)) (k l.toNat h.toNat)
 |_,_=>none
def cutList {α:Type} (xs:List α) (lo hi:Option Slot) (l h:Nat):List α:=
 match lo,hi with
 |none,none=>xs
 |none,some _=>xs.take h
 |some _,none=>xs.drop l
 |some _,some _=>(xs.take h).drop l

def allUs (σ:St):List Nat->Bool
 |[]=>true
 |τ::r=>σ.us τ&&allUs σ r
def noneAl (σ:St) (l:List Nat):Bool:=l.all fun τ=> !σ.al.contains τ
def takeK (σ:St):List Nat->(St->Option R)->Option R
 |[],k=>k σ
 |τ::r,k=>bif τ==1 then takeK σ r k else bif σ.al.contains τ then takeK {σ with al:=σ.al.erase τ} r k else none
def capK (σ:St) (b:Bool) (t:Ty) (s:Slot) (k:t.den->Option R):Option R:=
 bif t.flat then(bif b then readK σ s fun x _=>match cast? t x with
   |some (v,_)=>k v
   |none=>none
  else match s with
   | .val x _=>(match cast? t x with
    |some (v,_)=>k v
    |none=>none)
   |_=>none) else none
def capsK (σ:St):(ks:List (Bool×Ty))->List Slot->((cloTy ks).den->Option R)->Option R
 |[],[],k=>k ()
 |(b,t)::r,s::l,k=>capK σ b t s fun v=>capsK σ r l fun z=>k (v,z)
 |_,_,_=>none
def capsOf:List Slot->Option (List Slot)
 |[]=>some []
 | .val x _::r=>bif x.t.flat then(match capsOf r with
  |some l=>some (.val x none::l)
  |none=>none) else none
 | .ptr id q p t::r=>(match capsOf r with
  |some l=>some (.ptr id q p t::l)
  |none=>none)
 | .rptr τ x::r=>(match capsOf r with
  |some l=>some (.rptr τ x::l)
  |none=>none)
 |_=>none
def sameK:(t:Ty)->t.den->t.den->Bool
 | .int _,a,b=>decide (a=b)
 | .bool,a,b=>decide (a=b)
 | .str,a,b=>decide (a=b)
 | .unit,_,_=>true
 | .pair a b,v,w=>sameK a v.1 w.1&&sameK b v.2 w.2
 | .st t,v,w=>sameK t v w
 | .arr _ _,_,_=>false
 | .sl _ t,v,w=> !(t.size==0)&&decide (List.length (α:=t.den) v=List.length (α:=t.den) w)
def mirOk (σ:St) (ms:List Nat) (y:Val):List Nat->Bool
 |[]=>true
 |i::l=>(match σ.fr.getD i .no with
  | .val z _=>(match cast? y.t z with
   |some (v,_)=>sameK y.t v y.v&&y.ms.all (fun τ=>τ==1||σ.al.contains τ||ms.contains τ)
   |none=>false)
  |_=>false)&&mirOk σ ms y l
def valK (t:Ty):Bool:=t.agg||t.size==1
def ioZ (σ:St) (t:Ty) (v:t.den) (ms:List Nat) (y z:Val):Option Bool:=
 match cast? t z with
 |some (v',ms')=>some (sameK t v v'&&decide (ms=ms')&&mirOk σ ms y (mirL σ y)&&(valK y.t&&valK t))
 |none=>none
def ioAt (σ:St) (t:Ty) (s:Slot):Bool:=
 match s with
 | .val x (some h)=>(match cast? t x with
  |some (v,ms)=>(rowK σ h (ioZ σ t v ms)).getD false
  |none=>false)
 |_=>false
def oneK (a:AK) (s:Slot) (σ:St) (k:a.ty.den->St->Option R):Option R:=
 match a with
 | .ro t=>(match coe t s with
  |some (v,ms)=>bif allUs σ ms then k v σ else none
  |none=>none)
 | .own t=>(match coe t s with
  |some (v,ms)=>takeK σ ms fun σ=>k v σ
  |none=>none)
 | .mu t=>(match s with
  | .rptr _ _=>none
  |s=>readK σ s fun x _=>match cast? t x with
   |some (v,ms)=>bif allUs σ ms&&noneAl σ ms then k v σ else none
   |none=>none)
 | .pin t=>readK σ s fun x _=>match cast? t x with
   |some (v,ms)=>bif allUs σ ms then k v σ else none
   |none=>none
 | .pio t=>(match s with
  | .rptr _ _=>none
  |s=>readK σ s fun x _=>match cast? t x with
   |some (v,ms)=>takeK σ ms fun σ=>k v σ
   |none=>none)
 | .io t=>(match coe t s with
  |some (v,ms)=>takeK σ ms fun σ=>k v σ
  |none=>none)
 | .clo f n ks=>(match s with
  | .clo f' n' caps=>bif f'==f&&n'==n then capsK σ ks caps fun v=>k v σ else none
  |_=>none)
def gatherK:(ks:List AK)->List Slot->St->(Tup (tysOf ks)->St->Option R)->Option R
 |[],[],σ,k=>k () σ
 |a::r,s::ss,σ,k=>oneK a s σ fun v σ=>gatherK r ss σ fun x σ=>k (Tup.cons v x) σ
 |_,_,_,_=>none
def St.new (σ:St) (n:Nat):List Nat:=List.range' σ.nt n
def St.more (σ:St):Nat->St
 |0=>σ
 |n+1=>{σ.more n with al:=(σ.more n).nt::(σ.more n).al,nt:=(σ.more n).nt+1}
def putOne (a:AK) (s:Slot) (σ:St):Tup a.outs->(St->Option R)->Option R:=
 match a with
 | .pio t=>fun v k=>writeK (σ.more t.nl) s ⟨t,v,σ.new t.nl⟩ k
 | .mu t=>fun v k=>writeK σ s ⟨t,v,List.replicate t.nl 0⟩ k
 | .io t=>fun v k=>(match s with
  | .val _ (some h)=>homeK (σ.more t.nl) h ⟨t,v,σ.new t.nl⟩ k
  |_=>none)
 |_=>fun _ k=>k σ
def Tup.fst:{a b:List Ty}->Tup (a++b)->Tup a
 |[],_,_=>()
 |[_],_,x=>Tup.hd x
 |_::_::_,_,x=>(Tup.hd x,Tup.fst (Tup.tl x))
def Tup.snd:{a b:List Ty}->Tup (a++b)->Tup b
 |[],_,x=>x
 |_::a,b,x=>Tup.snd (a:=a) (b:=b) (Tup.tl x)
def putBackK:(ks:List AK)->List Slot->Tup (outsOf ks)->St->(St->Option R)->Option R
 |a::r,s::ss,x,σ,k=>putOne a s σ (Tup.fst (a:=a.outs) (b:=outsOf r) x) fun σ=>putBackK r ss (Tup.snd (a:=a.outs) (b:=outsOf r) x) σ k
 |_,_,_,σ,k=>k σ
def resVals:(rs:List (Ty×Bool))->Tup (resOf rs)->St->List Val×St
 |[],_,σ=>([],σ)
 |(t,o)::r,x,σ=>
  let v:Val:=⟨t,Tup.hd x,bif o then σ.new t.nl else List.replicate t.nl 0⟩
  let(l,σ'):=resVals r (Tup.tl x) (bif o then σ.more t.nl else σ)
  (v::l,σ')
def resSlot:List Val->Slot
 |[x]=>.val x none
 |l=>.tup l
def roToks (σ:St):List AK->List Slot->List Nat
 | .ro t::r,s::ss=>(match coe t s with|some (_,ms)=>ms|none=>[])++roToks σ r ss
 |_::r,_::ss=>roToks σ r ss
 |_,_=>[]
def Ty.deep:Ty->Bool
 | .sl _ t=> !(t.nl==0)
 | .pair a b=>a.deep||b.deep
 | .st t=>t.deep
 |_=>false
def sharesR:List (Ty×Bool)->Bool
 |[]=>false
 |(t,o)::r=>(!o&& !(t.nl==0))||t.deep||sharesR r
def sharesO:List AK->Bool
 |[]=>false
 |a::r=>(match a with| .mu t=> !(t.nl==0)|_=>false)||a.outs.any Ty.deep||sharesO r
def shares (s:Sig):Bool:=sharesR s.res||sharesO s.args
def noPins:List AK->Bool
 |[]=>true
 | .pin t::r=>t.nl==0&&noPins r
 |_::r=>noPins r
def rowTok (σ:St) (h:Home):Option Nat:=rowK σ h fun _ z=>match z with
 |⟨.sl _ _,_,ms⟩=>some (ms.headD 0)
 |_=>none
def exclOf (σ:St):List AK->List Slot->List (Nat×Nat)
 | .pio _::r,.ptr id _ _ _::ss=>(1,id)::exclOf σ r ss
 | .mu _::r,.ptr id _ _ _::ss=>(1,id)::exclOf σ r ss
 | .pio _::r,.eptr h _ _ _ _ _::ss=>(match rowTok σ h with|some τ=>[(0,τ)]|none=>[])++exclOf σ r ss
 |_::r,_::ss=>exclOf σ r ss
 |_,_=>[]
def noDup:List (Nat×Nat)->Bool
 |[]=>true
 |a::r=> !r.contains a&&noDup r
def freeToks (σ:St) (ex:List (Nat×Nat)) (ms:List Nat):Bool:=ms.all fun τ=>σ.us τ&& !ex.contains (0,τ)
def isEl:Slot->Bool
 | .eptr _ _ _ _ _ _=>true
 |_=>false
def lendP (σ:St) (ex:List (Nat×Nat)) (s:Slot):Bool:=
 match s with
 | .ptr id _ _ _=> !ex.contains (1,id)
 | .eptr h τ _ _ _ _=>(match rowTok σ h with|some υ=>(rootTok σ.ln υ==rootTok σ.ln τ)&&σ.al.contains υ&& !ex.contains (0,υ)|none=>false)
 | .rptr τ _=>freeToks σ ex [τ]
 |_=>false
def lendCaps (σ:St) (ex:List (Nat×Nat)):List (Bool×Ty)->List Slot->Bool
 |(b,_)::r,s::l=>(bif b then(match readK σ s fun x _=>some x.ms with|some _=>lendP σ ex s|none=>false) else true)&&lendCaps σ ex r l
 |_,_=>true
def lendAt (σ:St) (ex:List (Nat×Nat)) (a:AK) (s:Slot):Bool:=
 match a with
 | .ro t=>(match coe t s with|some (_,ms)=>freeToks σ ex ms|none=>false)
 | .own _=>true
 | .clo _ _ ks=>(match s with
  | .clo _ _ caps=>lendCaps σ ex ks caps
  |_=>false)
 | .mu t=> !(t.size==0)&&(match s with
  | .ptr id _ _ _=>(σ.find id).isSome
  |_=>false)
 | .pin t=>(bif t.nl==0&&isEl s then true else match readK σ s fun x _=>some x.ms with|some ms=>freeToks σ ex ms|none=>false)&&
  lendP σ ex s
 | .pio t=> !(t.size==0)&&(match s with
  | .ptr id _ _ _=>(σ.find id).isSome
  | .eptr h τ _ _ _ _=>(match rowTok σ h with|some υ=>(rootTok σ.ln υ==rootTok σ.ln τ)&&σ.al.contains υ|none=>false)
  |_=>false)
 | .io t=>ioAt σ t s
def noOut:List AK->Bool
 |[]=>true
 | .mu _::_| .pio _::_| .io _::_=>false
 |_::r=>noOut r
def noIo:List AK->Bool
 |[]=>true
 | .io _::_=>false
 |_::r=>noIo r
def ioR:AK->List AK->Bool
 | .io _,r=>noOut r
 | .mu _,r| .pio _,r=>noIo r
 |_,_=>true
def lentOk (σ:St) (ex:List (Nat×Nat)):List AK->List Slot->Bool
 |a::r,s::ss=>lendAt σ ex a s&&(ioR a r&&lentOk σ ex r ss)
 |_,_=>true
def roOnly:List AK->Bool
 |[]=>true
 | .ro _::r| .pin _::r| .clo _ _ _::r=>roOnly r
 |_=>false
def lendK (aks:List AK) (sh:Bool) (ss:List Slot) (σ:St) (k:Tup (tysOf aks)->St->Option R):Option R:=
 bif !sh||noPins aks then
  gatherK aks ss (bif sh then σ.freeze (roToks σ aks ss) else σ) fun x σ=>
   bif !(noDup (exclOf σ aks ss)&&lentOk σ (exclOf σ aks ss) aks ss) then none else k x σ
 else none
def backK (aks:List AK) (ss:List Slot) (rs:List (Ty×Bool)) (y:Tup (resOf rs++outsOf aks)) (σ:St) (k:List Val->St->Option R):Option R:=
 putBackK aks ss (Tup.snd (a:=resOf rs) (b:=outsOf aks) y) σ fun σ=>
  match resVals rs (Tup.fst (a:=resOf rs) (b:=outsOf aks) y) σ with
  |(l,σ)=>k l σ
def boxRes:(rs:List (Ty×Bool))->Tup (resOf rs)->Option Val
 |[(t,_)],y=>some ⟨t,Tup.hd y,List.replicate t.nl 0⟩
 |_,_=>none
def callX (fn:Fn) (ss:List Slot) (d:Option Tmp) (σ:St) (k:St->Option R):Option R:=
 bif roOnly fn.s.args&&noneAl σ (roToks σ fn.s.args ss) then
  lendK fn.s.args true ss σ fun x _=>(fn.f x).bind fun y=>match boxRes fn.s.res (Tup.fst (a:=resOf fn.s.res) (b:=outsOf fn.s.args) y) with
   |some v=>k ({σ with bx:=⟨σ.nt,v⟩::σ.bx,nt:=σ.nt+1}.put d (.ptr σ.nt v.t [] v.t))
   |none=>none
 else none
def callK (fn:Fn) (ss:List Slot) (d:Option Tmp) (σ:St) (k:St->Option R):Option R:=
 bif fn.s.bx then callX fn ss d σ k else lendK fn.s.args (shares fn.s) ss σ fun x σ=>(fn.f x).bind fun y=>backK fn.s.args ss fn.s.res y σ fun l σ=>k (σ.put d (resSlot l))
def partsK (t:Ty):List (Nat×Slot)->Val->(Val->Option R)->Option R
 |[],x,k=>k x
 |(i,s)::r,x,k=>match t with
  | .st u=>(match fieldPath u i with
   |some p=>(match coe (fieldTy u p) s with
    |some (v,ms)=>setK x.t x.v x.ms p ⟨fieldTy u p,v,ms⟩ fun v ms=>partsK t r ⟨x.t,v,ms⟩ k
    |none=>none)
   |none=>none)
  | .arr n u=>(match coe u s with
   |some (v,ms)=>bif decide (i<n) then setK x.t x.v x.ms [.ix i] ⟨u,v,ms⟩ fun v ms=>partsK t r ⟨x.t,v,ms⟩ k else none
   |none=>none)
  |_=>none
def listK (t:Ty):List (Nat×Slot)->List t.den->List Nat->(List t.den->List Nat->Option R)->Option R
 |[],xs,ts,k=>k xs ts
 |(i,s)::r,xs,ts,k=>match coe t s with
  |some (v,ms)=>bif decide (i<xs.length) then listK t r (xs.set i v) (ms++ts) k else none
  |none=>none

def homeOf (x:Operand) (h:Option Home):Option Home:=
 match h,x with
 |some h,_=>some h
 |none,.tmp i=>some ⟨.tmp i,[]⟩
 |_,_=>none
def atHome (σ:St) (e:TypeId) (u:Ty) (τ:Nat):Option Home->Option Home
 |some h=>bif σ.al.contains τ then rowK σ h fun _ z=>bif Ty.beq z.t (.sl e u)&&z.ms.headD 0==τ then some h else none else none
 |none=>none
def stepK (P:Tabs) (o:Oper) (σ:St) (k:St->Option R):Option R:=
 match o.op with
 | .move x=>(match opd σ x with
  | .val v h=>k (σ.put o.dst (.val v (homeOf x h)))
  | .nilsl=>(match P.T o.type with
   |some (.sl e t)=>k (σ.put o.dst (.val ⟨.sl e t,([]:List t.den),[1]⟩ none))
   |_=>none)
  | .no=>none
  |s=>k (σ.put o.dst s))
 | .assign x=>(match opd σ x with
  | .val v _=>k (σ.put o.dst (.val v none))
  | .nilsl=>(match P.T o.type with
   |some (.sl e t)=>k (σ.put o.dst (.val ⟨.sl e t,([]:List t.den),[1]⟩ none))
   |_=>none)
  | .no=>(match x with
   | .const (.pointer none)=>k (σ.put o.dst .no)
   |_=>none)
  |s=>k (σ.put o.dst s))
 | .pick c a b=>(match opd σ c,opd σ a,opd σ b with
  | .val ⟨.bool,c,_⟩ _,.val ⟨.bool,a,_⟩ _,.val ⟨.bool,b,_⟩ _=>k (σ.putv o.dst .bool (bif c then a else b))
  |_,_,_=>none)
 | .alloc e=>(match P.T e with
  |some t=>k ({σ with bx:=⟨σ.nt,⟨t,t.zero,List.replicate t.nl 1⟩⟩::σ.bx,nt:=σ.nt+1}.put o.dst (.ptr σ.nt t [] t))
  |none=>none)
 | .box e x=>(match P.T e with
  |some t=>(match coe t (opd σ x) with
   |some (v,ms)=>k ({σ with bx:=⟨σ.nt,⟨t,v,ms⟩⟩::σ.bx,nt:=σ.nt+1}.put o.dst (.ptr σ.nt t [] t))
   |none=>none)
  |none=>none)
 | .build t ps=>(match P.T t with
  |some t=>bif t.agg then partsK t (ps.toList.map fun p=>(p.1,opd σ p.2)) ⟨t,t.zero,List.replicate t.nl 1⟩ fun x=>k (σ.put o.dst (.val x none)) else none
  |none=>none)
 | .buildSlice t n ps=>(match P.T t with
  |some (.sl e t)=>listK t (ps.toList.map fun p=>(p.1,opd σ p.2)) (List.replicate n t.zero) [] fun xs ts=>
    guardK (allUs σ ts&&decide (n*t.size<=16777216)) (k (((σ.freeze ts).more 1).put o.dst (.val ⟨.sl e t,xs,[σ.nt]⟩ none)))
  |_=>none)
 | .load t p=>(match P.T t with
  |some t=>readK σ (opd σ p) fun x h=>bif Ty.beq x.t t then k (σ.put o.dst (.val x h)) else none
  |none=>none)
 | .store t p x=>(match P.T t,o.dst with
  |some t,none=>(match coe t (opd σ x) with
   |some (v,ms)=>writeK (bif isEl (opd σ p) then σ.freeze ms else σ) (opd σ p) ⟨t,v,ms⟩ k
   |none=>none)
  |_,_=>none)
 | .nilCheck x=>(match opd σ x with
  | .ptr id r p t=>k (σ.put o.dst (.ptr id r p t))
  | .eptr h τ i u p t=>k (σ.put o.dst (.eptr h τ i u p t))
  | .rptr τ x=>k (σ.put o.dst (.rptr τ x))
  | .clo f n c=>k (σ.put o.dst (.clo f n c))
  |_=>none)
 | .binOp op tt x y _=>binK (P.T tt) op (opd σ x) (opd σ y) fun t v=>k (σ.putv o.dst t v)
 | .unOp op _ x=>unK op (opd σ x) fun t v=>k (σ.putv o.dst t v)
 | .convert s d x=>(match P.T s,P.T d,opd σ x with
  |some (.int _),some (.int q),.val ⟨.int _,n,_⟩ _=>k (σ.putv o.dst (.int q) (q.wrap n))
  |some .str,some .str,.val ⟨.str,n,_⟩ _=>k (σ.putv o.dst .str n)
  |some (.sl _ (.int .u8)),some .str,s=>(match s with
   | .val ⟨.sl _ (.int .u8),n,ms⟩ _=>bif σ.us (ms.headD 0) then k (σ.putv o.dst .str (n.map fun(b:Int)=>UInt8.ofNat b.toNat)) else none
   | .nilsl=>k (σ.putv o.dst .str [])
   |_=>none)
  |_,_,_=>none)
 | .makeSlice t n c=>(match P.T t,opd σ n,opd σ c with
  |some (.sl e t),.val ⟨.int _,n,_⟩ _,.val ⟨.int _,c,_⟩ _=>
   guardK (decide (0<=n)&&decide (n<=c)&&decide (c<=LIM)) (k ((σ.more 1).put o.dst (.val ⟨.sl e t,List.replicate n.toNat t.zero,[σ.nt]⟩ none)))
  |_,_,_=>none)
 | .slice tt x lo hi none=>(match P.T tt with
  |some .str=>(match opd σ x with
   | .val ⟨.str,s,_⟩ _=>boundK s.length (lo.map (opd σ)) (hi.map (opd σ)) fun l h=>k (σ.putv o.dst .str (cutList s (lo.map (opd σ)) (hi.map (opd σ)) l h))
   |_=>none)
  |some (.sl e t)=>(match opd σ x with
   | .val y h=>(match cast? (.sl e t) y with
    |some (s,ms)=>boundK (s:List t.den).length (lo.map (opd σ)) (hi.map (opd σ)) fun l r=>
     (match lo with
     |none=>bif σ.us (ms.headD 0) then k (σ.put o.dst (.val ⟨.sl e t,cutList (s:List t.den) none (hi.map (opd σ)) l r,ms⟩ h)) else none
     |some _=>bif σ.us (ms.headD 0) then k ((σ.freeze ms).put o.dst (.val ⟨.sl e t,cutList (s:List t.den) (lo.map (opd σ)) (hi.map (opd σ)) l r,[0]⟩ none)) else none)
    |none=>none)
   |_=>none)
  |_=>none)
 | .fieldAddr s x j=>(match P.T s with
  |some (.st u)=>(match fieldPath u j with
   |some p=>(match opd σ x with
    | .ptr id r q t=>bif Ty.beq t (.st u)&& !p.isEmpty then k (σ.put o.dst (.ptr id r (q++p) (fieldTy u p))) else none
    | .eptr h τ i z q t=>bif Ty.beq t (.st u)&& !p.isEmpty then k (σ.put o.dst (.eptr h τ i z (q++p) (fieldTy u p))) else none
    | .rptr τ y=>(match cast? (.st u) y with
     |some (v,ms)=>getK u v ms p fun y=>k (σ.put o.dst (.rptr τ y))
     |none=>none)
    |_=>none)
   |none=>none)
  |_=>none)
 | .field s x j=>(match P.T s with
  |some (.st u)=>(match fieldPath u j with
   |some p=>(match opd σ x with
    | .val y h=>(match cast? (.st u) y with
     |some (v,ms)=>getK u v ms p fun y=>k (σ.put o.dst (.val y (h.map fun h=>⟨h.root,h.path++p⟩)))
     |none=>none)
    |_=>none)
   |none=>none)
  |_=>none)
 | .indexAddr tt x i=>(match P.T tt with
  |some (.arr n u)=>(match opd σ x with
   | .ptr id r q t=>bif Ty.beq t (.arr n u) then(match opd σ i with
     | .val ⟨.int _,i,_⟩ _=>guardK (decide (0<=i)&&decide (i<n)) (k (σ.put o.dst (.ptr id r (q++[.ix i.toNat]) u)))
     |_=>none) else none
   | .rptr τ y=>(match cast? (.arr n u) y with
    |some (v,_)=>bif σ.us τ&& !(τ==1) then idxK (v:List u.den) (opd σ i) fun _ x=>k (σ.put o.dst (.rptr τ ⟨u,x,[]⟩)) else none
    |none=>none)
   |_=>none)
  |some (.sl e u)=>(match opd σ x with
   | .val y h=>(match cast? (.sl e u) y with
    |some (v,ms)=>idxK (v:List u.den) (opd σ i) fun j x=>
     (match atHome σ e u (ms.headD 0) h with
     |some h=>k (σ.put o.dst (.eptr h (ms.headD 0) j u [] u))
     |none=>bif σ.us (ms.headD 0) then k (σ.put o.dst (.rptr (ms.headD 0) ⟨u,x,List.replicate u.nl 0⟩)) else none)
    |none=>none)
   |_=>none)
  |_=>none)
 | .index tt x i=>(match P.T tt with
  |some .str=>(match opd σ x with
   | .val ⟨.str,s,_⟩ _=>idxK s (opd σ i) fun _ b=>k (σ.putv o.dst (.int .u8) ((b.toNat:Nat):Int))
   |_=>none)
  |some (.arr n u)=>(match opd σ x with
   | .val y _=>(match cast? (.arr n u) y with
    |some (v,_)=>bif u.nl==0 then idxK (v:List u.den) (opd σ i) fun _ x=>k (σ.putv o.dst u x) else none
    |none=>none)
   |_=>none)
  |_=>none)
 | .extract x i=>(match opd σ x with
  | .tup l=>(match l[i]? with
   |some v=>k (σ.put o.dst (.val v none))
   |none=>none)
  |_=>none)
 | .call ⟨.builtin .len,args,ats⟩=>(match ats.toList.map P.T,args.toList.map (opd σ) with
  |[some .str],[.val ⟨.str,s,_⟩ _]=>k (σ.putv o.dst (.int .i64) (s.length:Nat))
  |[some (.sl e t)],[.val y _]=>(match cast? (.sl e t) y with
   |some (s,_)=>k (σ.putv o.dst (.int .i64) ((s:List t.den).length:Nat))
   |none=>none)
  |_,_=>none)
 | .call ⟨.builtin .min,args,_⟩=>(match args.toList.map (opd σ) with
  |[.val ⟨.int q,x,_⟩ _,.val ⟨.int _,y,_⟩ _]=>k (σ.putv o.dst (.int q) (bif decide (y<x) then y else x))
  |_=>none)
 | .call ⟨.builtin .max,args,_⟩=>(match args.toList.map (opd σ) with
  |[.val ⟨.int q,x,_⟩ _,.val ⟨.int _,y,_⟩ _]=>k (σ.putv o.dst (.int q) (bif decide (x<y) then y else x))
  |_=>none)
 | .call ⟨.builtin .append,args,ats⟩=>(match ats.toList,args.toList.map (opd σ) with
  |[t0,t1],[s,x]=>(match P.T t0 with
  |some (.sl e t)=>(match coe (.sl e t) s with
   |some (xs,ms)=>
    guardK (σ.own (ms.headD 0)) (match P.T t1 with
    |some (.sl _ _)=>(match coe (.sl e t) x with
     |some (ys,us)=>guardK (t0==t1&&σ.us (us.headD 0)&&decide (List.length (α:=t.den) xs+List.length (α:=t.den) ys<=LIM))
       (k (({σ with al:=σ.al.erase (ms.headD 0)}.more 1).put o.dst (.val ⟨.sl e t,(xs:List t.den)++ys,[σ.nt]⟩ none)))
     |none=>none)
    |_=>none)
   |none=>none)
  |_=>none)
  |_,_=>none)
 | .call ⟨.value (.func f),args,_⟩=>(match P.F f with
  |some fn=>callK fn (args.toList.map (opd σ)) o.dst σ k
  |none=>none)
 | .call ⟨.value (.tmp t),args,_⟩=>(match σ.fr.getD t .no with
  | .clo f n caps=>(match P.F f with
   |some fn=>bif fn.s.bx then none else callK fn (caps.take n++args.toList.map (opd σ)++caps.drop n) o.dst σ k
   |none=>none)
  |_=>none)
 | .makeFunc (.func f) first caps=>(match capsOf ((first++caps).toList.map (opd σ)) with
  |some l=>k (σ.put o.dst (.clo f first.size l))
  |none=>none)
 |_=>none
end
def quiet (T:Tabs) (o:Op):Bool:=
 match o with
 | .store _ _ _=>false
 | .call ⟨.builtin .append,_,_⟩=>false
 | .call ⟨.value (.func f),_,_⟩=>(match T.F f with
  |some fn=>roOnly fn.s.args
  |none=>false)
 | .call ⟨.value (.tmp _),_,_⟩=>false
 |_=>true
def flatRes:List (Ty×Bool)->Bool
 |[]=>true
 |(t,_)::r=>t.flat&&flatRes r
def fixK (T:Tabs) (o:Op):Bool:=
 match o with
 | .move _| .assign _| .pick _ _ _| .load _ _| .nilCheck _| .binOp _ _ _ _ _| .unOp _ _ _| .convert _ _ _| .slice _ _ _ _ _| .fieldAddr _ _ _| .field _ _ _| .indexAddr _ _ _| .index _ _ _| .extract _ _| .build _ _| .makeFunc (.func _) _ _=>true
 | .call ⟨.builtin .len,_,_⟩| .call ⟨.builtin .min,_,_⟩| .call ⟨.builtin .max,_,_⟩=>true
 | .call ⟨.value (.func f),_,_⟩=>(match T.F f with
  |some fn=>roOnly fn.s.args&&flatRes fn.s.res&& !fn.s.bx
  |none=>false)
 |_=>false
def Slot.lit?:Slot->Option Bool
 | .val ⟨.bool,b,_⟩ _=>some b
 |_=>none
def gOf (o:Oper):Nat:=match o.guard with|some (j,_)=>j+1|none=>0
def spanG (j:Nat):List (Oper×Nat)->List (Oper×Nat)×List (Oper×Nat)
 |[]=>([],[])
 |o::r=>bif decide (j<gOf o.1) then(match spanG j r with|(a,b)=>(o::a,b)) else([],o::r)
def dstOf (ops:Array Oper) (j:Nat):Option Tmp:=(ops[j]?).bind (·.dst)
def clearD (l:List (Oper×Nat)) (σ:St):St:=l.foldl (fun σ o=>σ.put o.1.dst .no) σ
def okH (i0 j:Nat) (w:Bool) (c:Tmp) (o:Oper) (i:Nat):Bool:=
 (match o.guard with
 |some (j',w')=>(j'==j&&w'==w)||(decide (i0<=j')&&decide (j'<i))
 |none=>false)&& !(o.dst==some c)
def okG (P:Tabs) (i0 j:Nat) (w:Bool) (c:Tmp) (o:Oper) (i:Nat):Bool:=okH i0 j w c o i&&quiet P o.op
def pgOk (act:List (Nat×Bool)):Option (Nat×Bool)->Bool
 |none=>true
 |some x=>act.contains x
def openG (act:List (Nat×Bool)) (o:Oper):Option (Nat×Bool):=
 match o.guard with
 |some g=>bif act.contains g then none else some g
 |none=>none
def boolOf (s:Slot):Option Bool:=match s with
 | .val ⟨.bool,b,_⟩ _=>some b
 |_=>none

section
variable {R:Type}
def opsK (P:Tabs) (ops:Array Oper):Nat->List (Nat×Bool)->(R:Type)->List (Oper×Nat)->St->(St->Option R)->Option R
 |_,_,_,[],σ,k=>k σ
 |0,_,_,_::_,_,_=>none
 |n+1,act,R,o::r,σ,k=>match openG act o.1 with
  |none=>stepK P o.1 σ fun σ=>opsK P ops n act R r σ k
  |some (j,w)=>(match spanG j (o::r) with
   |(g,({dst:=some d,op:=.pick (.tmp c) a b,guard:=pg,..},_)::r')=>
    bif dstOf ops j==some c&&g.all (fun q=>okG P o.2 j w c q.1 q.2)&&pgOk act pg then(match boolOf (σ.fr.getD c .no) with
     |some v=>
      (bif (bif w then v else !v) then opsK P ops n ((j,w)::act) Bool g σ fun σ'=>boolOf (opd σ' (bif w then a else b))
      else boolOf (opd (clearD g σ) (bif w then b else a))).bind fun t=>opsK P ops n act R r' ((clearD g σ).put (some d) (.val ⟨.bool,t,[]⟩ none)) k
     |none=>none)
    else bif dstOf ops j==some c&&g.all (fun q=>okH o.2 j w c q.1 q.2)&&pgOk act pg then(match boolOf (σ.fr.getD c .no) with
     |some v=>
      bif (bif w then v else !v) then opsK P ops n ((j,w)::act) R g σ fun σ'=>(boolOf (opd σ' (bif w then a else b))).bind fun t=>opsK P ops n act R r' ((clearD g σ').put (some d) (.val ⟨.bool,t,[]⟩ none)) k
      else(boolOf (opd (clearD g σ) (bif w then b else a))).bind fun t=>opsK P ops n act R r' ((clearD g σ).put (some d) (.val ⟨.bool,t,[]⟩ none)) k
     |none=>none) else none
   |_=>none)
end
def bareOp (o:Oper):Bool:=o.guard.isNone&&(match o.op with| .extract _ _| .move _| .assign _=>true|_=>false)
def lateB (ops:Array Oper) (m n i:Nat):Bool:=decide (i<m)&& !((A9 (n+1)).any fun j=>decide (i<j)&&AG .any ops j i)
def ldO (o:Oper):Nat:=o.after.toList.foldr (fun e m=>bif BT .any e then max m (e.on+1) else m) 0
def tailGo (ops:Array Oper):Nat->List Oper->Bool
 |_,[]=>true
 |i,o::r=>decide (ldO o<=i)&&(r.all (fun p=>decide (i<ldO p))||bareOp o&&r.all (fun p=>p.after.any (fun e=>BT .any e&&e.on==i)||o.apart ops p))&&tailGo ops (i+1) r
def tailB (ops:Array Oper) (n:Nat):Bool:=
 (ops.toList.drop (n+1)).all (fun p=>decide (n<ldO p))&&tailGo ops n (ops.toList.drop n)
def mixB (ops:Array Oper) (m n:Nat):Bool:=
 BL ops&&decide (m<=n)&&decide (n<=ops.size)&&
 (A9 n).all (fun i=>match ops[i]? with
  |some o=>o.dst.isSome&&o.after.all (fun e=> !Region.binds .any e||decide (e.on<i))&&
   (A9 n).all (fun j=>j==i||(match ops[j]? with|some p=> !(p.dst==o.dst)|none=>true))&&
   (decide (m<=i)||(A9 n).all (fun j=>match(ops[j]?).bind (·.dst) with
    |some t=> !(o.looksAt ops).contains t||(decide (j<m)&&decide (j<i)&&AG .any ops i j)
    |none=>true))&&
   (n==ops.size||(bif lateB ops m n i then bareOp o&&(A9 ops.size).all (fun j=>j==i||AG .any ops j i||AG .any ops i j||(match ops[j]? with|some p=>o.apart ops p|none=>true))
    else(A9 (n+1)).any (fun j=>decide (i<j)&&AG .any ops j i&&(j==n|| !lateB ops m n j))))
  |none=>false)&&
 tailB ops n
def mixL (ops:Array Oper) (m n:Nat):Bool:=
 BL ops&&decide (m<=n)&&decide (n<=ops.size)&&
 (A9 n).all (fun i=>match ops[i]? with
  |some o=>o.dst.isSome&&o.after.all (fun e=> !Region.binds .any e||decide (e.on<i))&&
   (A9 n).all (fun j=>j==i||(match ops[j]? with|some p=> !(p.dst==o.dst)|none=>true))&&
   (decide (m<=i)||(A9 n).all (fun j=>match(ops[j]?).bind (·.dst) with
    |some t=> !(o.looksAt ops).contains t||(decide (j<m)&&decide (j<i)&&AG .any ops i j)
    |none=>true))&&
   (n==ops.size||(bif lateB ops m n i then !bareOp o||(A9 ops.size).all (fun j=>j==i||AG .any ops j i||AG .any ops i j||(match ops[j]? with|some p=>o.apart ops p|none=>true))
    else(A9 (n+1)).any (fun j=>decide (i<j)&&AG .any ops j i&&(j==n|| !lateB ops m n j))))
  |none=>false)&&
 tailB ops n
def isNew (P:Tabs) (o:Oper):Bool:=(match o.op with| .alloc e=>(P.T e).isSome|_=>false)&&o.guard.isNone&&o.dst.isSome
def lead (p:Oper->Bool):List Oper->Nat
 |[]=>0
 |o::r=>bif p o then lead p r+1 else 0
def drawM (P:Tabs) (ops:Array Oper):Nat:=lead (fun o=>fixK P o.op) ops.toList
def drawN (P:Tabs) (ops:Array Oper):Nat:=drawM P ops+lead (isNew P) (ops.toList.drop (drawM P ops))
def resVals0:(rs:List (Ty×Bool))->Tup (resOf rs)->List Val
 |[],_=>[]
 |(t,_)::r,y=>⟨t,Tup.hd y,List.replicate t.nl 0⟩::resVals0 r (Tup.tl y)
def slotAt (σ:St) (d:Option Tmp):Slot:=match d with
 |some d=>σ.fr.getD d .no
 |none=>.no
def headOp (P:Tabs) (o:Op):Bool:=
 match o with
 | .buildSlice _ _ _=>true
 | .makeSlice _ _ _=>true
 | .call ⟨.value (.func f),_,_⟩=>(match P.F f with
  |some fn=>roOnly fn.s.args&& !fn.s.bx
  |none=>false)
 |o=>fixK P o
def drawH (P:Tabs) (ops:Array Oper):Nat:=lead (fun o=>headOp P o.op) ops.toList
def drawHN (P:Tabs) (ops:Array Oper):Nat:=drawH P ops+lead (isNew P) (ops.toList.drop (drawH P ops))
def hideL (D l:List Nat):Nat->List Slot->List Slot
 |_,[]=>[]
 |i,s::r=>(bif D.contains i&& !l.contains i then .no else s)::hideL D l (i+1) r
def hide (D l:List Nat) (σ:St):St:={σ with fr:=hideL D l 0 σ.fr}
section
variable {R:Type}
def slotK (P:Tabs) (o:Oper) (σ:St) (k:Slot->Option R):Option R:=
 match o.op with
 | .buildSlice t n ps=>(match P.T t with
  |some (.sl e t)=>listK t (ps.toList.map fun p=>(p.1,opd σ p.2)) (List.replicate n t.zero) [] fun xs ts=>
    guardK (noneAl σ ts&&allUs σ ts&&decide (n*t.size<=16777216)) (k (.val ⟨.sl e t,xs,[0]⟩ none))
  |_=>none)
 | .call ⟨.value (.func f),args,_⟩=>(match P.F f with
  |some fn=>bif roOnly fn.s.args&& !fn.s.bx&&(!shares fn.s||noneAl σ (roToks σ fn.s.args (args.toList.map (opd σ)))) then
    lendK fn.s.args (shares fn.s) (args.toList.map (opd σ)) σ fun x _=>(fn.f x).bind fun y=>k (resSlot (resVals0 fn.s.res (Tup.fst (a:=resOf fn.s.res) (b:=outsOf fn.s.args) y)))
   else none
  |none=>none)
 | .makeSlice t n c=>(match P.T t,opd σ n,opd σ c with
  |some (.sl e t),.val ⟨.int _,n,_⟩ _,.val ⟨.int _,c,_⟩ _=>
   guardK (decide (0<=n)&&decide (n<=c)&&decide (c<=LIM)) (k (.val ⟨.sl e t,List.replicate n.toNat t.zero,[0]⟩ none))
  |_,_,_=>none)
 | .slice _ x lo _ _=>bif lo.isNone||(match opd σ x with| .val y _=>noneAl σ y.ms|_=>true) then stepK P o σ fun σ'=>k (slotAt σ' o.dst) else none
 |_=>stepK P o σ fun σ'=>k (slotAt σ' o.dst)
def headK (P:Tabs) (D:List Nat) (ops:Array Oper):Nat->List (Nat×Bool)->(R:Type)->List (Oper×Nat)->St->(St->Option R)->Option R
 |_,_,_,[],σ,k=>k σ
 |0,_,_,_::_,_,_=>none
 |n+1,act,R,o::r,σ,k=>match openG act o.1 with
  |none=>slotK P o.1 (hide D (o.1.looksAt ops) σ) fun s=>headK P D ops n act R r (σ.put o.1.dst s) k
  |some (j,w)=>(match spanG j (o::r) with
   |(g,({dst:=some d,op:=.pick (.tmp c) a b,guard:=pg,..},_)::r')=>
    bif decide (j<o.2)&&dstOf ops j==some c&&g.all (fun q=>okG P o.2 j w c q.1 q.2)&&pgOk act pg then(match boolOf (σ.fr.getD c .no) with
     |some v=>
      (bif (bif w then v else !v) then headK P D ops n ((j,w)::act) Bool g σ fun σ'=>boolOf (opd σ' (bif w then a else b))
      else boolOf (opd (clearD g σ) (bif w then b else a))).bind fun t=>headK P D ops n act R r' ((clearD g σ).put (some d) (.val ⟨.bool,t,[]⟩ none)) k
     |none=>none) else none
   |_=>none)
end
def headD (ops:Array Oper) (m:Nat):List Nat:=(ops.toList.take m).filterMap (·.dst)
def isStore (o:Oper):Bool:=(match o.op with| .store _ (.tmp _) _=>true|_=>false)&&o.guard.isNone&&o.dst.isNone
def drawQ (P:Tabs) (ops:Array Oper):Nat:=drawHN P ops+lead isStore (ops.toList.drop (drawHN P ops))
def earlyB (ops:Array Oper) (m n q:Nat):Bool:=
 BL ops&&decide (m<=n)&&decide (n<=q)&&decide (q<=ops.size)&&
 (A9 q).all (fun i=>match ops[i]? with
  |some o=>o.after.all (fun e=> !Region.binds .any e||decide (e.on<i))&&
   (decide (n<=i)||(o.dst.isSome&&(A9 n).all (fun j=>j==i||(match ops[j]? with|some p=> !(p.dst==o.dst)|none=>true))))&&
   ((decide (m<=i)&&decide (i<n))||(A9 n).all (fun j=>match(ops[j]?).bind (·.dst) with
    |some t=> !(o.looksAt ops).contains t||(decide (j<m)&&decide (j<i)&&AG .any ops i j)
    |none=>true))&&
   (q==ops.size||(bif lateB ops m q i then bareOp o&&(A9 ops.size).all (fun j=>j==i||AG .any ops j i||AG .any ops i j||(match ops[j]? with|some p=>o.apart ops p|none=>true))
    else(A9 (q+1)).any (fun j=>decide (i<j)&&AG .any ops j i&&(j==q|| !lateB ops m q j))))
  |none=>false)&&
 tailB ops q
def storeId (P:Tabs) (σ:St) (o:Oper):Option Nat:=
 match o.op with
 | .store t p _=>(match P.T t,opd σ p with
  |some t,.ptr id _ [] _=>(match σ.find id with
   |some y=>bif Ty.beq y.t t then some id else none
   |none=>none)
  |_,_=>none)
 |_=>none
def storeIds (P:Tabs) (σ:St):List Oper->Option (List Nat)
 |[]=>some []
 |o::r=>match storeId P σ o,storeIds P σ r with
  |some id,some l=>bif l.contains id then none else some (id::l)
  |_,_=>none
def storeOk (P:Tabs) (σ:St) (o:Oper):Bool:=
 match o.op with
 | .store t _ x=>(match P.T t with
  |some t=>(coe t (opd σ x)).isSome
  |none=>false)
 |_=>false
def poison (ids:List Nat) (σ:St):St:={σ with bx:=σ.bx.map fun b=>bif ids.contains b.id then⟨b.id,⟨.unit,(),[]⟩⟩ else b}
def outPtr (D:List Nat) (o:Oper):Bool:=match o.op with
 | .store _ (.tmp p) _=> !D.contains p
 |_=>false
def earlyK {R:Type} (P:Tabs) (ops:Array Oper) (m n q:Nat) (σ:St) (k:St->Option R):Option R:=
 bif !((ops.toList.drop n).take (q-n)).all (outPtr (headD ops n)) then none else match storeIds P σ ((ops.toList.drop n).take (q-n)) with
 |some ids=>headK P (headD ops n) ops (ops.size+1) [] R (ops.toList.zipIdx.take m) (poison ids σ) fun σ'=>
   bif ((ops.toList.drop n).take (q-n)).all (storeOk P σ') then opsK P ops (ops.size+1) [] R (ops.toList.zipIdx.drop m) {σ' with bx:=σ.bx} k else none
 |none=>none
def muOnly:List AK->Bool
 |[]=>true
 | .ro _::r| .pin _::r| .mu _::r| .clo _ _ _::r=>muOnly r
 |_=>false
def isEff (P:Tabs) (o:Op):Bool:=
 match o with
 | .call ⟨.value (.func f),_,_⟩=>(match P.F f with
  |some fn=>muOnly fn.s.args&& !roOnly fn.s.args&& !fn.s.bx
  |none=>false)
 |_=>false
def fillK {R:Type} (σ:St) (s:Slot) (x:Val) (k:Nat->Option R):Option R:=
 match s with
 | .ptr id r [] _=>(match σ.find id with
  |some y=>bif Ty.beq y.t r&&Ty.beq y.t x.t then k id else none
  |none=>none)
 |_=>none
def muSlot:List AK->List Slot->Option Slot
 | .mu _::_,s::_=>some s
 |_::r,_::ss=>muSlot r ss
 |_,_=>none
def muVal:(ks:List AK)->Tup (outsOf ks)->Option Val
 | .mu t::r,y=>some ⟨t,Tup.fst (a:=[t]) (b:=outsOf r) y,List.replicate t.nl 0⟩
 | .ro _::r,y=>muVal r y
 | .pin _::r,y=>muVal r y
 | .clo _ _ _::r,y=>muVal r y
 |_,_=>none
section
variable {R:Type}
def effK (P:Tabs) (o:Oper) (σ:St) (k:Nat->Val->Slot->Option R):Option R:=
 match o.op with
 | .call ⟨.value (.func f),args,_⟩=>(match P.F f with
  |some fn=>bif !fn.s.bx&&muOnly fn.s.args&&(exclOf σ fn.s.args (args.toList.map (opd σ))).length==1&&(!shares fn.s||noneAl σ (roToks σ fn.s.args (args.toList.map (opd σ)))) then
    lendK fn.s.args (shares fn.s) (args.toList.map (opd σ)) σ fun x _=>(fn.f x).bind fun y=>
     match muSlot fn.s.args (args.toList.map (opd σ)),muVal fn.s.args (Tup.snd (a:=resOf fn.s.res) (b:=outsOf fn.s.args) y) with
     |some s,some v=>fillK σ s v fun id=>k id v (resSlot (resVals0 fn.s.res (Tup.fst (a:=resOf fn.s.res) (b:=outsOf fn.s.args) y)))
     |_,_=>none
   else none
  |none=>none)
 |_=>none
def gK (P:Tabs) (D:List Nat) (ops:Array Oper) (ids:List Nat):List (Oper×Nat)->St->(St->Option R)->Option R
 |[],σ,k=>k σ
 |o::r,σ,k=>bif isEff P o.1.op then
   (bif o.1.guard.isNone then effK P o.1 (hide D (o.1.looksAt ops) σ) fun id x s=>bif ids.contains id then gK P D ops ids r ({σ with bx:=setBx id x σ.bx}.put o.1.dst s) k else none else none)
  else bif o.1.guard.isNone&&headOp P o.1.op then slotK P o.1 (hide D (o.1.looksAt ops) (poison ids σ)) fun s=>gK P D ops ids r (σ.put o.1.dst s) k else none
end
def muArg:List AK->List Operand->Option Operand
 | .mu _::_,s::_=>some s
 |_::r,_::ss=>muArg r ss
 |_,_=>none
def srcOf (ops:Array Oper) (D:List Nat) (σ:St):Operand->Slot
 | .tmp t=>bif D.contains t then(match ops.toList.find? (fun o=>o.dst==some t) with
  |some o=>(match o.op with
   | .move x=>opd σ x
   |_=>.no)
  |none=>.no) else opd σ (.tmp t)
 |_=>.no
def gIds (P:Tabs) (ops:Array Oper) (D:List Nat) (σ:St) (l:List Oper):List Nat:=
 l.filterMap fun o=>match o.op with
  | .call ⟨.value (.func f),args,_⟩=>(match P.F f with
   |some fn=>(match muArg fn.s.args args.toList with
    |some x=>(match srcOf ops D σ x with
     | .ptr id _ _ _=>some id
     |_=>none)
    |none=>none)
   |none=>none)
  |_=>none
def gM (P:Tabs) (ops:Array Oper):Nat:=lead (fun o=>isEff P o.op||headOp P o.op) ops.toList
def gN (P:Tabs) (ops:Array Oper) (m:Nat):Nat:=m+lead (isNew P) (ops.toList.drop m)
def gOfs (P:Tabs) (ops:Array Oper):Nat:=bif mixL ops (gM P ops) (gN P ops (gM P ops)) then gM P ops else gM P ops-1
def gChain (P:Tabs) (ops:Array Oper) (m:Nat):Bool:=
 (A9 m).all fun i=>(A9 i).all fun j=>match ops[i]?,ops[j]? with
  |some o,some p=> !(isEff P o.op&&isEff P p.op)||AG .any ops i j
  |_,_=>true
def boxOf (P:Tabs) (ops:Array Oper) (ids:List Nat) (σ:St) (t:TypeId) (p:Tmp):Option Nat:=
 match P.T t,σ.fr.getD p .no with
 |some tt,.ptr id _ [] _=>bif ids.contains id||ops.toList.any (fun o=>o.dst==some p) then none else(match σ.find id with
  |some y=>bif Ty.beq y.t tt then some id else none
  |none=>none)
 |_,_=>none
def lateQ (P:Tabs) (ops:Array Oper) (ids:List Nat) (σ:St) (id:Nat) (q:Oper):Bool:=
 bareOp q||q.guard.isNone&&(match q.op with
  | .load _ (.tmp _)=>true
  | .store t p _=>(match p with
   | .tmp p=>q.dst.isNone&&(match boxOf P ops ids σ t p with
    |some c=> !(c==id)
    |none=>false)
   |_=>false)
  |_=>false)
def lateOk (P:Tabs) (ops:Array Oper) (m n:Nat) (ids:List Nat) (σ:St):Bool:=
 n==ops.size||(A9 m).all fun i=> !lateB ops m n i||(match ops[i]? with
  |some o=>bareOp o||o.guard.isNone&&(match o.op with
   | .load t (.tmp p)=>(match boxOf P ops ids σ t p with
    |some id=>(A9 ops.size).all fun j=>j==i||AG .any ops j i||AG .any ops i j||(decide (j<n)&& !lateB ops m n j)||(match ops[j]? with
     |some q=>o.apart ops q&&lateQ P ops ids σ id q
     |none=>true)
    |none=>false)
   |_=>false)
  |none=>true)
def isMade (P:Tabs) (o:Oper):Bool:=o.guard.isNone&&o.dst.isSome&&(match o.op with
 | .call ⟨.builtin .append,args,ats⟩=>(match args.toList,ats.toList with
  |[.const (.slice none 0 0),_],[t0,t1]=>t0==t1&&(match P.T t0 with|some (.sl _ t)=>t.flat|_=>false)
  |_,_=>false)
 | .call ⟨.value (.func f),_,_⟩=>(match P.F f with
  |some fn=>roOnly fn.s.args&& !fn.s.bx&& !shares fn.s&&(match fn.s.res with|[(.sl _ t,true)]=>t.flat|_=>false)
  |none=>false)
 |_=>false)
section
variable {R:Type}
def madeK (P:Tabs) (o:Oper) (σ:St) (k:Val->Option R):Option R:=
 match o.op with
 | .call ⟨.builtin .append,args,ats⟩=>(match ats.toList,args.toList.map (opd σ) with
  |[t0,_],[_,x]=>(match P.T t0 with
   |some (.sl e t)=>(match coe (.sl e t) x with
    |some (ys,us)=>guardK (σ.us (us.headD 0)&&decide (List.length (α:=t.den) ys<=LIM)) (k ⟨.sl e t,ys,[]⟩)
    |none=>none)
   |_=>none)
  |_,_=>none)
 | .call ⟨.value (.func f),args,_⟩=>(match P.F f with
  |some fn=>lendK fn.s.args (shares fn.s) (args.toList.map (opd σ)) σ fun x _=>(fn.f x).bind fun y=>
    match resVals0 fn.s.res (Tup.fst (a:=resOf fn.s.res) (b:=outsOf fn.s.args) y) with
    |[v]=>k ⟨v.t,v.v,[]⟩
    |_=>none
  |none=>none)
 |_=>none
def mK (P:Tabs) (D:List Nat) (ops:Array Oper):List (Oper×Nat)->St->List (Nat×Val)->(List (Nat×Val)->St->Option R)->Option R
 |[],σ,l,k=>k l σ
 |o::r,σ,l,k=>bif isMade P o.1 then madeK P o.1 (hide D (o.1.looksAt ops) σ) fun x=>mK P D ops r (σ.put o.1.dst .no) ((o.1.dst.getD 0,x)::l) k
  else bif o.1.guard.isNone&&headOp P o.1.op then slotK P o.1 (hide D (o.1.looksAt ops) σ) fun s=>mK P D ops r (σ.put o.1.dst s) l k else none
end
def thinS:Slot->Slot
 | .ptr id r p t=>.ptr id r p t
 | .val x _=>bif x.t.flat then .val ⟨x.t,x.v,[]⟩ none else .no
 |_=>.no
def thinL (D:List Nat):Nat->List Slot->List Slot
 |_,[]=>[]
 |i,s::r=>(bif D.contains i then thinS s else s)::thinL D (i+1) r
def thin (D:List Nat) (σ:St):St:={σ with fr:=thinL D 0 σ.fr}
def thaw:List (Nat×Val)->St->St
 |[],σ=>σ
 |(d,x)::r,σ=>thaw r ((σ.more x.t.nl).put (some d) (.val ⟨x.t,x.v,σ.new x.t.nl⟩ none))
def makN (P:Tabs) (ops:Array Oper):List Oper->List Nat->Nat
 |[],_=>0
 |o::r,ds=>bif (isMade P o||headOp P o.op)&& !ds.any (fun d=>(o.looksAt ops).contains d) then makN P ops r (bif isMade P o then o.dst.toList++ds else ds)+1 else 0
def makM (P:Tabs) (ops:Array Oper):Nat:=makN P ops ops.toList []
def makB (P:Tabs) (ops:Array Oper) (m:Nat):Bool:=
 (ops.toList.take m).any (isMade P)&&(ops.toList.take m).all (fun o=>o.guard.isNone)&&mixB ops m m&&(m==ops.size||(A9 m).all fun i=> !lateB ops m m i)&&
 (A9 m).all fun i=>(A9 m).all fun j=>match ops[i]?,ops[j]? with
  |some o,some p=> !isMade P p||(match p.dst with|some t=> !(o.looksAt ops).contains t|none=>true)
  |_,_=>true
def readyP (d:List Nat) (o:Oper):Bool:=o.after.all fun e=> !Region.binds .any e||d.contains e.on
def permGo (ops:Array Oper):List Nat->List Nat->Bool
 |_,[]=>true
 |d,i::r=>(match ops[i]? with
  |some o=> !d.contains i&&readyP d o&&(r.all (fun j=>match ops[j]? with
    |some p=>p.after.any fun e=>BT .any e&& !d.contains e.on
    |none=>true)||bareOp o&&r.all (fun j=>match ops[j]? with
    |some p=>p.after.any (fun e=>BT .any e&&e.on==i)||o.apart ops p
    |none=>true))
  |none=>false)&&permGo ops (i::d) r
def sched (ops:Array Oper):Nat->List Nat->List Nat->List Nat
 |0,_,_=>[]
 |n+1,d,td=>match td.find? (fun i=>match ops[i]? with|some o=>readyP d o&&bareOp o|none=>false) with
  |some i=>i::sched ops n (i::d) (td.filter (fun j=> !(j==i)))
  |none=>match td.find? (fun i=>match ops[i]? with|some o=>readyP d o|none=>false) with
   |some i=>i::sched ops n (i::d) (td.filter (fun j=> !(j==i)))
   |none=>[]
def permL (ops:Array Oper):List Oper:=(sched ops ops.size [] (A9 ops.size)).filterMap fun i=>ops[i]?
def permB (ops:Array Oper):Bool:=BL ops&&permGo ops [] (sched ops ops.size [] (A9 ops.size))&&(A9 ops.size).all (fun i=>(sched ops ops.size [] (A9 ops.size)).contains i)&&(sched ops ops.size [] (A9 ops.size)).length==ops.size
def stepsK {R:Type} (P:Tabs):List Oper->St->(St->Option R)->Option R
 |[],σ,k=>k σ
 |o::r,σ,k=>bif o.guard.isNone then stepK P o σ fun σ=>stepsK P r σ k else none
def ownCall (P:Tabs) (o:Oper):Bool:=
 match o.op with
 | .call ⟨.value (.func f),_,_⟩=>(match P.F f with
  |some fn=>(fn.s.args.any fun a=>match a with| .own _| .io _=>true|_=>false)||fn.s.res.any fun r=>r.2&& !(r.1.nl==0)
  |none=>false)
 |_=>false
def noMut:List AK->Bool
 |[]=>true
 | .ro _::r| .own _::r=>noMut r
 |_=>false
def chOp (P:Tabs) (o:Oper):Bool:=o.guard.isNone&&(match o.op with
 | .call ⟨.value (.func f),_,_⟩=>(match P.F f with
  |some fn=>noMut fn.s.args&& !fn.s.bx
  |none=>false)
 |_=>false)
def looseOp (o:Oper):Bool:=bareOp o||o.guard.isNone&&(match o.op with| .load _ _=>true|_=>false)
def chAt (P:Tabs) (ops:Array Oper) (i:Nat):Bool:=match ops[i]? with
 |some o=>chOp P o
 |none=>false
def chNd (P:Tabs) (ops:Array Oper):Nat->List Nat×Nat
 |0=>([],0)
 |i+1=>match chNd P ops i with
  |(l,c)=>bif chAt P ops i then(l++[c+1],c+1) else(l++[(A9 i).foldl (fun m j=>bif AG .any ops i j then max m (l.getD j 0) else m) 0],c)
def chM (P:Tabs) (ops:Array Oper):Nat:=lead (fun o=>chOp P o||looseOp o) ops.toList
def chN (P:Tabs) (ops:Array Oper):Nat:=chM P ops+lead (isNew P) (ops.toList.drop (chM P ops))
def chL (P:Tabs) (ops:Array Oper) (m:Nat):List Nat:=(A9 m).filter (chAt P ops)
def chB (P:Tabs) (ops:Array Oper) (m n:Nat) (nd:List Nat):Bool:=
 mixB ops m n&&(chL P ops m).zipIdx.all (fun q=>nd.getD q.1 0==q.2+1)&&
 (A9 m).all fun i=>match ops[i]? with
  |some o=>bif chOp P o then(A9 i).all (fun j=> !chAt P ops j||AG .any ops i j)
   else looseOp o&&(nd.getD i 0==0||(A9 m).any fun j=>AG .any ops i j&&nd.getD j 0==nd.getD i 0)&&
    (A9 m).all fun j=> !Region.waitsFor .any ops i j||decide (nd.getD j 0<=nd.getD i 0)
  |none=>false
def atPtr (o:Oper) (σ:St):Bool:=match o.op with
 | .load _ x=>(match opd σ x with
  | .ptr _ _ _ _=>true
  |_=>false)
 |_=>true
def lsK {R:Type} (P:Tabs) (ops:Array Oper):List Nat->St->(St->Option R)->Option R
 |[],σ,k=>k σ
 |i::r,σ,k=>match ops[i]? with
  |some o=>bif atPtr o σ then stepK P o σ fun σ=>lsK P ops r σ k else none
  |none=>none
def lsAt (P:Tabs) (ops:Array Oper) (nd:List Nat) (m q:Nat):List Nat:=(A9 m).filter fun i=> !chAt P ops i&&nd.getD i 0==q
def chK {R:Type} (P:Tabs) (ops:Array Oper) (nd:List Nat) (m:Nat):List Nat->Nat->St->(St->Option R)->Option R
 |[],_,σ,k=>k σ
 |i::r,q,σ,k=>match ops[i]? with
  |some o=>stepK P o σ fun σ=>lsK P ops (lsAt P ops nd m q) σ fun σ=>chK P ops nd m r (q+1) σ k
  |none=>none
def drawK {R:Type} (P:Tabs) (ops:Array Oper) (σ:St) (k:St->Option R):Option R:=
 bif mixB ops (drawM P ops) (drawN P ops) then opsK P ops (ops.size+1) [] R (ops.toList.zipIdx.take (drawM P ops)) σ fun σ=>opsK P ops (ops.size+1) [] R (ops.toList.zipIdx.drop (drawM P ops)) σ k
 else bif makB P ops (makM P ops) then mK P (headD ops (makM P ops)) ops (ops.toList.zipIdx.take (makM P ops)) σ [] fun l σ=>opsK P ops (ops.size+1) [] R (ops.toList.zipIdx.drop (makM P ops)) (thaw l (thin (headD ops (makM P ops)) σ)) k
 else bif ops.toList.any (ownCall P)&&permB ops then stepsK P (permL ops) σ k
 else bif ops.toList.any (ownCall P)&&chB P ops (chM P ops) (chN P ops) (chNd P ops (chM P ops)).1 then lsK P ops (lsAt P ops (chNd P ops (chM P ops)).1 (chM P ops) 0) σ fun σ=>chK P ops (chNd P ops (chM P ops)).1 (chM P ops) (chL P ops (chM P ops)) 1 σ fun σ=>opsK P ops (ops.size+1) [] R (ops.toList.zipIdx.drop (chM P ops)) σ k
 else bif mixB ops (drawH P ops) (drawHN P ops) then headK P (headD ops (drawHN P ops)) ops (ops.size+1) [] R (ops.toList.zipIdx.take (drawH P ops)) σ fun σ=>opsK P ops (ops.size+1) [] R (ops.toList.zipIdx.drop (drawH P ops)) σ k
 else bif earlyB ops (drawH P ops) (drawHN P ops) (drawQ P ops) then earlyK P ops (drawH P ops) (drawHN P ops) (drawQ P ops) σ k
 else bif !ops.toList.any (fun o=>isEff P o.op)&&mixB ops (drawH P ops-1) (drawH P ops-1) then headK P (headD ops (drawH P ops-1)) ops (ops.size+1) [] R (ops.toList.zipIdx.take (drawH P ops-1)) σ fun σ=>opsK P ops (ops.size+1) [] R (ops.toList.zipIdx.drop (drawH P ops-1)) σ k
 else bif mixL ops (gOfs P ops) (gN P ops (gOfs P ops))&&gChain P ops (gOfs P ops)&&lateOk P ops (gOfs P ops) (gN P ops (gOfs P ops)) (gIds P ops (headD ops (gN P ops (gOfs P ops))) σ (ops.toList.take (gOfs P ops))) σ then gK P (headD ops (gN P ops (gOfs P ops))) ops (gIds P ops (headD ops (gN P ops (gOfs P ops))) σ (ops.toList.take (gOfs P ops))) (ops.toList.zipIdx.take (gOfs P ops)) σ fun σ=>opsK P ops (ops.size+1) [] R (ops.toList.zipIdx.drop (gOfs P ops)) σ k
 else none
def firstR:Code->Nat
 | .region id _ _=>id+1
 | .seq a b=>bif firstR a==0 then firstR b else firstR a
 | .cond _ a b=>bif firstR a==0 then firstR b else firstR a
 | .block _ c| .loop c| .scope c=>firstR c
 |_=>0
def opsWrites (l:List Oper):List Nat:=l.filterMap (·.dst)
def writes:Code->List Nat
 | .region _ ops _=>opsWrites ops.toList
 | .seq a b=>writes a++writes b
 | .cond _ a b=>writes a++writes b
 | .block _ c| .loop c| .scope c=>writes c
 |_=>[]
def clearL (l:List Nat) (σ:St):St:={σ with fr:=l.foldl (fun fr i=>fr.set i .no) σ.fr}

section
variable {R:Type}
def slotsAt (σ:St) (ds:List Nat):List Slot:=ds.map fun d=>σ.fr.getD d .no
def fillL:List Nat->List Val->St->St
 |d::ds,x::l,σ=>fillL ds l (σ.put (some d) (.val x none))
 |_,_,σ=>σ
def sumK {α β:Type} (y:α⊕β) (f:α->Option R) (g:β->Option R):Option R:=
 match y with
 | .inl a=>f a
 | .inr b=>g b
def exitsK (aks:List AK) (ss:List Slot) (ws:List Nat):(es:List (XK×List Nat×List (Ty×Bool)))->XOuts aks es->St->(XK->St->Option R)->Option R
 |[],y,_,_=>nomatch y
 |[e],y,σ,k=>backK aks ss e.2.2 y σ fun l σ=>k e.1 (fillL e.2.1 l (clearL ws σ))
 |e::f::r,y,σ,k=>sumK y (fun y=>backK aks ss e.2.2 y σ fun l σ=>k e.1 (fillL e.2.1 l (clearL ws σ))) (fun y=>exitsK aks ss ws (f::r) y σ k)
def sharesC (c:CutSig):Bool:=c.exits.any (fun e=>sharesR e.2.2)||sharesO c.aks
def cutK (c:Cut) (code:Code) (σ:St) (k:XK->St->Option R):Option R:=
 bif σ.fr.length==c.s.n&&c.s.ds.all (fun d=>decide (d<c.s.n)) then
  lendK c.s.aks (sharesC c.s) (slotsAt σ c.s.ds) σ fun x σ1=>(c.f x).bind fun y=>exitsK c.s.aks (slotsAt σ c.s.ds) (writes code) c.s.exits y σ1 k
 else none
def XK.thenK (e:XK) (σ:St) (next:St->Option R) (k:XK->St->Option R):Option R:=
 match e with
 | .nor=>next σ
 |e=>k e σ
def codeK (P:Tabs) (C:Cuts):Code->St->(XK->St->Option R)->Option R
 | .skip,σ,k=>k .nor σ
 | .label _,σ,k=>k .nor σ
 | .ret,σ,k=>k .ret σ
 | .exit id,σ,k=>k (.ex id) σ
 | .region _ ops dr,σ,k=>bif dr then drawK P ops σ (k .nor) else opsK P ops (ops.size+1) [] R ops.toList.zipIdx σ (k .nor)
 | .seq a b,σ,k=>codeK P C a σ fun e σ=>e.thenK σ (fun σ=>codeK P C b σ k) k
 | .cond c a b,σ,k=>match C (2*firstR (.cond c a b)) with
  |some cut=>cutK cut (.cond c a b) σ k
  |none=>(match boolOf (opd σ c) with
   |some t=>bif t then codeK P C a σ k else codeK P C b σ k
   |none=>none)
 | .block id c,σ,k=>codeK P C c σ fun e σ=>match e with
  | .ex i=>bif i==id then k .nor σ else k (.ex i) σ
  |e=>k e σ
 | .loop c,σ,k=>match C (2*firstR c+1) with
  |some cut=>cutK cut (.loop c) σ k
  |none=>none
 |_,_,_=>none
end
def ioH (d:Nat):Slot:=.val ⟨.unit,(),[]⟩ (some ⟨.tmp d,[]⟩)
structure Ini where
 σ:St
 homes:List Slot
def initOne (a:AK) (d:Nat) (i:Ini):a.ty.den->Ini:=
 match a with
 | .ro t=>fun v=>⟨i.σ.put (some d) (.val ⟨t,v,List.replicate t.nl 0⟩ none),i.homes++[.no]⟩
 | .own t=>fun v=>⟨(i.σ.more t.nl).put (some d) (.val ⟨t,v,i.σ.new t.nl⟩ none),i.homes++[.no]⟩
 | .io t=>fun v=>⟨(i.σ.more t.nl).put (some d) (.val ⟨t,v,i.σ.new t.nl⟩ (some ⟨.tmp d,[]⟩)),i.homes++[ioH d]⟩
 | .mu t=>fun v=>⟨{i.σ with bx:=⟨i.σ.nt,⟨t,v,List.replicate t.nl 0⟩⟩::i.σ.bx,nt:=i.σ.nt+1}.put (some d) (.ptr i.σ.nt t [] t),i.homes++[.ptr i.σ.nt t [] t]⟩
 | .clo f n ks=>fun v=>⟨i.σ.put (some d) (.clo f n (cloVals ks v)),i.homes++[.no]⟩
 | .pin t=>fun v=>⟨i.σ.put (some d) (.rptr 0 ⟨t,v,List.replicate t.nl 0⟩),i.homes++[.no]⟩
 | .pio t=>fun v=>⟨{(i.σ.more t.nl) with bx:=⟨(i.σ.more t.nl).nt,⟨t,v,i.σ.new t.nl⟩⟩::(i.σ.more t.nl).bx,nt:=(i.σ.more t.nl).nt+1}.put (some d) (.ptr (i.σ.more t.nl).nt t [] t),i.homes++[.ptr (i.σ.more t.nl).nt t [] t]⟩
def initL:(ks:List AK)->List Nat->Tup (tysOf ks)->Ini->Ini
 |a::r,d::ds,x,i=>initL r ds (Tup.tl x) (initOne a d i (Tup.hd x))
 |_,_,_,i=>i
def ini0 (n:Nat):Ini:=⟨⟨List.replicate n .no,[],[],[],[],2⟩,[]⟩
section
variable {R:Type}
def resL:List Slot->(rs:List (Ty×Bool))->St->(Tup (resOf rs)->St->Option R)->Option R
 |[],[],σ,k=>k () σ
 |s::ss,(t,o)::rs,σ,k=>match coe t s with
  |some (v,ms)=>bif o then takeK σ ms fun σ=>resL ss rs σ fun x σ=>k (Tup.cons v x) σ
   else bif allUs σ ms then resL ss rs (σ.freeze ms) fun x σ=>k (Tup.cons v x) σ else none
  |none=>none
 |_,_,_,_=>none
def Tup.app:{a b:List Ty}->Tup a->Tup b->Tup (a++b)
 |[],_,_,y=>y
 |_::_,_,x,y=>Tup.cons (Tup.hd x) (Tup.app (Tup.tl x) y)
def outOne (a:AK) (home:Slot) (σ:St):(Tup a.outs->St->Option R)->Option R:=
 match a with
 | .pio t=>fun k=>readK σ home fun x _=>match cast? t x with
   |some (v,ms)=>takeK σ ms fun σ=>k v σ
   |none=>none
 | .mu t=>fun k=>readK σ home fun x _=>match cast? t x with
   |some (v,ms)=>bif allUs σ ms&&noneAl σ ms then k v σ else none
   |none=>none
 | .io t=>fun k=>(match home with
  | .val _ (some h)=>(match h.root with
   | .tmp d=>(match σ.fr.getD d .no with
    | .val x _=>(match cast? t x with
     |some (v,ms)=>takeK σ ms fun σ=>k v σ
     |none=>none)
    |_=>none)
   |_=>none)
  |_=>none)
 | .ro _| .own _| .pin _| .clo _ _ _=>fun k=>k () σ
def outsL:(ks:List AK)->List Slot->St->(Tup (outsOf ks)->Option R)->Option R
 |a::r,h::hs,σ,k=>outOne a h σ fun v σ=>outsL r hs σ fun x=>k (Tup.app v x)
 |[],_,_,k=>k ()
 |_,_,_,_=>none
def rvK (T:TypeId->Option Ty) (σ:St) (rv:ResultVar) (k:Slot->Option R):Option R:=
 match rv with
 | .tmp t=>k (σ.fr.getD t .no)
 | .cell a i=>(match T i with
  |some t=>readK σ (σ.fr.getD a .no) fun x _=>bif Ty.beq x.t t then k (.val x none) else none
  |none=>none)
def rvsK (T:TypeId->Option Ty) (σ:St):List ResultVar->(List Slot->Option R)->Option R
 |[],k=>k []
 |rv::r,k=>rvK T σ rv fun s=>rvsK T σ r fun ss=>k (s::ss)
end
def finK (ks:List AK) (hs:List Slot) (rs:List (Ty×Bool)) (ss:List Slot) (σ:St):Option (Tup (resOf rs++outsOf ks)):=
 resL ss rs σ fun y σ=>outsL ks hs σ fun z=>some (Tup.app y z)
def finX (ks:List AK) (hs:List Slot) (rs:List (Ty×Bool)) (ss:List Slot) (σ:St):Option (Tup (resOf rs++outsOf ks)):=
 match rs,ss with
 |[(t,_)],[.ptr id _ [] _]=>(match σ.find id with
  |some y=>(match cast? t y with
   |some (v,ms)=>bif roOnly ks&&allUs σ ms then outsL ks hs σ fun z=>some (Tup.app (a:=[t]) (b:=outsOf ks) v z) else none
   |none=>none)
  |none=>none)
 |_,_=>none
def ioKept:List AK->List Nat->List Nat->Bool
 | .io _::r,d::ds,ws=> !ws.contains d&&ioKept r ds ws
 |_::r,_::ds,ws=>ioKept r ds ws
 |_,_,_=>true
def fnK (P:Tabs) (C:Cuts) (fn:Func) (s:Sig) (x:s.In):Option s.Out:=
 match fn.body with
 |some c=>bif decide (s.args.length<=fn.ntmps)&&ioKept s.args (A9 s.args.length) (writes c) then
   let i:=initL s.args (A9 s.args.length) x (ini0 fn.ntmps)
   codeK P C c i.σ fun e σ=>match e with
    | .ex _=>none
    |_=>rvsK P.T σ fn.results.toList fun ss=>bif s.bx then finX s.args i.homes s.res ss σ else finK s.args i.homes s.res ss σ
  else none
 |none=>none
def leaveK (aks:List AK) (hs:List Slot):(es:List (XK×List Nat×List (Ty×Bool)))->XK->St->Option (XOuts aks es)
 |[],_,_=>none
 |[e],x,σ=>bif e.1.beq x then finK aks hs e.2.2 (slotsAt σ e.2.1) σ else none
 |e::f::r,x,σ=>bif e.1.beq x then(finK aks hs e.2.2 (slotsAt σ e.2.1) σ).bind fun y=>some (.inl y) else(leaveK aks hs (f::r) x σ).bind fun y=>some (.inr y)
def cutFn (P:Tabs) (C:Cuts) (code:Code) (c:CutSig) (x:c.In):Option c.Out:=
 bif noIo c.aks then
  let i:=initL c.aks c.ds x (ini0 c.n)
  codeK P C code i.σ fun e σ=>leaveK c.aks i.homes c.exits e σ
 else none
def sameHomes:List AK->List Slot->List Slot->Bool
 | .pio _::r,.ptr id _ _ _::hs,.ptr id' _ [] _::ss=>id==id'&&sameHomes r hs ss
 | .pio _::_,_,_=>false
 | .mu _::r,.ptr id _ _ _::hs,.ptr id' _ [] _::ss=>id==id'&&sameHomes r hs ss
 | .mu _::_,_,_=>false
 | .io _::_,_,_=>false
 |_::r,_::hs,_::ss=>sameHomes r hs ss
 |[],_,_=>true
 |_,_,_=>false
def loopStep (P:Tabs) (C:Cuts) (body:Code) (c:CutSig) (rec:c.In->Option c.Out) (x:c.In):Option c.Out:=
 bif noIo c.aks then
  let i:=initL c.aks c.ds x (ini0 c.n)
  codeK P C body i.σ fun e σ=>match e with
   | .nor=>bif sameHomes c.aks i.homes (slotsAt σ c.ds)&&c.ds.all (fun d=>decide (d<c.n)) then lendK c.aks (sharesC c) (slotsAt σ c.ds) σ fun x _=>rec x else none
   |e=>leaveK c.aks i.homes c.exits e σ
 else none
def iter {α β:Type} (S:(α->Option β)->α->Option β):Nat->α->Option β
 |0,_=>none
 |m+1,x=>S (iter S m) x
def FUEL:Nat:=1180591620717411303424
end Go.Proofs.YtacbkfginiknaaaDoor.V
namespace Go.Proofs.YtacbkfginiknaaaDoor.V
open Go

def At (w:World) (b o:Nat) (cs:List Value):Prop:=∀j v,cs[j]?=some v->w.cell? ⟨b,o+j,none⟩=some v
abbrev seg (cs:List Value) (n i:Nat):List Value:=(cs.drop (i*n)).take n
def Rf (w:World) (A:Nat->Prop):(t:Ty)->t.den->List Value->Prop
 | .int k,n,cs=>cs=[.int k n]
 | .bool,b,cs=>cs=[.bool b]
 | .str,s,cs=>cs=[.string ⟨(s:List UInt8).toArray⟩]
 | .unit,_,cs=>cs=[]
 | .pair a b,v,cs=>∃c1 c2,cs=c1++c2/\Rf w A a v.1 c1/\Rf w A b v.2 c2
 | .st t,v,cs=>Rf w A t v cs
 | .arr n t,v,cs=>(v:List t.den).length=n/\cs.length=n*t.size/\(∀ (i:Nat) (x:t.den),(v:List t.den)[i]?=some x->Rf w A t x (seg cs t.size i))/\t.nl=0
 | .sl _ t,v,cs=>∃ad cap css,cs=[.slice ad (v:List t.den).length cap]/\css.length=(v:List t.den).length*t.size/\
   (∀ (i:Nat) (x:t.den),(v:List t.den)[i]?=some x->Rf w A t x (seg css t.size i))/\(css≠[]->∃b o,ad=some ⟨b,o,none⟩/\A b/\At w b o css)/\(v:List t.den).length<=cap

structure Env where
 ad:Nat->Nat×Nat
 hd:Nat->Option Nat
 out:List Nat
 pin:Nat->Prop
def Env.tok (E:Env) (τ:Nat) (g:Option Nat):Env:={E with hd:=fun υ=>if υ=τ then g else E.hd υ}
def tokB (E:Env) (τ:Nat):List Nat:=(E.hd τ).toList
def owned (E:Env) (σ:St):List Nat:=σ.bx.map (fun b=>(E.ad b.id).1)++(σ.al.flatMap (tokB E)++E.out)
def frz (σ:St) (τ:Nat):Prop:=τ=0\/τ∈σ.fz
def Leaf (w:World) (A:Nat->Prop) (E:Env) (σ:St) (e:TypeId) (t:Ty) (τ:Nat) (xs:List t.den) (c:Value):Prop:=
 τ<σ.nt/\∃ad cap,c= .slice ad xs.length cap/\(frz σ τ->Rf w A (.sl e t) xs [c])/\(τ=1->ad=none/\cap=0/\xs=[])/\
  (2<=τ->ad=(E.hd τ).map fun b=>⟨b,0,none⟩)/\
  (τ∈σ.al->∃css,w.ownsRow 0 e t.size c xs.length css/\∀ (i:Nat) (x:t.den),xs[i]?=some x->Rf w A t x (seg css t.size i))
def Rv (w:World) (A:Nat->Prop) (E:Env) (σ:St):(t:Ty)->t.den->List Nat->List Value->Prop
 | .int k,n,_,cs=>cs=[.int k n]
 | .bool,b,_,cs=>cs=[.bool b]
 | .str,s,_,cs=>cs=[.string ⟨(s:List UInt8).toArray⟩]
 | .unit,_,_,cs=>cs=[]
 | .pair a b,v,ms,cs=>∃c1 c2,cs=c1++c2/\Rv w A E σ a v.1 (ms.take a.nl) c1/\Rv w A E σ b v.2 (ms.drop a.nl) c2
 | .st t,v,ms,cs=>Rv w A E σ t v ms cs
 | .arr n t,v,_,cs=>(v:List t.den).length=n/\cs.length=n*t.size/\(∀ (i:Nat) (x:t.den),(v:List t.den)[i]?=some x->Rf w A t x (seg cs t.size i))/\t.nl=0
 | .sl e t,v,ms,cs=>∃c,cs=[c]/\Leaf w A E σ e t (ms.headD 0) v c

def toVal (t:Ty) (cs:List Value):Value:=if t.agg then .agg cs.toArray else cs.headD undef
def ValOk (w:World) (A:Nat->Prop) (E:Env) (σ:St) (x:Val) (v:Value):Prop:=∃cs,Rv w A E σ x.t x.v x.ms cs/\v=toVal x.t cs/\x.ms.length=x.t.nl
def cloV (f:FuncId) (n:Nat) (us:List Value):Value:=.func (.func f) (us.take n).toArray (us.drop n).toArray
def addr:(t:Ty)->Nat×Nat->List Sel->Option (Ty×(Nat×Nat))
 |t,p,[]=>some (t,p)
 | .st t,p,s::r=>addr t p (s::r)
 | .pair a _,p,.fst::r=>addr a p r
 | .pair a b,p,.snd::r=>addr b (p.1,p.2+a.size) r
 | .arr n t,p,.ix i::r=>if i<n then addr t (p.1,p.2+i*t.size) r else none
 |_,_,_=>none
def SlotB (w:World) (A:Nat->Prop) (E:Env) (σ:St):Slot->Value->Prop
 | .no,_=>True
 | .nilsl,v=>v= .slice none 0 0
 | .val x _,v=>ValOk w A E σ x v
 | .ptr id r p t,v=>id<σ.nt/\∃b o,v= .pointer (some ⟨b,o,none⟩)/\addr r (E.ad id) p=some (t,(b,o))
 | .eptr _ τ i u p t,v=>(2<=τ/\τ<σ.nt)/\∃g b o,E.hd τ=some g/\v= .pointer (some ⟨b,o,none⟩)/\addr u (g,i*u.size) p=some (t,(b,o))
 | .rptr τ x,v=>τ<σ.nt/\∃b o,v= .pointer (some ⟨b,o,none⟩)/\((frz σ τ\/τ∈σ.al)->∃cs,Rv w A E σ x.t x.v x.ms cs/\x.ms.length=x.t.nl/\At w b o cs/\(τ∈σ.al->E.hd τ=some b)/\(τ∉σ.al->A b\/E.pin b))
 | .clo _ _ _,_=>False
 | .tup l,v=>∃vs:List Value,v= .tuple vs.toArray/\vs.length=l.length/\∀ (i:Nat) x u,l[i]?=some x->vs[i]?=some u->ValOk w A E σ x u
def SlotOk (w:World) (A:Nat->Prop) (E:Env) (σ:St) (s:Slot) (v:Value):Prop:=
 match s with
 | .clo f n caps=>∃us:List Value,v=cloV f n us/\us.length=caps.length/\∀ (i:Nat) c u,caps[i]?=some c->us[i]?=some u->SlotB w A E σ c u
 |s=>SlotB w A E σ s v
theorem SlotB.ok {w:World} {A:Nat->Prop} {E:Env} {σ:St} {s:Slot} {v:Value} (h:SlotB w A E σ s v):SlotOk w A E σ s v:=by
 cases s<;>first|exact h|exact h.elim
def BxOk (w:World) (A:Nat->Prop) (E:Env) (σ:St) (b:Bx):Prop:=
 ∃cs c e,Rv w A E σ b.x.t b.x.v b.x.ms cs/\b.x.ms.length=b.x.t.nl/\w.heap[(E.ad b.id).1]?=some (.cells c e (0,0))/\(E.ad b.id).2+cs.length<=c.size/\At w (E.ad b.id).1 (E.ad b.id).2 cs
structure Ctx where
 w0:World
 ok:Nat->Prop
 M:Nat->Nat->Prop
 fps:List Nat
 pbx:List (Nat×(Nat×Nat)×Nat)
 thx:List (Nat×Option Nat)
 pn:Nat->Prop
structure Fr (M:Nat->Nat->Prop) (w w':World):Prop where
 os:w'.os=w.os
 tape:w'.tape=w.tape
 output:w'.output=w.output
 size:w.heap.size<=w'.heap.size
 block:∀b,b<w.heap.size->w'.heap[b]?=w.heap[b]?\/∃c c' e,w.heap[b]?=some (.cells c e (0,0))/\w'.heap[b]?=some (.cells c' e (0,0))/\c'.size=c.size/\∀o,¬M b o->c'[o]?=c[o]?
def GRead (w:World) (b:Nat) (x:Val):Prop:=∃cs,(∀w A E σ,Rv w A E σ x.t x.v [] cs)/\x.ms=[]/\x.t.nl=0/\At w b 0 cs
def GlobX (X:Ctx):Prop:=∀p∈gdat,GRead X.w0 p.1 p.2/\X.ok p.1/\p.1<X.w0.heap.size/\(∀o,¬X.M p.1 o)/\p.1∉X.fps/\∀e∈X.pbx,e.2.1.1≠p.1
def Fz (X:Ctx) (E:Env) (σ:St) (w:World) (b:Nat):Prop:=X.ok b/\b<w.heap.size/\b∉owned E σ
structure RelE (X:Ctx) (E:Env) (σ:St) (a:Array Value) (w:World):Prop where
 len:σ.fr.length=a.size
 slot:∀ (i:Nat) s v,σ.fr[i]?=some s->a[i]?=some v->SlotOk w (Fz X E σ w) E σ s v
 bx:∀b∈σ.bx,BxOk w (Fz X E σ w) E σ b
 nodup:(owned E σ).Nodup
 lt:∀b∈owned E σ,b<w.heap.size/\X.ok b
 ids:(σ.bx.map (·.id)).Nodup
 idlt:∀b∈σ.bx,b.id<σ.nt
 aln:σ.al.Nodup
 alr:∀τ∈σ.al,2<=τ/\τ<σ.nt/\τ∉σ.fz
 fzr:∀τ∈σ.fz,2<=τ/\τ<σ.nt
 nt2:2<=σ.nt
 hd0:∀τ,τ<2->E.hd τ=none
 new:∀b,X.w0.heap.size<=b->X.ok b
 fr:Fr X.M X.w0 w
 srct:∀τ∈σ.al,∀b,E.hd τ=some b->(b∈X.fps\/X.w0.heap.size<=b)
 srcb:∀b∈σ.bx,(∃s,b.x.t.size<=s/\(b.id,E.ad b.id,s)∈X.pbx)\/X.w0.heap.size<=(E.ad b.id).1
 pbm:∀e∈X.pbx,∀j,e.2.1.2<=j->j<e.2.1.2+e.2.2->X.M e.2.1.1 j
 srco:∀b∈E.out,b∈X.fps\/X.w0.heap.size<=b
 lnr:∀p∈σ.ln,E.hd p.1=E.hd p.2
 lnlt:∀p∈σ.ln,p.1<σ.nt/\p.2<σ.nt
 fpm:∀b∈X.fps,∀o,X.M b o
 pinlt:∀b,E.pin b->b<w.heap.size/\b∉owned E σ
 adx:∀e∈X.pbx,e.1<σ.nt/\E.ad e.1=e.2.1
 hdx:∀e∈X.thx,e.1<σ.nt/\E.hd e.1=e.2
 gl:GlobX X
 xlt:(∀e∈X.pbx,e.2.1.1<X.w0.heap.size)/\∀b∈X.fps,b<X.w0.heap.size
 pnx:∀b,E.pin b->X.pn b
def Rel (X:Ctx) (σ:St) (a:Array Value) (w:World):Prop:=∃E,RelE X E σ a w

theorem ownsRow_cap {w:World} {base size n cap:Nat} {e:TypeId} {ad:Option Addr} {xs:List Value} (h:w.ownsRow base e size (.slice ad n cap) n xs):n<=cap:=by
 rcases h.2 with⟨_,e2⟩|⟨g,cap',cur,e1,_,_,hle,_⟩
 ·omega
 ·simp only[Value.slice.injEq] at e1
  omega
theorem seg_length {cs:List Value} {n m i:Nat} (h:cs.length=m*n) (hi:i<m):(seg cs n i).length=n:=by
 have:(i+1)*n<=m*n:=A7 _ hi
 simp only[seg,AJ,AV]
 rw[AH] at this;omega
theorem Rf.length {w:World} {A:Nat->Prop}:∀ {t:Ty} {v:t.den} {cs:List Value},Rf w A t v cs->cs.length=t.size:=by
 intro t
 induction t with
 |int k=>intro v cs h;simp only[Rf] at h;subst h;rfl
 |bool=>intro v cs h;simp only[Rf] at h;subst h;rfl
 |str=>intro v cs h;simp only[Rf] at h;subst h;rfl
 |unit=>intro v cs h;simp only[Rf] at h;subst h;rfl
 |pair a b iha ihb=>
  intro v cs h;obtain⟨c1,c2,rfl,h1,h2⟩:=h
  rw[AN,iha h1,ihb h2];rfl
 |st t ih=>intro v cs h;exact ih h
 |arr n t _=>intro v cs h;exact h.2.1
 |sl e t _=>intro v cs h;obtain⟨ad,cap,css,rfl,_⟩:=h;rfl
theorem Rv.length {w:World} {A:Nat->Prop} {E:Env} {σ:St}:∀ {t:Ty} {v:t.den} {ms:List Nat} {cs:List Value},Rv w A E σ t v ms cs->cs.length=t.size:=by
 intro t
 induction t with
 |int k=>intro v ms cs h;simp only[Rv] at h;subst h;rfl
 |bool=>intro v ms cs h;simp only[Rv] at h;subst h;rfl
 |str=>intro v ms cs h;simp only[Rv] at h;subst h;rfl
 |unit=>intro v ms cs h;simp only[Rv] at h;subst h;rfl
 |pair a b iha ihb=>
  intro v ms cs h;obtain⟨c1,c2,rfl,h1,h2⟩:=h
  rw[AN,iha h1,ihb h2];rfl
 |st t ih=>intro v ms cs h;exact ih h
 |arr n t _=>intro v ms cs h;exact h.2.1
 |sl e t _=>intro v ms cs h;obtain⟨c,rfl,_⟩:=h;rfl
theorem At.append {w:World} {b o:Nat} {c1 c2:List Value}:At w b o (c1++c2)↔At w b o c1/\At w b (o+c1.length) c2:=by
 constructor
 ·intro h
  refine⟨fun j v hv=>h j v ?_,fun j v hv=>?_⟩
  ·rw[B7];exact hv
   exact(A8.1 hv).1
  ·have:=h (c1.length+j) v (by rw[B5 (by omega)];simpa using hv)
   rwa [B6]
 ·intro⟨h1,h2⟩ j v hv
  by_cases hj:j<c1.length
  ·rw[B7 hj] at hv;exact h1 j v hv
  ·rw[B5 (by omega)] at hv
   have:=h2 _ v hv
   rwa [B6,Bl (by omega)] at this
theorem At.seg {w:World} {b o n i:Nat} {cs:List Value} (h:At w b o cs):At w b (o+i*n) (seg cs n i):=by
 intro j v hv
 simp only[V.seg,AC] at hv
 split at hv
 ·rw[AI] at hv
  have:=h _ v hv
  rwa [B6]
 ·cases hv
theorem cell_of_heap {w w':World} {b o:Nat} (h:w'.heap[b]?=w.heap[b]?):w'.cell? ⟨b,o,none⟩=w.cell? ⟨b,o,none⟩:=by simp[CC,h]
theorem Fr.same {M:Nat->Nat->Prop} {w w':World} (h:Fr M w w') {b:Nat} (hb:b<w.heap.size) (hM:∀o,¬M b o):w'.heap[b]?=w.heap[b]?:=by
 rcases h.block b hb with h1|⟨c,c',e,h1,h2,_,h4⟩
 ·exact h1
 ·have:c'=c:=Bq fun o=>h4 o (hM o)
  rw[h2,this,h1]
theorem At.mono {w w':World} {b o:Nat} {cs:List Value} (h:At w b o cs) (hb:w'.heap[b]?=w.heap[b]?):At w' b o cs:=
 fun j v hv=>(cell_of_heap hb).trans (h j v hv)
theorem Rf.mono {w w':World} {A A':Nat->Prop} (hA:∀b,A b->A' b) (hw:∀b,A b->w'.heap[b]?=w.heap[b]?):∀ {t:Ty} {v:t.den} {cs:List Value},Rf w A t v cs->Rf w' A' t v cs:=by
 intro t
 induction t with
 |int k=>intro v cs h;exact h
 |bool=>intro v cs h;exact h
 |str=>intro v cs h;exact h
 |unit=>intro v cs h;exact h
 |pair a b iha ihb=>intro v cs h;obtain⟨c1,c2,e,h1,h2⟩:=h;exact⟨c1,c2,e,iha h1,ihb h2⟩
 |st t ih=>intro v cs h;exact ih h
 |arr n t ih=>intro v cs h;exact⟨h.1,h.2.1,fun i x hx=>ih (h.2.2.1 i x hx),h.2.2.2⟩
 |sl e t ih=>
  intro v cs h;obtain⟨ad,cap,css,e1,e2,h1,h2,h3⟩:=h
  exact⟨ad,cap,css,e1,e2,fun i x hx=>ih (h1 i x hx),fun hn=>by
   obtain⟨b,o,e3,hb,hat⟩:=h2 hn
   exact⟨b,o,e3,hA b hb,hat.mono (hw b hb)⟩,h3⟩
structure Keep (w w':World) (A A':Nat->Prop) (E E':Env) (σ σ':St):Prop where
 A:∀b,A b->A' b/\w'.heap[b]?=w.heap[b]?
 nt:σ.nt<=σ'.nt
 hd:∀τ,τ<σ.nt->E'.hd τ=E.hd τ
 ad:∀i,i<σ.nt->E'.ad i=E.ad i
 fz:∀τ,τ<σ.nt->τ∈σ'.fz->τ∈σ.fz\/(τ∈σ.al/\∀b,E.hd τ=some b->A' b/\w'.heap[b]?=w.heap[b]?)
 al:∀τ,τ<σ.nt->τ∈σ'.al->τ∈σ.al/\∀b,E.hd τ=some b->w'.heap[b]?=w.heap[b]?
 ge:∀τ∈σ.al,2<=τ/\τ∉σ.fz
 pin:∀b,E.pin b->E'.pin b/\w'.heap[b]?=w.heap[b]?
section
variable {w w':World} {A A':Nat->Prop} {E E':Env} {σ σ':St}
theorem Keep.leaf (K:Keep w w' A A' E E' σ σ') {e:TypeId} {t:Ty} {τ:Nat} {xs:List t.den} {c:Value}
  (h:Leaf w A E σ e t τ xs c):Leaf w' A' E' σ' e t τ xs c:=by
 obtain⟨hlt,ad,cap,rfl,hf,h1,hh,ho⟩:=h
 refine⟨AB hlt K.nt,ad,cap,rfl,fun hz'=>?_,h1,fun h2=>(hh h2).trans (by rw[K.hd τ hlt]),fun hal=>?_⟩
 ·have hz:frz σ τ\/(τ∈σ.al/\∀b,E.hd τ=some b->A' b/\w'.heap[b]?=w.heap[b]?):=by
   rcases hz' with h0|h0
   ·exact .inl (.inl h0)
   ·rcases K.fz τ hlt h0 with h|h
    ·exact .inl (.inr h)
    ·exact .inr h
  rcases hz with h|⟨hal,hb⟩
  ·exact(hf h).mono (fun b hb=>(K.A b hb).1) (fun b hb=>(K.A b hb).2)
  ·obtain⟨css,hown,hrs⟩:=ho hal
   refine⟨ad,cap,css,rfl,hown.1,fun i x hx=>(hrs i x hx).mono (fun b hb=>(K.A b hb).1) (fun b hb=>(K.A b hb).2),fun hn=>?_,ownsRow_cap hown⟩
   rcases hown.2 with⟨e1,e2⟩|⟨g,cap',cur,e1,_,hg,hle,_,hsz,htk⟩
   ·have:css=[]:=AP (by rw[hown.1,e2,BU])
    exact absurd this hn
   ·simp only[Value.slice.injEq] at e1
    obtain⟨rfl,_,rfl⟩:=e1
    have hE:=hh (K.ge τ hal).1
    cases hd:E.hd τ with
    |none=>rw[hd] at hE;simp at hE
    |some b=>
     rw[hd] at hE;simp at hE;subst hE
     refine⟨g,0,rfl,(hb g hd).1,At.mono (w:=w) (fun j v hv=>?_) (hb g hd).2⟩
     rw[B0,cell_of_row w g j cur e (0,0) hg]
     rw[<-htk,AC] at hv
     split at hv
     ·simpa using hv
     ·cases hv
 ·obtain⟨hal',hb⟩:=K.al τ hlt hal
  obtain⟨css,hown,hrs⟩:=ho hal'
  refine⟨css,⟨hown.1,?_⟩,fun i x hx=>(hrs i x hx).mono (fun b hb=>(K.A b hb).1) (fun b hb=>(K.A b hb).2)⟩
  rcases hown.2 with h|⟨g,cap',cur,e1,hb0,hg,rest⟩
  ·exact .inl h
  ·refine .inr ⟨g,cap',cur,e1,hb0,?_,rest⟩
   simp only[Value.slice.injEq] at e1
   obtain⟨rfl,_,rfl⟩:=e1
   have hE:=hh (K.ge τ hal').1
   cases hd:E.hd τ with
   |none=>rw[hd] at hE;simp at hE
   |some b=>rw[hd] at hE;simp at hE;subst hE;rw[hb g hd];exact hg
theorem Keep.rf (K:Keep w w' A A' E E' σ σ') {t:Ty} {v:t.den} {cs:List Value} (h:Rf w A t v cs):Rf w' A' t v cs:=
 h.mono (fun b hb=>(K.A b hb).1) (fun b hb=>(K.A b hb).2)
theorem Keep.rv (K:Keep w w' A A' E E' σ σ'):∀ {t:Ty} {v:t.den} {ms:List Nat} {cs:List Value},Rv w A E σ t v ms cs->Rv w' A' E' σ' t v ms cs:=by
 intro t
 induction t with
 |int k=>intro v ms cs h;exact h
 |bool=>intro v ms cs h;exact h
 |str=>intro v ms cs h;exact h
 |unit=>intro v ms cs h;exact h
 |pair a b iha ihb=>intro v ms cs h;obtain⟨c1,c2,e,h1,h2⟩:=h;exact⟨c1,c2,e,iha h1,ihb h2⟩
 |st t ih=>intro v ms cs h;exact ih h
 |arr n t _=>intro v ms cs h;exact⟨h.1,h.2.1,fun i x hx=>K.rf (h.2.2.1 i x hx),h.2.2.2⟩
 |sl e t _=>intro v ms cs h;obtain⟨c,e1,h1⟩:=h;exact⟨c,e1,K.leaf h1⟩
theorem Keep.val (K:Keep w w' A A' E E' σ σ') {x:Val} {v:Value} (h:ValOk w A E σ x v):ValOk w' A' E' σ' x v:=by
 obtain⟨cs,h1,h2,h3⟩:=h;exact⟨cs,K.rv h1,h2,h3⟩
theorem Keep.slotB (K:Keep w w' A A' E E' σ σ') {s:Slot} {v:Value} (h:SlotB w A E σ s v):SlotB w' A' E' σ' s v:=by
 cases s with
 |no=>trivial
 |nilsl=>exact h
 |val x _=>exact K.val h
 |ptr id r p t=>obtain⟨h0,b,o,h1,h2⟩:=h;exact⟨AB h0 K.nt,b,o,h1,by rw[K.ad id h0];exact h2⟩
 |eptr h0 τ i u p t=>
  obtain⟨h0,g,b,o,h1,h2⟩:=h
  exact⟨⟨h0.1,AB h0.2 K.nt⟩,g,b,o,by rw[K.hd τ h0.2];exact h1,h2⟩
 |rptr τ x=>
  obtain⟨h0,b,o,h1,h2⟩:=h
  refine⟨AB h0 K.nt,b,o,h1,fun hu=>?_⟩
  have key:(frz σ τ\/τ∈σ.al)/\((τ∈σ.al->E.hd τ=some b)->(τ∉σ.al->A b\/E.pin b)->w'.heap[b]?=w.heap[b]?/\(τ∉σ'.al->A' b\/E'.pin b)):=by
   rcases hu with hz|hal
   ·have:frz σ τ\/(τ∈σ.al/\∀b,E.hd τ=some b->A' b/\w'.heap[b]?=w.heap[b]?):=by
     rcases hz with h|h
     ·exact .inl (.inl h)
     ·rcases K.fz τ h0 h with h|h
      ·exact .inl (.inr h)
      ·exact .inr h
    rcases this with h|⟨h,hb⟩
    ·refine⟨.inl h,fun _ hA=>?_⟩
     have hn:τ∉σ.al:=fun hal=>by
      have:=K.ge τ hal
      rcases h with h|h
      ·omega
      ·exact this.2 h
     rcases hA hn with hA|hA
     ·exact⟨(K.A b hA).2,fun _=>.inl (K.A b hA).1⟩
     ·exact⟨(K.pin b hA).2,fun _=>.inr (K.pin b hA).1⟩
    ·exact⟨.inr h,fun he _=>⟨(hb b (he h)).2,fun _=>.inl (hb b (he h)).1⟩⟩
   ·obtain⟨h,hb⟩:=K.al τ h0 hal
    exact⟨.inr h,fun he _=>⟨hb b (he h),fun hn=>absurd hal hn⟩⟩
  obtain⟨cs,h3,h4,h5,h6,h7⟩:=h2 key.1
  obtain⟨k1,k2⟩:=key.2 h6 h7
  exact⟨cs,K.rv h3,h4,h5.mono k1,fun hal=>(K.hd τ h0).trans (h6 (K.al τ h0 hal).1),k2⟩
 |clo f n c=>exact h.elim
 |tup l=>obtain⟨vs,h1,h2,h3⟩:=h;exact⟨vs,h1,h2,fun i x u hx hu=>K.val (h3 i x u hx hu)⟩
theorem Keep.slot (K:Keep w w' A A' E E' σ σ') {s:Slot} {v:Value} (h:SlotOk w A E σ s v):SlotOk w' A' E' σ' s v:=by
 cases s with
 |clo f n c=>obtain⟨us,h1,h2,h3⟩:=h;exact⟨us,h1,h2,fun i c u hc hu=>K.slotB (h3 i c u hc hu)⟩
 |_=>refine SlotB.ok ?_;refine K.slotB ?_;exact h
theorem Keep.bx (K:Keep w w' A A' E E' σ σ') {b:Bx} (h:BxOk w A E σ b) (hid:b.id<σ.nt) (hb:w'.heap[(E.ad b.id).1]?=w.heap[(E.ad b.id).1]?):BxOk w' A' E' σ' b:=by
 obtain⟨cs,c,e,h1,h2,h3,h4,h5⟩:=h
 exact⟨cs,c,e,K.rv h1,h2,by rw[K.ad _ hid,hb];exact h3,by rw[K.ad _ hid];exact h4,by rw[K.ad _ hid];exact h5.mono hb⟩
end
theorem Keep.trans {w w1 w2:World} {A A1 A2:Nat->Prop} {E E1 E2:Env} {σ σ1 σ2:St} (h:Keep w w1 A A1 E E1 σ σ1) (k:Keep w1 w2 A1 A2 E1 E2 σ1 σ2):Keep w w2 A A2 E E2 σ σ2:=
 ⟨fun b hb=>⟨(k.A b (h.A b hb).1).1,(k.A b (h.A b hb).1).2.trans (h.A b hb).2⟩,BM h.nt k.nt,fun τ ht=>(k.hd τ (AB ht h.nt)).trans (h.hd τ ht),
  fun i hi=>(k.ad i (AB hi h.nt)).trans (h.ad i hi),
  fun τ ht hf=>by
   rcases k.fz τ (AB ht h.nt) hf with h1|⟨h1,h2⟩
   ·rcases h.fz τ ht h1 with h3|⟨h3,h4⟩
    ·exact .inl h3
    ·exact .inr ⟨h3,fun b hb=>⟨(k.A b (h4 b hb).1).1,(k.A b (h4 b hb).1).2.trans (h4 b hb).2⟩⟩
   ·obtain⟨h3,h4⟩:=h.al τ ht h1
    exact .inr ⟨h3,fun b hb=>⟨(h2 b ((h.hd τ ht).trans hb)).1,(h2 b ((h.hd τ ht).trans hb)).2.trans (h4 b hb)⟩⟩,
  fun τ ht hf=>by
   obtain⟨h1,h2⟩:=k.al τ (AB ht h.nt) hf
   obtain⟨h3,h4⟩:=h.al τ ht h1
   exact⟨h3,fun b hb=>(h2 b ((h.hd τ ht).trans hb)).trans (h4 b hb)⟩,h.ge,
  fun b hb=>⟨(k.pin b (h.pin b hb).1).1,(k.pin b (h.pin b hb).1).2.trans (h.pin b hb).2⟩⟩
structure Ext (w w':World):Prop where
 os:w'.os=w.os
 tape:w'.tape=w.tape
 output:w'.output=w.output
 size:w.heap.size<=w'.heap.size
 block:∀b,b<w.heap.size->w'.heap[b]?=w.heap[b]?
theorem Ext.refl (w:World):Ext w w:=⟨rfl,rfl,rfl,AQ _,fun _ _=>rfl⟩
theorem Ext.trans {a b c:World} (h:Ext a b) (k:Ext b c):Ext a c:=
 ⟨k.os.trans h.os,k.tape.trans h.tape,k.output.trans h.output,BM h.size k.size,fun i hi=>(k.block i (AB hi h.size)).trans (h.block i hi)⟩
theorem Ext.drew (w:World):Ext w w.drew:=⟨rfl,rfl,rfl,AQ _,fun _ _=>rfl⟩
theorem Ext.alloc (w:World) (o:Obj):Ext w (w.alloc o):=⟨rfl,rfl,rfl,by simp,fun b hb=>by show(w.heap.push o)[b]?=_;rw[Array.getElem?_push,if_neg (by omega)]⟩
theorem Fr.ext {M:Nat->Nat->Prop} {w0 w w':World} (h:Fr M w0 w) (k:Ext w w'):Fr M w0 w':=by
 refine⟨k.os.trans h.os,k.tape.trans h.tape,k.output.trans h.output,BM h.size k.size,fun b hb=>?_⟩
 rw[k.block b (AB hb h.size)]
 exact h.block b hb
theorem RelE.keepExt {X:Ctx} {E:Env} {σ:St} {a:Array Value} {w w':World} (h:RelE X E σ a w) (k:Ext w w'):
  Keep w w' (Fz X E σ w) (Fz X E σ w') E E σ σ:=
 ⟨fun b hb=>⟨⟨hb.1,AB hb.2.1 k.size,hb.2.2⟩,k.block b hb.2.1⟩,AQ _,fun _ _=>rfl,fun _ _=>rfl,fun _ _ h=>.inl h,
  fun τ _ ht=>⟨ht,fun b hb=>k.block b (h.lt b (Af _ (AS _ (B2.2 ⟨τ,ht,by simp[tokB,hb]⟩)))).1⟩,
  fun τ ht=>⟨(h.alr τ ht).1,(h.alr τ ht).2.2⟩,fun b hb=>⟨hb,k.block b (h.pinlt b hb).1⟩⟩
theorem mem_owned_bx {E:Env} {σ:St} {b:Bx} (h:b∈σ.bx):(E.ad b.id).1∈owned E σ:=AS _ (Am.2 ⟨b,h,rfl⟩)
theorem mem_owned_al {E:Env} {σ:St} {τ b:Nat} (h:τ∈σ.al) (hb:E.hd τ=some b):b∈owned E σ:=
 Af _ (AS _ (B2.2 ⟨τ,h,by simp[tokB,hb]⟩))
theorem RelE.ext {X:Ctx} {E:Env} {σ:St} {a:Array Value} {w w':World} (h:RelE X E σ a w) (k:Ext w w'):RelE X E σ a w':=by
 have K:=h.keepExt k
 exact {h with
  slot:=fun i s v hs hv=>K.slot (h.slot i s v hs hv)
  bx:=fun b hb=>K.bx (h.bx b hb) (h.idlt b hb) (k.block _ (h.lt _ (mem_owned_bx hb)).1)
  lt:=fun b hb=>⟨AB (h.lt b hb).1 k.size,(h.lt b hb).2⟩
  fr:=h.fr.ext k
  pinlt:=fun b hb=>⟨AB (h.pinlt b hb).1 k.size,(h.pinlt b hb).2⟩}
theorem SlotOk.fr {w:World} {A:Nat->Prop} {E:Env} {σ:St} {fr:List Slot} {s:Slot} {v:Value} (h:SlotOk w A E σ s v) (hge:∀τ∈σ.al,2<=τ/\τ∉σ.fz):SlotOk w A E {σ with fr:=fr} s v:=
 Keep.slot (w:=w) (w':=w) (A:=A) (A':=A) (E:=E) (E':=E) (σ:=σ) (σ':={σ with fr:=fr}) ⟨fun _ h=>⟨h,rfl⟩,AQ _,fun _ _=>rfl,fun _ _=>rfl,fun _ _ h=>.inl h,fun _ _ h=>⟨h,fun _ _=>rfl⟩,hge,fun _ h=>⟨h,rfl⟩⟩ h
theorem BxOk.fr {w:World} {A:Nat->Prop} {E:Env} {σ:St} {fr:List Slot} {b:Bx} (h:BxOk w A E σ b) (hid:b.id<σ.nt) (hge:∀τ∈σ.al,2<=τ/\τ∉σ.fz):BxOk w A E {σ with fr:=fr} b:=
 Keep.bx (w:=w) (w':=w) (A:=A) (A':=A) (E:=E) (E':=E) (σ:=σ) (σ':={σ with fr:=fr}) ⟨fun _ h=>⟨h,rfl⟩,AQ _,fun _ _=>rfl,fun _ _=>rfl,fun _ _ h=>.inl h,fun _ _ h=>⟨h,fun _ _=>rfl⟩,hge,fun _ h=>⟨h,rfl⟩⟩ h hid rfl
theorem RelE.ge {X:Ctx} {E:Env} {σ:St} {a:Array Value} {w:World} (h:RelE X E σ a w):∀τ∈σ.al,2<=τ/\τ∉σ.fz:=fun τ ht=>⟨(h.alr τ ht).1,(h.alr τ ht).2.2⟩
theorem RelE.set {X:Ctx} {E:Env} {σ:St} {a:Array Value} {w:World} (h:RelE X E σ a w) {s:Slot} {v:Value} (d:Nat) (hs:SlotOk w (Fz X E σ w) E σ s v):
  RelE X E {σ with fr:=σ.fr.set d s} (a.setIfInBounds d v) w:=by
 exact {h with
  len:=by simp[h.len]
  slot:=fun i s' v' hs' hv'=>by
   have:SlotOk w (Fz X E σ w) E σ s' v':=by
    by_cases hid:d=i
    ·subst hid
     have hd:d<σ.fr.length:=by have:=(A8.1 hs').1;simpa using this
     rw[Av hd] at hs'
     rw[Array.getElem?_setIfInBounds_self_of_lt (by rw[<-h.len];exact hd)] at hv'
     injection hs' with e1;injection hv' with e2;subst e1;subst e2;exact hs
    ·rw[B3 hid] at hs'
     rw[BK hid] at hv'
     exact h.slot i s' v' hs' hv'
   exact this.fr h.ge
  bx:=fun b hb=>(h.bx b hb).fr (h.idlt b hb) h.ge}
theorem RelE.put {X:Ctx} {E:Env} {σ:St} {a:Act} {w:World} (h:RelE X E σ a.tmps w) {s:Slot} {v:Value} (d:Option Tmp) (hs:SlotOk w (Fz X E σ w) E σ s v):
  RelE X E (σ.put d s) (a.put d v).tmps w:=by
 cases d with
 |none=>exact h
 |some d=>exact h.set d hs
end Go.Proofs.YtacbkfginiknaaaDoor.V
namespace Go.Proofs.YtacbkfginiknaaaDoor.V
open Go
def zc:Ty->List Value
 | .int k=>[.int k 0]
 | .bool=>[.bool false]
 | .str=>[.string ⟨#[]⟩]
 | .unit=>[]
 | .pair a b=>zc a++zc b
 | .st t=>zc t
 | .arr n t=>(List.replicate n (zc t)).flatten
 | .sl _ _=>[.slice none 0 0]
def sameV:Value->Value->Bool
 | .int k n,.int k' n'=>k==k'&&n==n'
 | .bool a,.bool b=>a==b
 | .string a,.string b=>a.data.toList==b.data.toList
 | .slice none 0 0,.slice none 0 0=>true
 |_,_=>false
def sameL:List Value->List Value->Bool
 |[],[]=>true
 |a::r,b::s=>sameV a b&&sameL r s
 |_,_=>false
theorem eq_of_sameV {a b:Value} (h:sameV a b=true):a=b:=by
 unfold sameV at h
 split at h
 ·simp at h;rw[h.1,h.2]
 ·simp at h;rw[h]
 ·rename_i a b
  have e:a.data=b.data:=BG.1 (by simpa using h)
  congr 1
  cases a;cases b;simp at e;rw[e]
 ·rfl
 ·cases h
theorem eq_of_sameL:∀ {a b:List Value},sameL a b=true->a=b
 |[],[],_=>rfl
 |a::r,b::s,h=>by simp[sameL] at h;rw[eq_of_sameV h.1,eq_of_sameL h.2]
 |[],_::_,h=>by simp[sameL] at h
 |_::_,[],h=>by simp[sameL] at h
def fieldsB (W:TypeId->Ty->Bool):Ty->List Field->Nat->Bool
 | .pair a b,f::r,off=>f.offset==off&&f.name !="_"&&W f.type a&&decide (0<a.size)&&fieldsB W b r (off+a.size)
 | .pair _ _,[],_=>false
 | .unit,[],_=>true
 | .unit,_::_,_=>false
 |t,[f],off=>f.offset==off&&f.name !="_"&&W f.type t&&decide (0<t.size)
 |_,_,_=>false
def infoB (P:Program) (i:TypeId) (t:Ty):Bool:=
 match P.info? i with
 |some f=>f.size==t.size&&decide (f.bytes<=32768)&&(match f.zero with
  |some z=>sameL z.cells.toList (zc t)
  |none=>false)
 |none=>false
def tyB (P:Program):Nat->TypeId->Ty->Bool
 |0,_,_=>false
 |n+1,i,t=>infoB P i t&&t.ok&&(match t,P.underlying i with
  | .int k,some (.int k')=>k==k'
  | .bool,some .bool=>true
  | .str,some .string=>true
  | .st u,some (.struct fs)=> !P.stoodInHeld i&&fieldsB (tyB P n) u fs.toList 0
  | .arr m u,some (.array m' e)=>m==m'&&tyB P n e u
  | .sl e u,some (.slice e')=>e==e'&&tyB P n e u
  |_,_=>false)
def TOk (P:Program) (T:TypeId->Option Ty):Prop:=∀i t,T i=some t->∃n,tyB P n i t=true
section
variable {P:Program}
theorem tyB_info {n:Nat} {i:TypeId} {t:Ty} (h:tyB P n i t=true):∃f z,P.info? i=some f/\f.size=t.size/\f.bytes<=32768/\f.zero=some z/\z.cells.toList=zc t:=by
 cases n with
 |zero=>simp[tyB] at h
 |succ n=>
  simp only[tyB,A4] at h
  have h1:=h.1.1
  unfold infoB at h1
  cases hi:P.info? i with
  |none=>simp[hi] at h1
  |some f=>
   simp only[hi,A4,beq_iff_eq,decide_eq_true_eq] at h1
   cases hz:f.zero with
   |none=>simp[hz] at h1
   |some z=>exact⟨f,z,rfl,h1.1.1,h1.1.2,hz,by simpa[hz] using eq_of_sameL (by simpa[hz] using h1.2)⟩
theorem tyB_ok {n:Nat} {i:TypeId} {t:Ty} (h:tyB P n i t=true):t.ok=true:=by
 cases n with
 |zero=>simp[tyB] at h
 |succ n=>simp only[tyB,A4] at h;exact h.1.2
theorem tyB_st {n:Nat} {i:TypeId} {u:Ty} (h:tyB P n i (.st u)=true):∃m fs,P.underlying i=some (.struct fs)/\P.stoodInHeld i=false/\fieldsB (tyB P m) u fs.toList 0=true:=by
 cases n with
 |zero=>simp[tyB] at h
 |succ n=>
  simp only[tyB,A4] at h
  have h1:=h.2
  cases hu:P.underlying i with
  |none=>simp[hu] at h1
  |some d=>
   cases d with
   |struct fs=>simp[hu] at h1;exact⟨n,fs,rfl,h1.1,h1.2⟩
   |_=>simp[hu] at h1
theorem tyB_arr {n:Nat} {i:TypeId} {m:Nat} {u:Ty} (h:tyB P n i (.arr m u)=true):∃k e,P.underlying i=some (.array m e)/\tyB P k e u=true:=by
 cases n with
 |zero=>simp[tyB] at h
 |succ n=>
  simp only[tyB,A4] at h
  have h1:=h.2
  cases hu:P.underlying i with
  |none=>simp[hu] at h1
  |some d=>
   cases d with
   |array m' e=>simp[hu] at h1;exact⟨n,e,by rw[h1.1],h1.2⟩
   |_=>simp[hu] at h1
theorem tyB_sl {n:Nat} {i e:TypeId} {u:Ty} (h:tyB P n i (.sl e u)=true):∃k,P.underlying i=some (.slice e)/\tyB P k e u=true:=by
 cases n with
 |zero=>simp[tyB] at h
 |succ n=>
  simp only[tyB,A4] at h
  have h1:=h.2
  cases hu:P.underlying i with
  |none=>simp[hu] at h1
  |some d=>
   cases d with
   |slice e'=>simp[hu] at h1;exact⟨n,by rw[h1.1],h1.2⟩
   |_=>simp[hu] at h1
theorem tyB_agg {n:Nat} {i:TypeId} {t:Ty} (h:tyB P n i t=true) (w:World):(isAgg i).run P w= .ok t.agg w:=by
 cases n with
 |zero=>simp[tyB] at h
 |succ n=>
  simp only[tyB,A4] at h
  have h1:=h.2
  unfold isAgg
  cases hu:P.underlying i with
  |none=>cases t<;>simp[hu] at h1
  |some d=>cases t<;>cases d<;>simp_all [run_underlying hu,Ty.agg]
theorem tyB_scalar {n:Nat} {i:TypeId} {t:Ty} (h:tyB P n i t=true) (ha:t.agg=false):t.size=1:=by
 cases n with
 |zero=>simp[tyB] at h
 |succ n=>
  simp only[tyB,A4] at h
  have h1:=h.2
  cases t<;>simp_all [Ty.agg,Ty.size]
theorem run_sizeOf_ty {n:Nat} {i:TypeId} {t:Ty} (h:tyB P n i t=true) (w:World):(sizeOf i).run P w= .ok t.size w:=by
 obtain⟨f,z,hi,hs,_⟩:=tyB_info h
 simp[sizeOf,typeInfo,hi,hs]
theorem run_zeroValue_ty {n:Nat} {i:TypeId} {t:Ty} (h:tyB P n i t=true) (w:World):∃z,(zeroValue i).run P w= .ok z w/\z.cells.toList=zc t:=by
 obtain⟨f,z,hi,hs,_,hz,hc⟩:=tyB_info h
 exact⟨z,by simp[zeroValue,typeInfo,hi,hz],hc⟩
theorem fieldsB_at {m:Nat}:∀ {u:Ty} {fs:List Field} {off j:Nat} {p:List Sel},fieldsB (tyB P m) u fs off=true->fieldPath u j=some p->
  ∃f d,fs[j]?=some f/\f.offset=off+d/\f.name≠"_"/\tyB P m f.type (fieldTy u p)=true/\0<(fieldTy u p).size/\∀b o,addr u (b,o) p=some (fieldTy u p,(b,o+d)):=by
 have single:∀ {u:Ty} {fs:List Field} {off j:Nat} {p:List Sel},(∀a b,u≠ .pair a b)->u≠ .unit->fieldsB (tyB P m) u fs off=true->fieldPath u j=some p->
   ∃f d,fs[j]?=some f/\f.offset=off+d/\f.name≠"_"/\tyB P m f.type (fieldTy u p)=true/\0<(fieldTy u p).size/\∀b o,addr u (b,o) p=some (fieldTy u p,(b,o+d)):=by
  intro u fs off j p hp hu h hj
  cases j with
  |succ j=>cases u<;>simp_all [fieldPath]
  |zero=>
   have hp0:p=[]:=by cases u<;>simp_all [fieldPath]
   subst hp0
   match fs,h with
   |[],h=>cases u<;>simp_all [fieldsB]
   |_::_::_,h=>cases u<;>simp_all [fieldsB]
   |[f],h=>
    have h':f.offset=off/\f.name≠"_"/\tyB P m f.type u=true/\0<u.size:=by
     cases u<;>simp_all [fieldsB]
    exact⟨f,0,rfl,h'.1,h'.2.1,by simpa[fieldTy] using h'.2.2.1,by simpa[fieldTy] using h'.2.2.2,fun b o=>by simp[addr,fieldTy]⟩
 intro u
 induction u with
 |pair a b _ ihb=>
  intro fs off j p h hj
  cases fs with
  |nil=>simp[fieldsB] at h
  |cons f r=>
   simp only[fieldsB,A4,beq_iff_eq,decide_eq_true_eq,bne_iff_ne] at h
   cases j with
   |zero=>
    simp only[fieldPath,AE] at hj;subst hj
    exact⟨f,0,rfl,h.1.1.1.1,h.1.1.1.2,by simpa[fieldTy] using h.1.1.2,by simpa[fieldTy] using h.1.2,fun b' o=>by simp[addr,fieldTy]⟩
   |succ j=>
    simp only[fieldPath] at hj
    cases hq:fieldPath b j with
    |none=>simp[hq] at hj
    |some q=>
     simp only[hq,AE] at hj;subst hj
     obtain⟨f',d,h1,h2,h3,h4,h5,h6⟩:=ihb h.2 hq
     refine⟨f',a.size+d,by simpa using h1,by omega,h3,by simpa[fieldTy] using h4,by simpa[fieldTy] using h5,fun b' o=>?_⟩
     simp only[addr,fieldTy]
     rw[h6];simp;omega
 |unit=>intro fs off j p h hj;simp[fieldPath] at hj
 |int k=>intro fs off j p h hj;exact single (by simp) (by simp) h hj
 |bool=>intro fs off j p h hj;exact single (by simp) (by simp) h hj
 |str=>intro fs off j p h hj;exact single (by simp) (by simp) h hj
 |st t _=>intro fs off j p h hj;exact single (by simp) (by simp) h hj
 |arr n t _=>intro fs off j p h hj;exact single (by simp) (by simp) h hj
 |sl e t _=>intro fs off j p h hj;exact single (by simp) (by simp) h hj
end
theorem addr_append:∀ {t u:Ty} {p q:Nat×Nat} {r s:List Sel},addr t p r=some (u,q)->addr t p (r++s)=addr u q s:=by
 intro t
 induction t with
 |st t ih=>
  intro u p q r s h
  cases r with
  |nil=>simp[addr] at h;obtain⟨rfl,rfl⟩:=h;rfl
  |cons c r=>exact ih (r:=c::r) h
 |pair a b iha ihb=>
  intro u p q r s h
  cases r with
  |nil=>simp[addr] at h;obtain⟨rfl,rfl⟩:=h;rfl
  |cons c r=>cases c with
   |fst=>exact iha h
   |snd=>exact ihb h
   |ix i=>simp[addr] at h
 |arr n t ih=>
  intro u p q r s h
  cases r with
  |nil=>simp[addr] at h;obtain⟨rfl,rfl⟩:=h;rfl
  |cons c r=>cases c with
   |fst=>simp[addr] at h
   |snd=>simp[addr] at h
   |ix i=>
    simp only[addr] at h
    split at h
    ·rename_i hi;simp only[BH,addr,hi,if_true];exact ih h
    ·cases h
 |_=>
  intro u p q r s h
  cases r with
  |nil=>simp[addr] at h;obtain⟨rfl,rfl⟩:=h;rfl
  |cons c r=>cases c<;>simp[addr] at h
theorem cast?_some {t:Ty} {x:Val} {v:t.den} {ms:List Nat} (h:cast? t x=some (v,ms)):x=⟨t,v,ms⟩:=by
 unfold cast? at h
 split at h
 ·rename_i hb
  obtain⟨t',v',ms'⟩:=x
  have e:=Ty.eq_of_beq hb
  dsimp only at e
  subst e
  simp at h
  obtain⟨rfl,rfl⟩:=h
  rfl
 ·cases h
section
variable {w:World} {A:Nat->Prop} {E:Env} {σ:St}
theorem slot_const {v:Value} (hno:opd σ (.const v)≠ .no):SlotOk w A E σ (opd σ (.const v)) v:=by
 cases v with
 |int k n=>exact⟨[.int k n],rfl,rfl,rfl⟩
 |bool b=>exact⟨[.bool b],rfl,rfl,rfl⟩
 |string s=>exact⟨[.string s],by show[Value.string s]=[Value.string ⟨s.data.toList.toArray⟩];simp,rfl,rfl⟩
 |slice a n c=>
  cases a with
  |some a=>exact absurd rfl hno
  |none=>cases n with
   |succ n=>exact absurd rfl hno
   |zero=>cases c with
    |succ c=>exact absurd rfl hno
    |zero=>rfl
 |_=>exact absurd rfl hno
end
theorem RelE.glob {X:Ctx} {E:Env} {σ:St} {a:Array Value} {w:World} (hr:RelE X E σ a w) {p:Nat×Val} (hp:p∈gdat):GRead w p.1 p.2/\Fz X E σ w p.1:=by
 obtain⟨⟨cs,h1,h2,h3,h4⟩,h5,h6,h7,h8,h9⟩:=hr.gl p hp
 refine⟨⟨cs,h1,h2,h3,h4.mono (hr.fr.same h6 h7)⟩,h5,AB h6 hr.fr.size,fun ho=>?_⟩
 simp only[owned,Aq] at ho
 rcases ho with ho|ho|ho
 ·obtain⟨b,hb,e⟩:=Am.1 ho
  rcases hr.srcb b hb with⟨s,_,hs⟩|hs
  ·exact h9 _ hs e
  ·omega
 ·obtain⟨τ,hτ,he⟩:=B2.1 ho
  rcases hr.srct τ hτ p.1 (by simpa[tokB] using he) with hs|hs
  ·exact h8 hs
  ·omega
 ·rcases hr.srco _ ho with hs|hs
  ·exact h8 hs
  ·omega
theorem gval_ok {A:Nat->Prop} {E:Env} {σ:St} {w:World} (hnt:2<=σ.nt) (hz:0∉σ.al):∀ {l:List (Nat×Val)} {g:Nat},(∀p∈l,GRead w p.1 p.2/\A p.1)->SlotOk w A E σ (gval g l) (.pointer (some ⟨g,0,none⟩)):=by
 intro l
 induction l with
 |nil=>intro g _;trivial
 |cons p r ih=>
  intro g h
  obtain⟨b,x⟩:=p
  simp only[gval]
  cases hc:b==g with
  |false=>exact ih (fun q hq=>h q (AL _ hq))
  |true=>
   have hbg:b=g:=by simpa using hc
   subst hbg
   obtain⟨⟨cs,h1,h2,h3,h4⟩,h5⟩:=h _ AZ
   refine⟨by omega,b,0,rfl,fun _=>⟨cs,by rw[h2];exact h1 _ _ _ _,by rw[h2,h3];rfl,h4,fun ht=>(hz ht).elim,fun _=>.inl h5⟩⟩
theorem slot_opd {X:Ctx} {E:Env} {σ:St} {a:Act} {w:World} (h:RelE X E σ a.tmps w) (x:Operand):SlotOk w (Fz X E σ w) E σ (opd σ x) (a.eval x):=by
 cases x with
 |tmp t=>
  show SlotOk _ _ _ _ (σ.fr.getD t .no) (a.tmps.getD t undef)
  by_cases ht:t<σ.fr.length
  ·have ht':t<a.tmps.size:=by rw[<-h.len];exact ht
   have e1:σ.fr[t]?=some σ.fr[t]:=AM ht
   have e2:a.tmps[t]?=some a.tmps[t]:=B8 ht'
   have:=h.slot t _ _ e1 e2
   simpa[List.getD,e1,Array.getD,ht'] using this
  ·have e1:σ.fr[t]?=none:=Bd (Nat.le_of_not_lt ht)
   simp[List.getD,e1,SlotOk,SlotB]
 |const v=>
  by_cases hn:opd σ (.const v)= .no
  ·rw[hn];trivial
  ·exact slot_const hn
 |global g=>exact gval_ok h.nt2 (fun hz=>by have:=(h.alr 0 hz).1;omega) (fun p hp=>h.glob hp)
 |func f=>exact⟨[],rfl,rfl,fun i c u hc=>by simp at hc⟩
section
variable {w:World} {A:Nat->Prop} {E:Env} {σ:St}
theorem coe_ok {t:Ty} {s:Slot} {v:t.den} {ms:List Nat} {u:Value} (h:coe t s=some (v,ms)) (hs:SlotOk w A E σ s u) (hnt:2<=σ.nt) (h1:1∉σ.al) (h1':1∉σ.fz):
  ∃cs,Rv w A E σ t v ms cs/\u=toVal t cs/\ms.length=t.nl:=by
 unfold coe at h
 split at h
 ·rename_i x hh
  have e:=cast?_some h
  subst e
  exact hs
 ·split at h
  ·rename_i e t'
   simp only[AE,Ao] at h
   obtain⟨rfl,rfl⟩:=h
   have hu:u= .slice none 0 0:=hs
   subst hu
   refine⟨[.slice none 0 0],⟨_,rfl,by simp;omega,none,0,rfl,fun hz=>?_,fun _=>⟨rfl,rfl,rfl⟩,fun h=>absurd h (by simp),fun h=>absurd h (by simpa using h1)⟩,rfl,rfl⟩
   rcases hz with h|h
   ·simp at h
   ·exact absurd h (by simpa using h1')
  ·cases h
 ·cases h
end
theorem RelE.no1 {X:Ctx} {E:Env} {σ:St} {a:Array Value} {w:World} (h:RelE X E σ a w):1∉σ.al/\1∉σ.fz:=
 ⟨fun h1=>by have:=(h.alr 1 h1).1;omega,fun h1=>by have:=(h.fzr 1 h1).1;omega⟩
theorem RelE.coe {X:Ctx} {E:Env} {σ:St} {a:Act} {w:World} (hr:RelE X E σ a.tmps w) {t:Ty} {x:Operand} {v:t.den} {ms:List Nat} (h:V.coe t (opd σ x)=some (v,ms)):
  ∃cs,Rv w (Fz X E σ w) E σ t v ms cs/\a.eval x=toVal t cs/\ms.length=t.nl:=
 coe_ok h (slot_opd hr x) hr.nt2 hr.no1.1 hr.no1.2
end Go.Proofs.YtacbkfginiknaaaDoor.V
namespace Go.Proofs.YtacbkfginiknaaaDoor.V
open Go
section
variable {w:World} {A:Nat->Prop} {E:Env} {σ:St}
theorem rv_of_rf (hnt:0<σ.nt) (hz:0∉σ.al):∀ {t:Ty} {v:t.den} {cs:List Value},Rf w A t v cs->Rv w A E σ t v (List.replicate t.nl 0) cs:=by
 intro t
 induction t with
 |int k=>intro v cs h;exact h
 |bool=>intro v cs h;exact h
 |str=>intro v cs h;exact h
 |unit=>intro v cs h;exact h
 |pair a b iha ihb=>
  intro v cs h;obtain⟨c1,c2,e,h1,h2⟩:=h
  refine⟨c1,c2,e,?_,?_⟩
  ·have:(List.replicate (a.nl+b.nl) 0).take a.nl=List.replicate a.nl 0:=by rw[Bm,Ah (by omega)]
   show Rv w A E σ a v.1 ((List.replicate (a.nl+b.nl) 0).take a.nl) c1
   rw[this];exact iha h1
  ·have:(List.replicate (a.nl+b.nl) 0).drop a.nl=List.replicate b.nl 0:=by rw[Bn,AX]
   show Rv w A E σ b v.2 ((List.replicate (a.nl+b.nl) 0).drop a.nl) c2
   rw[this];exact ihb h2
 |st t ih=>intro v cs h;exact ih h
 |arr n t _=>intro v cs h;exact h
 |sl e t _=>
  intro v cs h
  obtain⟨ad,cap,css,rfl,h1,h2,h3⟩:=h
  exact⟨_,rfl,hnt,ad,cap,rfl,fun _=>⟨ad,cap,css,rfl,h1,h2,h3⟩,fun h=>absurd h (by simp[Ty.nl]),fun h=>absurd h (by simp[Ty.nl]),fun h=>absurd h (by simpa[Ty.nl] using hz)⟩
theorem rf_of_rv:∀ {t:Ty} {v:t.den} {ms:List Nat} {cs:List Value},t.nl=0->Rv w A E σ t v ms cs->Rf w A t v cs:=by
 intro t
 induction t with
 |int k=>intro v ms cs _ h;exact h
 |bool=>intro v ms cs _ h;exact h
 |str=>intro v ms cs _ h;exact h
 |unit=>intro v ms cs _ h;exact h
 |pair a b iha ihb=>
  intro v ms cs hn h;obtain⟨c1,c2,e,h1,h2⟩:=h
  simp only[Ty.nl] at hn
  exact⟨c1,c2,e,iha (by omega) h1,ihb (by omega) h2⟩
 |st t ih=>intro v ms cs hn h;exact ih hn h
 |arr n t _=>intro v ms cs _ h;exact h
 |sl e t _=>intro v ms cs hn h;simp[Ty.nl] at hn
variable {R:Type}
theorem get_ok (hnt:0<σ.nt) (hz:0∉σ.al):∀ {t:Ty} {v:t.den} {ms:List Nat} {p:List Sel} {k:Val->Option R} {r:R} {c:List Value},getK t v ms p k=some r->Rv w A E σ t v ms c->ms.length=t.nl->
  ∃ (y:Val) (d:Nat),k y=some r/\Rv w A E σ y.t y.v y.ms ((c.drop d).take y.t.size)/\y.ms.length=y.t.nl/\d+y.t.size<=c.length/\∀b o,addr t (b,o) p=some (y.t,(b,o+d)):=by
 have stop:∀ {t:Ty} {v:t.den} {ms:List Nat} {k:Val->Option R} {r:R} {c:List Value},k ⟨t,v,ms⟩=some r->Rv w A E σ t v ms c->ms.length=t.nl->
   ∃ (y:Val) (d:Nat),k y=some r/\Rv w A E σ y.t y.v y.ms ((c.drop d).take y.t.size)/\y.ms.length=y.t.nl/\d+y.t.size<=c.length/\∀b o,addr t (b,o) []=some (y.t,(b,o+d)):=by
  intro t v ms k r c h hv hl
  refine⟨⟨t,v,ms⟩,0,h,?_,hl,by have:=hv.length;dsimp only;omega,fun b o=>by simp[addr]⟩
  have:=hv.length
  dsimp only
  rw[C4,Bc (by omega)]
  exact hv
 intro t
 induction t with
 |st t ih=>
  intro v ms p k r c h hv hl
  cases p with
  |nil=>exact stop (by simpa[getK] using h) hv hl
  |cons s p=>
   obtain⟨y,d,h1,h2,h3,h4,h5⟩:=ih (p:=s::p) (by simpa[getK] using h) hv hl
   exact⟨y,d,h1,h2,h3,h4,fun b o=>by simpa[addr] using h5 b o⟩
 |pair a b iha ihb=>
  intro v ms p k r c h hv hl
  cases p with
  |nil=>exact stop (by simpa[getK] using h) hv hl
  |cons s p=>
   obtain⟨c1,c2,rfl,hv1,hv2⟩:=hv
   have l1:=hv1.length
   have l2:=hv2.length
   simp only[Ty.nl] at hl
   cases s with
   |fst=>
    obtain⟨y,d,h1,h2,h3,h4,h5⟩:=iha (by simpa[getK] using h) hv1 (by simp;omega)
    refine⟨y,d,h1,?_,h3,by simp;omega,fun b o=>by simpa[addr] using h5 b o⟩
    rwa [Aw (by omega),Ax (by simp;omega)]
   |snd=>
    obtain⟨y,d,h1,h2,h3,h4,h5⟩:=ihb (by simpa[getK] using h) hv2 (by simp;omega)
    refine⟨y,a.size+d,h1,?_,h3,by simp;omega,fun b o=>by simp only[addr];rw[h5];simp;omega⟩
    have:(c1++c2).drop (a.size+d)=c2.drop d:=by rw[<-l1,BV,Ad (by omega),AX];rfl
    rwa [this]
   |ix i=>simp[getK] at h
 |arr n t ih=>
  intro v ms p k r c h hv hl
  cases p with
  |nil=>exact stop (by simpa[getK] using h) hv hl
  |cons s p=>
   cases s with
   |fst=>simp[getK] at h
   |snd=>simp[getK] at h
   |ix i=>
    simp only[getK] at h
    cases hx:(v:List t.den)[i]? with
    |none=>rw[hx] at h;simp at h
    |some x=>
     rw[hx] at h
     simp only[BI] at h
     obtain⟨e1,e2,e3,e4⟩:=hv
     have hi:i<n:=by rw[<-e1];exact(A8.1 hx).1
     have hrv:Rv w A E σ t x [] (seg c t.size i):=by
      have:=rv_of_rf (E:=E) hnt hz (e3 i x hx)
      rwa [e4] at this
     obtain⟨y,d,h1,h2,h3,h4,h5⟩:=ih h hrv (by rw[e4];rfl)
     have hle:(i+1)*t.size<=n*t.size:=A7 _ hi
     rw[AH] at hle
     have hs:(seg c t.size i).length=t.size:=seg_length e2 hi
     refine⟨y,i*t.size+d,h1,?_,h3,by omega,fun b o=>by simp only[addr,hi,if_true];rw[h5];simp;omega⟩
     have:((seg c t.size i).drop d).take y.t.size=(c.drop (i*t.size+d)).take y.t.size:=by
      simp only[V.seg]
      rw[BA,BB,Be,Ah (by omega)]
     rwa [<-this]
 |_=>
  intro v ms p k r c h hv hl
  cases p with
  |nil=>exact stop (by simpa[getK] using h) hv hl
  |cons s p=>cases s<;>simp[getK] at h
theorem At.part {b o d n:Nat} {c:List Value} (h:At w b o c):At w b (o+d) ((c.drop d).take n):=by
 intro j v hv
 simp only[AC] at hv
 split at hv
 ·rw[AI] at hv
  have:=h _ v hv
  rwa [B6]
 ·cases hv
theorem set_ok:∀ {t:Ty} {v:t.den} {ms:List Nat} {p:List Sel} {x:Val} {k:t.den->List Nat->Option R} {r:R} {c cx:List Value},setK t v ms p x k=some r->Rv w A E σ t v ms c->ms.length=t.nl->
  Rv w A E σ x.t x.v x.ms cx->x.ms.length=x.t.nl->
  ∃ (v':t.den) (ms':List Nat) (d:Nat),k v' ms'=some r/\Rv w A E σ t v' ms' (c.take d++cx++c.drop (d+cx.length))/\ms'.length=t.nl/\d+cx.length<=c.length/\∀b o,addr t (b,o) p=some (x.t,(b,o+d)):=by
 have stop:∀ {t:Ty} {v:t.den} {ms:List Nat} {x:Val} {k:t.den->List Nat->Option R} {r:R} {c cx:List Value},(match cast? t x with|some (v,ms)=>k v ms|none=>none)=some r->Rv w A E σ t v ms c->ms.length=t.nl->
   Rv w A E σ x.t x.v x.ms cx->x.ms.length=x.t.nl->
   ∃ (v':t.den) (ms':List Nat) (d:Nat),k v' ms'=some r/\Rv w A E σ t v' ms' (c.take d++cx++c.drop (d+cx.length))/\ms'.length=t.nl/\d+cx.length<=c.length/\∀b o,addr t (b,o) []=some (x.t,(b,o+d)):=by
  intro t v ms x k r c cx h hv hl hx hxl
  cases hc:cast? t x with
  |none=>rw[hc] at h;cases h
  |some q=>
   obtain⟨v',ms'⟩:=q
   rw[hc] at h
   have e:=cast?_some hc
   subst e
   have l1:=hv.length
   have l2:=hx.length
   refine⟨v',ms',0,h,?_,hxl,by dsimp only at l2;omega,fun b o=>by simp[addr]⟩
   have:c.take 0++cx++c.drop (0+cx.length)=cx:=by
    rw[List.take_zero,Ar,Ad (by dsimp only at l2;omega),By]
   rw[this];exact hx
 intro t
 induction t with
 |st t ih=>
  intro v ms p x k r c cx h hv hl hx hxl
  cases p with
  |nil=>exact stop (by rw[setK] at h;exact h) hv hl hx hxl
  |cons s p=>
   obtain⟨v',ms',d,h1,h2,h3,h4,h5⟩:=ih (p:=s::p) (by simpa[setK] using h) hv hl hx hxl
   exact⟨v',ms',d,h1,h2,h3,h4,fun b o=>by simpa[addr] using h5 b o⟩
 |pair a b iha ihb=>
  intro v ms p x k r c cx h hv hl hx hxl
  cases p with
  |nil=>exact stop (by rw[setK] at h;exact h) hv hl hx hxl
  |cons s p=>
   obtain⟨c1,c2,rfl,hv1,hv2⟩:=hv
   have l1:=hv1.length
   have l2:=hv2.length
   simp only[Ty.nl] at hl
   cases s with
   |fst=>
    obtain⟨v',ms',d,h1,h2,h3,h4,h5⟩:=iha (by simpa[setK] using h) hv1 (by simp;omega) hx hxl
    refine⟨(v',v.2),ms'++ms.drop a.nl,d,h1,⟨c1.take d++cx++c1.drop (d+cx.length),c2,?_,?_,?_⟩,by simp[Ty.nl,h3];omega,by simp;omega,fun b o=>by simpa[addr] using h5 b o⟩
    ·rw[Ax (by omega),Aw (by omega)];simp
    ·rw[As h3];exact h2
    ·rw[BN h3];exact hv2
   |snd=>
    obtain⟨v',ms',d,h1,h2,h3,h4,h5⟩:=ihb (by simpa[setK] using h) hv2 (by simp;omega) hx hxl
    have la:(ms.take a.nl).length=a.nl:=by simp;omega
    refine⟨(v.1,v'),ms.take a.nl++ms',a.size+d,h1,⟨c1,c2.take d++cx++c2.drop (d+cx.length),?_,?_,?_⟩,by simp[Ty.nl,h3];omega,by simp;omega,fun b o=>by simp only[addr];rw[h5];simp;omega⟩
    ·rw[<-l1,B6,BV,List.take_append,Bc (by omega),Ad (by omega),AX,AX];simp
    ·rw[As la];exact hv1
    ·rw[BN la];exact h2
   |ix i=>simp[setK] at h
 |arr n t ih=>
  intro v ms p x k r c cx h hv hl hx hxl
  cases p with
  |nil=>exact stop (by rw[setK] at h;exact h) hv hl hx hxl
  |cons s p=>
   cases s with
   |fst=>simp[setK] at h
   |snd=>simp[setK] at h
   |ix i=>
    simp only[setK] at h
    cases hy:(v:List t.den)[i]? with
    |none=>rw[hy] at h;simp at h
    |some y=>
     rw[hy] at h
     simp only[BI] at h
     obtain⟨e1,e2,e3,e4⟩:=hv
     have hi:i<n:=by rw[<-e1];exact(A8.1 hy).1
     have hle:(i+1)*t.size<=n*t.size:=A7 _ hi
     rw[AH] at hle
     have hs:(seg c t.size i).length=t.size:=seg_length e2 hi
     have hrv:Rv w A E σ t y [] (seg c t.size i):=by
      have h0:=e3 i y hy
      clear h hx hxl ih e3 hl
      revert h0
      generalize seg c t.size i=cc
      intro h0
      have key:∀ {t:Ty} {v:t.den} {ms:List Nat} {cs:List Value},t.nl=0->Rf w A t v cs->Rv w A E σ t v ms cs:=by
       intro t
       induction t with
       |int k=>intro v ms cs _ h;exact h
       |bool=>intro v ms cs _ h;exact h
       |str=>intro v ms cs _ h;exact h
       |unit=>intro v ms cs _ h;exact h
       |pair a b iha ihb=>
        intro v ms cs hn h;obtain⟨c1,c2,e,h1,h2⟩:=h
        simp only[Ty.nl] at hn
        exact⟨c1,c2,e,iha (by omega) h1,ihb (by omega) h2⟩
       |st t ih=>intro v ms cs hn h;exact ih hn h
       |arr n t _=>intro v ms cs _ h;exact h
       |sl e t _=>intro v ms cs hn h;simp[Ty.nl] at hn
      exact key e4 h0
     obtain⟨v',ms',d,h1,h2,h3,h4,h5⟩:=ih h hrv (by rw[e4];rfl) hx hxl
     refine⟨(v:List t.den).set i v',ms,i*t.size+d,h1,⟨by simpa using e1,by simp;omega,fun j z hz=>?_,e4⟩,hl,by omega,fun b o=>by simp only[addr,hi,if_true];rw[h5];simp;omega⟩
     have hz':(if i=j then some v' else(v:List t.den)[j]?)=some z:=by
      by_cases hij:i=j
      ·subst hij
       rw[Av (by rw[e1];exact hi)] at hz
       simpa using hz
      ·rw[B3 hij] at hz
       simpa[hij] using hz
     have hj:j<n:=by
      have:=(A8.1 hz).1
      rw[Ai,e1] at this;exact this
     have hlj:(j+1)*t.size<=n*t.size:=A7 _ hj
     rw[AH] at hlj
     by_cases hij:i=j
     ·subst hij
      simp at hz';subst hz'
      have:seg (c.take (i*t.size+d)++cx++c.drop (i*t.size+d+cx.length)) t.size i=(seg c t.size i).take d++cx++(seg c t.size i).drop (d+cx.length):=by
       apply Al
       intro q
       simp only[V.seg,AC,AI,AW,AJ,AV,AN]
       by_cases hq:q<t.size
       ·simp only[hq,if_true]
        repeat' split
        all_goals first|omega|rfl|(congr 1;omega)
       ·simp only[hq,if_false]
        repeat' split
        all_goals first|omega|rfl
      rw[this]
      exact rf_of_rv e4 h2
     ·simp[hij] at hz'
      have:seg (c.take (i*t.size+d)++cx++c.drop (i*t.size+d+cx.length)) t.size j=seg c t.size j:=by
       have hne:j*t.size+t.size<=i*t.size\/i*t.size+t.size<=j*t.size:=by
        rcases BP hij with h|h
        ·right;have:=A7 t.size (show i+1<=j from h);rw[AH] at this;omega
        ·left;have:=A7 t.size (show j+1<=i from h);rw[AH] at this;omega
       apply Al
       intro q
       simp only[V.seg,AC,AI,AW,AJ,AV,AN]
       by_cases hq:q<t.size
       ·simp only[hq,if_true]
        repeat' split
        all_goals first|omega|rfl|(congr 1;omega)
       ·simp only[hq,if_false]
      rw[this]
      exact e3 j z hz'
 |_=>
  intro v ms p x k r c cx h hv hl hx hxl
  cases p with
  |nil=>exact stop (by rw[setK] at h;exact h) hv hl hx hxl
  |cons s p=>cases s<;>simp[setK] at h
end
end Go.Proofs.YtacbkfginiknaaaDoor.V
namespace Go.Proofs.YtacbkfginiknaaaDoor.V
open Go
section
variable {w:World} {A:Nat->Prop} {E:Env} {σ:St}
theorem Rf.one:∀ {t:Ty} {v:t.den} {cs:List Value},Rf w A t v cs->∀c∈cs,c.oneCell'=true:=by
 intro t
 induction t with
 |int k=>intro v cs h c hc;simp only[Rf] at h;subst h;simp at hc;subst hc;rfl
 |bool=>intro v cs h c hc;simp only[Rf] at h;subst h;simp at hc;subst hc;rfl
 |str=>intro v cs h c hc;simp only[Rf] at h;subst h;simp at hc;subst hc;rfl
 |unit=>intro v cs h c hc;simp only[Rf] at h;subst h;simp at hc
 |pair a b iha ihb=>
  intro v cs h c hc;obtain⟨c1,c2,rfl,h1,h2⟩:=h
  rcases Aq.1 hc with h|h
  ·exact iha h1 c h
  ·exact ihb h2 c h
 |st t ih=>intro v cs h c hc;exact ih h c hc
 |arr n t ih=>
  intro v cs h c hc
  obtain⟨q,hq,rfl⟩:=Bj.1 hc
  have hsz:0<t.size:=by
   rcases Br t.size with h0|h0
   ·rw[h.2.1,h0] at hq;simp at hq
   ·exact h0
  have hqn:q/t.size<n:=by rw[Bf hsz,<-h.2.1];exact hq
  have hx:(v:List t.den)[q/t.size]?=some ((v:List t.den)[q/t.size]'(by rw[h.1];exact hqn)):=AM _
  refine ih (h.2.2.1 _ _ hx) _ ?_
  rw[Bg]
  refine⟨q%t.size,?_⟩
  rw[V.seg,AC,if_pos (CG _ hsz),AI,CB,Bz,AM hq]
 |sl e t _=>intro v cs h c hc;obtain⟨ad,cap,css,rfl,_⟩:=h;simp at hc;subst hc;rfl
theorem Rv.one:∀ {t:Ty} {v:t.den} {ms:List Nat} {cs:List Value},Rv w A E σ t v ms cs->∀c∈cs,c.oneCell'=true:=by
 intro t
 induction t with
 |int k=>intro v ms cs h c hc;simp only[Rv] at h;subst h;simp at hc;subst hc;rfl
 |bool=>intro v ms cs h c hc;simp only[Rv] at h;subst h;simp at hc;subst hc;rfl
 |str=>intro v ms cs h c hc;simp only[Rv] at h;subst h;simp at hc;subst hc;rfl
 |unit=>intro v ms cs h c hc;simp only[Rv] at h;subst h;simp at hc
 |pair a b iha ihb=>
  intro v ms cs h c hc;obtain⟨c1,c2,rfl,h1,h2⟩:=h
  rcases Aq.1 hc with h|h
  ·exact iha h1 c h
  ·exact ihb h2 c h
 |st t ih=>intro v ms cs h c hc;exact ih h c hc
 |arr n t _=>
  intro v ms cs h c hc
  exact Rf.one (t:=.arr n t) (w:=w) (A:=A) h c hc
 |sl e t _=>intro v ms cs h c hc;obtain⟨c',rfl,_,ad,cap,rfl,_⟩:=h;simp at hc;subst hc;rfl
theorem cells_one {v:Value} (h:v.oneCell'=true):v.cells= #[v]:=by cases v<;>first|rfl|simp[Value.oneCell'] at h
theorem cells_toVal {t:Ty} {v:t.den} {ms:List Nat} {cs:List Value} (h:Rv w A E σ t v ms cs) (ha:t.agg=false->t.size=1):(toVal t cs).cells=cs.toArray:=by
 unfold toVal
 split
 ·rfl
 ·rename_i hg
  have hl:=h.length
  rw[ha (by simpa using hg)] at hl
  match cs,hl with
  |[c],_=>exact cells_one (h.one c (by simp))
theorem rf_zero:∀ {t:Ty},t.ok=true->Rf w A t t.zero (zc t):=by
 intro t
 induction t with
 |int k=>intro _;rfl
 |bool=>intro _;rfl
 |str=>intro _;rfl
 |unit=>intro _;rfl
 |pair a b iha ihb=>intro h;simp[Ty.ok] at h;exact⟨_,_,rfl,iha h.1,ihb h.2⟩
 |st t ih=>intro h;simp[Ty.ok] at h;exact ih h
 |arr n t ih=>
  intro h
  simp[Ty.ok] at h
  have hl:(zc t).length=t.size:=(ih h.1).length
  refine⟨by simp[Ty.zero],?_,fun i x hx=>?_,h.2⟩
  ·show((List.replicate n (zc t)).flatten).length=n*t.size
   simp[hl]
  ·have hx':(List.replicate n t.zero)[i]?=some x:=hx
   rw[BC] at hx'
   split at hx'
   ·rename_i hi
    injection hx' with hx';subst hx'
    have:seg ((List.replicate n (zc t)).flatten) t.size i=zc t:=by
     rw[show List.replicate n (zc t)=List.replicate i (zc t)++zc t::List.replicate (n-i-1) (zc t) by
      rw[<-List.replicate_succ,List.replicate_append_replicate];congr 1;omega]
     simp only[V.seg,List.flatten_append,List.flatten_cons]
     rw[BN (by simp[hl]),As hl]
    show Rf w A t t.zero (seg ((List.replicate n (zc t)).flatten) t.size i)
    rw[this];exact ih h.1
   ·cases hx'
 |sl e t _=>intro h;exact⟨none,0,[],rfl,by simp[Ty.zero],fun i x hx=>by simp[Ty.zero] at hx,fun h=>absurd rfl h,by simp[Ty.zero]⟩
theorem nil_leaf {e:TypeId} {t:Ty} (hnt:2<=σ.nt) (h1:1∉σ.al) (h1':1∉σ.fz):Leaf w A E σ e t 1 [] (.slice none 0 0):=by
 refine⟨by omega,none,0,rfl,fun hz=>?_,fun _=>⟨rfl,rfl,rfl⟩,fun h=>absurd h (by omega),fun h=>absurd h h1⟩
 rcases hz with h|h
 ·omega
 ·exact absurd h h1'
theorem rv_zero (hnt:2<=σ.nt) (h1:1∉σ.al) (h1':1∉σ.fz):∀ {t:Ty},t.ok=true->Rv w A E σ t t.zero (List.replicate t.nl 1) (zc t):=by
 intro t
 induction t with
 |int k=>intro _;rfl
 |bool=>intro _;rfl
 |str=>intro _;rfl
 |unit=>intro _;rfl
 |pair a b iha ihb=>
  intro h
  simp[Ty.ok] at h
  refine⟨_,_,rfl,?_,?_⟩
  ·have:(List.replicate (a.nl+b.nl) 1).take a.nl=List.replicate a.nl 1:=by rw[Bm,Ah (by omega)]
   show Rv w A E σ a a.zero ((List.replicate (a.nl+b.nl) 1).take a.nl) (zc a)
   rw[this];exact iha h.1
  ·have:(List.replicate (a.nl+b.nl) 1).drop a.nl=List.replicate b.nl 1:=by rw[Bn,AX]
   show Rv w A E σ b b.zero ((List.replicate (a.nl+b.nl) 1).drop a.nl) (zc b)
   rw[this];exact ihb h.2
 |st t ih=>intro h;simp[Ty.ok] at h;exact ih h
 |arr n t _=>intro h;exact rf_zero (t:=.arr n t) h
 |sl e t _=>intro h;exact⟨_,rfl,nil_leaf hnt h1 h1'⟩
end
section
variable {P:Program}
theorem add_addr (b o j:Nat):(⟨b,o,none⟩:Addr).add j=⟨b,o+j,none⟩:=by unfold Addr.add;split<;>simp_all
theorem run_loadVar_ty {n:Nat} {i:TypeId} {t:Ty} (h:tyB P n i t=true) {w:World} {b o:Nat} {cs:List Value} (hl:cs.length=t.size) (hat:At w b o cs):
  (loadVar i ⟨b,o,none⟩).run P w= .ok (toVal t cs) w:=by
 unfold loadVar
 simp only[A5,tyB_agg h,A3]
 by_cases ha:t.agg=true
 ·simp only[ha,if_true,A5,run_sizeOf_ty h,A3]
  have:=run_loadCells_list (P:=P) w ⟨b,o,none⟩ cs (fun j v hv=>by rw[add_addr];exact hat j v hv)
  rw[hl] at this
  rw[this]
  simp[toVal,ha]
 ·have ha':t.agg=false:=by simpa using ha
  rw[tyB_scalar h ha'] at hl
  match cs,hl with
  |[c],_=>
   have:=hat 0 c rfl
   simp only[Bs] at this
   simp[ha',toVal,this]
theorem run_loadAt_ty {n:Nat} {i:TypeId} {t:Ty} (h:tyB P n i t=true) {w:World} {b o:Nat} {cs:List Value} (hl:cs.length=t.size) (hat:At w b o cs):
  (Instr.loadAt i (.pointer (some ⟨b,o,none⟩))).run P w= .ok (toVal t cs) w:=by
 simp only[Instr.loadAt,Instr.sureAddr,A5,A6,A3]
 exact run_loadVar_ty h hl hat
def splice (cur:Array Value) (o:Nat) (cs:List Value):Array Value:=(cur.toList.take o++cs++cur.toList.drop (o+cs.length)).toArray
theorem run_storeAt_ty {n:Nat} {i:TypeId} {t:Ty} (h:tyB P n i t=true) {w:World} {b o:Nat} {cs:List Value} {cur:Array Value} {e:TypeId} {v:Value} (hv:v.cells=cs.toArray) (hl:cs.length=t.size)
  (h1:∀c∈cs,c.oneCell'=true) (hb:w.heap[b]?=some (.cells cur e (0,0))) (hfit:o+cs.length<=cur.size):
  (Instr.storeAt i (.pointer (some ⟨b,o,none⟩)) v).run P w= .ok () (w.setRow b (splice cur o cs)):=by
 have hst:=run_storeCells_at P b o e cs 0 cur w hb (by simpa using hfit) h1
 simp only[Bs] at hst
 simp only[Instr.storeAt,Instr.sureAddr,storeVar,A5,A6,A3,run_sizeOf_ty h,hv]
 simp[hl,hst,splice]
theorem splice_size {cur:Array Value} {o:Nat} {cs:List Value} (h:o+cs.length<=cur.size):(splice cur o cs).size=cur.size:=by
 simp[splice];omega
theorem splice_get {cur:Array Value} {o:Nat} {cs:List Value} (h:o+cs.length<=cur.size) (j:Nat):(splice cur o cs)[j]?=if j<o then cur[j]? else if j<o+cs.length then cs[j-o]? else cur[j]?:=by
 simp only[splice,List.getElem?_toArray,AW,AN,AJ,AT,AC,AI,Aa]
 repeat' split
 all_goals first|omega|rfl|(congr 1;omega)
end
theorem Fr.setRow {M:Nat->Nat->Prop} {w0 w:World} {b:Nat} {cur arr:Array Value} {e:TypeId} (h:Fr M w0 w) (hb:w.heap[b]?=some (.cells cur e (0,0))) (hs:arr.size=cur.size)
  (hm:b<w0.heap.size->∀o,¬M b o->arr[o]?=cur[o]?):Fr M w0 (w.setRow b arr):=by
 refine⟨h.os,h.tape,h.output,by simpa[BW] using h.size,fun i hi=>?_⟩
 by_cases hib:i=b
 ·subst hib
  have hnew:=setRow_heap w i cur arr e (0,0) hb
  rcases h.block i hi with h1|⟨c,c',e',h1,h2,h3,h4⟩
  ·exact .inr ⟨cur,arr,e,by rw[<-h1];exact hb,hnew,hs,hm hi⟩
  ·rw[hb] at h2
   simp only[AE,Obj.cells.injEq,and_true] at h2
   obtain⟨rfl,rfl⟩:=h2
   exact .inr ⟨c,arr,e,h1,hnew,hs.trans h3,fun o ho=>(hm hi o ho).trans (h4 o ho)⟩
 ·rw[setRow_other w b i arr hib]
  exact h.block i hi
theorem find_mem {σ:St} {id:Nat} {x:Val} (h:σ.find id=some x):⟨id,x⟩∈σ.bx:=by
 unfold St.find at h
 induction hb:σ.bx with
 |nil=>rw[hb] at h;simp[St.find.go] at h
 |cons b r ih=>
  have key:∀l:List Bx,St.find.go id l=some x->⟨id,x⟩∈l:=by
   intro l
   induction l with
   |nil=>intro h;simp[St.find.go] at h
   |cons b r ih=>
    intro h
    simp only[St.find.go] at h
    split at h
    ·rename_i he
     injection h with h;subst h;subst he
     exact AZ
    ·exact AL _ (ih h)
  rw[hb] at h
  exact key _ h
theorem mem_setBx {id:Nat} {x:Val}:∀ {l:List Bx} {b:Bx},b∈setBx id x l->b=⟨id,x⟩\/(b∈l/\(b.id=id->False)\/b∈l/\b.id≠id)\/b∈l:=by
 intro l
 induction l with
 |nil=>intro b h;simp[setBx] at h
 |cons c r ih=>
  intro b h
  simp only[setBx] at h
  split at h
  ·rcases AD.1 h with h|h
   ·exact .inl h
   ·exact .inr (.inr (AL _ h))
  ·rcases AD.1 h with h|h
   ·exact .inr (.inr (h▸AZ))
   ·rcases ih h with h|_|h
    ·exact .inl h
    ·rename_i h;rcases h with h|h<;>exact .inr (.inr (AL _ h.1))
    ·exact .inr (.inr (AL _ h))
theorem setBx_ids {id:Nat} {x:Val}:∀ (l:List Bx),(setBx id x l).map (·.id)=l.map (·.id):=by
 intro l
 induction l with
 |nil=>rfl
 |cons c r ih=>
  simp only[setBx]
  split
  ·rename_i h;simp[h]
  ·simp[ih]
theorem setBx_mem {id:Nat} {x:Val}:∀ {l:List Bx} {b:Bx},(l.map (·.id)).Nodup->b∈setBx id x l->b=⟨id,x⟩\/(b∈l/\b.id≠id):=by
 intro l
 induction l with
 |nil=>intro b _ h;simp[setBx] at h
 |cons c r ih=>
  intro b hn h
  simp only[AY,Aj] at hn
  simp only[setBx] at h
  split at h
  ·rename_i hc
   rcases AD.1 h with h|h
   ·exact .inl h
   ·exact .inr ⟨AL _ h,fun he=>hn.1 (by rw[hc,<-he];exact Am.2 ⟨b,h,rfl⟩)⟩
  ·rename_i hc
   rcases AD.1 h with h|h
   ·exact .inr ⟨h▸AZ,h▸hc⟩
   ·rcases ih hn.2 h with h|h
    ·exact .inl h
    ·exact .inr ⟨AL _ h.1,h.2⟩
theorem inj_of_nodup {α β:Type} {f:α->β}:∀ {l:List α},(l.map f).Nodup->∀ {x y:α},x∈l->y∈l->f x=f y->x=y:=by
 intro l
 induction l with
 |nil=>intro _ x y h;cases h
 |cons c r ih=>
  intro hn x y hx hy he
  simp only[AY,Aj] at hn
  rcases AD.1 hx with h1|h1<;>rcases AD.1 hy with h2|h2
  ·rw[h1,h2]
  ·exact absurd (Am.2 ⟨y,h2,by rw[<-he,h1]⟩) hn.1
  ·exact absurd (Am.2 ⟨x,h1,by rw[he,h2]⟩) hn.1
  ·exact ih hn.2 h1 h2 he
section
variable {X:Ctx} {E:Env} {σ:St} {a:Array Value} {w:World}
theorem owned_setBx (id:Nat) (x:Val):owned E {σ with bx:=setBx id x σ.bx}=owned E σ:=by
 have key:∀l:List Bx,(setBx id x l).map (fun b=>(E.ad b.id).1)=l.map (fun b=>(E.ad b.id).1):=by
  intro l
  have h1:∀l:List Bx,l.map (fun b=>(E.ad b.id).1)=(l.map (·.id)).map (fun i=>(E.ad i).1):=fun l=>by simp
  rw[h1,h1,setBx_ids]
 simp only[owned,key]
theorem RelE.setBox (h:RelE X E σ a w) {id:Nat} {y:Val} (hf:σ.find id=some y) {v:y.t.den} {ms:List Nat} {cur:Array Value} {e:TypeId} {d:Nat} {c cx:List Value}
  (hb:w.heap[(E.ad id).1]?=some (.cells cur e (0,0))) (hfit:(E.ad id).2+c.length<=cur.size) (hat:At w (E.ad id).1 (E.ad id).2 c) (hd:d+cx.length<=c.length) (hcl:c.length=y.t.size)
  (hv:Rv w (Fz X E σ w) E σ y.t v ms (c.take d++cx++c.drop (d+cx.length))) (hms:ms.length=y.t.nl):
  RelE X E {σ with bx:=setBx id ⟨y.t,v,ms⟩ σ.bx} a (w.setRow (E.ad id).1 (splice cur ((E.ad id).2+d) cx))/\
   Keep w (w.setRow (E.ad id).1 (splice cur ((E.ad id).2+d) cx)) (Fz X E σ w) (Fz X E {σ with bx:=setBx id ⟨y.t,v,ms⟩ σ.bx} (w.setRow (E.ad id).1 (splice cur ((E.ad id).2+d) cx))) E E σ {σ with bx:=setBx id ⟨y.t,v,ms⟩ σ.bx}:=by
 have hmem:=find_mem hf
 have hne:∀b,b∈σ.bx->b.id≠id->(E.ad b.id).1≠(E.ad id).1:=by
  intro b hb' hbid he
  have hn:=h.nodup
  simp only[owned] at hn
  have hn1:=(Ay.1 hn).1
  have hinj:=inj_of_nodup (f:=fun b:Bx=>(E.ad b.id).1) hn1 hb' hmem he
  exact hbid (by rw[hinj])
 have hal:∀τ∈σ.al,∀g,E.hd τ=some g->g≠(E.ad id).1:=by
  intro τ hτ g hg he
  have hn:=h.nodup
  simp only[owned] at hn
  exact(Ay.1 hn).2.2 _ (Am.2 ⟨_,hmem,rfl⟩) g (AS _ (B2.2 ⟨τ,hτ,by simp[tokB,hg]⟩)) he.symm
 have hFz:∀b,Fz X E σ w b->Fz X E {σ with bx:=setBx id ⟨y.t,v,ms⟩ σ.bx} (w.setRow (E.ad id).1 (splice cur ((E.ad id).2+d) cx)) b:=fun b hb'=>⟨hb'.1,by simpa[BW] using hb'.2.1,by rw[owned_setBx];exact hb'.2.2⟩
 have hother:∀b,b≠(E.ad id).1->(w.setRow (E.ad id).1 (splice cur ((E.ad id).2+d) cx)).heap[b]?=w.heap[b]?:=fun b hb'=>setRow_other w _ b _ hb'
 have K:Keep w (w.setRow (E.ad id).1 (splice cur ((E.ad id).2+d) cx)) (Fz X E σ w) (Fz X E {σ with bx:=setBx id ⟨y.t,v,ms⟩ σ.bx} (w.setRow (E.ad id).1 (splice cur ((E.ad id).2+d) cx))) E E σ {σ with bx:=setBx id ⟨y.t,v,ms⟩ σ.bx}:=
  ⟨fun b hb'=>⟨hFz b hb',hother b (fun he=>hb'.2.2 (he▸mem_owned_bx hmem))⟩,AQ _,fun _ _=>rfl,fun _ _=>rfl,fun _ _ h=>.inl h,fun τ _ hτ=>⟨hτ,fun g hg=>hother g (hal τ hτ g hg)⟩,h.ge,fun b hb'=>⟨hb',hother b (fun he=>(h.pinlt b hb').2 (he▸mem_owned_bx hmem))⟩⟩
 have hfit':(E.ad id).2+d+cx.length<=cur.size:=by omega
 have hlen:(c.take d++cx++c.drop (d+cx.length)).length=c.length:=by simp;omega
 refine⟨{h with
  slot:=fun i s u hs hu=>K.slot (h.slot i s u hs hu)
  bx:=fun b hb'=>?_
  nodup:=by rw[owned_setBx];exact h.nodup
  lt:=fun b hb'=>by rw[owned_setBx] at hb';exact⟨by simpa[BW] using(h.lt b hb').1,(h.lt b hb').2⟩
  ids:=by show((setBx id ⟨y.t,v,ms⟩ σ.bx).map (·.id)).Nodup;rw[setBx_ids];exact h.ids
  idlt:=fun b hb'=>?_
  fr:=h.fr.setRow hb (splice_size hfit') (fun hlt o ho=>?_)
  srcb:=fun b hb'=>?_
  pinlt:=fun b hb'=>by rw[owned_setBx];exact⟨by simpa[BW] using(h.pinlt b hb').1,(h.pinlt b hb').2⟩},K⟩
 ·rcases setBx_mem h.ids hb' with rfl|⟨hb1,hb2⟩
  ·refine⟨_,_,e,K.rv hv,hms,setRow_heap w _ cur _ e _ hb,by rw[hlen,splice_size hfit'];exact hfit,fun j u hu=>?_⟩
   show(w.setRow (E.ad id).1 _).cell? ⟨(E.ad id).1,(E.ad id).2+j,none⟩=some u
   have hget:w.cell? ⟨(E.ad id).1,(E.ad id).2+j,none⟩=cur[(E.ad id).2+j]?:=cell_of_row w _ _ cur e _ hb
   have hjc:c[j]?=cur[(E.ad id).2+j]?:=by
    by_cases hj:j<c.length
    ·have:=hat j _ (AM hj)
     rw[hget] at this
     rw[AM hj,this]
    ·have:=(A8.1 hu).1
     omega
   rw[cell_of_row _ _ _ _ e (0,0) (setRow_heap w _ cur _ e _ hb),splice_get hfit']
   simp only[AW,AN,AJ,AC,AI] at hu
   by_cases h1:j<d
   ·rw[if_pos (by omega)]
    rw[if_pos (by omega),if_pos (by omega),if_pos h1] at hu
    rw[<-hjc];exact hu
   ·rw[if_neg (by omega)]
    by_cases h2:j<d+cx.length
    ·rw[if_pos (by omega)]
     rw[if_pos (by omega),if_neg (by omega)] at hu
     rw[<-hu];congr 1;omega
    ·rw[if_neg (by omega)]
     rw[if_neg (by omega)] at hu
     rw[<-hjc,<-hu];congr 1;omega
  ·exact K.bx (h.bx b hb1) (h.idlt b hb1) (hother _ (hne b hb1 hb2))
 ·rcases setBx_mem h.ids hb' with rfl|⟨hb1,_⟩
  ·exact(h.idlt ⟨id,y⟩ hmem:id<σ.nt)
  ·exact h.idlt b hb1
 ·rw[splice_get hfit']
  rcases h.srcb _ hmem with⟨s,h0,h1⟩|h1
  ·dsimp only at h0
   split
   ·rfl
   ·split
    ·exact absurd (h.pbm _ h1 o (by dsimp only;omega) (by dsimp only;omega)) ho
    ·rfl
  ·dsimp only at h1;omega
 ·rcases setBx_mem h.ids hb' with rfl|⟨hb1,_⟩
  ·have h0:=h.srcb ⟨id,y⟩ hmem
   exact h0
  ·exact h.srcb b hb1
end
end Go.Proofs.YtacbkfginiknaaaDoor.V
namespace Go.Proofs.YtacbkfginiknaaaDoor.V
open Go
def StepOk (P:Program) (X:Ctx) (T:Tabs) (o:Oper) (a:Act) (w:World) (G:St->Prop):Prop:=
 ∀Q,o.wp P a w (fun a' w'=>a'.defers=a.defers/\(∀i,some i≠o.dst->a'.tmps[i]?=a.tmps[i]?)/\a'.tmps.size=a.tmps.size/\(quiet T o.op=true->Ext w w')/\∃σ',G σ'/\Rel X σ' a'.tmps w') Q
def StepFix (P:Program) (X:Ctx) (o:Oper) (a:Act) (w:World) (G:St->Prop):Prop:=
 ∃v,(∀w1,Ext w w1->(execOp a.eval o).run P w1= .ok (.value v) w1)/\∃σ',G σ'/\Rel X σ' (a.put o.dst v).tmps w
section
variable {P:Program} {X:Ctx} {E:Env} {σ:St} {a:Act} {w:World} {o:Oper} {R:Type}
theorem put_other (d:Option Tmp) (v:Value) (i:Nat) (h:some i≠d):(a.put d v).tmps[i]?=a.tmps[i]?:=by
 cases d with
 |none=>rfl
 |some d=>exact BK (fun e=>h (by rw[e]))
theorem put_size (d:Option Tmp) (v:Value):(a.put d v).tmps.size=a.tmps.size:=by
 cases d with
 |none=>rfl
 |some d=>exact Array.size_setIfInBounds
theorem put_defers (d:Option Tmp) (v:Value):(a.put d v).defers=a.defers:=by cases d<;>rfl
theorem stepOk_value {T:Tabs} {G:St->Prop} {v:Value} {w':World} {σ':St} (h:(execOp a.eval o).run P w= .ok (.value v) w') (hr:Rel X σ' (a.put o.dst v).tmps w') (hg:G σ') (hx:quiet T o.op=true->Ext w w':=by first|exact fun _=>Ext.refl _|exact fun _=>Ext.alloc _ _|(intro hq;simp[quiet, *] at hq)):StepOk P X T o a w G:=by
 intro Q
 unfold Oper.wp
 rw[h]
 exact⟨put_defers _ _,fun i hi=>put_other _ _ i hi,put_size _ _,hx,σ',hg,hr⟩
theorem stepOk_skip {T:Tabs} {G:St->Prop} {w':World} {σ':St} (h:(execOp a.eval o).run P w= .ok .skip w') (hr:Rel X σ' (a.put o.dst undef).tmps w') (hg:G σ') (hx:quiet T o.op=true->Ext w w':=by first|exact fun _=>Ext.refl _|exact fun _=>Ext.alloc _ _|(intro hq;simp[quiet, *] at hq)):StepOk P X T o a w G:=by
 intro Q
 unfold Oper.wp
 rw[h]
 exact⟨put_defers _ _,fun i hi=>put_other _ _ i hi,put_size _ _,hx,σ',hg,hr⟩
theorem stepFix_value {G:St->Prop} {v:Value} {σ':St} (h:∀w1,Ext w w1->(execOp a.eval o).run P w1= .ok (.value v) w1) (hr:Rel X σ' (a.put o.dst v).tmps w) (hg:G σ'):StepFix P X o a w G:=⟨v,h,σ',hg,hr⟩
def StepSlot (P:Program) (X:Ctx) (E:Env) (σ:St) (o:Oper) (a:Act) (w:World) (G:St->Prop):Prop:=
 ∃v,(∀w1,Ext w w1->(execOp a.eval o).run P w1= .ok (.value v) w1)/\∃s,G (σ.put o.dst s)/\SlotOk w (Fz X E σ w) E σ s v
theorem StepSlot.fix {G:St->Prop} (h:StepSlot P X E σ o a w G) (hr:RelE X E σ a.tmps w):StepFix P X o a w G:=by
 obtain⟨v,h1,s,h2,h3⟩:=h
 exact⟨v,h1,_,h2,E,hr.put o.dst h3⟩
theorem stepSlot_value {G:St->Prop} {v:Value} {s:Slot} (h:∀w1,Ext w w1->(execOp a.eval o).run P w1= .ok (.value v) w1) (hs:SlotOk w (Fz X E σ w) E σ s v) (hg:G (σ.put o.dst s)):StepSlot P X E σ o a w G:=⟨v,h,s,hg,hs⟩
theorem StepFix.ok {T:Tabs} {G:St->Prop} (h:StepFix P X o a w G):StepOk P X T o a w G:=by
 obtain⟨v,h1,σ',h2,h3⟩:=h
 exact stepOk_value (h1 w (Ext.refl w)) h3 h2 (fun _=>Ext.refl w)
theorem slot_val_home {A:Nat->Prop} {x:Val} {h h':Option Home} {v:Value} (hs:SlotOk w A E σ (.val x h) v):SlotOk w A E σ (.val x h') v:=hs
theorem slot_nil {A:Nat->Prop} (hr:RelE X E σ a.tmps w) {e:TypeId} {t:Ty}:SlotOk w A E σ (.val ⟨.sl e t,([]:List t.den),[1]⟩ none) (.slice none 0 0):=
 ⟨_,⟨_,rfl,nil_leaf hr.nt2 hr.no1.1 hr.no1.2⟩,rfl,rfl⟩
theorem slot_of_opd (hr:RelE X E σ a.tmps w) {x:Operand} {s:Slot} (h:opd σ x=s):SlotOk w (Fz X E σ w) E σ s (a.eval x):=h▸slot_opd hr x
theorem opd_nil (hr:RelE X E σ a.tmps w) {x:Operand} (h:opd σ x= .nilsl):a.eval x= .slice none 0 0:=slot_of_opd hr h

theorem step_move (T:Tabs) {x:Operand} (ho:o.op= .move x) {k:St->Option R} {r:R} (h:stepK T o σ k=some r) (hr:RelE X E σ a.tmps w):StepSlot P X E σ o a w (fun σ'=>k σ'=some r):=by
 simp only[stepK,ho] at h
 have hs:=slot_opd hr x
 have hx:∀w1,Ext w w1->(execOp a.eval o).run P w1= .ok (.value (a.eval x)) w1:=fun w1 _=>by simp[execOp,ho]
 revert h hs
 cases e:opd σ x with
 |no=>intro h;simp at h
 |nilsl=>
  intro h hs
  have hs':a.eval x= .slice none 0 0:=hs
  cases hT:T.T o.type with
  |none=>simp[hT] at h
  |some t=>
   cases t with
   |sl e' t=>simp only[hT] at h;exact stepSlot_value hx ((by rw[hs'];exact slot_nil hr)) h
   |_=>simp[hT] at h
 |val v hm=>intro h hs;exact stepSlot_value hx ((slot_val_home hs)) h
 |ptr _ _ _ _=>intro h hs;exact stepSlot_value hx (hs) h
 |eptr _ _ _ _ _ _=>intro h hs;exact stepSlot_value hx (hs) h
 |rptr _ _=>intro h hs;exact stepSlot_value hx (hs) h
 |clo _ _ _=>intro h hs;exact stepSlot_value hx (hs) h
 |tup _=>intro h hs;exact stepSlot_value hx (hs) h
theorem step_assign (T:Tabs) {x:Operand} (ho:o.op= .assign x) {k:St->Option R} {r:R} (h:stepK T o σ k=some r) (hr:RelE X E σ a.tmps w):StepSlot P X E σ o a w (fun σ'=>k σ'=some r):=by
 simp only[stepK,ho] at h
 have hs:=slot_opd hr x
 have hx:∀w1,Ext w w1->(execOp a.eval o).run P w1= .ok (.value (a.eval x)) w1:=fun w1 _=>by simp[execOp,ho]
 revert h hs
 cases e:opd σ x with
 |no=>
  intro h hs
  have key:∀ (z:Operand),(match z with| .const (.pointer none)=>k (σ.put o.dst .no)|_=>none)=some r->k (σ.put o.dst .no)=some r:=by
   intro z hz
   split at hz
   ·exact hz
   ·cases hz
  exact stepSlot_value (s:=.no) hx trivial (key x h)
 |nilsl=>
  intro h hs
  have hs':a.eval x= .slice none 0 0:=hs
  cases hT:T.T o.type with
  |none=>simp[hT] at h
  |some t=>
   cases t with
   |sl e' t=>simp only[hT] at h;exact stepSlot_value hx ((by rw[hs'];exact slot_nil hr)) h
   |_=>simp[hT] at h
 |val v hm=>intro h hs;exact stepSlot_value hx ((slot_val_home hs)) h
 |ptr _ _ _ _=>intro h hs;exact stepSlot_value hx (hs) h
 |eptr _ _ _ _ _ _=>intro h hs;exact stepSlot_value hx (hs) h
 |rptr _ _=>intro h hs;exact stepSlot_value hx (hs) h
 |clo _ _ _=>intro h hs;exact stepSlot_value hx (hs) h
 |tup _=>intro h hs;exact stepSlot_value hx (hs) h
theorem val_int {A:Nat->Prop} {k:IntKind} {n:Int} {ms:List Nat} {h:Option Home} {v:Value} (hs:SlotOk w A E σ (.val ⟨.int k,n,ms⟩ h) v):v= .int k n:=by
 obtain⟨cs,h1,h2,_⟩:=hs
 have h1':cs=[.int k n]:=h1
 subst h1';exact h2
theorem val_bool {A:Nat->Prop} {b:Bool} {ms:List Nat} {h:Option Home} {v:Value} (hs:SlotOk w A E σ (.val ⟨.bool,b,ms⟩ h) v):v= .bool b:=by
 obtain⟨cs,h1,h2,_⟩:=hs
 have h1':cs=[.bool b]:=h1
 subst h1';exact h2
theorem val_str {A:Nat->Prop} {s:List UInt8} {ms:List Nat} {h:Option Home} {v:Value} (hs:SlotOk w A E σ (.val ⟨.str,s,ms⟩ h) v):v= .string ⟨s.toArray⟩:=by
 obtain⟨cs,h1,h2,_⟩:=hs
 have h1':cs=[.string ⟨s.toArray⟩]:=h1
 subst h1';exact h2
theorem slot_int {A:Nat->Prop} (k:IntKind) (n:Int) (h:Option Home):SlotOk w A E σ (.val ⟨.int k,n,[]⟩ h) (.int k n):=⟨_,rfl,rfl,rfl⟩
theorem slot_bool {A:Nat->Prop} (b:Bool) (h:Option Home):SlotOk w A E σ (.val ⟨.bool,b,[]⟩ h) (.bool b):=⟨_,rfl,rfl,rfl⟩
theorem slot_str {A:Nat->Prop} (s:List UInt8) (h:Option Home):SlotOk w A E σ (.val ⟨.str,s,[]⟩ h) (.string ⟨s.toArray⟩):=⟨_,rfl,rfl,rfl⟩
theorem step_pick (T:Tabs) {c x y:Operand} (ho:o.op= .pick c x y) {k:St->Option R} {r:R} (h:stepK T o σ k=some r) (hr:RelE X E σ a.tmps w):StepSlot P X E σ o a w (fun σ'=>k σ'=some r):=by
 simp only[stepK,ho] at h
 split at h
 ·rename_i c' m1 h1 x' m2 h2 y' m3 h3 e1 e2 e3
  have v1:=val_bool (slot_of_opd hr e1)
  have v2:=val_bool (slot_of_opd hr e2)
  have v3:=val_bool (slot_of_opd hr e3)
  refine stepSlot_value (v:=.bool (bif c' then x' else y')) (fun w1 hx1=>?_) ((slot_bool _ none)) h
  simp only[execOp,ho,v1,v2,v3,asBool]
  cases c'<;>simp
 ·cases h
theorem step_nilCheck (T:Tabs) {x:Operand} (ho:o.op= .nilCheck x) {k:St->Option R} {r:R} (h:stepK T o σ k=some r) (hr:RelE X E σ a.tmps w):StepSlot P X E σ o a w (fun σ'=>k σ'=some r):=by
 simp only[stepK,ho] at h
 have hs:=slot_opd hr x
 have hx:∀b f,a.eval x= .pointer (some ⟨b,f,none⟩)->∀w1,Ext w w1->(execOp a.eval o).run P w1= .ok (.value (a.eval x)) w1:=by
  intro b f hv w1 _
  simp[execOp,ho,hv]
 revert h hs
 cases e:opd σ x with
 |ptr id r' p t=>intro h hs;have hs0:=hs;obtain⟨_,b,f,hv,_⟩:=hs0;exact stepSlot_value (hx b f hv) (hs) h
 |eptr _ _ _ _ _ _=>intro h hs;obtain⟨_,_,b,f,_,hv,_⟩:=id hs;exact stepSlot_value (hx b f hv) (hs) h
 |rptr _ _=>intro h hs;obtain⟨_,b,f,hv,_⟩:=id hs;exact stepSlot_value (hx b f hv) (hs) h
 |clo f n c=>
  intro h hs
  obtain⟨us,hv,_⟩:=id hs
  exact stepSlot_value (fun w1 _=>by simp[execOp,ho,hv,cloV]) hs h
 |_=>intro h;simp at h
theorem flatR_ok {A:Nat->Prop}:∀ {t:Ty} {v:t.den} {ms:List Nat} {cs:List Value},t.flat=true->Rv w A E σ t v ms cs->cs=flatC t v:=by
 intro t
 induction t with
 |int k=>intro v ms cs _ h;exact h
 |bool=>intro v ms cs _ h;exact h
 |str=>intro v ms cs _ h;exact h
 |unit=>intro v ms cs _ h;exact h
 |pair a b iha ihb=>
  intro v ms cs hf h;obtain⟨c1,c2,rfl,h1,h2⟩:=h
  simp only[Ty.flat,A4] at hf
  rw[iha hf.1 h1,ihb hf.2 h2];rfl
 |st t ih=>intro v ms cs hf h;exact ih hf h
 |arr n t _=>intro v ms cs hf;simp[Ty.flat] at hf
 |sl e t _=>intro v ms cs hf;simp[Ty.flat] at hf
theorem capsOf_ok {A:Nat->Prop}:∀ {ss:List Slot} {l:List Slot} {us:List Value},capsOf ss=some l->ss.length=us.length->(∀ (i:Nat) s u,ss[i]?=some s->us[i]?=some u->SlotOk w A E σ s u)->
  us.length=l.length/\∀ (i:Nat) s u,l[i]?=some s->us[i]?=some u->SlotB w A E σ s u:=by
 intro ss
 induction ss with
 |nil=>
  intro l us h hl _
  simp only[capsOf,AE] at h
  subst h
  exact⟨hl.symm,fun i s u h=>by simp at h⟩
 |cons s r ih=>
  intro l us h hl hs
  cases us with
  |nil=>simp at hl
  |cons u us=>
   have step:∀ {s':Slot},SlotB w A E σ s' u->(match capsOf r with
     |some l=>some (s'::l)
     |none=>none)=some l->(u::us).length=l.length/\∀ (i:Nat) s u',l[i]?=some s->(u::us)[i]?=some u'->SlotB w A E σ s u':=by
    intro s' h0 h
    cases hc:capsOf r with
    |none=>rw[hc] at h;simp at h
    |some l'=>
     rw[hc] at h
     simp only[AE] at h
     subst h
     obtain⟨h1,h2⟩:=ih hc (by simpa using hl) (fun i s' u' e1 e2=>hs (i+1) s' u' (by simpa using e1) (by simpa using e2))
     refine⟨by simp[h1],fun i s u' e1 e2=>?_⟩
     cases i with
     |zero=>simp at e1 e2;subst e1;subst e2;exact h0
     |succ i=>exact h2 i s u' (by simpa using e1) (by simpa using e2)
   have h0:=hs 0 _ _ rfl rfl
   cases s with
   |val x hm=>
    simp only[capsOf] at h
    cases hf:x.t.flat with
    |false=>rw[hf] at h;simp at h
    |true=>
     rw[hf] at h
     exact step (s':=.val x none) h0 h
   |ptr id q p t=>exact step (s':=.ptr id q p t) h0 h
   |rptr τ x=>exact step (s':=.rptr τ x) h0 h
   |_=>simp[capsOf] at h
theorem args_slots (hr:RelE X E σ a.tmps w) {args:List Operand}:∀ (i:Nat) s u,(args.map (opd σ))[i]?=some s->(args.map a.eval)[i]?=some u->SlotOk w (Fz X E σ w) E σ s u:=fun i s u h1 h2=>by
 rw[List.getElem?_map] at h1 h2
 cases hz:args[i]? with
 |none=>rw[hz] at h1;simp at h1
 |some z=>
  rw[hz] at h1 h2
  simp only[Ak,AE] at h1 h2
  subst h1;subst h2
  exact slot_opd hr z
theorem step_makeFunc (T:Tabs) {f:FuncId} {first caps:Array Operand} (ho:o.op= .makeFunc (.func f) first caps) {k:St->Option R} {r:R} (h:stepK T o σ k=some r) (hr:RelE X E σ a.tmps w):StepSlot P X E σ o a w (fun σ'=>k σ'=some r):=by
 simp only[stepK,ho] at h
 cases hc:capsOf ((first++caps).toList.map (opd σ)) with
 |none=>rw[hc] at h;simp at h
 |some l=>
  rw[hc] at h
  simp only at h
  obtain⟨h1,h2⟩:=capsOf_ok hc (us:=(first++caps).toList.map a.eval) (by simp) (args_slots hr)
  refine stepSlot_value (s:=.clo f first.size l) (v:=.func (.func f) (first.map a.eval) (caps.map a.eval)) (fun w1 _=>by simp[execOp,ho,Instr.makeFunc]) ⟨_,?_,h1,h2⟩ h
  unfold cloV
  simp
  exact⟨by rw[<-Bu],by rw[<-Bu]⟩
theorem step_extract (T:Tabs) {x:Operand} {i:Nat} (ho:o.op= .extract x i) {k:St->Option R} {r:R} (h:stepK T o σ k=some r) (hr:RelE X E σ a.tmps w):StepSlot P X E σ o a w (fun σ'=>k σ'=some r):=by
 simp only[stepK,ho] at h
 have hs:=slot_opd hr x
 revert h hs
 cases e:opd σ x with
 |tup l=>
  intro h hs
  obtain⟨vs,hv,hl,hall⟩:=hs
  cases hi:l[i]? with
  |none=>simp[hi] at h
  |some y=>
   simp only[hi] at h
   have hlt:i<vs.length:=by rw[hl];exact(A8.1 hi).1
   have hu:vs[i]?=some vs[i]:=AM hlt
   refine stepSlot_value (v:=vs[i]) (s:=.val y none) (fun w1 hx1=>?_) ((hall i y _ hi hu)) h
   simp[execOp,ho,hv,Instr.extract,hlt]
 |_=>intro h;simp at h
theorem run_part {n:Nat} {i:TypeId} {t:Ty} (h:tyB P n i t=true) {xs:Array Value} {off:Nat} {c:List Value} (hc:(xs.toList.drop off).take t.size=c) (hl:c.length=t.size):
  (part i xs off).run P w= .ok (toVal t c) w:=by
 unfold part
 simp only[A5,tyB_agg h,A3]
 by_cases ha:t.agg=true
 ·simp only[ha,if_true,A5,run_sizeOf_ty h,A3,A6,toVal]
  congr 2
  apply BG.1
  rw[Array.toList_extract,<-hc]
  simp
 ·have ha':t.agg=false:=by simpa using ha
  have h1:=tyB_scalar h ha'
  rw[h1] at hl hc
  match c,hl with
  |[v],_=>
   have:xs[off]?=some v:=by
    have h2:((xs.toList.drop off).take 1)[0]?=some v:=by rw[hc];rfl
    simpa using h2
   simp[ha',toVal,this]
theorem bytes_toList (l:List UInt8):(⟨l.toArray⟩:ByteArray).toList=l:=by rw[ByteArray.toList_eq]
theorem equal_ok {A:Nat->Prop}:∀ (n:Nat) {i:TypeId} {t:Ty} (_:tyB P n i t=true) (_:t.comparable=true) {x y:t.den} {m1 m2:List Nat} {c1 c2:List Value}
  (_:Rv w A E σ t x m1 c1) (_:Rv w A E σ t y m2 c2) (d:Nat),n<=d->(Op.equalIn d i (toVal t c1) (toVal t c2)).run P w= .ok (Ty.eqb t x y) w:=by
 intro n
 induction n with
 |zero=>intro i t h;simp[tyB] at h
 |succ n ih=>
  intro i t h hc x y m1 m2 c1 c2 hx hy d hd
  obtain⟨d,rfl⟩:∃e,d=e+1:=⟨d-1,by omega⟩
  have h2:=h
  simp only[tyB,A4] at h2
  have h1:=h2.2
  cases t with
  |int k=>
   have e1:c1=[.int k x]:=hx
   have e2:c2=[.int k y]:=hy
   subst e1;subst e2
   cases hu:P.underlying i with
   |none=>simp[hu] at h1
   |some q=>
    cases q<;>simp[hu] at h1
    rw[show toVal (.int k) [Value.int k x]= .int k x from rfl,show toVal (.int k) [Value.int k y]= .int k y from rfl,run_equalIn_int w d i k _ x y hu]
    rfl
  |bool=>
   have e1:c1=[.bool x]:=hx
   have e2:c2=[.bool y]:=hy
   subst e1;subst e2
   cases hu:P.underlying i with
   |none=>simp[hu] at h1
   |some q=>
    cases q<;>simp[hu] at h1
    rw[show toVal .bool [Value.bool x]= .bool x from rfl,show toVal .bool [Value.bool y]= .bool y from rfl,run_equalIn_bool' w d i x y hu]
    rfl
  |str=>
   have e1:c1=[.string ⟨B1 x⟩]:=hx
   have e2:c2=[.string ⟨B1 y⟩]:=hy
   subst e1;subst e2
   cases hu:P.underlying i with
   |none=>simp[hu] at h1
   |some q=>
    cases q<;>simp[hu] at h1
    rw[show toVal .str [Value.string ⟨B1 x⟩]= .string ⟨B1 x⟩ from rfl,show toVal .str [Value.string ⟨B1 y⟩]= .string ⟨B1 y⟩ from rfl,run_equalIn_string w d i _ _ hu,bytes_toList,bytes_toList]
    congr 1
    show(x==y)=decide ((x:List UInt8)=y)
    exact C1.2 (by simp)
  |unit=>cases hu:P.underlying i<;>simp[hu] at h1
  |pair a b=>cases hu:P.underlying i<;>simp[hu] at h1
  |arr m u=>simp[Ty.comparable] at hc
  |sl e u=>simp[Ty.comparable] at hc
  |st u=>
   cases hu:P.underlying i with
   |none=>simp[hu] at h1
   |some q=>
    cases q with
    |struct fs=>
     simp[hu] at h1
     have hfo:P.fieldsOf i=fs:=by simp[Program.fieldsOf,hu]
     show(Op.equalIn (d+1) i (.agg c1.toArray) (.agg c2.toArray)).run P w=_
     rw[run_equalIn_struct w d i _ _ (by rw[hfo];exact hu) h1.1,hfo]
     simp only[Ty.comparable] at hc
     have single:∀ {u:Ty},(∀a b,u≠ .pair a b)->u≠ .unit->∀ {fs:List Field} {off:Nat} {x y:u.den} {m1 m2:List Nat} {p1 p2 c1 c2:List Value},fieldsB (tyB P n) u fs off=true->u.comparable=true->
       Rv w A E σ u x m1 c1->Rv w A E σ u y m2 c2->p1.length=off->p2.length=off->(Op.eqFields d (p1++c1).toArray (p2++c2).toArray fs).run P w= .ok (Ty.eqb u x y) w:=by
      intro u hp hu fs off x y m1 m2 p1 p2 c1 c2 hf hc hx hy l1 l2
      match fs,hf with
      |[],hf=>cases u<;>simp_all [fieldsB]
      |_::_::_,hf=>cases u<;>simp_all [fieldsB]
      |[f],hf=>
       have h':f.offset=off/\f.name≠"_"/\tyB P n f.type u=true:=by
        cases u<;>simp_all [fieldsB]
       have q1:(part f.type (p1++c1).toArray f.offset).run P w= .ok (toVal u c1) w:=run_part h'.2.2 (by rw[h'.1,<-l1];simp[hx.length▸Bv]) hx.length
       have q2:(part f.type (p2++c2).toArray f.offset).run P w= .ok (toVal u c2) w:=run_part h'.2.2 (by rw[h'.1,<-l2];simp[hy.length▸Bv]) hy.length
       have q3:=ih h'.2.2 hc hx hy d (by omega)
       simp only[Op.eqFields,h'.2.1,ne_eq,not_false_eq_true,if_true,A5,q1,q2,q3,A3]
       cases Ty.eqb u x y<;>simp[Op.eqFields]
     have key:∀ {u:Ty} {fs:List Field} {off:Nat} {x y:u.den} {m1 m2:List Nat} {p1 p2 c1 c2:List Value},fieldsB (tyB P n) u fs off=true->u.comparable=true->
       Rv w A E σ u x m1 c1->Rv w A E σ u y m2 c2->p1.length=off->p2.length=off->(Op.eqFields d (p1++c1).toArray (p2++c2).toArray fs).run P w= .ok (Ty.eqb u x y) w:=by
      intro u
      induction u with
      |pair a b _ ihb=>
       intro fs off x y m1 m2 p1 p2 c1 c2 hf hc hx hy l1 l2
       cases fs with
       |nil=>simp[fieldsB] at hf
       |cons f r=>
        simp only[fieldsB,A4,beq_iff_eq,decide_eq_true_eq,bne_iff_ne] at hf
        simp only[Ty.comparable,A4] at hc
        obtain⟨x1,x2,rfl,hx1,hx2⟩:=hx
        obtain⟨y1,y2,rfl,hy1,hy2⟩:=hy
        have q1:(part f.type (p1++(x1++x2)).toArray f.offset).run P w= .ok (toVal a x1) w:=run_part hf.1.1.2 (by rw[hf.1.1.1.1,<-l1];simp only[Bo];rw[C5,As hx1.length]) hx1.length
        have q2:(part f.type (p2++(y1++y2)).toArray f.offset).run P w= .ok (toVal a y1) w:=run_part hf.1.1.2 (by rw[hf.1.1.1.1,<-l2];simp only[Bo];rw[C5,As hy1.length]) hy1.length
        have q3:=ih hf.1.1.2 hc.1 hx1 hy1 d (by omega)
        have q4:=ihb (p1:=p1++x1) (p2:=p2++y1) hf.2 hc.2 hx2 hy2 (by simp[l1,hx1.length]) (by simp[l2,hy1.length])
        rw[Ac,Ac] at q4
        simp only[Op.eqFields,hf.1.1.1.2,ne_eq,not_false_eq_true,if_true,A5,q1,q2,q3,A3,Ty.eqb]
        cases Ty.eqb a x.1 y.1<;>simp[q4]
      |unit=>
       intro fs off x y m1 m2 p1 p2 c1 c2 hf hc hx hy l1 l2
       cases fs with
       |nil=>simp[Op.eqFields,Ty.eqb]
       |cons f r=>simp[fieldsB] at hf
      |int k=>exact single (by simp) (by simp)
      |bool=>exact single (by simp) (by simp)
      |str=>exact single (by simp) (by simp)
      |st t _=>exact single (by simp) (by simp)
      |arr n t _=>exact single (by simp) (by simp)
      |sl e t _=>exact single (by simp) (by simp)
     exact key (u:=u) (x:=x) (y:=y) (p1:=[]) (p2:=[]) h1.2 hc hx hy rfl rfl
    |_=>simp[hu] at h1
end
end Go.Proofs.YtacbkfginiknaaaDoor.V
namespace Go.Proofs.YtacbkfginiknaaaDoor.V
open Go
section
variable {P:Program} {X:Ctx} {E:Env} {σ:St} {a:Act} {w:World} {o:Oper} {R:Type}
theorem guardK_some {b:Bool} {k:Option R} {r:R} (h:guardK b k=some r):b=true/\k=some r:=by
 cases b<;>simp[guardK] at h;exact⟨rfl,h⟩
def Plain (w:World) (t:Ty) (v:t.den) (u:Value):Prop:=∀A E σ,SlotOk w A E σ (.val ⟨t,v,[]⟩ none) u
theorem plain_int (k:IntKind) (n:Int):Plain w (.int k) n (.int k n):=fun _ _ _=>slot_int k n none
theorem plain_bool (b:Bool):Plain w .bool b (.bool b):=fun _ _ _=>slot_bool b none
theorem plain_str (s:List UInt8):Plain w .str s (.string ⟨s.toArray⟩):=fun _ _ _=>slot_str s none
theorem int_bin {op:BinOp} {k:IntKind} {x y:Int} {kk:(t:Ty)->t.den->Option R} {r:R} (xt:TypeId) (h:intBin op k x y kk=some r) (h1:op≠ .shl) (h2:op≠ .shr):
  ∃t v u,kk t v=some r/\(∀w:World,(binOp op xt (.int k x) (.int k y)).run P w= .ok u w)/\∀w:World,Plain w t v u:=by
 cases op<;>simp only[intBin] at h
 case add=>exact⟨_,_,_,h,fun _=>by simp[binOp,Op.intArith],fun _=>plain_int _ _⟩
 case sub=>exact⟨_,_,_,h,fun _=>by simp[binOp,Op.intArith],fun _=>plain_int _ _⟩
 case mul=>exact⟨_,_,_,h,fun _=>by simp[binOp,Op.intArith],fun _=>plain_int _ _⟩
 case quo=>
  obtain⟨hb,h⟩:=guardK_some h
  have hy:y≠0:=by simpa using hb
  exact⟨_,_,_,h,fun _=>by simp[binOp,Op.intDiv,hy],fun _=>plain_int _ _⟩
 case rem=>
  obtain⟨hb,h⟩:=guardK_some h
  have hy:y≠0:=by simpa using hb
  exact⟨_,_,_,h,fun _=>by simp[binOp,Op.intDiv,hy],fun _=>plain_int _ _⟩
 case and=>exact⟨_,_,_,h,fun _=>by simp[binOp,Op.intBits],fun _=>plain_int _ _⟩
 case or=>exact⟨_,_,_,h,fun _=>by simp[binOp,Op.intBits],fun _=>plain_int _ _⟩
 case xor=>exact⟨_,_,_,h,fun _=>by simp[binOp,Op.intBits],fun _=>plain_int _ _⟩
 case andNot=>exact⟨_,_,_,h,fun _=>by simp[binOp,Op.intBits],fun _=>plain_int _ _⟩
 case shl=>exact absurd rfl h1
 case shr=>exact absurd rfl h2
 case eql=>exact⟨_,_,_,h,fun _=>by simp[binOp,Op.intCmp];rfl,fun _=>plain_bool _⟩
 case neq=>exact⟨_,_,_,h,fun _=>by simp[binOp,Op.intCmp];rfl,fun _=>plain_bool _⟩
 case lss=>exact⟨_,_,_,h,fun _=>by simp[binOp,Op.intCmp],fun _=>plain_bool _⟩
 case leq=>exact⟨_,_,_,h,fun _=>by simp[binOp,Op.intCmp],fun _=>plain_bool _⟩
 case gtr=>exact⟨_,_,_,h,fun _=>by simp[binOp,Op.intCmp],fun _=>plain_bool _⟩
 case geq=>exact⟨_,_,_,h,fun _=>by simp[binOp,Op.intCmp],fun _=>plain_bool _⟩
theorem sh_bin {op:BinOp} {k k':IntKind} {x y:Int} {kk:(t:Ty)->t.den->Option R} {r:R} (xt:TypeId) (h:shBin op k x y kk=some r):
  ∃t v u,kk t v=some r/\(∀w:World,(binOp op xt (.int k x) (.int k' y)).run P w= .ok u w)/\∀w:World,Plain w t v u:=by
 unfold shBin at h
 obtain⟨hb,h⟩:=guardK_some h
 have hy:¬y<0:=by
  have:0<=y:=by simpa using hb
  omega
 cases op<;>simp only at h<;>first|cases h|skip
 case shl=>exact⟨_,_,_,h,fun _=>by simp[binOp,Op.shift,hy],fun _=>plain_int _ _⟩
 case shr=>exact⟨_,_,_,h,fun _=>by simp[binOp,Op.shift,hy],fun _=>plain_int _ _⟩
theorem bytes_append (x y:List UInt8):(⟨x.toArray⟩:ByteArray)++⟨y.toArray⟩=⟨(x++y).toArray⟩:=by
 apply ByteArray.ext
 simp
theorem str_bin {op:BinOp} {x y:List UInt8} {kk:(t:Ty)->t.den->Option R} {r:R} (xt:TypeId) (h:strBin op x y kk=some r):
  ∃t v u,kk t v=some r/\(∀w:World,(binOp op xt (.string ⟨x.toArray⟩) (.string ⟨y.toArray⟩)).run P w= .ok u w)/\∀w:World,Plain w t v u:=by
 have e1:(x==y)=decide (x=y):=C1.2 (by simp)
 cases op<;>simp only[strBin] at h<;>first|cases h|skip
 case add=>
  obtain⟨hb,h⟩:=guardK_some h
  have hl:x.length+y.length<=SLIM:=by simpa using hb
  refine⟨_,_,_,h,fun w=>?_,fun _=>plain_str _⟩
  have:¬ (((⟨x.toArray⟩:ByteArray).size+(⟨y.toArray⟩:ByteArray).size:Nat):Int)>CD.max:=by
   show ¬ ((x.toArray.size+y.toArray.size:Nat):Int)>CD.max
   simp only[Az,SLIM,IntKind.max_i64] at *
   omega
  simp only[binOp,Op.stringOp,if_neg this,A6,bytes_append]
 case eql=>exact⟨_,_,_,h,fun _=>by simp only[binOp,Op.stringOp,A6,bytes_toList,e1],fun _=>plain_bool _⟩
 case neq=>exact⟨_,_,_,h,fun _=>by simp only[binOp,Op.stringOp,A6,bytes_toList,e1],fun _=>plain_bool _⟩
 case lss=>exact⟨_,_,_,h,fun _=>by simp only[binOp,Op.stringOp,A6,bytes_toList],fun _=>plain_bool _⟩
 case leq=>exact⟨_,_,_,h,fun _=>by simp only[binOp,Op.stringOp,A6,bytes_toList,e1],fun _=>plain_bool _⟩
 case gtr=>exact⟨_,_,_,h,fun _=>by simp only[binOp,Op.stringOp,A6,bytes_toList,e1],fun _=>plain_bool _⟩
 case geq=>exact⟨_,_,_,h,fun _=>by simp only[binOp,Op.stringOp,A6,bytes_toList],fun _=>plain_bool _⟩
structure TabOk (P:Program) (T:TypeId->Option Ty):Prop where
 ty:TOk P T
 eq:∀i u,T i=some (.st u)->(Ty.st u).comparable=true->P.eqGuardType P.depth i=false
 small:∀i t n,T i=some t->tyB P n i t=true->∃m,m<=10000/\tyB P m i t=true
theorem run_eqGuard_scalar (op:BinOp) (t:TypeId) (x y:Operand) (u v:Value) (hu:u.oneCell'=true) (hn:u≠ .nilIface):(eqGuard op t x y u v).run P w= .ok () w:=by
 cases u<;>first|(simp[Value.oneCell'] at hu;done)|exact absurd rfl hn|(cases op<;>simp[eqGuard])
theorem plain_slot {A:Nat->Prop} {t:Ty} {v:t.den} {u:Value} (h:Plain w t v u):SlotOk w A E σ (.val ⟨t,v,[]⟩ none) u:=h _ _ _
theorem plain_put (hr:RelE X E σ a.tmps w) {t:Ty} {v:t.den} {u:Value} (h:Plain w t v u):RelE X E (σ.putv o.dst t v) (a.put o.dst u).tmps w:=hr.put o.dst (h _ _ _)
theorem tyB_kind {n:Nat} {i:TypeId} {t:Ty} (h:tyB P n i t=true):(∀a b,t≠ .pair a b)/\t≠ .unit:=by
 cases n with
 |zero=>simp[tyB] at h
 |succ n=>
  simp only[tyB,A4] at h
  have h1:=h.2
  cases t<;>simp at h1 ⊢
theorem toVal_scalar {A:Nat->Prop} {n:Nat} {i:TypeId} {t:Ty} (ht:tyB P n i t=true) {v:t.den} {ms:List Nat} {c:List Value} (h:Rv w A E σ t v ms c) (ha:t.agg=false):(toVal t c).oneCell'=true/\toVal t c≠ .nilIface:=by
 have hk:=tyB_kind ht
 cases t with
 |int k=>have e:c=[.int k v]:=h;subst e;exact⟨rfl,by simp[toVal,Ty.agg]⟩
 |bool=>have e:c=[.bool v]:=h;subst e;exact⟨rfl,by simp[toVal,Ty.agg]⟩
 |str=>have e:c=[.string ⟨B1 v⟩]:=h;subst e;exact⟨rfl,by simp[toVal,Ty.agg]⟩
 |unit=>exact absurd rfl hk.2
 |pair p q=>exact absurd rfl (hk.1 p q)
 |st t=>simp[Ty.agg] at ha
 |arr n t=>simp[Ty.agg] at ha
 |sl e t=>obtain⟨c,rfl,_,ad,cap,rfl,_⟩:=h;exact⟨rfl,by simp[toVal,Ty.agg]⟩
def BoolAgg (u:Value):Prop:=(∃b,u= .bool b)\/∃c,u= .agg c
theorem binOp_eql (t:TypeId) (u v:Value) (h:BoolAgg u):binOp .eql t u v=(do pure (.bool (<-Op.equal t u v))):=by
 rcases h with⟨b,rfl⟩|⟨c,rfl⟩<;>cases v<;>rfl
theorem binOp_neq (t:TypeId) (u v:Value) (h:BoolAgg u):binOp .neq t u v=(do pure (.bool (!(<-Op.equal t u v)))):=by
 rcases h with⟨b,rfl⟩|⟨c,rfl⟩<;>cases v<;>rfl
theorem rv_world {A:Nat->Prop} {w1:World}:∀ {t:Ty} {v:t.den} {ms:List Nat} {cs:List Value},t.comparable=true->Rv w A E σ t v ms cs->Rv w1 A E σ t v ms cs:=by
 intro t
 induction t with
 |pair a b iha ihb=>
  intro v ms cs hc h
  simp only[Ty.comparable,A4] at hc
  obtain⟨c1,c2,e,h1,h2⟩:=h
  exact⟨c1,c2,e,iha hc.1 h1,ihb hc.2 h2⟩
 |st t ih=>intro v ms cs hc h;exact ih (by simpa[Ty.comparable] using hc) h
 |arr n t _=>intro v ms cs hc;simp[Ty.comparable] at hc
 |sl e t _=>intro v ms cs hc;simp[Ty.comparable] at hc
 |_=>intro v ms cs _ h;exact h
theorem step_binOp (T:Tabs) (hT:TabOk P T.T) {op:BinOp} {tt yt:TypeId} {x y:Operand} (ho:o.op= .binOp op tt x y yt) {k:St->Option R} {r:R} (h:stepK T o σ k=some r) (hr:RelE X E σ a.tmps w):StepSlot P X E σ o a w (fun σ'=>k σ'=some r):=by
 simp only[stepK,ho] at h
 have fin:∀ {t:Ty} {v:t.den} {u:Value},k (σ.putv o.dst t v)=some r->(∀w:World,(eqGuard op tt x y (a.eval x) (a.eval y)).run P w= .ok () w)->(∀w:World,(binOp op tt (a.eval x) (a.eval y)).run P w= .ok u w)->(∀w:World,Plain w t v u)->StepSlot P X E σ o a w (fun σ'=>k σ'=some r):=by
  intro t v u hk hg hb hp
  refine stepSlot_value (v:=u) (fun w1 hx1=>?_) (plain_slot (hp w)) hk
  simp only[execOp,ho,A5,hg,hb,A3,A6]
 unfold binK at h
 split at h
 ·rename_i k1 a1 m1 h1 k2 a2 m2 h2 e1 e2
  have v1:=val_int (slot_of_opd hr e1)
  have v2:=val_int (slot_of_opd hr e2)
  have hg:∀w:World,(eqGuard op tt x y (a.eval x) (a.eval y)).run P w= .ok () w:=fun w=>run_eqGuard_scalar op tt x y _ _ (by rw[v1];rfl) (by rw[v1];simp)
  split at h
  ·obtain⟨t,v,u,h3,h4,h5⟩:=sh_bin (P:=P) (k':=k2) tt h
   exact fin h3 hg (fun w=>by rw[v1,v2];exact h4 w) h5
  ·obtain⟨t,v,u,h3,h4,h5⟩:=sh_bin (P:=P) (k':=k2) tt h
   exact fin h3 hg (fun w=>by rw[v1,v2];exact h4 w) h5
  ·rename_i hs1 hs2
   cases hk:(k1==k2) with
   |false=>rw[hk] at h;cases h
   |true=>
    rw[hk,cond_true] at h
    have:k1=k2:=by simpa using hk
    subst this
    obtain⟨t,v,u,h3,h4,h5⟩:=int_bin (P:=P) tt h (by intro e;exact hs1 e) (by intro e;exact hs2 e)
    exact fin h3 hg (fun w=>by rw[v1,v2];exact h4 w) h5
 ·rename_i s1 m1 h1 s2 m2 h2 e1 e2
  have v1:=val_str (slot_of_opd hr e1)
  have v2:=val_str (slot_of_opd hr e2)
  have hg:∀w:World,(eqGuard op tt x y (a.eval x) (a.eval y)).run P w= .ok () w:=fun w=>run_eqGuard_scalar op tt x y _ _ (by rw[v1];rfl) (by rw[v1];simp)
  obtain⟨t,v,u,h3,h4,h5⟩:=str_bin (P:=P) tt h
  exact fin h3 hg (fun w=>by rw[v1,v2];exact h4 w) h5
 ·rename_i x' h1 y' h2 n1 n2 e1 e2
  cases hTt:T.T tt with
  |none=>simp[hTt] at h
  |some t=>
   simp only[hTt] at h
   cases hc1:cast? t x' with
   |none=>simp[hc1] at h
   |some p1=>
    cases hc2:cast? t y' with
    |none=>simp[hc1,hc2] at h
    |some p2=>
     obtain⟨v1,m1⟩:=p1
     obtain⟨v2,m2⟩:=p2
     simp only[hc1,hc2] at h
     have q1:=cast?_some hc1
     have q2:=cast?_some hc2
     subst q1;subst q2
     cases hcmp:t.comparable with
     |false=>rw[hcmp] at h;cases h
     |true=>
      rw[hcmp] at h
      simp only[cond_true] at h
      obtain⟨c1,r1,e3,_⟩:=slot_of_opd hr e1
      obtain⟨c2,r2,e4,_⟩:=slot_of_opd hr e2
      obtain⟨n0,ht0⟩:=hT.ty tt t hTt
      obtain⟨n,hn,ht⟩:=hT.small tt t n0 hTt ht0
      have heq:∀w1:World,(Op.equal tt (a.eval x) (a.eval y)).run P w1= .ok (Ty.eqb t v1 v2) w1:=by
       intro w1
       rw[e3,e4]
       exact equal_ok n ht hcmp (rv_world hcmp r1) (rv_world hcmp r2) 10000 hn
      have hg:∀w1:World,(eqGuard op tt x y (a.eval x) (a.eval y)).run P w1= .ok () w1:=by
       intro w1
       by_cases ha:t.agg=true
       ·cases t with
        |st u=>rw[e3,e4];exact run_eqGuard_agg w1 op tt x y _ _ (hT.eq tt u hTt hcmp)
        |arr n t=>simp[Ty.comparable] at hcmp
        |_=>simp[Ty.agg] at ha
       ·have:=toVal_scalar ht r1 (by simpa using ha)
        exact run_eqGuard_scalar op tt x y _ _ (by rw[e3];exact this.1) (by rw[e3];exact this.2)
      have hba:BoolAgg (a.eval x):=by
       rw[e3]
       cases t with
       |bool=>have e5:c1=[.bool v1]:=r1;subst e5;exact .inl ⟨v1,rfl⟩
       |st u=>exact .inr ⟨_,rfl⟩
       |arr n u=>exact .inr ⟨_,rfl⟩
       |int k=>exact(n1 _ _ _ _ _ _ rfl rfl).elim
       |str=>exact(n2 _ _ _ _ rfl rfl).elim
       |sl e u=>simp[Ty.comparable] at hcmp
       |unit=>exact absurd rfl (tyB_kind ht).2
       |pair p q=>exact absurd rfl ((tyB_kind ht).1 p q)
      split at h
      ·exact fin (u:=.bool (Ty.eqb t v1 v2)) h hg (fun w=>by rw[binOp_eql tt _ _ hba];simp[heq]) (fun _=>plain_bool _)
      ·exact fin (u:=.bool (!Ty.eqb t v1 v2)) h hg (fun w=>by rw[binOp_neq tt _ _ hba];simp[heq]) (fun _=>plain_bool _)
      ·cases h
 ·cases h
theorem step_unOp (T:Tabs) {op:UnOp} {tt:TypeId} {x:Operand} (ho:o.op= .unOp op tt x) {k:St->Option R} {r:R} (h:stepK T o σ k=some r) (hr:RelE X E σ a.tmps w):StepSlot P X E σ o a w (fun σ'=>k σ'=some r):=by
 simp only[stepK,ho] at h
 unfold unK at h
 split at h
 ·rename_i b m hh e1
  have v1:=val_bool (slot_of_opd hr e1)
  exact stepSlot_value (v:=.bool (!b)) (fun w1 _=>by simp[execOp,ho,v1,Op.unary]) (plain_slot (plain_bool _)) h
 ·rename_i q n m hh e1
  have v1:=val_int (slot_of_opd hr e1)
  exact stepSlot_value (v:=.int q (q.wrap (0-n))) (fun w1 _=>by simp[execOp,ho,v1,Op.unary,Op.intArith]) (plain_slot (plain_int _ _)) h
 ·rename_i q n m hh e1
  have v1:=val_int (slot_of_opd hr e1)
  exact stepSlot_value (v:=.int q (q.wrap (AU q.bits (if q.signed then -1 else q.max)^^^AU q.bits n).toNat)) (fun w1 _=>by simp[execOp,ho,v1,Op.unary,Op.intBits]) (plain_slot (plain_int _ _)) h
 ·cases h
end
end Go.Proofs.YtacbkfginiknaaaDoor.V
namespace Go.Proofs.YtacbkfginiknaaaDoor.V
open Go
section
variable {P:Program} {X:Ctx} {E:Env} {σ:St} {a:Act} {w:World} {o:Oper} {R:Type}
theorem At.ext {w1:World} {b f:Nat} {cs:List Value} (h:At w b f cs) (hx:Ext w w1):At w1 b f cs:=by
 intro j v hv
 have h1:=h j v hv
 have hb:b<w.heap.size:=by
  unfold CC at h1
  split at h1
  ·rename_i hh;exact(Array.getElem?_eq_some_iff.1 hh).1
  ·cases h1
 exact(cell_of_heap (hx.block b hb)).trans h1
theorem us_iff {τ:Nat}:σ.us τ=true↔τ=0\/τ=1\/τ∈σ.al\/τ∈σ.fz:=by
 simp[St.us,or_assoc]
theorem ownsAt {e:TypeId} {size n g cap:Nat} {css:List Value} (h:w.ownsRow 0 e size (.slice (some ⟨g,0,none⟩) n cap) n css):At w g 0 css:=by
 intro j v hv
 have:=h.cells (g:=g) rfl j v hv
 rwa [add_addr] at this
theorem rootTok_hd {ln:List (Nat×Nat)} (h:∀p∈ln,E.hd p.1=E.hd p.2) (τ:Nat):E.hd (rootTok ln τ)=E.hd τ:=by
 induction ln generalizing τ with
 |nil=>rfl
 |cons p r ih=>
  obtain⟨x,y⟩:=p
  have ih':=ih (fun q hq=>h q (AL _ hq))
  simp only[rootTok]
  cases hx:(x==τ) with
  |true=>
   have:x=τ:=by simpa using hx
   subst this
   simp only[cond_true,ih']
   exact(h (x,y) (by simp)).symm
  |false=>simp only[cond_false,ih']
theorem RelE.z (hr:RelE X E σ a.tmps w):0∉σ.al:=fun h=>by have:=(hr.alr 0 h).1;omega
theorem root_ok (hr:RelE X E σ a.tmps w) {root:Root} {y:Val} (h:σ.root root=some y):∃cs,Rv w (Fz X E σ w) E σ y.t y.v y.ms cs/\y.ms.length=y.t.nl:=by
 cases root with
 |tmp i=>
  simp only[St.root] at h
  have hs:=slot_opd hr (.tmp i)
  simp only[opd] at hs
  revert h hs
  generalize σ.fr.getD i .no=s
  intro h hs
  cases s with
  |val x hm=>simp at h;subst h;obtain⟨cs,h1,_,h3⟩:=hs;exact⟨cs,h1,h3⟩
  |_=>simp at h
 |bx id=>
  simp only[St.root] at h
  obtain⟨cs,c,e,h1,h2,_⟩:=hr.bx _ (find_mem h)
  exact⟨cs,h1,h2⟩
theorem leaf_row {e:TypeId} {t:Ty} {τ:Nat} {xs:List t.den} {c:Value} (hr:RelE X E σ a.tmps w) (h:Leaf w (Fz X E σ w) E σ e t τ xs c) (hu:σ.us τ=true):
  ∃ad cap css,c= .slice ad xs.length cap/\css.length=xs.length*t.size/\(∀ (i:Nat) (x:t.den),xs[i]?=some x->Rf w (Fz X E σ w) t x (seg css t.size i))/\
   (css≠[]->∃b o,ad=some ⟨b,o,none⟩/\At w b o css/\(τ∉σ.al->Fz X E σ w b)/\(2<=τ->o=0/\E.hd τ=some b))/\xs.length<=cap:=by
 obtain⟨hlt,ad,cap,rfl,hf,h1,hh,ho⟩:=h
 have hfz:frz σ τ->τ∉σ.al:=fun hz hal=>by
  have:=hr.alr τ hal
  rcases hz with h|h
  ·omega
  ·exact this.2.2 h
 have two:∀b o,ad=some ⟨b,o,none⟩->2<=τ->o=0/\E.hd τ=some b:=by
  intro b o he h2
  have:=hh h2
  rw[he] at this
  cases hd:E.hd τ with
  |none=>rw[hd] at this;simp at this
  |some g=>rw[hd] at this;simp at this;exact⟨this.2,by rw[this.1]⟩
 rcases us_iff.1 hu with h|h|h|h
 ·obtain⟨ad',cap',css,e1,e2,e3,e4,e5⟩:=hf (.inl h)
  simp only[Ba,Value.slice.injEq,and_true,true_and] at e1
  obtain⟨rfl,rfl⟩:=e1
  exact⟨ad,cap,css,rfl,e2,e3,fun hn=>by
   obtain⟨b,o,q1,q2,q3⟩:=e4 hn
   exact⟨b,o,q1,q3,fun _=>q2,two b o q1⟩,e5⟩
 ·obtain⟨rfl,rfl,hx⟩:=h1 h
  subst hx
  exact⟨none,0,[],rfl,by simp,fun i x hx=>by simp at hx,fun h=>absurd rfl h,by simp⟩
 ·obtain⟨css,hown,hrs⟩:=ho h
  refine⟨ad,cap,css,rfl,hown.1,hrs,fun hn=>?_,ownsRow_cap hown⟩
  have hE:=hh (hr.alr τ h).1
  rcases hown.2 with⟨e1,e2⟩|⟨g,cap',cur,e1,_⟩
  ·have:css=[]:=AP (by rw[hown.1,e2,BU])
   exact absurd this hn
  ·simp only[Value.slice.injEq] at e1
   obtain⟨rfl,_,rfl⟩:=e1
   exact⟨g,0,rfl,ownsAt hown,fun hn=>absurd h hn,two g 0 rfl⟩
 ·obtain⟨ad',cap',css,e1,e2,e3,e4,e5⟩:=hf (.inr h)
  simp only[Ba,Value.slice.injEq,and_true,true_and] at e1
  obtain⟨rfl,rfl⟩:=e1
  exact⟨ad,cap,css,rfl,e2,e3,fun hn=>by
   obtain⟨b,o,q1,q2,q3⟩:=e4 hn
   exact⟨b,o,q1,q3,fun _=>q2,two b o q1⟩,e5⟩
theorem read_ok (hr:RelE X E σ a.tmps w) {s:Slot} {v:Value} (hs:SlotOk w (Fz X E σ w) E σ s v) {k:Val->Option Home->Option R} {r:R} (h:readK σ s k=some r):
  ∃x hm b o cs,k x hm=some r/\v= .pointer (some ⟨b,o,none⟩)/\Rv w (Fz X E σ w) E σ x.t x.v x.ms cs/\x.ms.length=x.t.nl/\At w b o cs:=by
 have hnt:0<σ.nt:=by have:=hr.nt2;omega
 cases s with
 |ptr id r' p t=>
  simp only[readK] at h
  cases hf:σ.find id with
  |none=>simp[hf] at h
  |some y=>
   simp only[hf] at h
   cases hb:Ty.beq y.t r' with
   |false=>simp[hb] at h
   |true=>
    rw[hb] at h
    simp only[cond_true] at h
    have e:=Ty.eq_of_beq hb
    obtain⟨_,b,o,hv,ha⟩:=hs
    obtain⟨cs,c,e',h1,h2,h3,h4,h5⟩:=hr.bx _ (find_mem hf)
    dsimp only at h1 h2 h3 h4 h5
    obtain⟨x,d,q1,q2,q3,q4,q5⟩:=get_ok hnt hr.z h h1 h2
    have q6:=q5 (E.ad id).1 (E.ad id).2
    rw[e,ha] at q6
    simp only[AE,Ao] at q6
    obtain⟨q7,q8,q9⟩:=q6
    refine⟨x,_,b,o,_,q1,hv,q2,q3,?_⟩
    rw[q8,q9]
    exact h5.part
 |eptr hm τ i u p t=>
  simp only[readK,rowK] at h
  cases hy:σ.root hm.root with
  |none=>simp[hy] at h
  |some y=>
   simp only[hy] at h
   obtain⟨cs,h1,h2⟩:=root_ok hr hy
   obtain⟨z,d,q1,q2,q3,q4,_⟩:=get_ok hnt hr.z h h1 h2
   obtain⟨zt,zv,zm⟩:=z
   cases zt with
   |sl e u'=>
    simp only at q1
    cases hc:σ.us (zm.headD 0)&&(rootTok σ.ln (zm.headD 0)==rootTok σ.ln τ)&&Ty.beq u' u with
    |false=>rw[hc] at q1;simp at q1
    |true=>
     rw[hc] at q1
     simp only[cond_true] at q1
     simp only[A4,beq_iff_eq] at hc
     obtain⟨⟨hu,hroot⟩,hbeq⟩:=hc
     have e':=Ty.eq_of_beq hbeq
     subst e'
     cases hx:(zv:List u'.den)[i]? with
     |none=>rw[hx] at q1;simp at q1
     |some x=>
      rw[hx] at q1
      simp only[BI] at q1
      obtain⟨⟨h20,h21⟩,g,b,o,hg,hv,ha⟩:=hs
      obtain⟨c,ec,hleaf⟩:=q2
      have hhd:E.hd (zm.headD 0)=some g:=by
       rw[<-rootTok_hd hr.lnr (zm.headD 0),hroot,rootTok_hd hr.lnr τ,hg]
      have h2':2<=zm.headD 0:=by
       rcases Nat.lt_or_ge (zm.headD 0) 2 with hlt|hge
       ·rw[hr.hd0 _ hlt] at hhd;cases hhd
       ·exact hge
      obtain⟨ad,cap,css,_,hl,hrs,hne,_⟩:=leaf_row hr hleaf hu
      have hi:i<(zv:List u'.den).length:=(A8.1 hx).1
      have hrf:=hrs i x hx
      have hlen:=hrf.length
      obtain⟨y2,d2,w1,w2,w3,w4,w5⟩:=get_ok hnt hr.z q1 (rv_of_rf hnt hr.z hrf) (by simp)
      have w6:=w5 g (i*u'.size)
      rw[ha] at w6
      simp only[AE,Ao] at w6
      obtain⟨w7,w8,w9⟩:=w6
      refine⟨y2,none,b,o,_,w1,hv,w2,w3,?_⟩
      by_cases hn:css=[]
      ·subst hn
       have e0:seg ([]:List Value) u'.size i=[]:=by simp[V.seg]
       rw[e0]
       intro j q hq
       simp at hq
      ·obtain⟨b',o',_,hat,_,h2e⟩:=hne hn
       obtain⟨rfl,hh⟩:=h2e h2'
       rw[hhd] at hh
       injection hh with hh
       subst hh
       rw[w8,w9]
       have:=(hat.seg (i:=i) (n:=u'.size)).part (d:=d2) (n:=y2.t.size)
       rwa [B0] at this
   |_=>simp at q1
 |rptr τ x=>
  simp only[readK] at h
  cases hc:σ.us τ&& !(τ==1) with
  |false=>rw[hc] at h;simp at h
  |true=>
   rw[hc] at h
   simp only[cond_true] at h
   simp only[A4,BD,beq_eq_false_iff_ne,ne_eq] at hc
   obtain⟨_,b,o,hv,hall⟩:=hs
   have:frz σ τ\/τ∈σ.al:=by
    rcases us_iff.1 hc.1 with h|h|h|h
    ·exact .inl (.inl h)
    ·exact absurd h hc.2
    ·exact .inr h
    ·exact .inl (.inr h)
   obtain⟨cs,r1,r2,r3,_⟩:=hall this
   exact⟨x,none,b,o,cs,h,hv,r1,r2,r3⟩
 |_=>simp[readK] at h
theorem step_load (T:Tabs) (hT:TabOk P T.T) {t:TypeId} {x:Operand} (ho:o.op= .load t x) {k:St->Option R} {r:R} (h:stepK T o σ k=some r) (hr:RelE X E σ a.tmps w):StepSlot P X E σ o a w (fun σ'=>k σ'=some r):=by
 simp only[stepK,ho] at h
 cases hTt:T.T t with
 |none=>simp[hTt] at h
 |some tt=>
  simp only[hTt] at h
  obtain⟨y,hm,b,f,cs,h1,hv,h2,h3,h4⟩:=read_ok hr (slot_opd hr x) h
  cases hb:Ty.beq y.t tt with
  |false=>rw[hb] at h1;simp at h1
  |true=>
   rw[hb] at h1
   simp only[cond_true] at h1
   have e:=Ty.eq_of_beq hb
   subst e
   obtain⟨n,ht⟩:=hT.ty t _ hTt
   refine stepSlot_value (v:=toVal y.t cs) (s:=.val y hm) (fun w1 hx1=>?_) (⟨cs,h2,rfl,h3⟩) h1
   simp only[execOp,ho,hv,A5,run_loadAt_ty ht h2.length (h4.ext hx1),A3,A6]
theorem RelE.newBox {A0:Array Value} (hr:RelE X E σ A0 w) {t:Ty} {v:t.den} {ms:List Nat} {cs:List Value} (e:TypeId) (hv:Rv w (Fz X E σ w) E σ t v ms cs) (hms:ms.length=t.nl):
  ∃E',RelE X E' {σ with bx:=⟨σ.nt,⟨t,v,ms⟩⟩::σ.bx,nt:=σ.nt+1} A0 (w.alloc (.cells cs.toArray e))/\
   SlotOk (w.alloc (.cells cs.toArray e)) (Fz X E' {σ with bx:=⟨σ.nt,⟨t,v,ms⟩⟩::σ.bx,nt:=σ.nt+1} (w.alloc (.cells cs.toArray e))) E' {σ with bx:=⟨σ.nt,⟨t,v,ms⟩⟩::σ.bx,nt:=σ.nt+1} (.ptr σ.nt t [] t) (.pointer (some ⟨w.heap.size,0,none⟩)):=by
 let E':Env:=⟨fun i=>if i=σ.nt then(w.heap.size,0) else E.ad i,E.hd,E.out,E.pin⟩
 let σ':St:={σ with bx:=⟨σ.nt,⟨t,v,ms⟩⟩::σ.bx,nt:=σ.nt+1}
 have hx:=Ext.alloc w (.cells cs.toArray e)
 have hE:∀b∈σ.bx,E'.ad b.id=E.ad b.id:=fun b hb=>if_neg (BX (hr.idlt b hb))
 have hEn:E'.ad σ.nt=(w.heap.size,0):=if_pos rfl
 have hown:owned E' σ'=w.heap.size::owned E σ:=by
  show(E'.ad σ.nt).1::(σ.bx.map (fun b=>(E'.ad b.id).1))++_=_
  rw[hEn,Bp (fun b hb=>by rw[hE b hb])]
  rfl
 have hn:w.heap.size∉owned E σ:=fun h=>C9 _ (hr.lt _ h).1
 have K:Keep w (w.alloc (.cells cs.toArray e)) (Fz X E σ w) (Fz X E' σ' (w.alloc (.cells cs.toArray e))) E E' σ σ':=
  ⟨fun b hb=>⟨⟨hb.1,AB hb.2.1 hx.size,by
    rw[hown];intro h
    rcases AD.1 h with h|h
    ·have:=hb.2.1;omega
    ·exact hb.2.2 h⟩,hx.block b hb.2.1⟩,
   CE _,fun _ _=>rfl,fun i hi=>if_neg (BX hi),fun _ _ h=>.inl h,
   fun τ _ hτ=>⟨hτ,fun b hb=>hx.block b (hr.lt b (mem_owned_al hτ hb)).1⟩,hr.ge,fun b hb=>⟨hb,hx.block b (hr.pinlt b hb).1⟩⟩
 refine⟨E',{hr with
  slot:=fun i s u hs hu=>K.slot (hr.slot i s u hs hu)
  bx:=fun b hb=>?_
  nodup:=by rw[hown];exact Aj.2 ⟨hn,hr.nodup⟩
  lt:=fun b hb=>?_
  ids:=?_
  idlt:=fun b hb=>?_
  alr:=fun τ hτ=>⟨(hr.alr τ hτ).1,AO (hr.alr τ hτ).2.1,(hr.alr τ hτ).2.2⟩
  fzr:=fun τ hτ=>⟨(hr.fzr τ hτ).1,AO (hr.fzr τ hτ).2⟩
  nt2:=Bt hr.nt2
  lnlt:=fun p hp=>⟨AO (hr.lnlt p hp).1,AO (hr.lnlt p hp).2⟩
  fr:=hr.fr.ext hx
  srcb:=fun b hb=>?_
  adx:=fun e he=>⟨AO (hr.adx e he).1,(if_neg (BX (hr.adx e he).1)).trans (hr.adx e he).2⟩
  hdx:=fun e he=>⟨AO (hr.hdx e he).1,(hr.hdx e he).2⟩
  pinlt:=fun b hb=>⟨AB (hr.pinlt b hb).1 hx.size,by
   rw[hown];intro h
   rcases AD.1 h with h|h
   ·have:=(hr.pinlt b hb).1;omega
   ·exact(hr.pinlt b hb).2 h⟩},An _,w.heap.size,0,rfl,by rw[hEn];simp[addr]⟩
 ·rcases AD.1 hb with rfl|hb
  ·refine⟨cs,cs.toArray,e,K.rv hv,hms,by rw[hEn];exact heap_alloc_new w _,by rw[hEn];simp,?_⟩
   rw[hEn]
   intro j u hu
   show(w.alloc (.cells cs.toArray e)).cell? ⟨w.heap.size,0+j,none⟩=some u
   rw[B0,World.cell?_alloc_new]
   simpa using hu
  ·exact K.bx (hr.bx b hb) (hr.idlt b hb) (hx.block _ (hr.lt _ (mem_owned_bx hb)).1)
 ·rw[hown] at hb
  rcases AD.1 hb with rfl|hb
  ·exact⟨by simp,hr.new _ hr.fr.size⟩
  ·exact⟨AB (hr.lt b hb).1 hx.size,(hr.lt b hb).2⟩
 ·show(σ.nt::σ.bx.map (·.id)).Nodup
  refine Aj.2 ⟨fun h=>?_,hr.ids⟩
  obtain⟨b,hb,he⟩:=Am.1 h
  have:=hr.idlt b hb
  omega
 ·rcases AD.1 hb with rfl|hb
  ·exact An _
  ·exact AO (hr.idlt b hb)
 ·rcases AD.1 hb with rfl|hb
  ·right;rw[hEn];exact hr.fr.size
  ·rw[hE b hb];exact hr.srcb b hb
theorem step_alloc (T:Tabs) (hT:TabOk P T.T) {e:TypeId} (ho:o.op= .alloc e) {k:St->Option R} {r:R} (h:stepK T o σ k=some r) (hr:RelE X E σ a.tmps w):StepOk P X T o a w (fun σ'=>k σ'=some r):=by
 simp only[stepK,ho] at h
 cases hTt:T.T e with
 |none=>simp[hTt] at h
 |some t=>
  simp only[hTt] at h
  obtain⟨n,ht⟩:=hT.ty e _ hTt
  obtain⟨z,hz,hzc⟩:=run_zeroValue_ty ht w
  obtain⟨E',h1,h2⟩:=hr.newBox e (rv_zero (w:=w) (A:=Fz X E σ w) (E:=E) hr.nt2 hr.no1.1 hr.no1.2 (tyB_ok ht)) (by simp)
  refine stepOk_value (v:=.pointer (some ⟨w.heap.size,0,none⟩)) (w':=w.alloc (.cells (zc t).toArray e)) ?_ ⟨E',h1.put o.dst h2⟩ h
  have hc:z.cells=(zc t).toArray:=by rw[<-hzc]
  simp only[execOp,ho,Instr.alloc,A5,hz,A3,newVar,newRow,hc,run_newObj,A6,C6]
theorem step_box (T:Tabs) (hT:TabOk P T.T) {e:TypeId} {x:Operand} (ho:o.op= .box e x) {k:St->Option R} {r:R} (h:stepK T o σ k=some r) (hr:RelE X E σ a.tmps w):StepOk P X T o a w (fun σ'=>k σ'=some r):=by
 simp only[stepK,ho] at h
 cases hTt:T.T e with
 |none=>simp[hTt] at h
 |some t=>
  simp only[hTt] at h
  cases hc:V.coe t (opd σ x) with
  |none=>simp[hc] at h
  |some p=>
   obtain⟨v,ms⟩:=p
   simp only[hc] at h
   obtain⟨cs,h1,h2,h3⟩:=hr.coe hc
   obtain⟨n,ht⟩:=hT.ty e _ hTt
   obtain⟨E',q1,q2⟩:=hr.newBox e h1 h3
   refine stepOk_value (v:=.pointer (some ⟨w.heap.size,0,none⟩)) (w':=w.alloc (.cells cs.toArray e)) ?_ ⟨E',q1.put o.dst q2⟩ h
   have hcl:(a.eval x).cells=cs.toArray:=by rw[h2];exact cells_toVal h1 (tyB_scalar ht)
   simp only[execOp,ho,Instr.box,A5,A3,newVar,newRow,hcl,run_newObj,A6,C6]
end
end Go.Proofs.YtacbkfginiknaaaDoor.V
namespace Go.Proofs.YtacbkfginiknaaaDoor.V
open Go
section
variable {P:Program} {X:Ctx} {E:Env} {σ:St} {A0:Array Value} {a:Act} {w:World} {o:Oper} {R:Type}
theorem owned_sub {σ σ':St} (h1:σ'.bx=σ.bx) (h2:σ'.al.Sublist σ.al):(owned E σ').Sublist (owned E σ):=by
 simp only[owned,h1]
 refine Ae.append (Ae.refl _) (Ae.append ?_ (Ae.refl _))
 generalize σ'.al=l at *
 generalize σ.al=m at *
 induction h2 with
 |slnil=>exact Ae.refl _
 |cons x _ ih=>exact Ae.trans ih (by simp only[BE];exact List.sublist_append_right _ _)
 |cons_cons x _ ih=>simp only[BE];exact Ae.append (Ae.refl _) ih
theorem not_owned_after {τ b:Nat} (hr:RelE X E σ A0 w) (ht:τ∈σ.al) (hb:E.hd τ=some b):b∉owned E {σ with al:=σ.al.erase τ}:=by
 intro h
 have hn:=hr.nodup
 have hp:σ.al.Perm (τ::σ.al.erase τ):=List.perm_cons_erase ht
 have hp2:(owned E σ).Perm (owned E {σ with al:=τ::σ.al.erase τ}):=C8.append_left _ (C8.append_right _ (C8.flatMap_right _ hp))
 have hn2:=hp2.nodup_iff.1 hn
 simp only[owned,BE,tokB,hb,BQ] at hn2 h
 rw[Ay] at hn2
 obtain⟨_,hn3,hn4⟩:=hn2
 rcases Aq.1 h with h|h
 ·exact hn4 b h b (by simp) rfl
 ·simp only[BH,Ar,Aj] at hn3
  exact hn3.1 h
theorem RelE.freeze1 (hr:RelE X E σ A0 w) {τ:Nat} (ht:τ∈σ.al):RelE X E {σ with al:=σ.al.erase τ,fz:=τ::σ.fz} A0 w:=by
 have hsub:(owned E {σ with al:=σ.al.erase τ,fz:=τ::σ.fz}).Sublist (owned E σ):=owned_sub rfl BR
 have hne:∀υ,υ∈σ.al.erase τ->υ≠τ:=fun υ hυ he=>by subst he;exact(hr.aln.mem_erase_iff.1 hυ).1 rfl
 have K:Keep w w (Fz X E σ w) (Fz X E {σ with al:=σ.al.erase τ,fz:=τ::σ.fz} w) E E σ {σ with al:=σ.al.erase τ,fz:=τ::σ.fz}:=
  ⟨fun b hb=>⟨⟨hb.1,hb.2.1,fun h=>hb.2.2 (hsub.subset h)⟩,rfl⟩,AQ _,fun _ _=>rfl,fun _ _=>rfl,
   fun υ _ hυ=>by
    rcases AD.1 hυ with h|h
    ·subst h
     exact .inr ⟨ht,fun b hb=>⟨⟨(hr.lt b (mem_owned_al ht hb)).2,(hr.lt b (mem_owned_al ht hb)).1,not_owned_after hr ht hb⟩,rfl⟩⟩
    ·exact .inl h,
   fun υ _ hυ=>⟨AR hυ,fun _ _=>rfl⟩,hr.ge,fun _ h=>⟨h,rfl⟩⟩
 exact {hr with
  slot:=fun i s u hs hu=>K.slot (hr.slot i s u hs hu)
  bx:=fun b hb=>K.bx (hr.bx b hb) (hr.idlt b hb) rfl
  nodup:=hsub.nodup hr.nodup
  lt:=fun b hb=>hr.lt b (hsub.subset hb)
  aln:=hr.aln.erase τ
  alr:=fun υ hυ=>⟨(hr.alr υ (AR hυ)).1,(hr.alr υ (AR hυ)).2.1,fun h=>by
   rcases AD.1 h with h|h
   ·exact hne υ hυ h
   ·exact(hr.alr υ (AR hυ)).2.2 h⟩
  fzr:=fun υ hυ=>by
   rcases AD.1 hυ with h|h
   ·subst h;exact⟨(hr.alr υ ht).1,(hr.alr υ ht).2.1⟩
   ·exact hr.fzr υ h
  srct:=fun υ hυ=>hr.srct υ (AR hυ)
  pinlt:=fun b hb=>⟨(hr.pinlt b hb).1,fun h=>(hr.pinlt b hb).2 (hsub.subset h)⟩}
theorem freeze_fr (σ:St) (l:List Nat):(σ.freeze l).fr=σ.fr/\(σ.freeze l).nt=σ.nt/\(σ.freeze l).bx=σ.bx:=by
 induction l generalizing σ with
 |nil=>exact⟨rfl,rfl,rfl⟩
 |cons τ r ih=>
  simp only[St.freeze]
  cases h:σ.al.contains τ with
  |true=>exact ih _
  |false=>exact ih _
theorem RelE.freeze (hr:RelE X E σ A0 w) (l:List Nat):RelE X E (σ.freeze l) A0 w:=by
 induction l generalizing σ with
 |nil=>exact hr
 |cons τ r ih=>
  simp only[St.freeze]
  cases h:σ.al.contains τ with
  |true=>exact ih (hr.freeze1 (by simpa using h))
  |false=>exact ih hr
theorem RelE.freezeK (hr:RelE X E σ A0 w) (l:List Nat):RelE X E (σ.freeze l) A0 w/\Keep w w (Fz X E σ w) (Fz X E (σ.freeze l) w) E E σ (σ.freeze l):=by
 have key:∀ (l:List Nat) (σ:St),(∀τ∈(σ.freeze l).al,τ∈σ.al)/\(∀τ∈(σ.freeze l).fz,τ∈σ.fz\/(τ∈σ.al/\(σ.al.Nodup->τ∉(σ.freeze l).al)))/\(σ.freeze l).al.Sublist σ.al/\(σ.freeze l).bx=σ.bx/\(σ.freeze l).nt=σ.nt:=by
  intro l
  induction l with
  |nil=>intro σ;exact⟨fun _ h=>h,fun _ h=>.inl h,Ae.refl _,rfl,rfl⟩
  |cons υ r ih=>
   intro σ
   simp only[St.freeze]
   cases h:σ.al.contains υ with
   |false=>exact ih σ
   |true=>
    simp only[cond_true]
    obtain⟨h1,h2,h3,h4,h5⟩:=ih {σ with al:=σ.al.erase υ,fz:=υ::σ.fz}
    refine⟨fun τ hτ=>AR (h1 τ hτ),fun τ hτ=>?_,h3.trans BR,h4,h5⟩
    rcases h2 τ hτ with h6|⟨h6,h7⟩
    ·rcases AD.1 h6 with h6|h6
     ·subst h6
      exact .inr ⟨by simpa using h,fun hn hal=>(hn.mem_erase_iff.1 (h1 _ hal)).1 rfl⟩
     ·exact .inl h6
    ·exact .inr ⟨AR h6,fun hn=>h7 (hn.erase υ)⟩
 obtain⟨k1,k2,k3,k4,k5⟩:=key l σ
 have hsub:=owned_sub (E:=E) k4 k3
 refine⟨hr.freeze l,⟨fun b hb=>⟨⟨hb.1,hb.2.1,fun h=>hb.2.2 (hsub.subset h)⟩,rfl⟩,by rw[k5];exact AQ _,fun _ _=>rfl,fun _ _=>rfl,fun τ _ hτ=>?_,fun τ _ hτ=>⟨k1 τ hτ,fun _ _=>rfl⟩,hr.ge,fun _ h=>⟨h,rfl⟩⟩⟩
 rcases k2 τ hτ with h|⟨h,hn⟩
 ·exact .inl h
 ·refine .inr ⟨h,fun b hb=>⟨⟨(hr.lt b (mem_owned_al h hb)).2,(hr.lt b (mem_owned_al h hb)).1,fun ho=>?_⟩,rfl⟩⟩
  refine not_owned_after hr h hb ((owned_sub (σ:={σ with al:=σ.al.erase τ}) (σ':=σ.freeze l) k4 ?_).subset ho)
  have h1:=k3.erase τ
  rwa [Bh (hn hr.aln)] at h1
theorem RelE.renew (hr:RelE X E σ A0 w) {w1:World} (τ:Nat) (ln':List (Nat×Nat)) (g:Option Nat) (hln:∀p∈ln',(p.1=σ.nt/\p.2=τ/\g=E.hd τ/\τ<σ.nt)\/(p∈σ.ln))
  (hw:∀b,b<w.heap.size->(τ∈σ.al->E.hd τ≠some b)->w1.heap[b]?=w.heap[b]?) (hfr:Fr X.M X.w0 w1) (hsz:w.heap.size<=w1.heap.size)
  (hg:∀b,g=some b->((τ∈σ.al/\E.hd τ=some b)\/w.heap.size<=b)/\b<w1.heap.size):
  RelE X (E.tok σ.nt g) {σ with al:=σ.nt::σ.al.erase τ,ln:=ln',nt:=σ.nt+1} A0 w1/\
   Keep w w1 (Fz X E σ w) (Fz X (E.tok σ.nt g) {σ with al:=σ.nt::σ.al.erase τ,ln:=ln',nt:=σ.nt+1} w1) E (E.tok σ.nt g) σ {σ with al:=σ.nt::σ.al.erase τ,ln:=ln',nt:=σ.nt+1}:=by
 let E1:Env:=E.tok σ.nt g
 let σ1:St:={σ with al:=σ.nt::σ.al.erase τ,ln:=ln',nt:=σ.nt+1}
 have hhd:∀υ,υ<σ.nt->E1.hd υ=E.hd υ:=fun υ h=>if_neg (BX h)
 have hhn:E1.hd σ.nt=g:=if_pos rfl
 have hmem:∀υ∈σ.al.erase τ,υ∈σ.al/\υ≠τ:=fun υ h=>⟨AR h,(hr.aln.mem_erase_iff.1 h).1⟩
 have hrest:(σ.al.erase τ).flatMap (tokB E1)=(σ.al.erase τ).flatMap (tokB E):=by
  simp only[List.flatMap]
  rw[Bp (fun υ hυ=>by show(E1.hd υ).toList=(E.hd υ).toList;rw[hhd υ (hr.alr υ (hmem υ hυ).1).2.1])]
  rfl
 have hown:owned E1 σ1=σ.bx.map (fun b=>(E.ad b.id).1)++(g.toList++((σ.al.erase τ).flatMap (tokB E)++E.out)):=by
  show _++((σ.nt::σ.al.erase τ).flatMap (tokB E1)++E.out)=_
  rw[BE,hrest]
  show _++((E1.hd σ.nt).toList++_++_)=_
  rw[hhn,Ac]
  rfl
 have hsub:(owned E {σ with al:=σ.al.erase τ}).Sublist (owned E σ):=owned_sub rfl BR
 have hin:∀b,b∈owned E1 σ1->g=some b\/b∈owned E {σ with al:=σ.al.erase τ}:=by
  intro b hb
  rw[hown] at hb
  rcases Aq.1 hb with h|h
  ·exact .inr (AS _ h)
  ·rcases Aq.1 h with h|h
   ·left;cases g with
    |none=>simp at h
    |some q=>simp at h;rw[h]
   ·exact .inr (Af _ h)
 have hgn:∀b,g=some b->b∉owned E {σ with al:=σ.al.erase τ}:=by
  intro b hb h
  rcases(hg b hb).1 with⟨h1,h2⟩|h1
  ·exact not_owned_after hr h1 h2 h
  ·have:=(hr.lt b (hsub.subset h)).1;omega
 have hkeep:∀b,b∈owned E {σ with al:=σ.al.erase τ}->w1.heap[b]?=w.heap[b]?:=fun b hb=>
  hw b (hr.lt b (hsub.subset hb)).1 (fun ht he=>not_owned_after hr ht he hb)
 have K:Keep w w1 (Fz X E σ w) (Fz X E1 σ1 w1) E E1 σ σ1:=
  ⟨fun b hb=>⟨⟨hb.1,AB hb.2.1 hsz,fun h=>by
    rcases hin b h with h|h
    ·rcases(hg b h).1 with⟨h1,h2⟩|h1
     ·exact hb.2.2 (mem_owned_al h1 h2)
     ·have:=hb.2.1;omega
    ·exact hb.2.2 (hsub.subset h)⟩,hw b hb.2.1 (fun ht he=>hb.2.2 (mem_owned_al ht he))⟩,
   CE _,hhd,fun _ _=>rfl,fun _ _ h=>.inl h,
   fun υ hlt hυ=>by
    rcases AD.1 hυ with h|h
    ·omega
    ·exact⟨(hmem υ h).1,fun b hb=>hkeep b (mem_owned_al (σ:={σ with al:=σ.al.erase τ}) h hb)⟩,hr.ge,fun b hb=>⟨hb,hw b (hr.pinlt b hb).1 (fun ht he=>(hr.pinlt b hb).2 (mem_owned_al ht he))⟩⟩
 refine⟨{hr with
  slot:=fun i s u hs hu=>K.slot (hr.slot i s u hs hu)
  bx:=fun b hb=>K.bx (hr.bx b hb) (hr.idlt b hb) (hkeep _ (mem_owned_bx (σ:={σ with al:=σ.al.erase τ}) hb))
  nodup:=?_
  lt:=fun b hb=>?_
  idlt:=fun b hb=>AO (hr.idlt b hb)
  aln:=Aj.2 ⟨fun h=>by have:=(hr.alr _ (hmem _ h).1).2.1;omega,hr.aln.erase τ⟩
  alr:=fun υ hυ=>?_
  fzr:=fun υ hυ=>⟨(hr.fzr υ hυ).1,AO (hr.fzr υ hυ).2⟩
  nt2:=Bt hr.nt2
  hd0:=fun υ hυ=>by rw[hhd υ (by have:=hr.nt2;omega)];exact hr.hd0 υ hυ
  fr:=hfr
  srct:=fun υ hυ b hb=>?_
  lnr:=fun p hp=>?_
  lnlt:=fun p hp=>?_
  adx:=fun e he=>⟨AO (hr.adx e he).1,(hr.adx e he).2⟩
  hdx:=fun e he=>⟨AO (hr.hdx e he).1,(hhd _ (hr.hdx e he).1).trans (hr.hdx e he).2⟩
  pinlt:=fun b hb=>⟨AB (hr.pinlt b hb).1 hsz,fun h=>by
   rcases hin b h with h|h
   ·rcases(hg b h).1 with⟨h1,h2⟩|h1
    ·exact(hr.pinlt b hb).2 (mem_owned_al h1 h2)
    ·have:=(hr.pinlt b hb).1;omega
   ·exact(hr.pinlt b hb).2 (hsub.subset h)⟩},K⟩
 ·rw[hown]
  have hn:(owned E {σ with al:=σ.al.erase τ}).Nodup:=hsub.nodup hr.nodup
  simp only[owned] at hn
  cases g with
  |none=>simpa using hn
  |some q=>
   have hq:=hgn q rfl
   simp only[owned] at hq
   rw[Ay] at hn ⊢
   refine⟨hn.1,?_,fun x hx y hy=>?_⟩
   ·simp only[BQ,BH,Ar,Aj]
    exact⟨fun h=>hq (Af _ h),hn.2.1⟩
   ·simp only[BQ,BH,Ar,AD] at hy
    rcases hy with rfl|hy
    ·exact fun e=>hq (AS _ (e▸hx))
    ·exact hn.2.2 x hx y hy
 ·rcases hin b hb with h|h
  ·refine⟨(hg b h).2,?_⟩
   rcases(hg b h).1 with⟨h1,h2⟩|h1
   ·exact(hr.lt b (mem_owned_al h1 h2)).2
   ·exact hr.new b (BM hr.fr.size h1)
  ·exact⟨AB (hr.lt b (hsub.subset h)).1 hsz,(hr.lt b (hsub.subset h)).2⟩
 ·rcases AD.1 hυ with rfl|h
  ·exact⟨hr.nt2,An _,fun h=>by have:=(hr.fzr _ h).2;omega⟩
  ·exact⟨(hr.alr υ (hmem υ h).1).1,AO (hr.alr υ (hmem υ h).1).2.1,(hr.alr υ (hmem υ h).1).2.2⟩
 ·rcases AD.1 hυ with rfl|h
  ·have hb':g=some b:=by rw[<-hhn];exact hb
   rcases(hg b hb').1 with⟨h1,h2⟩|h1
   ·exact hr.srct τ h1 b h2
   ·exact .inr (BM hr.fr.size h1)
  ·have hb':E.hd υ=some b:=by rw[<-hhd υ (hr.alr υ (hmem υ h).1).2.1];exact hb
   exact hr.srct υ (hmem υ h).1 b hb'
 ·rcases hln p hp with⟨h1,h2,h3,h4⟩|h
  ·show E1.hd p.1=E1.hd p.2
   rw[h1,h2,hhn,hhd τ h4,h3]
  ·show E1.hd p.1=E1.hd p.2
   rw[hhd _ (hr.lnlt p h).1,hhd _ (hr.lnlt p h).2]
   exact hr.lnr p h
 ·show p.1<σ.nt+1/\p.2<σ.nt+1
  rcases hln p hp with⟨h1,h2,h3,h4⟩|h
  ·omega
  ·have:=hr.lnlt p h;omega
end
end Go.Proofs.YtacbkfginiknaaaDoor.V
namespace Go.Proofs.YtacbkfginiknaaaDoor.V
open Go
section
variable {P:Program} {X:Ctx} {E:Env} {σ:St} {A0:Array Value} {a:Act} {w:World} {o:Oper} {R:Type}
def RootCells (w:World) (E:Env) (A0:Array Value) (root:Root) (t:Ty) (cs:List Value):Prop:=
 match root with
 | .tmp i=>A0[i]?=some (toVal t cs)
 | .bx id=>∃c e,w.heap[(E.ad id).1]?=some (.cells c e (0,0))/\(E.ad id).2+cs.length<=c.size/\At w (E.ad id).1 (E.ad id).2 cs
theorem root_cells (hr:RelE X E σ a.tmps w) {root:Root} {y:Val} (h:σ.root root=some y):∃cs,Rv w (Fz X E σ w) E σ y.t y.v y.ms cs/\y.ms.length=y.t.nl/\RootCells w E a.tmps root y.t cs:=by
 cases root with
 |tmp i=>
  simp only[St.root] at h
  cases hi:σ.fr[i]? with
  |none=>simp[List.getD,hi] at h
  |some s=>
   have hlt:i<a.tmps.size:=by rw[<-hr.len];exact(A8.1 hi).1
   have hv:a.tmps[i]?=some a.tmps[i]:=B8 hlt
   have hs:=hr.slot i s _ hi hv
   simp only[List.getD,hi,Option.getD_some] at h
   cases s with
   |val x hm=>simp at h;subst h;obtain⟨cs,h1,h2,h3⟩:=hs;exact⟨cs,h1,h3,by show _=some (toVal _ cs);rw[<-h2];exact hv⟩
   |_=>simp at h
 |bx id=>
  simp only[St.root] at h
  obtain⟨cs,c,e,h1,h2,h3,h4,h5⟩:=hr.bx _ (find_mem h)
  exact⟨cs,h1,h2,c,e,h3,h4,h5⟩
theorem RelE.setRootSame (hr:RelE X E σ A0 w) {root:Root} {y:Val} (h:σ.root root=some y) {cs:List Value} (hc:RootCells w E A0 root y.t cs) {v:y.t.den} {ms:List Nat}
  (hv:Rv w (Fz X E σ w) E σ y.t v ms cs) (hms:ms.length=y.t.nl):RelE X E (σ.setRoot root ⟨y.t,v,ms⟩) A0 w/\Keep w w (Fz X E σ w) (Fz X E (σ.setRoot root ⟨y.t,v,ms⟩) w) E E σ (σ.setRoot root ⟨y.t,v,ms⟩):=by
 cases root with
 |tmp i=>
  have hs:SlotOk w (Fz X E σ w) E σ (.val ⟨y.t,v,ms⟩ none) (toVal y.t cs):=⟨cs,hv,rfl,hms⟩
  have:=hr.set i hs
  have e:A0.setIfInBounds i (toVal y.t cs)=A0:=by
   have hc':A0[i]?=some (toVal y.t cs):=hc
   apply Array.ext
   ·simp
   ·intro j h1 h2
    rw[Array.getElem_setIfInBounds]
    split
    ·rename_i hij;subst hij
     rw[B8 h2] at hc'
     exact(C2 hc').symm
    ·rfl
  rw[e] at this
  exact⟨this,⟨fun _ h=>⟨h,rfl⟩,AQ _,fun _ _=>rfl,fun _ _=>rfl,fun _ _ h=>.inl h,fun _ _ h=>⟨h,fun _ _=>rfl⟩,hr.ge,fun _ h=>⟨h,rfl⟩⟩⟩
 |bx id=>
  obtain⟨c,e,h3,h4,h5⟩:=hc
  have:=hr.setBox (σ:=σ) h (v:=v) (ms:=ms) (d:=0) (c:=cs) (cx:=[]) h3 h4 h5 (by simp) hv.length (by simpa using hv) hms
  have e2:splice c ((E.ad id).2+0) []=c:=by simp[splice]
  rw[e2,setRow_self w _ _ _ _ h3] at this
  exact this
theorem rf_of_frz {A:Nat->Prop}:∀ {t:Ty} {v:t.den} {ms:List Nat} {cs:List Value},(∀τ∈ms,τ=1\/frz σ τ)->ms.length=t.nl->Rv w A E σ t v ms cs->Rf w A t v cs:=by
 intro t
 induction t with
 |int k=>intro v ms cs _ _ h;exact h
 |bool=>intro v ms cs _ _ h;exact h
 |str=>intro v ms cs _ _ h;exact h
 |unit=>intro v ms cs _ _ h;exact h
 |pair a b iha ihb=>
  intro v ms cs hz hl h;obtain⟨c1,c2,e,h1,h2⟩:=h
  simp only[Ty.nl] at hl
  exact⟨c1,c2,e,iha (fun τ hτ=>hz τ (List.mem_of_mem_take hτ)) (by simp;omega) h1,ihb (fun τ hτ=>hz τ (List.mem_of_mem_drop hτ)) (by simp;omega) h2⟩
 |st t ih=>intro v ms cs hz hl h;exact ih hz hl h
 |arr n t _=>intro v ms cs _ _ h;exact h
 |sl e t _=>
  intro v ms cs hz hl h
  obtain⟨c,rfl,_,ad,cap,rfl,h1,h2,_⟩:=h
  match ms,hl with
  |[τ],_=>
   rcases hz τ (by simp) with h|h
   ·obtain⟨rfl,rfl,hx⟩:=h2 h
    have hx':(v:List t.den)=[]:=hx
    exact⟨none,0,[],by rw[hx'],by rw[hx'];simp,fun i x hx=>by rw[hx'] at hx;simp at hx,fun h=>absurd rfl h,by rw[hx'];simp⟩
   ·exact h1 h
theorem write_ok (hr:RelE X E σ a.tmps w) {s:Slot} {v:Value} (hs:SlotOk w (Fz X E σ w) E σ s v) {x:Val} {cx:List Value} (hx:Rv w (Fz X E σ w) E σ x.t x.v x.ms cx) (hxl:x.ms.length=x.t.nl)
  {k:St->Option R} {r:R} (h:writeK σ s x k=some r):
  ∃b f cur e σ' E',v= .pointer (some ⟨b,f,none⟩)/\w.heap[b]?=some (.cells cur e (0,0))/\f+cx.length<=cur.size/\k σ'=some r/\RelE X E' σ' a.tmps (w.setRow b (splice cur f cx))/\Keep w (w.setRow b (splice cur f cx)) (Fz X E σ w) (Fz X E' σ' (w.setRow b (splice cur f cx))) E E' σ σ'/\E'.out=E.out:=by
 have hnt:0<σ.nt:=by have:=hr.nt2;omega
 cases s with
 |ptr id r' p t=>
  simp only[writeK] at h
  cases hf:σ.find id with
  |none=>simp[hf] at h
  |some y=>
   simp only[hf] at h
   cases hb:Ty.beq y.t r' with
   |false=>simp[hb] at h
   |true=>
    rw[hb] at h
    simp only[cond_true] at h
    have e:=Ty.eq_of_beq hb
    obtain⟨_,b,f,hv,ha⟩:=hs
    obtain⟨cs,c,e',h1,h2,h3,h4,h5⟩:=hr.bx _ (find_mem hf)
    dsimp only at h1 h2 h3 h4 h5
    obtain⟨v',ms',d,q1,q2,q3,q4,q5⟩:=set_ok h h1 h2 hx hxl
    have q6:=q5 (E.ad id).1 (E.ad id).2
    rw[e,ha] at q6
    simp only[AE,Ao] at q6
    obtain⟨_,q8,q9⟩:=q6
    have hcl:=h1.length
    have:=hr.setBox hf h3 h4 h5 q4 hcl q2 q3
    rw[<-q8] at this h3
    rw[<-q9] at this
    exact⟨b,f,c,e',_,E,hv,h3,by omega,q1,this.1,this.2,rfl⟩
 |eptr hm τ i u p t=>
  simp only[writeK,rowK] at h
  cases hy:σ.root hm.root with
  |none=>simp[hy] at h
  |some y=>
   simp only[hy] at h
   obtain⟨cs,h1,h2,hrc⟩:=root_cells hr hy
   obtain⟨z,d,q1,q2,q3,q4,q5⟩:=get_ok hnt hr.z h h1 h2
   obtain⟨zt,zv,zm⟩:=z
   cases zt with
   |sl e u'=>
    simp only at q1
    cases hc:σ.al.contains (zm.headD 0)&&(rootTok σ.ln (zm.headD 0)==rootTok σ.ln τ)&&Ty.beq u' u with
    |false=>rw[hc] at q1;simp at q1
    |true=>
     rw[hc] at q1
     simp only[cond_true] at q1
     simp only[A4,beq_iff_eq,BJ] at hc
     obtain⟨⟨hal,hroot⟩,hbeq⟩:=hc
     have e':=Ty.eq_of_beq hbeq
     subst e'
     cases hz:(zv:List u'.den)[i]? with
     |none=>rw[hz] at q1;simp at q1
     |some z0=>
      rw[hz] at q1
      simp only[BI] at q1
      obtain⟨⟨h20,h21⟩,g,b,f,hg,hv,ha⟩:=hs
      obtain⟨c,ec,hleaf⟩:=q2
      have hhd:E.hd (zm.headD 0)=some g:=by
       rw[<-rootTok_hd hr.lnr (zm.headD 0),hroot,rootTok_hd hr.lnr τ,hg]
      obtain⟨hlt0,ad,cap,rfl,_,_,hh,ho⟩:=hleaf
      obtain⟨css,hown,hrs⟩:=ho hal
      have hi:i<(zv:List u'.den).length:=(A8.1 hz).1
      have had:=hh (hr.alr _ hal).1
      rw[hhd] at had
      simp only[Ak] at had
      subst had
      rcases hown.2 with⟨e1,e2⟩|⟨g',cap',cur,e1,_,hgb,hle,hmax,hsz,htk⟩
      ·cases e1
      ·simp only[Value.slice.injEq,AE,Addr.mk.injEq,and_true,true_and] at e1
       obtain⟨rfl,rfl⟩:=e1
       have hrf:=hrs i z0 hz
       have hlen:=hrf.length
       obtain⟨z',ms',d2,w1,w2,w3,w4,w5⟩:=set_ok q1 (rv_of_rf (E:=E) hnt hr.z hrf) (by simp) hx hxl
       cases hfrz:ms'.all (fun τ=>τ==0||τ==1||σ.fz.contains τ) with
       |false=>rw[hfrz] at w1;cases w1
       |true=>
       rw[hfrz,cond_true] at w1
       have w6:=w5 g (i*u'.size)
       rw[ha] at w6
       simp only[AE,Ao] at w6
       obtain⟨_,w8,w9⟩:=w6
       subst w8
       have hi1:(i+1)*u'.size<=(zv:List u'.den).length*u'.size:=A7 _ hi
       rw[AH] at hi1
       have hcap:(zv:List u'.den).length*u'.size<=cap*u'.size:=A7 _ hle
       have hcssl:css.length=(zv:List u'.den).length*u'.size:=hown.1
       have hfit:f+cx.length<=cur.size:=by rw[hsz];omega
       have hgn:E.hd (zm.headD 0)=some b:=hhd
       obtain⟨hr1,K1⟩:=hr.renew (w1:=w.setRow b (splice cur f cx)) (zm.headD 0) ((σ.nt,zm.headD 0)::σ.ln) (some b)
        (fun p hp=>by
         rcases AD.1 hp with rfl|hp
         ·exact .inl ⟨rfl,rfl,hgn.symm,hlt0⟩
         ·exact .inr hp)
        (fun b' _ hb'=>setRow_other w _ _ _ (fun he=>hb' hal (by rw[he];exact hgn)))
        (hr.fr.setRow hgb (splice_size hfit) (fun hlt o hno=>by
         rcases hr.srct _ hal b hgn with h|h
         ·exact absurd (hr.fpm b h o) hno
         ·omega))
        (by simp) (fun b' hb'=>by
         injection hb' with hb';subst hb'
         refine⟨.inl ⟨hal,hgn⟩,?_⟩
         simpa using(hr.lt b (mem_owned_al hal hgn)).1)
       have hrc1:RootCells (w.setRow b (splice cur f cx)) (E.tok σ.nt (some b)) a.tmps hm.root y.t cs:=by
        revert hrc hy
        cases hm.root with
        |tmp j=>intro _ hrc;exact hrc
        |bx id=>
         intro hy hrc
         obtain⟨c',e',k3,k4,k5⟩:=hrc
         have hne:(E.ad id).1≠b:=fun he=>by
          have hn:=hr.nodup
          simp only[owned] at hn
          exact(Ay.1 hn).2.2 _ (Am.2 ⟨_,find_mem hy,rfl⟩) b (AS _ (B2.2 ⟨_,hal,by show b∈(E.hd (zm.headD 0)).toList;rw[hgn];exact List.mem_singleton_self b⟩)) he
         have hb':=setRow_other w b (E.ad id).1 (splice cur f cx) hne
         exact⟨c',e',hb'.trans k3,k4,k5.mono hb'⟩
       have hleaf':Leaf (w.setRow b (splice cur f cx)) (Fz X (E.tok σ.nt (some b)) {σ with al:=σ.nt::σ.al.erase (zm.headD 0),ln:=(σ.nt,zm.headD 0)::σ.ln,nt:=σ.nt+1} (w.setRow b (splice cur f cx))) (E.tok σ.nt (some b)) {σ with al:=σ.nt::σ.al.erase (zm.headD 0),ln:=(σ.nt,zm.headD 0)::σ.ln,nt:=σ.nt+1} e u' σ.nt ((zv:List u'.den).set i z') (.slice (some ⟨b,0,none⟩) (zv:List u'.den).length cap):=by
        refine⟨An _,some ⟨b,0,none⟩,cap,by rw[Ai],fun hz=>?_,fun h=>?_,fun _=>by simp[Env.tok],fun _=>⟨(cur.toList.take f++cx++cur.toList.drop (f+cx.length)).take ((zv:List u'.den).length*u'.size),⟨?_,.inr ⟨b,cap,splice cur f cx,by rw[Ai],BF _,?_,by rw[Ai];exact hle,hmax,?_,?_⟩⟩,fun j x' hx'=>?_⟩⟩
        ·rcases hz with h|h
         ·omega
         ·have:=(hr.fzr _ h).2;omega
        ·have:=hr.nt2;omega
        ·rw[Ai];simp;omega
        ·exact setRow_heap w b cur _ _ _ hgb
        ·rw[splice_size hfit];exact hsz
        ·rw[Ai];simp[splice]
        ·have hcz:∀q,q<(zv:List u'.den).length*u'.size->cur[q]?=css[q]?:=by
          intro q hq
          rw[<-htk,AC,if_pos hq,Aa]
         have hjl:j<(zv:List u'.den).length:=by have:=(A8.1 hx').1;simpa using this
         have hj1:(j+1)*u'.size<=(zv:List u'.den).length*u'.size:=A7 _ hjl
         rw[AH] at hj1
         refine K1.rf ?_
         by_cases hij:i=j
         ·subst hij
          rw[Av hi] at hx'
          injection hx' with hx';subst hx'
          have:seg ((cur.toList.take f++cx++cur.toList.drop (f+cx.length)).take ((zv:List u'.den).length*u'.size)) u'.size i=(seg css u'.size i).take d2++cx++(seg css u'.size i).drop (d2+cx.length):=by
           apply Al
           intro q
           simp only[V.seg,AC,AI,AW,AJ,AV,AN,AT,Aa]
           by_cases hq:q<u'.size
           ·have k0:=hcz (i*u'.size+q) (by omega)
            simp only[hq,if_true]
            repeat' split
            all_goals first|omega|rfl|(rw[<-hcz _ (by omega)];congr 1;omega)|(congr 1;omega)
           ·simp only[hq,if_false]
            repeat' split
            all_goals first|omega|rfl
          rw[this]
          refine rf_of_frz (fun τ hτ=>?_) w3 w2
          have:=List.all_eq_true.1 hfrz τ hτ
          simp only[C3,beq_iff_eq,BJ] at this
          rcases this with(h|h)|h
          ·exact .inr (.inl h)
          ·exact .inl h
          ·exact .inr (.inr h)
         ·rw[B3 hij] at hx'
          have:seg ((cur.toList.take f++cx++cur.toList.drop (f+cx.length)).take ((zv:List u'.den).length*u'.size)) u'.size j=seg css u'.size j:=by
           have hne:j*u'.size+u'.size<=i*u'.size\/i*u'.size+u'.size<=j*u'.size:=by
            rcases BP hij with h|h
            ·right;have:=A7 u'.size (show i+1<=j from h);rw[AH] at this;omega
            ·left;have:=A7 u'.size (show j+1<=i from h);rw[AH] at this;omega
           apply Al
           intro q
           simp only[V.seg,AC,AI,AW,AJ,AV,AN,AT,Aa]
           by_cases hq:q<u'.size
           ·simp only[hq,if_true]
            rw[<-hcz (j*u'.size+q) (by omega)]
            repeat' split
            all_goals first|omega|rfl|(congr 1;omega)
           ·simp only[hq,if_false]
          rw[this]
          exact hrs j x' hx'
       have hcd:(cs.drop d).take 1=[.slice (some ⟨b,0,none⟩) (zv:List u'.den).length cap]:=ec
       have hcs:cs.take d++[Value.slice (some ⟨b,0,none⟩) (zv:List u'.den).length cap]++cs.drop (d+[Value.slice (some ⟨b,0,none⟩) (zv:List u'.den).length cap].length)=cs:=by
        rw[<-hcd,Ac]
        have:((cs.drop d).take 1).length=1:=by rw[hcd];rfl
        rw[this,<-Be,Bi,Bi]
       obtain⟨v2,ms2,d3,y1,y2,y3,y4,y5⟩:=set_ok w1 (K1.rv h1) h2 (x:=⟨.sl e u',(zv:List u'.den).set i z',[σ.nt]⟩) (cx:=[.slice (some ⟨b,0,none⟩) (zv:List u'.den).length cap]) ⟨_,rfl,hleaf'⟩ rfl
       have hd:d3=d:=by
        have k1:=y5 0 0
        rw[q5 0 0] at k1
        simp at k1
        exact k1.symm
       subst hd
       rw[hcs] at y2
       have hfin:=hr1.setRootSame (y:=y) (by
        revert hy
        cases hm.root with
        |tmp j=>exact fun h=>h
        |bx i'=>exact fun h=>h) hrc1 y2 y3
       exact⟨b,f,cur,_,_,(E.tok σ.nt (some b)),hv,hgb,hfit,y1,hfin.1,K1.trans hfin.2,rfl⟩
   |_=>simp at q1
 |_=>simp[writeK] at h
theorem step_store (T:Tabs) (hT:TabOk P T.T) {t:TypeId} {p x:Operand} (ho:o.op= .store t p x) {k:St->Option R} {r:R} (h:stepK T o σ k=some r) (hr:RelE X E σ a.tmps w):StepOk P X T o a w (fun σ'=>k σ'=some r):=by
 simp only[stepK,ho] at h
 cases hTt:T.T t with
 |none=>simp[hTt] at h
 |some tt=>
  cases hd:o.dst with
  |some d=>simp[hTt,hd] at h
  |none=>
   simp only[hTt,hd] at h
   cases hc:V.coe tt (opd σ x) with
   |none=>simp[hc] at h
   |some q=>
    obtain⟨v,ms⟩:=q
    simp only[hc] at h
    obtain⟨cs,h1,h2,h3⟩:=hr.coe hc
    obtain⟨n,ht⟩:=hT.ty t _ hTt
    have hpre:∃σ1,RelE X E σ1 a.tmps w/\SlotOk w (Fz X E σ1 w) E σ1 (opd σ p) (a.eval p)/\Rv w (Fz X E σ1 w) E σ1 tt v ms cs/\writeK σ1 (opd σ p) ⟨tt,v,ms⟩ k=some r:=by
     cases hel:isEl (opd σ p) with
     |false=>rw[hel] at h;exact⟨σ,hr,slot_opd hr p,h1,h⟩
     |true=>
      rw[hel] at h
      obtain⟨hr1,K⟩:=hr.freezeK ms
      exact⟨_,hr1,K.slot (slot_opd hr p),K.rv h1,h⟩
    obtain⟨σ1,hr1,hs1,hx1,h⟩:=hpre
    obtain⟨b,f,cur,e,σ',E',q1,q2,q3,q4,q5,_⟩:=write_ok hr1 hs1 (x:=⟨tt,v,ms⟩) hx1 h3 h
    have hcl:(a.eval x).cells=cs.toArray:=by rw[h2];exact cells_toVal h1 (tyB_scalar ht)
    refine stepOk_skip (w':=w.setRow b (splice cur f cs)) ?_ ⟨E',by rw[hd];exact q5⟩ q4
    simp only[execOp,ho,q1,A5,run_storeAt_ty ht hcl h1.length h1.one q2 q3,A3,A6]
def fieldB (P:Program) (T:TypeId->Option Ty) (s:TypeId) (u:Ty):Prop:=T s=some (.st u)
theorem run_fieldAt {n:Nat} {s:TypeId} {u:Ty} (h:tyB P n s (.st u)=true) {j:Nat} {p:List Sel} (hj:fieldPath u j=some p) (b f:Nat):
  ∃d m,(∀w:World,(Instr.fieldAt s (.pointer (some ⟨b,f,none⟩)) j).run P w= .ok (.pointer (some ⟨b,f+d,none⟩)) w)/\(∀b o,addr u (b,o) p=some (fieldTy u p,(b,o+d)))/\∃i,tyB P m i (fieldTy u p)=true:=by
 obtain⟨m,fs,h1,h2,h3⟩:=tyB_st h
 obtain⟨fd,d,q1,q2,q3,q4,q5,q6⟩:=fieldsB_at h3 hj
 have hsz:∀w:World,(sizeOf fd.type).run P w= .ok (fieldTy u p).size w:=fun w=>run_sizeOf_ty q4 w
 have hne:(fieldTy u p).size≠0:=by omega
 have hfs:fs[j]?=some fd:=by rw[<-Aa];exact q1
 refine⟨d,m,fun w=>?_,q6,fd.type,q4⟩
 simp only[Instr.fieldAt,A5,run_underlying h1,A3,hfs,Instr.sureAddr,A6,fieldPlace,hsz,hne,if_false,q2,B0,add_addr]
end
end Go.Proofs.YtacbkfginiknaaaDoor.V
namespace Go.Proofs.YtacbkfginiknaaaDoor.V
open Go
section
variable {P:Program} {X:Ctx} {E:Env} {σ:St} {A0:Array Value} {a:Act} {w:World} {o:Oper} {R:Type}
theorem arr_one {α β:Type} {f:α->β} {l:Array α} {y:β} (h:l.toList.map f=[y]):∃x,l= #[x]/\f x=y:=by
 obtain⟨l⟩:=l
 cases l with
 |nil=>simp at h
 |cons a r=>cases r with
  |nil=>exact⟨a,rfl,by simpa using h⟩
  |cons b r=>simp at h
theorem arr_two {α β:Type} {f:α->β} {l:Array α} {y z:β} (h:l.toList.map f=[y,z]):∃x u,l= #[x,u]/\f x=y/\f u=z:=by
 obtain⟨l⟩:=l
 cases l with
 |nil=>simp at h
 |cons a r=>cases r with
  |nil=>simp at h
  |cons b r=>cases r with
   |nil=>simp at h;exact⟨a,b,rfl,h.1,h.2⟩
   |cons c r=>simp at h
theorem tyB_str {n:Nat} {i:TypeId} (h:tyB P n i .str=true):P.underlying i=some .string:=by
 cases n with
 |zero=>simp[tyB] at h
 |succ n=>
  simp only[tyB,A4] at h
  have h1:=h.2
  cases hu:P.underlying i with
  |none=>simp[hu] at h1
  |some d=>cases d<;>simp_all
theorem tyB_int {n:Nat} {i:TypeId} {k:IntKind} (h:tyB P n i (.int k)=true):P.underlying i=some (.int k):=by
 cases n with
 |zero=>simp[tyB] at h
 |succ n=>
  simp only[tyB,A4] at h
  have h1:=h.2
  cases hu:P.underlying i with
  |none=>simp[hu] at h1
  |some d=>cases d<;>simp_all
theorem get_some:∀ {t:Ty} {v:t.den} {ms:List Nat} {p:List Sel} {k:Val->Option R} {r:R},getK t v ms p k=some r->∃y,k y=some r:=by
 intro t
 induction t with
 |st t ih=>
  intro v ms p k r h
  cases p with
  |nil=>exact⟨_,by simpa[getK] using h⟩
  |cons s p=>exact ih (p:=s::p) (by simpa[getK] using h)
 |pair a b iha ihb=>
  intro v ms p k r h
  cases p with
  |nil=>exact⟨_,by simpa[getK] using h⟩
  |cons s p=>cases s with
   |fst=>exact iha (by simpa[getK] using h)
   |snd=>exact ihb (by simpa[getK] using h)
   |ix i=>simp[getK] at h
 |arr n t ih=>
  intro v ms p k r h
  cases p with
  |nil=>exact⟨_,by simpa[getK] using h⟩
  |cons s p=>cases s with
   |fst=>simp[getK] at h
   |snd=>simp[getK] at h
   |ix i=>
    simp only[getK] at h
    cases hx:(v:List t.den)[i]? with
    |none=>rw[hx] at h;simp at h
    |some x=>rw[hx] at h;exact ih h
 |_=>
  intro v ms p k r h
  cases p with
  |nil=>exact⟨_,by simpa[getK] using h⟩
  |cons s p=>cases s<;>simp[getK] at h
theorem addr_st {u:Ty} {p:List Sel} (hp:p≠[]) (q:Nat×Nat):addr (.st u) q p=addr u q p:=by
 cases p with
 |nil=>exact absurd rfl hp
 |cons s r=>rfl
theorem step_fieldAddr (T:Tabs) (hT:TabOk P T.T) {s:TypeId} {x:Operand} {j:Nat} (ho:o.op= .fieldAddr s x j) {k:St->Option R} {r:R} (h:stepK T o σ k=some r) (hr:RelE X E σ a.tmps w):StepSlot P X E σ o a w (fun σ'=>k σ'=some r):=by
 simp only[stepK,ho] at h
 have hnt:0<σ.nt:=by have:=hr.nt2;omega
 have hs:=slot_opd hr x
 split at h
 ·rename_i u hTs
  obtain⟨n,ht⟩:=hT.ty s _ hTs
  cases hj:fieldPath u j with
  |none=>simp[hj] at h
  |some p=>
   simp only[hj] at h
   revert h hs
   cases e:opd σ x with
   |ptr id r' q t=>
    intro hs h
    cases hb:Ty.beq t (.st u)&& !p.isEmpty with
    |false=>simp only[hb,cond_false] at h;cases h
    |true=>
     simp only[hb,cond_true] at h
     simp only[A4,BD,BS] at hb
     have e':=Ty.eq_of_beq hb.1
     subst e'
     obtain⟨hid,b,f,hv,ha⟩:=hs
     obtain⟨d,m,q1,q2,_⟩:=run_fieldAt ht hj b f
     refine stepSlot_value (s:=.ptr id r' (q++p) (fieldTy u p)) (v:=.pointer (some ⟨b,f+d,none⟩)) (fun w1 hx1=>?_) (⟨hid,b,f+d,rfl,?_⟩) h
     ·simp only[execOp,ho,hv,q1 w1,A5,A3,A6]
     ·rw[addr_append ha,addr_st hb.2];exact q2 b f
   |eptr hm τ i z q t=>
    intro hs h
    cases hb:Ty.beq t (.st u)&& !p.isEmpty with
    |false=>simp only[hb,cond_false] at h;cases h
    |true=>
     simp only[hb,cond_true] at h
     simp only[A4,BD,BS] at hb
     have e':=Ty.eq_of_beq hb.1
     subst e'
     obtain⟨hid,g,b,f,hg,hv,ha⟩:=hs
     obtain⟨d,m,q1,q2,_⟩:=run_fieldAt ht hj b f
     refine stepSlot_value (s:=.eptr hm τ i z (q++p) (fieldTy u p)) (v:=.pointer (some ⟨b,f+d,none⟩)) (fun w1 hx1=>?_) (⟨hid,g,b,f+d,hg,rfl,?_⟩) h
     ·simp only[execOp,ho,hv,q1 w1,A5,A3,A6]
     ·rw[addr_append ha,addr_st hb.2];exact q2 b f
   |rptr τ y=>
    intro hs h
    cases hc:cast? (.st u) y with
    |none=>simp only[hc] at h;cases h
    |some q=>
     obtain⟨v,ms⟩:=q
     simp only[hc] at h
     have e':=cast?_some hc
     subst e'
     obtain⟨hid,b,f,hv,ha⟩:=hs
     obtain⟨d,m,q1,q2,_⟩:=run_fieldAt ht hj b f
     by_cases hu:frz σ τ\/τ∈σ.al
     ·obtain⟨cs,a1,a2,a3,a4,a5⟩:=ha hu
      obtain⟨y',d',g1,g2,g3,g4,g5⟩:=get_ok hnt hr.z (t:=u) (v:=v) (ms:=ms) h a1 a2
      have hd:d'=d:=by
       have k1:=g5 0 0
       rw[q2 0 0] at k1
       simp at k1
       exact k1.2.symm
      subst hd
      refine stepSlot_value (s:=.rptr τ y') (v:=.pointer (some ⟨b,f+d',none⟩)) (fun w1 hx1=>?_) (⟨hid,b,f+d',rfl,fun _=>⟨_,g2,g3,a3.part,a4,a5⟩⟩) g1
      simp only[execOp,ho,hv,q1 w1,A5,A3,A6]
     ·obtain⟨y',g1⟩:∃y',k (σ.put o.dst (.rptr τ y'))=some r:=get_some h
      refine stepSlot_value (s:=.rptr τ y') (v:=.pointer (some ⟨b,f+d,none⟩)) (fun w1 hx1=>?_) (⟨hid,b,f+d,rfl,fun h=>absurd h hu⟩) g1
      simp only[execOp,ho,hv,q1 w1,A5,A3,A6]
   |_=>intro _ h;simp at h
 ·cases h
theorem step_field (T:Tabs) (hT:TabOk P T.T) {s:TypeId} {x:Operand} {j:Nat} (ho:o.op= .field s x j) {k:St->Option R} {r:R} (h:stepK T o σ k=some r) (hr:RelE X E σ a.tmps w):StepSlot P X E σ o a w (fun σ'=>k σ'=some r):=by
 simp only[stepK,ho] at h
 have hnt:0<σ.nt:=by have:=hr.nt2;omega
 have hs:=slot_opd hr x
 split at h
 ·rename_i u hTs
  obtain⟨n,ht⟩:=hT.ty s _ hTs
  cases hj:fieldPath u j with
  |none=>simp[hj] at h
  |some p=>
   simp only[hj] at h
   revert h hs
   cases e:opd σ x with
   |val y hm=>
    intro hs h
    cases hc:cast? (.st u) y with
    |none=>simp only[hc] at h;cases h
    |some q=>
     obtain⟨v,ms⟩:=q
     simp only[hc] at h
     have e':=cast?_some hc
     subst e'
     obtain⟨cs,a1,a2,a3⟩:=hs
     obtain⟨y',d',g1,g2,g3,g4,g5⟩:=get_ok hnt hr.z (t:=u) (v:=v) (ms:=ms) h a1 a3
     obtain⟨m,fs,f1,f2,f3⟩:=tyB_st ht
     obtain⟨fd,d,w1,w2,w3,w4,w5,w6⟩:=fieldsB_at f3 hj
     have hd:fieldTy u p=y'.t/\d'=d:=by
      have k1:=g5 0 0
      rw[w6 0 0] at k1
      simp at k1
      exact⟨k1.1,k1.2.symm⟩
     obtain⟨hd1,rfl⟩:=hd
     have hfs:fs[j]?=some fd:=by rw[<-Aa];exact w1
     refine stepSlot_value (s:=.val y' (hm.map fun h=>⟨h.root,h.path++p⟩)) (v:=toVal y'.t ((cs.drop d').take y'.t.size)) (fun w1 hx1=>?_) (⟨_,g2,rfl,g3⟩) g1
     rw[hd1] at w4
     have hp:=run_part (w:=w1) w4 (xs:=cs.toArray) (off:=fd.offset) (c:=(cs.drop d').take y'.t.size) (by rw[w2];simp) g2.length
     simp only[execOp,ho,a2,toVal,Ty.agg,if_true,Instr.field,A5,run_underlying f1,A3,hfs,asAgg,A6]
     rw[hp];rfl
   |_=>intro _ h;simp at h
 ·cases h
theorem step_len (T:Tabs) {args:Array Operand} {ats:Array TypeId} (hT:TabOk P T.T) (ho:o.op= .call ⟨.builtin .len,args,ats⟩) {k:St->Option R} {r:R} (h:stepK T o σ k=some r) (hr:RelE X E σ a.tmps w):StepSlot P X E σ o a w (fun σ'=>k σ'=some r):=by
 simp only[stepK,ho] at h
 have hex:∀v,(∀w:World,(Builtin.len_ ats o.type (args.map a.eval)).run P w= .ok v w)->∀w1,Ext w w1->(execOp a.eval o).run P w1= .ok (.value v) w1:=by
  intro v hv w1 _
  simp only[execOp,ho,resolve,invoke,builtin,A5,A6,A3,hv]
 split at h
 ·rename_i s m hm e1 e2
  obtain⟨t,hat,hTt⟩:∃t,ats= #[t]/\T.T t=some .str:=arr_one e1
  obtain⟨x,hxa,hx⟩:∃x,args= #[x]/\opd σ x= .val ⟨.str,s,m⟩ hm:=arr_one e2
  subst hat;subst hxa
  obtain⟨n,ht⟩:=hT.ty t _ hTt
  have hv:=val_str (slot_of_opd hr hx)
  refine stepSlot_value (s:=.val ⟨.int .i64,((s.length:Nat):Int),[]⟩ none) (hex _ ?_) ((slot_int _ _ none)) h
  intro w
  simp only[B4,AY,BO,hv]
  rw[run_len_string _ _ _ _ (tyB_str ht)]
  rfl
 ·rename_i e t y hm e1 e2
  obtain⟨t',hat,hTt⟩:∃t',ats= #[t']/\T.T t'=some (.sl e t):=arr_one e1
  obtain⟨x,hxa,hx⟩:∃x,args= #[x]/\opd σ x= .val y hm:=arr_one e2
  subst hat;subst hxa
  cases hc:cast? (.sl e t) y with
  |none=>simp[hc] at h
  |some q=>
   obtain⟨s,ms⟩:=q
   simp only[hc] at h
   have e':=cast?_some hc
   subst e'
   obtain⟨n,ht⟩:=hT.ty t' _ hTt
   obtain⟨m,hu,_⟩:=tyB_sl ht
   obtain⟨cs,⟨c,ec,_,ad,cap,rfl,_⟩,hv,_⟩:=slot_of_opd hr hx
   subst ec
   refine stepSlot_value (s:=.val ⟨.int .i64,((List.length (α:=t.den) s:Nat):Int),[]⟩ none) (hex _ ?_) ((slot_int _ _ none)) h
   have hel:P.elem t'=e:=by simp[BY,hu]
   intro w
   simp only[B4,AY,BO,hv,toVal,Ty.agg,Ab,if_false,Au]
   rw[run_len_slice _ _ _ _ _ _ (by rw[hel];exact hu)]
   rfl
 ·cases h
theorem step_min (T:Tabs) {args:Array Operand} {ats:Array TypeId} (ho:o.op= .call ⟨.builtin .min,args,ats⟩) {k:St->Option R} {r:R} (h:stepK T o σ k=some r) (hr:RelE X E σ a.tmps w):StepSlot P X E σ o a w (fun σ'=>k σ'=some r):=by
 simp only[stepK,ho] at h
 split at h
 ·rename_i q x m1 h1 q' y m2 h2 e1
  obtain⟨u,v,hxa,hx,hy⟩:∃u v,args= #[u,v]/\opd σ u= .val ⟨.int q,x,m1⟩ h1/\opd σ v= .val ⟨.int q',y,m2⟩ h2:=arr_two e1
  subst hxa
  have v1:=val_int (slot_of_opd hr hx)
  have v2:=val_int (slot_of_opd hr hy)
  refine stepSlot_value (s:=.val ⟨.int q,(bif decide ((y:Int)<x) then y else x),[]⟩ none) (v:=.int q (bif decide ((y:Int)<x) then y else x)) (fun w1 hx1=>?_) ((slot_int _ _ none)) h
  simp only[execOp,ho,resolve,invoke,builtin,A5,A6,A3,B4,AY,BO,v1,v2,run_min_int2]
  by_cases hlt:(y:Int)<x<;>simp[hlt]
 ·cases h
theorem step_max (T:Tabs) {args:Array Operand} {ats:Array TypeId} (ho:o.op= .call ⟨.builtin .max,args,ats⟩) {k:St->Option R} {r:R} (h:stepK T o σ k=some r) (hr:RelE X E σ a.tmps w):StepSlot P X E σ o a w (fun σ'=>k σ'=some r):=by
 simp only[stepK,ho] at h
 split at h
 ·rename_i q x m1 h1 q' y m2 h2 e1
  obtain⟨u,v,hxa,hx,hy⟩:∃u v,args= #[u,v]/\opd σ u= .val ⟨.int q,x,m1⟩ h1/\opd σ v= .val ⟨.int q',y,m2⟩ h2:=arr_two e1
  subst hxa
  have v1:=val_int (slot_of_opd hr hx)
  have v2:=val_int (slot_of_opd hr hy)
  refine stepSlot_value (s:=.val ⟨.int q,(bif decide ((x:Int)<y) then y else x),[]⟩ none) (v:=.int q (bif decide ((x:Int)<y) then y else x)) (fun w1 hx1=>?_) ((slot_int _ _ none)) h
  simp only[execOp,ho,resolve,invoke,builtin,A5,A6,A3,B4,AY,BO,v1,v2,run_max_int2]
  by_cases hlt:(x:Int)<y<;>simp[hlt]
 ·cases h
end
end Go.Proofs.YtacbkfginiknaaaDoor.V
namespace Go.Proofs.YtacbkfginiknaaaDoor.V
open Go
section
variable {P:Program} {X:Ctx} {E:Env} {σ:St} {A0:Array Value} {a:Act} {w:World} {o:Oper} {R:Type}
theorem idxK_ok {α:Type} {xs:List α} {i:Operand} {k:Nat->α->Option R} {r:R} (hr:RelE X E σ a.tmps w) (h:idxK xs (opd σ i) k=some r):
  ∃q n x,a.eval i= .int q n/\0<=n/\xs[n.toNat]?=some x/\k n.toNat x=some r:=by
 unfold idxK at h
 split at h
 ·rename_i q n ms hm e
  obtain⟨h1,h2⟩:=guardK_some h
  cases hx:xs[n.toNat]? with
  |none=>rw[hx] at h2;simp at h2
  |some x=>rw[hx] at h2;exact⟨q,n,x,val_int (slot_of_opd hr e),by simpa using h1,hx,h2⟩
 ·cases h
theorem atHome_al {e:TypeId} {u:Ty} {τ:Nat} {h:Option Home} {h':Home} (hh:atHome σ e u τ h=some h'):τ∈σ.al:=by
 unfold atHome at hh
 cases h with
 |none=>cases hh
 |some h=>
  cases hc:σ.al.contains τ with
  |false=>simp only[hc,cond_false] at hh;cases hh
  |true=>simpa using hc
theorem step_indexAddr (T:Tabs) (hT:TabOk P T.T) {s:TypeId} {x i:Operand} (ho:o.op= .indexAddr s x i) {k:St->Option R} {r:R} (h:stepK T o σ k=some r) (hr:RelE X E σ a.tmps w):StepSlot P X E σ o a w (fun σ'=>k σ'=some r):=by
 simp only[stepK,ho] at h
 have hnt:0<σ.nt:=by have:=hr.nt2;omega
 split at h
 ·-- an array
  rename_i n u hTs
  obtain⟨m,ht⟩:=hT.ty s _ hTs
  obtain⟨m2,e,hu,he⟩:=tyB_arr ht
  have hel:P.elem s=e/\P.arrayLen s=n:=by simp[BY,Program.arrayLen,hu]
  have hsz:∀w:World,(sizeOf e).run P w= .ok u.size w:=fun w=>run_sizeOf_ty he w
  have hrun:∀b f q (j:Int),0<=j->j<n->∀w:World,(Instr.indexAt s (.pointer (some ⟨b,f,none⟩)) (.int q j)).run P w= .ok (.pointer (some ⟨b,f+j.toNat*u.size,none⟩)) w:=by
   intro b f q j h0 h1 w
   rw[run_indexAt_array _ _ _ _ _ (by rw[hel.1,hel.2];exact hu),hel.1,hel.2,if_pos ⟨h0,h1⟩,hsz,A3,add_addr]
  have hs:=slot_opd hr x
  revert hs h
  cases ex:opd σ x with
  |ptr id r' q t=>
   intro h hs
   cases hb:Ty.beq t (.arr n u) with
   |false=>simp only[hb,cond_false] at h;cases h
   |true=>
    simp only[hb,cond_true] at h
    have e':=Ty.eq_of_beq hb
    subst e'
    split at h
    ·rename_i q' j ms hm ei
     obtain⟨h1,h2⟩:=guardK_some h
     simp only[A4,decide_eq_true_eq] at h1
     obtain⟨hid,b,f,hv,ha⟩:=hs
     have hi:=val_int (slot_of_opd hr ei)
     refine stepSlot_value (s:=.ptr id r' (q++[.ix (j:Int).toNat]) u) (v:=.pointer (some ⟨b,f+(j:Int).toNat*u.size,none⟩)) (fun w1 hx1=>?_) (⟨hid,b,_,rfl,?_⟩) h2
     ·simp only[execOp,ho,hv,hi,hrun b f q' j h1.1 h1.2,A5,A3,A6]
     ·rw[addr_append ha]
      have h3:(j:Int).toNat<n:=(fun(z:Int) (h4:0<=z) (h5:z<(n:Int))=>(by omega:z.toNat<n)) j h1.1 h1.2
      simp[addr,h3]
    ·cases h
  |rptr τ y=>
   intro h hs
   cases hc:cast? (.arr n u) y with
   |none=>simp only[hc] at h;cases h
   |some q=>
    obtain⟨v,ms⟩:=q
    simp only[hc] at h
    have e':=cast?_some hc
    subst e'
    cases hcc:σ.us τ&& !(τ==1) with
    |false=>simp only[hcc,cond_false] at h;cases h
    |true=>
     simp only[hcc,cond_true] at h
     simp only[A4,BD,beq_eq_false_iff_ne,ne_eq] at hcc
     obtain⟨q,j,z,hi,h0,hz,h2⟩:=idxK_ok hr h
     obtain⟨hid,b,f,hv,ha⟩:=hs
     have hus:frz σ τ\/τ∈σ.al:=by
      rcases us_iff.1 hcc.1 with h|h|h|h
      ·exact .inl (.inl h)
      ·exact absurd h hcc.2
      ·exact .inr h
      ·exact .inl (.inr h)
     obtain⟨cs,⟨l1,l2,l3,l4⟩,a2,a3,a4,a5⟩:=ha hus
     have hj:j<n:=by have:=(A8.1 hz).1;rw[l1] at this;omega
     refine stepSlot_value (s:=.rptr τ ⟨u,z,[]⟩) (v:=.pointer (some ⟨b,f+j.toNat*u.size,none⟩)) (fun w1 hx1=>?_) (⟨hid,b,_,rfl,fun _=>⟨_,?_,by rw[l4];rfl,a3.seg,a4,a5⟩⟩) h2
     ·simp only[execOp,ho,hv,hi,hrun b f q j h0 hj,A5,A3,A6]
     ·have:=rv_of_rf (E:=E) hnt hr.z (l3 _ _ hz)
      rw[l4] at this
      exact this
  |_=>intro h;simp at h
 ·-- a slice
  rename_i e u hTs
  obtain⟨m,ht⟩:=hT.ty s _ hTs
  obtain⟨m2,hu,he⟩:=tyB_sl ht
  have hel:P.elem s=e:=by simp[BY,hu]
  have hsz:∀w:World,(sizeOf e).run P w= .ok u.size w:=fun w=>run_sizeOf_ty he w
  have hpos:0<u.size:=by have:=tyB_ok ht;simp[Ty.ok] at this;exact this.2
  have hs:=slot_opd hr x
  revert hs h
  cases ex:opd σ x with
  |val y hm=>
   intro h hs
   cases hc:cast? (.sl e u) y with
   |none=>simp only[hc] at h;cases h
   |some q=>
    obtain⟨v,ms⟩:=q
    simp only[hc] at h
    have e':=cast?_some hc
    subst e'
    obtain⟨q,j,z,hi,h0,hz,h2⟩:=idxK_ok hr h
    obtain⟨cs,⟨c,ec,hleaf⟩,hv,_⟩:=hs
    subst ec
    have hlt:=hleaf.1
    have hus:σ.us (ms.headD 0)=true:=by
     split at h2
     ·rename_i h' hh
      exact us_iff.2 (.inr (.inr (.inl (atHome_al hh))))
     ·cases hb:σ.us (ms.headD 0) with
      |true=>rfl
      |false=>simp only[hb,cond_false] at h2;cases h2
    obtain⟨ad,cap,css,rfl,hl,hrs,hne,_⟩:=leaf_row hr hleaf hus
    have hjl:j.toNat<(v:List u.den).length:=(A8.1 hz).1
    have hcn:css≠[]:=by
     intro h0'
     have h3:(v:List u.den).length*u.size=0:=by rw[<-hl,h0'];rfl
     rcases Bb.1 h3 with h4|h4<;>omega
    obtain⟨b,f,rfl,hat,hnal,htwo⟩:=hne hcn
    have hrun:∀w1,Ext w w1->(execOp a.eval o).run P w1= .ok (.value (.pointer (some ⟨b,f+j.toNat*u.size,none⟩))) w1:=by
     intro w1 _
     have hj:j<((v:List u.den).length:Nat):=by omega
     simp only[execOp,ho,hv,hi,toVal,Ty.agg,Ab,if_false,Au,A5]
     rw[run_indexAt_slice _ _ _ _ _ _ _ (by rw[hel];exact hu),hel,if_pos ⟨h0,hj⟩,hsz w1]
     simp only[A3,add_addr,A6]
    split at h2
    ·rename_i h' hh
     have hal:=atHome_al hh
     have h2':=(hr.alr _ hal).1
     obtain⟨rfl,hhd⟩:=htwo h2'
     exact stepSlot_value (s:=.eptr h' (ms.headD 0) j.toNat u [] u) hrun (⟨⟨h2',hlt⟩,b,b,_,hhd,rfl,by simp[addr]⟩) h2
    ·rw[hus] at h2
     simp only[cond_true] at h2
     refine stepSlot_value (s:=.rptr (ms.headD 0) ⟨u,z,List.replicate u.nl 0⟩) hrun (⟨hlt,b,_,rfl,fun _=>⟨_,rv_of_rf hnt hr.z (hrs _ _ hz),by simp,hat.seg,fun hal=>(htwo (hr.alr _ hal).1).2,fun h=>.inl (hnal h)⟩⟩) h2
  |_=>intro h;simp at h
 ·cases h
theorem step_index (T:Tabs) (hT:TabOk P T.T) {s:TypeId} {x i:Operand} (ho:o.op= .index s x i) {k:St->Option R} {r:R} (h:stepK T o σ k=some r) (hr:RelE X E σ a.tmps w):StepSlot P X E σ o a w (fun σ'=>k σ'=some r):=by
 simp only[stepK,ho] at h
 split at h
 ·rename_i hTs
  obtain⟨m,ht⟩:=hT.ty s _ hTs
  split at h
  ·rename_i l ms hm ex
   obtain⟨q,j,z,hi,h0,hz,h2⟩:=idxK_ok hr h
   have hv:=val_str (slot_of_opd hr ex)
   have hjl:j.toNat<(l:List UInt8).length:=(A8.1 hz).1
   refine stepSlot_value (s:=.val ⟨.int .u8,((z.toNat:Nat):Int),[]⟩ none) (v:=.int .u8 ((z.toNat:Nat):Int)) (fun w1 hx1=>?_) ((slot_int _ _ none)) h2
   have hsize:(⟨(l:List UInt8).toArray⟩:ByteArray).size=(l:List UInt8).length:=rfl
   simp only[execOp,ho,hv,hi,A5]
   rw[run_index_string _ _ _ _ _ (tyB_str ht),dif_pos ⟨h0,by rw[hsize];omega⟩]
   simp only[A3,A6]
   have hz':(l:List UInt8)[j.toNat]=z:=by
    rw[AM hjl] at hz
    exact C2 hz
   rw[<-hz']
   rfl
  ·cases h
 ·rename_i n u hTs
  obtain⟨m,ht⟩:=hT.ty s _ hTs
  obtain⟨m2,e,hu,he⟩:=tyB_arr ht
  have hsz:∀w:World,(sizeOf e).run P w= .ok u.size w:=fun w=>run_sizeOf_ty he w
  have hs:=slot_opd hr x
  revert hs h
  cases ex:opd σ x with
  |val y hm=>
   intro h hs
   cases hc:cast? (.arr n u) y with
   |none=>simp only[hc] at h;cases h
   |some q=>
    obtain⟨v,ms⟩:=q
    simp only[hc] at h
    have e':=cast?_some hc
    subst e'
    cases hnl:u.nl==0 with
    |false=>simp only[hnl,cond_false] at h;cases h
    |true=>
     simp only[hnl,cond_true] at h
     obtain⟨q,j,z,hi,h0,hz,h2⟩:=idxK_ok hr h
     obtain⟨cs,⟨l1,l2,l3,l4⟩,hv,_⟩:=hs
     have hjl:j.toNat<n:=by rw[<-l1];exact(A8.1 hz).1
     have hrf:=l3 _ _ hz
     have hrv:Rv w (Fz X E σ w) E σ u z [] (seg cs u.size j.toNat):=by
      have:=rv_of_rf (E:=E) (by have:=hr.nt2;omega) hr.z hrf
      rwa [l4] at this
     refine stepSlot_value (s:=.val ⟨u,z,[]⟩ none) (v:=toVal u (seg cs u.size j.toNat)) (fun w1 hx1=>?_) (⟨_,hrv,rfl,by rw[l4];rfl⟩) h2
     have hp:=run_part (w:=w1) he (xs:=cs.toArray) (off:=j.toNat*u.size) (c:=seg cs u.size j.toNat) (by simp[V.seg]) hrf.length
     have hj:j<(n:Nat):=by omega
     simp only[execOp,ho,hv,hi,toVal,Ty.agg,if_true,Instr.index,asIntOf,A5,A6,run_underlying hu,A3]
     simp only[h0,hj,and_self,if_true,A5,hsz,A3]
     rw[hp];rfl
  |_=>intro h;simp at h
 ·cases h
end
end Go.Proofs.YtacbkfginiknaaaDoor.V
namespace Go.Proofs.YtacbkfginiknaaaDoor.V
open Go
section
variable {P:Program} {X:Ctx} {E:Env} {σ:St} {A0:Array Value} {a:Act} {w:World} {o:Oper} {R:Type}
theorem int_opd (hr:RelE X E σ a.tmps w) {x:Operand} {q:IntKind} {n:Int} {ms:List Nat} {hm:Option Home} (h:opd σ x= .val ⟨.int q,n,ms⟩ hm):a.eval x= .int q n:=val_int (slot_of_opd hr h)
theorem boundK_ok {n:Nat} {lo hi:Option Operand} {k:Nat->Nat->Option R} {r:R} (hr:RelE X E σ a.tmps w) (h:boundK n (lo.map (opd σ)) (hi.map (opd σ)) k=some r):
  ∃l m,k l m=some r/\l<=m/\m<=n/\(∀ (α:Type) (xs:List α),xs.length=n->cutList xs (lo.map (opd σ)) (hi.map (opd σ)) l m=(xs.take m).drop l)/\(lo=none->l=0)/\
   ∀b cap,n<=cap->∀w:World,(Instr.sliceBounds b n cap (lo.map a.eval) (hi.map a.eval) none).run P w= .ok (l,m,cap) w:=by
 cases lo with
 |none=>
  cases hi with
  |none=>
   refine⟨0,n,h,BF _,AQ _,fun α xs hx=>?_,fun _=>rfl,fun b cap hc w=>?_⟩
   ·simp[cutList,<-hx]
   ·simp[Instr.sliceBounds]
  |some y=>
   simp only[B9,Ak,boundK] at h
   split at h
   ·first|exact absurd ‹some _=none› (by simp)|exact absurd ‹none=some _› (by simp)
   ·rename_i q z ms hm e1 e2
    simp only[AE] at e2
    obtain⟨h1,h2⟩:=guardK_some h
    simp only[A4,decide_eq_true_eq] at h1
    have hz:=int_opd hr e2
    refine⟨0,(z:Int).toNat,h2,BF _,?_,fun α xs hx=>by simp[cutList],fun _=>rfl,fun b cap hc w=>?_⟩
    ·exact(fun(z:Int) (h4:0<=z) (h5:z<=(n:Int))=>(by omega:z.toNat<=n)) z h1.1 h1.2
    ·have hle:(z:Int)<=cap:=BZ h1.2 (by omega)
     have h0:(0:Int)<=z:=h1.1
     simp[Instr.sliceBounds,hz,run_sliceBound,h0,hle]
   ·first|exact absurd ‹some _=none› (by simp)|exact absurd ‹none=some _› (by simp)
   ·first|exact absurd ‹some _=none› (by simp)|exact absurd ‹none=some _› (by simp)
   ·cases h
 |some x=>
  cases hi with
  |none=>
   simp only[B9,Ak,boundK] at h
   split at h
   ·first|exact absurd ‹some _=none› (by simp)|exact absurd ‹none=some _› (by simp)
   ·first|exact absurd ‹some _=none› (by simp)|exact absurd ‹none=some _› (by simp)
   ·rename_i q z ms hm e1 e2
    simp only[AE] at e1
    obtain⟨h1,h2⟩:=guardK_some h
    simp only[A4,decide_eq_true_eq] at h1
    have hz:=int_opd hr e1
    have hle:(z:Int)<=n:=h1.2
    have h0:(0:Int)<=z:=h1.1
    refine⟨(z:Int).toNat,n,h2,?_,AQ _,fun α xs hx=>by simp[cutList,<-hx],(fun h=>nomatch h),fun b cap hc w=>?_⟩
    ·exact(fun(z:Int) (h4:0<=z) (h5:z<=(n:Int))=>(by omega:z.toNat<=n)) z h1.1 h1.2
    ·simp[Instr.sliceBounds,hz,run_sliceBound,h0,hle]
   ·first|exact absurd ‹some _=none› (by simp)|exact absurd ‹none=some _› (by simp)
   ·cases h
  |some y=>
   simp only[Ak,boundK] at h
   split at h
   ·first|exact absurd ‹some _=none› (by simp)|exact absurd ‹none=some _› (by simp)
   ·first|exact absurd ‹some _=none› (by simp)|exact absurd ‹none=some _› (by simp)
   ·first|exact absurd ‹some _=none› (by simp)|exact absurd ‹none=some _› (by simp)
   ·rename_i q1 z1 ms1 hm1 q2 z2 ms2 hm2 e1 e2
    simp only[AE] at e1 e2
    obtain⟨h1,h2⟩:=guardK_some h
    simp only[A4,decide_eq_true_eq] at h1
    have hz1:=int_opd hr e1
    have hz2:=int_opd hr e2
    have a1:(0:Int)<=z1:=h1.1.1.1
    have a2:(z1:Int)<=z2:=h1.1.1.2
    have a3:(0:Int)<=z2:=h1.1.2
    have a4:(z2:Int)<=n:=h1.2
    have key:∀z1 z2:Int,0<=z1->z1<=z2->0<=z2->z2<=(n:Int)->z1.toNat<=z2.toNat/\z2.toNat<=n/\z1<=(z2.toNat:Nat):=fun z1 z2 _ _ _ _=>by omega
    obtain⟨k1,k2,k3⟩:=key z1 z2 a1 a2 a3 a4
    refine⟨(z1:Int).toNat,(z2:Int).toNat,h2,k1,k2,fun α xs hx=>by simp[cutList],(fun h=>nomatch h),fun b cap hc w=>?_⟩
    have hle:(z2:Int)<=cap:=BZ a4 (by omega)
    simp only[Instr.sliceBounds,hz1,hz2,Ak,A5,A6,A3,run_sliceBound _ _ _ _ _ a3 hle,run_sliceBound _ _ _ _ _ a1 k3]
   ·cases h
theorem Leaf.take {A:Nat->Prop} {e:TypeId} {t:Ty} {τ:Nat} {xs:List t.den} {ad:Option Addr} {cap m:Nat} (h:Leaf w A E σ e t τ xs (.slice ad xs.length cap)) (hm:m<=xs.length):
  Leaf w A E σ e t τ (xs.take m) (.slice ad m cap):=by
 have hl:(xs.take m).length=m:=by simp;omega
 obtain⟨h1,ad',cap',e1,h2,h3,h4,h5⟩:=h
 simp only[Value.slice.injEq,true_and] at e1
 obtain⟨rfl,rfl⟩:=e1
 have hseg:∀ (css:List Value) i,i<m->seg (css.take (m*t.size)) t.size i=seg css t.size i:=by
  intro css i hi
  have h6:(i+1)*t.size<=m*t.size:=A7 _ hi
  rw[AH] at h6
  simp only[V.seg]
  rw[BA,BB,Ah (by omega)]
 have hle:m*t.size<=xs.length*t.size:=A7 _ hm
 refine⟨h1,ad,cap,by rw[hl],fun hz=>?_,fun h=>?_,h4,fun hal=>?_⟩
 ·obtain⟨ad',cap',css,e1,e2,e3,e4,e5⟩:=h2 hz
  simp only[Ba,Value.slice.injEq,and_true,true_and] at e1
  obtain⟨rfl,rfl⟩:=e1
  refine⟨ad,cap,css.take (m*t.size),by rw[hl],?_,fun i x hx=>?_,fun hn=>?_,?_⟩
  ·show(css.take (m*t.size)).length=(xs.take m).length*t.size
   rw[hl,AJ];omega
  ·have hi:i<m:=by have:=(A8.1 hx).1;rw[hl] at this;exact this
   rw[hseg _ _ hi]
   exact e3 i x (by rw[AC,if_pos hi] at hx;exact hx)
  ·obtain⟨b,f,q1,q2,q3⟩:=e4 (fun h=>hn (by rw[h];simp))
   refine⟨b,f,q1,q2,fun j v hv=>q3 j v ?_⟩
   rw[AC] at hv
   split at hv
   ·exact hv
   ·cases hv
  ·show(xs.take m).length<=cap
   rw[hl];omega
 ·obtain⟨q1,q2,q3⟩:=h3 h
  exact⟨q1,q2,by rw[q3];simp⟩
 ·obtain⟨css,hown,hrs⟩:=h5 hal
  refine⟨css.take (m*t.size),⟨?_,?_⟩,fun i x hx=>?_⟩
  ·rw[hl,AJ,hown.1];omega
  ·rcases hown.2 with⟨e1,e2⟩|⟨g,cap',cur,e1,q2,q3,q4,q5,q6,q7⟩
   ·simp only[Value.slice.injEq] at e1
    left
    refine⟨?_,by rw[hl];omega⟩
    rw[e1.1,e1.2.2,show m=0 by omega]
   ·simp only[Value.slice.injEq] at e1
    right
    simp only[true_and] at e1
    refine⟨g,cap,cur,by rw[hl,e1.1],q2,q3,by rw[hl];have:=e1.2;omega,by rw[e1.2];exact q5,by rw[e1.2];exact q6,?_⟩
    rw[hl,<-q7,BB,Ah (by omega)]
  ·have hi:i<m:=by have:=(A8.1 hx).1;rw[hl] at this;exact this
   rw[hseg _ _ hi]
   exact hrs i x (by rw[AC,if_pos hi] at hx;exact hx)
theorem freeze_us (σ:St) (τ υ:Nat) (h:σ.us υ=true):(σ.freeze [τ]).us υ=true:=by
 simp only[St.freeze]
 cases hc:σ.al.contains τ with
 |false=>exact h
 |true=>
  simp only[cond_true]
  rw[us_iff] at h ⊢
  rcases h with h|h|h|h
  ·exact .inl h
  ·exact .inr (.inl h)
  ·by_cases he:υ=τ
   ·subst he;exact .inr (.inr (.inr AZ))
   ·exact .inr (.inr (.inl ((Bk he).2 h)))
  ·exact .inr (.inr (.inr (AL _ h)))
theorem freeze_not (hn:σ.al.Nodup) (τ:Nat):τ∉(σ.freeze [τ]).al:=by
 simp only[St.freeze]
 cases hc:σ.al.contains τ with
 |false=>intro h;simp at hc;exact hc h
 |true=>intro h;exact(hn.mem_erase_iff.1 h).1 rfl
theorem opd_freeze (σ:St) (l:List Nat) (x:Operand):opd (σ.freeze l) x=opd σ x:=by
 cases x with
 |tmp t=>simp[opd,(freeze_fr σ l).1]
 |const v=>
  cases v with
  |slice a n c=>cases a<;>cases n<;>cases c<;>rfl
  |_=>rfl
 |_=>rfl
theorem addr_add {b f j:Nat}:(⟨b,f,none⟩:Addr).add j=⟨b,f+j,none⟩:=add_addr b f j
theorem leaf_cut (hr:RelE X E σ a.tmps w) {e:TypeId} {t:Ty} {τ:Nat} {xs:List t.den} {ad:Option Addr} {cap:Nat} (h:Leaf w (Fz X E σ w) E σ e t τ xs (.slice ad xs.length cap)) (hu:σ.us τ=true) (hn:τ∉σ.al)
  {l m:Nat} (hlm:l<=m) (hm:m<=xs.length) (hpos:0<t.size):
  Leaf w (Fz X E σ w) E σ e t 0 ((xs.take m).drop l) (.slice (if cap=l then ad else ad.map (·.add (l*t.size))) (m-l) (cap-l)):=by
 have hnt:=hr.nt2
 have hl:((xs.take m).drop l).length=m-l:=by simp;omega
 obtain⟨ad',cap',css,e1,e2,e3,e4,e5⟩:=leaf_row hr h hu
 simp only[Value.slice.injEq,true_and] at e1
 obtain⟨rfl,rfl⟩:=e1
 refine⟨by omega,_,_,by rw[hl],fun _=>?_,fun h=>by omega,fun h=>by omega,fun h=>absurd h hr.z⟩
 have hle:m*t.size<=xs.length*t.size:=A7 _ hm
 have hle2:l*t.size<=m*t.size:=A7 _ hlm
 refine⟨_,_,(css.take (m*t.size)).drop (l*t.size),by rw[hl],?_,fun i x hx=>?_,fun hcn=>?_,?_⟩
 ·show _=((xs.take m).drop l).length*t.size
  rw[hl,AV,AJ,Nat.sub_mul];omega
 ·have hx':((xs.take m).drop l)[i]?=some x:=hx
  have hi:i<m-l:=by have:=(A8.1 hx').1;rw[hl] at this;exact this
  rw[AI,AC,if_pos (by omega)] at hx'
  have:=e3 _ x hx'
  have hs:seg ((css.take (m*t.size)).drop (l*t.size)) t.size i=seg css t.size (l+i):=by
   have h6:(l+i+1)*t.size<=m*t.size:=A7 _ (by omega)
   simp only[AH,Nat.one_mul] at h6
   simp only[V.seg,AH]
   rw[Be,BA,BB,Ah (by omega)]
  rw[hs];exact this
 ·have hcn':css≠[]:=fun h=>hcn (by rw[h];simp)
  obtain⟨b,f,rfl,hat,hfz,_⟩:=e4 hcn'
  have hne:cap≠l:=by
   intro he
   apply hcn
   have:m=l:=by omega
   rw[this]
   exact Ad (by rw[AJ];omega)
  refine⟨b,f+l*t.size,by simp[hne,addr_add],hfz hn,fun j v hv=>?_⟩
  rw[AI,AC] at hv
  split at hv
  ·rw[B6];exact hat _ _ hv
  ·cases hv
 ·show((xs.take m).drop l).length<=cap-l
  rw[hl];omega
theorem step_slice (T:Tabs) (hT:TabOk P T.T) {s:TypeId} {x:Operand} {lo hi:Option Operand} (ho:o.op= .slice s x lo hi none) {k:St->Option R} {r:R} (h:stepK T o σ k=some r) (hr:RelE X E σ a.tmps w):StepFix P X o a w (fun σ'=>k σ'=some r):=by
 simp only[stepK,ho] at h
 have hnt:0<σ.nt:=by have:=hr.nt2;omega
 split at h
 ·rename_i hTs
  obtain⟨m,ht⟩:=hT.ty s _ hTs
  split at h
  ·rename_i l ms hm ex
   obtain⟨i,j,h2,hij,hjn,hcut,_,hb⟩:=boundK_ok (P:=P) hr h
   have hv:=val_str (slot_of_opd hr ex)
   rw[hcut _ _ rfl] at h2
   refine stepFix_value (v:=.string ⟨(((l:List UInt8).take j).drop i).toArray⟩) (fun w1 hx1=>?_) ⟨E,hr.put (s:=.val ⟨.str,((l:List UInt8).take j).drop i,[]⟩ none) o.dst (slot_str _ none)⟩ h2
   have hb':=hb false _ (AQ _)
   simp only[execOp,ho,hv,A5,B9]
   rw[run_sliceAt_string _ _ _ _ _ _ (tyB_str ht)]
   have hsize:(⟨(l:List UInt8).toArray⟩:ByteArray).size=(l:List UInt8).length:=rfl
   simp only[Instr.slice,A5,run_underlying (tyB_str ht),A3,hsize,hb',A6,Option.isSome_none,Ab,if_false]
   rw[ByteArray.extract_mk,BA]
  ·cases h
 ·rename_i e t hTs
  obtain⟨m,ht⟩:=hT.ty s _ hTs
  obtain⟨m2,hu,he⟩:=tyB_sl ht
  have hel:P.elem s=e:=by simp[BY,hu]
  have hsz:∀w:World,(sizeOf e).run P w= .ok t.size w:=fun w=>run_sizeOf_ty he w
  have hpos:0<t.size:=by have:=tyB_ok ht;simp[Ty.ok] at this;exact this.2
  have hs:=slot_opd hr x
  revert hs h
  cases ex:opd σ x with
  |val y hm=>
   intro h hs
   cases hc:cast? (.sl e t) y with
   |none=>simp only[hc] at h;cases h
   |some q=>
    obtain⟨v,ms⟩:=q
    simp only[hc] at h
    have e':=cast?_some hc
    subst e'
    obtain⟨i,j,h2,hij,hjn,hcut,hlo,hb⟩:=boundK_ok (P:=P) hr h
    obtain⟨cs,⟨c,ec,hleaf⟩,hv,hms⟩:=hs
    subst ec
    obtain⟨ad,cap,hcc⟩:∃ad cap,c= .slice ad (v:List t.den).length cap:=by obtain⟨_,ad,cap,hcc,_⟩:=hleaf;exact⟨ad,cap,hcc⟩
    subst hcc
    have hcap:(v:List t.den).length<=cap->∀w1,Ext w w1->(execOp a.eval o).run P w1= .ok (.value (.slice (if cap=i then ad else ad.map (·.add (i*t.size))) (j-i) (cap-i))) w1:=by
     intro hcap w1 _
     have hb':=hb true cap hcap
     simp only[execOp,ho,hv,toVal,Ty.agg,Ab,if_false,Au,A5,B9]
     rw[run_sliceAt_slice _ _ _ _ _ _ (by rw[hel];exact hu)]
     simp only[Instr.slice,A5,run_underlying hu,A3,hb',hsz,A6]
    cases lo with
    |none=>
     have hi0:=hlo rfl
     subst hi0
     simp only at h2
     cases hus:σ.us (ms.headD 0) with
     |false=>rw[hus] at h2;simp only[cond_false] at h2;cases h2
     |true=>
     rw[hus] at h2
     simp only[cond_true] at h2
     have hct:=hcut t.den (v:List t.den) rfl
     simp only[B9,C4] at hct
     rw[hct] at h2
     have hle:(v:List t.den).length<=cap:=by
      obtain⟨_,_,_,q1,_,_,_,q5⟩:=leaf_row hr hleaf hus
      simp only[Value.slice.injEq,true_and] at q1
      rw[q1.2];exact q5
     refine stepFix_value (hcap hle) ⟨E,hr.put (s:=.val ⟨.sl e t,(v:List t.den).take j,ms⟩ hm) o.dst ⟨_,⟨_,rfl,hleaf.take hjn⟩,?_,hms⟩⟩ h2
     have hadd:ad.map (·.add (0*t.size))=ad:=by cases ad<;>simp[Addr.add]
     rw[hadd]
     simp[toVal,Ty.agg]
    |some lo'=>
     simp only at h2
     cases hus:σ.us (ms.headD 0) with
     |false=>rw[hus] at h2;simp only[cond_false] at h2;cases h2
     |true=>
      rw[hus] at h2
      simp only[cond_true] at h2
      have hms1:ms=[ms.headD 0]:=by
       have:ms.length=1:=hms
       match ms,this with
       |[τ],_=>rfl
      have hr':=hr.freeze ms
      have hleaf':Leaf w (Fz X E (σ.freeze ms) w) E (σ.freeze ms) e t (ms.headD 0) (v:List t.den) (.slice ad (v:List t.den).length cap):=by
       have hs2:=slot_opd hr' x
       rw[opd_freeze,ex] at hs2
       obtain⟨cs,⟨c,ec,hleaf2⟩,hv2,_⟩:=hs2
       subst ec
       rw[hv] at hv2
       simp only[toVal,Ty.agg,Ab,if_false,Au] at hv2
       rw[hv2];exact hleaf2
      have hus':(σ.freeze ms).us (ms.headD 0)=true:=by rw[hms1];exact freeze_us σ _ _ (by simpa using hus)
      have hnal:ms.headD 0∉(σ.freeze ms).al:=by rw[hms1];exact freeze_not hr.aln _
      obtain⟨_,_,_,q1,_,_,_,q5⟩:=leaf_row hr' hleaf' hus'
      simp only[Value.slice.injEq,true_and] at q1
      have hle:(v:List t.den).length<=cap:=by rw[q1.2];exact q5
      rw[hcut t.den (v:List t.den) rfl] at h2
      exact stepFix_value (hcap hle) ⟨E,hr'.put (s:=.val ⟨.sl e t,((v:List t.den).take j).drop i,[0]⟩ none) o.dst ⟨_,⟨_,rfl,leaf_cut hr' hleaf' hus' hnal hij hjn hpos⟩,rfl,rfl⟩⟩ h2
  |_=>intro h;simp at h
 ·cases h
end
end Go.Proofs.YtacbkfginiknaaaDoor.V
namespace Go.Proofs.YtacbkfginiknaaaDoor.V
open Go
section
variable {P:Program} {X:Ctx} {E:Env} {σ:St} {A0:Array Value} {a:Act} {w:World} {o:Oper} {R:Type}
theorem step_convert (T:Tabs) (hT:TabOk P T.T) {s d:TypeId} {x:Operand} (ho:o.op= .convert s d x) {k:St->Option R} {r:R} (h:stepK T o σ k=some r) (hr:RelE X E σ a.tmps w):StepSlot P X E σ o a w (fun σ'=>k σ'=some r):=by
 simp only[stepK,ho] at h
 split at h
 ·rename_i q0 q q1 n m hm hs hd ex
  obtain⟨_,hs'⟩:=hT.ty s _ hs
  obtain⟨_,hd'⟩:=hT.ty d _ hd
  have hv:=int_opd hr ex
  have hu:=tyB_int hd'
  have hk:P.intKind d=q:=by simp[Program.intKind,hu]
  refine stepSlot_value (s:=.val ⟨.int q,q.wrap n,[]⟩ none) (v:=.int q (q.wrap n)) (fun w1 hx1=>?_) ((slot_int _ _ none)) h
  simp only[execOp,ho,hv,A5]
  rw[run_convert_int _ _ _ _ _ (by rw[tyB_int hs'];rfl) (by rw[hk];exact hu),hk]
  simp only[A3,A6]
 ·rename_i n m hm hs hd ex
  obtain⟨_,hs'⟩:=hT.ty s _ hs
  obtain⟨_,hd'⟩:=hT.ty d _ hd
  have hv:=val_str (slot_of_opd hr ex)
  refine stepSlot_value (s:=.val ⟨.str,n,[]⟩ none) (v:=.string ⟨(n:List UInt8).toArray⟩) (fun w1 hx1=>?_) ((slot_str _ none)) h
  simp only[execOp,ho,hv,A5,convert,run_underlying (tyB_str hs'),run_underlying (tyB_str hd'),A3,A6]
 ·rename_i e hs hd
  obtain⟨_,hs'⟩:=hT.ty s _ hs
  obtain⟨_,hd'⟩:=hT.ty d _ hd
  obtain⟨_,hu,he⟩:=tyB_sl hs'
  have he':=tyB_int he
  have hud:=tyB_str hd'
  split at h
  ·rename_i _ n ms hm ex
   cases hus:σ.us (ms.headD 0) with
   |false=>rw[hus] at h;simp only[cond_false] at h;cases h
   |true=>
    rw[hus] at h
    simp only[cond_true] at h
    obtain⟨cs,⟨c,ec,hleaf⟩,hv,_⟩:=slot_of_opd hr ex
    subst ec
    simp only[toVal,Ty.agg,Ab,if_false,Au] at hv
    obtain⟨ad,cap,css,rfl,hl,hrs,hne,hcap⟩:=leaf_row hr hleaf hus
    refine stepSlot_value (s:=.val ⟨.str,(n:List Int).map fun(b:Int)=>UInt8.ofNat b.toNat,[]⟩ none) (v:=.string (strOfNums n)) (fun w1 hx1=>?_) ((slot_str _ none)) h
    simp only[execOp,ho,hv,A5]
    by_cases hc:css=[]
    ·have hn:(n:List Int)=[]:=by
      have:(n:List Int).length*1=0:=by have:=hl;rw[hc] at this;exact this.symm
      exact AP (by omega)
     have:(convert s d (.slice ad (n:List Int).length cap)).run P w1= .ok (.string (strOfNums n)) w1:=by
      rw[hn]
      cases ad with
      |none=>exact run_convert_bytes_nil w1 s _ hu he' 0 cap d hud
      |some ad=>exact run_convert_bytes_back w1 s d _ ad cap [] hu he' hud (fun j hj=>by simp at hj)
     rw[this];simp only[A3,A6]
    ·obtain⟨b,f,rfl,hat,_⟩:=hne hc
     rw[run_convert_bytes_arg w1 s _ hu he' b f _ cap n rfl (fun i hi=>(hat.ext hx1) i _ (by
      have hz:(n:List Int)[i]?=some (n:List Int)[i]:=AM hi
      have h1:=hrs i _ hz
      have h2:seg css 1 i=[.int .u8 ((n:List Int)[i])]:=h1
      have h3:css[i]?=some (.int .u8 ((n:List Int)[i])):=by
       have:(seg css 1 i)[0]?=some (.int .u8 ((n:List Int)[i])):=by rw[h2];rfl
       simpa[V.seg] using this
      rw[h3,List.getD,hz];rfl)) d hud]
     simp only[A3,A6]
  ·rename_i ex
   have hv:a.eval x= .slice none 0 0:=opd_nil hr ex
   refine stepSlot_value (s:=.val ⟨.str,([]:List UInt8),[]⟩ none) (v:=.string ⟨([]:List UInt8).toArray⟩) (fun w1 hx1=>?_) ((slot_str _ none)) h
   simp only[execOp,ho,hv,A5]
   rw[run_convert_bytes_nil w1 s _ hu he' 0 0 d hud]
   simp only[A3,A6];rfl
  ·cases h
 ·cases h
theorem RelE.fresh (hr:RelE X E σ A0 w) {w1:World} (hx:Ext w w1) {g:Nat} (hg:w.heap.size<=g/\g<w1.heap.size):
  RelE X (E.tok σ.nt (some g)) (σ.more 1) A0 w1/\
   Keep w w1 (Fz X E σ w) (Fz X (E.tok σ.nt (some g)) (σ.more 1) w1) E (E.tok σ.nt (some g)) σ (σ.more 1):=by
 have hn:σ.nt∉σ.al:=fun h=>by have:=(hr.alr _ h).2.1;omega
 have:=hr.renew (w1:=w1) σ.nt σ.ln (some g) (fun p hp=>.inr hp) (fun b hb _=>hx.block b hb) (hr.fr.ext hx) hx.size (fun b hb=>by injection hb with hb;subst hb;exact⟨.inr hg.1,hg.2⟩)
 rw[Bh hn] at this
 exact this
theorem leaf_new {E':Env} {σ':St} {A:Nat->Prop} {e:TypeId} {t:Ty} {τ g cap:Nat} {xs:List t.den} {css:List Value} (h2:2<=τ) (hlt:τ<σ'.nt) (hfz:τ∉σ'.fz) (hhd:E'.hd τ=some g)
  (hown:w.ownsRow 0 e t.size (.slice (some ⟨g,0,none⟩) xs.length cap) xs.length css) (hrs:∀ (i:Nat) (x:t.den),xs[i]?=some x->Rf w A t x (seg css t.size i)):
  Leaf w A E' σ' e t τ xs (.slice (some ⟨g,0,none⟩) xs.length cap):=by
 refine⟨hlt,_,_,rfl,fun hz=>?_,fun h=>by omega,fun _=>by rw[hhd];rfl,fun _=>⟨css,hown,hrs⟩⟩
 rcases hz with h|h
 ·omega
 ·exact absurd h hfz
theorem more_val {e:TypeId} {t:Ty} {A:Nat->Prop} {E':Env} {xs:List t.den} {g cap:Nat} {css:List Value} {w1:World} (hr:RelE X E σ A0 w) (hhd:E'.hd σ.nt=some g)
  (hown:w1.ownsRow 0 e t.size (.slice (some ⟨g,0,none⟩) xs.length cap) xs.length css) (hrs:∀ (i:Nat) (x:t.den),xs[i]?=some x->Rf w1 A t x (seg css t.size i)):
  SlotOk w1 A E' (σ.more 1) (.val ⟨.sl e t,xs,[σ.nt]⟩ none) (.slice (some ⟨g,0,none⟩) xs.length cap):=
 ⟨_,⟨_,rfl,leaf_new (τ:=σ.nt) hr.nt2 (An _) (fun h=>by have:=(hr.fzr _ h).2;omega) hhd hown hrs⟩,rfl,rfl⟩
theorem seg_made {t:Ty} {z:Array Value} {n i:Nat} (hz:z.toList=zc t) (hl:(zc t).length=t.size) (hpos:0<t.size) (hi:i<n):seg (madeCells z (n*t.size)).toList t.size i=zc t:=by
 have hi1:(i+1)*t.size<=n*t.size:=A7 _ hi
 rw[AH] at hi1
 have hzs:z.size=t.size:=by rw[<-AT,hz,hl]
 apply Al
 intro q
 simp only[V.seg,AC,AI]
 by_cases hq:q<t.size
 ·rw[if_pos hq]
  have h1:i*t.size+q<n*t.size:=by omega
  have h2:(madeCells z (n*t.size)).toList[i*t.size+q]?=some (z[(i*t.size+q)%z.size]!):=by
   simp[madeCells,h1]
  rw[h2,hzs]
  have h3:(i*t.size+q)%t.size=q:=by rw[Nat.add_comm,Nat.add_mul_mod_self_right,Nat.mod_eq_of_lt hq]
  rw[h3,<-hz]
  have h4:q<z.size:=by omega
  simp[h4]
 ·rw[if_neg hq,Bd (by omega)]
theorem step_makeSlice (T:Tabs) (hT:TabOk P T.T) {s:TypeId} {x y:Operand} (ho:o.op= .makeSlice s x y) {k:St->Option R} {r:R} (h:stepK T o σ k=some r) (hr:RelE X E σ a.tmps w):StepOk P X T o a w (fun σ'=>k σ'=some r):=by
 simp only[stepK,ho] at h
 split at h
 ·rename_i e t q1 n m1 h1 q2 c m2 h2 hs ex ey
  obtain⟨_,hs'⟩:=hT.ty s _ hs
  obtain⟨_,hu,he⟩:=tyB_sl hs'
  have hpos:0<t.size:=by have:=tyB_ok hs';simp[Ty.ok] at this;exact this.2
  obtain⟨g1,g2⟩:=guardK_some h
  simp only[A4,decide_eq_true_eq] at g1
  obtain⟨fi,z,i1,i2,i3,i4,i5⟩:=tyB_info he
  have v1:=int_opd hr ex
  have v2:=int_opd hr ey
  have a1:(0:Int)<=n:=g1.1.1
  have a2:(n:Int)<=c:=g1.1.2
  have a3:(c:Int)<=4294967296:=g1.2
  have hb:(fi.bytes:Int)*c<=281474976710656:=by
   have h5:(fi.bytes:Int)<=32768:=by omega
   have h6:(0:Int)<=c:=BZ a1 a2
   calc (fi.bytes:Int)*c<=32768*c:=Int.mul_le_mul_of_nonneg_right h5 h6
    _<=32768*4294967296:=Int.mul_le_mul_of_nonneg_left a3 (by decide)
    _<=281474976710656:=by decide
  have hrun:=run_make (P:=P) w s e fi z hu i1 i4 q1 q2 n c a1 a2 hb (BZ a3 (show(4294967296:Int)<=9223372036854775807 by decide))
  have hzl:(zc t).length=t.size:=(rf_zero (w:=w) (A:=fun _=>False) (tyB_ok he)).length
  have hx:=Ext.alloc w (.cells (madeCells z.cells ((c:Int).toNat*fi.size)) e)
  obtain⟨hr1,K1⟩:=hr.fresh hx (g:=w.heap.size) ⟨AQ _,by simp⟩
  have key:∀n c:Int,0<=n->n<=c->c<=4294967296->n.toNat<=c.toNat/\c.toNat<=maxLen:=fun n c _ _ _=>by simp only[maxLen];omega
  obtain⟨k1,k2⟩:=key n c a1 a2 a3
  have hln:(List.replicate (n:Int).toNat t.zero).length=(n:Int).toNat:=by simp
  have hle:(n:Int).toNat*t.size<=(c:Int).toNat*t.size:=A7 _ k1
  refine stepOk_value (v:=.slice (some ⟨w.heap.size,0,none⟩) (List.replicate (n:Int).toNat t.zero).length (c:Int).toNat) ?_ ⟨_,hr1.put (s:=.val ⟨.sl e t,List.replicate (n:Int).toNat t.zero,[σ.nt]⟩ none) o.dst
   (more_val (css:=(madeCells z.cells ((c:Int).toNat*fi.size)).toList.take ((n:Int).toNat*t.size)) hr (if_pos rfl) ?_ ?_)⟩ g2
  ·simp only[execOp,ho,v1,v2,hrun,A5,A3,A6,hln]
  ·rw[hln]
   refine⟨by rw[AJ,AT,size_madeCells,i2];omega,.inr ⟨_,_,_,rfl,BF _,heap_alloc_new w _,k1,k2,by rw[size_madeCells,i2],rfl⟩⟩
  ·intro i v hv
   rw[BC] at hv
   split at hv
   ·rename_i hi
    injection hv with hv;subst hv
    have h6:(i+1)*t.size<=(n:Int).toNat*t.size:=A7 _ hi
    rw[AH] at h6
    have:seg ((madeCells z.cells ((c:Int).toNat*fi.size)).toList.take ((n:Int).toNat*t.size)) t.size i=zc t:=by
     rw[<-seg_made (z:=z.cells) (n:=(c:Int).toNat) i5 hzl hpos (AB hi k1),i2]
     simp only[V.seg]
     rw[BA,BB,Ah (by omega)]
    rw[this]
    exact rf_zero (tyB_ok he)
   ·cases hv
 ·cases h
end
end Go.Proofs.YtacbkfginiknaaaDoor.V
namespace Go.Proofs.YtacbkfginiknaaaDoor.V
open Go
section
variable {P:Program} {X:Ctx} {E:Env} {σ:St} {A0:Array Value} {a:Act} {w:World} {o:Oper} {R:Type}
theorem append_cases (t ty e:TypeId) (i:TypeInfo) (z:Value) (size:Nat) (ht:P.underlying t=some (.slice e)) (hi:P.info? e=some i) (hz:i.zero=some z)
  (hsize:i.size=size) (hzs:z.cells.size=size) (hsz:0<size)
  (v:Value) (n:Nat) (xs:List Value) (hown:w.ownsRow 0 e size v n xs)
  (ad:Option Addr) (m c:Nat) (news:List Value) (hl:news.length=m*size) (hnews:news≠[]->∃a,ad=some a/\∀j u,news[j]?=some u->w.cell? (a.add j)=some u) (h1:∀u∈news,u.oneCell'=true)
  (h63:n+m<=maxLen) (hbytes:(n+m)*i.bytes<=140737488355328):
  ∃v' w',(Builtin.append_ #[t,t] ty #[v,.slice ad m c]).run P w= .ok v' w'/\
   ((v'=v/\w'=w/\m=0)\/
   (∃g cap cur arr,v= .slice (some ⟨g,0,none⟩) n cap/\v'= .slice (some ⟨g,0,none⟩) (n+m) cap/\w.heap[g]?=some (.cells cur e (0,0))/\w'=w.setRow g arr/\arr.size=cur.size/\w'.ownsRow 0 e size v' (n+m) (xs++news))\/
   (∃cap,v'= .slice (some ⟨w.heap.size,0,none⟩) (n+m) cap/\Ext w w'/\w.heap.size<w'.heap.size/\w'.ownsRow 0 e size v' (n+m) (xs++news))):=by
 subst hsize
 have hsmall:n+m<=9223372036854775807:=by simp only[maxLen] at h63;omega
 by_cases hn:news=[]
 ·subst hn
  have hm:m=0:=by
   have h2:m*i.size=0:=by rw[<-hl];rfl
   rcases Bb.1 h2 with h|h<;>omega
  subst hm
  refine⟨v,w,?_,.inl ⟨rfl,rfl,rfl⟩⟩
  have hf:∀w:World,(Builtin.firstCells i.size 0 (.slice ad 0 c)).run P w= .ok #[] w:=by
   intro w
   cases ad with
   |none=>simp[Builtin.firstCells]
   |some ad=>simp[Builtin.firstCells,loadCells,loadCellsFrom]
  rcases hown.2 with⟨rfl,rfl⟩|⟨g,cap,cur,rfl,_,_,hnc,_⟩
  ·simp[Builtin.append_,run_underlying ht,sizeOf,typeInfo,hi,Builtin.lenOf,hf]
  ·simp[Builtin.append_,run_underlying ht,sizeOf,typeInfo,hi,Builtin.lenOf,hf,hnc,storeCells]
 ·obtain⟨a,rfl,hnw⟩:=hnews hn
  have hm:0<m:=by
   rcases Br m with h|h
   ·subst h;exact absurd (AP (by omega)) hn
   ·exact h
  have hlen:(xs++news).length=(n+m)*i.size:=by rw[AN,hown.1,hl,AH]
  have grown:∀ (old:Nat),old<n+m->
    (w.drew.alloc (.cells (xs.toArray++news.toArray++Builtin.zeroCells z.cells (grownCap w (n+m) old e-(n+m))) e)).ownsRow 0 e i.size
     (.slice (some ⟨w.heap.size,0,none⟩) (n+m) (grownCap w (n+m) old e)) (n+m) (xs++news):=by
   intro old ho
   have hge:=grownCap_ge w (n+m) old e
   have hcm:grownCap w (n+m) old e<=maxLen:=grownCap_le_maxLen w (n+m) old e h63
   refine⟨hlen,.inr ⟨w.heap.size,_,_,rfl,BF _,heap_alloc_new w.drew _,hge,hcm,?_,?_⟩⟩
   ·simp only[Array.size_append,Az,size_zeroCells,hzs,hown.1,hl,<-AH]
    congr 1
    omega
   ·simp only[Array.toList_append,Ac]
    rw[<-Ac,<-hlen]
    exact C7
  have hext:∀ob,Ext w (w.drew.alloc ob):=fun ob=>(Ext.drew w).trans (Ext.alloc _ _)
  rcases hown.2 with⟨rfl,rfl⟩|⟨g,cap,cur,rfl,hbg,hg,hnc,hcm,hcs,htake⟩
  ·have hx:xs=[]:=AP (by simpa using hown.1)
   subst hx
   have hr:=run_append_nil (P:=P) w t ty e i z ht hi hz a m c news hl hnw hm (by omega) (by have hb:=hbytes;simp only[B0] at hb;omega)
   have hgr:=grown 0 (by omega)
   simp only[B0,Ar,Array.empty_append] at hgr ⊢
   exact⟨_,_,hr,.inr (.inr ⟨_,rfl,hext _,by simp,hgr⟩)⟩
  ·by_cases hroom:n+m<=cap
   ·have hfit:n*i.size+news.length<=cur.size:=by rw[hl,hcs,<-AH];exact A7 _ hroom
    have hr:=run_append_room (P:=P) w t ty e i ht hi g n cap cur hg a m c news hl hnw h1 hroom hfit
    refine⟨_,_,hr,.inr (.inl ⟨g,cap,cur,_,rfl,rfl,hg,rfl,?_,hlen,.inr ⟨g,cap,_,rfl,hbg,setRow_heap w g cur _ e _ hg,hroom,hcm,?_,?_⟩⟩)⟩
    ·simp only[Az,AN,AJ,AV,AT]
     omega
    ·simp only[Az,AN,AJ,AV,AT]
     omega
    ·rw[htake,<-hlen]
     exact C7
   ·have holds:∀j u,xs[j]?=some u->w.cell? ((⟨g,0,none⟩:Addr).add j)=some u:=hown.cells (g:=g) rfl
    have hr:=run_append_grow (P:=P) w t ty e i z ht hi hz ⟨g,0,none⟩ n cap xs hown.1 holds a m c news hl hnw (by omega) (by omega) (growslice_fits (by omega) hbytes)
    exact⟨_,_,hr,.inr (.inr ⟨_,rfl,hext _,by simp,grown cap (by omega)⟩)⟩
theorem seg_append1 {c1 c2:List Value} {n m i:Nat} (hl:c1.length=m*n) (hi:i<m):seg (c1++c2) n i=seg c1 n i:=by
 have:(i+1)*n<=m*n:=A7 _ hi
 rw[AH] at this
 simp only[V.seg]
 rw[Aw (by omega),Ax (by simp;omega)]
theorem seg_append2 {c1 c2:List Value} {n m i:Nat} (hl:c1.length=m*n):seg (c1++c2) n (m+i)=seg c2 n i:=by
 simp only[V.seg]
 rw[AH,<-hl,BV,Ad (by omega),AX,Ar]
theorem rows_one {A:Nat->Prop} {t:Ty} {xs:List t.den} {css:List Value} (hpos:0<t.size) (hl:css.length=xs.length*t.size) (hrs:∀ (i:Nat) (x:t.den),xs[i]?=some x->Rf w A t x (seg css t.size i)):
  ∀c∈css,c.oneCell'=true:=by
 intro c hc
 obtain⟨q,hq,rfl⟩:=Bj.1 hc
 have hqn:q/t.size<xs.length:=by rw[Bf hpos,<-hl];exact hq
 refine(hrs _ _ (AM hqn)).one _ ?_
 rw[Bg]
 refine⟨q%t.size,?_⟩
 rw[V.seg,AC,if_pos (CG _ hpos),AI,CB,Bz,AM hq]
theorem leaf_own (hr:RelE X E σ A0 w) {e:TypeId} {t:Ty} {τ:Nat} {xs:List t.den} {c:Value} (h:Leaf w (Fz X E σ w) E σ e t τ xs c) (ho:σ.own τ=true):
  ∃css,w.ownsRow 0 e t.size c xs.length css/\∀ (i:Nat) (x:t.den),xs[i]?=some x->Rf w (Fz X E σ w) t x (seg css t.size i):=by
 obtain⟨_,ad,cap,rfl,_,h1,_,h2⟩:=h
 simp only[St.own,C3,beq_iff_eq,BJ] at ho
 rcases ho with h|h
 ·obtain⟨rfl,rfl,rfl⟩:=h1 h
  exact⟨[],⟨by simp,.inl ⟨rfl,rfl⟩⟩,fun i x hx=>by simp at hx⟩
 ·exact h2 h
theorem step_append (T:Tabs) (hT:TabOk P T.T) {args:Array Operand} {ats:Array TypeId} (ho:o.op= .call ⟨.builtin .append,args,ats⟩) {k:St->Option R} {r:R} (h:stepK T o σ k=some r) (hr:RelE X E σ a.tmps w):StepOk P X T o a w (fun σ'=>k σ'=some r):=by
 simp only[stepK,ho] at h
 split at h
 ·rename_i t0 t1 s x ea eb
  obtain⟨so,xo,rfl,rfl,rfl⟩:=arr_two eb
  have hats:ats= #[t0,t1]:=by rw[<-BG];exact ea
  subst hats
  split at h
  ·rename_i e t hT0
   cases hc:V.coe (.sl e t) (opd σ so) with
   |none=>simp only[hc] at h;cases h
   |some q=>
    obtain⟨xs,ms⟩:=q
    simp only[hc] at h
    obtain⟨g1,h⟩:=guardK_some h
    split at h
    ·rename_i e1 u1 hT1
     cases hc2:V.coe (.sl e t) (opd σ xo) with
     |none=>simp only[hc2] at h;cases h
     |some q=>
      obtain⟨ys,us⟩:=q
      simp only[hc2] at h
      obtain⟨g2,hk⟩:=guardK_some h
      simp only[A4,beq_iff_eq,decide_eq_true_eq] at g2
      obtain⟨⟨rfl,hus⟩,hlim⟩:=g2
      obtain⟨_,ht⟩:=hT.ty t0 _ hT0
      obtain⟨_,hu,he⟩:=tyB_sl ht
      obtain⟨fi,z,i1,i2,i3,i4,i5⟩:=tyB_info he
      have hpos:0<t.size:=by have:=tyB_ok ht;simp[Ty.ok] at this;exact this.2
      have hzl:(zc t).length=t.size:=(rf_zero (w:=w) (A:=fun _=>False) (tyB_ok he)).length
      obtain⟨cs1,⟨c1,ec1,hleaf1⟩,hv1,hm1⟩:=hr.coe hc
      obtain⟨cs2,⟨c2,ec2,hleaf2⟩,hv2,hm2⟩:=hr.coe hc2
      subst ec1;subst ec2
      simp only[toVal,Ty.agg,Ab,if_false,Au] at hv1 hv2
      obtain⟨css,hown,hrs⟩:=leaf_own hr hleaf1 g1
      obtain⟨ad,cap,css2,rfl,hl2,hrs2,hne2,_⟩:=leaf_row hr hleaf2 hus
      have hlt:=hleaf1.1
      have hLIM:LIM=4294967296:=rfl
      obtain⟨v',w',hrun,hcase⟩:=append_cases (P:=P) (w:=w) t0 o.type e fi z t.size hu i1 i4 i2 (by rw[<-AT,i5,hzl]) hpos c1 _ css hown ad _ cap css2 hl2
       (fun hn=>by
        obtain⟨b,f,q1,q2,_⟩:=hne2 hn
        exact⟨_,q1,fun j u hu=>by rw[add_addr];exact q2 j u hu⟩)
       (rows_one hpos hl2 hrs2) (by simp only[maxLen];omega) (by
        calc (List.length xs+List.length ys)*fi.bytes<=4294967296*32768:=Nat.mul_le_mul (by omega) i3
         _<=140737488355328:=by decide)
      have hex:(execOp a.eval o).run P w= .ok (.value v') w':=by
       simp only[execOp,ho,resolve,invoke,builtin,B4,AY,BO,A5,A6,A3,hv1,hv2,hrun]
      have hll:(xs++ys:List t.den).length=List.length xs+List.length ys:=AN
      have elems:∀ {A':Nat->Prop} {w1:World},(∀ (v:t.den) cs,Rf w (Fz X E σ w) t v cs->Rf w1 A' t v cs)->∀ (i:Nat) (v:t.den),(xs++ys:List t.den)[i]?=some v->Rf w1 A' t v (seg (css++css2) t.size i):=by
       intro A' w1 hk i v hv
       by_cases hi:i<List.length xs
       ·rw[B7 hi] at hv
        rw[seg_append1 hown.1 hi]
        exact hk _ _ (hrs i v hv)
       ·rw[B5 (by omega)] at hv
        have:=seg_append2 (c1:=css) (c2:=css2) (n:=t.size) (m:=List.length xs) (i:=i-List.length xs) hown.1
        rw[Bl (by omega)] at this
        rw[this]
        exact hk _ _ (hrs2 _ v hv)
      obtain⟨G,ha,hb,hc',hd,ad',cap',hv',had',hown'⟩:∃G:Option Nat,(∀b,b<w.heap.size->(ms.headD 0∈σ.al->E.hd (ms.headD 0)≠some b)->w'.heap[b]?=w.heap[b]?)/\Fr X.M X.w0 w'/\w.heap.size<=w'.heap.size/\
        (∀b,G=some b->((ms.headD 0∈σ.al/\E.hd (ms.headD 0)=some b)\/w.heap.size<=b)/\b<w'.heap.size)/\
        ∃ad' cap',v'= .slice ad' (List.length xs+List.length ys) cap'/\ad'=G.map (fun b=>⟨b,0,none⟩)/\w'.ownsRow 0 e t.size v' (List.length xs+List.length ys) (css++css2):=by
       have hown1:ms.headD 0=1\/ms.headD 0∈σ.al:=by simpa[St.own] using g1
       obtain⟨_,ad1,cap1,rfl,_,hone,htwo,_⟩:=hleaf1
       rcases hcase with⟨rfl,rfl,hm0⟩|⟨g,cap1',cur,arr,e1,e2,hg,rfl,hsz,hown2⟩|⟨cap2,e2,hext,hlt2,hown2⟩
       ·have hc20:css2=[]:=AP (by rw[hl2,hm0,BU])
        refine⟨E.hd (ms.headD 0),fun _ _ _=>rfl,hr.fr,AQ _,fun b hb=>?_,ad1,cap1,by rw[hm0];rfl,?_,by rw[hc20,By,hm0];exact hown⟩
        ·rcases hown1 with h1|h1
         ·rw[h1,hr.hd0 1 (by omega)] at hb;cases hb
         ·exact⟨.inl ⟨h1,hb⟩,(hr.lt b (mem_owned_al h1 hb)).1⟩
        ·rcases hown1 with h1|h1
         ·rw[h1,hr.hd0 1 (by omega),(hone h1).1];rfl
         ·exact htwo (hr.alr _ h1).1
       ·simp only[Value.slice.injEq,true_and] at e1
        obtain⟨rfl,rfl⟩:=e1
        have hal:ms.headD 0∈σ.al:=by
         rcases hown1 with h1|h1
         ·have:=(hone h1).1;cases this
         ·exact h1
        have hhd:E.hd (ms.headD 0)=some g:=by
         have:=htwo (hr.alr _ hal).1
         cases hh:E.hd (ms.headD 0) with
         |none=>rw[hh] at this;simp at this
         |some b=>rw[hh] at this;simp at this;rw[this]
        refine⟨some g,fun b _ hb=>setRow_other w _ _ _ (fun he=>hb hal (by rw[he];exact hhd)),hr.fr.setRow hg hsz (fun hlt o hno=>?_),by simp,fun b hb=>?_,_,_,e2,rfl,hown2⟩
        ·rcases hr.srct _ hal g hhd with h|h
         ·exact absurd (hr.fpm g h o) hno
         ·omega
        ·injection hb with hb;subst hb
         exact⟨.inl ⟨hal,hhd⟩,by simpa using(hr.lt g (mem_owned_al hal hhd)).1⟩
       ·exact⟨some w.heap.size,fun b hb _=>hext.block b hb,hr.fr.ext hext,hext.size,fun b hb=>by injection hb with hb;subst hb;exact⟨.inr (AQ _),hlt2⟩,_,_,e2,rfl,hown2⟩
      obtain⟨hr1,K1⟩:=hr.renew (w1:=w') (ms.headD 0) σ.ln G (fun p hp=>.inr hp) ha hb hc' hd
      refine stepOk_value hex ⟨_,hr1.put (s:=.val ⟨.sl e t,(xs++ys:List t.den),[σ.nt]⟩ none) o.dst ?_⟩ hk
      subst hv'
      refine⟨_,⟨_,rfl,An _,ad',cap',by rw[hll],fun hz=>?_,fun h=>?_,fun _=>?_,fun _=>⟨_,by rw[hll];exact hown',elems fun _ _ h=>K1.rf h⟩⟩,rfl,rfl⟩
      ·rcases hz with h|h
       ·have h':σ.nt=0:=h
        have:=hr.nt2;omega
       ·have:=(hr.fzr _ h).2
        exact absurd this (C9 _)
      ·have h':σ.nt=1:=h
       have:=hr.nt2;omega
      ·rw[had']
       show G.map _=(if σ.nt=σ.nt then G else E.hd σ.nt).map _
       rw[if_pos rfl]
    ·cases h
  ·cases h
 ·cases h
end
end Go.Proofs.YtacbkfginiknaaaDoor.V
namespace Go.Proofs.YtacbkfginiknaaaDoor.V
open Go
section
variable {P:Program} {X:Ctx} {E:Env} {σ:St} {A0:Array Value} {a:Act} {w:World} {o:Oper} {R:Type}
theorem fold_splice (off:Nat):∀ (cs:List Value) (k:Nat) (A:Array Value),off+k+cs.length<=A.size->(cs.zipIdx k).foldl (fun A (x:Value×Nat)=>A.setIfInBounds (off+x.2) x.1) A=splice A (off+k) cs:=by
 intro cs
 induction cs with
 |nil=>intro k A _;simp[splice]
 |cons c r ih=>
  intro k A h
  simp only[Bw] at h
  simp only[List.zipIdx_cons,List.foldl_cons]
  rw[ih (k+1) _ (by simp;omega)]
  apply Bq
  intro j
  rw[splice_get (by simp;omega),splice_get (by simp;omega)]
  simp only[Array.getElem?_setIfInBounds,Bw]
  by_cases h1:j<off+k
  ·rw[if_pos (by omega),if_pos h1,if_neg (by omega)]
  ·by_cases h2:j=off+k
   ·subst h2
    rw[if_pos (by omega),if_pos rfl,if_pos (by omega),if_neg h1,if_pos (by omega),Nat.sub_self];rfl
   ·rw[if_neg (by omega),if_neg h1]
    by_cases h3:j<off+k+(r.length+1)
    ·rw[if_pos (by omega),if_pos h3]
     rw[show j-(off+k)=j-(off+(k+1))+1 by omega,List.getElem?_cons_succ]
    ·rw[if_neg (by omega),if_neg h3,if_neg (by omega)]
theorem fill_cons {place:Nat->Option (Nat×Nat)} {A:Array Value} {i off:Nat} {v:Value} {cx:List Value} {rest:List (Nat×Value)} (hp:place i=some (off,cx.length)) (hv:v.cells=cx.toArray) (h:off+cx.length<=A.size):
  Instr.fill place A ((i,v)::rest)=Instr.fill place (splice A off cx) rest:=by
 have hf:=fold_splice off cx 0 A (by omega)
 simp only[Bs] at hf
 simp only[Instr.fill,hp,hv,Az,ne_eq,not_true_eq_false,decide_false,Bool.false_or]
 rw[if_neg (by simp;omega)]
 congr 1
 rw[<-hf]
 simp
theorem splice_list {cs cx:List Value} {d:Nat}:splice cs.toArray d cx=(cs.take d++cx++cs.drop (d+cx.length)).toArray:=by simp[splice]
theorem st_ne (u:Ty):Ty.st u≠u:=fun h=>by have:=congrArg SizeOf.sizeOf h;simp at this
theorem parts_ok {n:Nat} {s:TypeId} {t:Ty} (hr:RelE X E σ a.tmps w) (ht:tyB P n s t=true) {place:Nat->Option (Nat×Nat)}
  (hplace:∀u,t= .st u->∀j p,fieldPath u j=some p->∃d m i,tyB P m i (fieldTy u p)=true/\place j=some (d,(fieldTy u p).size)/\∀b o,addr u (b,o) p=some (fieldTy u p,(b,o+d)))
  (hplace2:∀k u,t= .arr k u->(∃m i,tyB P m i u=true)/\∀j,place j=some (j*u.size,u.size)):
  ∀ (ps:List (Nat×Operand)) {x:Val} {cs:List Value} {k:Val->Option R} {r:R},partsK t (ps.map fun p=>(p.1,opd σ p.2)) x k=some r->x.t=t->Rv w (Fz X E σ w) E σ x.t x.v x.ms cs->x.ms.length=x.t.nl->
   ∃x' cs',k x'=some r/\x'.t=t/\Rv w (Fz X E σ w) E σ x'.t x'.v x'.ms cs'/\x'.ms.length=x'.t.nl/\Instr.fill place cs.toArray (ps.map fun p=>(p.1,a.eval p.2))=some cs'.toArray:=by
 intro ps
 induction ps with
 |nil=>intro x cs k r h hx hv hm;exact⟨x,cs,h,hx,hv,hm,rfl⟩
 |cons p ps ih=>
  intro x cs k r h hx hv hm
  obtain⟨i,z⟩:=p
  simp only[AY] at h ⊢
  unfold partsK at h
  split at h
  ·rename_i u
   cases hp:fieldPath u i with
   |none=>simp[hp] at h
   |some p=>
    simp only[hp] at h
    cases hc:V.coe (fieldTy u p) (opd σ z) with
    |none=>simp[hc] at h
    |some q=>
     obtain⟨v,ms⟩:=q
     simp only[hc] at h
     obtain⟨cz,hz1,hz2,hz3⟩:=hr.coe hc
     obtain⟨v',ms',d,q1,q2,q3,q4,q5⟩:=set_ok h hv hm (x:=⟨fieldTy u p,v,ms⟩) hz1 hz3
     obtain⟨d',m,i',h1,h2,h3⟩:=hplace u rfl i p hp
     have hd:d=d':=by
      have k1:=q5 0 0
      rw[hx] at k1
      cases p with
      |nil=>
       simp only[addr,AE,Ao] at k1
       exact absurd k1.1 (by simpa[fieldTy] using st_ne u)
      |cons s p=>
       rw[addr_st (by simp),h3] at k1
       simp at k1
       exact k1.symm
     subst hd
     have hcl:(a.eval z).cells=cz.toArray:=by rw[hz2];exact cells_toVal hz1 (tyB_scalar h1)
     obtain⟨x',cs',w1,w2,w3,w4,w5⟩:=ih (x:=⟨x.t,v',ms'⟩) q1 hx q2 q3
     refine⟨x',cs',w1,w2,w3,w4,?_⟩
     rw[fill_cons (cx:=cz) (by rw[h2,hz1.length]) hcl (by simpa using q4),splice_list]
     exact w5
  ·rename_i n' u
   cases hc:V.coe u (opd σ z) with
   |none=>simp[hc] at h
   |some q=>
    obtain⟨v,ms⟩:=q
    simp only[hc] at h
    cases hi:decide (i<n') with
    |false=>simp[hi] at h
    |true=>
     simp only[hi,cond_true] at h
     obtain⟨cz,hz1,hz2,hz3⟩:=hr.coe hc
     obtain⟨v',ms',d,q1,q2,q3,q4,q5⟩:=set_ok h hv hm (x:=⟨u,v,ms⟩) hz1 hz3
     obtain⟨⟨m,i',h1⟩,h2⟩:=hplace2 n' u rfl
     have hi':i<n':=by simpa using hi
     have hd:d=i*u.size:=by
      have k1:=q5 0 0
      rw[hx] at k1
      simp only[addr,hi',if_true,AE,Ao] at k1
      omega
     subst hd
     have hcl:(a.eval z).cells=cz.toArray:=by rw[hz2];exact cells_toVal hz1 (tyB_scalar h1)
     obtain⟨x',cs',w1,w2,w3,w4,w5⟩:=ih (x:=⟨x.t,v',ms'⟩) q1 hx q2 q3
     refine⟨x',cs',w1,w2,w3,w4,?_⟩
     rw[fill_cons (cx:=cz) (by rw[h2,hz1.length]) hcl (by simpa using q4),splice_list]
     exact w5
  ·cases h
theorem mapM_some {α β:Type} {g:α->Option β}:∀ (l:List α),(∀x∈l,∃y,g x=some y)->∃ys,l.mapM g=some ys/\∀ (j:Nat) x,l[j]?=some x->ys[j]?=g x:=by
 intro l
 induction l with
 |nil=>intro _;exact⟨[],rfl,fun j x h=>by simp at h⟩
 |cons c r ih=>
  intro h
  obtain⟨y,hy⟩:=h c AZ
  obtain⟨ys,h1,h2⟩:=ih fun x hx=>h x (AL _ hx)
  refine⟨y::ys,by simp[List.mapM_cons,hy,h1],fun j x hx=>?_⟩
  cases j with
  |zero=>simp at hx;subst hx;simp[hy]
  |succ j=>simpa using h2 j x (by simpa using hx)
theorem fieldsB_info {m:Nat}:∀ {u:Ty} {fs:List Field} {off:Nat},fieldsB (tyB P m) u fs off=true->∀f∈fs,∃t,tyB P m f.type t=true:=by
 intro u
 induction u with
 |pair a b _ ihb=>
  intro fs off h f hf
  cases fs with
  |nil=>cases hf
  |cons c r=>
   simp only[fieldsB,A4] at h
   rcases AD.1 hf with rfl|hf
   ·exact⟨a,h.1.1.2⟩
   ·exact ihb h.2 f hf
 |unit=>
  intro fs off h f hf
  cases fs with
  |nil=>cases hf
  |cons c r=>simp[fieldsB] at h
 |_=>
  intro fs off h f hf
  match fs,h with
  |[],_=>cases hf
  |[c],h=>
   simp only[fieldsB,A4] at h
   simp at hf;subst hf
   exact⟨_,h.1.2⟩
  |_::_::_,h=>simp[fieldsB] at h
theorem step_build (T:Tabs) (hT:TabOk P T.T) {s:TypeId} {ps:Array (Nat×Operand)} (ho:o.op= .build s ps) {k:St->Option R} {r:R} (h:stepK T o σ k=some r) (hr:RelE X E σ a.tmps w):StepSlot P X E σ o a w (fun σ'=>k σ'=some r):=by
 simp only[stepK,ho] at h
 cases hTs:T.T s with
 |none=>simp[hTs] at h
 |some t=>
  simp only[hTs] at h
  obtain⟨n,ht⟩:=hT.ty s _ hTs
  obtain⟨fi,z,i1,i2,i3,i4,i5⟩:=tyB_info ht
  have hz:=rv_zero (w:=w) (A:=Fz X E σ w) (E:=E) hr.nt2 hr.no1.1 hr.no1.2 (tyB_ok ht)
  have hzc:z.cells=(zc t).toArray:=by rw[<-i5]
  have hfin:∀cells,P.built s ((ps.map fun(i,x)=>(i,a.eval x)).toList)=some cells->∀w1,Ext w w1->(execOp a.eval o).run P w1= .ok (.value (.agg cells)) w1:=by
   intro cells hb w1 _
   simp only[execOp,ho,A5,run_build w1 s _ cells hb,A3,A6]
  have hmap:(ps.map fun(i,x)=>(i,a.eval x)).toList=ps.toList.map fun p=>(p.1,a.eval p.2):=by simp
  cases t with
  |st u=>
   simp only[Ty.agg,cond_true] at h
   obtain⟨m,fs,f1,_,f3⟩:=tyB_st ht
   obtain⟨places,p1,p2⟩:=mapM_some (g:=fun f:Field=>(P.info? f.type).map fun i=>(f.offset,i.size)) fs.toList (fun f hf=>by
    obtain⟨t',ht'⟩:=fieldsB_info f3 f hf
    obtain⟨fi',_,j1,_⟩:=tyB_info ht'
    exact⟨_,by rw[j1];rfl⟩)
   obtain⟨x',cs',w1,w2,w3,w4,w5⟩:=parts_ok (place:=(places.toArray[·]?)) hr ht (fun u' hu' j p hp=>by
     cases hu'
     obtain⟨f,d,q1,q2,q3,q4,q5,q6⟩:=fieldsB_at f3 hp
     obtain⟨fi',_,j1,j2,_⟩:=tyB_info q4
     refine⟨d,m,f.type,q4,?_,q6⟩
     have:=p2 j f q1
     rw[j1] at this
     simp only[Ak,j2,q2,B0] at this
     simpa using this) (fun k u' hu'=>by cases hu') ps.toList h rfl hz (by simp)
   obtain⟨xt,xv,xm⟩:=x'
   dsimp only at w2 w3 w4
   subst w2
   refine stepSlot_value (s:=.val ⟨.st u,xv,xm⟩ none) (hfin cs'.toArray ?_) (⟨cs',w3,rfl,w4⟩) w1
   rw[hmap]
   simp only[CA,i1,f1,i4,p1,hzc]
   exact w5
  |arr k' u=>
   simp only[Ty.agg,cond_true] at h
   obtain⟨m,e,f1,f2⟩:=tyB_arr ht
   obtain⟨fe,ze,e1,e2,_⟩:=tyB_info f2
   obtain⟨x',cs',w1,w2,w3,w4,w5⟩:=parts_ok (place:=fun i=>some (i*u.size,u.size)) hr ht (fun u' hu'=>by cases hu') (fun k u' hu'=>by
     cases hu'
     exact⟨⟨m,e,f2⟩,fun j=>rfl⟩) ps.toList h rfl hz (by simp)
   obtain⟨xt,xv,xm⟩:=x'
   dsimp only at w2 w3 w4
   subst w2
   refine stepSlot_value (s:=.val ⟨.arr k' u,xv,xm⟩ none) (hfin cs'.toArray ?_) (⟨cs',w3,rfl,w4⟩) w1
   rw[hmap]
   simp only[CA,i1,f1,i4,e1,hzc,e2]
   exact w5
  |_=>simp[Ty.agg] at h
end
end Go.Proofs.YtacbkfginiknaaaDoor.V
namespace Go.Proofs.YtacbkfginiknaaaDoor.V
open Go
section
variable {P:Program} {X:Ctx} {E:Env} {σ:St} {A0:Array Value} {a:Act} {w:World} {o:Oper} {R:Type}
theorem frz_freeze1 {τ υ:Nat} (h:frz σ τ) (b:Bool):frz (bif b then {σ with al:=σ.al.erase υ,fz:=υ::σ.fz} else σ) τ:=by
 cases b with
 |false=>exact h
 |true=>exact h.imp id (AL _)
theorem frz_freeze:∀ (l:List Nat) {σ:St} {τ:Nat},frz σ τ->frz (σ.freeze l) τ:=by
 intro l
 induction l with
 |nil=>intro σ τ h;exact h
 |cons υ r ih=>intro σ τ h;simp only[St.freeze];exact ih (frz_freeze1 h _)
theorem freeze_frz:∀ (l:List Nat) {σ:St} {τ:Nat},τ∈l->σ.us τ=true->τ=1\/frz (σ.freeze l) τ:=by
 intro l
 induction l with
 |nil=>intro σ τ h;cases h
 |cons υ r ih=>
  intro σ τ h hu
  simp only[St.freeze]
  by_cases he:τ=υ
  ·subst he
   cases hc:σ.al.contains τ with
   |true=>exact .inr (frz_freeze r (.inr AZ))
   |false=>
    rcases us_iff.1 hu with h|h|h|h
    ·exact .inr (frz_freeze r (.inl h))
    ·exact .inl h
    ·simp at hc;exact absurd h hc
    ·exact .inr (frz_freeze r (.inr h))
  ·have ht:τ∈r:=by
    rcases AD.1 h with h|h
    ·exact absurd h he
    ·exact h
   refine ih ht ?_
   cases hc:σ.al.contains υ with
   |false=>exact hu
   |true=>
    simp only[cond_true]
    rw[us_iff] at hu ⊢
    rcases hu with h|h|h|h
    ·exact .inl h
    ·exact .inr (.inl h)
    ·exact .inr (.inr (.inl ((Bk he).2 h)))
    ·exact .inr (.inr (.inr (AL _ h)))
theorem allUs_mem:∀ {l:List Nat} {τ:Nat},allUs σ l=true->τ∈l->σ.us τ=true:=by
 intro l
 induction l with
 |nil=>intro τ _ h;cases h
 |cons υ r ih=>
  intro τ h ht
  simp only[allUs,A4] at h
  rcases AD.1 ht with rfl|ht
  ·exact h.1
  ·exact ih h.2 ht
theorem seg_set {css cx:List Value} {n size i j:Nat} (hl:css.length=n*size) (hi:i<n) (hj:j<n) (hc:cx.length=size):
  seg (css.take (i*size)++cx++css.drop (i*size+cx.length)) size j=if j=i then cx else seg css size j:=by
 have hi1:(i+1)*size<=n*size:=A7 _ hi
 rw[AH] at hi1
 by_cases hij:j=i
 ·subst hij
  rw[if_pos rfl]
  simp only[V.seg]
  rw[Ac,BN (by simp;omega),As hc]
 ·rw[if_neg hij]
  have hne:j*size+size<=i*size\/i*size+size<=j*size:=by
   rcases BP hij with h|h
   ·left;have:=A7 size (show j+1<=i from h);rw[AH] at this;omega
   ·right;have:=A7 size (show i+1<=j from h);rw[AH] at this;omega
  apply Al
  intro q
  simp only[V.seg,AC,AI,AW,AJ,AV,AN]
  by_cases hq:q<size
  ·simp only[hq,if_true]
   repeat' split
   all_goals first|omega|rfl|(congr 1;omega)
  ·simp only[hq,if_false]
theorem list_ok {n:Nat} {s:TypeId} {t:Ty} (hr:RelE X E σ a.tmps w) (ht:tyB P n s t=true):
  ∀ (ps:List (Nat×Operand)) {xs:List t.den} {ts:List Nat} {css:List Value} {k:List t.den->List Nat->Option R} {r:R},listK t (ps.map fun p=>(p.1,opd σ p.2)) xs ts k=some r->css.length=xs.length*t.size->
   ∃xs' ts' css',k xs' ts'=some r/\xs'.length=xs.length/\css'.length=css.length/\(∀τ∈ts,τ∈ts')/\Instr.fill (fun i=>some (i*t.size,t.size)) css.toArray (ps.map fun p=>(p.1,a.eval p.2))=some css'.toArray/\
    ∀σ':St,RelE X E σ' a.tmps w->σ'.fr=σ.fr->(∀τ∈ts',τ=1\/frz σ' τ)->(∀ (i:Nat) x,xs[i]?=some x->Rf w (Fz X E σ' w) t x (seg css t.size i))->∀ (i:Nat) x,xs'[i]?=some x->Rf w (Fz X E σ' w) t x (seg css' t.size i):=by
 intro ps
 induction ps with
 |nil=>intro xs ts css k r h hl;exact⟨xs,ts,css,h,rfl,rfl,fun _ h=>h,rfl,fun _ _ _ _ h=>h⟩
 |cons p ps ih=>
  intro xs ts css k r h hl
  obtain⟨i,z⟩:=p
  simp only[AY] at h ⊢
  unfold listK at h
  cases hc:V.coe t (opd σ z) with
  |none=>simp[hc] at h
  |some q=>
   obtain⟨v,ms⟩:=q
   simp only[hc] at h
   cases hi:decide (i<xs.length) with
   |false=>simp[hi] at h
   |true=>
    simp only[hi,cond_true] at h
    have hi':i<xs.length:=by simpa using hi
    obtain⟨cz,hz1,hz2,hz3⟩:=hr.coe hc
    have hlz:=hz1.length
    have hcl:(a.eval z).cells=cz.toArray:=by rw[hz2];exact cells_toVal hz1 (tyB_scalar ht)
    have hi1:(i+1)*t.size<=xs.length*t.size:=A7 _ hi'
    rw[AH] at hi1
    have hl':(css.take (i*t.size)++cz++css.drop (i*t.size+cz.length)).length=(xs.set i v).length*t.size:=by simp;omega
    obtain⟨xs',ts',css',w1,w2,w3,w4,w5,w6⟩:=ih h hl'
    refine⟨xs',ts',css',w1,by simpa using w2,by rw[w3,hl',Ai,hl],fun τ hτ=>w4 τ (Af _ hτ),?_,fun σ' hr' hfr hfz hxs=>w6 σ' hr' hfr hfz fun j x hx=>?_⟩
    ·rw[fill_cons (cx:=cz) (by rw[hlz]) hcl (by simp;omega),splice_list]
     exact w5
    ·have hj:j<xs.length:=by have:=(A8.1 hx).1;simpa using this
     rw[seg_set hl hi' hj hlz]
     by_cases hji:j=i
     ·subst hji
      rw[if_pos rfl]
      rw[Av hj] at hx
      injection hx with hx;subst hx
      have hop:opd σ' z=opd σ z:=by
       cases z with
       |tmp t=>simp[opd,hfr]
       |const v=>
        cases v with
        |slice a n c=>cases a<;>cases n<;>cases c<;>rfl
        |_=>rfl
       |_=>rfl
      obtain⟨cz',hy1,hy2,hy3⟩:=hr'.coe (show V.coe t (opd σ' z)=some (v,ms) by rw[hop];exact hc)
      have hcl':(a.eval z).cells=cz'.toArray:=by rw[hy2];exact cells_toVal hy1 (tyB_scalar ht)
      have he:cz'=cz:=by rw[hcl] at hcl';simpa using hcl'.symm
      subst he
      exact rf_of_frz (fun τ hτ=>hfz τ (w4 τ (AS _ hτ))) hy3 hy1
     ·rw[if_neg hji]
      rw[B3 (fun h=>hji h.symm)] at hx
      exact hxs j x hx
theorem step_buildSlice (T:Tabs) (hT:TabOk P T.T) {s:TypeId} {n:Nat} {ps:Array (Nat×Operand)} (ho:o.op= .buildSlice s n ps) {k:St->Option R} {r:R} (h:stepK T o σ k=some r) (hr:RelE X E σ a.tmps w):StepOk P X T o a w (fun σ'=>k σ'=some r):=by
 simp only[stepK,ho] at h
 split at h
 ·rename_i e t hTs
  obtain⟨_,ht⟩:=hT.ty s _ hTs
  obtain⟨m,hu,he⟩:=tyB_sl ht
  have hpos:0<t.size:=by have:=tyB_ok ht;simp[Ty.ok] at this;exact this.2
  obtain⟨fi,z,i1,i2,i3,i4,i5⟩:=tyB_info he
  have hzl:(zc t).length=t.size:=(rf_zero (w:=w) (A:=fun _=>False) (tyB_ok he)).length
  obtain⟨xs,ts,css,w1,w2,w3,_,w5,w6⟩:=list_ok (css:=(madeCells z.cells (n*t.size)).toList) hr he ps.toList h (by simp[size_madeCells])
  obtain⟨g1,g2⟩:=guardK_some w1
  simp only[A4,decide_eq_true_eq] at g1
  have hr':=hr.freeze ts
  have hrs:=w6 (σ.freeze ts) hr' (freeze_fr σ ts).1 (fun τ hτ=>freeze_frz ts hτ (allUs_mem g1.1 hτ)) (fun i x hx=>by
   have hi:i<n:=by have:=(A8.1 hx).1;simpa using this
   rw[BC,if_pos hi] at hx
   injection hx with hx;subst hx
   rw[seg_made i5 hzl hpos hi]
   exact rf_zero (tyB_ok he))
  have hxn:xs.length=n:=by rw[w2];simp
  have hcn:css.length=n*t.size:=by rw[w3];simp[size_madeCells]
  have hmap:(ps.map fun(i,x)=>(i,a.eval x)).toList=ps.toList.map fun p=>(p.1,a.eval p.2):=by simp
  have hrun:(execOp a.eval o).run P w= .ok (.value (.slice (some ⟨w.heap.size,0,none⟩) n n)) (w.alloc (.cells css.toArray e)):=by
   simp only[execOp,ho,A5]
   have hf:Instr.fill (fun i=>some (i*fi.size,fi.size)) ((CF (n*fi.size)).map (z.cells[·%z.cells.size]!)) (ps.map fun(i,x)=>(i,a.eval x)).toList=some css.toArray:=by
    rw[hmap,i2]
    have:(madeCells z.cells (n*t.size)).toList.toArray=madeCells z.cells (n*t.size):=by simp
    rw[this] at w5
    exact w5
   by_cases hn:n=0
   ·subst hn
    have hps:ps= #[]:=by
     rw[<-BG]
     cases hl:ps.toList with
     |nil=>rfl
     |cons p r=>
      rw[hl] at h
      simp only[AY,listK] at h
      split at h
      ·simp at h
      ·cases h
    have hc0:css=[]:=AP (by omega)
    subst hps;subst hc0
    have hb:(Instr.buildSlice s 0 ((#[]:Array (Nat×Operand)).map fun(i,x)=>(i,a.eval x))).run P w= .ok (.slice (some ⟨w.heap.size,0,none⟩) 0 0) (w.alloc (.cells #[] e)):=by
     simp only[Instr.buildSlice,run_underlying hu,sizeOf,typeInfo,i1,newRow,A5,A3,BU]
     have h0:∀f:Nat->Value,(CF 0).map f= #[]:=fun f=>Array.eq_empty_of_size_eq_zero (by simp)
     simp[i1,Instr.fill]
     rw[h0]
    rw[hb];simp only[A3,A6]
   ·have hp:n*fi.size≠0:=by
     rw[i2]
     intro h0
     rcases Bb.1 h0 with h|h<;>omega
    rw[run_buildSlice w s e n _ css.toArray fi z hu i1 i4 (by rw[i2];have:=g1.2;omega) hp hf]
    simp only[A3,A6]
  have hx:=Ext.alloc w (.cells css.toArray e)
  obtain⟨hr1,K1⟩:=hr'.fresh hx (g:=w.heap.size) ⟨AQ _,by simp⟩
  have hnt:=(freeze_fr σ ts).2.1
  refine stepOk_value hrun ⟨_,hr1.put (s:=.val ⟨.sl e t,xs,[σ.nt]⟩ none) o.dst ?_⟩ g2
  have:=more_val (w1:=w.alloc (.cells css.toArray e)) (e:=e) (t:=t) (xs:=xs) (g:=w.heap.size) (cap:=n) (css:=css) (E':=(E.tok (σ.freeze ts).nt (some w.heap.size))) hr' (if_pos rfl)
   ⟨by rw[hcn,hxn],.inr ⟨_,n,css.toArray,by rw[hxn],BF _,heap_alloc_new w _,by rw[hxn];exact AQ _,?_,by simpa using hcn,by rw[hxn];simp[<-hcn]⟩⟩ (fun i x hx=>K1.rf (hrs i x hx))
  ·rw[hxn,hnt] at this
   rw[hnt]
   exact this
  ·have h1:=g1.2
   have:n<=n*t.size:=Nat.le_mul_of_pos_right _ hpos
   simp only[maxLen];omega
 ·cases h
end
end Go.Proofs.YtacbkfginiknaaaDoor.V
