/- The plain law: the bytes of a vocabulary's tokens: the program's table is the reference's. -/
import Derived.Test.YtacbkfginiknaaaDoorPVars
namespace Go.Proofs.YtacbkfginiknaaaDoor
open Go Go.Proofs.YtacbkfginiknaaaDoor.V
abbrev Bs:=List UInt8
theorem decN (i n:Nat):decide ((i:Int)<(n:Int))=decide (i<n):=by rw[decide_eq_decide];omega
theorem decL (i n:Nat):decide ((i:Int)<=(n:Int))=decide (i<=n):=by rw[decide_eq_decide];omega
theorem nnN (i:Nat):decide ((0:Int)<=(i:Int))=true:=by simp
theorem wSucc {i:Nat} (h:i<=4611686018427387904):IntKind.i64.wrap ((i:Int)+1)=((i+1:Nat):Int):=by rw[w64 (by omega) (by omega)];omega
theorem drop_at {α:Type} {l:List α} {i:Nat} (h:i<l.length):l.drop i=l[i]::l.drop (i+1):=List.drop_eq_getElem_cons h
def findI {α:Type} (p:α->Bool):List α->Nat->Option Nat
 |[],_=>none
 |a::l,i=>if p a then some i else findI p l (i+1)
theorem findI_none {α:Type} {p:α->Bool}:∀ {l:List α} {i:Nat},findI p l i=none↔∀a∈l,p a=false:=by
 intro l
 induction l with
 |nil=>intro i;simp[findI]
 |cons a l ih=>
  intro i
  simp only[findI]
  cases h:p a with
  |true=>simp[h]
  |false=>simp[h,ih]
theorem findI_some {α:Type} {p:α->Bool}:∀ {l:List α} {i j:Nat},findI p l i=some j->∃ (k:Nat) (a:α),j=i+k/\l[k]?=some a/\p a=true/\∀m b,m<k->l[m]?=some b->p b=false:=by
 intro l
 induction l with
 |nil=>intro i j h;simp[findI] at h
 |cons a l ih=>
  intro i j h
  simp only[findI] at h
  cases ha:p a with
  |true=>
   rw[ha,if_pos rfl] at h
   exact⟨0,a,by simpa using(Option.some.inj h).symm,rfl,ha,fun m b hm=>by omega⟩
  |false=>
   rw[ha,if_neg (by simp)] at h
   obtain⟨k,b,h1,h2,h3,h4⟩:=ih h
   refine⟨k+1,b,by omega,by simpa using h2,h3,fun m c hm hc=>?_⟩
   cases m with
   |zero=>simp at hc;rw[<-hc];exact ha
   |succ m=>exact h4 m c (by omega) (by simpa using hc)
theorem findI_of {α:Type} {p:α->Bool} {l:List α} {i k:Nat} {a:α} (h1:l[k]?=some a) (h2:p a=true) (h3:∀m b,m<k->l[m]?=some b->p b=false):findI p l i=some (i+k):=by
 cases h:findI p l i with
 |none=>
  have:=findI_none.1 h a (List.mem_of_getElem? h1)
  rw[h2] at this;cases this
 |some j=>
  obtain⟨k',b,e1,e2,e3,e4⟩:=findI_some h
  have:k'=k:=by
   rcases Nat.lt_trichotomy k' k with hlt|he|hlt
   ·have:=h3 k' b hlt e2;rw[e3] at this;cases this
   ·exact he
   ·have:=e4 k a hlt h1;rw[h2] at this;cases this
  rw[e1,this]
def foundI (o:Option Nat):PUnit⊕Int:=match o with
 |none=>.inl ()
 |some j=>.inr (j:Int)
def IxI {α:Type} (x:List α×α×Int×Int):Prop:=∃i:Nat,x.2.2.2=(i:Int)/\x.2.2.1=(x.1.length:Int)/\i<=x.1.length/\x.1.length<=4294967296
theorem ixS_step (go) (x:List Bs×Bs×Int×Int) (hx:IxI x) (hgo:∀y,IxI y->(y.2.2.1-y.2.2.2).toNat<(x.2.2.1-x.2.2.2).toNat->go y=some (foundI (findI (fun b=>decide (y.2.1=b)) (y.1.drop y.2.2.2.toNat) y.2.2.2.toNat))):
  g_slices_Index_string_string_L7 go x=some (foundI (findI (fun b=>decide (x.2.1=b)) (x.1.drop x.2.2.2.toNat) x.2.2.2.toNat)):=by
 obtain⟨l,v,n,i⟩:=x
 obtain⟨k,h1,h2,h3,h4⟩:=hx
 simp only at h1 h2 h3 h4 hgo
 subst h1 h2
 unfold g_slices_Index_string_string_L7
 simp only[decN,Int.toNat_natCast,nnN,cond_true]
 by_cases hk:k<l.length
 ·rw[decide_eq_true hk,cond_true,List.getElem?_eq_getElem hk,Option.bind_some,drop_at hk,findI]
  cases hv:decide (v=l[k]) with
  |true=>rfl
  |false=>
   simp only[cond_false,Bool.false_eq_true,if_false]
   rw[wSucc (by omega)]
   exact hgo _ ⟨k+1,rfl,rfl,hk,h4⟩ (by simp only;omega)
 ·rw[decide_eq_false hk,cond_false,List.drop_eq_nil_of_le (by omega)];rfl
theorem indexS_is {l:List Bs} {v:Bs} (h:l.length<=4294967296):g_slices_Index_string_string (l,v)=some (match findI (fun b=>decide (v=b)) l 0 with|none=> -1|some j=>(j:Int)):=by
 unfold g_slices_Index_string_string
 rw[iter_is (g:=fun x=>some (foundI (findI (fun b=>decide (x.2.1=b)) (x.1.drop x.2.2.2.toNat) x.2.2.2.toNat))) (fun x=>(x.2.2.1-x.2.2.2).toNat) IxI ixS_step FUEL _ ⟨0,rfl,rfl,by simp,h⟩ (fuel_lt (by simp only;omega))]
 simp only[Option.bind_some,Int.toNat_zero,List.drop_zero]
 cases findI (fun b=>decide (v=b)) l 0<;>rfl
theorem contains_is {l:List Bs} {v:Bs} (h:l.length<=4294967296):g_slices_Contains_string_string (l,v)=some (decide (v∈l)):=by
 unfold g_slices_Contains_string_string
 simp only[indexS_is h,Option.bind_some,Option.some.injEq]
 cases hf:findI (fun b=>decide (v=b)) l 0 with
 |none=>
  have:=findI_none.1 hf
  have hn:v∉l:=fun hm=>by simpa using this v hm
  simp[hn]
 |some j=>
  obtain⟨k,a,_,h2,h3,_⟩:=findI_some hf
  have:v∈l:=by simp at h3;rw[h3];exact List.mem_of_getElem? h2
  simp[this]
def tokB (t:List Bs) (id:Int):Bs:=if id<256 then[UInt8.ofNat id.toNat] else(t[(id-256).toNat]?).getD []
def okId (n:Nat) (a:Int):Bool:=decide (0<=a)&&decide (a<=255+(n:Int))
def tabGo:List (Int×Int)->List Bs->List Bs×Bool
 |[],out=>(out,true)
 |p::r,out=>bif okId out.length p.1&&okId out.length p.2 then
   (bif decide ((tokB out p.1++tokB out p.2).length<=24)&& !decide (tokB out p.1++tokB out p.2∈out) then tabGo r (out++[tokB out p.1++tokB out p.2]) else(out,false)) else(out,false)
def tab (v:List (Int×Int)):List Bs×Bool:=if v.length<=60 then tabGo v [] else([],false)
def tabS (z:List Bs×Bool):List Bs⊕List Bs×Bool:=match z with
 |(o,true)=>.inl o
 |(o,false)=>.inr (o,false)
theorem u8_id {id:Int} (h0:0<=id) (h1:id<256):List.map (fun(b:Int)=>UInt8.ofNat b.toNat) [IntKind.u8.wrap id]=[UInt8.ofNat id.toNat]:=by
 rw[w8 h0 (by omega)];rfl
theorem i_bytesIn_is {t:List Bs} {id:Int} (h:okId t.length id=true) (hl:t.length<=1000):i_bytesIn (t,id)=some (tokB t id):=by
 simp only[okId,Bool.and_eq_true,decide_eq_true_eq] at h
 unfold i_bytesIn tokB
 simp only
 by_cases hi:id<256
 ·rw[decide_eq_true hi,cond_true,u8_id h.1 hi,if_pos hi]
 ·rw[decide_eq_false hi,cond_false,if_neg hi,w64 (by omega) (by omega),decide_eq_true (by omega),cond_true,List.getElem?_eq_getElem (by omega)];rfl
theorem s_bytes_is {t:List Bs} {id:Int} (h:okId t.length id=true) (hl:t.length<=1000):s_l7Bytes (t,id)=some (tokB t id):=i_bytesIn_is h hl
theorem tokB_len {t:List Bs} {id:Int} (h:∀s∈t,s.length<=24):(tokB t id).length<=24:=by
 unfold tokB
 split
 ·simp
 ·cases he:t[(id-256).toNat]? with
  |none=>simp
  |some s=>exact h s (List.mem_of_getElem? he)
def TabI (x:List Bs×List (Int×Int)×Int×Int):Prop:=∃i:Nat,x.2.2.2=(i:Int)/\x.2.2.1=(x.2.1.length:Int)/\i<=x.2.1.length/\x.2.1.length<=60/\x.1.length=i/\∀s∈x.1,s.length<=24
theorem snoc24 {out:List Bs} {t:Bs} (h:∀s∈out,s.length<=24) (ht:t.length<=24):∀s∈out++[t],s.length<=24:=by
 intro s hs
 rcases List.mem_append.1 hs with hs|hs
 ·exact h s hs
 ·simp at hs;rw[hs];exact ht
theorem iTab_step (go) (x:List Bs×List (Int×Int)×Int×Int) (hx:TabI x) (hgo:∀y,TabI y->(y.2.2.1-y.2.2.2).toNat<(x.2.2.1-x.2.2.2).toNat->go y=some (tabS (tabGo (y.2.1.drop y.2.2.2.toNat) y.1))):
  i_tokens_L13 go x=some (tabS (tabGo (x.2.1.drop x.2.2.2.toNat) x.1)):=by
 obtain⟨out,l,n,i⟩:=x
 obtain⟨k,h1,h2,h3,h4,h5,h6⟩:=hx
 simp only at h1 h2 h3 h4 h5 h6 hgo
 subst h1 h2
 unfold i_tokens_L13
 simp only[decN,Int.toNat_natCast,nnN,cond_true]
 by_cases hk:k<l.length
 ·rw[decide_eq_true hk,cond_true,List.getElem?_eq_getElem hk,Option.bind_some,drop_at hk,tabGo]
  have e:IntKind.i64.wrap (255+(k:Int))=255+(k:Int):=w64 (by omega) (by omega)
  simp only[e,in_i,Option.bind_some]
  have ea:(decide (0<=l[k].1)&&decide (l[k].1<=255+(k:Int)))=okId out.length l[k].1:=by rw[h5];rfl
  have eb:(decide (0<=l[k].2)&&decide (l[k].2<=255+(k:Int)))=okId out.length l[k].2:=by rw[h5];rfl
  rw[ea,eb]
  cases ha:okId out.length l[k].1 with
  |false=>rfl
  |true=>
   cases hb:okId out.length l[k].2 with
   |false=>rfl
   |true=>
    simp only[Bool.not_true,Bool.not_false,cond_true,cond_false,Option.bind_some,Bool.and_self,i_bytesIn_is ha (by omega),i_bytesIn_is hb (by omega)]
    have l1:=tokB_len (id:=l[k].1) h6
    have l2:=tokB_len (id:=l[k].2) h6
    rw[decide_eq_true (show(tokB out l[k].1).length+(tokB out l[k].2).length<=4611686018427387904 by omega),cond_true]
    simp only[contains_is (show out.length<=4294967296 by omega),Option.bind_some]
    by_cases h24:(tokB out l[k].1++tokB out l[k].2).length<=24
    ·rw[decide_eq_false (show ¬ (24:Int)<((tokB out l[k].1++tokB out l[k].2).length:Int) by omega),decide_eq_true h24]
     simp only[Bool.not_false,cond_true,Option.bind_some,Bool.true_and]
     cases hm:decide (tokB out l[k].1++tokB out l[k].2∈out) with
     |true=>rfl
     |false=>
      simp only[Bool.not_false,cond_true,cond_false]
      rw[decide_eq_true (show out.length+1<=4294967296 by omega),cond_true,wSucc (by omega)]
      exact hgo _ ⟨k+1,rfl,rfl,hk,h4,by simp only[List.length_append,List.length_singleton];omega,snoc24 h6 h24⟩ (by simp only;omega)
    ·rw[decide_eq_true (show(24:Int)<((tokB out l[k].1++tokB out l[k].2).length:Int) by omega),decide_eq_false h24]
     rfl
 ·rw[decide_eq_false hk,cond_false,List.drop_eq_nil_of_le (by omega)];rfl
theorem i_tokens_is (v:List (Int×Int)):i_tokens v=some (tab v):=by
 unfold i_tokens tab
 by_cases h:v.length<=60
 ·rw[decide_eq_false (show ¬ (60:Int)<(v.length:Int) by omega),cond_false,if_pos h,
   iter_is (g:=fun x=>some (tabS (tabGo (x.2.1.drop x.2.2.2.toNat) x.1))) (fun x=>(x.2.2.1-x.2.2.2).toNat) TabI iTab_step FUEL _ ⟨0,rfl,rfl,by simp,h,by simp,by simp⟩ (fuel_lt (by simp only;omega))]
  simp only[Option.bind_some,Int.toNat_zero,List.drop_zero]
  show sumK (tabS (tabGo v [])) _ _=_
  rcases hz:tabGo v [] with⟨o,b⟩
  cases b<;>rfl
 ·rw[decide_eq_true (show(60:Int)<(v.length:Int) by omega),cond_true,if_neg h];rfl
def T31I (x:List Bs×Int×Bs×Int):Prop:=∃i:Nat,x.2.2.2=(i:Int)/\x.2.1=(x.1.length:Int)/\i<=x.1.length/\x.1.length<=60
def t31S (o:List Bs) (r:Option Nat):List Bs⊕List Bs×Bool:=match r with
 |none=>.inl o
 |some _=>.inr (o,false)
theorem t31_step (go) (x:List Bs×Int×Bs×Int) (hx:T31I x) (hgo:∀y,T31I y->(y.2.1-y.2.2.2).toNat<(x.2.1-x.2.2.2).toNat->go y=some (t31S y.1 (findI (fun b=>decide (b=y.2.2.1)) (y.1.drop y.2.2.2.toNat) y.2.2.2.toNat))):
  s_l7Table_L31 go x=some (t31S x.1 (findI (fun b=>decide (b=x.2.2.1)) (x.1.drop x.2.2.2.toNat) x.2.2.2.toNat)):=by
 obtain⟨l,n,v,i⟩:=x
 obtain⟨k,h1,h2,h3,h4⟩:=hx
 simp only at h1 h2 h3 h4 hgo
 subst h1 h2
 unfold s_l7Table_L31
 simp only[decN,Int.toNat_natCast,nnN,cond_true]
 by_cases hk:k<l.length
 ·rw[decide_eq_true hk,cond_true,List.getElem?_eq_getElem hk,Option.bind_some,Option.bind_some,drop_at hk,findI]
  cases hv:decide (l[k]=v) with
  |true=>rfl
  |false=>
   simp only[cond_false,Bool.false_eq_true,if_false]
   rw[wSucc (by omega)]
   exact hgo _ ⟨k+1,rfl,rfl,hk,h4⟩ (by simp only;omega)
 ·rw[decide_eq_false hk,cond_false,List.drop_eq_nil_of_le (by omega)];rfl
theorem t31_is {out:List Bs} {t:Bs} (h:out.length<=60):iter s_l7Table_L31 FUEL (out,(out.length:Int),t,0)=some (bif decide (t∈out) then .inr (out,false) else .inl out):=by
 rw[iter_is (g:=fun x=>some (t31S x.1 (findI (fun b=>decide (b=x.2.2.1)) (x.1.drop x.2.2.2.toNat) x.2.2.2.toNat))) (fun x=>(x.2.1-x.2.2.2).toNat) T31I t31_step FUEL _ ⟨0,rfl,rfl,by simp,h⟩ (fuel_lt (by simp only;omega))]
 simp only[Int.toNat_zero,List.drop_zero,Option.some.injEq]
 cases hf:findI (fun b=>decide (b=t)) out 0 with
 |none=>
  have:=findI_none.1 hf
  have hn:t∉out:=fun hm=>by simpa using this t hm
  simp[hn,t31S]
 |some j=>
  obtain⟨k,a,_,h2,h3,_⟩:=findI_some hf
  have:t∈out:=by simp at h3;rw[<-h3];exact List.mem_of_getElem? h2
  simp[this,t31S]
def T13I (x:(List (Int×Int)×PUnit)×List Bs×Int):Prop:=∃i:Nat,x.2.2=(i:Int)/\i<=x.1.1.length/\x.1.1.length<=60/\x.2.1.length=i/\∀s∈x.2.1,s.length<=24
theorem sTab_step (go) (x:(List (Int×Int)×PUnit)×List Bs×Int) (hx:T13I x) (hgo:∀y,T13I y->((y.1.1.length:Int)-y.2.2).toNat<((x.1.1.length:Int)-x.2.2).toNat->go y=some (tabS (tabGo (y.1.1.drop y.2.2.toNat) y.2.1))):
  s_l7Table_L13 go x=some (tabS (tabGo (x.1.1.drop x.2.2.toNat) x.2.1)):=by
 obtain⟨⟨l,u⟩,out,i⟩:=x
 obtain⟨k,h1,h3,h4,h5,h6⟩:=hx
 simp only at h1 h3 h4 h5 h6 hgo
 subst h1
 unfold s_l7Table_L13
 simp only[decN,Int.toNat_natCast,nnN,cond_true]
 by_cases hk:k<l.length
 ·rw[decide_eq_true hk,cond_true,List.getElem?_eq_getElem hk,Option.bind_some,drop_at hk,tabGo]
  have e:IntKind.i64.wrap (255+(k:Int))=255+(k:Int):=w64 (by omega) (by omega)
  simp only[e,in_s,Option.bind_some]
  have ea:(decide (0<=l[k].1)&&decide (l[k].1<=255+(k:Int)))=okId out.length l[k].1:=by rw[h5];rfl
  have eb:(decide (0<=l[k].2)&&decide (l[k].2<=255+(k:Int)))=okId out.length l[k].2:=by rw[h5];rfl
  rw[ea,eb]
  cases ha:okId out.length l[k].1 with
  |false=>rfl
  |true=>
   cases hb:okId out.length l[k].2 with
   |false=>rfl
   |true=>
    simp only[Bool.not_true,Bool.not_false,cond_true,cond_false,Option.bind_some,Bool.and_self,s_bytes_is ha (by omega),s_bytes_is hb (by omega)]
    have l1:=tokB_len (id:=l[k].1) h6
    have l2:=tokB_len (id:=l[k].2) h6
    rw[decide_eq_true (show(tokB out l[k].1).length+(tokB out l[k].2).length<=4611686018427387904 by omega),cond_true]
    by_cases h24:(tokB out l[k].1++tokB out l[k].2).length<=24
    ·rw[decide_eq_false (show ¬ (24:Int)<((tokB out l[k].1++tokB out l[k].2).length:Int) by omega),decide_eq_true h24]
     have hkk:(k:Int)=(out.length:Int):=by omega
     rw[show iter s_l7Table_L31 FUEL (out,(k:Int),tokB out l[k].1++tokB out l[k].2,0)=some (bif decide (tokB out l[k].1++tokB out l[k].2∈out) then .inr (out,false) else .inl out) by rw[hkk];exact t31_is (by omega)]
     simp only[cond_false,Option.bind_some,Bool.true_and]
     cases hm:decide (tokB out l[k].1++tokB out l[k].2∈out) with
     |true=>rfl
     |false=>
      simp only[Bool.not_false,cond_true,cond_false,sumK]
      rw[decide_eq_true (show out.length+1<=4294967296 by omega),cond_true,wSucc (by omega)]
      exact hgo _ ⟨k+1,rfl,hk,h4,by simp only[List.length_append,List.length_singleton];omega,snoc24 h6 h24⟩ (by simp only;omega)
    ·rw[decide_eq_true (show(24:Int)<((tokB out l[k].1++tokB out l[k].2).length:Int) by omega),decide_eq_false h24]
     rfl
 ·rw[decide_eq_false hk,cond_false,List.drop_eq_nil_of_le (by omega)];rfl
theorem s_table_is (v:List (Int×Int)×PUnit):s_l7Table v=some (tab v.1):=by
 obtain⟨v,u⟩:=v
 unfold s_l7Table tab
 by_cases h:v.length<=60
 ·simp only
  rw[decide_eq_false (show ¬ (60:Int)<(v.length:Int) by omega),cond_false,if_pos h,
   iter_is (g:=fun x=>some (tabS (tabGo (x.1.1.drop x.2.2.toNat) x.2.1))) (fun x=>((x.1.1.length:Int)-x.2.2).toNat) T13I sTab_step FUEL _ ⟨0,rfl,by simp,h,by simp,by simp⟩ (fuel_lt (by simp only;omega))]
  simp only[Option.bind_some,Int.toNat_zero,List.drop_zero]
  show sumK (tabS (tabGo v [])) _ _=_
  rcases hz:tabGo v [] with⟨o,b⟩
  cases b<;>rfl
 ·simp only
  rw[decide_eq_true (show(60:Int)<(v.length:Int) by omega),cond_true,if_neg h];rfl
def vok (v:List (Int×Int)):Bool:=(tab v).2
theorem i_VocabOk_is (v:List (Int×Int)×PUnit):i_VocabOk v=some (vok v.1):=by unfold i_VocabOk;rw[i_tokens_is];rfl
theorem s_VocabOk_is (v:List (Int×Int)×PUnit):s_VocabOk v=some (vok v.1):=by unfold s_VocabOk;rw[s_table_is];rfl
theorem vok_len {v:List (Int×Int)} (h:vok v=true):v.length<=60:=by
 unfold vok tab at h
 split at h
 ·assumption
 ·cases h
theorem tabGo_ids:∀ {l:List (Int×Int)} {out:List Bs},(tabGo l out).2=true->out.length+l.length<=60->∀p∈l,0<=p.1/\p.1<16384/\0<=p.2/\p.2<16384:=by
 intro l
 induction l with
 |nil=>intro out _ _ p hp;cases hp
 |cons q l ih=>
  intro out h hl p hp
  simp only[List.length_cons] at hl
  rw[tabGo] at h
  cases hq:okId out.length q.1&&okId out.length q.2 with
  |false=>rw[hq] at h;cases h
  |true=>
   rw[hq,cond_true] at h
   cases ht:decide ((tokB out q.1++tokB out q.2).length<=24)&& !decide (tokB out q.1++tokB out q.2∈out) with
   |false=>rw[ht] at h;cases h
   |true=>
    rw[ht,cond_true] at h
    rcases List.mem_cons.1 hp with rfl|hp
    ·simp only[okId,Bool.and_eq_true,decide_eq_true_eq] at hq
     omega
    ·exact ih h (by simp;omega) p hp
theorem vok_ids {v:List (Int×Int)} (h:vok v=true):∀p∈v,0<=p.1/\p.1<16384/\0<=p.2/\p.2<16384:=by
 have hl:=vok_len h
 unfold vok tab at h
 rw[if_pos hl] at h
 exact tabGo_ids h (by simpa using hl)
end Go.Proofs.YtacbkfginiknaaaDoor
