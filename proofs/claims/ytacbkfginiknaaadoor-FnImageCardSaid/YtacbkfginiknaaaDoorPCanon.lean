/- The plain law: a vocabulary's text, and reading it: the program's is the reference's. -/
import Derived.Test.YtacbkfginiknaaaDoorPTab
namespace Go.Proofs.YtacbkfginiknaaaDoor
open Go Go.Proofs.YtacbkfginiknaaaDoor.V
theorem iter_rel {α β:Type} {S:(α->Option β)->α->Option β} (μ:α->Nat) (I:α->Prop) (R:α->β->Prop)
  (h:∀go x,I x->(∀y,I y->μ y<μ x->Tot (go y) (R y))->Tot (S go x) (R x)):∀n x,I x->μ x<n->Tot (iter S n x) (R x):=by
 intro n
 induction n with
 |zero=>intro x _ h;omega
 |succ n ih=>intro x hx hn;exact h _ x hx fun y hy hm=>ih y hy (by omega)
def pairText (p:Int×Int):Bs:=varText p.1++varText p.2
def canonOf (v:List (Int×Int)):Bs:=[(98:UInt8),(112:UInt8),(101:UInt8)]++varText (v.length:Int)++v.flatMap pairText
def canon (v:List (Int×Int)):Bs:=if vok v then canonOf v else[]
def CanI (s:Bs) (l:List (Int×Int)) (i:Nat):Prop:=i<=l.length/\l.length<=60/\s.length<=12+18*i
theorem iCan_step (go) (x:Bs×List (Int×Int)×Int×Int) (hx:∃i:Nat,x.2.2.2=(i:Int)/\x.2.2.1=(x.2.1.length:Int)/\CanI x.1 x.2.1 i)
  (hgo:∀y:Bs×List (Int×Int)×Int×Int,(∃i:Nat,y.2.2.2=(i:Int)/\y.2.2.1=(y.2.1.length:Int)/\CanI y.1 y.2.1 i)->(y.2.2.1-y.2.2.2).toNat<(x.2.2.1-x.2.2.2).toNat->go y=some (y.1++(y.2.1.drop y.2.2.2.toNat).flatMap pairText)):
  i_Canon_L13 go x=some (x.1++(x.2.1.drop x.2.2.2.toNat).flatMap pairText):=by
 obtain⟨s,l,n,i⟩:=x
 obtain⟨k,h1,h2,h3,h4,h5⟩:=hx
 simp only at h1 h2 h3 h4 h5 hgo
 subst h1 h2
 unfold i_Canon_L13
 simp only[decN,Int.toNat_natCast,nnN,cond_true]
 by_cases hk:k<l.length
 ·rw[decide_eq_true hk,cond_true,List.getElem?_eq_getElem hk,Option.bind_some,drop_at hk,List.flatMap_cons]
  have a1:=varText_len l[k].1
  have a2:=varText_len l[k].2
  simp only[i_Var_is,Option.bind_some]
  rw[decide_eq_true (show s.length+(varText l[k].1).length<=4611686018427387904 by omega),cond_true,decide_eq_true (show(s++varText l[k].1).length+(varText l[k].2).length<=4611686018427387904 by simp;omega),cond_true,wSucc (by omega)]
  refine(hgo (s++varText l[k].1++varText l[k].2,l,(l.length:Int),((k+1:Nat):Int)) ⟨k+1,rfl,rfl,hk,h4,by simp only[List.length_append];omega⟩ (by simp only;omega)).trans ?_
  simp[pairText]
 ·rw[decide_eq_false hk,cond_false,List.drop_eq_nil_of_le (by omega)];simp
theorem sCan_step (go) (x:(List (Int×Int)×PUnit)×Bs×Int) (hx:∃i:Nat,x.2.2=(i:Int)/\CanI x.2.1 x.1.1 i)
  (hgo:∀y:(List (Int×Int)×PUnit)×Bs×Int,(∃i:Nat,y.2.2=(i:Int)/\CanI y.2.1 y.1.1 i)->((y.1.1.length:Int)-y.2.2).toNat<((x.1.1.length:Int)-x.2.2).toNat->go y=some (y.2.1++(y.1.1.drop y.2.2.toNat).flatMap pairText)):
  s_Canon_L13 go x=some (x.2.1++(x.1.1.drop x.2.2.toNat).flatMap pairText):=by
 obtain⟨⟨l,u⟩,s,i⟩:=x
 obtain⟨k,h1,h3,h4,h5⟩:=hx
 simp only at h1 h3 h4 h5 hgo
 subst h1
 unfold s_Canon_L13
 simp only[decN,Int.toNat_natCast,nnN,cond_true]
 by_cases hk:k<l.length
 ·rw[decide_eq_true hk,cond_true,List.getElem?_eq_getElem hk,Option.bind_some,drop_at hk,List.flatMap_cons]
  have a1:=varText_len l[k].1
  have a2:=varText_len l[k].2
  simp only[s_Var_is,Option.bind_some]
  rw[decide_eq_true (show s.length+(varText l[k].1).length<=4611686018427387904 by omega),cond_true,decide_eq_true (show(s++varText l[k].1).length+(varText l[k].2).length<=4611686018427387904 by simp;omega),cond_true,wSucc (by omega)]
  refine(hgo ((l,u),s++varText l[k].1++varText l[k].2,((k+1:Nat):Int)) ⟨k+1,rfl,hk,h4,by simp only[List.length_append];omega⟩ (by simp only;omega)).trans ?_
  simp[pairText]
 ·rw[decide_eq_false hk,cond_false,List.drop_eq_nil_of_le (by omega)];simp
theorem i_Canon_is (v:List (Int×Int)×PUnit):i_Canon v=some (canon v.1):=by
 obtain⟨v,u⟩:=v
 unfold i_Canon canon
 simp only[i_VocabOk_is,Option.bind_some]
 cases h:vok v with
 |false=>rfl
 |true=>
  have hl:=vok_len h
  have ha:=varText_len (v.length:Int)
  simp only[Bool.not_true,cond_false,i_Var_is,Option.bind_some,if_true]
  rw[decide_eq_true (show 3+(varText (v.length:Int)).length<=4611686018427387904 by omega),cond_true,
   iter_is (g:=fun x=>some (x.1++(x.2.1.drop x.2.2.2.toNat).flatMap pairText)) (fun x=>(x.2.2.1-x.2.2.2).toNat) _ iCan_step FUEL _ ⟨0,rfl,rfl,by simp,hl,by simp;omega⟩ (fuel_lt (by simp only;omega))]
  rfl
theorem s_Canon_is (v:List (Int×Int)×PUnit):s_Canon v=some (canon v.1):=by
 obtain⟨v,u⟩:=v
 unfold s_Canon canon
 simp only[s_VocabOk_is,Option.bind_some]
 cases h:vok v with
 |false=>rfl
 |true=>
  have hl:=vok_len h
  have ha:=varText_len (v.length:Int)
  simp only[Bool.not_true,cond_false,s_Var_is,Option.bind_some,if_true]
  rw[decide_eq_true (show 3+(varText (v.length:Int)).length<=4611686018427387904 by omega),cond_true,
   iter_is (g:=fun x=>some (x.2.1++(x.1.1.drop x.2.2.toNat).flatMap pairText)) (fun x=>((x.1.1.length:Int)-x.2.2).toNat) _ sCan_step FUEL _ ⟨0,rfl,by simp,hl,by simp;omega⟩ (fuel_lt (by simp only;omega))]
  rfl
theorem varPre_le:∀ (k n:Nat),n<128^(k+1)->(varPre n).length<=k:=by
 intro k
 induction k with
 |zero=>intro n h;rw[varPre,if_pos (by simpa using h)];simp
 |succ k ih=>
  intro n h
  rw[varPre]
  split
  ·simp
  ·rw[Nat.pow_succ] at h
   have:=ih (n/128) (by omega)
   simp;omega
theorem numOf_text (n:Nat):numOf ((varPre n++[((varLast n:Nat):Int)]).map (fun b=>UInt8.ofNat b.toNat))=n:=by
 induction n using Nat.strongRecOn with
 |_ n ih=>
  rw[varPre,varLast]
  split
  ·simp only[List.nil_append,List.map_cons,List.map_nil,numOf,List.foldr_cons,List.foldr_nil,numF,Int.toNat_natCast,UInt8.toNat_ofNat']
   omega
  ·have h:=ih (n/128) (by omega)
   unfold numOf at h ⊢
   rw[List.cons_append,List.map_cons,List.foldr_cons,h]
   simp only[numF,Int.toNat_natCast,UInt8.toNat_ofNat']
   omega
theorem rvI_var {p:Bs} {b:UInt8} {t:Bs} (hp:∀c∈p,128<=c.toNat) (hb:b.toNat<128):∀f i,i<=p.length->p.length<f+i->
  rvI (p++b::t) f i=if varText ((numOf (p++[b]):Nat):Int)=p++[b] then(((numOf (p++[b]):Nat):Int),((p.length+1:Nat):Int)) else(0,0):=by
 intro f
 induction f with
 |zero=>intro i h1 h2;omega
 |succ f ih=>
  intro i h1 h2
  rw[rvI,dif_pos (by simp;omega)]
  by_cases hi:i=p.length
  ·subst hi
   rw[if_pos (by simpa using hb)]
   have e:(p++b::t).take (p.length+1)=p++[b]:=by
    rw[List.take_append,List.take_of_length_le (by omega)];simp
   rw[e]
  ·have hlt:i<p.length:=by omega
   have:(p++b::t)[i]'(by simp;omega)=p[i]:=by rw[List.getElem_append_left hlt]
   rw[if_neg (by rw[this];have:=hp p[i] (List.getElem_mem hlt);omega)]
   exact ih (i+1) (by omega) (by omega)
theorem rv_var {x:Int} (h0:0<=x) (h1:x<=562949953421311) (t:Bs):rv (varText x++t)=(x,((varText x).length:Int)):=by
 obtain⟨n,rfl⟩:∃n:Nat,x=(n:Int):=⟨x.toNat,by omega⟩
 have hf:varText (n:Int)=(varPre n).map (fun b=>UInt8.ofNat b.toNat)++[UInt8.ofNat ((varLast n:Nat):Int).toNat]:=by
  unfold varText
  rw[if_pos ⟨h0,h1⟩]
  simp only[Int.toNat_natCast,List.map_append,List.map_cons,List.map_nil]
 have hn:numOf (varText (n:Int))=n:=by
  rw[hf]
  have:=numOf_text n
  rwa [List.map_append] at this
 have hl:=varPre_le 6 n (by omega)
 rw[hf] at hn
 have:=rvI_var (p:=(varPre n).map (fun b=>UInt8.ofNat b.toNat)) (b:=UInt8.ofNat ((varLast n:Nat):Int).toNat) (t:=t) (pre_big n) (last_small n) 7 0 (by simp) (by simp;omega)
 unfold rv
 rw[hn,<-hf,if_pos rfl] at this
 rw[hf,List.append_assoc]
 show rvI _ 7 0=_
 rw[List.singleton_append,this]
 simp
theorem varText_pos {x:Int} (h0:0<=x) (h1:x<=562949953421311):1<=(varText x).length:=by
 unfold varText;rw[if_pos ⟨h0,h1⟩];simp
theorem varText_le2 {x:Int} (h1:x<16384):(varText x).length<=2:=by
 unfold varText
 split
 ·have:=varPre_le 1 x.toNat (by omega)
  simp;omega
 ·simp
theorem varText_1 {x:Int} (h0:0<=x) (h1:x<128):(varText x).length=1:=by
 have:=varText_pos h0 (by omega)
 unfold varText at this ⊢
 rw[if_pos ⟨h0,by omega⟩] at this ⊢
 have:=varPre_le 0 x.toNat (by omega)
 simp at this ⊢;exact this
theorem canonOf_len {v:List (Int×Int)} (h:vok v=true):4<=(canonOf v).length/\(canonOf v).length<=244:=by
 have hl:=vok_len h
 have h1:=varText_1 (x:=(v.length:Int)) (by omega) (by omega)
 have h2:∀l:List (Int×Int),(∀p∈l,p.1<16384/\p.2<16384)->(l.flatMap pairText).length<=4*l.length:=by
  intro l
  induction l with
  |nil=>intro _;simp
  |cons p l ih=>
   intro hp
   have:=ih (fun q hq=>hp q (List.mem_cons_of_mem _ hq))
   have h3:=varText_le2 (hp p List.mem_cons_self).1
   have h4:=varText_le2 (hp p List.mem_cons_self).2
   simp only[List.flatMap_cons,List.length_append,pairText,List.length_cons]
   omega
 have h3:=h2 v (fun p hp=>⟨(vok_ids h p hp).2.1,(vok_ids h p hp).2.2.2⟩)
 simp only[canonOf,List.length_append,h1,List.length_cons,List.length_nil]
 omega
theorem canon_some {v:List (Int×Int)} {s:Bs} (h:canon v=s) (hs:s≠[]):vok v=true/\canonOf v=s:=by
 unfold canon at h
 split at h
 ·rename_i hv;exact⟨hv,h⟩
 ·exact absurd h.symm hs
def IdsOk (l:List (Int×Int)):Prop:=∀p∈l,0<=p.1/\p.1<16384/\0<=p.2/\p.2<16384
theorem num_var {x:Int} (h0:0<=x) (h1:x<16384) (t:Bs):numP (varText x++t,false)=(x,t,false):=by
 have hp:=varText_pos h0 (by omega)
 unfold numP
 rw[rv_var h0 (by omega)]
 simp only[Bool.false_eq_true,false_or]
 rw[if_neg (by omega),Int.toNat_natCast,List.drop_left]
def IrR (x:(Bs×Bool)×(List (Int×Int)×PUnit)×Int×Int) (z:(Bs×Bool)×List (Int×Int)×PUnit):Prop:=
 ∀l,IdsOk l->x.1=(l.flatMap pairText,false)->x.2.2.1-x.2.2.2=(l.length:Int)->z=(([],false),(x.2.1.1++l,()))
theorem irc_step (go) (x:(Bs×Bool)×(List (Int×Int)×PUnit)×Int×Int) (hx:0<=x.2.2.2/\x.2.2.2<=60/\x.2.2.1<=60/\(x.2.1.1.length:Int)=x.2.2.2)
  (hgo:∀y:(Bs×Bool)×(List (Int×Int)×PUnit)×Int×Int,(0<=y.2.2.2/\y.2.2.2<=60/\y.2.2.1<=60/\(y.2.1.1.length:Int)=y.2.2.2)->(60-y.2.2.2).toNat<(60-x.2.2.2).toNat->Tot (go y) (IrR y)):Tot (i_ReadCanon_L15 go x) (IrR x):=by
 obtain⟨r,⟨v,u⟩,n,i⟩:=x
 obtain⟨h1,h2,h3,h4⟩:=hx
 simp only at h1 h2 h3 h4 hgo
 unfold i_ReadCanon_L15
 simp only[scan_num_is,Option.bind_some]
 refine tot_bif (fun h=>?_) (fun h=>tot_some fun l _ hr hl=>?_)
 ·have hin:i<n:=by simpa using h
  have e:IntKind.i64.wrap (i+1)=i+1:=w64 (by omega) (by omega)
  rw[e]
  refine tot_ok (by simp;omega) ((hgo _ ⟨by simp only;omega,by simp only;omega,h3,by simp only[List.length_append,List.length_singleton];omega⟩ (by simp only;omega)).mono fun z hz l hi hr hl=>?_)
  simp only at hr hl
  cases l with
  |nil=>simp at hl;omega
  |cons p l=>
   obtain⟨p1,p2,p3,p4⟩:=hi p List.mem_cons_self
   subst hr
   have e1:numP ((p::l).flatMap pairText,false)=(p.1,varText p.2++l.flatMap pairText,false):=by
    rw[List.flatMap_cons,pairText,List.append_assoc];exact num_var p1 p2 _
   have e2:=num_var p3 p4 (l.flatMap pairText)
   have:=hz l (fun q hq=>hi q (List.mem_cons_of_mem _ hq)) (by simp only[e1,e2]) (by simp only[List.length_cons] at hl ⊢;omega)
   simp only[e1,e2] at this
   rw[this]
   simp
 ·have hin:¬i<n:=by simpa using h
  simp only at hr hl
  have:l=[]:=List.length_eq_zero_iff.1 (by omega)
  subst this
  rw[hr];simp
theorem i_rc_tot (s:Bs):∃v b,i_ReadCanon s=some ((v,()),b)/\(b=true->vok v=true/\canonOf v=s)/\(b=false->v=[])/\∀l,vok l=true->canonOf l=s->v=l/\b=true:=by
 unfold i_ReadCanon
 have hcut:∃c r,i_scan_cut ((s,false),3)=some (c,r)/\(3<=s.length->r=(s.drop 3,false)):=by
  unfold i_scan_cut
  simp only[in_i,Option.bind_some,Bool.not_false,cond_true]
  by_cases h:3<=s.length
  ·refine⟨s.take 3,(s.drop 3,false),?_,fun _=>rfl⟩
   have:decide ((3:Int)<=(s.length:Int))=true:=by simp;omega
   simp[this]
  ·refine⟨[],(s,true),?_,fun h2=>absurd h2 h⟩
   have:decide ((3:Int)<=(s.length:Int))=false:=by simp;omega
   simp[this]
 obtain⟨c,r,hc,hr⟩:=hcut
 simp only[hc,Option.bind_some]
 have hmany:∃n q,i_scan_many (r,60)=some (n,q)/\n<=60/\∀x t,0<=x->x<=60->r=(varText x++t,false)->n=x/\q=(t,false):=by
  unfold i_scan_many
  simp only[scan_num_is,Option.bind_some]
  by_cases h:60<(numP r).1
  ·refine⟨0,((numP r).2.1,true),by rw[decide_eq_true h];rfl,by omega,fun x t h0 h1 he=>?_⟩
   rw[he,num_var h0 (by omega)] at h
   simp only at h;omega
  ·rw[decide_eq_false h,cond_false]
   cases hb:(numP r).2.2 with
   |true=>
    refine⟨0,(numP r).2,rfl,by omega,fun x t h0 h1 he=>?_⟩
    rw[he,num_var h0 (by omega)] at hb
    cases hb
   |false=>
    refine⟨(numP r).1,(numP r).2,rfl,by omega,fun x t h0 h1 he=>?_⟩
    rw[he,num_var h0 (by omega)]
    exact⟨rfl,rfl⟩
 obtain⟨n,q,hm,hn60,hq⟩:=hmany
 simp only[hm,Option.bind_some]
 obtain⟨z,hz,hzR⟩:=iter_rel (S:=i_ReadCanon_L15) (fun x=>(60-x.2.2.2).toNat) (fun x=>0<=x.2.2.2/\x.2.2.2<=60/\x.2.2.1<=60/\(x.2.1.1.length:Int)=x.2.2.2) IrR irc_step FUEL (q,([],()),n,0) ⟨by simp,by simp,hn60,by simp⟩ (fuel_lt (by simp))
 obtain⟨⟨rest,bad⟩,v,u⟩:=z
 simp only[hz,Option.bind_some,i_Canon_is]
 have hcan:∀l,vok l=true->canonOf l=s->v=l/\bad=false:=by
  intro l hv hs
  have hlen:=canonOf_len hv
  rw[hs] at hlen
  have hl:=vok_len hv
  have hr':=hr (by omega)
  have hrest:s.drop 3=varText (l.length:Int)++l.flatMap pairText:=by
   rw[<-hs];rfl
  rw[hrest] at hr'
  obtain⟨q1,q2⟩:=hq _ _ (by omega) (by omega) hr'
  have:=hzR l (vok_ids hv) q2 (by simp only[q1];omega)
  simp only[List.nil_append,Prod.mk.injEq] at this
  exact⟨this.2.1,this.1.2⟩
 cases bad with
 |true=>
  refine⟨[],false,rfl,fun h=>(by cases h),fun _=>rfl,fun l hv hs=>?_⟩
  have:=(hcan l hv hs).2
  cases this
 |false=>
  by_cases hs0:s=[]
  ·refine⟨[],false,by simp[hs0],fun h=>(by cases h),fun _=>rfl,fun l hv hs=>?_⟩
   have:=(canonOf_len hv).1
   rw[hs,hs0] at this;simp at this
  ·by_cases he:canon v=s
   ·refine⟨v,true,by simp[hs0,he],fun _=>canon_some he hs0,fun h=>(by cases h),fun l hv hs=>⟨(hcan l hv hs).1,rfl⟩⟩
   ·refine⟨[],false,by simp[hs0,he],fun h=>(by cases h),fun _=>rfl,fun l hv hs=>?_⟩
    have:=(hcan l hv hs).1
    subst this
    exact absurd (by unfold canon;rw[if_pos hv];exact hs) he
def SrR (x:Bs×(List (Int×Int)×PUnit)×(List (Int×Int)×PUnit)×Int) (z:(List (Int×Int)×PUnit)×List (Int×Int)×PUnit⊕Bool×(List (Int×Int)×PUnit)×List (Int×Int)×PUnit):Prop:=
 (∀l,IdsOk l->x.1.drop x.2.2.2.toNat=l.flatMap pairText->z= .inl (x.2.1,(x.2.2.1.1++l,())))/\∀y,z= .inr y->y.1=false/\y.2.1=([],())
theorem pairs_nil {l:List (Int×Int)} (hi:IdsOk l) (h:l.flatMap pairText=[]):l=[]:=by
 cases l with
 |nil=>rfl
 |cons p l=>
  obtain⟨p1,p2,_⟩:=hi p List.mem_cons_self
  have:=varText_pos p1 (by omega)
  rw[List.flatMap_cons,pairText] at h
  have h2:=(List.append_eq_nil_iff.1 (List.append_eq_nil_iff.1 h).1).1
  rw[h2] at this;simp at this
theorem src_step (go) (x:Bs×(List (Int×Int)×PUnit)×(List (Int×Int)×PUnit)×Int) (hx:x.1.length<=250/\0<=x.2.2.2/\x.2.2.2<=(x.1.length:Int)/\(x.2.2.1.1.length:Int)<=x.2.2.2/\x.2.1=([],()))
  (hgo:∀y:Bs×(List (Int×Int)×PUnit)×(List (Int×Int)×PUnit)×Int,(y.1.length<=250/\0<=y.2.2.2/\y.2.2.2<=(y.1.length:Int)/\(y.2.2.1.1.length:Int)<=y.2.2.2/\y.2.1=([],()))->(250-y.2.2.2).toNat<(250-x.2.2.2).toNat->Tot (go y) (SrR y)):Tot (s_ReadCanon_L13 go x) (SrR x):=by
 obtain⟨s,w,⟨v,u⟩,i⟩:=x
 obtain⟨h1,h2,h3,h4,h5⟩:=hx
 simp only at h1 h2 h3 h4 h5 hgo
 subst h5
 unfold s_ReadCanon_L13
 simp only[s_ReadVar_is,Option.bind_some]
 refine tot_bif (fun h=>?_) (fun h=>tot_some ⟨fun l hi hr=>?_,fun y hy=>by cases hy⟩)
 ·have hil:i<(s.length:Int):=by simpa using h
  have a0:=rv_pos (s.drop i.toNat)
  have a1:=rv_le (s.drop i.toNat)
  simp only[List.length_drop] at a1
  have e:IntKind.i64.wrap (i+(rv (s.drop i.toNat)).2)=i+(rv (s.drop i.toNat)).2:=w64 (by omega) (by omega)
  rw[e]
  have b0:=rv_pos (s.drop (i+(rv (s.drop i.toNat)).2).toNat)
  have b1:=rv_le (s.drop (i+(rv (s.drop i.toNat)).2).toNat)
  simp only[List.length_drop] at b1
  have e2:IntKind.i64.wrap (i+(rv (s.drop i.toNat)).2+(rv (s.drop (i+(rv (s.drop i.toNat)).2).toNat)).2)=i+(rv (s.drop i.toNat)).2+(rv (s.drop (i+(rv (s.drop i.toNat)).2).toNat)).2:=w64 (by omega) (by omega)
  rw[e2]
  refine tot_ok (by simp;omega) (tot_ok (by simp;omega) ?_)
  generalize hA:rv (s.drop i.toNat)=A at *
  generalize hB:rv (s.drop (i+A.2).toNat)=B at *
  have hin:∀l,IdsOk l->s.drop i.toNat=l.flatMap pairText->∃p l',l=p::l'/\A=(p.1,((varText p.1).length:Int))/\B=(p.2,((varText p.2).length:Int))/\s.drop (i+A.2+B.2).toNat=l'.flatMap pairText/\1<=A.2/\1<=B.2:=by
   intro l hi hr
   cases l with
   |nil=>
    simp at hr
    omega
   |cons p l=>
    obtain⟨p1,p2,p3,p4⟩:=hi p List.mem_cons_self
    rw[List.flatMap_cons,pairText,List.append_assoc] at hr
    have q1:A=(p.1,((varText p.1).length:Int)):=by rw[<-hA,hr];exact rv_var p1 (by omega) _
    have d1:s.drop (i+A.2).toNat=varText p.2++l.flatMap pairText:=by
     rw[q1,show(i+((varText p.1).length:Int)).toNat=i.toNat+(varText p.1).length by omega,<-List.drop_drop,hr,List.drop_left]
    have q2:B=(p.2,((varText p.2).length:Int)):=by rw[<-hB,d1];exact rv_var p3 (by omega) _
    refine⟨p,l,rfl,q1,q2,?_,by rw[q1];have:=varText_pos p1 (by omega);simp only;omega,by rw[q2];have:=varText_pos p3 (by omega);simp only;omega⟩
    rw[show(i+A.2+B.2).toNat=(i+A.2).toNat+(varText p.2).length by rw[q2];simp only;omega,<-List.drop_drop,d1,List.drop_left]
  by_cases hz:A.2=0\/B.2=0
  ·have hb:((bif !decide (A.2=0) then some (decide (B.2=0)) else some true):Option Bool)=some true:=by
    by_cases h0:A.2=0
    ·simp[h0]
    ·simp[h0,hz.resolve_left h0]
   rw[hb]
   simp only[Option.bind_some,cond_true]
   refine tot_some ⟨fun l hi hr=>?_,fun y hy=>by cases hy;exact⟨rfl,rfl⟩⟩
   obtain⟨p,l',_,_,_,_,g1,g2⟩:=hin l hi hr
   omega
  ·have hb:((bif !decide (A.2=0) then some (decide (B.2=0)) else some true):Option Bool)=some false:=by
    rw[decide_eq_false (fun h=>hz (.inl h)),decide_eq_false (fun h=>hz (.inr h))];rfl
   rw[hb]
   simp only[Option.bind_some,cond_false]
   refine tot_ok (by simp;omega) ((hgo _ ⟨h1,by simp only;omega,by simp only;omega,by simp only[List.length_append,List.length_singleton];omega,rfl⟩ (by simp only;omega)).mono fun z hz2=>⟨fun l hi hr=>?_,hz2.2⟩)
   obtain⟨p,l',rfl,g3,g4,g5,_,_⟩:=hin l hi hr
   rw[hz2.1 l' (fun q hq=>hi q (List.mem_cons_of_mem _ hq)) g5,g3,g4]
   simp
 ·have hil:¬i<(s.length:Int):=by simpa using h
  simp only at hr
  rw[List.drop_eq_nil_of_le (by omega)] at hr
  have:=pairs_nil hi hr.symm
  subst this;simp
theorem s_rc_tot (s:Bs):∃v b,s_ReadCanon s=some ((v,()),b)/\(b=true->vok v=true/\canonOf v=s)/\(b=false->v=[])/\∀l,vok l=true->canonOf l=s->v=l/\b=true:=by
 unfold s_ReadCanon
 by_cases hlen:4<=s.length/\s.length<=250
 ·rw[decide_eq_false (show ¬ (s.length:Int)<4 by omega),decide_eq_false (show ¬ (250:Int)<(s.length:Int) by omega)]
  simp only[Bool.not_false,cond_true,Option.bind_some,cond_false]
  obtain⟨z,hz,hzR⟩:=iter_rel (S:=s_ReadCanon_L13) (fun x=>(250-x.2.2.2).toNat) (fun x=>x.1.length<=250/\0<=x.2.2.2/\x.2.2.2<=(x.1.length:Int)/\(x.2.2.1.1.length:Int)<=x.2.2.2/\x.2.1=([],())) SrR src_step FUEL (s,([],()),([],()),4) ⟨hlen.2,by simp,by simp only;omega,by simp,rfl⟩ (fuel_lt (by simp))
  rw[hz]
  have hcan:∀l,vok l=true->canonOf l=s->z= .inl (([],()),(l,())):=by
   intro l hv hs
   have h1:=varText_1 (x:=(l.length:Int)) (by omega) (by have:=vok_len hv;omega)
   refine hzR.1 l (vok_ids hv) ?_
   rw[<-hs]
   show List.drop 4 (canonOf l)=_
   unfold canonOf
   rw[List.drop_append_of_le_length (by simp[h1]),List.drop_eq_nil_of_le (by simp[h1])]
   rfl
  cases z with
  |inr y=>
   obtain⟨b,w,v⟩:=y
   obtain⟨h1,h2⟩:=hzR.2 _ rfl
   simp only at h1 h2
   refine⟨[],false,by simp only[Option.bind_some,sumK,h1,h2],fun h=>(by cases h),fun _=>rfl,fun l hv hs=>?_⟩
   have:=hcan l hv hs
   cases this
  |inl y=>
   obtain⟨w,v,u⟩:=y
   simp only[Option.bind_some,sumK,s_Canon_is]
   by_cases he:canon v=s
   ·refine⟨v,true,by simp[he],fun _=>canon_some he (fun h=>by rw[h] at hlen;simp at hlen),fun h=>(by cases h),fun l hv hs=>?_⟩
    have:=hcan l hv hs
    cases this
    exact⟨rfl,rfl⟩
   ·refine⟨[],false,by simp[he],fun h=>(by cases h),fun _=>rfl,fun l hv hs=>?_⟩
    have:=hcan l hv hs
    cases this
    exact absurd (by unfold canon;rw[if_pos hv];exact hs) he
 ·have hb:((bif !decide ((s.length:Int)<4) then some (decide (250<(s.length:Int))) else some true):Option Bool)=some true:=by
   by_cases h:(s.length:Int)<4
   ·simp[h]
   ·rw[decide_eq_false h,decide_eq_true (show(250:Int)<(s.length:Int) by omega)];rfl
  rw[hb]
  refine⟨[],false,rfl,fun h=>(by cases h),fun _=>rfl,fun l hv hs=>?_⟩
  have:=canonOf_len hv
  rw[hs] at this
  omega
noncomputable def rc (s:Bs):List (Int×Int)×Bool:=((i_ReadCanon s).map fun z=>(z.1.1,z.2)).getD ([],false)
theorem i_rc_is (s:Bs):i_ReadCanon s=some (((rc s).1,()),(rc s).2):=by
 obtain⟨v,b,h,_⟩:=i_rc_tot s
 unfold rc;rw[h];rfl
theorem rc_spec (s:Bs):((rc s).2=true->vok (rc s).1=true/\canonOf (rc s).1=s)/\((rc s).2=false->(rc s).1=[])/\∀l,vok l=true->canonOf l=s->rc s=(l,true):=by
 obtain⟨v,b,h,h1,h2,h3⟩:=i_rc_tot s
 have:rc s=(v,b):=by unfold rc;rw[h];rfl
 rw[this]
 exact⟨h1,h2,fun l a c=>by obtain⟨e1,e2⟩:=h3 l a c;rw[e1,e2]⟩
theorem s_rc_is (s:Bs):s_ReadCanon s=some (((rc s).1,()),(rc s).2):=by
 obtain⟨v,b,h,h1,h2,h3⟩:=s_rc_tot s
 obtain⟨g1,g2,g3⟩:=rc_spec s
 rw[h]
 cases hb:(rc s).2 with
 |true=>
  obtain⟨e1,e2⟩:=h3 _ (g1 hb).1 (g1 hb).2
  rw[e1,e2]
 |false=>
  cases hb2:b with
  |true=>
   have:=g3 v (h1 hb2).1 (h1 hb2).2
   rw[this] at hb;cases hb
  |false=>rw[g2 hb,h2 hb2]
end Go.Proofs.YtacbkfginiknaaaDoor
