/- The plain law: serving a call, as the reference does it. -/
import Derived.Test.YtacbkfginiknaaaDoorPSpecDo
import Derived.Test.YtacbkfginiknaaaDoorPShaLen
import Derived.Test.YtacbkfginiknaaaDoorPIter
namespace Go.Proofs.YtacbkfginiknaaaDoor
open Go Go.Proofs.YtacbkfginiknaaaDoor.V
theorem ansB_iff {a:Ans}:ansB a=true↔(0<=a.1/\a.1<=5)/\(0<=a.2.1/\a.2.1<=6)/\(0<=a.2.2.1/\a.2.2.1<=4)/\(a.2.2.2.1.length=0\/a.2.2.2.1.length=32)/\(0<=a.2.2.2.2.1/\a.2.2.2.2.1<=250)/\(0<=a.2.2.2.2.2/\a.2.2.2.2.2<=100000):=by
 obtain⟨a,b,c,h,d,e⟩:=a
 have hl:(bif !decide ((h.length:Int)=0) then some (decide ((h.length:Int)=32)) else some true)=some (decide (h.length=0\/h.length=32)):=by
  by_cases h0:h.length=0
  ·rw[decide_eq_true (show(h.length:Int)=0 by omega),decide_eq_true (show h.length=0\/h.length=32 from .inl h0)];rfl
  ·rw[decide_eq_false (show ¬ (h.length:Int)=0 by omega)]
   simp only[Bool.not_false,cond_true,Option.some.injEq,decide_eq_decide];omega
 unfold ansB i_AnswerOk
 simp only[in_i,Option.bind_some,hl,bAnd,Option.getD_some,Bool.and_eq_true,decide_eq_true_eq,and_assoc]
theorem ses_at {l:List Ses} (h:allFrom (okSes l) l.length 0=true) {j:Nat} {s:Ses} (hj:l[j]?=some s):
  (1<=s.1/\s.1<=6)/\(1<=s.2.1/\s.2.1<=1000000)/\ansB s.2.2=true/\∀i p,i+1=j->l[i]?=some p->p.1<s.1:=by
 have hl:=(List.getElem?_eq_some_iff.1 hj).1
 have:=allFrom_iff.1 h j (Nat.zero_le _) (by omega)
 unfold okSes at this
 rw[hj] at this
 simp only[Bool.and_eq_true,decide_eq_true_eq] at this
 obtain⟨⟨⟨g1,g2⟩,g3⟩,g4⟩:=this
 refine⟨g1,g3,g4,fun i p hi hp=>?_⟩
 subst hi
 simp only[hp,Bool.not_eq_true',decide_eq_false_iff_not] at g2
 omega
theorem ses_of {l:List Ses} (h:∀ (j:Nat) (s:Ses),l[j]?=some s->(1<=s.1/\s.1<=6)/\(1<=s.2.1/\s.2.1<=1000000)/\ansB s.2.2=true/\∀i p,i+1=j->l[i]?=some p->p.1<s.1):allFrom (okSes l) l.length 0=true:=by
 refine allFrom_iff.2 fun j _ hj=>?_
 have hl:j<l.length:=by omega
 obtain⟨g1,g2,g3,g4⟩:=h j _ (List.getElem?_eq_getElem hl)
 unfold okSes
 rw[List.getElem?_eq_getElem hl]
 simp only[Bool.and_eq_true,decide_eq_true_eq]
 refine⟨⟨⟨g1,?_⟩,g2⟩,g3⟩
 cases j with
 |zero=>rfl
 |succ i=>
  have hi:i<l.length:=by omega
  have:=g4 i _ rfl (List.getElem?_eq_getElem hi)
  simp only[List.getElem?_eq_getElem hi,Bool.not_eq_true',decide_eq_false_iff_not];omega
def atLeast (l:List Ses) (c:Int) (i:Nat):Bool:=match l[i]? with
 |some s=>decide (c<=s.1)
 |none=>false
def isAt (l:List Ses) (c:Int) (i:Nat):Bool:=match l[i]? with
 |some s=>decide (s.1=c)
 |none=>false
def sesP (l:List Ses) (c:Int):Nat×Bool:=match fstI (atLeast l c) l.length 0 with
 |some j=>(j,isAt l c j)
 |none=>(l.length,false)
theorem s_ses_is {r:RegT} {c:Int} (h:r.2.2.length<=1000):s_l12Session (r,c)=some (((sesP r.2.2 c).1:Int),(sesP r.2.2 c).2):=by
 have e:iter s_l12Session_L7 FUEL (c,r,0)=some (fstS () (fun j=>((j:Int),isAt r.2.2 c j)) (fstI (atLeast r.2.2 c) r.2.2.length 0)):=
  iter_fst (fun i=>(c,r,(i:Int))) r.2.2.length (atLeast r.2.2 c) () _ (by omega) (fun go i hi=>by
   unfold s_l12Session_L7 atLeast isAt
   simp only[decN,Int.toNat_natCast,nnN,cond_true]
   rw[decide_eq_true hi,cond_true,List.getElem?_eq_getElem hi,Option.bind_some,Option.bind_some,wSucc (by omega)]) (fun go=>by unfold s_l12Session_L7;simp)
 unfold s_l12Session sesP
 simp only[e,Option.bind_some]
 cases fstI (atLeast r.2.2 c) r.2.2.length 0<;>rfl
theorem sesP_has {l:List Ses} {c:Int} (h:(sesP l c).2=true):∃s,l[(sesP l c).1]?=some s/\s.1=c:=by
 unfold sesP at h ⊢
 cases hf:fstI (atLeast l c) l.length 0 with
 |none=>rw[hf] at h;cases h
 |some j=>
  rw[hf] at h
  simp only at h ⊢
  unfold isAt at h
  cases hj:l[j]? with
  |none=>rw[hj] at h;cases h
  |some s=>rw[hj] at h;exact⟨s,rfl,by simpa using h⟩
theorem sesP_le (l:List Ses) (c:Int):(sesP l c).1<=l.length:=by
 unfold sesP
 cases hf:fstI (atLeast l c) l.length 0 with
 |none=>exact Nat.le_refl _
 |some j=>have:=fstI_some hf;simp only;omega
def ans0:Ans:=(0,0,0,[],0,0)
def lastP (l:List Ses) (c:Int):Int×Ans:=match l[(sesP l c).1]? with
 |some s=>bif (sesP l c).2 then s.2 else(0,ans0)
 |none=>(0,ans0)
theorem s_last_is {r:RegT} {c:Int} (h:r.2.2.length<=1000):s_l12Last (r,c)=some (lastP r.2.2 c):=by
 unfold s_l12Last lastP
 simp only[s_ses_is h,Option.bind_some]
 cases hb:(sesP r.2.2 c).2 with
 |false=>cases r.2.2[(sesP r.2.2 c).1]?<;>rfl
 |true=>
  obtain⟨s,hs,_⟩:=sesP_has hb
  simp only[Bool.not_true,cond_false,nnN,cond_true,Int.toNat_natCast,hs,Option.bind_some]
theorem lastP_range {r:RegT} (hr:RegP r) (c:Int):0<=(lastP r.2.2 c).1/\(lastP r.2.2 c).1<=1000000:=by
 unfold lastP
 cases hs:r.2.2[(sesP r.2.2 c).1]? with
 |none=>exact⟨Int.le_refl 0,by show(0:Int)<=1000000;decide⟩
 |some s=>
  have:=(ses_at hr.ses hs).2.1
  cases(sesP r.2.2 c).2 with
  |false=>exact⟨Int.le_refl 0,by show(0:Int)<=1000000;decide⟩
  |true=>simp only[cond_true];omega
def setIx (a:Ans) (ix:Int):Ans:=(a.1,a.2.1,a.2.2.1,a.2.2.2.1,a.2.2.2.2.1,ix)
def putSes (l:List Ses) (c:Int) (s:Ses):List Ses:=bif (sesP l c).2 then l.set (sesP l c).1 s else l.take (sesP l c).1++[s]++l.drop (sesP l c).1
def inR (cl se ix:Int):Bool:=(decide (1<=cl)&&decide (cl<=6))&&(decide (1<=se)&&decide (se<=1000000))&&(decide (1<=ix)&&decide (ix<=100000))
noncomputable def servP (r:RegT) (cl se:Int) (o:OpT) (ix:Int):RegT×Ans×Bool:=
 if inR cl se ix=false then(r,ans0,false)
 else if se=(lastP r.2.2 cl).1 then(r,(lastP r.2.2 cl).2,false)
 else if se=(lastP r.2.2 cl).1+1 then(((doP r o).2.1,(doP r o).2.2.1,putSes r.2.2 cl (cl,se,setIx (doP r o).1 ix)),setIx (doP r o).1 ix,true)
 else(r,ans0,false)
theorem inR_bif {α:Type} (f:Bool->Option α) (cl se ix:Int):((bif !!(decide (1<=cl)&&decide (cl<=6)) then some !(decide (1<=se)&&decide (se<=1000000)) else some true).bind fun x_2=>(bif !x_2 then some !(decide (1<=ix)&&decide (ix<=100000)) else some true:Option Bool).bind f)=f (!inR cl se ix):=by
 unfold inR
 generalize (decide (1<=cl)&&decide (cl<=6))=p1
 generalize (decide (1<=se)&&decide (se<=1000000))=p2
 generalize (decide (1<=ix)&&decide (ix<=100000))=p3
 cases p1<;>cases p2<;>cases p3<;>rfl
theorem s_serve_is {r:RegT} (hr:RegP r) (cl se:Int) (o:OpT) (ix:Int):s_l12Serve (r,cl,se,o,ix)=some (servP r cl se o ix):=by
 have hs6:=hr.s6
 have hlr:=lastP_range hr cl
 have F:=do_fwd hr o
 obtain⟨z,hz,hz2⟩:=s_do_is hr o
 subst hz2
 have hses:=F.ses
 unfold s_l12Serve servP
 simp only[in_s,Option.bind_some]
 rw[inR_bif]
 cases hin:inR cl se ix with
 |false=>rfl
 |true=>
  simp only[Bool.not_true,cond_false,s_last_is (show r.2.2.length<=1000 by omega),Option.bind_some,Bool.true_eq_false,if_false]
  by_cases h1:se=(lastP r.2.2 cl).1
  ·rw[decide_eq_true h1,cond_true,if_pos h1]
  ·rw[decide_eq_false h1,cond_false,if_neg h1,w64 (by omega) (by omega)]
   by_cases h2:se=(lastP r.2.2 cl).1+1
   ·rw[decide_eq_true h2,if_pos h2]
    have hl1:(doP r o).2.2.2.length<=1000:=by rw[hses];omega
    simp only[Bool.not_true,cond_false,hz,Option.bind_some,s_ses_is hl1]
    simp only[hses]
    have hle:=sesP_le r.2.2 cl
    cases hb:(sesP r.2.2 cl).2 with
    |true=>
     obtain⟨s,hs,_⟩:=sesP_has hb
     simp only[cond_true,nnN,Int.toNat_natCast,hs,Option.bind_some]
     unfold putSes
     rw[hb];rfl
    |false=>
     simp only[cond_false,nnN,Int.toNat_natCast,decL,Bool.true_and]
     rw[decide_eq_true hle,cond_true,decide_eq_true (by simp;omega),cond_true,decide_eq_true (by simp;omega),cond_true,cond_true,decide_eq_true (by simp;omega),cond_true]
     unfold putSes
     rw[hb];rfl
   ·rw[decide_eq_false h2,if_neg h2];rfl
theorem sesP_before {l:List Ses} {c:Int} {i:Nat} {p:Ses} (hi:i<(sesP l c).1) (hp:l[i]?=some p):p.1<c:=by
 have hl:=(List.getElem?_eq_some_iff.1 hp).1
 have hf:atLeast l c i=false:=by
  unfold sesP at hi
  cases hf:fstI (atLeast l c) l.length 0 with
  |none=>exact fstI_none hf i (Nat.zero_le _) (by omega)
  |some j=>rw[hf] at hi;exact(fstI_some hf).2.2.2 i (Nat.zero_le _) hi
 unfold atLeast at hf
 rw[hp] at hf
 simpa using hf
theorem sesP_after {l:List Ses} {c:Int} {p:Ses} (hb:(sesP l c).2=false) (hp:l[(sesP l c).1]?=some p):c<p.1:=by
 have hl:=(List.getElem?_eq_some_iff.1 hp).1
 unfold sesP at hb hp hl
 cases hf:fstI (atLeast l c) l.length 0 with
 |none=>rw[hf] at hl;simp only at hl;omega
 |some j=>
  rw[hf] at hb hp
  simp only at hb hp
  have h1:=(fstI_some hf).2.2.1
  unfold atLeast at h1
  unfold isAt at hb
  rw[hp] at h1 hb
  simp only[decide_eq_true_eq,decide_eq_false_iff_not] at h1 hb
  omega
theorem put_get {l:List Ses} {c:Int} {s:Ses} (j:Nat):(putSes l c s)[j]?=if j<(sesP l c).1 then l[j]? else if j=(sesP l c).1 then some s else bif (sesP l c).2 then l[j]? else l[j-1]?:=by
 have hle:=sesP_le l c
 unfold putSes
 cases hb:(sesP l c).2 with
 |true=>
  obtain⟨x,hx,_⟩:=sesP_has hb
  have hl:=(List.getElem?_eq_some_iff.1 hx).1
  simp only[cond_true]
  by_cases h1:j<(sesP l c).1
  ·rw[if_pos h1,List.getElem?_set_ne (by omega)]
  ·rw[if_neg h1]
   by_cases h2:j=(sesP l c).1
   ·rw[if_pos h2,h2,List.getElem?_set_self hl]
   ·rw[if_neg h2,List.getElem?_set_ne (by omega)]
 |false=>
  simp only[cond_false,List.append_assoc]
  by_cases h1:j<(sesP l c).1
  ·rw[if_pos h1,List.getElem?_append_left (by simp;omega),List.getElem?_take,if_pos h1]
  ·rw[if_neg h1,List.getElem?_append_right (by simp;omega)]
   simp only[List.length_take,Nat.min_eq_left hle]
   by_cases h2:j=(sesP l c).1
   ·rw[if_pos h2,h2,Nat.sub_self];rfl
   ·rw[if_neg h2]
    obtain⟨m,hm⟩:∃m,j-(sesP l c).1=m+1:=⟨j-(sesP l c).1-1,by omega⟩
    rw[hm]
    simp only[List.singleton_append,List.getElem?_cons_succ,List.getElem?_drop]
    congr 1;omega
theorem ses_up {l:List Ses} (h:allFrom (okSes l) l.length 0=true):∀ (j:Nat) (s:Ses),l[j]?=some s->(j:Int)+1<=s.1:=by
 intro j
 induction j with
 |zero=>intro s hs;have:=(ses_at h hs).1;omega
 |succ j ih=>
  intro s hs
  have hl:=(List.getElem?_eq_some_iff.1 hs).1
  have hj:j<l.length:=by omega
  have h1:=(ses_at h hs).2.2.2 j _ rfl (List.getElem?_eq_getElem hj)
  have h2:=ih _ (List.getElem?_eq_getElem hj)
  omega
theorem ses_len {l:List Ses} (h:allFrom (okSes l) l.length 0=true):l.length<=6:=by
 cases hl:l.length with
 |zero=>omega
 |succ n=>
  have hn:n<l.length:=by omega
  have h1:=ses_up h n _ (List.getElem?_eq_getElem hn)
  have h2:=(ses_at h (List.getElem?_eq_getElem hn)).1
  omega
theorem put_right {l:List Ses} (h:allFrom (okSes l) l.length 0=true) {c:Int} (hc:1<=c/\c<=6) {s:Ses} (hs:s.1=c) (h2:1<=s.2.1/\s.2.1<=1000000) (h3:ansB s.2.2=true):
  (putSes l c s).length<=6/\allFrom (okSes (putSes l c s)) (putSes l c s).length 0=true:=by
 have hall:allFrom (okSes (putSes l c s)) (putSes l c s).length 0=true:=by
  refine ses_of fun j x hx=>?_
  rw[put_get] at hx
  by_cases h1:j<(sesP l c).1
  ·rw[if_pos h1] at hx
   obtain⟨g1,g2,g3,g4⟩:=ses_at h hx
   refine⟨g1,g2,g3,fun i p hi hp=>?_⟩
   rw[put_get,if_pos (by omega)] at hp
   exact g4 i p hi hp
  ·rw[if_neg h1] at hx
   by_cases hj:j=(sesP l c).1
   ·rw[if_pos hj] at hx
    have:=Option.some.inj hx
    subst this
    refine⟨by rw[hs];exact hc,h2,h3,fun i p hi hp=>?_⟩
    rw[put_get,if_pos (by omega)] at hp
    rw[hs];exact sesP_before (by omega) hp
   ·rw[if_neg hj] at hx
    cases hb:(sesP l c).2 with
    |true=>
     rw[hb,cond_true] at hx
     obtain⟨g1,g2,g3,g4⟩:=ses_at h hx
     refine⟨g1,g2,g3,fun i p hi hp=>?_⟩
     rw[put_get,if_neg (by omega)] at hp
     by_cases hi2:i=(sesP l c).1
     ·rw[if_pos hi2] at hp
      have:=Option.some.inj hp
      subst this
      obtain⟨y,hy,hy2⟩:=sesP_has hb
      rw[hs,<-hy2]
      exact g4 i y hi (by rw[hi2];exact hy)
     ·rw[if_neg hi2,hb,cond_true] at hp
      exact g4 i p hi hp
    |false=>
     rw[hb,cond_false] at hx
     obtain⟨g1,g2,g3,g4⟩:=ses_at h hx
     refine⟨g1,g2,g3,fun i p hi hp=>?_⟩
     rw[put_get,if_neg (by omega)] at hp
     by_cases hi2:i=(sesP l c).1
     ·rw[if_pos hi2] at hp
      have:=Option.some.inj hp
      subst this
      rw[hs]
      exact sesP_after hb (by rw[<-hi2,show i=j-1 by omega];exact hx)
     ·rw[if_neg hi2,hb,cond_false] at hp
      exact g4 (i-1) p (by omega) hp
 exact⟨ses_len hall,hall⟩
theorem toldP_code (l:List Ver) (n c:Int):(toldP l n c).1=c/\(toldP l n c).2.1=n:=by
 unfold toldP;cases l[(n-1).toNat]?<;>exact⟨rfl,rfl⟩
def CodeOk (a:Ans):Prop:=(0<=a.1/\a.1<=5)/\((a.2.2.1=0/\a.2.2.2.1=[]/\a.2.2.2.2.1=0)\/1<=a.2.1)
theorem code_still {c:Int} (h:0<=c/\c<=5):CodeOk (c,0,0,[],0,0):=⟨h,.inl ⟨rfl,rfl,rfl⟩⟩
theorem code_told (l:List Ver) {n c:Int} (h:0<=c/\c<=5) (hn:1<=n):CodeOk (toldP l n c):=by
 obtain⟨h1,h2⟩:=toldP_code l n c
 exact⟨by rw[h1];exact h,.inr (by rw[h2];exact hn)⟩
theorem do_code {r:RegT} (hr:RegP r) (o:OpT):CodeOk (doP r o).1:=by
 unfold doP
 cases ho:opB o with
 |false=>rw[if_pos rfl];exact code_still ⟨by decide,by decide⟩
 |true=>
  rw[if_neg (by decide)]
  by_cases h1:o.1=1
  ·rw[if_pos h1]
   unfold pubP
   by_cases hrc:(rc o.2.2.2).2=false
   ·rw[if_pos hrc];exact code_still ⟨by decide,by decide⟩
   ·rw[if_neg hrc]
    by_cases hh:0<hasN r.1 o.2.2.2
    ·rw[if_pos hh];exact code_told _ ⟨by decide,by decide⟩ (by omega)
    ·rw[if_neg hh]
     by_cases h66:r.1.length=6
     ·rw[if_pos h66];exact code_still ⟨by decide,by decide⟩
     ·rw[if_neg h66];exact code_told _ ⟨by decide,by decide⟩ (by omega)
  ·rw[if_neg h1]
   unfold opB at ho
   rw[if_neg h1,Bool.and_eq_true] at ho
   have h:=ho.2
   by_cases h5:o.1=5
   ·rw[if_pos h5]
    unfold lookP
    generalize (if o.2.2.1=0 then(r.2.1[o.2.1.toNat]?).getD 0 else o.2.2.1)=n
    by_cases hn:1<=n/\n<=(r.1.length:Int)
    ·rw[if_pos hn];exact code_told _ ⟨by decide,by decide⟩ hn.1
    ·rw[if_neg hn];exact code_still ⟨by decide,by decide⟩
   ·rw[if_neg h5]
    have hn:1<=o.2.2.1:=by
     by_cases h2:o.1=2
     ·rw[if_pos h2] at h;simp only[Bool.and_eq_true,decide_eq_true_eq] at h;omega
     ·rw[if_neg h2] at h
      by_cases h34:o.1=3\/o.1=4
      ·rw[if_pos h34] at h;simp only[Bool.and_eq_true,decide_eq_true_eq] at h;omega
      ·rw[if_neg h34,if_neg h5] at h;cases h
    unfold turnP
    by_cases hl:(r.1.length:Int)<o.2.2.1
    ·rw[if_pos hl];exact code_still ⟨by decide,by decide⟩
    ·rw[if_neg hl]
     cases wantP o.1 ((r.1[(o.2.2.1-1).toNat]?.map (·.2.2)).getD 0) with
     |true=>exact code_told _ ⟨by decide,by decide⟩ hn
     |false=>exact code_told _ ⟨by decide,by decide⟩ hn
theorem do_ans {r:RegT} (hr:RegP r) (o:OpT) {ix:Int} (h1:1<=ix) (h2:ix<=100000):ansB (setIx (doP r o).1 ix)=true:=by
 have F:=do_fwd hr o
 have hc:=do_code hr o
 rw[ansB_iff]
 unfold setIx
 simp only
 rcases F.told with h0|⟨t1,t2,v,t3,t4,t5,t6⟩
 ·obtain⟨c1,c2⟩:=hc
  rcases c2 with⟨e1,e2,e3⟩|h
  ·rw[h0,e1,e2,e3]
   exact⟨c1,by decide,by decide,.inl rfl,by decide,by omega,h2⟩
  ·omega
 ·obtain⟨g1,_,g3,g4,g5,_⟩:=F.reg.ver _ v t3
  have hl:=rc_len g1
  rw[t4,t5,t6,g3]
  exact⟨hc.1,⟨by omega,t2⟩,⟨by omega,g5⟩,.inr (sha32 (by omega)),⟨by omega,by omega⟩,by omega,h2⟩
theorem serv_right {r:RegT} (hr:RegP r) (cl se:Int) (o:OpT) (ix:Int):RegP (servP r cl se o ix).1:=by
 unfold servP
 cases hin:inR cl se ix with
 |false=>rw[if_pos rfl];exact hr
 |true=>
  rw[if_neg (by decide)]
  unfold inR at hin
  simp only[Bool.and_eq_true,decide_eq_true_eq] at hin
  obtain⟨⟨⟨a1,a2⟩,a3,a4⟩,a5,a6⟩:=hin
  by_cases h1:se=(lastP r.2.2 cl).1
  ·rw[if_pos h1];exact hr
  ·rw[if_neg h1]
   by_cases h2:se=(lastP r.2.2 cl).1+1
   ·rw[if_pos h2]
    have F:=(do_fwd hr o).reg
    have hA:=do_ans hr o a5 a6
    obtain⟨p1,p2⟩:=put_right hr.ses ⟨a1,a2⟩ (s:=(cl,se,setIx (doP r o).1 ix)) rfl ⟨a3,a4⟩ hA
    exact⟨F.v6,F.a3,p1,F.ver,F.act,p2⟩
   ·rw[if_neg h2];exact hr
end Go.Proofs.YtacbkfginiknaaaDoor
