/- The plain law: a right registry stays right, and goes forward. -/
import Derived.Test.YtacbkfginiknaaaDoorPDo
namespace Go.Proofs.YtacbkfginiknaaaDoor
open Go Go.Proofs.YtacbkfginiknaaaDoor.V
theorem cnt_set {l:List Int} {k:Nat} {v a:Int} (h:k<l.length):cnt a (l.set k v)=cnt a l-(if l[k]=a then 1 else 0)+(if v=a then 1 else 0):=by
 unfold cnt
 rw[List.count_set h]
 simp only[beq_iff_eq]
structure Fw (l m:List Ver):Prop where
 len:m.length=l.length
 at':∀ (i:Nat) (v:Ver),l[i]?=some v->∃w,m[i]?=some w/\w.1=v.1/\w.2.1=v.2.1
theorem Fw.back {l m:List Ver} (h:Fw l m) {i:Nat} {w:Ver} (hw:m[i]?=some w):∃v,l[i]?=some v/\w.1=v.1/\w.2.1=v.2.1:=by
 have hi:=(List.getElem?_eq_some_iff.1 hw).1
 rw[h.len] at hi
 obtain⟨w2,e1,e2,e3⟩:=h.at' i _ (List.getElem?_eq_getElem hi)
 rw[hw] at e1
 have:=Option.some.inj e1
 subst this
 exact⟨_,List.getElem?_eq_getElem hi,e2,e3⟩
theorem fw_set (l:List Ver) (n s:Int):Fw l (setSt l n s):=⟨setSt_len l n s,fun i v hv=>by
 rw[setSt_get,hv]
 simp only[Option.map_some,Option.some.injEq,exists_eq_left']
 split<;>simp⟩
theorem Fw.trans {l m k:List Ver} (h:Fw l m) (h2:Fw m k):Fw l k:=⟨h2.len.trans h.len,fun i v hv=>by
 obtain⟨w,e1,e2,e3⟩:=h.at' i v hv
 obtain⟨u,g1,g2,g3⟩:=h2.at' i w e1
 exact⟨u,g1,g2.trans e2,g3.trans e3⟩⟩
theorem Fw.refl (l:List Ver):Fw l l:=⟨rfl,fun _ v hv=>⟨v,hv,rfl,rfl⟩⟩
theorem RegP.turn {r:RegT} (hr:RegP r) {m:List Ver} {b:List Int} (hf:Fw r.1 m) (hb:b.length=3) (hact:∀a∈b,0<=a/\a<=(r.1.length:Int))
  (hst:∀ (i:Nat) (w:Ver),m[i]?=some w->1<=w.2.2/\w.2.2<=4/\cnt ((i:Int)+1) b=if w.2.2=2 then 1 else 0):RegP (m,b,r.2.2):=by
 refine⟨by simp only[hf.len];exact hr.v6,hb,hr.s6,fun i w hw=>?_,fun a ha=>by simp only[hf.len];exact hact a ha,hr.ses⟩
 obtain⟨v,hv,e1,e2⟩:=hf.back hw
 obtain⟨g1,g2,g3,_,_,_⟩:=hr.ver i v hv
 obtain⟨s1,s2,s3⟩:=hst i w hw
 refine⟨by rw[e1];exact g1,fun j y hj hy=>?_,by rw[e2,e1];exact g3,s1,s2,s3⟩
 obtain⟨y',hy',f1,_⟩:=hf.back hy
 rw[f1,e1];exact g2 j y' hj hy'
structure Fwd (r x:RegT) (a:Ans):Prop where
 reg:RegP x
 len:r.1.length<=x.1.length
 same:a.1≠0->x=r
 index:a.2.2.2.2.2=0
 fwd:∀ (i:Nat) (v:Ver),r.1[i]?=some v->∃w,x.1[i]?=some w/\w.1=v.1/\w.2.1=v.2.1/\v.2.2<=w.2.2
 told:a.2.1=0\/1<=a.2.1/\a.2.1<=6/\∃v:Ver,x.1[(a.2.1-1).toNat]?=some v/\a.2.2.2.1=v.2.1/\a.2.2.1=v.2.2/\a.2.2.2.2.1=(v.1.length:Int)
 ses:x.2.2=r.2.2
theorem told_fwd {l:List Ver} {n c:Int} (h0:1<=n) (h1:n<=(l.length:Int)):∃v,l[(n-1).toNat]?=some v/\toldP l n c=(c,n,v.2.2,v.2.1,(v.1.length:Int),0):=by
 have hlt:(n-1).toNat<l.length:=by omega
 refine⟨_,List.getElem?_eq_getElem hlt,?_⟩
 unfold toldP;rw[List.getElem?_eq_getElem hlt]
theorem Fwd.still {r:RegT} (hr:RegP r) {a:Ans} (hi:a.2.2.2.2.2=0) (ht:a.2.1=0):Fwd r r a:=
 ⟨hr,Nat.le_refl _,fun _=>rfl,hi,fun i v hv=>⟨v,hv,rfl,rfl,Int.le_refl _⟩,.inl ht,rfl⟩
theorem Fwd.told' {r:RegT} (hr:RegP r) {n c:Int} (h0:1<=n) (h1:n<=(r.1.length:Int)):Fwd r r (toldP r.1 n c):=by
 obtain⟨v,hv,he⟩:=told_fwd (c:=c) h0 h1
 rw[he]
 have:=hr.v6
 exact⟨hr,Nat.le_refl _,fun _=>rfl,rfl,fun i v hv=>⟨v,hv,rfl,rfl,Int.le_refl _⟩,.inr ⟨h0,by simp only;omega,v,hv,rfl,rfl,rfl⟩,rfl⟩
theorem pub_fwd {r:RegT} (hr:RegP r) (b:Bs):Fwd r (pubP r b).2 (pubP r b).1:=by
 unfold pubP
 have h6:=hr.v6
 by_cases hrc:(rc b).2=false
 ·rw[if_pos hrc];exact Fwd.still hr rfl rfl
 ·rw[if_neg hrc]
  by_cases hh:0<hasN r.1 b
  ·rw[if_pos hh]
   obtain⟨x,_,_,h3⟩:=hasN_some hh
   exact Fwd.told' hr (by omega) (by omega)
  ·rw[if_neg hh]
   by_cases h66:r.1.length=6
   ·rw[if_pos h66];exact Fwd.still hr rfl rfl
   ·rw[if_neg h66]
    have hrc':(rc b).2=true:=by simpa using hrc
    have hno:=hasN_zero.1 (show hasN r.1 b=0 by omega)
    obtain⟨v,hv,he⟩:=told_fwd (l:=r.1++[(b,sha b,1)]) (n:=(r.1.length:Int)+1) (c:=0) (by omega) (by simp)
    have hv':v=(b,sha b,1):=by
     rw[show((r.1.length:Int)+1-1).toNat=r.1.length by omega,List.getElem?_append_right (Nat.le_refl _),Nat.sub_self] at hv
     simpa using hv.symm
    have hat:∀i (w:Ver),(r.1++[(b,sha b,1)])[i]?=some w->(i<r.1.length/\r.1[i]?=some w)\/(i=r.1.length/\w=(b,sha b,1)):=by
     intro i w hw
     by_cases hi:i<r.1.length
     ·rw[List.getElem?_append_left hi] at hw;exact .inl ⟨hi,hw⟩
     ·rw[List.getElem?_append_right (by omega)] at hw
      obtain⟨j,hj⟩:∃j,i-r.1.length=j:=⟨_,rfl⟩
      rw[hj] at hw
      cases j with
      |zero=>exact .inr ⟨by omega,by simpa using hw.symm⟩
      |succ j=>simp at hw
    simp only[he]
    refine⟨⟨by simp;omega,hr.a3,hr.s6,fun i w hw=>?_,fun a ha=>?_,hr.ses⟩,by simp,fun h=>absurd rfl h,rfl,fun i w hw=>⟨w,by rw[List.getElem?_append_left (List.getElem?_eq_some_iff.1 hw).1];exact hw,rfl,rfl,Int.le_refl _⟩,.inr ⟨by simp only;omega,by simp only;omega,v,hv,rfl,rfl,rfl⟩,rfl⟩
    ·rcases hat i w hw with⟨hi,hw⟩|⟨hi,rfl⟩
     ·obtain⟨g1,g2,g3⟩:=hr.ver i w hw
      refine⟨g1,fun j y hj hy=>?_,g3⟩
      rcases hat j y hy with⟨_,hy⟩|⟨hj',_⟩
      ·exact g2 j y hj hy
      ·omega
     ·refine⟨hrc',fun j y hj hy=>?_,rfl,by simp,by simp,?_⟩
      ·rcases hat j y hy with⟨_,hy⟩|⟨hj',_⟩
       ·exact hno y (List.mem_of_getElem? hy)
       ·omega
      ·rw[if_neg (by simp)]
       refine List.count_eq_zero.2 fun hm=>?_
       have:=(hr.act _ hm).2
       omega
    ·have:=hr.act a ha
     simp only[List.length_append,List.length_singleton];omega
theorem turnX_fwd {r:RegT} (hr:RegP r) {o:OpT} (hv:1<=o.2.2.1/\o.2.2.1<=(r.1.length:Int)) (hc:o.1=2->0<=o.2.1/\o.2.1<=2) {v:Ver} (hat:r.1[(o.2.2.1-1).toNat]?=some v) (hw:wantP o.1 v.2.2=true):
  RegP (turnX r o)/\Fw r.1 (turnX r o).1/\(turnX r o).2.2=r.2.2/\∀ (i:Nat) (a w:Ver),r.1[i]?=some a->(turnX r o).1[i]?=some w->a.2.2<=w.2.2:=by
 obtain⟨k,c,n,b⟩:=o
 simp only at hv hc hat hw
 have h3:=hr.a3
 obtain⟨_,_,_,v1,v4,vc⟩:=hr.ver _ _ hat
 rw[show(((n-1).toNat:Nat):Int)+1=n by omega] at vc
 unfold turnX
 by_cases h2:k=2
 ·subst h2
  obtain⟨c0,c2⟩:=hc rfl
  have hcl:c.toNat<r.2.1.length:=by omega
  have hs1:v.2.2=1:=by unfold wantP at hw;simpa using hw
  rw[if_neg (by omega)] at vc
  simp only[if_true]
  rw[List.getElem?_eq_getElem hcl,Option.getD_some]
  have hold:=hr.act _ (List.getElem_mem hcl)
  have hne:r.2.1[c.toNat]≠n:=fun e=>by
   have:=cnt_pos (List.getElem_mem hcl)
   rw[e] at this;omega
    -- what stands at a place
  have hget:∀ (i:Nat) (a w:Ver),r.1[i]?=some a->(setSt (bif decide (0<r.2.1[c.toNat]) then setSt r.1 r.2.1[c.toNat] 3 else r.1) n 2)[i]?=some w->
    (i=(n-1).toNat/\w.2.2=2)\/(i≠(n-1).toNat/\0<r.2.1[c.toNat]/\i=(r.2.1[c.toNat]-1).toNat/\w.2.2=3)\/(i≠(n-1).toNat/\(0<r.2.1[c.toNat]->i≠(r.2.1[c.toNat]-1).toNat)/\w=a):=by
   intro i a w ha hw
   rw[setSt_get] at hw
   by_cases h0:0<r.2.1[c.toNat]
   ·rw[decide_eq_true h0,cond_true,setSt_get,ha] at hw
    simp only[Option.map_some,Option.some.injEq] at hw
    by_cases hi:i=(n-1).toNat
    ·rw[if_pos hi] at hw;exact .inl ⟨hi,by rw[<-hw]⟩
    ·rw[if_neg hi] at hw
     by_cases hj:i=(r.2.1[c.toNat]-1).toNat
     ·rw[if_pos hj] at hw;exact .inr (.inl ⟨hi,h0,hj,by rw[<-hw]⟩)
     ·rw[if_neg hj] at hw;exact .inr (.inr ⟨hi,fun _=>hj,hw.symm⟩)
   ·rw[decide_eq_false h0,cond_false,ha] at hw
    simp only[Option.map_some,Option.some.injEq] at hw
    by_cases hi:i=(n-1).toNat
    ·rw[if_pos hi] at hw;exact .inl ⟨hi,by rw[<-hw]⟩
    ·rw[if_neg hi] at hw;exact .inr (.inr ⟨hi,fun h=>absurd h h0,hw.symm⟩)
  have hf:Fw r.1 (setSt (bif decide (0<r.2.1[c.toNat]) then setSt r.1 r.2.1[c.toNat] 3 else r.1) n 2):=by
   refine Fw.trans ?_ (fw_set _ _ _)
   cases decide (0<r.2.1[c.toNat]) with
   |true=>exact fw_set _ _ _
   |false=>exact Fw.refl _
  refine⟨hr.turn hf (by simpa using h3) (fun a ha=>?_) (fun i w hw=>?_),hf,trivial,fun i a w ha hw=>?_⟩
  ·rcases List.mem_or_eq_of_mem_set ha with ha|ha
   ·exact hr.act a ha
   ·rw[ha];omega
  ·obtain⟨a,ha,_⟩:=hf.back hw
   obtain⟨_,_,_,a1,a4,ac⟩:=hr.ver i a ha
   rw[cnt_set hcl]
   rcases hget i a w ha hw with⟨hi,hst⟩|⟨hi,h0,hj,hst⟩|⟨hi,hj,rfl⟩
   ·have hA:¬r.2.1[c.toNat]=(i:Int)+1:=by omega
    have hB:n=(i:Int)+1:=by omega
    have hC:cnt ((i:Int)+1) r.2.1=0:=by rw[<-hB];exact vc
    refine⟨by omega,by omega,?_⟩
    rw[if_neg hA,if_pos hB,if_pos hst,hC]
   ·have hA:r.2.1[c.toNat]=(i:Int)+1:=by omega
    have hB:¬n=(i:Int)+1:=by omega
    have hp:=cnt_pos (List.getElem_mem hcl)
    rw[hA] at hp
    have hD:¬w.2.2=2:=by omega
    have hC:cnt ((i:Int)+1) r.2.1=1:=by split at ac<;>omega
    refine⟨by omega,by omega,?_⟩
    rw[if_pos hA,if_neg hB,if_neg hD,hC]
   ·have hA:¬r.2.1[c.toNat]=(i:Int)+1:=fun e=>hj (by omega) (by omega)
    have hB:¬n=(i:Int)+1:=by omega
    refine⟨a1,a4,?_⟩
    rw[if_neg hA,if_neg hB,ac];omega
  ·obtain⟨_,_,_,a1,a4,ac⟩:=hr.ver i a ha
   rcases hget i a w ha hw with⟨hi,hst⟩|⟨hi,h0,hj,hst⟩|⟨hi,hj,rfl⟩
   ·subst hi
    rw[hat] at ha
    have:=Option.some.inj ha
    subst this
    omega
   ·have hp:=cnt_pos (List.getElem_mem hcl)
    rw[show r.2.1[c.toNat]=(i:Int)+1 by omega] at hp
    split at ac<;>omega
   ·exact Int.le_refl _
 ·rw[if_neg h2]
  have hget:∀ (s:Int) (i:Nat) (a w:Ver),r.1[i]?=some a->(setSt r.1 n s)[i]?=some w->(i=(n-1).toNat/\w.2.2=s/\a=v)\/(i≠(n-1).toNat/\w=a):=by
   intro s i a w ha hw
   rw[setSt_get,ha] at hw
   simp only[Option.map_some,Option.some.injEq] at hw
   by_cases hi:i=(n-1).toNat
   ·rw[if_pos hi] at hw
    refine .inl ⟨hi,by rw[<-hw],?_⟩
    subst hi
    rw[hat] at ha;exact(Option.some.inj ha).symm
   ·rw[if_neg hi] at hw;exact .inr ⟨hi,hw.symm⟩
  by_cases hk3:k=3
  ·subst hk3
   have hst2:v.2.2=2:=by unfold wantP at hw;simpa using hw
   rw[if_pos hst2] at vc
   have hmem:n∈r.2.1:=List.count_pos_iff.1 (show 0<List.count n r.2.1 by unfold cnt at vc;omega)
   have hix:=idx_spec hmem
   have hixl:=(List.getElem?_eq_some_iff.1 hix).1
   have hixe:=(List.getElem?_eq_some_iff.1 hix).2
   simp only[if_true]
   refine⟨hr.turn (fw_set _ _ _) (by simpa using h3) (fun a ha=>?_) (fun i w hw=>?_),fw_set _ _ _,trivial,fun i a w ha hw=>?_⟩
   ·rcases List.mem_or_eq_of_mem_set ha with ha|ha
    ·exact hr.act a ha
    ·rw[ha];omega
   ·obtain⟨a,ha,_⟩:=(fw_set r.1 n 3).back hw
    obtain⟨_,_,_,a1,a4,ac⟩:=hr.ver i a ha
    rw[cnt_set hixl,hixe]
    rcases hget 3 i a w ha hw with⟨hi,hst,rfl⟩|⟨hi,rfl⟩
    ·have hA:n=(i:Int)+1:=by omega
     have hB:¬ (0:Int)=(i:Int)+1:=by omega
     have hD:¬w.2.2=2:=by omega
     refine⟨by omega,by omega,?_⟩
     rw[if_pos hA,if_neg hB,if_neg hD,<-hA,vc]
    ·have hA:¬n=(i:Int)+1:=by omega
     have hB:¬ (0:Int)=(i:Int)+1:=by omega
     refine⟨a1,a4,?_⟩
     rw[if_neg hA,if_neg hB,ac];omega
   ·rcases hget 3 i a w ha hw with⟨hi,hst,rfl⟩|⟨hi,rfl⟩
    ·omega
    ·exact Int.le_refl _
  ·rw[if_neg hk3]
   have hne2:v.2.2≠2:=fun e=>by
    unfold wantP at hw
    rw[if_neg hk3,e] at hw
    split at hw<;>simp at hw
   rw[if_neg hne2] at vc
   refine⟨hr.turn (b:=r.2.1) (fw_set _ _ _) h3 hr.act (fun i w hw=>?_),fw_set _ _ _,rfl,fun i a w ha hw=>?_⟩
   ·obtain⟨a,ha,_⟩:=(fw_set r.1 n 4).back hw
    obtain⟨_,_,_,a1,a4,ac⟩:=hr.ver i a ha
    rcases hget 4 i a w ha hw with⟨hi,hst,rfl⟩|⟨hi,rfl⟩
    ·have hA:n=(i:Int)+1:=by omega
     have hD:¬w.2.2=2:=by omega
     refine⟨by omega,by omega,?_⟩
     rw[if_neg hD,<-hA,vc]
    ·exact⟨a1,a4,ac⟩
   ·rcases hget 4 i a w ha hw with⟨hi,hst,rfl⟩|⟨hi,rfl⟩
    ·omega
    ·exact Int.le_refl _
theorem turn_fwd {r:RegT} (hr:RegP r) {o:OpT} (hv:1<=o.2.2.1/\o.2.2.1<=6) (hc:o.1=2->0<=o.2.1/\o.2.1<=2):Fwd r (turnP r o).2 (turnP r o).1:=by
 unfold turnP
 by_cases hn:(r.1.length:Int)<o.2.2.1
 ·rw[if_pos hn];exact Fwd.still hr rfl rfl
 ·rw[if_neg hn]
  have hlt:(o.2.2.1-1).toNat<r.1.length:=by omega
  rw[List.getElem?_eq_getElem hlt]
  simp only[Option.map_some,Option.getD_some]
  cases hw:wantP o.1 r.1[(o.2.2.1-1).toNat].2.2 with
  |false=>exact Fwd.told' hr hv.1 (by omega)
  |true=>
   obtain⟨g1,g2,g3,g4⟩:=turnX_fwd hr ⟨hv.1,by omega⟩ hc (List.getElem?_eq_getElem hlt) hw
   obtain⟨v,hv2,he⟩:=told_fwd (l:=(turnX r o).1) (n:=o.2.2.1) (c:=0) hv.1 (by rw[g2.len];omega)
   simp only[cond_true,he]
   refine⟨g1,by rw[g2.len];exact Nat.le_refl _,fun h=>absurd rfl h,rfl,fun i a ha=>?_,.inr ⟨hv.1,hv.2,v,hv2,rfl,rfl,rfl⟩,g3⟩
   obtain⟨w,e1,e2,e3⟩:=g2.at' i a ha
   exact⟨w,e1,e2,e3,g4 i a w ha e1⟩
theorem do_fwd {r:RegT} (hr:RegP r) (o:OpT):Fwd r (doP r o).2 (doP r o).1:=by
 unfold doP
 cases ho:opB o with
 |false=>rw[if_pos rfl];exact Fwd.still hr rfl rfl
 |true=>
  rw[if_neg (by decide)]
  by_cases h1:o.1=1
  ·rw[if_pos h1];exact pub_fwd hr _
  ·rw[if_neg h1]
   unfold opB at ho
   rw[if_neg h1,Bool.and_eq_true] at ho
   have h:=ho.2
   by_cases h5:o.1=5
   ·rw[if_pos h5]
    unfold lookP
    generalize (if o.2.2.1=0 then(r.2.1[o.2.1.toNat]?).getD 0 else o.2.2.1)=n
    split
    ·rename_i hin;exact Fwd.told' hr hin.1 hin.2
    ·exact Fwd.still hr rfl rfl
   ·rw[if_neg h5]
    by_cases h2:o.1=2
    ·rw[if_pos h2] at h
     simp only[Bool.and_eq_true,decide_eq_true_eq] at h
     exact turn_fwd hr h.1 (fun _=>h.2)
    ·rw[if_neg h2] at h
     by_cases h34:o.1=3\/o.1=4
     ·rw[if_pos h34] at h
      simp only[Bool.and_eq_true,decide_eq_true_eq] at h
      exact turn_fwd hr h.1 (fun h=>absurd h h2)
     ·rw[if_neg h34,if_neg h5] at h;cases h
end Go.Proofs.YtacbkfginiknaaaDoor
