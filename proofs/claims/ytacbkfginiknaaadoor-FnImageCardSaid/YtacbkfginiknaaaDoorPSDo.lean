/- The plain law: the reference's calls come back on drawn registries. -/
import Derived.Test.YtacbkfginiknaaaDoorPDo
namespace Go.Proofs.YtacbkfginiknaaaDoor
open Go Go.Proofs.YtacbkfginiknaaaDoor.V
theorem tot_if {α:Type} {p:Prop} [Decidable p] {x y:Option α} {Q:α->Prop} (h:p->Tot x Q) (k:¬p->Tot y Q):Tot (bif decide p then x else y) Q:=by
 by_cases hp:p
 ·rw[decide_eq_true hp];exact h hp
 ·rw[decide_eq_false hp];exact k hp
theorem tot_okd {α:Type} {p:Prop} [Decidable p] {x:Option α} {Q:α->Prop} (h:p) (k:Tot x Q):Tot (bif decide p then x else none) Q:=by
 rw[decide_eq_true h];exact k
structure WD (r:RegT):Prop where
 v6:r.1.length<=6
 a3:r.2.1.length=3
 act:∀a∈r.2.1,0<=a/\a<=(r.1.length:Int)
 hash:∀v∈r.1,v.2.1.length<=56
theorem sha_len {s:Bs} (h:s.length<=1000):(sha s).length<=56:=by
 obtain⟨y,hy,hl⟩:=sha_tot s h
 unfold sha;rw[hy];exact hl
theorem s_told_tot {r:RegT} {c n:Int} (h0:1<=n) (h1:n<=(r.1.length:Int)) (h2:n<=1000):TotT (s_l12Told (r,c,n)):=by
 unfold s_l12Told
 simp only
 rw[w64 (by omega) (by omega),decide_eq_true (show 0<=n-1 by omega),cond_true,List.getElem?_eq_getElem (show(n-1).toNat<r.1.length by omega)]
 exact totT_some _
theorem s_OpOk_is (o:OpT):s_OpOk o=some (opB o):=by
 obtain⟨k,c,v,b⟩:=o
 unfold s_OpOk opB
 simp only[in_s,Option.bind_some,bAnd,bOr]
 by_cases h1:k=1
 ·subst h1
  simp only[decide_true,cond_true,if_true,bAnd,Option.some.injEq]
  cases decide ((b.length:Int)<=250)<;>cases decide (v=0)<;>cases decide (c=0)<;>rfl
 ·rw[decide_eq_false h1,if_neg h1]
  simp only[cond_false]
  by_cases h2:k=2
  ·subst h2
   simp only[decide_true,cond_true,if_true,Option.some.injEq,Option.bind_some,bAnd]
   cases(decide (1<=v)&&decide (v<=6))<;>cases(decide (0<=c)&&decide (c<=2))<;>cases decide (b=[])<;>rfl
  ·rw[decide_eq_false h2,if_neg h2,cond_false]
   by_cases h3:k=3
   ·subst h3
    simp only[decide_true,cond_true,true_or,if_true,Option.some.injEq,Option.bind_some,bAnd]
    cases(decide (1<=v)&&decide (v<=6))<;>cases decide (c=0)<;>cases decide (b=[])<;>rfl
   ·rw[decide_eq_false h3,cond_false]
    by_cases h4:k=4
    ·subst h4
     simp only[decide_true,cond_true,or_true,if_true,Option.some.injEq,Option.bind_some,bAnd]
     cases(decide (1<=v)&&decide (v<=6))<;>cases decide (c=0)<;>cases decide (b=[])<;>rfl
    ·rw[decide_eq_false h4,cond_false,if_neg (by omega)]
     by_cases h5:k=5
     ·subst h5
      simp only[decide_true,cond_true,if_true,Option.some.injEq,Option.bind_some,bAnd,bOr]
      cases(decide (1<=v)&&decide (v<=6))<;>cases decide (c=0)<;>cases decide (v=0)<;>cases(decide (0<=c)&&decide (c<=2))<;>cases decide (b=[])<;>rfl
     ·rw[decide_eq_false h5,if_neg h5];simp
theorem mem_set' {α:Type} {l:List α} {k:Nat} {v a:α} (h:a∈l.set k v):a∈l\/a=v:=List.mem_or_eq_of_mem_set h
theorem l69_tot {r:RegT} (hr:WD r) (n:Int):Tot (iter s_l12Do_L69 FUEL (r,n,0)) (fun z=>WD z/\z.1=r.1/\z.2.2=r.2.2):=by
 refine iter_tot (S:=s_l12Do_L69) (fun x=>(3-x.2.2).toNat) (fun x=>WD x.1/\x.1.1=r.1/\x.1.2.2=r.2.2/\0<=x.2.2/\x.2.2<=3) _ (fun go x hx hgo=>?_) FUEL (r,n,0) ⟨hr,rfl,rfl,by simp,by simp⟩ (fuel_lt (by simp))
 obtain⟨⟨v,a,s⟩,m,i⟩:=x
 obtain⟨h1,h2,h3,h4,h5⟩:=hx
 have ha3:=h1.a3
 simp only at h2 h3 h4 h5 hgo ha3
 unfold s_l12Do_L69
 refine tot_if (fun hi=>?_) (fun _=>tot_some ⟨h1,h2,h3⟩)
 simp only at hi
 have e:IntKind.i64.wrap (i+1)=i+1:=w64 (by omega) (by omega)
 simp only[e]
 refine tot_okd h4 (tot_get (by omega) fun x _=>tot_get (by omega) fun y _=>tot_if (fun _=>tot_okd h4 (tot_get (by omega) fun _ _=>tot_get (by omega) fun _ _=>?_)) (fun _=>?_))
 ·refine hgo _ ⟨⟨h1.v6,by simpa using ha3,fun b hb=>?_,h1.hash⟩,h2,h3,by simp only;omega,by simp only;omega⟩ (by simp only;omega)
  rcases mem_set' hb with hb|hb
  ·exact h1.act b hb
  ·rw[hb];simp only;omega
 ·exact hgo _ ⟨h1,h2,h3,by simp only;omega,by simp only;omega⟩ (by simp only;omega)
theorem WD.set {r:RegT} (hr:WD r) {l:List Ver} {b:List Int} (hl:l.length=r.1.length) (hh:∀v∈l,v.2.1.length<=56) (hb:b.length=3) (ha:∀a∈b,0<=a/\a<=(r.1.length:Int)):WD (l,b,r.2.2):=
 ⟨by simp only[hl];exact hr.v6,hb,fun a h=>by simp only[hl];exact ha a h,hh⟩
theorem hash_set {l:List Ver} (h:∀v∈l,v.2.1.length<=56) {k:Nat} {x:Ver} (hx:x.2.1.length<=56):∀v∈l.set k x,v.2.1.length<=56:=by
 intro v hv
 rcases mem_set' hv with hv|hv
 ·exact h v hv
 ·rw[hv];exact hx
theorem s_do_tot {r:RegT} (hr:WD r) (o:OpT):Tot (s_l12Do (r,o)) (fun z=>WD z.1/\z.1.2.2=r.2.2):=by
 have h6:=hr.v6
 have h3:=hr.a3
 have hst:∀ {a:Ans},Tot (some (r,a)) (fun z:RegT×Ans=>WD z.1/\z.1.2.2=r.2.2):=tot_some ⟨hr,rfl⟩
 unfold s_l12Do
 simp only[s_OpOk_is,Option.bind_some]
 cases ho:opB o with
 |false=>exact hst
 |true=>
  obtain⟨k,c,n,b⟩:=o
  simp only[Bool.not_true,cond_false]
  unfold opB at ho
  simp only at ho
  by_cases h1:k=1
  ·rw[decide_eq_true h1,cond_true]
   simp only[s_rc_is,Option.bind_some]
   cases hrc:(rc b).2 with
   |false=>exact hst
   |true=>
    have hl:=rc_len hrc
    simp only[Bool.not_true,cond_false,s_body_is (show r.1.length<=4294967296 by omega),Option.bind_some]
    refine tot_if (fun hp=>?_) (fun hp=>tot_if (fun _=>hst) (fun hv=>?_))
    ·obtain⟨x,_,_,g3⟩:=hasN_some (show 0<hasN r.1 b by omega)
     exact tot_bindT (s_told_tot (by omega) (by omega) (by omega)) fun _=>hst
    ·rw[s_sha_is (show b.length<=1000 by omega)]
     refine tot_okd (by omega) (tot_bindT (s_told_tot (by simp only[List.length_append,List.length_singleton];omega) (by simp only[List.length_append,List.length_singleton];omega) (by simp only[List.length_append,List.length_singleton];omega)) fun _=>tot_some ⟨⟨by simp only[List.length_append,List.length_singleton];omega,h3,fun a ha=>?_,fun v hv=>?_⟩,rfl⟩)
     ·have:=hr.act a ha
      simp only[List.length_append,List.length_singleton];omega
     ·rcases List.mem_append.1 hv with hv|hv
      ·exact hr.hash v hv
      ·simp at hv;rw[hv];exact sha_len (by omega)
  ·rw[if_neg h1] at ho
   simp only[Bool.and_eq_true] at ho
   have ho:=ho.2
   rw[decide_eq_false h1]
   simp only[cond_false,bAnd,Option.bind_some]
   by_cases h50:k=5/\n=0
   ·obtain⟨rfl,rfl⟩:=h50
    rw[if_neg (by decide),if_neg (by decide),if_pos rfl] at ho
    simp only[Bool.or_eq_true,Bool.and_eq_true,decide_eq_true_eq] at ho
    have hc:0<=c/\c<=2:=by omega
    simp only[decide_true,Bool.and_self,cond_true]
    refine tot_okd hc.1 (tot_get (by omega) fun a ha=>tot_get (by omega) fun m hm=>?_)
    have hma:=hr.act m hm
    rw[bOr]
    simp only[Option.bind_some]
    by_cases hz:m=0\/(r.1.length:Int)<m
    ·have:(!(!decide (m=0))||decide ((r.1.length:Int)<m))=true:=by simpa using hz
     rw[this];exact hst
    ·have:(!(!decide (m=0))||decide ((r.1.length:Int)<m))=false:=by rw[Bool.eq_false_iff];simpa using hz
     rw[this]
     simp only[cond_false]
     exact tot_bindT (s_told_tot (by omega) (by omega) (by omega)) fun _=>hst
   ·have e50:(decide (k=5)&&decide (n=0))=false:=by rw[Bool.eq_false_iff];simpa using h50
    rw[e50]
    have hn16:1<=n/\n<=6:=by
     by_cases h2:k=2
     ·rw[if_pos h2] at ho;simp only[Bool.and_eq_true,decide_eq_true_eq] at ho;omega
     ·rw[if_neg h2] at ho
      by_cases h34:k=3\/k=4
      ·rw[if_pos h34] at ho;simp only[Bool.and_eq_true,decide_eq_true_eq] at ho;omega
      ·rw[if_neg h34] at ho
       by_cases h5:k=5
       ·rw[if_pos h5] at ho;simp only[Bool.or_eq_true,Bool.and_eq_true,decide_eq_true_eq] at ho;omega
       ·rw[if_neg h5] at ho;cases ho
    simp only[cond_false,bOr,Option.bind_some]
    rw[decide_eq_false (show ¬n=0 by omega)]
    simp only[Bool.not_false,Bool.not_true,Bool.false_or]
    refine tot_if (fun _=>hst) (fun hv=>tot_if (fun _=>tot_bindT (s_told_tot hn16.1 (by omega) (by omega)) fun _=>hst) (fun h5=>?_))
    have e:IntKind.i64.wrap (n-1)=n-1:=w64 (by omega) (by omega)
    rw[e]
    refine tot_okd (by omega) (tot_get (by omega) fun x1 _=>tot_get (by omega) fun x2 hx2=>tot_bindT ?_ fun w=>?_)
    ·unfold s_l12Wants
     refine totT_bif (fun _=>totT_some _) fun _=>totT_bif (fun _=>totT_some _) fun _=>?_
     simp only[bOr,Option.bind_some];exact totT_some _
    refine tot_bif (fun _=>tot_bindT (s_told_tot hn16.1 (by omega) (by omega)) fun _=>hst) (fun _=>?_)
    refine tot_if (fun h2=>?_) (fun h2=>tot_if (fun h3'=>?_) (fun h3'=>?_))
    ·rw[if_pos h2] at ho
     simp only[Bool.and_eq_true,decide_eq_true_eq] at ho
     have hact2:∀a∈r.2.1.set c.toNat n,0<=a/\a<=(r.1.length:Int):=by
      intro a ha
      rcases mem_set' ha with ha|ha
      ·exact hr.act a ha
      ·rw[ha];omega
     refine tot_okd (by omega) (tot_get (by omega) fun a1 ha1=>tot_get (by omega) fun m hm=>?_)
     have hma:=hr.act m hm
     refine tot_if (fun hp=>?_) (fun hp=>?_)
     ·have e2:IntKind.i64.wrap (m-1)=m-1:=w64 (by omega) (by omega)
      rw[e2]
      refine tot_okd (by omega) (tot_get (by omega) fun y1 _=>tot_get (by omega) fun y2 hy2=>tot_okd (by omega) (tot_get (by omega) fun _ _=>tot_get (by omega) fun _ _=>tot_okd (by omega) (tot_get (by simp;omega) fun _ _=>tot_get (by simp;omega) fun z hz=>?_)))
      have hz2:=hash_set hr.hash (k:=(m-1).toNat) (x:=(y2.1,y2.2.1,3)) (hr.hash y2 hy2) z hz
      exact tot_bindT (s_told_tot hn16.1 (by simp;omega) (by omega)) fun _=>tot_some ⟨hr.set (by simp) (hash_set (x:=(z.1,z.2.1,2)) (hash_set (x:=(y2.1,y2.2.1,3)) hr.hash (hr.hash y2 hy2)) hz2) (by simpa using h3) hact2,rfl⟩
     ·refine tot_okd (by omega) (tot_get (by omega) fun _ _=>tot_get (by omega) fun _ _=>tot_okd (by omega) (tot_get (by omega) fun _ _=>tot_get (by omega) fun z hz=>?_))
      exact tot_bindT (s_told_tot hn16.1 (by simp;omega) (by omega)) fun _=>tot_some ⟨hr.set (by simp) (hash_set (x:=(z.1,z.2.1,2)) hr.hash (hr.hash z hz)) (by simpa using h3) hact2,rfl⟩
    ·refine tot_bind (l69_tot hr n) fun y ⟨g1,g2,g3⟩=>?_
     have gl:y.1.length=r.1.length:=by rw[g2]
     refine tot_okd (by omega) (tot_get (by omega) fun _ _=>tot_get (by omega) fun z hz=>?_)
     refine tot_bindT (s_told_tot hn16.1 (by simp;omega) (by omega)) fun _=>tot_some ⟨⟨by simp;omega,g1.a3,fun a ha=>?_,hash_set (x:=(z.1,z.2.1,3)) g1.hash (g1.hash z hz)⟩,g3⟩
     have:=g1.act a ha
     simp only[List.length_set];exact this
    ·refine tot_okd (by omega) (tot_get (by omega) fun _ _=>tot_get (by omega) fun z hz=>?_)
     exact tot_bindT (s_told_tot hn16.1 (by simp;omega) (by omega)) fun _=>tot_some ⟨hr.set (b:=r.2.1) (by simp) (hash_set (x:=(z.1,z.2.1,4)) hr.hash (hr.hash z hz)) h3 hr.act,rfl⟩
end Go.Proofs.YtacbkfginiknaaaDoor
