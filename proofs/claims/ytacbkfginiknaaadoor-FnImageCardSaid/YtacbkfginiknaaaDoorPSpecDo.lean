/- The plain law: what the reference does with a right registry is what the program does. -/
import Derived.Test.YtacbkfginiknaaaDoorPSDo
import Derived.Test.YtacbkfginiknaaaDoorPFwd
namespace Go.Proofs.YtacbkfginiknaaaDoor
open Go Go.Proofs.YtacbkfginiknaaaDoor.V
theorem s_told_is {r:RegT} {n c:Int} (h0:1<=n) (h1:n<=(r.1.length:Int)) (h2:n<=1000):s_l12Told (r,c,n)=some (toldP r.1 n c):=by
 unfold s_l12Told toldP
 simp only
 rw[w64 (by omega) (by omega),decide_eq_true (show 0<=n-1 by omega),cond_true,List.getElem?_eq_getElem (show(n-1).toNat<r.1.length by omega)]
 rfl
def zapF (n:Int) (a:Int):Int:=if a=n then 0 else a
theorem l69_is {r:RegT} (h:r.2.1.length<=1000) (n:Int):Tot (iter s_l12Do_L69 FUEL (r,n,0)) (fun z=>z=(r.1,r.2.1.map (zapF n),r.2.2)):=by
 refine iter_tot (S:=s_l12Do_L69) (fun x=>(1000-x.2.2).toNat) (fun x=>∃i:Nat,x.2.2=(i:Int)/\x.2.1=n/\x.1.1=r.1/\x.1.2.2=r.2.2/\x.1.2.1.length=r.2.1.length/\i<=r.2.1.length/\∀j:Nat,x.1.2.1[j]?=(r.2.1[j]?).map fun a=>if j<i then zapF n a else a) _ (fun go x hx hgo=>?_) FUEL (r,n,0) ⟨0,rfl,rfl,rfl,rfl,rfl,Nat.zero_le _,fun j=>by simp⟩ (fuel_lt (by simp))
 obtain⟨⟨v,a,s⟩,m,ii⟩:=x
 obtain⟨i,h1,h2,h3,h4,h5,h6,h7⟩:=hx
 simp only at h1 h2 h3 h4 h5 h7 hgo
 subst h1 h2 h3 h4
 unfold s_l12Do_L69
 refine tot_if (fun hi=>?_) (fun hi=>tot_some ?_)
 ·simp only at hi
  have hil:i<a.length:=by omega
  have hg:a[i]?=some r.2.1[i]:=by
   rw[h7 i,List.getElem?_eq_getElem (by omega),Option.map_some,if_neg (by omega)]
  have e:IntKind.i64.wrap ((i:Int)+1)=((i+1:Nat):Int):=by rw[w64 (by omega) (by omega)];omega
  simp only[e,Int.toNat_natCast,hg,Option.bind_some]
  refine tot_okd (by omega) (tot_if (fun hc=>tot_okd (by omega) ?_) (fun hc=>?_))
  ·refine hgo _ ⟨i+1,rfl,rfl,rfl,rfl,by simpa using h5,by omega,fun j=>?_⟩ (by simp only;omega)
   simp only[List.getElem?_set]
   by_cases hj:i=j
   ·subst hj
    rw[if_pos rfl,if_pos hil,List.getElem?_eq_getElem (by omega),Option.map_some,if_pos (by omega)]
    unfold zapF;rw[if_pos hc]
   ·rw[if_neg hj,h7 j]
    congr 1;funext b
    by_cases hji:j<i
    ·rw[if_pos hji,if_pos (by omega)]
    ·rw[if_neg hji,if_neg (by omega)]
  ·refine hgo _ ⟨i+1,rfl,rfl,rfl,rfl,h5,by omega,fun j=>?_⟩ (by simp only;omega)
   rw[h7 j]
   by_cases hj:i=j
   ·subst hj
    rw[List.getElem?_eq_getElem (by omega),Option.map_some,Option.map_some,if_neg (by omega),if_pos (by omega)]
    unfold zapF;rw[if_neg hc]
   ·congr 1;funext b
    by_cases hji:j<i
    ·rw[if_pos hji,if_pos (by omega)]
    ·rw[if_neg hji,if_neg (by omega)]
 ·simp only at hi
  have ha:a=r.2.1.map (zapF m):=by
   refine List.ext_getElem? fun j=>?_
   rw[h7 j,List.getElem?_map]
   by_cases hj:j<r.2.1.length
   ·rw[List.getElem?_eq_getElem hj,Option.map_some,Option.map_some,if_pos (by omega)]
   ·rw[List.getElem?_eq_none (by omega)];rfl
  rw[ha]
theorem zap_is {l:List Int} {n:Int} (hn:n≠0) (hc:cnt n l=1):l.map (zapF n)=l.set (idx l n) 0:=by
 have hm:n∈l:=List.count_pos_iff.1 (show 0<List.count n l by unfold cnt at hc;omega)
 have hx:=idx_spec hm
 have hl:=(List.getElem?_eq_some_iff.1 hx).1
 have he:=(List.getElem?_eq_some_iff.1 hx).2
 have h0:cnt n (l.set (idx l n) 0)=0:=by
  rw[cnt_set hl,if_pos he,if_neg (Ne.symm hn),hc]
 have hno:n∉l.set (idx l n) 0:=List.count_eq_zero.1 h0
 refine List.ext_getElem? fun j=>?_
 rw[List.getElem?_map]
 by_cases hj:idx l n=j
 ·subst hj
  rw[hx,Option.map_some,List.getElem?_set_self hl]
  unfold zapF;rw[if_pos rfl]
 ·rw[List.getElem?_set_ne hj]
  cases hg:l[j]? with
  |none=>rfl
  |some a=>
   have:a≠n:=fun e=>hno (List.mem_of_getElem? (i:=j) (by rw[List.getElem?_set_ne hj,hg,e]))
   rw[Option.map_some];unfold zapF;rw[if_neg this]
theorem s_want_is {k s:Int} (hk:k=2\/k=3\/k=4):s_l12Wants (k,s)=some (wantP k s):=by
 unfold s_l12Wants wantP
 simp only[bOr,Option.bind_some,Bool.not_not]
 rcases hk with rfl|rfl|rfl
 ·rfl
 ·rfl
 ·rfl
theorem s_do_is {r:RegT} (hr:RegP r) (o:OpT):Tot (s_l12Do (r,o)) (fun z=>z=((doP r o).2,(doP r o).1)):=by
 have h6:=hr.v6
 have h3:=hr.a3
 unfold s_l12Do
 simp only[s_OpOk_is,Option.bind_some]
 cases ho:opB o with
 |false=>exact tot_some (by unfold doP;rw[if_pos ho])
 |true=>
  obtain⟨k,c,n,b⟩:=o
  have hne:¬opB (k,c,n,b)=false:=by rw[ho];decide
  have hd:doP r (k,c,n,b)=if k=1 then pubP r b else if k=5 then lookP r (k,c,n,b) else turnP r (k,c,n,b):=by unfold doP;rw[if_neg hne]
  rw[hd]
  simp only[Bool.not_true,cond_false]
  unfold opB at ho
  simp only at ho
  by_cases h1:k=1
  ·rw[decide_eq_true h1,cond_true,if_pos h1]
   unfold pubP
   simp only[s_rc_is,Option.bind_some]
   cases hrc:(rc b).2 with
   |false=>exact tot_some (by rw[if_pos rfl])
   |true=>
    have hl:=rc_len hrc
    simp only[Bool.not_true,cond_false,s_body_is (show r.1.length<=4294967296 by omega),Option.bind_some,Bool.true_eq_false,if_false]
    refine tot_if (fun hp=>?_) (fun hp=>tot_if (fun hv=>tot_some ?_) (fun hv=>?_))
    ·have hp':0<hasN r.1 b:=by omega
     obtain⟨x,_,_,g3⟩:=hasN_some hp'
     rw[s_told_is (by omega) (by omega) (by omega)]
     exact tot_some (by rw[if_pos hp'])
    ·rw[if_neg (by omega),if_pos (by omega)]
    ·rw[s_sha_is (show b.length<=1000 by omega)]
     refine tot_okd (by omega) ?_
     rw[s_told_is (by simp only[List.length_append,List.length_singleton];omega) (by simp only[List.length_append,List.length_singleton];omega) (by simp only[List.length_append,List.length_singleton];omega)]
     refine tot_some ?_
     rw[if_neg (by omega),if_neg (by omega)]
     simp only[List.length_append,List.length_singleton]
     rfl
  ·rw[if_neg h1] at ho
   simp only[Bool.and_eq_true] at ho
   have ho:=ho.2
   rw[decide_eq_false h1,if_neg h1]
   simp only[cond_false,bAnd,Option.bind_some]
   by_cases h50:k=5/\n=0
   ·obtain⟨rfl,rfl⟩:=h50
    rw[if_neg (by decide),if_neg (by decide),if_pos rfl] at ho
    simp only[Bool.or_eq_true,Bool.and_eq_true,decide_eq_true_eq] at ho
    have hc:0<=c/\c<=2:=by omega
    have hcl:c.toNat<r.2.1.length:=by omega
    rw[if_pos rfl]
    unfold lookP
    simp only[decide_true,Bool.and_self,cond_true,List.getElem?_eq_getElem hcl,Option.bind_some,if_true,Option.getD_some]
    refine tot_okd hc.1 ?_
    have hma:=hr.act _ (List.getElem_mem hcl)
    generalize r.2.1[c.toNat]=m at hma ⊢
    rw[bOr]
    simp only[Option.bind_some]
    by_cases hz:m=0\/(r.1.length:Int)<m
    ·have:(!(!decide (m=0))||decide ((r.1.length:Int)<m))=true:=by simpa using hz
     rw[this];exact tot_some (by rw[if_neg (by omega)])
    ·have:(!(!decide (m=0))||decide ((r.1.length:Int)<m))=false:=by rw[Bool.eq_false_iff];simpa using hz
     rw[this]
     simp only[cond_false]
     rw[s_told_is (by omega) (by omega) (by omega)]
     exact tot_some (by rw[if_pos (by omega)])
   ·have e50:(decide (k=5)&&decide (n=0))=false:=by rw[Bool.eq_false_iff];simpa using h50
    rw[e50]
    have hn16:1<=n/\n<=6:=by
     by_cases h2:k=2
     ·rw[if_pos h2] at ho;simp only[Bool.and_eq_true,decide_eq_true_eq] at ho;omega
     ·rw[if_neg h2] at ho
      by_cases h34:k=3\/k=4
      ·rw[if_pos h34] at ho;simp only[Bool.and_eq_true,decide_eq_true_eq] at ho;omega
      ·rw[if_neg h34] at ho
       by_cases h5:k=5
       ·rw[if_pos h5] at ho;simp only[Bool.or_eq_true,Bool.and_eq_true,decide_eq_true_eq] at ho;omega
       ·rw[if_neg h5] at ho;cases ho
    simp only[cond_false,bOr,Option.bind_some]
    rw[decide_eq_false (show ¬n=0 by omega)]
    simp only[Bool.not_false,Bool.not_true,Bool.false_or]
    refine tot_if (fun hv=>tot_some ?_) (fun hv=>?_)
    ·by_cases h5:k=5
     ·rw[if_pos h5];unfold lookP;simp only;rw[if_neg (show ¬n=0 by omega),if_neg (by omega)]
     ·rw[if_neg h5];unfold turnP;simp only;rw[if_pos hv]
    refine tot_if (fun h5=>?_) (fun h5=>?_)
    ·rw[s_told_is hn16.1 (by omega) (by omega)]
     refine tot_some ?_
     rw[if_pos h5];unfold lookP;simp only;rw[if_neg (show ¬n=0 by omega),if_pos (by omega)]
    have hk:k=2\/k=3\/k=4:=by
     by_cases h2:k=2
     ·exact .inl h2
     ·rw[if_neg h2] at ho
      by_cases h34:k=3\/k=4
      ·exact .inr h34
      ·rw[if_neg h34,if_neg h5] at ho;cases ho
    have e:IntKind.i64.wrap (n-1)=n-1:=w64 (by omega) (by omega)
    have hlt:(n-1).toNat<r.1.length:=by omega
    have hd0:decide (0<=n-1)=true:=decide_eq_true (by omega)
    rw[if_neg h5]
    unfold turnP
    simp only[if_neg (show ¬ (r.1.length:Int)<n from hv),e,hd0,cond_true,List.getElem?_eq_getElem hlt,Option.bind_some,s_want_is hk,Option.map_some,Option.getD_some]
    cases hw:wantP k r.1[(n-1).toNat].2.2 with
    |false=>
     simp only[Bool.not_false,cond_true,cond_false]
     rw[s_told_is hn16.1 (by omega) (by omega)]
     exact tot_some rfl
    |true=>
     simp only[Bool.not_true,cond_false,cond_true]
     have hset:∀ {l:List Ver} (hl:(n-1).toNat<l.length) (s:Int),l.set (n-1).toNat (l[(n-1).toNat].1,l[(n-1).toNat].2.1,s)=setSt l n s:=fun hl s=>by
      unfold setSt;rw[List.getElem?_eq_getElem hl]
     refine tot_if (fun h2=>?_) (fun h2=>tot_if (fun h3'=>?_) (fun h3'=>?_))
     ·rw[if_pos h2] at ho
      simp only[Bool.and_eq_true,decide_eq_true_eq] at ho
      have hcl:c.toNat<r.2.1.length:=by omega
      have hma:=hr.act _ (List.getElem_mem hcl)
      have hc0:decide (0<=c)=true:=decide_eq_true ho.2.1
      have hX:turnX r (k,c,n,b)=(setSt (bif decide (0<r.2.1[c.toNat]) then setSt r.1 r.2.1[c.toNat] 3 else r.1) n 2,r.2.1.set c.toNat n,r.2.2):=by
       unfold turnX;simp only[if_pos h2,List.getElem?_eq_getElem hcl,Option.getD_some]
      rw[hX]
      simp only[hc0,cond_true,List.getElem?_eq_getElem hcl,Option.bind_some]
      generalize r.2.1[c.toNat]=m at hma ⊢
      refine tot_if (fun hp=>?_) (fun hp=>?_)
      ·have e2:IntKind.i64.wrap (m-1)=m-1:=w64 (by omega) (by omega)
       have hml:(m-1).toNat<r.1.length:=by omega
       have hms:r.1.set (m-1).toNat (r.1[(m-1).toNat].1,r.1[(m-1).toNat].2.1,3)=setSt r.1 m 3:=by
        unfold setSt;rw[List.getElem?_eq_getElem hml]
       rw[decide_eq_true hp]
       simp only[e2,decide_eq_true (show 0<=m-1 by omega),cond_true,List.getElem?_eq_getElem hml,Option.bind_some,hms]
       have hl2:(n-1).toNat<(setSt r.1 m 3).length:=by rw[setSt_len];exact hlt
       simp only[List.getElem?_eq_getElem hl2,Option.bind_some,hset hl2]
       rw[s_told_is hn16.1 (by simp only[setSt_len];omega) (by omega)]
       exact tot_some rfl
      ·rw[decide_eq_false hp]
       simp only[cond_false,Option.bind_some,hset hlt]
       rw[s_told_is hn16.1 (by simp only[setSt_len];omega) (by omega)]
       exact tot_some rfl
     ·have hX:turnX r (k,c,n,b)=(setSt r.1 n 3,r.2.1.set (idx r.2.1 n) 0,r.2.2):=by
       unfold turnX;simp only[if_neg h2,if_pos h3']
      obtain⟨_,_,_,_,_,g6⟩:=hr.ver _ _ (List.getElem?_eq_getElem hlt)
      have hst:r.1[(n-1).toNat].2.2=2:=by unfold wantP at hw;rw[if_pos h3'] at hw;simpa using hw
      rw[if_pos hst,show(((n-1).toNat:Nat):Int)+1=n by omega] at g6
      refine tot_bind (l69_is (by omega) n) fun y hy=>?_
      subst hy
      simp only[List.getElem?_eq_getElem hlt,Option.bind_some,hset hlt,zap_is (show n≠0 by omega) g6]
      rw[s_told_is hn16.1 (by simp only[setSt_len];omega) (by omega)]
      exact tot_some (by rw[hX])
     ·have hX:turnX r (k,c,n,b)=(setSt r.1 n 4,r.2):=by
       unfold turnX;simp only[if_neg h2,if_neg h3']
      simp only[hset hlt]
      rw[s_told_is hn16.1 (by simp only[setSt_len];omega) (by omega)]
      exact tot_some (by rw[hX])
end Go.Proofs.YtacbkfginiknaaaDoor
