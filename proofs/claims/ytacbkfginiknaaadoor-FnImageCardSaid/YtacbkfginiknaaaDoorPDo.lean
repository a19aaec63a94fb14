/- The plain law: what the program does with a right registry. -/
import Derived.Test.YtacbkfginiknaaaDoorPRegOk
namespace Go.Proofs.YtacbkfginiknaaaDoor
open Go Go.Proofs.YtacbkfginiknaaaDoor.V
abbrev OpT:=Int×Int×Int×Bs
def opB (o:OpT):Bool:=
 if o.1=1 then decide (o.2.1=0)&&decide (o.2.2.1=0)&&decide ((o.2.2.2.length:Int)<=250)
 else decide (o.2.2.2=[])&&
  (if o.1=2 then(decide (1<=o.2.2.1)&&decide (o.2.2.1<=6))&&(decide (0<=o.2.1)&&decide (o.2.1<=2))
  else if o.1=3\/o.1=4 then(decide (1<=o.2.2.1)&&decide (o.2.2.1<=6))&&decide (o.2.1=0)
  else if o.1=5 then((decide (1<=o.2.2.1)&&decide (o.2.2.1<=6))&&decide (o.2.1=0))||(decide (o.2.2.1=0)&&(decide (0<=o.2.1)&&decide (o.2.1<=2)))
  else false)
theorem i_OpOk_is (o:OpT):i_OpOk o=some (opB o):=by
 obtain⟨k,c,v,b⟩:=o
 unfold i_OpOk opB
 simp only[i_isVersion,i_isChannel,in_i,Option.bind_some,bAnd,bOr]
 by_cases h1:k=1
 ·subst h1
  simp only[decide_true,Bool.not_true,Bool.false_and,cond_true,cond_false,Option.bind_some,if_true,bAnd]
 ·rw[decide_eq_false h1,if_neg h1]
  simp only[Bool.not_false,cond_true,cond_false,Option.bind_some]
  cases hb:decide (b=[]) with
  |false=>rfl
  |true=>
   simp only[Bool.not_true,cond_false,Bool.true_and]
   by_cases h2:k=2
   ·subst h2;simp only[decide_true,cond_true,if_true]
   ·rw[decide_eq_false h2,if_neg h2,cond_false]
    by_cases h3:k=3
    ·subst h3;simp only[decide_true,cond_true,true_or,if_true]
    ·rw[decide_eq_false h3,cond_false]
     by_cases h4:k=4
     ·subst h4;simp only[decide_true,cond_true,or_true,if_true]
     ·rw[decide_eq_false h4,cond_false,if_neg (by omega)]
      by_cases h5:k=5
      ·subst h5
       simp only[decide_true,cond_true,if_true,Option.some.injEq]
       cases((decide (1<=v)&&decide (v<=6))&&decide (c=0))<;>rfl
      ·rw[decide_eq_false h5,if_neg h5];rfl
def toldP (l:List Ver) (n c:Int):Ans:=match l[(n-1).toNat]? with
 |some v=>(c,n,v.2.2,v.2.1,(v.1.length:Int),0)
 |none=>(c,n,0,[],0,0)
theorem told_is {r:RegT} {n c:Int} (h0:1<=n) (h1:n<=(r.1.length:Int)) (h2:n<=1000):i_Reg_told (r,n,c)=some (toldP r.1 n c):=by
 unfold i_Reg_told toldP
 simp only
 rw[w64 (by omega) (by omega),decide_eq_true (show 0<=n-1 by omega),cond_true,List.getElem?_eq_getElem (show(n-1).toNat<r.1.length by omega)]
 rfl
def setSt (l:List Ver) (n s:Int):List Ver:=match l[(n-1).toNat]? with
 |some v=>l.set (n-1).toNat (v.1,v.2.1,s)
 |none=>l
theorem setSt_of {l:List Ver} {n s:Int} (h:(n-1).toNat<l.length):l.set (n-1).toNat (l[(n-1).toNat].1,l[(n-1).toNat].2.1,s)=setSt l n s:=by
 unfold setSt;rw[List.getElem?_eq_getElem h]
theorem setSt_len (l:List Ver) (n s:Int):(setSt l n s).length=l.length:=by
 unfold setSt;split<;>simp
theorem setSt_get {l:List Ver} {n s:Int} (i:Nat):(setSt l n s)[i]?=(l[i]?).map fun v=>if i=(n-1).toNat then(v.1,v.2.1,s) else v:=by
 unfold setSt
 cases h:l[(n-1).toNat]? with
 |none=>
  cases hi:l[i]? with
  |none=>simp[hi]
  |some v=>
   have:i≠(n-1).toNat:=fun e=>by rw[e,h] at hi;cases hi
   simp only[hi,Option.map_some,if_neg this]
 |some v=>
  simp only
  by_cases hi:i=(n-1).toNat
  ·subst hi
   rw[List.getElem?_set_self (List.getElem?_eq_some_iff.1 h).1,h];simp
  ·rw[List.getElem?_set_ne (Ne.symm hi)]
   cases l[i]? with
   |none=>rfl
   |some w=>simp only[Option.map_some,if_neg hi]
theorem ixI_step (go) (x:List Int×Int×Int×Int) (hx:IxI x) (hgo:∀y,IxI y->(y.2.2.1-y.2.2.2).toNat<(x.2.2.1-x.2.2.2).toNat->go y=some (foundI (findI (fun b=>decide (y.2.1=b)) (y.1.drop y.2.2.2.toNat) y.2.2.2.toNat))):
  g_slices_Index_int_int_L7 go x=some (foundI (findI (fun b=>decide (x.2.1=b)) (x.1.drop x.2.2.2.toNat) x.2.2.2.toNat)):=by
 obtain⟨l,v,n,i⟩:=x
 obtain⟨k,h1,h2,h3,h4⟩:=hx
 simp only at h1 h2 h3 h4 hgo
 subst h1 h2
 unfold g_slices_Index_int_int_L7
 simp only[decN,Int.toNat_natCast,nnN,cond_true]
 by_cases hk:k<l.length
 ·rw[decide_eq_true hk,cond_true,List.getElem?_eq_getElem hk,Option.bind_some,drop_at hk,findI]
  cases hv:decide (v=l[k]) with
  |true=>rfl
  |false=>
   simp only[cond_false,Bool.false_eq_true,if_false]
   rw[wSucc (by omega)]
   exact hgo (l,v,(l.length:Int),((k+1:Nat):Int)) ⟨k+1,rfl,rfl,hk,h4⟩ (by simp only;omega)
 ·rw[decide_eq_false hk,cond_false,List.drop_eq_nil_of_le (by omega)];rfl
def idx (l:List Int) (n:Int):Nat:=(findI (fun b=>decide (n=b)) l 0).getD 0
theorem idx_spec {l:List Int} {n:Int} (h:n∈l):l[idx l n]?=some n:=by
 unfold idx
 cases hf:findI (fun b=>decide (n=b)) l 0 with
 |none=>
  have:=findI_none.1 hf n h
  simp at this
 |some j=>
  obtain⟨k,a,e1,e2,e3,_⟩:=findI_some hf
  have e3:n=a:=by simpa using e3
  rw[Option.getD_some,e1,Nat.zero_add,e2,e3]
theorem indexI_is {l:List Int} {n:Int} (h:l.length<=1000) (hm:n∈l):g_slices_Index_int_int (l,n)=some (idx l n:Int):=by
 unfold g_slices_Index_int_int idx
 rw[iter_is (g:=fun x=>some (foundI (findI (fun b=>decide (x.2.1=b)) (x.1.drop x.2.2.2.toNat) x.2.2.2.toNat))) (fun x=>(x.2.2.1-x.2.2.2).toNat) IxI ixI_step FUEL _ ⟨0,rfl,rfl,by simp,by simp only;omega⟩ (fuel_lt (by simp only;omega))]
 simp only[Option.bind_some,Int.toNat_zero,List.drop_zero]
 cases hf:findI (fun b=>decide (n=b)) l 0 with
 |none=>
  have:=findI_none.1 hf n hm
  simp at this
 |some j=>rfl
noncomputable def pubP (r:RegT) (b:Bs):Ans×RegT:=
 if(rc b).2=false then((1,0,0,[],0,0),r)
 else if 0<hasN r.1 b then(toldP r.1 (hasN r.1 b) 2,r)
 else if r.1.length=6 then((3,0,0,[],0,0),r)
 else(toldP (r.1++[(b,sha b,1)]) ((r.1.length:Int)+1) 0,(r.1++[(b,sha b,1)],r.2))
theorem pub_is {r:RegT} (h6:r.1.length<=6) (b:Bs):i_Reg_publish (r,b)=some (pubP r b):=by
 unfold i_Reg_publish pubP
 simp only[i_rc_is,Option.bind_some]
 cases hr:(rc b).2 with
 |false=>rfl
 |true=>
  have hl:=rc_len hr
  simp only[Bool.not_true,cond_false,Bool.true_eq_false,if_false,i_has_is (show r.1.length<=4294967296 by omega),Option.bind_some,dpos]
  by_cases hh:0<hasN r.1 b
  ·obtain⟨x,_,_,h3⟩:=hasN_some hh
   rw[decide_eq_false (show ¬hasN r.1 b=0 by omega),if_pos hh]
   simp only[Bool.not_false,cond_true]
   rw[told_is (by omega) (by omega) (by omega)];rfl
  ·rw[decide_eq_true (show hasN r.1 b=0 by omega),if_neg hh]
   simp only[Bool.not_true,cond_false]
   by_cases h66:r.1.length=6
   ·rw[decide_eq_true (show(r.1.length:Int)=6 by omega),cond_true,if_pos h66]
   ·rw[decide_eq_false (show ¬ (r.1.length:Int)=6 by omega),cond_false,if_neg h66,i_sha_is (by omega)]
    simp only[Option.bind_some]
    rw[decide_eq_true (show r.1.length+1<=4294967296 by omega),cond_true,told_is (by simp only[List.length_append,List.length_singleton];omega) (by simp only[List.length_append,List.length_singleton];omega) (by simp only[List.length_append,List.length_singleton];omega)]
    simp only[Option.bind_some,List.length_append,List.length_singleton]
    rfl
def wantP (k s:Int):Bool:=if k=3 then decide (s=2) else if k=4 then decide (s=1)||decide (s=3) else decide (s=1)
def turnX (r:RegT) (o:OpT):RegT:=
 if o.1=2 then(setSt (bif decide (0<(r.2.1[o.2.1.toNat]?).getD 0) then setSt r.1 ((r.2.1[o.2.1.toNat]?).getD 0) 3 else r.1) o.2.2.1 2,r.2.1.set o.2.1.toNat o.2.2.1,r.2.2)
 else if o.1=3 then(setSt r.1 o.2.2.1 3,r.2.1.set (idx r.2.1 o.2.2.1) 0,r.2.2)
 else(setSt r.1 o.2.2.1 4,r.2)
def turnP (r:RegT) (o:OpT):Ans×RegT:=
 if(r.1.length:Int)<o.2.2.1 then((4,0,0,[],0,0),r)
 else bif wantP o.1 ((r.1[(o.2.2.1-1).toNat]?.map (·.2.2)).getD 0) then(toldP (turnX r o).1 o.2.2.1 0,turnX r o) else(toldP r.1 o.2.2.1 5,r)
theorem want_is (v:Ver) (k:Int):i_Reg_turn_L18 (v,decide (v.2.2=1),k,decide (k=3))=some (wantP k v.2.2):=by
 unfold i_Reg_turn_L18 wantP
 simp only[bOr,Option.bind_some,Bool.not_not]
 by_cases h3:k=3
 ·simp[h3]
 ·by_cases h4:k=4
  ·simp[h4]
  ·simp[h3,h4]
theorem turn_is' {r:RegT} (hr:RegP r) {o:OpT} (hv:1<=o.2.2.1/\o.2.2.1<=6) (hc:o.1=2->0<=o.2.1/\o.2.1<=2):i_Reg_turn (r,o)=some (turnP r o):=by
 obtain⟨k,c,n,b⟩:=o
 simp only at hv hc
 have h6:=hr.v6
 have h3:=hr.a3
 unfold i_Reg_turn turnP
 simp only
 by_cases hn:(r.1.length:Int)<n
 ·rw[decide_eq_true hn,cond_true,if_pos hn]
 ·have hlt:(n-1).toNat<r.1.length:=by omega
  have hw:IntKind.i64.wrap (n-1)=n-1:=w64 (by omega) (by omega)
  rw[decide_eq_false hn,cond_false,if_neg hn,hw,decide_eq_true (show 0<=n-1 by omega),cond_true,List.getElem?_eq_getElem hlt]
  simp only[Option.bind_some,want_is,Option.map_some,Option.getD_some]
  have hset:∀s:Int,r.1.set (n-1).toNat (r.1[(n-1).toNat].1,r.1[(n-1).toNat].2.1,s)=setSt r.1 n s:=fun s=>by
   unfold setSt;rw[List.getElem?_eq_getElem hlt]
  cases hwt:wantP k r.1[(n-1).toNat].2.2 with
  |false=>
   simp only[Bool.not_false,cond_true,cond_false]
   rw[told_is (by omega) (by omega) (by omega)];rfl
  |true=>
   simp only[Bool.not_true,cond_true,cond_false]
   unfold turnX
   by_cases h2:k=2
   ·obtain⟨c0,c2⟩:=hc h2
    have hcl:c.toNat<r.2.1.length:=by omega
    subst h2
    simp only[decide_true,cond_true,if_true]
    rw[decide_eq_true c0,cond_true,List.getElem?_eq_getElem hcl]
    simp only[Option.bind_some,Option.getD_some]
    have ha:=hr.act _ (List.getElem_mem hcl)
    by_cases hp:0<r.2.1[c.toNat]
    ·have hol:(r.2.1[c.toNat]-1).toNat<r.1.length:=by omega
     have hset2:r.1.set (r.2.1[c.toNat]-1).toNat (r.1[(r.2.1[c.toNat]-1).toNat].1,r.1[(r.2.1[c.toNat]-1).toNat].2.1,3)=setSt r.1 r.2.1[c.toNat] 3:=by
      unfold setSt;rw[List.getElem?_eq_getElem hol]
     rw[decide_eq_true hp,cond_true,w64 (by omega) (by omega),decide_eq_true (show 0<=r.2.1[c.toNat]-1 by omega),cond_true,List.getElem?_eq_getElem hol]
     simp only[Option.bind_some,hset2,cond_true]
     have hl2:(n-1).toNat<(setSt r.1 r.2.1[c.toNat] 3).length:=by rw[setSt_len];exact hlt
     rw[List.getElem?_eq_getElem hl2]
     simp only[Option.bind_some,setSt_of hl2]
     rw[told_is (by omega) (by simp only[setSt_len];omega) (by omega)];rfl
    ·rw[decide_eq_false hp]
     simp only[cond_false,Option.bind_some,hset]
     rw[told_is (by omega) (by simp only[setSt_len];omega) (by omega)];rfl
   ·rw[decide_eq_false h2,cond_false,if_neg h2]
    by_cases hk3:k=3
    ·subst hk3
     have hst:r.1[(n-1).toNat].2.2=2:=by unfold wantP at hwt;simpa using hwt
     obtain⟨_,_,_,_,_,g6⟩:=hr.ver _ _ (List.getElem?_eq_getElem hlt)
     rw[if_pos hst,show(((n-1).toNat:Nat):Int)+1=n by omega] at g6
     have hmem:n∈r.2.1:=List.count_pos_iff.1 (show 0<List.count n r.2.1 by unfold cnt at g6;omega)
     have hix:=idx_spec hmem
     simp only[decide_true,cond_true,if_true,indexI_is (show r.2.1.length<=1000 by omega) hmem,Option.bind_some,nnN,Int.toNat_natCast,hix,hset]
     rw[told_is (by omega) (by simp only[setSt_len];omega) (by omega)];rfl
    ·rw[decide_eq_false hk3,cond_false,if_neg hk3]
     simp only[hset]
     rw[told_is (by omega) (by simp only[setSt_len];omega) (by omega)];rfl
def lookP (r:RegT) (o:OpT):Ans×RegT:=
 if 1<=(if o.2.2.1=0 then(r.2.1[o.2.1.toNat]?).getD 0 else o.2.2.1)/\(if o.2.2.1=0 then(r.2.1[o.2.1.toNat]?).getD 0 else o.2.2.1)<=(r.1.length:Int) then(toldP r.1 (if o.2.2.1=0 then(r.2.1[o.2.1.toNat]?).getD 0 else o.2.2.1) 0,r)
 else((4,0,0,[],0,0),r)
noncomputable def doP (r:RegT) (o:OpT):Ans×RegT:=
 if opB o=false then((1,0,0,[],0,0),r)
 else if o.1=1 then pubP r o.2.2.2
 else if o.1=5 then lookP r o
 else turnP r o
theorem do_is {r:RegT} (hr:RegP r) (o:OpT):i_Reg_do (r,o)=some (doP r o):=by
 unfold i_Reg_do doP
 simp only[i_OpOk_is,Option.bind_some]
 cases ho:opB o with
 |false=>rfl
 |true=>
  obtain⟨k,c,n,b⟩:=o
  have h6:=hr.v6
  have h3:=hr.a3
  simp only[Bool.not_true,cond_false,Bool.true_eq_false,if_false]
  unfold opB at ho
  simp only at ho
  by_cases h1:k=1
  ·subst h1;simp only[decide_true,cond_true,if_true,pub_is h6];rfl
  ·rw[if_neg h1] at ho
   simp only[Bool.and_eq_true] at ho
   rw[decide_eq_false h1,cond_false,if_neg h1]
   by_cases h2:k=2
   ·subst h2
    have h:=ho.2
    simp only[if_true,Bool.and_eq_true,decide_eq_true_eq] at h
    simp only[decide_true,cond_true]
    rw[turn_is' hr (o:=(2,c,n,b)) h.1 (fun _=>h.2),if_neg (by decide)];rfl
   ·rw[decide_eq_false h2,cond_false]
    have h:=ho.2
    rw[if_neg h2] at h
    by_cases h34:k=3\/k=4
    ·rw[if_pos h34] at h
     simp only[Bool.and_eq_true,decide_eq_true_eq] at h
     rw[if_neg (by omega),turn_is' hr (o:=(k,c,n,b)) h.1 (fun h=>absurd h h2)]
     rcases h34 with rfl|rfl<;>rfl
    ·rw[if_neg h34] at h
     by_cases h5:k=5
     ·subst h5
      rw[if_pos rfl] at h ⊢
      simp only[show decide ((5:Int)=3)=false from rfl,show decide ((5:Int)=4)=false from rfl,cond_false]
      unfold lookP
      simp only
      by_cases hn:n=0
      ·have hc:0<=c/\c<=2:=by
        simp only[Bool.or_eq_true,Bool.and_eq_true,decide_eq_true_eq] at h
        omega
       have hcl:c.toNat<r.2.1.length:=by omega
       have ha:=hr.act _ (List.getElem_mem hcl)
       rw[decide_eq_true hn,cond_true,decide_eq_true hc.1,cond_true,List.getElem?_eq_getElem hcl]
       simp only[Option.bind_some,in_i,if_pos hn,Option.getD_some]
       by_cases hin:1<=r.2.1[c.toNat]/\r.2.1[c.toNat]<=(r.1.length:Int)
       ·rw[if_pos hin,decide_eq_true hin.1,decide_eq_true hin.2]
        simp only[Bool.and_self,Bool.not_true,cond_false]
        rw[told_is hin.1 hin.2 (by omega)];rfl
       ·rw[if_neg hin]
        have:(decide (1<=r.2.1[c.toNat])&&decide (r.2.1[c.toNat]<=(r.1.length:Int)))=false:=by rw[Bool.eq_false_iff];simpa using hin
        rw[this];rfl
      ·rw[decide_eq_false hn,cond_false]
       simp only[Option.bind_some,in_i,if_neg hn]
       by_cases hin:1<=n/\n<=(r.1.length:Int)
       ·rw[if_pos hin,decide_eq_true hin.1,decide_eq_true hin.2]
        simp only[Bool.and_self,Bool.not_true,cond_false]
        rw[told_is hin.1 hin.2 (by omega)];rfl
       ·rw[if_neg hin]
        have:(decide (1<=n)&&decide (n<=(r.1.length:Int)))=false:=by rw[Bool.eq_false_iff];simpa using hin
        rw[this];rfl
     ·rw[if_neg h5] at h;cases h
end Go.Proofs.YtacbkfginiknaaaDoor
