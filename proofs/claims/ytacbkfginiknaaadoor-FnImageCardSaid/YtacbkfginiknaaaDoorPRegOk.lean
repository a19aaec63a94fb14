/- The plain law: the program's RegOk is the reference's (second part). -/
import Derived.Test.YtacbkfginiknaaaDoorPReg
namespace Go.Proofs.YtacbkfginiknaaaDoor
open Go Go.Proofs.YtacbkfginiknaaaDoor.V
noncomputable def ansB (a:Ans):Bool:=(i_AnswerOk a).getD false
theorem i_ans_is (a:Ans):i_AnswerOk a=some (ansB a):=by
 obtain⟨b,hb,_⟩:=answerOk_is a
 unfold ansB;rw[hb];rfl
theorem s_ans_is (a:Ans):s_AnswerOk a=some (ansB a):=by rw[answerOk_same];exact i_ans_is a
noncomputable def okS (r:RegT) (i:Nat):Bool:=match r.1[i]? with
 |some x=>(rc x.1).2&&decide (hasN (r.1.take i) x.1=0)&&decide (x.2.1=sha x.1)&&(decide (1<=x.2.2)&&decide (x.2.2<=4))&&(bif decide (x.2.2=2) then decide (cnt ((i:Int)+1) r.2.1=1) else decide (cnt ((i:Int)+1) r.2.1=0))
 |none=>true
noncomputable def okI (r:RegT) (i:Nat):Bool:=match r.1[i]? with
 |some x=>(rc x.1).2&&decide (hasN r.1 x.1=i+1)&&decide (x.2.1=sha x.1)&&(decide (1<=x.2.2)&&decide (x.2.2<=4))&&(!decide (x.2.2=2)||decide (cnt ((i:Int)+1) r.2.1=1))
 |none=>true
theorem ok1 (a b:Nat):decide ((a:Int)=((b+1:Nat):Int))=decide (a=b+1):=by rw[decide_eq_decide];omega
theorem dpos (a:Nat):decide ((0:Int)<(a:Int))= !decide (a=0):=by
 by_cases h:a=0
 ·simp[h]
 ·simp[h];omega
theorem i11_step {r:RegT} (hv:r.1.length<=6) (ha:r.2.1.length<=4294967296) (go) {i:Nat} (hi:i<r.1.length):i_RegOk_L11 go (r,r.1,(r.1.length:Int),(i:Int))=bif okI r i then go (r,r.1,(r.1.length:Int),((i+1:Nat):Int)) else some (.inr false):=by
 unfold i_RegOk_L11 okI
 simp only[decN,Int.toNat_natCast,nnN,cond_true]
 rw[decide_eq_true hi,cond_true,List.getElem?_eq_getElem hi,Option.bind_some,wSucc (by omega)]
 simp only[i_rc_is,Option.bind_some]
 cases hr:(rc r.1[i].1).2 with
 |false=>rfl
 |true=>
  have hl:=rc_len hr
  simp only[i_sha_is (show r.1[i].1.length<=1000 by omega),in_i,i_has_is (show r.1.length<=4294967296 by omega),i_active_is ha,Option.bind_some,bAnd,bOr,Bool.not_not,ok1,Bool.not_true,Bool.not_false,cond_true,Bool.true_and]
  rw[show((i+1:Nat):Int)=(i:Int)+1 by omega]
  generalize decide (r.1[i].2.1=sha r.1[i].1)=b1
  generalize (decide (1<=r.1[i].2.2)&&decide (r.1[i].2.2<=4))=b2
  generalize decide (hasN r.1 r.1[i].1=i+1)=b3
  generalize decide (r.1[i].2.2=2)=b4
  generalize decide (cnt ((i:Int)+1) r.2.1=1)=b5
  cases b1<;>cases b2<;>cases b3<;>cases b4<;>cases b5<;>rfl
theorem i11_is {r:RegT} (hv:r.1.length<=6) (ha:r.2.1.length<=4294967296):iter i_RegOk_L11 FUEL (r,r.1,(r.1.length:Int),0)=some (chk (allFrom (okI r) r.1.length 0)):=
 iter_chk (fun i=>(r,r.1,(r.1.length:Int),(i:Int))) r.1.length (okI r) (by omega) (fun go i hi=>i11_step hv ha go hi) (fun go=>by unfold i_RegOk_L11;simp)
theorem s11_step {r:RegT} (hv:r.1.length<=6) (ha:r.2.1.length<=4294967296) (go) {i:Nat} (hi:i<r.1.length):s_RegOk_L11 go (r,(i:Int))=bif okS r i then go (r,((i+1:Nat):Int)) else some (.inr false):=by
 unfold s_RegOk_L11 okS
 simp only[decN,decL,Int.toNat_natCast,nnN,cond_true]
 rw[decide_eq_true hi,cond_true,List.getElem?_eq_getElem hi,Option.bind_some,wSucc (by omega)]
 simp only[s_rc_is,Option.bind_some]
 cases hr:(rc r.1[i].1).2 with
 |false=>rfl
 |true=>
  have hl:=rc_len hr
  rw[decide_eq_true (show i<=r.1.length by omega)]
  simp only[s_sha_is (show r.1[i].1.length<=1000 by omega),in_s,s_body_is (show(r.1.take i).length<=4294967296 by simp;omega),s_count_is ha (show i<=1000 by omega),dpos,Option.bind_some,bAnd,bOr,Bool.not_not,Bool.not_true,Bool.not_false,cond_true,Bool.true_and,Bool.and_self]
  have e1:decide ((cnt ((i:Int)+1) r.2.1:Int)=1)=decide (cnt ((i:Int)+1) r.2.1=1):=by rw[decide_eq_decide];omega
  have e0:decide ((cnt ((i:Int)+1) r.2.1:Int)=0)=decide (cnt ((i:Int)+1) r.2.1=0):=by rw[decide_eq_decide];omega
  rw[e1,e0]
  generalize decide (r.1[i].2.1=sha r.1[i].1)=b1
  generalize (decide (1<=r.1[i].2.2)&&decide (r.1[i].2.2<=4))=b2
  generalize decide (hasN (r.1.take i) r.1[i].1=0)=b3
  generalize decide (r.1[i].2.2=2)=b4
  generalize decide (cnt ((i:Int)+1) r.2.1=1)=b5
  generalize decide (cnt ((i:Int)+1) r.2.1=0)=b6
  cases b1<;>cases b2<;>cases b3<;>cases b4<;>cases b5<;>cases b6<;>rfl
theorem s11_is {r:RegT} (hv:r.1.length<=6) (ha:r.2.1.length<=4294967296):iter s_RegOk_L11 FUEL (r,0)=some (chk (allFrom (okS r) r.1.length 0)):=
 iter_chk (fun i=>(r,(i:Int))) r.1.length (okS r) (by omega) (fun go i hi=>s11_step hv ha go hi) (fun go=>by unfold s_RegOk_L11;simp)
def inV (n:Nat) (a:Int):Bool:=decide (0<=a)&&decide (a<=(n:Int))
def stAt (l:List Ver) (a:Int):Bool:=match l[(a-1).toNat]? with
 |some v=>decide (v.2.2=2)
 |none=>false
def okT (r:RegT) (k:Nat):Bool:=match r.2.1[k]? with
 |some a=>inV r.1.length a
 |none=>true
def okA (r:RegT) (k:Nat):Bool:=match r.2.1[k]? with
 |some a=>inV r.1.length a&&(!decide (0<a)||stAt r.1 a)
 |none=>true
theorem i25_step {r:RegT} (hv:r.1.length<=6) (ha:r.2.1.length<=3) (go) {i:Nat} (hi:i<r.2.1.length):i_RegOk_L25 go (r,r.2.1,(r.2.1.length:Int),(i:Int))=bif okA r i then go (r,r.2.1,(r.2.1.length:Int),((i+1:Nat):Int)) else some (.inr false):=by
 unfold i_RegOk_L25 okA
 simp only[decN,Int.toNat_natCast,nnN,cond_true]
 rw[decide_eq_true hi,cond_true,List.getElem?_eq_getElem hi,Option.bind_some,wSucc (by omega)]
 simp only[in_i,Option.bind_some]
 have e:(decide (0<=r.2.1[i])&&decide (r.2.1[i]<=(r.1.length:Int)))=inV r.1.length r.2.1[i]:=rfl
 rw[e]
 cases h:inV r.1.length r.2.1[i] with
 |false=>rfl
 |true=>
  simp only[inV,Bool.and_eq_true,decide_eq_true_eq] at h
  simp only[Bool.not_true,Bool.not_false,cond_true,Bool.true_and]
  by_cases h0:0<r.2.1[i]
  ·have hw:IntKind.i64.wrap (r.2.1[i]-1)=r.2.1[i]-1:=w64 (by omega) (by omega)
   have hlt:(r.2.1[i]-1).toNat<r.1.length:=by omega
   rw[decide_eq_true h0,cond_true,hw,decide_eq_true (show 0<=r.2.1[i]-1 by omega),cond_true,List.getElem?_eq_getElem hlt]
   simp only[stAt,List.getElem?_eq_getElem hlt,Option.bind_some,Bool.not_true,Bool.false_or]
   cases decide (r.1[(r.2.1[i]-1).toNat].2.2=2)<;>rfl
  ·rw[decide_eq_false h0];rfl
theorem i25_is {r:RegT} (hv:r.1.length<=6) (ha:r.2.1.length<=3):iter i_RegOk_L25 FUEL (r,r.2.1,(r.2.1.length:Int),0)=some (chk (allFrom (okA r) r.2.1.length 0)):=
 iter_chk (fun i=>(r,r.2.1,(r.2.1.length:Int),(i:Int))) r.2.1.length (okA r) (by omega) (fun go i hi=>i25_step hv ha go hi) (fun go=>by unfold i_RegOk_L25;simp)
theorem s41_step {r:RegT} (ha:r.2.1.length<=3) (go) {i:Nat} (hi:i<r.2.1.length):s_RegOk_L41 go (r,(i:Int))=bif okT r i then go (r,((i+1:Nat):Int)) else some (.inr false):=by
 unfold s_RegOk_L41 okT
 simp only[decN,Int.toNat_natCast,nnN,cond_true]
 rw[decide_eq_true hi,cond_true,List.getElem?_eq_getElem hi,Option.bind_some,wSucc (by omega)]
 simp only[in_s,Option.bind_some]
 have e:(decide (0<=r.2.1[i])&&decide (r.2.1[i]<=(r.1.length:Int)))=inV r.1.length r.2.1[i]:=rfl
 rw[e]
 cases inV r.1.length r.2.1[i]<;>rfl
theorem s41_is {r:RegT} (ha:r.2.1.length<=3):iter s_RegOk_L41 FUEL (r,0)=some (chk (allFrom (okT r) r.2.1.length 0)):=
 iter_chk (fun i=>(r,(i:Int))) r.2.1.length (okT r) (by omega) (fun go i hi=>s41_step ha go hi) (fun go=>by unfold s_RegOk_L41;simp)
noncomputable def okSes (l:List Ses) (k:Nat):Bool:=match l[k]? with
 |some s=>(decide (1<=s.1)&&decide (s.1<=6))&&(match k with|0=>true|j+1=>(match l[j]? with|some p=> !decide (s.1<=p.1)|none=>false))&&(decide (1<=s.2.1)&&decide (s.2.1<=1000000))&&ansB s.2.2
 |none=>true
theorem i37_step {r:RegT} (ha:r.2.2.length<=6) (go) {i:Nat} (hi:i<r.2.2.length):i_RegOk_L37 go (r,r.2.2,(r.2.2.length:Int),(i:Int))=bif okSes r.2.2 i then go (r,r.2.2,(r.2.2.length:Int),((i+1:Nat):Int)) else some (.inr false):=by
 unfold i_RegOk_L37 okSes
 simp only[decN,Int.toNat_natCast,nnN,cond_true]
 rw[decide_eq_true hi,cond_true,List.getElem?_eq_getElem hi,Option.bind_some,wSucc (by omega)]
 simp only[in_i,i_ans_is,Option.bind_some]
 cases i with
 |zero=>
  simp only[show decide ((0:Int)<((0:Nat):Int))=false from rfl,cond_false,Option.bind_some,bOr]
  generalize (decide (1<=(r.2.2[0]).1)&&decide ((r.2.2[0]).1<=6))=b1
  generalize (decide (1<=(r.2.2[0]).2.1)&&decide ((r.2.2[0]).2.1<=1000000))=b2
  generalize ansB (r.2.2[0]).2.2=b3
  cases b1<;>cases b2<;>cases b3<;>rfl
 |succ j=>
  have hw:IntKind.i64.wrap (((j+1:Nat):Int)-1)=(j:Int):=by rw[w64 (by omega) (by omega)];omega
  have hd:decide ((0:Int)<((j+1:Nat):Int))=true:=by rw[decide_eq_true_eq];omega
  have hj:j<r.2.2.length:=by omega
  simp only[hd,hw,nnN,cond_true,Int.toNat_natCast,List.getElem?_eq_getElem hj,Option.bind_some,bOr]
  generalize (decide (1<=(r.2.2[j+1]).1)&&decide ((r.2.2[j+1]).1<=6))=b1
  generalize (decide (1<=(r.2.2[j+1]).2.1)&&decide ((r.2.2[j+1]).2.1<=1000000))=b2
  generalize ansB (r.2.2[j+1]).2.2=b3
  generalize decide ((r.2.2[j+1]).1<=(r.2.2[j]).1)=b4
  cases b1<;>cases b2<;>cases b3<;>cases b4<;>rfl
theorem i37_is {r:RegT} (ha:r.2.2.length<=6):iter i_RegOk_L37 FUEL (r,r.2.2,(r.2.2.length:Int),0)=some (chk (allFrom (okSes r.2.2) r.2.2.length 0)):=
 iter_chk (fun i=>(r,r.2.2,(r.2.2.length:Int),(i:Int))) r.2.2.length (okSes r.2.2) (by omega) (fun go i hi=>i37_step ha go hi) (fun go=>by unfold i_RegOk_L37;simp)
theorem s51_step {r:RegT} (ha:r.2.2.length<=6) (go) {i:Nat} (hi:i<r.2.2.length):s_RegOk_L51 go (r,(i:Int))=bif okSes r.2.2 i then go (r,((i+1:Nat):Int)) else some (.inr false):=by
 unfold s_RegOk_L51 okSes
 simp only[decN,Int.toNat_natCast,nnN,cond_true]
 rw[decide_eq_true hi,cond_true,List.getElem?_eq_getElem hi,Option.bind_some,wSucc (by omega)]
 simp only[in_s,s_ans_is,Option.bind_some]
 cases i with
 |zero=>
  simp only[show decide ((0:Int)<((0:Nat):Int))=false from rfl,cond_false,Option.bind_some,bOr]
  generalize (decide (1<=(r.2.2[0]).1)&&decide ((r.2.2[0]).1<=6))=b1
  generalize (decide (1<=(r.2.2[0]).2.1)&&decide ((r.2.2[0]).2.1<=1000000))=b2
  generalize ansB (r.2.2[0]).2.2=b3
  cases b1<;>cases b2<;>cases b3<;>rfl
 |succ j=>
  have hw:IntKind.i64.wrap (((j+1:Nat):Int)-1)=(j:Int):=by rw[w64 (by omega) (by omega)];omega
  have hd:decide ((0:Int)<((j+1:Nat):Int))=true:=by rw[decide_eq_true_eq];omega
  have hj:j<r.2.2.length:=by omega
  simp only[hd,hw,nnN,cond_true,Int.toNat_natCast,List.getElem?_eq_getElem hj,Option.bind_some,bOr]
  generalize (decide (1<=(r.2.2[j+1]).1)&&decide ((r.2.2[j+1]).1<=6))=b1
  generalize (decide (1<=(r.2.2[j+1]).2.1)&&decide ((r.2.2[j+1]).2.1<=1000000))=b2
  generalize ansB (r.2.2[j+1]).2.2=b3
  generalize decide ((r.2.2[j+1]).1<=(r.2.2[j]).1)=b4
  cases b1<;>cases b2<;>cases b3<;>cases b4<;>rfl
theorem s51_is {r:RegT} (ha:r.2.2.length<=6):iter s_RegOk_L51 FUEL (r,0)=some (chk (allFrom (okSes r.2.2) r.2.2.length 0)):=
 iter_chk (fun i=>(r,(i:Int))) r.2.2.length (okSes r.2.2) (by omega) (fun go i hi=>s51_step ha go hi) (fun go=>by unfold s_RegOk_L51;simp)
noncomputable def regB (r:RegT):Bool:=decide (r.1.length<=6)&&decide (r.2.1.length=3)&&decide (r.2.2.length<=6)&&allFrom (okS r) r.1.length 0&&allFrom (okT r) r.2.1.length 0&&allFrom (okSes r.2.2) r.2.2.length 0
theorem sizes (r:RegT):((bif !decide (6<(r.1.length:Int)) then some !decide ((r.2.1.length:Int)=3) else some true).bind fun x_1=>(bif !x_1 then some (decide (6<(r.2.2.length:Int))) else some true:Option Bool))=some (!(decide (r.1.length<=6)&&decide (r.2.1.length=3)&&decide (r.2.2.length<=6))):=by
 have e1:decide (6<(r.1.length:Int))= !decide (r.1.length<=6):=by
  by_cases h:r.1.length<=6
  ·rw[decide_eq_true h,decide_eq_false (by omega)];rfl
  ·rw[decide_eq_false h,decide_eq_true (by omega)];rfl
 have e2:decide (6<(r.2.2.length:Int))= !decide (r.2.2.length<=6):=by
  by_cases h:r.2.2.length<=6
  ·rw[decide_eq_true h,decide_eq_false (by omega)];rfl
  ·rw[decide_eq_false h,decide_eq_true (by omega)];rfl
 have e3:decide ((r.2.1.length:Int)=3)=decide (r.2.1.length=3):=by rw[decide_eq_decide];omega
 rw[e1,e2,e3]
 cases decide (r.1.length<=6)<;>cases decide (r.2.1.length=3)<;>cases decide (r.2.2.length<=6)<;>rfl
theorem s_RegOk_is (r:RegT):s_RegOk r=some (regB r):=by
 unfold s_RegOk regB
 have:=sizes r
 rw[<-Option.bind_assoc,this]
 cases hs:decide (r.1.length<=6)&&decide (r.2.1.length=3)&&decide (r.2.2.length<=6) with
 |false=>rfl
 |true=>
  simp only[Bool.and_eq_true,decide_eq_true_eq] at hs
  simp only[Bool.not_true,Option.bind_some,cond_false,Bool.true_and,s11_is hs.1.1 (show r.2.1.length<=4294967296 by omega),s41_is (show r.2.1.length<=3 by omega),s51_is hs.2]
  cases allFrom (okS r) r.1.length 0<;>cases allFrom (okT r) r.2.1.length 0<;>cases allFrom (okSes r.2.2) r.2.2.length 0<;>rfl
theorem cnt_pos {n:Int} {l:List Int} (h:n∈l):0<cnt n l:=List.count_pos_iff.2 h
theorem vers_same {r:RegT}:(allFrom (okS r) r.1.length 0&&allFrom (okT r) r.2.1.length 0)=(allFrom (okI r) r.1.length 0&&allFrom (okA r) r.2.1.length 0):=by
 rw[Bool.eq_iff_iff]
 simp only[Bool.and_eq_true,allFrom_iff,Nat.zero_add]
 have hb:∀i,i<r.1.length->∀x,r.1[i]?=some x->(decide (hasN (r.1.take i) x.1=0))=decide (hasN r.1 x.1=i+1):=by
  intro i hi x hx
  rw[decide_eq_decide,hasN_zero,hasN_at hx rfl]
  constructor
  ·intro h j y hj hy
   exact h y (List.mem_of_getElem? (i:=j) (by rw[List.getElem?_take,if_pos hj];exact hy))
  ·intro h y hy
   obtain⟨j,hj⟩:=List.getElem?_of_mem hy
   rw[List.getElem?_take] at hj
   split at hj
   ·exact h j y (by assumption) hj
   ·cases hj
 constructor
 ·rintro⟨h1,h2⟩
  refine⟨fun i _ hi=>?_,fun k _ hk=>?_⟩
  ·have:=h1 i (Nat.zero_le _) hi
   unfold okS at this;unfold okI
   rw[List.getElem?_eq_getElem hi] at this ⊢
   simp only at this ⊢
   rw[<-hb i hi _ (List.getElem?_eq_getElem hi)]
   revert this
   cases decide (r.1[i].2.2=2)<;>simp<;>intros<;>simp[*]
  ·have h3:=h2 k (Nat.zero_le _) hk
   unfold okT at h3;unfold okA
   rw[List.getElem?_eq_getElem hk] at h3 ⊢
   simp only at h3 ⊢
   rw[h3,Bool.true_and]
   by_cases h0:0<r.2.1[k]
   ·simp only[inV,Bool.and_eq_true,decide_eq_true_eq] at h3
    have hlt:(r.2.1[k]-1).toNat<r.1.length:=by omega
    have:=h1 (r.2.1[k]-1).toNat (Nat.zero_le _) hlt
    unfold okS at this
    rw[List.getElem?_eq_getElem hlt] at this
    simp only[Bool.and_eq_true] at this
    have h5:=this.2
    have hp:=cnt_pos (List.getElem_mem hk)
    rw[show(((r.2.1[k]-1).toNat:Nat):Int)+1=r.2.1[k] by omega] at h5
    unfold stAt
    rw[List.getElem?_eq_getElem hlt]
    cases hc:decide (r.1[(r.2.1[k]-1).toNat].2.2=2) with
    |true=>simp only[hc,Bool.or_true]
    |false=>
     rw[hc] at h5
     simp at h5;omega
   ·simp[h0]
 ·rintro⟨h1,h2⟩
  have hT:∀k,k<r.2.1.length->okT r k=true/\okA r k=true:=by
   intro k hk
   have h3:=h2 k (Nat.zero_le _) hk
   refine⟨?_,h3⟩
   unfold okA at h3;unfold okT
   rw[List.getElem?_eq_getElem hk] at h3 ⊢
   simp only[Bool.and_eq_true] at h3
   exact h3.1
  refine⟨fun i _ hi=>?_,fun k _ hk=>(hT k hk).1⟩
  have:=h1 i (Nat.zero_le _) hi
  unfold okI at this;unfold okS
  rw[List.getElem?_eq_getElem hi] at this ⊢
  simp only at this ⊢
  rw[<-hb i hi _ (List.getElem?_eq_getElem hi)] at this
  cases hc:decide (r.1[i].2.2=2) with
  |true=>rw[hc] at this;simpa using this
  |false=>
   rw[hc] at this
   have hz:cnt ((i:Int)+1) r.2.1=0:=by
    refine List.count_eq_zero.2 fun hm=>?_
    obtain⟨k,hk⟩:=List.getElem?_of_mem hm
    have hkl:=(List.getElem?_eq_some_iff.1 hk).1
    have h3:=(hT k hkl).2
    unfold okA at h3
    rw[hk] at h3
    simp only[Bool.and_eq_true] at h3
    have h4:=h3.2
    rw[decide_eq_true (show(0:Int)<(i:Int)+1 by omega)] at h4
    unfold stAt at h4
    rw[show((i:Int)+1-1).toNat=i by omega,List.getElem?_eq_getElem hi] at h4
    simp only at h4
    rw[hc] at h4
    cases h4
   simp only[cond_false,hz]
   simpa using this
theorem i_RegOk_is (r:RegT):i_RegOk r=some (regB r):=by
 unfold i_RegOk
 have:=sizes r
 rw[<-Option.bind_assoc,this]
 unfold regB
 cases hs:decide (r.1.length<=6)&&decide (r.2.1.length=3)&&decide (r.2.2.length<=6) with
 |false=>rfl
 |true=>
  simp only[Bool.and_eq_true,decide_eq_true_eq] at hs
  simp only[Bool.not_true,Option.bind_some,cond_false,Bool.true_and,i11_is hs.1.1 (show r.2.1.length<=4294967296 by omega),i25_is hs.1.1 (show r.2.1.length<=3 by omega),i37_is hs.2]
  rw[vers_same]
  cases allFrom (okI r) r.1.length 0<;>cases allFrom (okA r) r.2.1.length 0<;>cases allFrom (okSes r.2.2) r.2.2.length 0<;>rfl
structure RegP (r:RegT):Prop where
 v6:r.1.length<=6
 a3:r.2.1.length=3
 s6:r.2.2.length<=6
 ver:∀ (i:Nat) (x:Ver),r.1[i]?=some x->(rc x.1).2=true/\(∀ (j:Nat) (y:Ver),j<i->r.1[j]?=some y->y.1≠x.1)/\x.2.1=sha x.1/\1<=x.2.2/\x.2.2<=4/\cnt ((i:Int)+1) r.2.1=if x.2.2=2 then 1 else 0
 act:∀a∈r.2.1,0<=a/\a<=(r.1.length:Int)
 ses:allFrom (okSes r.2.2) r.2.2.length 0=true
theorem regB_iff {r:RegT}:regB r=true↔RegP r:=by
 unfold regB
 simp only[Bool.and_eq_true,decide_eq_true_eq]
 constructor
 ·rintro⟨⟨⟨⟨⟨h1,h2⟩,h3⟩,h4⟩,h5⟩,h6⟩
  refine⟨h1,h2,h3,fun i x hx=>?_,fun a ha=>?_,h6⟩
  ·have hi:=(List.getElem?_eq_some_iff.1 hx).1
   have:=allFrom_iff.1 h4 i (Nat.zero_le _) (by omega)
   unfold okS at this
   rw[hx] at this
   simp only[Bool.and_eq_true,decide_eq_true_eq] at this
   obtain⟨⟨⟨⟨g1,g2⟩,g3⟩,g4⟩,g5⟩:=this
   refine⟨g1,fun j y hj hy=>hasN_zero.1 g2 y (List.mem_of_getElem? (i:=j) (by rw[List.getElem?_take,if_pos hj];exact hy)),g3,g4.1,g4.2,?_⟩
   by_cases hc:x.2.2=2
   ·rw[decide_eq_true hc] at g5;rw[if_pos hc];simpa using g5
   ·rw[decide_eq_false hc] at g5;rw[if_neg hc];simpa using g5
  ·obtain⟨k,hk⟩:=List.getElem?_of_mem ha
   have hkl:=(List.getElem?_eq_some_iff.1 hk).1
   have:=allFrom_iff.1 h5 k (Nat.zero_le _) (by omega)
   unfold okT at this
   rw[hk] at this
   simpa[inV] using this
 ·intro h
  refine⟨⟨⟨⟨⟨h.v6,h.a3⟩,h.s6⟩,allFrom_iff.2 fun i _ hi=>?_⟩,allFrom_iff.2 fun k _ hk=>?_⟩,h.ses⟩
  ·have hi:i<r.1.length:=by omega
   obtain⟨g1,g2,g3,g4,g5,g6⟩:=h.ver i _ (List.getElem?_eq_getElem hi)
   unfold okS
   rw[List.getElem?_eq_getElem hi]
   simp only[Bool.and_eq_true,decide_eq_true_eq]
   refine⟨⟨⟨⟨g1,hasN_zero.2 fun y hy=>?_⟩,g3⟩,g4,g5⟩,?_⟩
   ·obtain⟨j,hj⟩:=List.getElem?_of_mem hy
    rw[List.getElem?_take] at hj
    split at hj
    ·exact g2 j y (by assumption) hj
    ·cases hj
   ·by_cases hc:r.1[i].2.2=2
    ·rw[if_pos hc] at g6;rw[decide_eq_true hc];simpa using g6
    ·rw[if_neg hc] at g6;rw[decide_eq_false hc];simpa using g6
  ·have hk:k<r.2.1.length:=by omega
   unfold okT
   rw[List.getElem?_eq_getElem hk]
   simpa[inV] using h.act _ (List.getElem_mem hk)
end Go.Proofs.YtacbkfginiknaaaDoor
