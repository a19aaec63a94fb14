/- The plain law: the program's ReadVar is the reference's. -/
import Derived.Test.YtacbkfginiknaaaDoorPVar
namespace Go.Proofs.YtacbkfginiknaaaDoor
open Go Go.Proofs.YtacbkfginiknaaaDoor.V
def numF (b:UInt8) (n:Nat):Nat:=b.toNat%128+128*n
def numOf (l:List UInt8):Nat:=l.foldr numF 0
theorem foldr_num (l:List UInt8):∀n,l.foldr numF n=numOf l+n*128^l.length:=by
 unfold numOf
 induction l with
 |nil=>intro n;simp
 |cons b l ih=>
  intro n
  rw[List.foldr_cons,List.foldr_cons,ih n,ih 0]
  simp only[numF,List.length_cons,Nat.pow_succ,Nat.zero_mul,Nat.add_zero]
  rw[Nat.mul_add,<-Nat.add_assoc]
  congr 1
  rw[<-Nat.mul_assoc,Nat.mul_comm 128 n,Nat.mul_assoc,Nat.mul_comm 128]
theorem num_lt (l:List UInt8):numOf l<128^l.length:=by
 unfold numOf
 induction l with
 |nil=>simp
 |cons b l ih=>
  rw[List.foldr_cons,List.length_cons,Nat.pow_succ]
  simp only[numF]
  omega
theorem num_snoc (l:List UInt8) (b:UInt8):numOf (l++[b])=numOf l+b.toNat%128*128^l.length:=by
 have:=foldr_num l (numF b 0)
 unfold numOf at *
 rw[List.foldr_append,List.foldr_cons,List.foldr_nil,this]
 simp[numF]
theorem and127b (b:UInt8):(BitVec.ofInt IntKind.u8.bits (b.toNat:Int)&&&BitVec.ofInt IntKind.u8.bits 127).toNat=b.toNat%128:=by
 show(BitVec.ofInt 8 (b.toNat:Int)&&&BitVec.ofInt 8 127).toNat=b.toNat%128
 rw[BitVec.toNat_and,BitVec.toNat_ofInt,BitVec.toNat_ofInt]
 have hb:b.toNat<256:=UInt8.toNat_lt b
 have h1:((b.toNat:Int)%((2^8:Nat):Int)).toNat=b.toNat:=by omega
 have h2:((127:Int)%((2^8:Nat):Int)).toNat=127:=by decide
 rw[h1,h2]
 exact Nat.and_two_pow_sub_one_eq_mod b.toNat 7
theorem pow7 (i:Nat):2^(7*i)=128^i:=by rw[Nat.pow_mul]
theorem pow_le7 {k:Nat} (h:k<=7):128^k<=562949953421312:=by
 have:=Nat.pow_le_pow_right (n:=128) (by omega) h
 simpa using this
theorem orNat {i n m:Nat} (hi:i<7) (hn:n<128^i) (hm:m<128):(BitVec.ofInt IntKind.i64.bits (n:Int)|||BitVec.ofInt IntKind.i64.bits ((m*128^i:Nat):Int)).toNat=n+m*128^i:=by
 show(BitVec.ofInt 64 (n:Int)|||BitVec.ofInt 64 ((m*128^i:Nat):Int)).toNat=n+m*128^i
 have hp:128^(i+1)<=562949953421312:=pow_le7 (by omega)
 have hq:128^i<=562949953421312:=pow_le7 (by omega)
 have hmul:m*128^i<=562949953421312:=by
  have:m*128^i<=128*128^i:=Nat.mul_le_mul_right _ (by omega)
  rw[Nat.pow_succ] at hp
  omega
 rw[BitVec.toNat_or,BitVec.toNat_ofInt,BitVec.toNat_ofInt]
 have h1:((n:Int)%((2^64:Nat):Int)).toNat=n:=by omega
 have h2:(((m*128^i:Nat):Int)%((2^64:Nat):Int)).toNat=m*128^i:=by
  generalize m*128^i=z at *
  omega
 rw[h1,h2,Nat.or_comm]
 have:=Nat.two_pow_add_eq_or_of_lt (i:=7*i) (b:=n) (by rw[pow7];exact hn) m
 rw[pow7,Nat.mul_comm] at this
 rw[<-this,Nat.add_comm]
theorem toU8_big (n:Nat):128<=(UInt8.ofNat ((128+n%128:Nat):Int).toNat).toNat:=by
 rw[Int.toNat_natCast,UInt8.toNat_ofNat']
 omega
theorem pre_big:∀ (n:Nat) (b:UInt8),b∈(varPre n).map (fun b=>UInt8.ofNat b.toNat)->128<=b.toNat:=by
 intro n
 induction n using Nat.strongRecOn with
 |_ n ih=>
  intro b hb
  rw[varPre] at hb
  split at hb
  ·simp at hb
  ·rw[List.map_cons] at hb
   rcases List.mem_cons.1 hb with rfl|hb
   ·exact toU8_big n
   ·exact ih (n/128) (by omega) b hb
theorem last_small (n:Nat):(UInt8.ofNat ((varLast n:Nat):Int).toNat).toNat<128:=by
 have:=varLast_lt n
 rw[Int.toNat_natCast,UInt8.toNat_ofNat']
 omega
theorem varText_form {x:Int} {l:List UInt8} {b:UInt8} (h:varText x=l++[b]):b.toNat<128/\∀c∈l,128<=c.toNat:=by
 unfold varText at h
 split at h
 ·rw[List.map_append,List.map_cons,List.map_nil] at h
  obtain⟨h1,h2⟩:=List.append_inj' h rfl
  simp only[List.cons.injEq,and_true] at h2
  exact⟨by rw[<-h2];exact last_small _,fun c hc=>pre_big _ c (by rw[h1];exact hc)⟩
 ·simp at h
theorem take_snoc {s:List UInt8} {i:Nat} (h:i<s.length):s.take (i+1)=s.take i++[s[i]]:=by
 rw[List.take_add_one,List.getElem?_eq_getElem h];rfl
def rvI (s:List UInt8):Nat->Nat->Int×Int
 |0,_=>(0,0)
 |f+1,i=>if h:i<s.length then
   if s[i].toNat<128 then(if varText ((numOf (s.take (i+1)):Nat):Int)=s.take (i+1) then(((numOf (s.take (i+1)):Nat):Int),((i+1:Nat):Int)) else(0,0))
   else rvI s f (i+1)
  else(0,0)
def rvS (s:List UInt8):Nat->Nat->Int×Int
 |0,_=>(0,0)
 |f+1,i=>if i<s.length then
   if varText ((numOf (s.take (i+1)):Nat):Int)=s.take (i+1) then(((numOf (s.take (i+1)):Nat):Int),((i+1:Nat):Int)) else rvS s f (i+1)
  else(0,0)
theorem rvS_none {s:List UInt8} {j:Nat} (hj:j<s.length) (hb:s[j].toNat<128):∀f i,j<i->rvS s f i=(0,0):=by
 intro f
 induction f with
 |zero=>intro i _;rfl
 |succ f ih=>
  intro i hi
  rw[rvS]
  split
  ·rename_i hl
   rw[if_neg,ih (i+1) (by omega)]
   intro h
   rw[take_snoc hl] at h
   have:=(varText_form h).2 s[j] (by
    refine List.mem_take_iff_getElem.2 ⟨j,by omega,rfl⟩)
   omega
  ·rfl
theorem rv_same {s:List UInt8}:∀f i,rvS s f i=rvI s f i:=by
 intro f
 induction f with
 |zero=>intro i;rfl
 |succ f ih=>
  intro i
  rw[rvS,rvI]
  by_cases hl:i<s.length
  ·rw[if_pos hl,dif_pos hl]
   by_cases hb:s[i].toNat<128
   ·rw[if_pos hb]
    split
    ·rfl
    ·exact rvS_none hl hb f (i+1) (by omega)
   ·rw[if_neg hb,<-ih (i+1),if_neg]
    intro h
    rw[take_snoc hl] at h
    exact hb (varText_form h).1
  ·rw[if_neg hl,dif_neg hl]
def InI (x:List UInt8×Int×Int):Prop:=∃n j:Nat,x.2.1=n/\x.2.2=(j:Int)-1/\j<=7/\j<=x.1.length/\n<128^(7-j)
theorem sIn_step (go) (x:List UInt8×Int×Int) (hx:InI x) (hgo:∀y,InI y->(y.2.2+1).toNat<(x.2.2+1).toNat->go y=some ((((y.1.take (y.2.2+1).toNat).foldr numF y.2.1.toNat:Nat)):Int)):
  s_ReadVar_L15 go x=some ((((x.1.take (x.2.2+1).toNat).foldr numF x.2.1.toNat:Nat)):Int):=by
 obtain⟨s,m,i⟩:=x
 obtain⟨n,j,h1,h2,hj,hl,hn⟩:=hx
 simp only at h1 h2 hl
 subst h1 h2
 unfold s_ReadVar_L15
 cases j with
 |zero=>simp
 |succ j=>
  have hi:(((j+1:Nat):Int)-1)=(j:Int):=by omega
  simp only[hi]
  have h0:decide ((0:Int)<=(j:Int))=true:=by simp
  have hjl:j<s.length:=by omega
  have hp:128^(7-(j+1)+1)<=562949953421312:=pow_le7 (by omega)
  rw[Nat.pow_succ] at hp
  have hb:s[j].toNat<256:=UInt8.toNat_lt _
  simp only[h0,cond_true,Int.toNat_natCast,List.getElem?_eq_getElem hjl,Option.bind_some]
  have e1:IntKind.i64.wrap ((n:Int)*128)=((n*128:Nat):Int):=by rw[w64 (by omega) (by omega)];omega
  have e2:IntKind.i64.wrap (s[j].toNat:Int)=(s[j].toNat:Int):=w64 (by omega) (by omega)
  have e3:IntKind.i64.wrap (((n*128:Nat):Int)+((s[j].toNat%128:Nat):Int))=((numF s[j] n:Nat):Int):=by
   rw[w64 (by omega) (by omega)];simp only[numF];omega
  have e4:IntKind.i64.wrap ((j:Int)-1)=(j:Int)-1:=w64 (by omega) (by omega)
  rw[e1,e2,tmodN,e3,e4,hgo _ ⟨numF s[j] n,j,rfl,rfl,by omega,by simp only;omega,by
   have:7-j=7-(j+1)+1:=by omega
   rw[this,Nat.pow_succ]
   simp only[numF];omega⟩ (by simp only;omega)]
  simp only[Int.toNat_natCast]
  rw[show((j:Int)-1+1).toNat=j by omega,show((j:Int)+1).toNat=j+1 by omega,take_snoc hjl,List.foldr_append]
  rfl
theorem sIn_loop {s:List UInt8} {k:Nat} (hk:k<=7) (hl:k<=s.length):iter s_ReadVar_L15 FUEL (s,0,((k:Nat):Int)-1)=some (((numOf (s.take k):Nat)):Int):=by
 have:=iter_is (S:=s_ReadVar_L15) (g:=fun x=>some ((((x.1.take (x.2.2+1).toNat).foldr numF x.2.1.toNat:Nat)):Int)) (fun x=>(x.2.2+1).toNat) InI sIn_step FUEL (s,0,((k:Nat):Int)-1)
  ⟨0,k,rfl,rfl,hk,hl,Nat.pow_pos (by omega)⟩ (fuel_lt (by simp only;omega))
 rw[this]
 simp[numOf]
def RvI (x:List UInt8×Int):Prop:=∃i:Nat,x.2=((i+1:Nat):Int)/\i<=7
def rvSum (p:Int×Int):PUnit⊕Int×Int:=if p.2=0 then .inl () else .inr p
theorem sRv_step (go) (x:List UInt8×Int) (hx:RvI x) (hgo:∀y,RvI y->(8-y.2).toNat<(8-x.2).toNat->go y=some (rvSum (rvS y.1 (8-y.2).toNat (y.2.toNat-1)))):
  s_ReadVar_L7 go x=some (rvSum (rvS x.1 (8-x.2).toNat (x.2.toNat-1))):=by
 obtain⟨s,k⟩:=x
 obtain⟨i,h1,hi⟩:=hx
 simp only at h1
 subst h1
 unfold s_ReadVar_L7
 simp only
 by_cases h7:i=7
 ·subst h7
  simp[rvS,rvSum]
 ·have e1:decide (((i+1:Nat):Int)<=7)=true:=by simp;omega
  have e2:(8-((i+1:Nat):Int)).toNat=(6-i)+1:=by omega
  have e3:((i+1:Nat):Int).toNat-1=i:=by omega
  rw[e1,e2,e3,rvS]
  simp only[cond_true,Option.bind_some]
  by_cases hl:i<s.length
  ·have e4:decide (((i+1:Nat):Int)<=(↑s.length:Int))=true:=by simp;omega
   have e5:IntKind.i64.wrap (((i+1:Nat):Int)-1)=((i+1:Nat):Int)-1:=w64 (by omega) (by omega)
   have e6:decide ((0:Int)<=((i+1:Nat):Int))=true:=by simp;omega
   have e7:IntKind.i64.wrap (((i+1:Nat):Int)+1)=((i+1+1:Nat):Int):=by rw[w64 (by omega) (by omega)];omega
   rw[if_pos hl]
   simp only[e4,cond_true,e5,sIn_loop (s:=s) (k:=i+1) (by omega) (by omega),Option.bind_some,s_Var_is,e6,Bool.and_self,Int.toNat_natCast,e7]
   by_cases ht:varText ((numOf (s.take (i+1)):Nat):Int)=s.take (i+1)
   ·rw[if_pos ht]
    have:decide (varText ((numOf (s.take (i+1)):Nat):Int)=s.take (i+1))=true:=by simpa using ht
    rw[this,cond_true]
    simp[rvSum];omega
   ·rw[if_neg ht]
    have:decide (varText ((numOf (s.take (i+1)):Nat):Int)=s.take (i+1))=false:=by simpa using ht
    rw[this,cond_false,hgo _ ⟨i+1,rfl,by omega⟩ (by simp only;omega)]
    simp only
    rw[show(8-((i+1+1:Nat):Int)).toNat=6-i by omega,show((i+1+1:Nat):Int).toNat-1=i+1 by omega]
  ·have e4:decide (((i+1:Nat):Int)<=(↑s.length:Int))=false:=by simp;omega
   rw[if_neg hl]
   simp only[e4,cond_false]
   rfl
def rv (s:List UInt8):Int×Int:=rvI s 7 0
theorem rvI_pos {s:List UInt8}:∀f i,(rvI s f i).2=0->rvI s f i=(0,0):=by
 intro f
 induction f with
 |zero=>intro i _;rfl
 |succ f ih=>
  intro i h
  rw[rvI] at h ⊢
  split
  ·rename_i hl
   rw[dif_pos hl] at h
   split
   ·rename_i hb
    rw[if_pos hb] at h
    split
    ·rename_i ht
     rw[if_pos ht] at h
     simp at h;omega
    ·rfl
   ·rename_i hb
    rw[if_neg hb] at h
    exact ih _ h
  ·rfl
theorem s_ReadVar_is (s:List UInt8):s_ReadVar s=some (rv s):=by
 unfold s_ReadVar
 rw[iter_is (S:=s_ReadVar_L7) (fun x=>(8-x.2).toNat) RvI sRv_step FUEL (s,1) ⟨0,rfl,by omega⟩ (fuel_lt (by simp)),Option.bind_some]
 show sumK (rvSum (rvS s 7 0)) _ _=_
 rw[rv_same]
 unfold rvSum rv
 by_cases h:(rvI s 7 0).2=0
 ·rw[if_pos h,rvI_pos 7 0 h];rfl
 ·rw[if_neg h];rfl
def RiI (x:List UInt8×Int×Int):Prop:=∃i:Nat,x.2.2=(i:Int)/\i<=7/\i<=x.1.length/\x.2.1=((numOf (x.1.take i):Nat):Int)
def rvL (s:List UInt8):Nat->Nat->PUnit⊕Int×Int
 |0,_=>.inl ()
 |f+1,i=>if h:i<s.length then
   if s[i].toNat<128 then .inr (if varText ((numOf (s.take (i+1)):Nat):Int)=s.take (i+1) then(((numOf (s.take (i+1)):Nat):Int),((i+1:Nat):Int)) else(0,0))
   else rvL s f (i+1)
  else .inl ()
theorem rvL_is {s:List UInt8}:∀f i,sumK (rvL s f i) (fun _=>some ((0:Int),(0:Int))) (fun z=>some (z.fst,z.snd))=some (rvI s f i):=by
 intro f
 induction f with
 |zero=>intro i;rfl
 |succ f ih=>
  intro i
  rw[rvL,rvI]
  by_cases hl:i<s.length
  ·rw[dif_pos hl,dif_pos hl]
   by_cases hb:s[i].toNat<128
   ·rw[if_pos hb,if_pos hb];rfl
   ·rw[if_neg hb,if_neg hb];exact ih _
  ·rw[dif_neg hl,dif_neg hl];rfl
theorem iRv_step (go) (x:List UInt8×Int×Int) (hx:RiI x) (hgo:∀y,RiI y->(7-y.2.2).toNat<(7-x.2.2).toNat->go y=some (rvL y.1 (7-y.2.2).toNat y.2.2.toNat)):
  i_ReadVar_L9 go x=some (rvL x.1 (7-x.2.2).toNat x.2.2.toNat):=by
 obtain⟨s,m,k⟩:=x
 obtain⟨i,h1,hi,hil,h2⟩:=hx
 simp only at h1 h2 hil
 subst h1 h2
 unfold i_ReadVar_L9
 simp only
 by_cases hl:i<s.length
 ·have e1:decide ((i:Int)<(↑s.length:Int))=true:=by simp;omega
  by_cases h7:i=7
  ·subst h7
   simp only[e1,cond_true]
   rfl
  ·have e2:decide ((i:Int)<7)=true:=by simp;omega
   have e3:decide ((0:Int)<=(i:Int))=true:=by simp
   have e4:IntKind.i64.wrap (7*(i:Int))=((7*i:Nat):Int):=by rw[w64 (by omega) (by omega)];omega
   have e5:decide ((0:Int)<=((7*i:Nat):Int))=true:=by simp;omega
   have e6:IntKind.u8.wrap ((s[i].toNat%128:Nat):Int)=((s[i].toNat%128:Nat):Int):=w8 (by omega) (by omega)
   have e7:IntKind.i64.wrap ((s[i].toNat%128:Nat):Int)=((s[i].toNat%128:Nat):Int):=w64 (by omega) (by omega)
   have e8:min (((7*i:Nat):Int).toNat) IntKind.i64.bits=7*i:=by
    rw[Int.toNat_natCast];exact Nat.min_eq_left (by show 7*i<=64;omega)
   have e9:((s[i].toNat%128:Nat):Int)*2^(7*i)=((s[i].toNat%128*128^i:Nat):Int):=by
    rw[Int.natCast_mul,<-pow7];simp
   have hn:=num_lt (s.take i)
   rw[List.length_take,Nat.min_eq_left hil] at hn
   have hm:s[i].toNat%128<128:=by omega
   have hp:128^(i+1)<=562949953421312:=pow_le7 (by omega)
   have hmul:s[i].toNat%128*128^i+128^i<=128^(i+1):=by
    have:(s[i].toNat%128+1)*128^i<=128*128^i:=Nat.mul_le_mul_right _ (by omega)
    rw[Nat.add_mul,Nat.one_mul] at this
    rw[Nat.pow_succ]
    omega
   have e10:IntKind.i64.wrap ((s[i].toNat%128*128^i:Nat):Int)=((s[i].toNat%128*128^i:Nat):Int):=by
    generalize s[i].toNat%128*128^i=z at *
    exact w64 (by omega) (by omega)
   have e11:=orNat (i:=i) (n:=numOf (s.take i)) (m:=s[i].toNat%128) (by omega) hn hm
   have e12:numOf (s.take i)+s[i].toNat%128*128^i=numOf (s.take (i+1)):=by
    rw[take_snoc hl,num_snoc,List.length_take,Nat.min_eq_left hil]
   have hn2:=num_lt (s.take (i+1))
   rw[List.length_take,Nat.min_eq_left (by omega:i+1<=s.length)] at hn2
   have e13:IntKind.i64.wrap ((numOf (s.take (i+1)):Nat):Int)=((numOf (s.take (i+1)):Nat):Int):=w64 (by omega) (by omega)
   have e14:IntKind.i64.wrap ((i:Int)+1)=((i+1:Nat):Int):=by rw[w64 (by omega) (by omega)];omega
   have e15:decide ((0:Int)<=((i+1:Nat):Int))=true:=by simp;omega
   have e16:decide (((i+1:Nat):Int)<=(↑s.length:Int))=true:=by simp;omega
   have e17:(7-(i:Int)).toNat=(6-i)+1:=by omega
   simp only[e1,cond_true,e2,Option.bind_some,e3,Int.toNat_natCast,List.getElem?_eq_getElem hl,e4,e5,and127b,e6,e7]
   rw[Int.toNat_natCast] at e8
   simp only[e8,e9,e10,e11,e12,e13,e14,e15,e16,i_Var_is,Option.bind_some,Bool.and_self,cond_true,Int.toNat_natCast,e17]
   rw[rvL,dif_pos hl]
   by_cases hb:s[i].toNat<128
   ·have b1:decide ((s[i].toNat:Int)<128)=true:=by simp;omega
    rw[if_pos hb,b1,cond_true]
    by_cases ht:varText ((numOf (s.take (i+1)):Nat):Int)=s.take (i+1)
    ·have:(!decide (varText ((numOf (s.take (i+1)):Nat):Int)=s.take (i+1)))=false:=by simpa using ht
     rw[if_pos ht,this];rfl
    ·have:(!decide (varText ((numOf (s.take (i+1)):Nat):Int)=s.take (i+1)))=true:=by simpa using ht
     rw[if_neg ht,this];rfl
   ·have b1:decide ((s[i].toNat:Int)<128)=false:=by simp;omega
    rw[if_neg hb,b1,cond_false,hgo _ ⟨i+1,rfl,by omega,by simp only;omega,rfl⟩ (by simp only;omega)]
    simp only
    rw[show(7-((i+1:Nat):Int)).toNat=6-i by omega,Int.toNat_natCast]
 ·have e1:decide ((i:Int)<(↑s.length:Int))=false:=by simp;omega
  simp only[e1,cond_false,Option.bind_some,Int.toNat_natCast]
  cases hf:(7-(i:Int)).toNat with
  |zero=>rfl
  |succ f=>rw[rvL,dif_neg hl]
theorem i_ReadVar_is (s:List UInt8):i_ReadVar s=some (rv s):=by
 unfold i_ReadVar
 rw[iter_is (S:=i_ReadVar_L9) (fun x=>(7-x.2.2).toNat) RiI iRv_step FUEL (s,0,0) ⟨0,rfl,by omega,by simp,by simp[numOf]⟩ (fuel_lt (by simp)),Option.bind_some]
 exact rvL_is 7 0
end Go.Proofs.YtacbkfginiknaaaDoor
