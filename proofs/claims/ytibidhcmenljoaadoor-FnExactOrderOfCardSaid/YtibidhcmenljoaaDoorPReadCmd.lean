/- The plain law: the program's reader of commands is the reference's. -/
import Derived.Test.YtibidhcmenljoaaDoorPScan
import Derived.Test.YtibidhcmenljoaaDoorPSpecDo
namespace Go.Proofs.YtibidhcmenljoaaDoor
open Go Go.Proofs.YtibidhcmenljoaaDoor.V
abbrev CmdT:=Int×Int×OpT
def cmd0:CmdT:=(0,0,0,0,0,[])
def varsAt (s:List UInt8):Nat->Nat->Option (List Int×Nat)
 |0,a=>some ([],a)
 |n+1,a=>if(rv (s.drop a)).2=0 then none else(varsAt s n (a+(rv (s.drop a)).2.toNat)).map fun p=>((rv (s.drop a)).1::p.1,p.2)
theorem vars_le {s:List UInt8}:∀n a {p},a<=s.length->varsAt s n a=some p->p.2<=s.length/\p.1.length=n:=by
 intro n
 induction n with
 |zero=>intro a p ha h;cases h;exact⟨ha,rfl⟩
 |succ n ih=>
  intro a p ha h
  rw[varsAt] at h
  split at h
  ·cases h
  ·cases hv:varsAt s n (a+(rv (s.drop a)).2.toNat) with
   |none=>rw[hv] at h;cases h
   |some q=>
    rw[hv] at h
    cases h
    have h1:=rv_le (s.drop a)
    have h2:=rv_pos (s.drop a)
    rw[List.length_drop] at h1
    obtain⟨h3,h4⟩:=ih _ (by omega) hv
    exact⟨h3,by simp[h4]⟩
def vlAt (s:List UInt8):Nat->Nat->List Int->Int×List Int⊕List Int×Int
 |0,a,o=>.inl ((a:Int),o)
 |n+1,a,o=>if(rv (s.drop a)).2=0 then .inr (o,-1) else vlAt s n (a+(rv (s.drop a)).2.toNat) (o++[(rv (s.drop a)).1])
theorem vl_is {s:List UInt8}:∀n a o,match varsAt s n a with
  |some p=>vlAt s n a o= .inl ((p.2:Int),o++p.1)
  |none=>∃o',vlAt s n a o= .inr (o',-1):=by
 intro n
 induction n with
 |zero=>intro a o;simp[varsAt,vlAt]
 |succ n ih=>
  intro a o
  rw[varsAt,vlAt]
  by_cases h:(rv (s.drop a)).2=0
  ·rw[if_pos h,if_pos h];exact⟨o,rfl⟩
  ·rw[if_neg h,if_neg h]
   have:=ih (a+(rv (s.drop a)).2.toNat) (o++[(rv (s.drop a)).1])
   cases hv:varsAt s n (a+(rv (s.drop a)).2.toNat) with
   |none=>rw[hv] at this;exact this
   |some p=>rw[hv] at this;simpa using this
def VsI (s:List UInt8) (x:List UInt8×Int×Int×List Int×Int):Prop:=∃a n i:Nat,x.1=s/\x.2.1=(a:Int)/\x.2.2.1=(n:Int)/\x.2.2.2.2=(i:Int)/\a<=s.length/\i<=n/\n<=1000/\x.2.2.2.1.length=i
theorem vs_step (s:List UInt8) (hs:s.length<=9223372036854775807) (go) (x:List UInt8×Int×Int×List Int×Int) (hx:VsI s x)
  (hgo:∀y,VsI s y->(y.2.2.1-y.2.2.2.2).toNat<(x.2.2.1-x.2.2.2.2).toNat->go y=some (vlAt s (y.2.2.1-y.2.2.2.2).toNat y.2.1.toNat y.2.2.2.1)):
  s_l13Vars_L9 go x=some (vlAt s (x.2.2.1-x.2.2.2.2).toNat x.2.1.toNat x.2.2.2.1):=by
 obtain⟨s',a',n',o,i'⟩:=x
 obtain⟨a,n,i,h1,h2,h3,h4,ha,hi,hn,ho⟩:=hx
 simp only at h1 h2 h3 h4 ho
 subst h1 h2 h3 h4
 unfold s_l13Vars_L9
 simp only
 by_cases h:i<n
 ·have e1:decide ((i:Int)<(n:Int))=true:=by simp;omega
  have e2:decide ((↑s'.length:Int)<(a:Int))=false:=by simp;omega
  have e3:(decide ((0:Int)<=(a:Int))&&decide ((a:Int)<=(↑s'.length:Int)))=true:=by simp;omega
  have e4:((n:Int)-(i:Int)).toNat=(n-i-1)+1:=by omega
  have b1:=rv_le (s'.drop a)
  have b2:=rv_pos (s'.drop a)
  rw[List.length_drop] at b1
  simp only[e1,cond_true,e2,cond_false,e3,Int.toNat_natCast,s_ReadVar_is,Option.bind_some,e4]
  rw[vlAt]
  by_cases hz:(rv (s'.drop a)).2=0
  ·have:decide ((rv (s'.drop a)).2=0)=true:=by simpa using hz
   rw[if_pos hz,this];rfl
  ·have hz':decide ((rv (s'.drop a)).2=0)=false:=by simpa using hz
   rw[if_neg hz,hz',cond_false]
   have e5:IntKind.i64.wrap ((a:Int)+(rv (s'.drop a)).2)=((a+(rv (s'.drop a)).2.toNat:Nat):Int):=by rw[w64 (by omega) (by omega)];omega
   have e6:IntKind.i64.wrap ((i:Int)+1)=((i+1:Nat):Int):=by rw[w64 (by omega) (by omega)];omega
   have e7:decide (o.length+(1:Nat)<=4294967296)=true:=decide_eq_true (by omega)
   rw[e7,cond_true,e5,e6,hgo _ ⟨_,n,i+1,rfl,rfl,rfl,rfl,by omega,by omega,hn,by simp[ho]⟩ (by simp only;omega)]
   simp only[Int.toNat_natCast]
   rw[show((n:Int)-((i+1:Nat):Int)).toNat=n-i-1 by omega]
 ·have e1:decide ((i:Int)<(n:Int))=false:=by simp;omega
  simp only[e1,cond_false]
  rw[show((n:Int)-(i:Int)).toNat=0 by omega]
  rfl
theorem l13Vars_is {s:List UInt8} (hs:s.length<=9223372036854775807) {a n:Nat} (ha:a<=s.length) (hn:n<=1000):
  match varsAt s n a with
  |some p=>s_l13Vars (s,(a:Int),(n:Int))=some (p.1,(p.2:Int))
  |none=>∃o',s_l13Vars (s,(a:Int),(n:Int))=some (o',-1):=by
 unfold s_l13Vars
 have:=iter_is (S:=s_l13Vars_L9) (g:=fun x=>some (vlAt s (x.2.2.1-x.2.2.2.2).toNat x.2.1.toNat x.2.2.2.1)) (fun x=>(x.2.2.1-x.2.2.2.2).toNat) (VsI s) (vs_step s hs) FUEL (s,(a:Int),(n:Int),List.replicate 0 0,0)
  ⟨a,n,0,rfl,rfl,rfl,rfl,ha,by omega,hn,rfl⟩ (fuel_lt (by simp only;omega))
 simp only[this,Option.bind_some,Int.toNat_natCast]
 rw[show((n:Int)-0).toNat=n by omega]
 have hv:=vl_is (s:=s) n a []
 cases h:varsAt s n a with
 |none=>rw[h] at hv;obtain⟨o',ho⟩:=hv;exact⟨o',by simp only[List.replicate];rw[ho];rfl⟩
 |some p=>rw[h] at hv;simp only[List.replicate];rw[hv];simp[sumK]
theorem list2 {l:List Int} (h:l.length=2):∃a b,l=[a,b]:=by
 match l,h with
 |[a,b],_=>exact⟨a,b,rfl⟩
def cmdB (c:CmdT):Bool:=(decide (1<=c.1)&&decide (c.1<=6))&&(decide (1<=c.2.1)&&decide (c.2.1<=1000000))&&opB c.2.2
def opT (o:OpT):Bs:=[UInt8.ofNat (IntKind.u8.wrap o.1).toNat]++varText o.2.1++varText o.2.2.1++o.2.2.2
def cmdT (c:CmdT):Bs:=varText c.1++varText c.2.1++opT c.2.2
theorem op_facts {o:OpT} (h:opB o=true):(1<=o.1/\o.1<=5)/\(0<=o.2.1/\o.2.1<=2)/\(0<=o.2.2.1/\o.2.2.1<=6)/\o.2.2.2.length<=250:=by
 obtain⟨k,c,v,b⟩:=o
 unfold opB at h
 split at h
 ·rename_i h1
  simp only[Bool.and_eq_true,decide_eq_true_eq] at h h1 ⊢
  omega
 ·rename_i h1
  simp only[Bool.and_eq_true,decide_eq_true_eq] at h h1 ⊢
  obtain⟨hb,h⟩:=h
  have hl:b.length=0:=by rw[hb];rfl
  split at h
  ·simp only[Bool.and_eq_true,decide_eq_true_eq] at h;omega
  ·split at h
   ·simp only[Bool.and_eq_true,decide_eq_true_eq] at h;omega
   ·split at h
    ·simp only[Bool.and_eq_true,Bool.or_eq_true,decide_eq_true_eq] at h;omega
    ·cases h
theorem opT_len {o:OpT} (h:o.2.2.2.length<=250):(opT o).length<=269:=by
 have h1:=varText_len o.2.1
 have h2:=varText_len o.2.2.1
 unfold opT
 simp only[List.length_append,List.length_singleton];omega
theorem i_ShowOp_is (o:OpT):i_ShowOp o=some (if opB o=true then opT o else[]):=by
 unfold i_ShowOp
 simp only[i_OpOk_is,Option.bind_some,i_Var_is]
 cases h:opB o with
 |false=>simp
 |true=>
  have hl:=(op_facts h).2.2.2
  have h1:=varText_len o.2.1
  have h2:=varText_len o.2.2.1
  simp only[Bool.not_true,cond_false,List.map_cons,List.map_nil,if_true]
  rw[gl (by simp only[List.length_append,List.length_singleton];omega),cond_true,gl (by simp only[List.length_append,List.length_singleton];omega),cond_true,gl (by simp only[List.length_append,List.length_singleton];omega),cond_true]
  rfl
theorem s_ShowOp_is (o:OpT):s_ShowOp o=some (if opB o=true then opT o else[]):=by
 rw[<-i_ShowOp_is]
 unfold s_ShowOp i_ShowOp
 simp only[i_OpOk_is,s_OpOk_is,s_Var_is,i_Var_is]
theorem i_ShowCmd_is (c:CmdT):i_ShowCmd c=some (if cmdB c=true then cmdT c else[]):=by
 obtain⟨a,b,o⟩:=c
 unfold i_ShowCmd cmdB
 simp only[in_i,i_OpOk_is,Option.bind_some,i_Var_is,i_ShowOp_is]
 cases h1:(decide (1<=a)&&decide (a<=6))<;>cases h2:(decide (1<=b)&&decide (b<=1000000))<;>cases h3:opB o<;>simp only[Bool.not_true,Bool.not_false,cond_true,cond_false,Option.bind_some,Bool.and_true,Bool.and_false,Bool.and_self,if_true,Bool.false_eq_true,if_false]
 have hl:=opT_len (op_facts h3).2.2.2
 have g1:=varText_len a
 have g2:=varText_len b
 rw[gl (by omega),cond_true,gl (by simp only[List.length_append];omega),cond_true]
 rfl
theorem s_ShowCmd_is (c:CmdT):s_ShowCmd c=some (if cmdB c=true then cmdT c else[]):=by
 rw[<-i_ShowCmd_is]
 unfold s_ShowCmd i_ShowCmd
 simp only[i_OpOk_is,s_OpOk_is,s_Var_is,i_Var_is,in_i,in_s,s_ShowOp_is,i_ShowOp_is]
theorem cmd_facts {c:CmdT} (h:cmdB c=true):(1<=c.1/\c.1<=6)/\(1<=c.2.1/\c.2.1<=1000000)/\opB c.2.2=true:=by
 unfold cmdB at h
 simp only[Bool.and_eq_true,decide_eq_true_eq] at h
 exact⟨h.1.1,h.1.2,h.2⟩
theorem cmdT_ne {c:CmdT} (h:cmdB c=true):cmdT c≠[]:=by
 have:=(cmd_facts h).1
 unfold cmdT
 rw[List.append_assoc]
 exact varText_ne (by omega) (by omega) _
theorem i_ReadCmd_ok {c:CmdT} (h:cmdB c=true):i_ReadCmd (cmdT c)=some (c,true):=by
 obtain⟨h1,h2,h3⟩:=cmd_facts h
 obtain⟨k1,k2,k3,k4⟩:=op_facts h3
 have hs:=i_ShowCmd_is c
 rw[if_pos h] at hs
 have e:cmdT c=varText c.1++(varText c.2.1++([UInt8.ofNat (c.2.2.1).toNat]++(varText c.2.2.2.1++(varText c.2.2.2.2.1++c.2.2.2.2.2)))):=by
  unfold cmdT opT
  rw[w8 (by omega) (by omega)]
  simp only[List.append_assoc]
 have hne:=cmdT_ne h
 unfold i_ReadCmd i_scan_op
 simp only[scan_num_is,Option.bind_some]
 rw[show numP (cmdT c,false)=(c.1,_,false) by rw[e];exact num_var2 (by omega) (by omega) _]
 simp only[num_var2 (show 0<=c.2.1 by omega) (by omega)]
 rw[byte_is (by omega) (by omega)]
 simp only[Option.bind_some,num_var2 (show 0<=c.2.2.2.1 by omega) (by omega),num_var2 (show 0<=c.2.2.2.2.1 by omega) (by omega),Bool.not_false,cond_true]
 rw[decide_eq_false hne]
 simp only[Bool.not_false,cond_true]
 rw[show i_ShowCmd (c.1,c.2.1,c.2.2.1,c.2.2.2.1,c.2.2.2.2.1,c.2.2.2.2.2)=some (cmdT c) from hs]
 simp
theorem rv_var' {x:Int} (h0:0<=x) (h1:x<=562949953421311) (p t:Bs) {s:Bs} (hs:s=p++(varText x++t)):rv (s.drop p.length)=(x,((varText x).length:Int)):=by
 subst hs
 rw[List.drop_left]
 exact rv_var h0 h1 t
theorem vars2 {x y:Int} (hx:0<=x) (hx':x<=562949953421311) (hy:0<=y) (hy':y<=562949953421311) (p t:Bs) {s:Bs} (hs:s=p++(varText x++(varText y++t))):
  varsAt s 2 p.length=some ([x,y],p.length+(varText x).length+(varText y).length):=by
 have q1:=rv_var' hx hx' p (varText y++t) hs
 have q2:=rv_var' hy hy' (p++varText x) t (s:=s) (by rw[hs];simp)
 have p1:=varText_pos hx hx'
 have p2:=varText_pos hy hy'
 rw[List.length_append] at q2
 simp only[varsAt,q1,Int.toNat_natCast,q2]
 rw[if_neg (by omega),if_neg (by omega)]
 rfl
theorem s_ReadOp_ok {o:OpT} (h:opB o=true):s_ReadOp (opT o)=some (o,true):=by
 obtain⟨k1,k2,k3,k4⟩:=op_facts h
 have hl:=opT_len k4
 have hv:=l13Vars_is (s:=opT o) (by omega) (a:=1) (n:=2) (by unfold opT;simp) (by omega)
 rw[show varsAt (opT o) 2 1=_ from vars2 (p:=[UInt8.ofNat (IntKind.u8.wrap o.1).toNat]) (x:=o.2.1) (y:=o.2.2.1) (t:=o.2.2.2) (by omega) (by omega) (by omega) (by omega) (by unfold opT;simp)] at hv
 have hv':s_l13Vars (opT o,1,2)=_:=hv
 have hs:=s_ShowOp_is o
 rw[if_pos h] at hs
 unfold s_ReadOp
 rw[hv']
 have h0:(opT o)[Int.toNat 0]?=some (UInt8.ofNat (IntKind.u8.wrap o.1).toNat):=rfl
 have hd:(opT o).drop ([UInt8.ofNat (IntKind.u8.wrap o.1).toNat].length+(varText o.2.1).length+(varText o.2.2.1).length)=o.2.2.2:=by
  have:opT o=([UInt8.ofNat (IntKind.u8.wrap o.1).toNat]++varText o.2.1++varText o.2.2.1)++o.2.2.2:=rfl
  rw[this,<-List.length_append,<-List.length_append,List.drop_left]
 have hb:IntKind.i64.wrap ((UInt8.ofNat (IntKind.u8.wrap o.1).toNat).toNat:Int)=o.1:=by
  rw[w8 (by omega) (by omega)]
  have hb:(UInt8.ofNat o.1.toNat).toNat=o.1.toNat:=by rw[UInt8.toNat_ofNat'];omega
  rw[hb,w64 (by omega) (by omega)];omega
 have u0:([o.2.1,o.2.2.1]:List Int)[Int.toNat 0]?=some o.2.1:=rfl
 have u1:([o.2.1,o.2.2.1]:List Int)[Int.toNat 1]?=some o.2.2.1:=rfl
 have v0:([o.2.1,o.2.2.1]:List Int)[0]?=some o.2.1:=rfl
 have v1:([o.2.1,o.2.2.1]:List Int)[1]?=some o.2.2.1:=rfl
 have hle:([UInt8.ofNat (IntKind.u8.wrap o.1).toNat].length+(varText o.2.1).length+(varText o.2.2.1).length)<=(opT o).length:=by unfold opT;simp only[List.length_append];omega
 simp only[Option.bind_some,Int.toNat_natCast,h0,hd,hb,u0,u1,v0,v1]
 rw[decide_eq_false (by omega),cond_false,decide_eq_true (by omega),decide_eq_true (by omega),Bool.and_self,cond_true]
 rw[show s_ShowOp (o.1,o.2.1,o.2.2.1,o.2.2.2)=some (opT o) from hs]
 simp
theorem s_ReadCmd_ok {c:CmdT} (h:cmdB c=true):s_ReadCmd (cmdT c)=some (c,true):=by
 obtain⟨h1,h2,h3⟩:=cmd_facts h
 obtain⟨k1,k2,k3,k4⟩:=op_facts h3
 have hl:=opT_len k4
 have g1:=varText_len c.1
 have g2:=varText_len c.2.1
 have hlen:(cmdT c).length<=300:=by unfold cmdT;simp only[List.length_append];omega
 have hv:=l13Vars_is (s:=cmdT c) (by omega) (a:=0) (n:=2) (by omega) (by omega)
 rw[show varsAt (cmdT c) 2 0=_ from vars2 (p:=[]) (x:=c.1) (y:=c.2.1) (t:=opT c.2.2) (by omega) (by omega) (by omega) (by omega) (by unfold cmdT;simp)] at hv
 have hv':s_l13Vars (cmdT c,0,2)=_:=hv
 have hs:=s_ShowCmd_is c
 rw[if_pos h] at hs
 unfold s_ReadCmd
 rw[hv']
 have hd:(cmdT c).drop (([]:Bs).length+(varText c.1).length+(varText c.2.1).length)=opT c.2.2:=by
  have:cmdT c=(varText c.1++varText c.2.1)++opT c.2.2:=rfl
  rw[this,List.length_nil,Nat.zero_add,<-List.length_append,List.drop_left]
 have u0:([c.1,c.2.1]:List Int)[Int.toNat 0]?=some c.1:=rfl
 have u1:([c.1,c.2.1]:List Int)[Int.toNat 1]?=some c.2.1:=rfl
 have v0:([c.1,c.2.1]:List Int)[0]?=some c.1:=rfl
 have v1:([c.1,c.2.1]:List Int)[1]?=some c.2.1:=rfl
 have hle:(([]:Bs).length+(varText c.1).length+(varText c.2.1).length)<=(cmdT c).length:=by unfold cmdT;simp only[List.length_append,List.length_nil];omega
 simp only[Option.bind_some,Int.toNat_natCast,hd,u0,u1,v0,v1,s_ReadOp_ok h3]
 rw[decide_eq_false (by omega),cond_false,decide_eq_true (by omega),decide_eq_true (by omega),Bool.and_self,cond_true]
 rw[show s_ShowCmd (c.1,c.2.1,c.2.2)=some (cmdT c) from hs]
 simp
theorem sbyte_tot (x:Bs×Bool):∃y,i_scan_byte x=some y:=by
 obtain⟨s,b⟩:=x
 cases b with
 |true=>exact⟨(0,s,true),by simp[i_scan_byte,i_scan_cut,in_i]⟩
 |false=>
  cases s with
  |nil=>exact⟨(0,[],true),by simp[i_scan_byte,i_scan_cut,in_i]⟩
  |cons b t=>
   have:=cut_is [b] t
   simp only[List.length_singleton] at this
   have e:((1:Nat):Int)=1:=rfl
   rw[e] at this
   unfold i_scan_byte
   rw[show(b::t)=[b]++t from rfl,this]
   exact⟨_,rfl⟩
def RdOk (s:Bs) (r:CmdT×Bool):Prop:=r=(cmd0,false)\/(r.2=true/\cmdB r.1=true/\s=cmdT r.1)
theorem rd_of {s:Bs} {c:CmdT} (hs:s≠[]) (h:(if cmdB c=true then cmdT c else[])=s):cmdB c=true/\s=cmdT c:=by
 split at h
 ·exact⟨by assumption,h.symm⟩
 ·exact absurd h.symm hs
theorem i_ReadCmd_tot (s:Bs):∃r,i_ReadCmd s=some r/\RdOk s r:=by
 unfold i_ReadCmd i_scan_op
 simp only[scan_num_is,Option.bind_some,i_ShowCmd_is]
 obtain⟨y,hy⟩:=sbyte_tot (numP (numP (s,false)).2).2
 rw[hy]
 simp only[Option.bind_some]
 generalize (numP (numP y.2).2).2.2=bad
 cases bad with
 |true=>exact⟨_,rfl,.inl rfl⟩
 |false=>
  simp only[Bool.not_false,cond_true,Option.bind_some]
  by_cases hs:s=[]
  ·rw[decide_eq_true hs];exact⟨_,rfl,.inl rfl⟩
  ·rw[decide_eq_false hs]
   simp only[Bool.not_false,cond_true,Option.bind_some]
   split
   ·rename_i h
    have h:=h
    cases hd:decide (cmdT ((numP (s,false)).1,(numP (numP (s,false)).2).1,(y.1,(numP y.2).1,(numP (numP y.2).2).1,(numP (numP y.2).2).2.1))=s) with
    |false=>exact⟨_,rfl,.inl rfl⟩
    |true=>exact⟨_,rfl,.inr ⟨rfl,h,(of_decide_eq_true hd).symm⟩⟩
   ·rw[decide_eq_false (fun h=>hs h.symm)];exact⟨_,rfl,.inl rfl⟩
theorem s_ReadOp_tot (s:Bs) (hs:s.length<=1000000000):∃r,s_ReadOp s=some r:=by
 cases s with
 |nil=>
  have h1:s_l13Vars ([],1,2)=some ([],-1):=by
   have:iter s_l13Vars_L9 FUEL (([]:List UInt8),(1:Int),(2:Int),List.replicate 0 (0:Int),(0:Int))=some (.inr ([],-1)):=rfl
   simp only[s_l13Vars,this,Option.bind_some,sumK]
  unfold s_ReadOp
  rw[h1]
  exact⟨_,rfl⟩
 |cons b t=>
  have hv:=l13Vars_is (s:=b::t) (by omega) (a:=1) (n:=2) (by simp) (by omega)
  unfold s_ReadOp
  cases hh:varsAt (b::t) 2 1 with
  |none=>
   rw[hh] at hv
   obtain⟨o',ho⟩:=hv
   have ho':s_l13Vars (b::t,1,2)=some (o',-1):=ho
   rw[ho']
   exact⟨_,rfl⟩
  |some p=>
   obtain⟨hp,hl⟩:=vars_le 2 1 (by simp) hh
   rw[hh] at hv
   have hv':s_l13Vars (b::t,1,2)=some (p.1,(p.2:Int)):=hv
   obtain⟨p1,p2⟩:=p
   obtain⟨c,d,rfl⟩:=list2 hl
   rw[hv']
   have u0:([c,d]:List Int)[Int.toNat 0]?=some c:=rfl
   have u1:([c,d]:List Int)[Int.toNat 1]?=some d:=rfl
   have v0:([c,d]:List Int)[0]?=some c:=rfl
   have v1:([c,d]:List Int)[1]?=some d:=rfl
   have w0:(b::t)[Int.toNat 0]?=some b:=rfl
   simp only at hp
   simp only[Option.bind_some,u0,u1,v0,v1,w0,s_ShowOp_is]
   rw[decide_eq_false (by omega),cond_false,decide_eq_true (by omega),decide_eq_true (by omega),Bool.and_self,cond_true]
   cases hd:decide ((if opB (IntKind.i64.wrap (b.toNat:Int),c,d,List.drop (Int.toNat (p2:Int)) (b::t))=true then opT (IntKind.i64.wrap (b.toNat:Int),c,d,List.drop (Int.toNat (p2:Int)) (b::t)) else[])=b::t)<;>exact⟨_,rfl⟩
theorem s_ReadCmd_tot (s:Bs) (hs:s.length<=1000000000):∃r,s_ReadCmd s=some r/\RdOk s r:=by
 have hv:=l13Vars_is (s:=s) (by omega) (a:=0) (n:=2) (by omega) (by omega)
 unfold s_ReadCmd
 cases hh:varsAt s 2 0 with
 |none=>
  rw[hh] at hv
  obtain⟨o',ho⟩:=hv
  have ho':s_l13Vars (s,0,2)=some (o',-1):=ho
  rw[ho']
  exact⟨_,rfl,.inl rfl⟩
 |some p=>
  obtain⟨hp,hl⟩:=vars_le 2 0 (by omega) hh
  rw[hh] at hv
  have hv':s_l13Vars (s,0,2)=some (p.1,(p.2:Int)):=hv
  obtain⟨p1,p2⟩:=p
  obtain⟨c,d,rfl⟩:=list2 hl
  rw[hv']
  have hne:s≠[]:=by
   intro he
   subst he
   have:varsAt [] 2 0=none:=rfl
   rw[this] at hh;cases hh
  have u0:([c,d]:List Int)[Int.toNat 0]?=some c:=rfl
  have u1:([c,d]:List Int)[Int.toNat 1]?=some d:=rfl
  have v0:([c,d]:List Int)[0]?=some c:=rfl
  have v1:([c,d]:List Int)[1]?=some d:=rfl
  obtain⟨y,hy⟩:=s_ReadOp_tot (s.drop p2) (by rw[List.length_drop];omega)
  simp only at hp
  simp only[Option.bind_some,u0,u1,v0,v1,Int.toNat_natCast,hy,s_ShowCmd_is]
  rw[decide_eq_false (by omega),cond_false,decide_eq_true (by omega),decide_eq_true (by omega),Bool.and_self,cond_true]
  cases hd:decide ((if cmdB (c,d,y.1)=true then cmdT (c,d,y.1) else[])=s) with
  |false=>exact⟨_,rfl,.inl rfl⟩
  |true=>
   obtain⟨q1,q2⟩:=rd_of hne (of_decide_eq_true hd)
   exact⟨_,rfl,.inr ⟨rfl,q1,q2⟩⟩
noncomputable def rdC (s:Bs):CmdT×Bool:=(i_ReadCmd s).getD (cmd0,false)
theorem i_ReadCmd_is (s:Bs):i_ReadCmd s=some (rdC s):=by
 obtain⟨r,h,_⟩:=i_ReadCmd_tot s
 rw[rdC,h];rfl
theorem rdC_ok (s:Bs):RdOk s (rdC s):=by
 obtain⟨r,h,k⟩:=i_ReadCmd_tot s
 rw[rdC,h];exact k
theorem s_ReadCmd_is {s:Bs} (hs:s.length<=1000000000):s_ReadCmd s=some (rdC s):=by
 obtain⟨r,h,k⟩:=s_ReadCmd_tot s hs
 rcases k with k|⟨k1,k2,k3⟩
 ·rcases rdC_ok s with g|⟨g1,g2,g3⟩
  ·rw[h,k,g]
  ·have:=s_ReadCmd_ok g2
   rw[<-g3,h,k] at this
   exact absurd (congrArg (fun o=>o.map (·.2)) this) (by simp)
 ·have:=i_ReadCmd_ok k2
  rw[<-k3,i_ReadCmd_is] at this
  rw[h,Option.some.inj this]
  obtain⟨r1,r2⟩:=r
  cases k1;rfl
end Go.Proofs.YtibidhcmenljoaaDoor
