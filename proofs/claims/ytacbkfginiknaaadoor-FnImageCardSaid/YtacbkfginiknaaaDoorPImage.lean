/- The plain law: a registry that is put away is taken back as it was. -/
import Derived.Test.YtacbkfginiknaaaDoorPServeC
import Derived.Test.YtacbkfginiknaaaDoorPScan
namespace Go.Proofs.YtacbkfginiknaaaDoor
open Go Go.Proofs.YtacbkfginiknaaaDoor.V
def sizedT (b:Bs):Bs:=varText (b.length:Int)++b
def verT (v:Ver):Bs:=[UInt8.ofNat v.2.2.toNat]++sizedT v.1
def ansT (a:Ans):Bs:=varText a.1++varText a.2.1++varText a.2.2.1++varText a.2.2.2.2.1++varText a.2.2.2.2.2++a.2.2.2.1
def sesT (s:Ses):Bs:=varText s.1++varText s.2.1++sizedT (ansT s.2.2)
def regT (r:RegT):Bs:=varText (r.1.length:Int)++r.1.flatMap verT++r.2.1.flatMap varText++varText (r.2.2.length:Int)++r.2.2.flatMap sesT
theorem sizedT_len (b:Bs):(sizedT b).length<=9+b.length:=by
 unfold sizedT
 have:=varText_len (b.length:Int)
 simp only[List.length_append];omega
theorem ansT_len {a:Ans} (h:ansB a=true):(ansT a).length<=77:=by
 have hh:=(ansB_iff.1 h).2.2.2.1
 unfold ansT
 have h1:=varText_len a.1
 have h2:=varText_len a.2.1
 have h3:=varText_len a.2.2.1
 have h4:=varText_len a.2.2.2.2.1
 have h5:=varText_len a.2.2.2.2.2
 simp only[List.length_append];omega
theorem i_sized_is {b:Bs} (h:b.length<=10000):i_sized b=some (sizedT b):=by
 unfold i_sized sizedT
 have:=varText_len (b.length:Int)
 simp only[i_Var_is,Option.bind_some]
 rw[gl (by omega)];rfl
theorem i_ShowAnswer_is {a:Ans} (h:ansB a=true):i_ShowAnswer a=some (ansT a):=by
 have hh:=(ansB_iff.1 h).2.2.2.1
 unfold i_ShowAnswer ansT
 have h1:=varText_len a.1
 have h2:=varText_len a.2.1
 have h3:=varText_len a.2.2.1
 have h4:=varText_len a.2.2.2.2.1
 have h5:=varText_len a.2.2.2.2.2
 simp only[i_ans_is,h,i_Var_is,Option.bind_some,Bool.not_true,cond_false]
 rw[gl (by omega),cond_true,gl (by simp only[List.length_append];omega),cond_true,gl (by simp only[List.length_append];omega),cond_true,gl (by simp only[List.length_append];omega),cond_true,gl (by simp only[List.length_append];omega),cond_true]
theorem flat_succ {α:Type} {l:List α} {i:Nat} (h:i<l.length) (f:α->Bs):(l.take (i+1)).flatMap f=(l.take i).flatMap f++f l[i]:=by
 rw[List.take_succ_eq_append_getElem h,List.flatMap_append];simp
theorem flat_len {α:Type} {l:List α} {f:α->Bs} {m:Nat} (h:∀x∈l,(f x).length<=m):(l.flatMap f).length<=l.length*m:=by
 induction l with
 |nil=>simp
 |cons x l ih=>
  have h1:=h x List.mem_cons_self
  have h2:=ih (fun y hy=>h y (List.mem_cons_of_mem _ hy))
  simp only[List.flatMap_cons,List.length_append,List.length_cons,Nat.add_mul];omega
theorem flat_take_len {α:Type} {l:List α} {f:α->Bs} {m:Nat} (h:∀x∈l,(f x).length<=m) (i:Nat):((l.take i).flatMap f).length<=l.length*m:=by
 have h1:=flat_len (l:=l.take i) (m:=m) (fun x hx=>h x (List.mem_of_mem_take hx))
 have h2:(l.take i).length*m<=l.length*m:=Nat.mul_le_mul_right _ (by rw[List.length_take];omega)
 omega
theorem ver_len {r:RegT} (hr:RegP r):∀v∈r.1,(verT v).length<=254:=by
 intro v hv
 obtain⟨i,hi⟩:=List.getElem?_of_mem hv
 have:=rc_len (hr.ver i v hi).1
 have h2:=sizedT_len v.1
 unfold verT
 simp only[List.length_append,List.length_singleton];omega
theorem ses_tlen {r:RegT} (hr:RegP r):∀s∈r.2.2,(sesT s).length<=104:=by
 intro s hs
 obtain⟨i,hi⟩:=List.getElem?_of_mem hs
 have h1:=ansT_len (ses_at hr.ses hi).2.2.1
 have h2:=sizedT_len (ansT s.2.2)
 have h3:=varText_len s.1
 have h4:=varText_len s.2.1
 unfold sesT
 simp only[List.length_append];omega
theorem s13_is {r:RegT} (hr:RegP r) (acc:Bs) (ha:acc.length<=9):iter i_ShowReg_L13 FUEL (acc,r.1,(r.1.length:Int),0)=some (acc++r.1.flatMap verT):=by
 have h6:=hr.v6
 have hvl:=ver_len hr
 have e:=iter_run (S:=i_ShowReg_L13) (fun i=>(acc++(r.1.take i).flatMap verT,r.1,(r.1.length:Int),(i:Int))) r.1.length (acc++r.1.flatMap verT) (by omega) (fun go i hi=>by
  have hat:=List.getElem?_eq_getElem hi
  obtain⟨g1,_,_,g4,g5,_⟩:=hr.ver i _ hat
  have hl:=rc_len g1
  have hl1:=flat_take_len hvl i
  have hl2:=sizedT_len (r.1[i]).1
  have hl3:r.1.length*254<=6*254:=Nat.mul_le_mul_right _ h6
  unfold i_ShowReg_L13
  simp only[decN,Int.toNat_natCast,nnN,cond_true]
  rw[decide_eq_true hi,cond_true,hat,Option.bind_some,u8_id (by omega) (by omega)]
  rw[gl (by simp only[List.length_append,List.length_singleton];omega),cond_true,i_sized_is (by omega)]
  simp only[Option.bind_some]
  rw[gl (by simp only[List.length_append,List.length_singleton];omega),cond_true,wSucc (by omega),flat_succ hi]
  unfold verT
  simp only[List.append_assoc]) (fun go=>by
  unfold i_ShowReg_L13
  simp)
 simpa using e
theorem s23_is {r:RegT} (hr:RegP r) (acc:Bs) (ha:acc.length<=2000):iter i_ShowReg_L23 FUEL (acc,r.2.1,(r.2.1.length:Int),0)=some (acc++r.2.1.flatMap varText):=by
 have h3:=hr.a3
 have e:=iter_run (S:=i_ShowReg_L23) (fun i=>(acc++(r.2.1.take i).flatMap varText,r.2.1,(r.2.1.length:Int),(i:Int))) r.2.1.length (acc++r.2.1.flatMap varText) (by omega) (fun go i hi=>by
  have hl1:=flat_take_len (l:=r.2.1) (f:=varText) (m:=9) (fun x _=>varText_len x) i
  have hl2:=varText_len r.2.1[i]
  unfold i_ShowReg_L23
  simp only[decN,Int.toNat_natCast,nnN,cond_true]
  rw[decide_eq_true hi,cond_true,List.getElem?_eq_getElem hi,Option.bind_some,i_Var_is,Option.bind_some]
  rw[gl (by simp only[List.length_append];omega),cond_true,wSucc (by omega),flat_succ hi,List.append_assoc]) (fun go=>by
  unfold i_ShowReg_L23
  simp)
 simpa using e
theorem s35_is {r:RegT} (hr:RegP r) (acc:Bs) (ha:acc.length<=3000):iter i_ShowReg_L35 FUEL (acc,r.2.2,(r.2.2.length:Int),0)=some (acc++r.2.2.flatMap sesT):=by
 have h6:=hr.s6
 have hsl:=ses_tlen hr
 have e:=iter_run (S:=i_ShowReg_L35) (fun i=>(acc++(r.2.2.take i).flatMap sesT,r.2.2,(r.2.2.length:Int),(i:Int))) r.2.2.length (acc++r.2.2.flatMap sesT) (by omega) (fun go i hi=>by
  have hat:=List.getElem?_eq_getElem hi
  have hB:=(ses_at hr.ses hat).2.2.1
  have hl0:=ansT_len hB
  have hl1:=flat_take_len hsl i
  have hl2:=sizedT_len (ansT (r.2.2[i]).2.2)
  have hl3:r.2.2.length*104<=6*104:=Nat.mul_le_mul_right _ h6
  have hl4:=varText_len (r.2.2[i]).1
  have hl5:=varText_len (r.2.2[i]).2.1
  unfold i_ShowReg_L35
  simp only[decN,Int.toNat_natCast,nnN,cond_true]
  rw[decide_eq_true hi,cond_true,hat,Option.bind_some,i_Var_is,Option.bind_some]
  rw[gl (by simp only[List.length_append];omega),cond_true,i_Var_is,Option.bind_some]
  rw[gl (by simp only[List.length_append];omega),cond_true,i_ShowAnswer_is hB,Option.bind_some,i_sized_is (by omega),Option.bind_some]
  rw[gl (by simp only[List.length_append];omega),cond_true,wSucc (by omega),flat_succ hi]
  unfold sesT
  simp only[List.append_assoc]) (fun go=>by
  unfold i_ShowReg_L35
  simp)
 simpa using e
theorem regT_len {r:RegT} (hr:RegP r):(regT r).length<=3000:=by
 have h1:=flat_len (ver_len hr)
 have h2:=flat_len (l:=r.2.1) (f:=varText) (m:=9) (fun x _=>varText_len x)
 have h3:=flat_len (ses_tlen hr)
 have h4:=varText_len (r.1.length:Int)
 have h5:=varText_len (r.2.2.length:Int)
 have k1:r.1.length*254<=6*254:=Nat.mul_le_mul_right _ hr.v6
 have k2:r.2.2.length*104<=6*104:=Nat.mul_le_mul_right _ hr.s6
 have k3:=hr.a3
 unfold regT
 simp only[List.length_append];omega
theorem i_ShowReg_is (r:RegT):i_ShowReg r=some (if regB r=true then regT r else[]):=by
 unfold i_ShowReg
 simp only[i_RegOk_is,Option.bind_some]
 cases h:regB r with
 |false=>rfl
 |true=>
  have hr:=regB_iff.1 h
  have k1:r.1.length*254<=6*254:=Nat.mul_le_mul_right _ hr.v6
  have h1:=flat_len (ver_len hr)
  have h2:=flat_len (l:=r.2.1) (f:=varText) (m:=9) (fun x _=>varText_len x)
  have h4:=varText_len (r.1.length:Int)
  have h5:=varText_len (r.2.2.length:Int)
  have k3:=hr.a3
  simp only[Bool.not_true,cond_false,i_Var_is,Option.bind_some,s13_is hr _ h4,if_true]
  rw[s23_is hr _ (by simp only[List.length_append];omega)]
  simp only[Option.bind_some]
  rw[gl (by simp only[List.length_append];omega),cond_true,s35_is hr _ (by simp only[List.length_append];omega)]
  simp only[Option.bind_some,regT,List.append_assoc]
theorem text_is (b t:Bs) (h:b.length<=10000):i_scan_text (sizedT b++t,false)=some (b,t,false):=by
 unfold i_scan_text sizedT
 rw[List.append_assoc,scan_num_is,num_var2 (by omega) (by omega)]
 simp only[Option.bind_some,cut_is]
theorem many_is {n:Nat} (h:n<=6) (t:Bs):i_scan_many ((varText (n:Int)++t,false),6)=some ((n:Int),t,false):=by
 unfold i_scan_many
 rw[scan_num_is,num_var2 (by omega) (by omega)]
 simp only[Option.bind_some]
 rw[decide_eq_false (by omega)];rfl
theorem i_ReadAnswer_is {a:Ans} (h:ansB a=true):i_ReadAnswer (ansT a)=some (a,true):=by
 obtain⟨h1,h2,h3,_,h4,h5⟩:=ansB_iff.1 h
 have hs:=i_ShowAnswer_is h
 have e:ansT a=varText a.1++(varText a.2.1++(varText a.2.2.1++(varText a.2.2.2.2.1++(varText a.2.2.2.2.2++a.2.2.2.1)))):=by unfold ansT;simp only[List.append_assoc]
 have hne:ansT a≠[]:=by rw[e];exact varText_ne (by omega) (by omega) _
 unfold i_ReadAnswer
 simp only[scan_num_is,Option.bind_some]
 rw[e,num_var2 (by omega) (by omega)]
 simp only
 rw[num_var2 (by omega) (by omega)]
 simp only
 rw[num_var2 (by omega) (by omega)]
 simp only
 rw[num_var2 (by omega) (by omega)]
 simp only
 rw[num_var2 (by omega) (by omega)]
 rw[<-e]
 obtain⟨a1,a2,a3,a4,a5,a6⟩:=a
 simp only[Bool.not_false,cond_true,decide_eq_false hne,Option.bind_some,hs,decide_true,Bool.not_true,cond_false]
theorem flat_drop {α:Type} {l:List α} {i:Nat} (h:i<l.length) (f:α->Bs):(l.drop i).flatMap f=f l[i]++(l.drop (i+1)).flatMap f:=by
 rw[List.drop_eq_getElem_cons h,List.flatMap_cons]
theorem r13_is {r:RegT} (hr:RegP r) (t:Bs):iter i_ReadReg_L13 FUEL ((r.1.flatMap verT++t,false),(([],[],[]):RegT),(r.1.length:Int),0)=some ((t,false),(r.1,[],[])):=by
 have h6:=hr.v6
 have e:=iter_run (S:=i_ReadReg_L13) (fun i=>(((r.1.drop i).flatMap verT++t,false),((r.1.take i,[],[]):RegT),(r.1.length:Int),(i:Int))) r.1.length ((t,false),(r.1,[],[])) (by omega) (fun go i hi=>by
  have hat:=List.getElem?_eq_getElem hi
  obtain⟨g1,_,g3,g4,g5,_⟩:=hr.ver i _ hat
  have hl:=rc_len g1
  unfold i_ReadReg_L13
  simp only[decN]
  rw[decide_eq_true hi,cond_true,flat_drop hi]
  have e1:verT r.1[i]++(r.1.drop (i+1)).flatMap verT++t=[UInt8.ofNat (r.1[i]).2.2.toNat]++(sizedT (r.1[i]).1++((r.1.drop (i+1)).flatMap verT++t)):=by
   unfold verT;simp only[List.append_assoc]
  rw[e1,byte_is (by omega) (by omega)]
  simp only[Option.bind_some]
  rw[text_is _ _ (by omega)]
  simp only[Option.bind_some,i_sha_is (show(r.1[i]).1.length<=1000 by omega)]
  rw[decide_eq_true (by rw[List.length_take];omega),cond_true,wSucc (by omega),<-g3,List.take_succ_eq_append_getElem hi]) (fun go=>by
  unfold i_ReadReg_L13
  simp)
 simpa using e
theorem r27_is {r:RegT} (hr:RegP r) (t:Bs):iter i_ReadReg_L27 FUEL ((r.2.1.flatMap varText++t,false),((r.1,[],[]):RegT),0)=some ((t,false),(r.1,r.2.1,[])):=by
 have h3:=hr.a3
 have h6:=hr.v6
 have e:=iter_run (S:=i_ReadReg_L27) (fun i=>(((r.2.1.drop i).flatMap varText++t,false),((r.1,r.2.1.take i,[]):RegT),(i:Int))) 3 ((t,false),(r.1,r.2.1,[])) (by omega) (fun go i hi=>by
  have hi':i<r.2.1.length:=by omega
  have hm:=hr.act _ (List.getElem_mem hi')
  unfold i_ReadReg_L27
  simp only
  rw[decide_eq_true (show(i:Int)<3 by omega),cond_true,flat_drop hi',List.append_assoc,scan_num_is,num_var2 (by omega) (by omega)]
  simp only[Option.bind_some]
  rw[decide_eq_true (by rw[List.length_take];omega),cond_true,wSucc (by omega),List.take_succ_eq_append_getElem hi']) (fun go=>by
  unfold i_ReadReg_L27
  simp only
  rw[decide_eq_false (by decide),cond_false,List.drop_eq_nil_of_le (by omega),List.take_of_length_le (by omega)]
  rfl)
 simpa using e
theorem r39_is {r:RegT} (hr:RegP r):iter i_ReadReg_L39 FUEL ((r.2.2.flatMap sesT,false),((r.1,r.2.1,[]):RegT),(r.2.2.length:Int),0)=some (([],false),r):=by
 have h6:=hr.s6
 have e:=iter_run (S:=i_ReadReg_L39) (fun i=>(((r.2.2.drop i).flatMap sesT,false),((r.1,r.2.1,r.2.2.take i):RegT),(r.2.2.length:Int),(i:Int))) r.2.2.length (([],false),r) (by omega) (fun go i hi=>by
  have hat:=List.getElem?_eq_getElem hi
  obtain⟨g1,g2,hB,_⟩:=ses_at hr.ses hat
  have hl0:=ansT_len hB
  unfold i_ReadReg_L39
  simp only[decN]
  rw[decide_eq_true hi,cond_true,flat_drop hi]
  have e1:sesT r.2.2[i]++(r.2.2.drop (i+1)).flatMap sesT=varText (r.2.2[i]).1++(varText (r.2.2[i]).2.1++(sizedT (ansT (r.2.2[i]).2.2)++(r.2.2.drop (i+1)).flatMap sesT)):=by
   unfold sesT;simp only[List.append_assoc]
  rw[e1,scan_num_is,num_var2 (by omega) (by omega)]
  simp only[Option.bind_some]
  rw[scan_num_is,num_var2 (by omega) (by omega)]
  simp only[Option.bind_some]
  rw[text_is _ _ (by omega)]
  simp only[Option.bind_some,i_ReadAnswer_is hB]
  rw[decide_eq_true (by rw[List.length_take];omega),cond_true,wSucc (by omega),List.take_succ_eq_append_getElem hi]) (fun go=>by
  unfold i_ReadReg_L39
  simp)
 simpa using e
theorem i_ReadReg_is {r:RegT} (hr:RegP r):i_ReadReg (regT r)=some (r,true):=by
 have h6:=hr.v6
 have hs6:=hr.s6
 have e:regT r=varText (r.1.length:Int)++(r.1.flatMap verT++(r.2.1.flatMap varText++(varText (r.2.2.length:Int)++r.2.2.flatMap sesT))):=by unfold regT;simp only[List.append_assoc]
 have hne:regT r≠[]:=by rw[e];exact varText_ne (by omega) (by omega) _
 have hB:=regB_iff.2 hr
 unfold i_ReadReg
 rw[e,many_is h6]
 simp only[Option.bind_some,r13_is hr,r27_is hr]
 rw[many_is hs6]
 simp only[Option.bind_some,r39_is hr,i_ShowReg_is,hB,if_true]
 rw[<-e]
 simp only[Bool.not_false,cond_true,decide_eq_false hne,Option.bind_some,decide_true,Bool.not_true,cond_false]
theorem i_ReadReg_nil:∃x,i_ReadReg []=some (x,false):=by
 have hn:∀l:Bs,numP (l,true)=(0,l,true):=fun l=>by unfold numP;simp
 have h0:numP (([]:Bs),false)=(0,[],true):=by
  unfold numP
  have:(rv []).2=0:=by have:=rv_le [];have:=rv_pos [];simp only[List.length_nil] at *;omega
  simp[this]
 have e13:iter i_ReadReg_L13 FUEL ((([]:Bs),true),(([],[],[]):RegT),0,0)=some ((([]:Bs),true),(([],[],[]):RegT)):=iter_run (S:=i_ReadReg_L13) (fun i=>((([]:Bs),true),(([],[],[]):RegT),0,(i:Int))) 0 _ (by omega) (fun go i hi=>by omega) (fun go=>by unfold i_ReadReg_L13;simp)
 have e27:iter i_ReadReg_L27 FUEL ((([]:Bs),true),(([],[],[]):RegT),0)=some ((([]:Bs),true),(([],List.replicate 3 0,[]):RegT)):=iter_run (S:=i_ReadReg_L27) (fun i=>((([]:Bs),true),(([],List.replicate i 0,[]):RegT),(i:Int))) 3 _ (by omega) (fun go i hi=>by
  unfold i_ReadReg_L27
  simp only[scan_num_is,hn,Option.bind_some]
  rw[decide_eq_true (show(i:Int)<3 by omega),cond_true,decide_eq_true (by simp;omega),cond_true,wSucc (by omega),List.replicate_succ']) (fun go=>by unfold i_ReadReg_L27;simp)
 have e39:iter i_ReadReg_L39 FUEL ((([]:Bs),true),(([],List.replicate 3 0,[]):RegT),0,0)=some ((([]:Bs),true),(([],List.replicate 3 0,[]):RegT)):=iter_run (S:=i_ReadReg_L39) (fun i=>((([]:Bs),true),(([],List.replicate 3 0,[]):RegT),0,(i:Int))) 0 _ (by omega) (fun go i hi=>by omega) (fun go=>by unfold i_ReadReg_L39;simp)
 unfold i_ReadReg i_scan_many
 simp only[scan_num_is,h0,Option.bind_some]
 rw[decide_eq_false (show ¬ (6:Int)<0 by decide)]
 simp only[cond_false,cond_true,Option.bind_some,e13,e27,hn]
 rw[decide_eq_false (show ¬ (6:Int)<0 by decide)]
 simp only[cond_false,cond_true,Option.bind_some,e39,Bool.not_true]
 exact⟨_,rfl⟩
end Go.Proofs.YtacbkfginiknaaaDoor
