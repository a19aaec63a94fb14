/- The plain law: serving a call: the program's is the reference's. -/
import Derived.Test.YtacbkfginiknaaaDoorPServe
namespace Go.Proofs.YtacbkfginiknaaaDoor
open Go Go.Proofs.YtacbkfginiknaaaDoor.V
theorem i_ses_is {r:RegT} {c:Int} (h:r.2.2.length<=1000):i_Reg_session (r,c)=some (((sesP r.2.2 c).1:Int),(sesP r.2.2 c).2):=by
 have e:iter i_Reg_session_L7 FUEL (c,r.2.2,(r.2.2.length:Int),0)=some (fstS () (fun j=>((j:Int),isAt r.2.2 c j)) (fstI (atLeast r.2.2 c) r.2.2.length 0)):=
  iter_fst (fun i=>(c,r.2.2,(r.2.2.length:Int),(i:Int))) r.2.2.length (atLeast r.2.2 c) () _ (by omega) (fun go i hi=>by
   unfold i_Reg_session_L7 atLeast isAt
   simp only[decN,Int.toNat_natCast,nnN,cond_true]
   rw[decide_eq_true hi,cond_true,List.getElem?_eq_getElem hi,Option.bind_some,wSucc (by omega)]) (fun go=>by unfold i_Reg_session_L7;simp)
 unfold i_Reg_session sesP
 simp only[e,Option.bind_some]
 cases fstI (atLeast r.2.2 c) r.2.2.length 0<;>rfl
theorem i_last_is {r:RegT} {c:Int} (h:r.2.2.length<=1000):i_Reg_last (r,c)=some (lastP r.2.2 c).1:=by
 unfold i_Reg_last lastP
 simp only[i_ses_is h,Option.bind_some]
 cases hb:(sesP r.2.2 c).2 with
 |false=>cases r.2.2[(sesP r.2.2 c).1]?<;>rfl
 |true=>
  obtain⟨s,hs,_⟩:=sesP_has hb
  simp only[cond_true,nnN,Int.toNat_natCast,hs,Option.bind_some]
theorem ins_is {l:List Ses} {k:Nat} {s:Ses} (hk:k<=l.length) (hl:l.length<=1000):g_slices_Insert_impl_Session_impl_Session (l,(k:Int),[s])=some (l.take k++[s]++l.drop k):=by
 have h:insF (l,(k:Int),[s])=some (l.take k++[s]++l.drop k):=by
  unfold insF
  simp only[nnN,decL,Int.toNat_natCast,List.length_singleton,decide_true,Bool.and_true,Bool.true_and]
  rw[decide_eq_true hk,decide_eq_true (show l.length+1<=4294967296 by omega)];rfl
 exact h
theorem i_serve_is {r:RegT} (hr:RegP r) (cl se:Int) (o:OpT) (ix:Int):i_Reg_serve (r,cl,se,o,ix)=some ((servP r cl se o ix).2.1,(servP r cl se o ix).2.2,(servP r cl se o ix).1):=by
 have hs6:=hr.s6
 have hlr:=lastP_range hr cl
 have F:=do_fwd hr o
 have hses:=F.ses
 unfold i_Reg_serve servP
 simp only[in_i,Option.bind_some]
 rw[inR_bif]
 cases hin:inR cl se ix with
 |false=>rfl
 |true=>
  have hin':1<=se:=by
   unfold inR at hin
   simp only[Bool.and_eq_true,decide_eq_true_eq] at hin
   exact hin.1.2.1
  simp only[Bool.not_true,cond_false,i_last_is (show r.2.2.length<=1000 by omega),i_ses_is (show r.2.2.length<=1000 by omega),Option.bind_some,Bool.true_eq_false,if_false]
  by_cases h1:se=(lastP r.2.2 cl).1
  ·rw[decide_eq_true h1,cond_true,if_pos h1]
   simp only[nnN,cond_true,Int.toNat_natCast]
   unfold lastP at h1 ⊢
   cases hg:r.2.2[(sesP r.2.2 cl).1]? with
   |none=>rw[hg] at h1;simp only at h1;omega
   |some s=>
    rw[hg] at h1
    cases hb:(sesP r.2.2 cl).2 with
    |false=>rw[hb] at h1;simp only[cond_false] at h1;omega
    |true=>rfl
  ·rw[decide_eq_false h1,cond_false,if_neg h1,w64 (by omega) (by omega)]
   by_cases h2:se=(lastP r.2.2 cl).1+1
   ·rw[decide_eq_true h2,if_pos h2]
    simp only[Bool.not_true,cond_false,do_is hr,Option.bind_some]
    simp only[hses]
    have hle:=sesP_le r.2.2 cl
    cases hb:(sesP r.2.2 cl).2 with
    |true=>
     obtain⟨s,hs,_⟩:=sesP_has hb
     simp only[cond_true,nnN,Int.toNat_natCast,hs,Option.bind_some]
     unfold putSes
     rw[hb];rfl
    |false=>
     simp only[cond_false]
     rw[ins_is hle (by omega)]
     unfold putSes
     rw[hb];rfl
   ·rw[decide_eq_false h2,if_neg h2];rfl
theorem i_copy_is {r:RegT} (hr:RegP r):i_copyReg r=some r:=by
 have h6:=hr.v6
 have h3:=hr.a3
 have hs:=hr.s6
 unfold i_copyReg i_copyInts
 rw[decide_eq_true (show r.1.length<=4294967296 by omega),cond_true,decide_eq_true (show 0+r.2.1.length<=4294967296 by omega),cond_true,Option.bind_some,decide_eq_true (show r.2.2.length<=4294967296 by omega)]
 rfl
end Go.Proofs.YtacbkfginiknaaaDoor
