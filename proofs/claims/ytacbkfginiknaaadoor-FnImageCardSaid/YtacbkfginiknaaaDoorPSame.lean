/- The plain law: a registry is the same as itself. -/
import Derived.Test.YtacbkfginiknaaaDoorPDo
namespace Go.Proofs.YtacbkfginiknaaaDoor
open Go Go.Proofs.YtacbkfginiknaaaDoor.V
theorem allTrue:∀k i,allFrom (fun _=>true) k i=true:=by
 intro k
 induction k with
 |zero=>intro i;rfl
 |succ k ih=>intro i;simp only[allFrom,ih,Bool.and_self]
theorem iter_all {α:Type} {S:(α->Option (PUnit⊕Bool))->α->Option (PUnit⊕Bool)} (st:Nat->α) (n:Nat) (hn:n<=72057594037927936) (h1:∀go i,i<n->S go (st i)=go (st (i+1))) (h2:∀go,S go (st n)=some (.inl ())):iter S FUEL (st 0)=some (.inl ()):=by
 rw[iter_chk st n (fun _=>true) hn h1 h2,allTrue];rfl
theorem sameInts_refl (l:List Int) (h:l.length<=1000):w_sameInts (l,l)=some true:=by
 have e:iter w_sameInts_L11 FUEL (l,l,0)=some (.inl ()):=iter_all (fun i=>(l,l,(i:Int))) l.length (by omega) (fun go i hi=>by
  unfold w_sameInts_L11
  simp only[decN,Int.toNat_natCast,nnN,cond_true]
  rw[decide_eq_true hi,cond_true,List.getElem?_eq_getElem hi,Option.bind_some,Option.bind_some,wSucc (by omega)]
  simp only[decide_true,Bool.not_true,cond_false]) (fun go=>by unfold w_sameInts_L11;simp)
 unfold w_sameInts
 simp only[decide_true,Bool.not_true,cond_false,e]
 rfl
theorem sameReg_refl (r:RegT) (h1:r.1.length<=1000) (h2:r.2.1.length<=1000) (h3:r.2.2.length<=1000):w_sameReg (r,r)=some true:=by
 have e1:iter w_sameReg_L11 FUEL (r,r,0)=some (.inl ()):=iter_all (fun i=>(r,r,(i:Int))) r.1.length (by omega) (fun go i hi=>by
  unfold w_sameReg_L11
  simp only[decN,Int.toNat_natCast,nnN,cond_true]
  rw[decide_eq_true hi,cond_true,List.getElem?_eq_getElem hi,Option.bind_some,Option.bind_some,wSucc (by omega)]
  simp only[decide_true,Bool.and_self,Bool.not_true,cond_false]) (fun go=>by unfold w_sameReg_L11;simp)
 have e2:iter w_sameReg_L21 FUEL (r,r,0)=some (.inl ()):=iter_all (fun i=>(r,r,(i:Int))) r.2.2.length (by omega) (fun go i hi=>by
  unfold w_sameReg_L21
  simp only[decN,Int.toNat_natCast,nnN,cond_true]
  rw[decide_eq_true hi,cond_true,List.getElem?_eq_getElem hi,Option.bind_some,Option.bind_some,wSucc (by omega)]
  simp only[decide_true,Bool.and_self,Bool.not_true,cond_false]) (fun go=>by unfold w_sameReg_L21;simp)
 unfold w_sameReg
 simp only[decide_true,Bool.not_true,Bool.not_false,cond_true,sameInts_refl _ h2,Option.bind_some,cond_false,e1,e2]
 rfl
end Go.Proofs.YtacbkfginiknaaaDoor
