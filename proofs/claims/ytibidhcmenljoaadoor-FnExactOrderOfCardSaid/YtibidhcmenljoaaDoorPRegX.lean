/- The plain law: registries are counted, copied and held against each other. -/
import Derived.Test.YtibidhcmenljoaaDoorPMark
namespace Go.Proofs.YtibidhcmenljoaaDoor
open Go Go.Proofs.YtibidhcmenljoaaDoor.V
theorem eqAnswer_refl (a:Ans):w_eqAnswer (a,a)=some true:=by simp[w_eqAnswer]
theorem eqReg_refl {r:RegM} (h:Few r):w_eqReg (r,r)=some true:=by
 have e1:w_eqVersionS (r.1,r.1)=some true:=by
  unfold w_eqVersionS
  simp only[decide_true,Bool.not_true,cond_false]
  rw[eq_loop (S:=w_eqVersionS_L11) h.v (fun go i hi=>by
   have:=h.v
   unfold w_eqVersionS_L11 w_eqVersion
   simp only[decN,Int.toNat_natCast,nnN,cond_true]
   rw[decide_eq_true hi,cond_true,List.getElem?_eq_getElem hi,wSucc (by omega)]
   simp) (fun go=>by
   unfold w_eqVersionS_L11
   simp)]
  rfl
 have e2:w_eqIntS (r.2.1,r.2.1)=some true:=by
  unfold w_eqIntS
  simp only[decide_true,Bool.not_true,cond_false]
  rw[eq_loop (S:=w_eqIntS_L11) h.a (fun go i hi=>by
   have:=h.a
   unfold w_eqIntS_L11
   simp only[decN,Int.toNat_natCast,nnN,cond_true]
   rw[decide_eq_true hi,cond_true,List.getElem?_eq_getElem hi,wSucc (by omega)]
   simp) (fun go=>by
   unfold w_eqIntS_L11
   simp)]
  rfl
 have e3:w_eqSessionS (r.2.2,r.2.2)=some true:=by
  unfold w_eqSessionS
  simp only[decide_true,Bool.not_true,cond_false]
  rw[eq_loop (S:=w_eqSessionS_L11) h.s (fun go i hi=>by
   have:=h.s
   unfold w_eqSessionS_L11 w_eqSession
   simp only[decN,Int.toNat_natCast,nnN,cond_true]
   rw[decide_eq_true hi,cond_true,List.getElem?_eq_getElem hi,wSucc (by omega)]
   simp[eqAnswer_refl]) (fun go=>by
   unfold w_eqSessionS_L11
   simp)]
  rfl
 unfold w_eqReg
 simp only[e1,e2,e3,Option.bind_some,Bool.not_true,cond_false]
end Go.Proofs.YtibidhcmenljoaaDoor
