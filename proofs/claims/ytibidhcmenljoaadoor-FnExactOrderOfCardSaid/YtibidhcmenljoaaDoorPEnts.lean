/- The plain law: entries are counted, copied, held against each other, and marked. -/
import Derived.Test.YtibidhcmenljoaaDoorPRegX
import Derived.Test.YtibidhcmenljoaaDoorPFold
namespace Go.Proofs.YtibidhcmenljoaaDoor
open Go Go.Proofs.YtibidhcmenljoaaDoor.V
theorem szEntryS_is {es:List Ent} {l:Int} (h1:es.length<=maxLen) (h2:∀e∈es,e.2.length<=maxLen) (h3:0<=l) (h4:l<=1048576):
  ∃n,w_szEntryS (es,l)=some n/\n<=1048576/\(0<=n->es.length<=1048576/\∀e∈es,e.2.length<=1048576):=by
 have hM:maxLen<=9223372036854775807:=by decide
 unfold w_szEntryS
 simp only
 rw[w64 (by omega) (by omega)]
 by_cases hn:l-(es.length:Int)<0
 ·rw[decide_eq_true hn];exact⟨-1,rfl,by omega,fun h=>by omega⟩
 ·rw[decide_eq_false hn,cond_false]
  obtain⟨y,hy,hh⟩:=sz_loop (S:=w_szEntryS_L13) (l:=es) (fun e=>e.2.length) (by omega) (fun go i left hi q0 q1=>by
   have hm:=h2 es[i] (List.getElem_mem hi)
   unfold w_szEntryS_L13
   simp only[decN,Int.toNat_natCast,nnN,cond_true]
   rw[decide_eq_true hi,cond_true,List.getElem?_eq_getElem hi,Option.bind_some,wSucc (by omega)]
   unfold w_szEntry
   simp only
   rw[w64 (by omega) (by omega)]
   by_cases hq:left-(es[i].2.length:Int)<0
   ·rw[decide_eq_true hq,if_pos hq];rfl
   ·rw[decide_eq_false hq,if_neg hq,cond_false,Option.bind_some,decide_eq_false hq,cond_false]) (fun go left=>by
   unfold w_szEntryS_L13
   simp) (left:=l-(es.length:Int)) (by omega) (by omega)
  rw[hy,Option.bind_some]
  rcases hh with rfl|⟨n,rfl,g1,g2,g3⟩
  ·exact⟨-1,rfl,by omega,fun h=>by omega⟩
  ·exact⟨n,rfl,by omega,fun _=>⟨by omega,fun e he=>by have:=g3 e he;omega⟩⟩
theorem toEntryS_is {es:List Ent} (h:es.length<=1048576):w_toEntryS es=some es:=by
 unfold w_toEntryS
 rw[nn_le _ h,cond_true,Int.toNat_natCast,to_loop (S:=w_toEntryS_L9) ((0,[]):Ent) h (fun go i o hi ho=>by
  unfold w_toEntryS_L9 w_toEntry
  simp only[decN,Int.toNat_natCast,nnN,cond_true]
  rw[decide_eq_true hi,cond_true,List.getElem?_eq_getElem hi,List.getElem?_eq_getElem ho,wSucc (by omega)]
  rfl) (fun go o=>by
  unfold w_toEntryS_L9
  simp)]
 rfl
theorem eqEntryS_refl {es:List Ent} (h:es.length<=1048576):w_eqEntryS (es,es)=some true:=by
 unfold w_eqEntryS
 simp only[decide_true,Bool.not_true,cond_false]
 rw[eq_loop (S:=w_eqEntryS_L11) h (fun go i hi=>by
  unfold w_eqEntryS_L11 w_eqEntry
  simp only[decN,Int.toNat_natCast,nnN,cond_true]
  rw[decide_eq_true hi,cond_true,List.getElem?_eq_getElem hi,wSucc (by omega)]
  simp) (fun go=>by
  unfold w_eqEntryS_L11
  simp)]
 rfl
noncomputable def mE (k:Int) (_:Ent):Ent:=(k,tx (k+1))
theorem markEntryS_is {l:List Ent} (hl:l.length<=1048576):∃k o,w_markEntryS (l,1)=some (k,o)/\0<=k:=by
 obtain⟨o,g1,g2,g3⟩:=mark_loop (S:=w_markEntryS_L7) (k:=1) 2 mE hl (by omega) (by omega) (by omega) (fun go i o k hi ho q0 q1=>by
  unfold w_markEntryS_L7 mE
  simp only[decN,Int.toNat_natCast,nnN,cond_true,decide_eq_true hi]
  rw[w64 (n:=k+1) (by omega) (by omega),w64 (n:=k+1+1) (by omega) (by omega),markText_is (k:=k+1) (by omega) (by omega),wSucc (by omega)]
  simp only[List.getElem?_eq_getElem hi,Option.bind_some,getSet hi,List.set_set]
  rw[show k+1+1=k+2 by omega]
  rfl) (fun go o k=>by
  unfold w_markEntryS_L7
  simp)
 refine⟨1+((2*l.length:Nat):Int),o,?_,by omega⟩
 unfold w_markEntryS
 simp only[g1,Option.bind_some]
end Go.Proofs.YtibidhcmenljoaaDoor
