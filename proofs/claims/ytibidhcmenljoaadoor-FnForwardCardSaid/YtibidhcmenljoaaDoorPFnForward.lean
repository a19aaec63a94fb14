/- The plain law: what was published is never changed. -/
import Derived.Test.YtibidhcmenljoaaDoorPDrawReg
import Derived.Test.YtibidhcmenljoaaDoorPFwd
import Derived.Test.YtibidhcmenljoaaDoorPSame
namespace Go.Proofs.YtibidhcmenljoaaDoor
open Go Go.Proofs.YtibidhcmenljoaaDoor.V
theorem fwd_loop {r x : RegT} {a : Ans} (h6 : r.1.length ≤ 6) (F : Fwd r x a) : iter w_FnForward_L23 FUEL (r, x, 0) = some (.inl ()) :=
  iter_all (fun i => (r, x, (i : Int))) r.1.length (by omega) (fun go i hi => by
    obtain ⟨w, e1, e2, e3, e4⟩ := F.fwd i _ (List.getElem?_eq_getElem hi)
    unfold w_FnForward_L23
    simp only [decN, Int.toNat_natCast, nnN, cond_true]
    rw [decide_eq_true hi, cond_true, List.getElem?_eq_getElem hi, e1]
    simp only [Option.bind_some, e2, e3, decide_true, Bool.not_true, Bool.not_false, cond_true]
    rw [decide_eq_false (show ¬ w.2.2 < r.1[i].2.2 by omega), wSucc (by omega)]
    rfl) (fun go => by unfold w_FnForward_L23; simp)
theorem law4 (x : List Int) : w_FnForward x = some true := by
  unfold w_FnForward w_big
  simp only [Option.bind_some]
  refine (?_ : (bif decide (1048576 < (x.length : Int)) then some true else _) = some true)
  by_cases hb : 1048576 < (x.length : Int)
  · rw [decide_eq_true hb]; rfl
  · rw [decide_eq_false hb, cond_false]
    obtain ⟨⟨r, o⟩, hz⟩ := drawRegDo_tot x (by omega)
    simp only [hz, Option.bind_some, RegDo_is, s_RegOk_is]
    cases hr : regB r with
    | false => rfl
    | true =>
      have hR := regB_iff.1 hr
      have F := do_fwd hR o
      have h6 := hR.v6
      have hx := regB_iff.2 F.reg
      simp only [if_true, Bool.not_true, cond_false, hx, Bool.not_false, cond_true, Option.bind_some]
      rw [decide_eq_false (show ¬ (((doP r o).2.1.length : Int) < (r.1.length : Int)) by have := F.len; omega)]
      have hs : (bif !decide ((doP r o).1.1 = 0) then (w_sameReg ((doP r o).2, r)).bind fun x => some !x else some false) = some false := by
        by_cases h0 : (doP r o).1.1 = 0
        · rw [decide_eq_true h0]; rfl
        · rw [decide_eq_false h0, F.same h0, sameReg_refl r (by omega) (by have := hR.a3; omega) (by have := hR.s6; omega)]; rfl
      simp only [Bool.not_false, cond_true, hs, Option.bind_some, F.index, decide_true, Bool.not_true, cond_false, fwd_loop h6 F, sumK]
      rcases F.told with h0 | ⟨t1, t2, v, t3, t4, t5, t6⟩
      · rw [h0]; rfl
      · rw [decide_eq_false (show ¬ (doP r o).1.2.1 = 0 by omega), w64 (by omega) (by omega), decide_eq_true (show 0 ≤ (doP r o).1.2.1 - 1 by omega), t3]
        simp only [Bool.not_false, cond_true, Option.bind_some, t4, t5, t6, decide_true]
end Go.Proofs.YtibidhcmenljoaaDoor
