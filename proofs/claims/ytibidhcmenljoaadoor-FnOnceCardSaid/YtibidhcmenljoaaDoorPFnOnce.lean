/- The plain law: a call that is served twice is done once. -/
import Derived.Test.YtibidhcmenljoaaDoorPDrawServe
import Derived.Test.YtibidhcmenljoaaDoorPServeS
import Derived.Test.YtibidhcmenljoaaDoorPSame
namespace Go.Proofs.YtibidhcmenljoaaDoor
open Go Go.Proofs.YtibidhcmenljoaaDoor.V
theorem same_right {r : RegT} (h : RegP r) : w_sameReg (r, r) = some true := sameReg_refl r (by have := h.v6; omega) (by have := h.a3; omega) (by have := h.s6; omega)
/-- Either nothing turns, or the call is done. -/
theorem serv_cases (r : RegT) (cl se : Int) (o : OpT) (ix : Int) :
    ((servP r cl se o ix).1 = r ∧ (servP r cl se o ix).2.2 = false) ∨
    (inR cl se ix = true ∧ servP r cl se o ix = (((doP r o).2.1, (doP r o).2.2.1, putSes r.2.2 cl (cl, se, setIx (doP r o).1 ix)), setIx (doP r o).1 ix, true)) := by
  unfold servP
  cases hin : inR cl se ix with
  | false => rw [if_pos rfl]; exact .inl ⟨rfl, rfl⟩
  | true =>
    rw [if_neg (by decide)]
    by_cases h1 : se = (lastP r.2.2 cl).1
    · rw [if_pos h1]; exact .inl ⟨rfl, rfl⟩
    · rw [if_neg h1]
      by_cases h2 : se = (lastP r.2.2 cl).1 + 1
      · rw [if_pos h2]; exact .inr ⟨rfl, rfl⟩
      · rw [if_neg h2]; exact .inl ⟨rfl, rfl⟩
theorem serv_again {x : RegT} {cl se ix : Int} {a : Ans} (hl : lastP x.2.2 cl = (se, a)) (hin : inR cl se ix = true) (o : OpT) : servP x cl se o ix = (x, a, false) := by
  unfold servP
  rw [hin, if_neg (by decide), hl]
  simp only [if_true]
theorem serv_late {x : RegT} {cl se ix : Int} {a : Ans} (hl : lastP x.2.2 cl = (se, a)) (o : OpT) : servP x cl (se - 1) o ix = (x, ans0, false) := by
  unfold servP
  cases inR cl (se - 1) ix with
  | false => rw [if_pos rfl]
  | true =>
    rw [if_neg (by decide), hl]
    simp only
    rw [if_neg (by omega), if_neg (by omega)]
theorem law5 (x : List Int) : w_FnOnce x = some true := by
  unfold w_FnOnce w_big
  simp only [Option.bind_some]
  refine (?_ : (bif decide (1048576 < (x.length : Int)) then some true else _) = some true)
  by_cases hb : 1048576 < (x.length : Int)
  · rw [decide_eq_true hb]; rfl
  · rw [decide_eq_false hb, cond_false]
    obtain ⟨⟨r, cl, se, o, ix⟩, hz⟩ := drawServe_tot x (by omega)
    simp only [hz, Option.bind_some, i_Serve_is, s_Serve_is, ServeP]
    cases hr : regB r with
    | false => simp only [s_RegOk_is, hr]; rfl
    | true =>
      have hR := regB_iff.1 hr
      simp only [if_true]
      have hX := serv_right hR cl se o ix
      rcases serv_cases r cl se o ix with ⟨h1, h2⟩ | ⟨hin, hs⟩
      · simp only [h1, h2, decide_true, Bool.not_true, Bool.not_false, cond_true, cond_false, s_RegOk_is, hr, Option.bind_some, same_right hR]
        rfl
      · have hxB := regB_iff.2 hX
        have hin' : 1 ≤ se ∧ se ≤ 1000000 := by
          unfold inR at hin
          simp only [Bool.and_eq_true, decide_eq_true_eq] at hin
          exact hin.1.2
        rw [hs] at hX hxB ⊢
        have hl := lastP_put (l := r.2.2) (c := cl) (s := (cl, se, setIx (doP r o).1 ix)) rfl
        have e1 := serv_again (x := ((doP r o).2.1, (doP r o).2.2.1, putSes r.2.2 cl (cl, se, setIx (doP r o).1 ix))) (ix := ix) hl hin o
        have e2 := serv_late (x := ((doP r o).2.1, (doP r o).2.2.1, putSes r.2.2 cl (cl, se, setIx (doP r o).1 ix))) (ix := ix) hl o
        rw [w64 (n := se - 1) (by omega) (by omega)]
        simp only [hxB, if_true, e1, e2, decide_true, Bool.not_true, Bool.not_false, cond_true, cond_false, Option.bind_some, same_right hX, s_RegOk_is]
        simp [ans0, setIx]
end Go.Proofs.YtibidhcmenljoaaDoor
