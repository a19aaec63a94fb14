/- The plain law: what is published is looked up under its number. -/
import Derived.Test.YtibidhcmenljoaaDoorPDrawCanon
import Derived.Test.YtibidhcmenljoaaDoorPPub
import Derived.Test.YtibidhcmenljoaaDoorPSame
namespace Go.Proofs.YtibidhcmenljoaaDoor
open Go Go.Proofs.YtibidhcmenljoaaDoor.V
theorem at_ch (x : List Int) (hx : x.length ≤ 1048576) (h : ∀ b ∈ x, 0 ≤ b ∧ b ≤ 255) : ∃ c, w_at (x, 1) = some c ∧ 0 ≤ c.tmod 3 ∧ c.tmod 3 ≤ 2 := by
  have hm : ∀ c : Int, 0 ≤ c → 0 ≤ c.tmod 3 ∧ c.tmod 3 ≤ 2 := fun c hc => ⟨Int.tmod_nonneg _ hc, by have := Int.tmod_lt_of_pos c (show (0 : Int) < 3 by decide); omega⟩
  unfold w_at
  simp only
  by_cases h1 : (1 : Int) < (x.length : Int)
  · rw [decide_eq_true h1, cond_true, decide_eq_true (show (0 : Int) ≤ 1 by decide), cond_true, List.getElem?_eq_getElem (show Int.toNat 1 < x.length by omega), Option.bind_some]
    have hb := h _ (List.getElem_mem (show Int.toNat 1 < x.length by omega))
    rw [w64 (by omega) (by omega)]
    exact ⟨_, rfl, hm _ hb.1⟩
  · rw [decide_eq_false h1, cond_false]
    refine ⟨_, rfl, hm _ (Int.tmod_nonneg _ ?_)⟩
    rw [w64 (n := 1 * 37) (by omega) (by omega), w64 (n := (x.length : Int) * 11) (by omega) (by omega), w64 (by omega) (by omega)]; omega
theorem law6 (x : List Int) (hb : ∀ b ∈ x, 0 ≤ b ∧ b ≤ 255) : w_FnPublished x = some true := by
  unfold w_FnPublished w_big
  simp only [Option.bind_some]
  refine (?_ : (bif decide (1048576 < (x.length : Int)) then some true else _) = some true)
  by_cases hbig : 1048576 < (x.length : Int)
  · rw [decide_eq_true hbig]; rfl
  · rw [decide_eq_false hbig, cond_false]
    obtain ⟨⟨r, o⟩, hz⟩ := drawRegDo_tot x (by omega)
    obtain ⟨⟨v, u⟩, hv⟩ := drawCanon_tot x (by omega)
    simp only [hz, hv, Option.bind_some, s_RegOk_is, s_VocabOk_is, i_Canon_is]
    cases hr : regB r with
    | false => rfl
    | true =>
      cases hk : vok v with
      | false => rfl
      | true =>
        have hR := regB_iff.1 hr
        have hrc := canon_rc hk
        have hbl := rc_len hrc
        have hsha : s_Digest (v, u) = some (sha (canon v)) := by
          unfold s_Digest
          simp only [s_VocabOk_is, hk, Option.bind_some, Bool.not_true, cond_false, s_Canon_is, s_sha_is (show (canon v).length ≤ 1000 by omega)]
        simp only [Bool.not_true, Bool.not_false, cond_true, cond_false, Option.bind_some, hsha, RegDo_is, hr, if_true]
        generalize hp : doP r (1, 0, 0, canon v) = p
        obtain ⟨a, y⟩ := p
        have hF := do_fwd hR (1, 0, 0, canon v)
        rw [hp] at hF
        rcases pub_cases hR hrc hp with ⟨h3, h6, rfl⟩ | ⟨n, w, g1, g2, g3, g4, g5, g6, g7⟩
        · have e6 : (y.1.length : Int) = 6 := by omega
          simp only [h3, e6, decide_true, cond_true, Option.bind_some, sameReg_refl y (by omega) (by have := hR.a3; omega) (by have := hR.s6; omega)]
        · have hY := hF.reg
          have hyB := regB_iff.2 hY
          have ha3 : ¬ a.1 = 3 := by omega
          obtain ⟨a0, rfl⟩ : ∃ a0, a = (a0, (n : Int) + 1, w.2.2, w.2.1, (w.1.length : Int), 0) := ⟨a.1, g6⟩
          simp only at g5 g7 ha3
          simp only [decide_eq_false ha3, cond_false, hyB, if_true, Option.bind_some, look_at hY g2, pub_there hrc g1, told_at g2, g4, g3, decide_true, Bool.not_true, Bool.not_false, cond_true]
          obtain ⟨c, hc, c0, c2⟩ := at_ch x (by omega) hb
          simp only [hc, Option.bind_some]
          generalize hq : doP y (2, c.tmod 3, (n : Int) + 1, []) = q
          obtain ⟨e, z⟩ := q
          have hG := do_fwd hY (2, c.tmod 3, (n : Int) + 1, [])
          rw [hq] at hG
          have hZ := hG.reg
          have hzB := regB_iff.2 hZ
          obtain ⟨k1, k2⟩ := act_cases hY c0 c2 g2 hq
          simp only [hzB, if_true, Option.bind_some]
          by_cases h0 : e.1 = 0
          · obtain ⟨m1, s, m2, m3⟩ := k2 h0
            simp only [look_ch hZ c0 c2 m1 m2, h0, decide_true, Bool.not_true, Bool.not_false, cond_true, cond_false, Option.bind_some, m3]
            cases decide (a0 = 0) <;> rfl
          · have ha0 : ¬ a0 = 0 := fun h => h0 (k1 (g5 h))
            simp only [decide_eq_false h0, decide_eq_false ha0, cond_false, Option.bind_some, Bool.not_false, Bool.not_true]
theorem law6W (x : List Int) (hx : WFs [t46] x) : w_FnPublished x = some true := law6 x fun b hb => by
  have h : (decide (IntKind.u8.min ≤ b) && decide (b ≤ IntKind.u8.max)) = true := hx.1.2 b hb
  have e1 : IntKind.u8.min = 0 := by decide
  have e2 : IntKind.u8.max = 255 := by decide
  rw [e1, e2] at h
  simpa using h
end Go.Proofs.YtibidhcmenljoaaDoor
