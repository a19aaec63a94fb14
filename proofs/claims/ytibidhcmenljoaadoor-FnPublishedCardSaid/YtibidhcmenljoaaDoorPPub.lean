/- The plain law: what is published is looked up under its number, with its digest; published again it is there; activated it is what its channel tells. -/
import Derived.Test.YtibidhcmenljoaaDoorPFwd
namespace Go.Proofs.YtibidhcmenljoaaDoor
open Go Go.Proofs.YtibidhcmenljoaaDoor.V
theorem canon_rc {v : List (Int × Int)} (h : vok v = true) : (rc (canon v)).2 = true := by
  have e : canon v = canonOf v := by unfold canon; rw [if_pos h]
  rw [e, (rc_spec (canonOf v)).2.2 v h rfl]
theorem opB_pub {b : Bs} (h : b.length ≤ 244) : opB (1, 0, 0, b) = true := by
  unfold opB
  simp only [if_true, decide_true, Bool.true_and, decide_eq_true_eq]; omega
theorem opB_look {n : Int} (h0 : 1 ≤ n) (h6 : n ≤ 6) : opB (5, 0, n, []) = true := by
  unfold opB
  simp only [show ¬ (5 : Int) = 1 by decide, show ¬ (5 : Int) = 2 by decide, show ¬ ((5 : Int) = 3 ∨ (5 : Int) = 4) by decide, if_false, if_true, decide_true, Bool.true_and, Bool.and_true, Bool.or_eq_true, Bool.and_eq_true, decide_eq_true_eq]; omega
theorem opB_lookc {c : Int} (h0 : 0 ≤ c) (h6 : c ≤ 2) : opB (5, c, 0, []) = true := by
  unfold opB
  simp only [show ¬ (5 : Int) = 1 by decide, show ¬ (5 : Int) = 2 by decide, show ¬ ((5 : Int) = 3 ∨ (5 : Int) = 4) by decide, if_false, if_true, decide_true, Bool.true_and, Bool.or_eq_true, Bool.and_eq_true, decide_eq_true_eq]; omega
theorem opB_act {c n : Int} (h0 : 0 ≤ c) (h2 : c ≤ 2) (h1 : 1 ≤ n) (h6 : n ≤ 6) : opB (2, c, n, []) = true := by
  unfold opB
  simp only [show ¬ (2 : Int) = 1 by decide, if_false, if_true, decide_true, Bool.true_and, Bool.and_eq_true, decide_eq_true_eq]; omega
theorem told_at {l : List Ver} {n : Nat} {v : Ver} (h : l[n]? = some v) (c : Int) : toldP l ((n : Int) + 1) c = (c, (n : Int) + 1, v.2.2, v.2.1, (v.1.length : Int), 0) := by
  unfold toldP
  rw [show ((n : Int) + 1 - 1).toNat = n by omega, h]
theorem pub_there {r : RegT} {b : Bs} (hb : (rc b).2 = true) {n : Nat} (hn : hasN r.1 b = n + 1) : doP r (1, 0, 0, b) = (toldP r.1 ((n : Int) + 1) 2, r) := by
  unfold doP
  rw [if_neg (by rw [opB_pub (rc_len hb)]; decide), if_pos rfl]
  unfold pubP
  rw [if_neg (by rw [hb]; decide), if_pos (by simp only [hn]; omega)]
  simp only [hn]
  rfl
theorem pub_cases {r : RegT} (hr : RegP r) {b : Bs} (hb : (rc b).2 = true) {a : Ans} {x : RegT} (hp : doP r (1, 0, 0, b) = (a, x)) :
    (a.1 = 3 ∧ r.1.length = 6 ∧ x = r) ∨
    ∃ (n : Nat) (v : Ver), hasN x.1 b = n + 1 ∧ x.1[n]? = some v ∧ v.1 = b ∧ v.2.1 = sha b ∧ (a.1 = 0 → v.2.2 = 1) ∧ a = (a.1, (n : Int) + 1, v.2.2, v.2.1, (v.1.length : Int), 0) ∧ (a.1 = 0 ∨ a.1 = 2) := by
  by_cases hh : 0 < hasN r.1 b
  · obtain ⟨v, h1, h2, h3⟩ := hasN_some hh
    obtain ⟨n, hn⟩ : ∃ n, hasN r.1 b = n + 1 := ⟨hasN r.1 b - 1, by omega⟩
    rw [pub_there hb hn] at hp
    rw [hn, Nat.add_sub_cancel] at h1
    obtain ⟨rfl, rfl⟩ := Prod.mk.inj hp
    rw [told_at h1]
    obtain ⟨_, _, g3, _⟩ := hr.ver n v h1
    exact .inr ⟨n, v, hn, h1, h2, by rw [g3, h2], fun h => (by cases h), rfl, .inr rfl⟩
  · have h0 : hasN r.1 b = 0 := by omega
    have hno := hasN_zero.1 h0
    unfold doP at hp
    rw [if_neg (by rw [opB_pub (rc_len hb)]; decide), if_pos rfl] at hp
    unfold pubP at hp
    rw [if_neg (by rw [hb]; decide), if_neg (by simp only [h0]; omega)] at hp
    by_cases h6 : r.1.length = 6
    · rw [if_pos h6] at hp
      obtain ⟨rfl, rfl⟩ := Prod.mk.inj hp
      exact .inl ⟨rfl, h6, rfl⟩
    · rw [if_neg h6] at hp
      obtain ⟨rfl, rfl⟩ := Prod.mk.inj hp
      have hg : (r.1 ++ [(b, sha b, (1 : Int))])[r.1.length]? = some (b, sha b, 1) := by
        rw [List.getElem?_append_right (Nat.le_refl _), Nat.sub_self]; rfl
      rw [told_at hg]
      refine .inr ⟨r.1.length, (b, sha b, 1), (hasN_at hg rfl).2 fun j y hj hy => ?_, hg, rfl, rfl, fun _ => rfl, rfl, .inl rfl⟩
      rw [List.getElem?_append_left hj] at hy
      exact hno y (List.mem_of_getElem? hy)
theorem look_at {x : RegT} (hx : RegP x) {n : Nat} {v : Ver} (h : x.1[n]? = some v) : doP x (5, 0, (n : Int) + 1, []) = ((0, (n : Int) + 1, v.2.2, v.2.1, (v.1.length : Int), 0), x) := by
  have h6 := hx.v6
  have hl := (List.getElem?_eq_some_iff.1 h).1
  unfold doP
  rw [if_neg (by rw [opB_look (by omega) (by omega)]; decide), if_neg (by simp), if_pos rfl]
  unfold lookP
  simp only
  rw [if_neg (show ¬ ((n : Int) + 1 = 0) by omega), if_pos ⟨by omega, by omega⟩, told_at h]
theorem look_ch {x : RegT} (hx : RegP x) {c : Int} (h0 : 0 ≤ c) (h2 : c ≤ 2) {n : Nat} (ha : x.2.1[c.toNat]? = some ((n : Int) + 1)) {v : Ver} (h : x.1[n]? = some v) : doP x (5, c, 0, []) = ((0, (n : Int) + 1, v.2.2, v.2.1, (v.1.length : Int), 0), x) := by
  have h6 := hx.v6
  have hl := (List.getElem?_eq_some_iff.1 h).1
  unfold doP
  rw [if_neg (by rw [opB_lookc h0 h2]; decide), if_neg (by simp), if_pos rfl]
  unfold lookP
  simp only [ha, if_true, Option.getD_some]
  rw [if_pos ⟨by omega, by omega⟩, told_at h]
/-- What activating does. -/
theorem act_cases {x : RegT} (hx : RegP x) {c : Int} (h0 : 0 ≤ c) (h2 : c ≤ 2) {n : Nat} {v : Ver} (h : x.1[n]? = some v) {a : Ans} {z : RegT} (hp : doP x (2, c, (n : Int) + 1, []) = (a, z)) :
    (v.2.2 = 1 → a.1 = 0) ∧ (a.1 = 0 → z.2.1[c.toNat]? = some ((n : Int) + 1) ∧ ∃ w, z.1[n]? = some w ∧ w.2.2 = 2) := by
  have h6 := hx.v6
  have h3 := hx.a3
  have hl := (List.getElem?_eq_some_iff.1 h).1
  unfold doP at hp
  rw [if_neg (by rw [opB_act h0 h2 (by omega) (by omega)]; decide), if_neg (by simp), if_neg (by simp)] at hp
  unfold turnP at hp
  simp only at hp
  rw [if_neg (by omega), show ((n : Int) + 1 - 1).toNat = n by omega, h] at hp
  simp only [Option.map_some, Option.getD_some] at hp
  cases hw : wantP 2 v.2.2 with
  | false =>
    rw [hw, cond_false, told_at h] at hp
    obtain ⟨rfl, rfl⟩ := Prod.mk.inj hp
    refine ⟨fun hv => ?_, fun h => by cases h⟩
    unfold wantP at hw
    simp [hv] at hw
  | true =>
    rw [hw, cond_true] at hp
    obtain ⟨rfl, rfl⟩ := Prod.mk.inj hp
    have hz : (turnX x (2, c, (n : Int) + 1, [])).2.1[c.toNat]? = some ((n : Int) + 1) := by
      unfold turnX
      simp only [if_true]
      exact List.getElem?_set_self (by omega)
    have hv : ∃ w, (turnX x (2, c, (n : Int) + 1, [])).1[n]? = some w ∧ w.2.2 = 2 := by
      unfold turnX
      simp only [if_true, setSt_get, show ((n : Int) + 1 - 1).toNat = n by omega]
      have hb : ∃ u : Ver, (bif decide (0 < (x.2.1[c.toNat]?).getD 0) then setSt x.1 ((x.2.1[c.toNat]?).getD 0) 3 else x.1)[n]? = some u := by
        cases decide (0 < (x.2.1[c.toNat]?).getD 0) with
        | true => rw [cond_true, setSt_get, h]; exact ⟨_, rfl⟩
        | false => exact ⟨v, h⟩
      obtain ⟨u, hu⟩ := hb
      rw [hu]
      exact ⟨_, rfl, rfl⟩
    obtain ⟨w, hw1, hw2⟩ := hv
    refine ⟨fun _ => ?_, fun _ => ⟨hz, w, hw1, hw2⟩⟩
    rw [told_at hw1]
end Go.Proofs.YtibidhcmenljoaaDoor
