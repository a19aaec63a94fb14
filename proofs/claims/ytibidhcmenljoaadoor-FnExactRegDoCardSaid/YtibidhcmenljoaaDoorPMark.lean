/- The plain law: rows are marked, and found marked. -/
import Derived.Test.YtibidhcmenljoaaDoorPLoops
namespace Go.Proofs.YtibidhcmenljoaaDoor
open Go Go.Proofs.YtibidhcmenljoaaDoor.V
theorem markText_tot {k : Int} (h0 : 0 ≤ k) (h1 : k ≤ 1000000000000) : ∃ t, w_markText k = some t := by
  have key : ∀ (f : Nat) (n : Nat) (s : List UInt8), n < f → n ≤ 1000000000000 → s.length ≤ 2000000000000 - n → ∃ t, iter w_markText_L11 (f + 1) ((n : Int), s) = some t ∧ t.length ≤ 2000000000000 := by
    intro f
    induction f with
    | zero => intro n s hn; omega
    | succ f ih =>
      intro n s hn hm hs
      have e : iter w_markText_L11 (f + 1 + 1) ((n : Int), s) = w_markText_L11 (iter w_markText_L11 (f + 1)) ((n : Int), s) := rfl
      rw [e]
      unfold w_markText_L11
      simp only
      by_cases hz : (0 : Int) < (n : Int)
      · rw [decide_eq_true hz, cond_true, List.length_map]
        have hlen : ([IntKind.u8.wrap (IntKind.i64.wrap (48 + Int.tmod (n : Int) 10))] : List Int).length = 1 := rfl
        rw [hlen, decide_eq_true (by omega), cond_true]
        have hd : Int.tdiv (n : Int) 10 = ((n / 10 : Nat) : Int) := by
          rw [show (10 : Int) = ((10 : Nat) : Int) from rfl, ← Int.ofNat_tdiv]
        rw [hd, w64 (by omega) (by omega)]
        have hn10 : n / 10 < n := Nat.div_lt_self (by omega) (by omega)
        refine ih (n / 10) _ (by omega) (by omega) ?_
        rw [List.length_append, List.length_map, hlen]
        omega
      · rw [decide_eq_false hz]
        exact ⟨s, rfl, by omega⟩
  unfold w_markText
  by_cases hz : k ≤ 0
  · rw [decide_eq_true hz]; exact ⟨_, rfl⟩
  · rw [decide_eq_false hz, cond_false]
    obtain ⟨n, rfl⟩ : ∃ n : Nat, k = (n : Int) := ⟨k.toNat, by omega⟩
    have hF : FUEL = (FUEL - 1) + 1 := by unfold FUEL; rfl
    obtain ⟨t, ht, hl⟩ := key (FUEL - 1) n [] (by unfold FUEL; omega) (by omega) (by simp)
    rw [hF, ht, Option.bind_some, decide_eq_true (by omega)]
    exact ⟨_, rfl⟩
noncomputable def tx (k : Int) : List UInt8 := (w_markText k).getD []
theorem markText_is {k : Int} (h0 : 0 ≤ k) (h1 : k ≤ 1000000000000) : w_markText k = some (tx k) := by
  obtain ⟨t, ht⟩ := markText_tot h0 h1
  unfold tx
  rw [ht]; rfl
theorem mark_loop {α : Type} {S : (List α × Int × Int → Option (List α × Int)) → List α × Int × Int → Option (List α × Int)} {l : List α} {k : Int} (w : Nat) (m : Int → α → α) (hl : l.length ≤ 1048576) (hw : w ≤ 20) (h0 : 0 ≤ k) (hk : k ≤ 500000000000)
    (h1 : ∀ go i (o : List α) (k : Int) (hi : i < o.length), o.length ≤ 1048576 → 0 ≤ k → k ≤ 900000000000 → S go (o, k, (i : Int)) = go (o.set i (m k o[i]), k + (w : Int), ((i + 1 : Nat) : Int)))
    (h2 : ∀ go (o : List α) (k : Int), S go (o, k, (o.length : Int)) = some (o, k)) :
    ∃ o, iter S FUEL (l, k, 0) = some (o, k + ((w * l.length : Nat) : Int)) ∧ o.length = l.length ∧ ∀ j (h : j < o.length), ∃ x, o[j] = m (k + ((w * j : Nat) : Int)) x := by
  have key : ∀ (d f i : Nat) (o : List α), l.length - i = d → i ≤ l.length → d < f → o.length = l.length → (∀ j (h : j < o.length), j < i → ∃ x, o[j] = m (k + ((w * j : Nat) : Int)) x) →
      ∃ o', iter S f (o, k + ((w * i : Nat) : Int), (i : Int)) = some (o', k + ((w * l.length : Nat) : Int)) ∧ o'.length = l.length ∧ ∀ j (h : j < o'.length), ∃ x, o'[j] = m (k + ((w * j : Nat) : Int)) x := by
    intro d
    induction d with
    | zero =>
      intro f i o hd hi hf ho hm
      obtain ⟨f, rfl⟩ : ∃ g, f = g + 1 := ⟨f - 1, by omega⟩
      have : i = l.length := by omega
      subst this
      refine ⟨o, ?_, ho, fun j h => hm j h (by omega)⟩
      have e : iter S (f + 1) (o, k + ((w * l.length : Nat) : Int), (l.length : Int)) = S (iter S f) (o, k + ((w * l.length : Nat) : Int), (l.length : Int)) := rfl
      rw [e, ← ho, h2]
    | succ d ih =>
      intro f i o hd hi hf ho hm
      obtain ⟨f, rfl⟩ : ∃ g, f = g + 1 := ⟨f - 1, by omega⟩
      have hb : w * i ≤ 20 * 1048576 := Nat.mul_le_mul hw (by omega)
      have e : iter S (f + 1) (o, k + ((w * i : Nat) : Int), (i : Int)) = S (iter S f) (o, k + ((w * i : Nat) : Int), (i : Int)) := rfl
      rw [e, h1 _ i o _ (by omega) (by omega) (by omega) (by omega)]
      have hk2 : k + ((w * i : Nat) : Int) + (w : Int) = k + ((w * (i + 1) : Nat) : Int) := by rw [Nat.mul_add, Nat.mul_one]; omega
      rw [hk2]
      refine ih f (i + 1) _ (by omega) (by omega) (by omega) (by rw [List.length_set]; exact ho) (fun j h hj => ?_)
      by_cases hji : i = j
      · subst hji
        exact ⟨o[i], by rw [List.getElem_set_self]⟩
      · rw [List.getElem_set_ne hji]
        exact hm j (by rw [List.length_set] at h; exact h) (by omega)
  have := key l.length FUEL 0 l (by omega) (by omega) (fuel_lt (by omega)) rfl (fun j _ h => by omega)
  simpa using this
theorem held_loop {α : Type} {S : (List α × Int × Int → Option (Int ⊕ Int)) → List α × Int × Int → Option (Int ⊕ Int)} {o : List α} {k : Int} (w : Nat) (m : Int → α → α) (hl : o.length ≤ 1048576) (hw : w ≤ 20) (h0 : 0 ≤ k) (hk : k ≤ 500000000000)
    (h1 : ∀ go i (k : Int) (x : α), i < o.length → o[i]? = some (m k x) → 0 ≤ k → k ≤ 900000000000 → S go (o, k, (i : Int)) = go (o, k + (w : Int), ((i + 1 : Nat) : Int)))
    (h2 : ∀ go (k : Int), S go (o, k, (o.length : Int)) = some (.inl k)) (hm : ∀ j (h : j < o.length), ∃ x, o[j] = m (k + ((w * j : Nat) : Int)) x) :
    iter S FUEL (o, k, 0) = some (.inl (k + ((w * o.length : Nat) : Int))) := by
  have key : ∀ (d f i : Nat), o.length - i = d → i ≤ o.length → d < f → iter S f (o, k + ((w * i : Nat) : Int), (i : Int)) = some (.inl (k + ((w * o.length : Nat) : Int))) := by
    intro d
    induction d with
    | zero =>
      intro f i hd hi hf
      obtain ⟨f, rfl⟩ : ∃ g, f = g + 1 := ⟨f - 1, by omega⟩
      have : i = o.length := by omega
      subst this
      exact h2 _ _
    | succ d ih =>
      intro f i hd hi hf
      obtain ⟨f, rfl⟩ : ∃ g, f = g + 1 := ⟨f - 1, by omega⟩
      have hb : w * i ≤ 20 * 1048576 := Nat.mul_le_mul hw (by omega)
      have e : iter S (f + 1) (o, k + ((w * i : Nat) : Int), (i : Int)) = S (iter S f) (o, k + ((w * i : Nat) : Int), (i : Int)) := rfl
      obtain ⟨x, hx⟩ := hm i (by omega)
      rw [e, h1 _ i _ x (by omega) (by rw [List.getElem?_eq_getElem (by omega), hx]) (by omega) (by omega)]
      have hk2 : k + ((w * i : Nat) : Int) + (w : Int) = k + ((w * (i + 1) : Nat) : Int) := by rw [Nat.mul_add, Nat.mul_one]; omega
      rw [hk2]
      exact ih f (i + 1) (by omega) (by omega) (by omega)
  have := key o.length FUEL 0 (by omega) (by omega) (fuel_lt (by omega))
  simpa using this
theorem getSet {α : Type} {o : List α} {i : Nat} {v : α} (h : i < o.length) : (o.set i v)[i]? = some v := by rw [List.getElem?_set_self h]
noncomputable def mV (k : Int) (_ : Bs × Bs × Int) : Bs × Bs × Int := (tx k, tx (k + 1), k + 2)
theorem markV_is {l : List (Bs × Bs × Int)} {k : Int} (hl : l.length ≤ 1048576) (h0 : 0 ≤ k) (hk : k ≤ 400000000000) :
    ∃ o, w_markVersionS (l, k) = some (k + ((3 * l.length : Nat) : Int), o) ∧ o.length = l.length ∧ w_heldVersionS (o, k) = some (k + ((3 * l.length : Nat) : Int)) := by
  obtain ⟨o, g1, g2, g3⟩ := mark_loop (S := w_markVersionS_L7) (k := k) 3 mV hl (by omega) h0 (by omega) (fun go i o k hi ho q0 q1 => by
    unfold w_markVersionS_L7 mV
    simp only [decN, Int.toNat_natCast, nnN, cond_true, decide_eq_true hi]
    rw [w64 (n := k + 1) (by omega) (by omega), w64 (n := k + 1 + 1) (by omega) (by omega), w64 (n := k + 1 + 1 + 1) (by omega) (by omega), markText_is q0 (by omega), markText_is (k := k + 1) (by omega) (by omega), wSucc (by omega)]
    simp only [List.getElem?_eq_getElem hi, Option.bind_some, getSet hi, List.set_set]
    rw [show k + 1 + 1 = k + 2 by omega, show k + 2 + 1 = k + 3 by omega]
    rfl) (fun go o k => by
    unfold w_markVersionS_L7
    simp)
  refine ⟨o, ?_, g2, ?_⟩
  · unfold w_markVersionS
    simp only [g1, Option.bind_some]
  · have := held_loop (S := w_heldVersionS_L7) (o := o) (k := k) 3 mV (by omega) (by omega) h0 (by omega) (fun go i k x hi hx q0 q1 => by
      unfold w_heldVersionS_L7
      simp only [decN, Int.toNat_natCast, nnN, cond_true, decide_eq_true hi, hx, Option.bind_some]
      unfold mV
      rw [w64 (n := k + 1) (by omega) (by omega), w64 (n := k + 1 + 1) (by omega) (by omega), w64 (n := k + 1 + 1 + 1) (by omega) (by omega), markText_is q0 (by omega), markText_is (k := k + 1) (by omega) (by omega), wSucc (by omega)]
      simp only [Option.bind_some, decide_true, Bool.not_true, cond_false]
      rw [show k + 1 + 1 = k + 2 by omega, show k + 2 + 1 = k + 3 by omega]
      simp only [decide_true, Bool.not_true, cond_false]
      rfl) (fun go k => by
      unfold w_heldVersionS_L7
      simp) g3
    unfold w_heldVersionS
    simp only [this, g2, Option.bind_some, sumK]
def mI (k : Int) (_ : Int) : Int := k
theorem markI_is {l : List Int} {k : Int} (hl : l.length ≤ 1048576) (h0 : 0 ≤ k) (hk : k ≤ 400000000000) :
    ∃ o, w_markIntS (l, k) = some (k + ((1 * l.length : Nat) : Int), o) ∧ o.length = l.length ∧ w_heldIntS (o, k) = some (k + ((1 * l.length : Nat) : Int)) := by
  obtain ⟨o, g1, g2, g3⟩ := mark_loop (S := w_markIntS_L7) (k := k) 1 mI hl (by omega) h0 (by omega) (fun go i o k hi ho q0 q1 => by
    unfold w_markIntS_L7 mI
    simp only [decN, Int.toNat_natCast, nnN, cond_true, decide_eq_true hi]
    rw [w64 (n := k + 1) (by omega) (by omega), wSucc (by omega)]
    simp only [List.getElem?_eq_getElem hi, Option.bind_some]
    rfl) (fun go o k => by
    unfold w_markIntS_L7
    simp)
  refine ⟨o, ?_, g2, ?_⟩
  · unfold w_markIntS
    simp only [g1, Option.bind_some]
  · have := held_loop (S := w_heldIntS_L7) (o := o) (k := k) 1 mI (by omega) (by omega) h0 (by omega) (fun go i k x hi hx q0 q1 => by
      unfold w_heldIntS_L7
      simp only [decN, Int.toNat_natCast, nnN, cond_true, decide_eq_true hi, hx, Option.bind_some]
      unfold mI
      rw [w64 (n := k + 1) (by omega) (by omega), wSucc (by omega)]
      simp only [decide_true, Bool.not_true, cond_false]
      rfl) (fun go k => by
      unfold w_heldIntS_L7
      simp) g3
    unfold w_heldIntS
    simp only [this, g2, Option.bind_some, sumK]
abbrev SesM := Int × Int × Int × Int × Int × Bs × Int × Int
noncomputable def mS (k : Int) (_ : SesM) : SesM := (k, k + 1, k + 2, k + 3, k + 4, tx (k + 5), k + 6, k + 7)
theorem markS_is {l : List SesM} {k : Int} (hl : l.length ≤ 1048576) (h0 : 0 ≤ k) (hk : k ≤ 400000000000) :
    ∃ o, w_markSessionS (l, k) = some (k + ((8 * l.length : Nat) : Int), o) ∧ o.length = l.length ∧ w_heldSessionS (o, k) = some (k + ((8 * l.length : Nat) : Int)) := by
  have sh : ∀ k : Int, 0 ≤ k → k ≤ 900000000000 → IntKind.i64.wrap (k + 1) = k + 1 ∧ IntKind.i64.wrap (k + 1 + 1) = k + 2 ∧ IntKind.i64.wrap (k + 2 + 1) = k + 3 ∧ IntKind.i64.wrap (k + 3 + 1) = k + 4 ∧ IntKind.i64.wrap (k + 4 + 1) = k + 5 ∧ IntKind.i64.wrap (k + 5 + 1) = k + 6 ∧ IntKind.i64.wrap (k + 6 + 1) = k + 7 ∧ IntKind.i64.wrap (k + 7 + 1) = k + 8 := by
    intro k q0 q1
    refine ⟨?_, ?_, ?_, ?_, ?_, ?_, ?_, ?_⟩ <;> (rw [w64 (by omega) (by omega)]; try omega)
  obtain ⟨o, g1, g2, g3⟩ := mark_loop (S := w_markSessionS_L7) (k := k) 8 mS hl (by omega) h0 (by omega) (fun go i o k hi ho q0 q1 => by
    obtain ⟨a1, a2, a3, a4, a5, a6, a7, a8⟩ := sh k q0 q1
    unfold w_markSessionS_L7 mS
    simp only [decN, Int.toNat_natCast, nnN, cond_true, decide_eq_true hi, a1, a2, a3, a4, a5, a6, a7, a8]
    rw [markText_is (k := k + 5) (by omega) (by omega), wSucc (by omega)]
    simp only [List.getElem?_eq_getElem hi, Option.bind_some, getSet hi, List.set_set]
    rfl) (fun go o k => by
    unfold w_markSessionS_L7
    simp)
  refine ⟨o, ?_, g2, ?_⟩
  · unfold w_markSessionS
    simp only [g1, Option.bind_some]
  · have := held_loop (S := w_heldSessionS_L7) (o := o) (k := k) 8 mS (by omega) (by omega) h0 (by omega) (fun go i k x hi hx q0 q1 => by
      obtain ⟨a1, a2, a3, a4, a5, a6, a7, a8⟩ := sh k q0 q1
      unfold w_heldSessionS_L7
      simp only [decN, Int.toNat_natCast, nnN, cond_true, decide_eq_true hi, hx, Option.bind_some, a1, a2, a3, a4, a5, a6, a7, a8]
      unfold mS
      rw [markText_is (k := k + 5) (by omega) (by omega), wSucc (by omega)]
      simp only [Option.bind_some, decide_true, Bool.not_true, cond_false]
      rfl) (fun go k => by
      unfold w_heldSessionS_L7
      simp) g3
    unfold w_heldSessionS
    simp only [this, g2, Option.bind_some, sumK]
abbrev RegM := List (Bs × Bs × Int) × List Int × List SesM
structure Few (r : RegM) : Prop where
  v : r.1.length ≤ 1048576
  a : r.2.1.length ≤ 1048576
  s : r.2.2.length ≤ 1048576
theorem markReg_is {r : RegM} (h : Few r) : ∃ k o, w_markReg (r, 1) = some (k, o) ∧ 0 ≤ k ∧ w_heldReg (o, 1) = some k := by
  have h1 := h.v
  have h2 := h.a
  have h3 := h.s
  obtain ⟨o1, m1, _, q1⟩ := markV_is (k := 1) h1 (by omega) (by omega)
  obtain ⟨o2, m2, _, q2⟩ := markI_is (k := 1 + ((3 * r.1.length : Nat) : Int)) h2 (by omega) (by omega)
  obtain ⟨o3, m3, _, q3⟩ := markS_is (k := 1 + ((3 * r.1.length : Nat) : Int) + ((1 * r.2.1.length : Nat) : Int)) h3 (by omega) (by omega)
  refine ⟨1 + ((3 * r.1.length : Nat) : Int) + ((1 * r.2.1.length : Nat) : Int) + ((8 * r.2.2.length : Nat) : Int), (o1, o2, o3), ?_, ?_, ?_⟩
  · unfold w_markReg
    simp only [m1, m2, m3, Option.bind_some]
    simp
  · omega
  · unfold w_heldReg
    simp only [q1, q2, q3, Option.bind_some]
    rw [decide_eq_false (by omega), decide_eq_false (by omega), decide_eq_false (by omega)]
    rfl
end Go.Proofs.YtibidhcmenljoaaDoor
