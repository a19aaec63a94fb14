/- The plain law: rows are counted, copied and held against each other. -/
import Derived.Test.YtibidhcmenljoaaDoorPFold
namespace Go.Proofs.YtibidhcmenljoaaDoor
open Go Go.Proofs.YtibidhcmenljoaaDoor.V
/-- A loop that takes what a row's things need off a measure. -/
theorem sz_loop {α : Type} {S : (List α × Int × Int → Option (Int ⊕ Int)) → List α × Int × Int → Option (Int ⊕ Int)} {l : List α} (sz : α → Nat) (hl : l.length ≤ 1048576)
    (h1 : ∀ go i (left : Int) (hi : i < l.length), 0 ≤ left → left ≤ 1048576 → S go (l, left, (i : Int)) = if left - (sz l[i] : Int) < 0 then some (.inr (-1)) else go (l, left - (sz l[i] : Int), ((i + 1 : Nat) : Int)))
    (h2 : ∀ go (left : Int), S go (l, left, (l.length : Int)) = some (.inl left)) {left : Int} (h0 : 0 ≤ left) (hle : left ≤ 1048576) :
    ∃ y, iter S FUEL (l, left, 0) = some y ∧ (y = .inr (-1) ∨ ∃ n, y = .inl n ∧ 0 ≤ n ∧ n ≤ left ∧ ∀ x ∈ l, (sz x : Int) ≤ left) := by
  have key : ∀ (k f i : Nat) (left : Int), l.length - i = k → i ≤ l.length → k < f → 0 ≤ left → left ≤ 1048576 →
      ∃ y, iter S f (l, left, (i : Int)) = some y ∧ (y = .inr (-1) ∨ ∃ n, y = .inl n ∧ 0 ≤ n ∧ n ≤ left ∧ ∀ x ∈ l.drop i, (sz x : Int) ≤ left) := by
    intro k
    induction k with
    | zero =>
      intro f i left hk hi hf q0 q1
      obtain ⟨f, rfl⟩ : ∃ g, f = g + 1 := ⟨f - 1, by omega⟩
      have : i = l.length := by omega
      subst this
      exact ⟨_, h2 _ _, .inr ⟨left, rfl, q0, Int.le_refl _, fun x hx => by simp at hx⟩⟩
    | succ k ih =>
      intro f i left hk hi hf q0 q1
      obtain ⟨f, rfl⟩ : ∃ g, f = g + 1 := ⟨f - 1, by omega⟩
      have hi' : i < l.length := by omega
      have e : iter S (f + 1) (l, left, (i : Int)) = S (iter S f) (l, left, (i : Int)) := rfl
      rw [e, h1 _ i left hi' q0 q1]
      by_cases hn : left - (sz l[i] : Int) < 0
      · rw [if_pos hn]; exact ⟨_, rfl, .inl rfl⟩
      · rw [if_neg hn]
        obtain ⟨y, hy, hh⟩ := ih f (i + 1) (left - (sz l[i] : Int)) (by omega) (by omega) (by omega) (by omega) (by omega)
        refine ⟨y, hy, hh.imp id fun ⟨n, g1, g2, g3, g4⟩ => ⟨n, g1, g2, by omega, fun x hx => ?_⟩⟩
        rw [List.drop_eq_getElem_cons hi'] at hx
        rcases List.mem_cons.1 hx with rfl | hx
        · omega
        · have := g4 x hx; omega
  have := key l.length FUEL 0 left (by omega) (by omega) (fuel_lt (by omega)) h0 hle
  simpa using this
theorem set_fill {α : Type} {l : List α} {z : α} {i : Nat} (h : i < l.length) : (l.take i ++ List.replicate (l.length - i) z).set i l[i] = l.take (i + 1) ++ List.replicate (l.length - (i + 1)) z := by
  have hl : (l.take i).length = i := by rw [List.length_take]; omega
  rw [List.set_append_right _ _ (Nat.le_of_eq hl), hl, Nat.sub_self, show l.length - i = (l.length - (i + 1)) + 1 by omega, List.replicate_succ, List.set_cons_zero, List.take_succ_eq_append_getElem h, List.append_assoc]
  rfl
/-- A loop that copies a row. -/
theorem to_loop {α : Type} {S : (List α × List α × Int → Option (List α)) → List α × List α × Int → Option (List α)} {l : List α} (z : α) (hl : l.length ≤ 1048576)
    (h1 : ∀ go i (o : List α) (hi : i < l.length), i < o.length → S go (l, o, (i : Int)) = go (l, o.set i l[i], ((i + 1 : Nat) : Int)))
    (h2 : ∀ go (o : List α), S go (l, o, (l.length : Int)) = some o) : iter S FUEL (l, List.replicate l.length z, 0) = some l := by
  have e := iter_sum (S := S) (σ := Unit) (fun i _ => (l, l.take i ++ List.replicate (l.length - i) z, (i : Int))) l.length (fun _ s => s) (fun _ _ => True) (fun _ => l) (by omega) (fun go i _ hi _ => by
    refine ⟨?_, trivial⟩
    have hlen : (l.take i).length = i := by rw [List.length_take]; omega
    rw [h1 go i _ hi (by rw [List.length_append, hlen, List.length_replicate]; omega), set_fill hi]) (fun go _ _ => by
    rw [h2]
    simp) () trivial
  simpa using e.1
/-- A loop that holds a row against itself. -/
theorem eq_loop {α : Type} {S : (List α × List α × Int → Option (PUnit ⊕ Bool)) → List α × List α × Int → Option (PUnit ⊕ Bool)} {l : List α} (hl : l.length ≤ 1048576)
    (h1 : ∀ go i, i < l.length → S go (l, l, (i : Int)) = go (l, l, ((i + 1 : Nat) : Int))) (h2 : ∀ go, S go (l, l, (l.length : Int)) = some (.inl ())) : iter S FUEL (l, l, 0) = some (.inl ()) := by
  have e := iter_run (S := S) (fun i => (l, l, (i : Int))) l.length (.inl ()) (by omega) h1 h2
  simpa using e
-- ---------------------------------------------------------------- entries
theorem szEntryS_is {es : List Ent} {l : Int} (h1 : es.length ≤ maxLen) (h2 : ∀ e ∈ es, e.2.length ≤ maxLen) (h3 : 0 ≤ l) (h4 : l ≤ 1048576) :
    ∃ n, w_szEntryS (es, l) = some n ∧ n ≤ 1048576 ∧ (0 ≤ n → es.length ≤ 1048576 ∧ ∀ e ∈ es, e.2.length ≤ 1048576) := by
  have hM : maxLen ≤ 9223372036854775807 := by decide
  unfold w_szEntryS
  simp only
  rw [w64 (by omega) (by omega)]
  by_cases hn : l - (es.length : Int) < 0
  · rw [decide_eq_true hn]; exact ⟨-1, rfl, by omega, fun h => by omega⟩
  · rw [decide_eq_false hn, cond_false]
    obtain ⟨y, hy, hh⟩ := sz_loop (S := w_szEntryS_L13) (l := es) (fun e => e.2.length) (by omega) (fun go i left hi q0 q1 => by
      have hm := h2 es[i] (List.getElem_mem hi)
      unfold w_szEntryS_L13
      simp only [decN, Int.toNat_natCast, nnN, cond_true]
      rw [decide_eq_true hi, cond_true, List.getElem?_eq_getElem hi, Option.bind_some, wSucc (by omega)]
      unfold w_szEntry
      simp only
      rw [w64 (by omega) (by omega)]
      by_cases hq : left - (es[i].2.length : Int) < 0
      · rw [decide_eq_true hq, if_pos hq]; rfl
      · rw [decide_eq_false hq, if_neg hq, cond_false, Option.bind_some, decide_eq_false hq, cond_false]) (fun go left => by
      unfold w_szEntryS_L13
      simp) (left := l - (es.length : Int)) (by omega) (by omega)
    rw [hy, Option.bind_some]
    rcases hh with rfl | ⟨n, rfl, g1, g2, g3⟩
    · exact ⟨-1, rfl, by omega, fun h => by omega⟩
    · exact ⟨n, rfl, by omega, fun _ => ⟨by omega, fun e he => by have := g3 e he; omega⟩⟩
theorem nn_le (n : Nat) (h : n ≤ 1048576) : (decide ((0 : Int) ≤ (n : Int)) && decide ((n : Int) ≤ (n : Int)) && decide ((n : Int) ≤ 4294967296)) = true := by
  rw [decide_eq_true (by omega), decide_eq_true (by omega), decide_eq_true (by omega)]; rfl
theorem toEntryS_is {es : List Ent} (h : es.length ≤ 1048576) : w_toEntryS es = some es := by
  unfold w_toEntryS
  rw [nn_le _ h, cond_true, Int.toNat_natCast, to_loop (S := w_toEntryS_L9) ((0, []) : Ent) h (fun go i o hi ho => by
    unfold w_toEntryS_L9 w_toEntry
    simp only [decN, Int.toNat_natCast, nnN, cond_true]
    rw [decide_eq_true hi, cond_true, List.getElem?_eq_getElem hi, List.getElem?_eq_getElem ho, wSucc (by omega)]
    rfl) (fun go o => by
    unfold w_toEntryS_L9
    simp)]
  rfl
theorem eqEntryS_refl {es : List Ent} (h : es.length ≤ 1048576) : w_eqEntryS (es, es) = some true := by
  unfold w_eqEntryS
  simp only [decide_true, Bool.not_true, cond_false]
  rw [eq_loop (S := w_eqEntryS_L11) h (fun go i hi => by
    unfold w_eqEntryS_L11 w_eqEntry
    simp only [decN, Int.toNat_natCast, nnN, cond_true]
    rw [decide_eq_true hi, cond_true, List.getElem?_eq_getElem hi, wSucc (by omega)]
    simp) (fun go => by
    unfold w_eqEntryS_L11
    simp)]
  rfl
end Go.Proofs.YtibidhcmenljoaaDoor
