/- The plain law: loops that count, copy and hold rows against each other. -/
import Derived.Test.YtibidhcmenljoaaDoorPIter
namespace Go.Proofs.YtibidhcmenljoaaDoor
open Go Go.Proofs.YtibidhcmenljoaaDoor.V
theorem sz_loop {α : Type} {S : (List α × Int × Int → Option (Int ⊕ Int)) → List α × Int × Int → Option (Int ⊕ Int)} {l : List α} (sz : α → Nat) (hl : l.length ≤ 1048576)
    (h1 : ∀ go i (left : Int) (hi : i < l.length), 0 ≤ left → left ≤ 1048576 → S go (l, left, (i : Int)) = if left - (sz l[i] : Int) < 0 then some (.inr (-1)) else go (l, left - (sz l[i] : Int), ((i + 1 : Nat) : Int)))
    (h2 : ∀ go (left : Int), S go (l, left, (l.length : Int)) = some (.inl left)) {left : Int} (h0 : 0 ≤ left) (hle : left ≤ 1048576) :
    ∃ y, iter S FUEL (l, left, 0) = some y ∧ (y = .inr (-1) ∨ ∃ n, y = .inl n ∧ 0 ≤ n ∧ n ≤ left ∧ ∀ x ∈ l, (sz x : Int) ≤ left) := by
  have key : ∀ (k f i : Nat) (left : Int), l.length - i = k → i ≤ l.length → k < f → 0 ≤ left → left ≤ 1048576 →
      ∃ y, iter S f (l, left, (i : Int)) = some y ∧ (y = .inr (-1) ∨ ∃ n, y = .inl n ∧ 0 ≤ n ∧ n ≤ left ∧ ∀ x ∈ l.drop i, (sz x : Int) ≤ left) := by
    intro k
    induction k with
    | zero =>
      intro f i left hk hi hf q0 q1
      obtain ⟨f, rfl⟩ : ∃ g, f = g + 1 := ⟨f - 1, by omega⟩
      have : i = l.length := by omega
      subst this
      exact ⟨_, h2 _ _, .inr ⟨left, rfl, q0, Int.le_refl _, fun x hx => by simp at hx⟩⟩
    | succ k ih =>
      intro f i left hk hi hf q0 q1
      obtain ⟨f, rfl⟩ : ∃ g, f = g + 1 := ⟨f - 1, by omega⟩
      have hi' : i < l.length := by omega
      have e : iter S (f + 1) (l, left, (i : Int)) = S (iter S f) (l, left, (i : Int)) := rfl
      rw [e, h1 _ i left hi' q0 q1]
      by_cases hn : left - (sz l[i] : Int) < 0
      · rw [if_pos hn]; exact ⟨_, rfl, .inl rfl⟩
      · rw [if_neg hn]
        obtain ⟨y, hy, hh⟩ := ih f (i + 1) (left - (sz l[i] : Int)) (by omega) (by omega) (by omega) (by omega) (by omega)
        refine ⟨y, hy, hh.imp id fun ⟨n, g1, g2, g3, g4⟩ => ⟨n, g1, g2, by omega, fun x hx => ?_⟩⟩
        rw [List.drop_eq_getElem_cons hi'] at hx
        rcases List.mem_cons.1 hx with rfl | hx
        · omega
        · have := g4 x hx; omega
  have := key l.length FUEL 0 left (by omega) (by omega) (fuel_lt (by omega)) h0 hle
  simpa using this
theorem set_fill {α : Type} {l : List α} {z : α} {i : Nat} (h : i < l.length) : (l.take i ++ List.replicate (l.length - i) z).set i l[i] = l.take (i + 1) ++ List.replicate (l.length - (i + 1)) z := by
  have hl : (l.take i).length = i := by rw [List.length_take]; omega
  rw [List.set_append_right _ _ (Nat.le_of_eq hl), hl, Nat.sub_self, show l.length - i = (l.length - (i + 1)) + 1 by omega, List.replicate_succ, List.set_cons_zero, List.take_succ_eq_append_getElem h, List.append_assoc]
  rfl
theorem to_loop {α : Type} {S : (List α × List α × Int → Option (List α)) → List α × List α × Int → Option (List α)} {l : List α} (z : α) (hl : l.length ≤ 1048576)
    (h1 : ∀ go i (o : List α) (hi : i < l.length), i < o.length → S go (l, o, (i : Int)) = go (l, o.set i l[i], ((i + 1 : Nat) : Int)))
    (h2 : ∀ go (o : List α), S go (l, o, (l.length : Int)) = some o) : iter S FUEL (l, List.replicate l.length z, 0) = some l := by
  have e := iter_sum (S := S) (σ := Unit) (fun i _ => (l, l.take i ++ List.replicate (l.length - i) z, (i : Int))) l.length (fun _ s => s) (fun _ _ => True) (fun _ => l) (by omega) (fun go i _ hi _ => by
    refine ⟨?_, trivial⟩
    have hlen : (l.take i).length = i := by rw [List.length_take]; omega
    rw [h1 go i _ hi (by rw [List.length_append, hlen, List.length_replicate]; omega), set_fill hi]) (fun go _ _ => by
    rw [h2]
    simp) () trivial
  simpa using e.1
theorem eq_loop {α : Type} {S : (List α × List α × Int → Option (PUnit ⊕ Bool)) → List α × List α × Int → Option (PUnit ⊕ Bool)} {l : List α} (hl : l.length ≤ 1048576)
    (h1 : ∀ go i, i < l.length → S go (l, l, (i : Int)) = go (l, l, ((i + 1 : Nat) : Int))) (h2 : ∀ go, S go (l, l, (l.length : Int)) = some (.inl ())) : iter S FUEL (l, l, 0) = some (.inl ()) := by
  have e := iter_sum (S := S) (σ := Unit) (fun i _ => (l, l, (i : Int))) l.length (fun _ s => s) (fun _ _ => True) (fun _ => .inl ()) (by omega) (fun go i _ hi _ => ⟨h1 go i hi, trivial⟩) (fun go _ _ => h2 go) () trivial
  simpa using e.1
theorem nn_le (n : Nat) (h : n ≤ 1048576) : (decide ((0 : Int) ≤ (n : Int)) && decide ((n : Int) ≤ (n : Int)) && decide ((n : Int) ≤ 4294967296)) = true := by
  rw [decide_eq_true (by omega), decide_eq_true (by omega), decide_eq_true (by omega)]; rfl
end Go.Proofs.YtibidhcmenljoaaDoor
