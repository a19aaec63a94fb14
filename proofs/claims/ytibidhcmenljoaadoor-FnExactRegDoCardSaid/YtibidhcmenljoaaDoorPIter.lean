/- Loops by the place where they stand: the first place that fits; a sum over the places. -/
import Derived.Test.YtibidhcmenljoaaDoorPReg
namespace Go.Proofs.YtibidhcmenljoaaDoor
open Go Go.Proofs.YtibidhcmenljoaaDoor.V
def sumI {σ : Type} (f : Nat → σ → σ) : Nat → Nat → σ → σ
  | 0, _, s => s
  | k + 1, i, s => sumI f k (i + 1) (f i s)
theorem iter_sum {α β σ : Type} {S : (α → Option β) → α → Option β} (st : Nat → σ → α) (n : Nat) (f : Nat → σ → σ) (I : Nat → σ → Prop) (out : σ → β) (hn : n ≤ 72057594037927936)
    (h1 : ∀ go i s, i < n → I i s → S go (st i s) = go (st (i + 1) (f i s)) ∧ I (i + 1) (f i s)) (h2 : ∀ go s, I n s → S go (st n s) = some (out s)) (s : σ) (h0 : I 0 s) :
    iter S FUEL (st 0 s) = some (out (sumI f n 0 s)) ∧ I n (sumI f n 0 s) := by
  have : ∀ (k fu i : Nat) (s : σ), n - i = k → i ≤ n → I i s → k < fu → iter S fu (st i s) = some (out (sumI f (n - i) i s)) ∧ I n (sumI f (n - i) i s) := by
    intro k
    induction k with
    | zero =>
      intro fu i s hk hi hs hf
      obtain ⟨fu, rfl⟩ : ∃ g, fu = g + 1 := ⟨fu - 1, by omega⟩
      have : i = n := by omega
      subst this
      rw [Nat.sub_self]
      exact ⟨h2 _ _ hs, hs⟩
    | succ k ih =>
      intro fu i s hk hi hs hf
      obtain ⟨fu, rfl⟩ : ∃ g, fu = g + 1 := ⟨fu - 1, by omega⟩
      have e : iter S (fu + 1) (st i s) = S (iter S fu) (st i s) := rfl
      obtain ⟨g1, g2⟩ := h1 (iter S fu) i s (by omega) hs
      rw [e, g1, show n - i = (n - (i + 1)) + 1 by omega, sumI]
      exact ih fu (i + 1) _ (by omega) (by omega) g2 (by omega)
  exact this n FUEL 0 s (by omega) (by omega) h0 (fuel_lt hn)
end Go.Proofs.YtibidhcmenljoaaDoor
