/- The plain law: the reference's calls come back on drawn registries. -/
import Derived.Test.YtibidhcmenljoaaDoorPDo
namespace Go.Proofs.YtibidhcmenljoaaDoor
open Go Go.Proofs.YtibidhcmenljoaaDoor.V
theorem tot_if {α : Type} {p : Prop} [Decidable p] {x y : Option α} {Q : α → Prop} (h : p → Tot x Q) (k : ¬ p → Tot y Q) : Tot (bif decide p then x else y) Q := by
  by_cases hp : p
  · rw [decide_eq_true hp]; exact h hp
  · rw [decide_eq_false hp]; exact k hp
theorem tot_okd {α : Type} {p : Prop} [Decidable p] {x : Option α} {Q : α → Prop} (h : p) (k : Tot x Q) : Tot (bif decide p then x else none) Q := by
  rw [decide_eq_true h]; exact k
structure WD (r : RegT) : Prop where
  v6 : r.1.length ≤ 6
  a3 : r.2.1.length = 3
  act : ∀ a ∈ r.2.1, 0 ≤ a ∧ a ≤ (r.1.length : Int)
  hash : ∀ v ∈ r.1, v.2.1.length ≤ 56
theorem s_OpOk_is (o : OpT) : s_OpOk o = some (opB o) := by
  obtain ⟨k, c, v, b⟩ := o
  unfold s_OpOk opB
  simp only [in_s, Option.bind_some, bAnd, bOr]
  by_cases h1 : k = 1
  · subst h1
    simp only [decide_true, cond_true, if_true, bAnd, Option.some.injEq]
    cases decide ((b.length : Int) ≤ 250) <;> cases decide (v = 0) <;> cases decide (c = 0) <;> rfl
  · rw [decide_eq_false h1, if_neg h1]
    simp only [cond_false]
    by_cases h2 : k = 2
    · subst h2
      simp only [decide_true, cond_true, if_true, Option.some.injEq, Option.bind_some, bAnd]
      cases (decide (1 ≤ v) && decide (v ≤ 6)) <;> cases (decide (0 ≤ c) && decide (c ≤ 2)) <;> cases decide (b = []) <;> rfl
    · rw [decide_eq_false h2, if_neg h2, cond_false]
      by_cases h3 : k = 3
      · subst h3
        simp only [decide_true, cond_true, true_or, if_true, Option.some.injEq, Option.bind_some, bAnd]
        cases (decide (1 ≤ v) && decide (v ≤ 6)) <;> cases decide (c = 0) <;> cases decide (b = []) <;> rfl
      · rw [decide_eq_false h3, cond_false]
        by_cases h4 : k = 4
        · subst h4
          simp only [decide_true, cond_true, or_true, if_true, Option.some.injEq, Option.bind_some, bAnd]
          cases (decide (1 ≤ v) && decide (v ≤ 6)) <;> cases decide (c = 0) <;> cases decide (b = []) <;> rfl
        · rw [decide_eq_false h4, cond_false, if_neg (by omega)]
          by_cases h5 : k = 5
          · subst h5
            simp only [decide_true, cond_true, if_true, Option.some.injEq, Option.bind_some, bAnd, bOr]
            cases (decide (1 ≤ v) && decide (v ≤ 6)) <;> cases decide (c = 0) <;> cases decide (v = 0) <;> cases (decide (0 ≤ c) && decide (c ≤ 2)) <;> cases decide (b = []) <;> rfl
          · rw [decide_eq_false h5, if_neg h5]; simp
theorem WD.set {r : RegT} (hr : WD r) {l : List Ver} {b : List Int} (hl : l.length = r.1.length) (hh : ∀ v ∈ l, v.2.1.length ≤ 56) (hb : b.length = 3) (ha : ∀ a ∈ b, 0 ≤ a ∧ a ≤ (r.1.length : Int)) : WD (l, b, r.2.2) :=
  ⟨by simp only [hl]; exact hr.v6, hb, fun a h => by simp only [hl]; exact ha a h, hh⟩
end Go.Proofs.YtibidhcmenljoaaDoor
