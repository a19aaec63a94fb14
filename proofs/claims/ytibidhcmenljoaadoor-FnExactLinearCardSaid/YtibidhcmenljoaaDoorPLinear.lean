/- The plain law: the program's Linear is the reference's. -/
import Derived.Test.YtibidhcmenljoaaDoorPFold
namespace Go.Proofs.YtibidhcmenljoaaDoor
open Go Go.Proofs.YtibidhcmenljoaaDoor.V
instance decOpT : DecidableEq OpT := inferInstance
instance decAns : DecidableEq Ans := inferInstance
instance decTurnT : DecidableEq TurnT := @instDecidableEqProd Int (Int × OpT × Ans) _ (@instDecidableEqProd Int (OpT × Ans) _ (@instDecidableEqProd OpT Ans decOpT decAns))
abbrev DoneT := Int × Int × OpT × Ans × Int × Int
def turnOf (d : DoneT) : TurnT := (d.1, d.2.1, d.2.2.1, d.2.2.2.1)
/-- The second began behind the first's end, and was served ahead of it. -/
def badD (d y : DoneT) : Bool := decide (d.2.2.2.2.2 < y.2.2.2.2.1) && decide (y.2.2.2.1.2.2.2.2.2 ≤ d.2.2.2.1.2.2.2.2.2)
theorem turn_eq (a b : TurnT) : (decide (a.1 = b.1) && (decide (a.2.1 = b.2.1) && (decide (a.2.2.1.1 = b.2.2.1.1) && (decide (a.2.2.1.2.1 = b.2.2.1.2.1) && (decide (a.2.2.1.2.2.1 = b.2.2.1.2.2.1) && decide (a.2.2.1.2.2.2 = b.2.2.1.2.2.2))) &&
    (decide (a.2.2.2.1 = b.2.2.2.1) && (decide (a.2.2.2.2.1 = b.2.2.2.2.1) && (decide (a.2.2.2.2.2.1 = b.2.2.2.2.2.1) && (decide (a.2.2.2.2.2.2.1 = b.2.2.2.2.2.2.1) && (decide (a.2.2.2.2.2.2.2.1 = b.2.2.2.2.2.2.2.1) && decide (a.2.2.2.2.2.2.2.2 = b.2.2.2.2.2.2.2.2))))))))) = decide (a = b) := by
  rw [Bool.eq_iff_iff]
  simp only [Bool.and_eq_true, decide_eq_true_eq, Prod.ext_iff]
/-- The turn is one of these. -/
def hasM (l : List TurnT) (t : TurnT) : Bool := (fstI (fun i => match l[i]? with | some x => decide (t = x) | none => false) l.length 0).isSome
def hasT (l : List TurnT) (d : DoneT) : Bool := hasM l (turnOf d)
theorem containsT_is {l : List TurnT} (t : TurnT) (hl : l.length ≤ 1000000) : g_slices_Contains_impl_Turn_impl_Turn (l, t) = some (hasM l t) := by
  unfold g_slices_Contains_impl_Turn_impl_Turn g_slices_Index_impl_Turn_impl_Turn
  have e := iter_fst (S := g_slices_Index_impl_Turn_impl_Turn_L7) (fun i => (l, t, (l.length : Int), (i : Int))) l.length (fun i => match l[i]? with | some x => decide (t = x) | none => false) () (fun i => (i : Int)) (by omega) (fun go i hi => by
    have hat := List.getElem?_eq_getElem hi
    unfold g_slices_Index_impl_Turn_impl_Turn_L7
    simp only [decN, Int.toNat_natCast, nnN, cond_true]
    rw [decide_eq_true hi, cond_true, hat, Option.bind_some, turn_eq, wSucc (by omega)]) (fun go => by
    unfold g_slices_Index_impl_Turn_impl_Turn_L7
    simp)
  rw [show ((0 : Nat) : Int) = 0 from rfl] at e
  rw [e]
  unfold hasM
  simp only [Option.bind_some]
  cases h : fstI (fun i => match l[i]? with | some x => decide (t = x) | none => false) l.length 0 with
  | none => rfl
  | some j =>
    simp only [fstS, sumK, Option.bind_some, Option.isSome_some, nnN]
theorem chkK {α : Type} (b : Bool) (x : Option (PUnit ⊕ α)) (z : Bool → α) : sumK (chk b) (fun _ => x) (fun y => some (.inr (z y))) = bif b then x else some (.inr (z false)) := by cases b <;> rfl
-- ---------------------------------------------------------------- the program's
def noneBad (l : List DoneT) (f : DoneT → Bool) : Bool := allFrom (fun i => match l[i]? with | some y => !f y | none => true) l.length 0
theorem noneBad_iff {l : List DoneT} {f : DoneT → Bool} : noneBad l f = true ↔ ∀ y ∈ l, f y = false := by
  unfold noneBad
  rw [allFrom_iff]
  constructor
  · intro h y hy
    obtain ⟨i, hi⟩ := List.getElem?_of_mem hy
    have h1 := (List.getElem?_eq_some_iff.1 hi).1
    have h2 := h i (Nat.zero_le _) (by omega)
    rw [hi] at h2
    simpa using h2
  · intro h j _ hj
    have hat := List.getElem?_eq_getElem (show j < l.length by omega)
    simp only [hat, h _ (List.getElem_mem (show j < l.length by omega)), Bool.not_false]
theorem i23_is (d : DoneT) {l : List DoneT} (hl : l.length ≤ 1000000) : iter i_Linear_L23 FUEL (d, l, (l.length : Int), 0) = some (chk (noneBad l (badD d))) := by
  have e := iter_chk (S := i_Linear_L23) (fun i => (d, l, (l.length : Int), (i : Int))) l.length (fun i => match l[i]? with | some y => !badD d y | none => true) (by omega) (fun go i hi => by
    have hat := List.getElem?_eq_getElem hi
    unfold i_Linear_L23
    simp only [decN, Int.toNat_natCast, nnN, cond_true]
    rw [decide_eq_true hi, cond_true, hat, Option.bind_some, bAnd, Option.bind_some, wSucc (by omega)]
    simp only [badD]
    cases (decide (d.2.2.2.2.2 < l[i].2.2.2.2.1) && decide (l[i].2.2.2.1.2.2.2.2.2 ≤ d.2.2.2.1.2.2.2.2.2)) <;> rfl) (fun go => by
    unfold i_Linear_L23
    simp)
  rw [show ((0 : Nat) : Int) = 0 from rfl] at e
  exact e
def allOk (l : List DoneT) (f : DoneT → Bool) : Bool := allFrom (fun i => match l[i]? with | some y => f y | none => true) l.length 0
theorem allOk_iff {l : List DoneT} {f : DoneT → Bool} : allOk l f = true ↔ ∀ y ∈ l, f y = true := by
  have : allOk l f = noneBad l (fun y => !f y) := by
    unfold allOk noneBad
    congr 1
    funext i
    cases l[i]? with
    | none => rfl
    | some y => simp
  rw [this, noneBad_iff]
  simp
theorem i13_is {l : List DoneT} {t : List TurnT} (hl : l.length ≤ 1000000) (ht : t.length ≤ 1000000) : iter i_Linear_L13 FUEL (l, t, l, (l.length : Int), 0) = some (chk (allOk l (fun d => hasT t d && noneBad l (badD d)))) := by
  have e := iter_chk (S := i_Linear_L13) (fun i => (l, t, l, (l.length : Int), (i : Int))) l.length (fun i => match l[i]? with | some d => hasT t d && noneBad l (badD d) | none => true) (by omega) (fun go i hi => by
    have hat := List.getElem?_eq_getElem hi
    unfold i_Linear_L13
    simp only [decN, Int.toNat_natCast, nnN, cond_true]
    rw [decide_eq_true hi, cond_true, hat, Option.bind_some, containsT_is _ ht, Option.bind_some, i23_is _ hl, Option.bind_some, wSucc (by omega)]
    simp only [hasT, turnOf]
    cases hasM t (l[i].1, l[i].2.1, l[i].2.2.1, l[i].2.2.2.1) with
    | false => rfl
    | true =>
      simp only [Bool.not_true, cond_false, Bool.true_and]
      exact chkK _ _ (fun z => z)) (fun go => by
    unfold i_Linear_L13
    simp)
  rw [show ((0 : Nat) : Int) = 0 from rfl] at e
  exact e
-- ---------------------------------------------------------------- the reference's
theorem or_sum (p : Nat → Bool) : ∀ (k i : Nat) (s : Bool), sumI (fun i s => s || p i) k i s = (s || (fstI p k i).isSome) := by
  intro k
  induction k with
  | zero => intro i s; simp [sumI, fstI]
  | succ k ih =>
    intro i s
    rw [sumI, ih, fstI]
    cases p i <;> cases s <;> simp
theorem s23_is {l : List TurnT} (d : DoneT) (hl : l.length ≤ 1000000) : iter s_Linear_L23 FUEL (l, d, false, 0) = some (hasT l d) := by
  have e := iter_sum (S := s_Linear_L23) (fun i (s : Bool) => (l, d, s, (i : Int))) l.length (fun i s => s || (match l[i]? with | some x => decide (turnOf d = x) | none => false)) (fun _ _ => True) (fun s => s) (by omega) (fun go i s hi _ => by
    refine ⟨?_, trivial⟩
    have hat := List.getElem?_eq_getElem hi
    unfold s_Linear_L23
    simp only [decN, Int.toNat_natCast, nnN, cond_true]
    rw [decide_eq_true hi, cond_true, wSucc (by omega)]
    simp only [hat]
    cases s with
    | true => rfl
    | false =>
      simp only [Bool.not_false, cond_true, Option.bind_some, Bool.false_or]
      exact congrArg (fun b => go (l, d, b, ((i + 1 : Nat) : Int))) ((turn_eq l[i] (turnOf d)).trans (decide_eq_decide.2 eq_comm))) (fun go s _ => by
    unfold s_Linear_L23
    simp) false trivial
  have e1 := e.1
  rw [show ((0 : Nat) : Int) = 0 from rfl] at e1
  rw [e1, or_sum]
  rfl
theorem s35_is (d : DoneT) {l : List DoneT} (hl : l.length ≤ 1000000) : iter s_Linear_L35 FUEL (l, d, 0) = some (chk (noneBad l (fun y => badD y d))) := by
  have e := iter_chk (S := s_Linear_L35) (fun i => (l, d, (i : Int))) l.length (fun i => match l[i]? with | some y => !badD y d | none => true) (by omega) (fun go i hi => by
    have hat := List.getElem?_eq_getElem hi
    unfold s_Linear_L35
    simp only [decN, Int.toNat_natCast, nnN, cond_true]
    rw [decide_eq_true hi, cond_true, hat, Option.bind_some, Option.bind_some, bAnd, Option.bind_some, wSucc (by omega)]
    simp only [badD]
    cases (decide (l[i].2.2.2.2.2 < d.2.2.2.2.1) && decide (d.2.2.2.1.2.2.2.2.2 ≤ l[i].2.2.2.1.2.2.2.2.2)) <;> rfl) (fun go => by
    unfold s_Linear_L35
    simp)
  rw [show ((0 : Nat) : Int) = 0 from rfl] at e
  exact e
theorem s13_is {l : List DoneT} {t : List TurnT} (hl : l.length ≤ 1000000) (ht : t.length ≤ 1000000) : iter s_Linear_L13 FUEL (l, t, 0) = some (chk (allOk l (fun d => hasT t d && noneBad l (fun y => badD y d)))) := by
  have e := iter_chk (S := s_Linear_L13) (fun i => (l, t, (i : Int))) l.length (fun i => match l[i]? with | some d => hasT t d && noneBad l (fun y => badD y d) | none => true) (by omega) (fun go i hi => by
    have hat := List.getElem?_eq_getElem hi
    unfold s_Linear_L13
    simp only [decN, Int.toNat_natCast, nnN, cond_true]
    rw [decide_eq_true hi, cond_true, hat, Option.bind_some, s23_is _ ht, Option.bind_some, s35_is _ hl, Option.bind_some, wSucc (by omega)]
    dsimp only
    cases hasT t l[i] with
    | false => rfl
    | true =>
      simp only [Bool.not_true, cond_false, Bool.true_and]
      exact chkK _ _ (fun z => z)) (fun go => by
    unfold s_Linear_L13
    simp)
  rw [show ((0 : Nat) : Int) = 0 from rfl] at e
  exact e
/-- Either way of looking is one. -/
theorem lin_same {l : List DoneT} {t : List TurnT} : allOk l (fun d => hasT t d && noneBad l (fun y => badD y d)) = allOk l (fun d => hasT t d && noneBad l (badD d)) := by
  rw [Bool.eq_iff_iff, allOk_iff, allOk_iff]
  simp only [Bool.and_eq_true, noneBad_iff]
  constructor
  · exact fun h y hy => ⟨(h y hy).1, fun z hz => (h z hz).2 y hy⟩
  · exact fun h y hy => ⟨(h y hy).1, fun z hz => (h z hz).2 y hy⟩
theorem linear_is {l : List DoneT} {es : List Ent} (hd : ∀ e ∈ es, e.2.length ≤ 1000000000) : ∃ b, i_Linear (l, es) = some b ∧ s_Linear (l, es) = some b := by
  unfold i_Linear s_Linear i_OrderOf s_OrderOf
  by_cases h4 : (400 : Int) < (es.length : Int)
  · simp only [decide_eq_true h4, cond_true, Option.bind_some]
    exact ⟨false, rfl, rfl⟩
  · have hl : es.length ≤ 400 := by omega
    simp only [decide_eq_false h4, cond_false]
    rw [i_folded_is (by omega), s_fold_is (Nat.le_refl _) (by omega) hd]
    have hF := (fold_right es es.length).2
    simp only [Option.bind_some, Bool.not_true, Bool.not_false, cond_true]
    by_cases h2 : (200 : Int) < (l.length : Int)
    · rw [decide_eq_true h2]; exact ⟨false, rfl, rfl⟩
    · rw [decide_eq_false h2, cond_false, cond_false, i13_is (by omega) (by omega), s13_is (by omega) (by omega), lin_same]
      generalize allOk l _ = b
      exact ⟨b, by cases b <;> rfl, by cases b <;> rfl⟩
end Go.Proofs.YtibidhcmenljoaaDoor
