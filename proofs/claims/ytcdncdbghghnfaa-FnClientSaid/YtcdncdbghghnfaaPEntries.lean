/- The plain law: loops over entries. -/
import Derived.Test.YtcdncdbghghnfaaPReadOp
namespace Go.Proofs.Ytcdncdbghghnfaa
open Go Go.Proofs.Ytcdncdbghghnfaa.V
abbrev Ent := Int × List UInt8
theorem dec_lt {j n : Nat} : decide ((j : Int) < (n : Int)) = decide (j < n) := by
  rw [decide_eq_decide]; omega
theorem dec_nn (j : Nat) : decide ((0 : Int) ≤ (j : Int)) = true := by simp
theorem wrap_succ {j : Nat} (h : j < 4611686018427387904) : IntKind.i64.wrap ((j : Int) + 1) = ((j + 1 : Nat) : Int) := by
  rw [w64 (by omega) (by omega)]; omega
-- ---------------------------------------------------------------- sizes
def eqS (a b : List Ent) : PUnit ⊕ Bool := if a = b then .inl () else .inr false
theorem eqS_cons {a b : List Ent} {j : Nat} (h1 : j < a.length) (h2 : j < b.length) : eqS (a.drop j) (b.drop j) = if a[j].1 = b[j].1 ∧ a[j].2 = b[j].2 then eqS (a.drop (j + 1)) (b.drop (j + 1)) else .inr false := by
  rw [List.drop_eq_getElem_cons h1, List.drop_eq_getElem_cons h2]
  unfold eqS
  simp only [List.cons.injEq, Prod.ext_iff]
  by_cases h : a[j].1 = b[j].1 ∧ a[j].2 = b[j].2 <;> simp [h]
def EqG (x : List Ent × List Ent × Int × Int) : Prop := ∃ j : Nat, x.2.2.2 = (j : Int) ∧ x.2.2.1 = (x.1.length : Int) ∧ j ≤ x.1.length ∧ x.1.length ≤ 1048576 ∧ x.2.1.length = x.1.length
theorem eqG_step (go) (x : List Ent × List Ent × Int × Int) (hx : EqG x) (hgo : ∀ y, EqG y → (y.1.length - y.2.2.2.toNat) < (x.1.length - x.2.2.2.toNat) → go y = some (eqS (y.1.drop y.2.2.2.toNat) (y.2.1.drop y.2.2.2.toNat))) :
    g_slices_Equal_impl_Entry_impl_Entry_L11 go x = some (eqS (x.1.drop x.2.2.2.toNat) (x.2.1.drop x.2.2.2.toNat)) := by
  obtain ⟨a, b, n, i⟩ := x
  obtain ⟨j, h1, hn, h2, h3, h4⟩ := hx
  simp only at h1 hn h2 h3 h4
  subst h1; subst hn
  simp only [g_slices_Equal_impl_Entry_impl_Entry_L11, dec_lt, dec_nn, cond_true, Int.toNat_natCast]
  by_cases hj : j < a.length
  · have hj' : j < b.length := by omega
    simp only [decide_eq_true hj, cond_true, List.getElem?_eq_getElem hj, List.getElem?_eq_getElem hj', Option.bind_some]
    rw [wrap_succ (by omega), hgo (a, b, (a.length : Int), ((j + 1 : Nat) : Int)) ⟨j + 1, rfl, rfl, hj, h3, h4⟩ (by simp only [Int.toNat_natCast]; omega), eqS_cons hj hj']
    simp only [Int.toNat_natCast]
    by_cases e1 : a[j].1 = b[j].1 <;> by_cases e2 : a[j].2 = b[j].2 <;> simp [e1, e2]
  · have e : j = a.length := by omega
    subst e
    simp [List.drop_eq_nil_of_le (show b.length ≤ a.length by omega), eqS]
theorem eqG_is {a b : List Ent} (h : a.length ≤ 1048576) : g_slices_Equal_impl_Entry_impl_Entry (a, b) = some (decide (a = b)) := by
  simp only [g_slices_Equal_impl_Entry_impl_Entry]
  by_cases hl : (a.length : Int) = (b.length : Int)
  · have := iter_is (S := g_slices_Equal_impl_Entry_impl_Entry_L11) (g := fun y => some (eqS (y.1.drop y.2.2.2.toNat) (y.2.1.drop y.2.2.2.toNat))) (fun x => x.1.length - x.2.2.2.toNat) EqG eqG_step FUEL (a, b, (a.length : Int), 0) ⟨0, rfl, rfl, by omega, h, by simp only; omega⟩ (fuel_lt (by simp only; omega))
    rw [hl] at this
    simp only [hl, decide_true, Bool.not_true, cond_false, this, Option.bind_some]
    have hd : ∀ c : List Ent, List.drop (Int.toNat 0) c = c := fun _ => rfl
    rw [hd, hd]
    unfold eqS
    by_cases e : a = b <;> simp [e, sumK]
  · simp only [hl, decide_false, Bool.not_false, cond_true]
    rw [decide_eq_false (fun e => hl (by rw [e]))]
-- ---------------------------------------------------------------- terms in a row
def runOk (tm : Int) : Int → List Ent → Bool
  | _, [] => true
  | p, e :: r => (decide (p ≤ e.1) && decide (e.1 ≤ tm) && !decide (900 < (e.2.length : Int))) && runOk tm e.1 r
def runS (b : Bool) : PUnit ⊕ Bool := if b then .inl () else .inr false
abbrev MsgT := Int × Int × Int × Int × Int × Int × Int × Bool × List Ent × List UInt8
def RunM (x : MsgT × Int × List Ent × Int × Int) : Prop := ∃ j : Nat, x.2.2.2.2 = (j : Int) ∧ x.2.2.2.1 = (x.2.2.1.length : Int) ∧ j ≤ x.2.2.1.length ∧ x.2.2.1.length ≤ 1048576
theorem iRun_step (go) (x : MsgT × Int × List Ent × Int × Int) (hx : RunM x) (hgo : ∀ y, RunM y → (y.2.2.1.length - y.2.2.2.2.toNat) < (x.2.2.1.length - x.2.2.2.2.toNat) → go y = some (runS (runOk y.1.2.2.2.1 y.2.1 (y.2.2.1.drop y.2.2.2.2.toNat)))) :
    i_entriesOk_L9 go x = some (runS (runOk x.1.2.2.2.1 x.2.1 (x.2.2.1.drop x.2.2.2.2.toNat))) := by
  obtain ⟨m, p, es, n, i⟩ := x
  obtain ⟨j, h1, hn, h2, h3⟩ := hx
  simp only at h1 hn h2 h3
  subst h1; subst hn
  simp only [i_entriesOk_L9, dec_lt, dec_nn, cond_true, Int.toNat_natCast]
  by_cases hj : j < es.length
  · simp only [decide_eq_true hj, cond_true, List.getElem?_eq_getElem hj, Option.bind_some, in_i]
    rw [wrap_succ (by omega), hgo (m, es[j].1, es, (es.length : Int), ((j + 1 : Nat) : Int)) ⟨j + 1, rfl, rfl, hj, h3⟩ (by simp only [Int.toNat_natCast]; omega), List.drop_eq_getElem_cons hj]
    simp only [Int.toNat_natCast, runOk]
    cases decide (p ≤ es[j].1) <;> cases decide (es[j].1 ≤ m.2.2.2.1) <;> cases decide (900 < (es[j].2.length : Int)) <;> simp [runS]
  · have e : j = es.length := by omega
    subst e
    simp [runOk, runS]
theorem iRun_is {m : MsgT} (h : m.2.2.2.2.2.2.2.2.1.length ≤ 1048576) : i_entriesOk m = some (runOk m.2.2.2.1 (if m.2.2.2.2.2.1 < 1 then 1 else m.2.2.2.2.2.1) m.2.2.2.2.2.2.2.2.1 && (decide ((m.2.2.2.2.2.2.2.2.1.length : Int) ≤ 4) && decide (IntKind.i64.wrap (m.2.2.2.2.1 + (m.2.2.2.2.2.2.2.2.1.length : Int)) ≤ 100000))) := by
  have key : ∀ p, (iter i_entriesOk_L9 FUEL (m, p, m.2.2.2.2.2.2.2.2.1, (m.2.2.2.2.2.2.2.2.1.length : Int), 0)) = some (runS (runOk m.2.2.2.1 p m.2.2.2.2.2.2.2.2.1)) := fun p => by
    have := iter_is (S := i_entriesOk_L9) (g := fun y => some (runS (runOk y.1.2.2.2.1 y.2.1 (y.2.2.1.drop y.2.2.2.2.toNat)))) (fun x => x.2.2.1.length - x.2.2.2.2.toNat) RunM iRun_step FUEL (m, p, m.2.2.2.2.2.2.2.2.1, (m.2.2.2.2.2.2.2.2.1.length : Int), 0) ⟨0, rfl, rfl, by omega, h⟩ (fuel_lt (by simp only; omega))
    rw [this]; rfl
  have hp : (bif decide (1 < m.2.2.2.2.2.1) then m.2.2.2.2.2.1 else 1) = if m.2.2.2.2.2.1 < 1 then 1 else m.2.2.2.2.2.1 := by
    by_cases h1 : 1 < m.2.2.2.2.2.1
    · rw [decide_eq_true h1, if_neg (by omega)]; rfl
    · rw [decide_eq_false h1]
      by_cases h2 : m.2.2.2.2.2.1 < 1
      · rw [if_pos h2]; rfl
      · rw [if_neg h2]; simp only [cond_false]; omega
  simp only [i_entriesOk, hp, key, Option.bind_some]
  cases runOk m.2.2.2.1 (if m.2.2.2.2.2.1 < 1 then 1 else m.2.2.2.2.2.1) m.2.2.2.2.2.2.2.2.1 with
  | false => rfl
  | true =>
    simp only [runS, if_true, sumK, Bool.true_and]
    cases decide ((m.2.2.2.2.2.2.2.2.1.length : Int) ≤ 4) <;> simp
end Go.Proofs.Ytcdncdbghghnfaa
