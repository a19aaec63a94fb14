/- The plain law: loops over entries. -/
import Derived.Test.YtopeacfbcdoljaaPReadOp
namespace Go.Proofs.Ytopeacfbcdoljaa
open Go Go.Proofs.Ytopeacfbcdoljaa.V
abbrev Ent := Int × List UInt8
theorem dec_lt {j n : Nat} : decide ((j : Int) < (n : Int)) = decide (j < n) := by
  rw [decide_eq_decide]; omega
theorem dec_nn (j : Nat) : decide ((0 : Int) ≤ (j : Int)) = true := by simp
theorem wrap_succ {j : Nat} (h : j < 4611686018427387904) : IntKind.i64.wrap ((j : Int) + 1) = ((j + 1 : Nat) : Int) := by
  rw [w64 (by omega) (by omega)]; omega
-- ---------------------------------------------------------------- sizes
def szL : Int → List Ent → Int ⊕ Int
  | l, [] => .inl l
  | l, e :: r => if l - (e.2.length : Int) < 0 then .inr (-1) else szL (l - (e.2.length : Int)) r
def SzI (x : List Ent × Int × Int) : Prop := ∃ j : Nat, x.2.2 = (j : Int) ∧ j ≤ x.1.length ∧ x.1.length ≤ 1048576 ∧ (∀ e ∈ x.1, e.2.length ≤ maxLen) ∧ 0 ≤ x.2.1 ∧ x.2.1 ≤ 1048576
theorem sz_step (go) (x : List Ent × Int × Int) (hx : SzI x) (hgo : ∀ y, SzI y → (y.1.length - y.2.2.toNat) < (x.1.length - x.2.2.toNat) → go y = some (szL y.2.1 (y.1.drop y.2.2.toNat))) :
    w_szEntryS_L13 go x = some (szL x.2.1 (x.1.drop x.2.2.toNat)) := by
  obtain ⟨es, l, i⟩ := x
  obtain ⟨j, h1, h2, h3, h4, h5, h6⟩ := hx
  simp only at h1 h2 h3 h4 h5 h6
  subst h1
  simp only [w_szEntryS_L13, dec_lt, dec_nn, cond_true, Int.toNat_natCast]
  by_cases hj : j < es.length
  · have hm := h4 es[j] (List.getElem_mem hj)
    have hM : maxLen ≤ 9223372036854775807 := by decide
    simp only [decide_eq_true hj, cond_true, List.getElem?_eq_getElem hj, Option.bind_some, w_szEntry]
    rw [w64 (by omega) (by omega), List.drop_eq_getElem_cons hj, szL]
    by_cases hn : l - (es[j].2.length : Int) < 0
    · simp [hn]
    · simp only [hn, decide_false, cond_false, Option.bind_some, if_false]
      rw [wrap_succ (by omega), hgo (es, l - (es[j].2.length : Int), ((j + 1 : Nat) : Int)) ⟨j + 1, rfl, hj, h3, h4, by simp only; omega, by simp only; omega⟩ (by simp only [Int.toNat_natCast]; omega)]
      simp only [Int.toNat_natCast]
  · have : es.length ≤ j := by omega
    simp [hj, List.drop_eq_nil_of_le this, szL]
theorem szL_is : ∀ (r : List Ent) (l : Int), 0 ≤ l → match szL l r with
    | .inl n => 0 ≤ n ∧ n ≤ l ∧ ∀ e ∈ r, (e.2.length : Int) ≤ l
    | .inr n => n = -1 := by
  intro r
  induction r with
  | nil => intro l h; exact ⟨h, Int.le_refl _, fun e he => by cases he⟩
  | cons e r ih =>
    intro l h
    simp only [szL]
    by_cases hn : l - (e.2.length : Int) < 0
    · simp [hn]
    · simp only [hn, if_false]
      have := ih (l - (e.2.length : Int)) (by omega)
      revert this
      cases szL (l - (e.2.length : Int)) r with
      | inl n =>
        intro this
        refine ⟨this.1, by have := this.2.1; omega, fun e' he => ?_⟩
        rcases List.mem_cons.1 he with rfl | he
        · omega
        · have := this.2.2 e' he; omega
      | inr n => intro this; exact this
/-- What szEntryS says: below 0, or all is small. -/
theorem szEntryS_is {es : List Ent} {l : Int} (h1 : es.length ≤ maxLen) (h2 : ∀ e ∈ es, e.2.length ≤ maxLen) (h3 : -1 ≤ l) (h4 : l ≤ 1048576) :
    ∃ n, w_szEntryS (es, l) = some n ∧ -1 ≤ n ∧ n ≤ 1048576 ∧ (0 ≤ n → es.length ≤ 1048576 ∧ ∀ e ∈ es, e.2.length ≤ 1048576) := by
  have hM : maxLen ≤ 9223372036854775807 := by decide
  simp only [w_szEntryS]
  rw [w64 (by omega) (by omega)]
  by_cases hn : l - (es.length : Int) < 0
  · exact ⟨-1, by simp [hn], by omega, by omega, fun h => by omega⟩
  · have := iter_is (S := w_szEntryS_L13) (g := fun x => some (szL x.2.1 (x.1.drop x.2.2.toNat))) (fun x => x.1.length - x.2.2.toNat) SzI sz_step FUEL (es, l - (es.length : Int), 0) ⟨0, rfl, by omega, by simp only; omega, h2, by simp only; omega, by simp only; omega⟩ (fuel_lt (by simp only; omega))
    simp only [hn, decide_false, cond_false, this, Option.bind_some]
    have hs := szL_is es (l - (es.length : Int)) (by omega)
    have hd : List.drop (Int.toNat 0) es = es := rfl
    rw [hd]
    revert hs
    cases szL (l - (es.length : Int)) es with
    | inl n => intro hs; exact ⟨n, rfl, by omega, by omega, fun _ => ⟨by omega, fun e he => by have := hs.2.2 e he; omega⟩⟩
    | inr n => intro hs; exact ⟨n, rfl, by omega, by omega, fun h => by omega⟩
-- ---------------------------------------------------------------- copies
def ToI (x : List Ent × List Ent × Int) : Prop := ∃ j : Nat, x.2.2 = (j : Int) ∧ j ≤ x.1.length ∧ x.1.length ≤ 1048576 ∧ x.2.1.length = x.1.length ∧ x.2.1.take j = x.1.take j
theorem to_step (go) (x : List Ent × List Ent × Int) (hx : ToI x) (hgo : ∀ y, ToI y → (y.1.length - y.2.2.toNat) < (x.1.length - x.2.2.toNat) → go y = some y.1) : w_toEntryS_L9 go x = some x.1 := by
  obtain ⟨es, o, i⟩ := x
  obtain ⟨j, h1, h2, h3, h4, h5⟩ := hx
  simp only at h1 h2 h3 h4 h5
  subst h1
  simp only [w_toEntryS_L9, dec_lt, dec_nn, cond_true, Int.toNat_natCast]
  by_cases hj : j < es.length
  · have hj' : j < o.length := by omega
    simp only [decide_eq_true hj, cond_true, List.getElem?_eq_getElem hj, List.getElem?_eq_getElem hj', Option.bind_some, w_toEntry]
    rw [wrap_succ (by omega), hgo (es, o.set j (es[j].1, es[j].2), ((j + 1 : Nat) : Int)) ⟨j + 1, rfl, hj, h3, by simp [h4], ?_⟩ (by simp only [Int.toNat_natCast]; omega)]
    show (o.set j es[j]).take (j + 1) = es.take (j + 1)
    rw [List.take_add_one, List.take_add_one, List.take_set_of_le (Nat.le_refl _), h5, List.getElem?_set_self hj', List.getElem?_eq_getElem hj]
  · have e : j = es.length := by omega
    subst e
    simp only [hj, decide_false, cond_false]
    rw [List.take_of_length_le (by omega), List.take_of_length_le (Nat.le_refl _)] at h5
    rw [h5]
theorem toEntryS_is {es : List Ent} (h : es.length ≤ 1048576) : w_toEntryS es = some es := by
  have := iter_is (S := w_toEntryS_L9) (g := fun x => some x.1) (fun x => x.1.length - x.2.2.toNat) ToI to_step FUEL (es, List.replicate es.length (0, []), 0) ⟨0, rfl, by omega, h, by simp, by simp⟩ (fuel_lt (by simp only; omega))
  simp only [w_toEntryS, Int.toNat_natCast, dec_nn, Bool.true_and]
  rw [decide_eq_true (Int.le_refl _), decide_eq_true (by omega)]
  simp only [Bool.and_self, cond_true, this, Option.bind_some]
-- ---------------------------------------------------------------- equality
def eqS (a b : List Ent) : PUnit ⊕ Bool := if a = b then .inl () else .inr false
theorem eqS_cons {a b : List Ent} {j : Nat} (h1 : j < a.length) (h2 : j < b.length) : eqS (a.drop j) (b.drop j) = if a[j].1 = b[j].1 ∧ a[j].2 = b[j].2 then eqS (a.drop (j + 1)) (b.drop (j + 1)) else .inr false := by
  rw [List.drop_eq_getElem_cons h1, List.drop_eq_getElem_cons h2]
  unfold eqS
  simp only [List.cons.injEq, Prod.ext_iff]
  by_cases h : a[j].1 = b[j].1 ∧ a[j].2 = b[j].2 <;> simp [h]
def EqI (x : List Ent × List Ent × Int) : Prop := ∃ j : Nat, x.2.2 = (j : Int) ∧ j ≤ x.1.length ∧ x.1.length ≤ 1048576 ∧ x.2.1.length = x.1.length
theorem eqW_step (go) (x : List Ent × List Ent × Int) (hx : EqI x) (hgo : ∀ y, EqI y → (y.1.length - y.2.2.toNat) < (x.1.length - x.2.2.toNat) → go y = some (eqS (y.1.drop y.2.2.toNat) (y.2.1.drop y.2.2.toNat))) :
    w_eqEntryS_L11 go x = some (eqS (x.1.drop x.2.2.toNat) (x.2.1.drop x.2.2.toNat)) := by
  obtain ⟨a, b, i⟩ := x
  obtain ⟨j, h1, h2, h3, h4⟩ := hx
  simp only at h1 h2 h3 h4
  subst h1
  simp only [w_eqEntryS_L11, dec_lt, dec_nn, cond_true, Int.toNat_natCast]
  by_cases hj : j < a.length
  · have hj' : j < b.length := by omega
    simp only [decide_eq_true hj, cond_true, List.getElem?_eq_getElem hj, List.getElem?_eq_getElem hj', Option.bind_some, w_eqEntry]
    rw [wrap_succ (by omega), hgo (a, b, ((j + 1 : Nat) : Int)) ⟨j + 1, rfl, hj, h3, h4⟩ (by simp only [Int.toNat_natCast]; omega), eqS_cons hj hj']
    simp only [Int.toNat_natCast]
    by_cases e1 : a[j].1 = b[j].1 <;> by_cases e2 : a[j].2 = b[j].2 <;> simp [e1, e2]
  · have e : j = a.length := by omega
    subst e
    simp [List.drop_eq_nil_of_le (show b.length ≤ a.length by omega), eqS]
theorem eqEntryS_is {a b : List Ent} (h : a.length ≤ 1048576) : w_eqEntryS (a, b) = some (decide (a = b)) := by
  simp only [w_eqEntryS]
  by_cases hl : (a.length : Int) = (b.length : Int)
  · have := iter_is (S := w_eqEntryS_L11) (g := fun y => some (eqS (y.1.drop y.2.2.toNat) (y.2.1.drop y.2.2.toNat))) (fun x => x.1.length - x.2.2.toNat) EqI eqW_step FUEL (a, b, 0) ⟨0, rfl, by omega, h, by simp only; omega⟩ (fuel_lt (by simp only; omega))
    simp only [hl, decide_true, Bool.not_true, cond_false, this, Option.bind_some]
    have hd : ∀ c : List Ent, List.drop (Int.toNat 0) c = c := fun _ => rfl
    rw [hd, hd]
    unfold eqS
    by_cases e : a = b <;> simp [e, sumK]
  · simp only [hl, decide_false, Bool.not_false, cond_true]
    rw [decide_eq_false (fun e => hl (by rw [e]))]
theorem sSame_step (go) (x : List Ent × List Ent × Int) (hx : EqI x) (hgo : ∀ y, EqI y → (y.1.length - y.2.2.toNat) < (x.1.length - x.2.2.toNat) → go y = some (eqS (y.1.drop y.2.2.toNat) (y.2.1.drop y.2.2.toNat))) :
    s_l15SameEntries_L11 go x = some (eqS (x.1.drop x.2.2.toNat) (x.2.1.drop x.2.2.toNat)) := by
  obtain ⟨a, b, i⟩ := x
  obtain ⟨j, h1, h2, h3, h4⟩ := hx
  simp only at h1 h2 h3 h4
  subst h1
  simp only [s_l15SameEntries_L11, dec_lt, dec_nn, cond_true, Int.toNat_natCast]
  by_cases hj : j < a.length
  · have hj' : j < b.length := by omega
    simp only [decide_eq_true hj, cond_true, List.getElem?_eq_getElem hj, List.getElem?_eq_getElem hj', Option.bind_some]
    rw [wrap_succ (by omega), hgo (a, b, ((j + 1 : Nat) : Int)) ⟨j + 1, rfl, hj, h3, h4⟩ (by simp only [Int.toNat_natCast]; omega), eqS_cons hj hj']
    simp only [Int.toNat_natCast]
    by_cases e1 : a[j].1 = b[j].1 <;> by_cases e2 : a[j].2 = b[j].2 <;> simp [e1, e2]
  · have e : j = a.length := by omega
    subst e
    simp [List.drop_eq_nil_of_le (show b.length ≤ a.length by omega), eqS]
theorem sSame_is {a b : List Ent} (h : a.length ≤ 1048576) : s_l15SameEntries (a, b) = some (decide (a = b)) := by
  simp only [s_l15SameEntries]
  by_cases hl : (a.length : Int) = (b.length : Int)
  · have := iter_is (S := s_l15SameEntries_L11) (g := fun y => some (eqS (y.1.drop y.2.2.toNat) (y.2.1.drop y.2.2.toNat))) (fun x => x.1.length - x.2.2.toNat) EqI sSame_step FUEL (a, b, 0) ⟨0, rfl, by omega, h, by simp only; omega⟩ (fuel_lt (by simp only; omega))
    simp only [hl, decide_true, Bool.not_true, cond_false, this, Option.bind_some]
    have hd : ∀ c : List Ent, List.drop (Int.toNat 0) c = c := fun _ => rfl
    rw [hd, hd]
    unfold eqS
    by_cases e : a = b <;> simp [e, sumK]
  · simp only [hl, decide_false, Bool.not_false, cond_true]
    rw [decide_eq_false (fun e => hl (by rw [e]))]
def EqG (x : List Ent × List Ent × Int × Int) : Prop := ∃ j : Nat, x.2.2.2 = (j : Int) ∧ x.2.2.1 = (x.1.length : Int) ∧ j ≤ x.1.length ∧ x.1.length ≤ 1048576 ∧ x.2.1.length = x.1.length
theorem eqG_step (go) (x : List Ent × List Ent × Int × Int) (hx : EqG x) (hgo : ∀ y, EqG y → (y.1.length - y.2.2.2.toNat) < (x.1.length - x.2.2.2.toNat) → go y = some (eqS (y.1.drop y.2.2.2.toNat) (y.2.1.drop y.2.2.2.toNat))) :
    g_slices_Equal_impl_Entry_impl_Entry_L11 go x = some (eqS (x.1.drop x.2.2.2.toNat) (x.2.1.drop x.2.2.2.toNat)) := by
  obtain ⟨a, b, n, i⟩ := x
  obtain ⟨j, h1, hn, h2, h3, h4⟩ := hx
  simp only at h1 hn h2 h3 h4
  subst h1; subst hn
  simp only [g_slices_Equal_impl_Entry_impl_Entry_L11, dec_lt, dec_nn, cond_true, Int.toNat_natCast]
  by_cases hj : j < a.length
  · have hj' : j < b.length := by omega
    simp only [decide_eq_true hj, cond_true, List.getElem?_eq_getElem hj, List.getElem?_eq_getElem hj', Option.bind_some]
    rw [wrap_succ (by omega), hgo (a, b, (a.length : Int), ((j + 1 : Nat) : Int)) ⟨j + 1, rfl, rfl, hj, h3, h4⟩ (by simp only [Int.toNat_natCast]; omega), eqS_cons hj hj']
    simp only [Int.toNat_natCast]
    by_cases e1 : a[j].1 = b[j].1 <;> by_cases e2 : a[j].2 = b[j].2 <;> simp [e1, e2]
  · have e : j = a.length := by omega
    subst e
    simp [List.drop_eq_nil_of_le (show b.length ≤ a.length by omega), eqS]
theorem eqG_is {a b : List Ent} (h : a.length ≤ 1048576) : g_slices_Equal_impl_Entry_impl_Entry (a, b) = some (decide (a = b)) := by
  simp only [g_slices_Equal_impl_Entry_impl_Entry]
  by_cases hl : (a.length : Int) = (b.length : Int)
  · have := iter_is (S := g_slices_Equal_impl_Entry_impl_Entry_L11) (g := fun y => some (eqS (y.1.drop y.2.2.2.toNat) (y.2.1.drop y.2.2.2.toNat))) (fun x => x.1.length - x.2.2.2.toNat) EqG eqG_step FUEL (a, b, (a.length : Int), 0) ⟨0, rfl, rfl, by omega, h, by simp only; omega⟩ (fuel_lt (by simp only; omega))
    rw [hl] at this
    simp only [hl, decide_true, Bool.not_true, cond_false, this, Option.bind_some]
    have hd : ∀ c : List Ent, List.drop (Int.toNat 0) c = c := fun _ => rfl
    rw [hd, hd]
    unfold eqS
    by_cases e : a = b <;> simp [e, sumK]
  · simp only [hl, decide_false, Bool.not_false, cond_true]
    rw [decide_eq_false (fun e => hl (by rw [e]))]
-- ---------------------------------------------------------------- terms in a row
def runOk (tm : Int) : Int → List Ent → Bool
  | _, [] => true
  | p, e :: r => (decide (p ≤ e.1) && decide (e.1 ≤ tm) && !decide (900 < (e.2.length : Int))) && runOk tm e.1 r
def runS (b : Bool) : PUnit ⊕ Bool := if b then .inl () else .inr false
def RunI (x : List Ent × Int × Int × Int) : Prop := ∃ j : Nat, x.2.2.2 = (j : Int) ∧ j ≤ x.1.length ∧ x.1.length ≤ 1048576
theorem sRun_step (go) (x : List Ent × Int × Int × Int) (hx : RunI x) (hgo : ∀ y, RunI y → (y.1.length - y.2.2.2.toNat) < (x.1.length - x.2.2.2.toNat) → go y = some (runS (runOk y.2.2.1 y.2.1 (y.1.drop y.2.2.2.toNat)))) :
    s_l15Run_L11 go x = some (runS (runOk x.2.2.1 x.2.1 (x.1.drop x.2.2.2.toNat))) := by
  obtain ⟨es, p, tm, i⟩ := x
  obtain ⟨j, h1, h2, h3⟩ := hx
  simp only at h1 h2 h3
  subst h1
  simp only [s_l15Run_L11, dec_lt, dec_nn, cond_true, Int.toNat_natCast]
  by_cases hj : j < es.length
  · simp only [decide_eq_true hj, cond_true, List.getElem?_eq_getElem hj, Option.bind_some, in_s]
    rw [wrap_succ (by omega), hgo (es, es[j].1, tm, ((j + 1 : Nat) : Int)) ⟨j + 1, rfl, hj, h3⟩ (by simp only [Int.toNat_natCast]; omega), List.drop_eq_getElem_cons hj]
    simp only [Int.toNat_natCast, runOk]
    cases decide (p ≤ es[j].1) <;> cases decide (es[j].1 ≤ tm) <;> cases decide (900 < (es[j].2.length : Int)) <;> simp [runS]
  · have e : j = es.length := by omega
    subst e
    simp [runOk, runS]
theorem sRun_is {es : List Ent} {p tm : Int} (h : es.length ≤ 1048576) : s_l15Run (es, p, tm) = some (runOk tm (if p < 1 then 1 else p) es) := by
  have key : ∀ p, (iter s_l15Run_L11 FUEL (es, p, tm, 0)) = some (runS (runOk tm p es)) := fun p => by
    have := iter_is (S := s_l15Run_L11) (g := fun y => some (runS (runOk y.2.2.1 y.2.1 (y.1.drop y.2.2.2.toNat)))) (fun x => x.1.length - x.2.2.2.toNat) RunI sRun_step FUEL (es, p, tm, 0) ⟨0, rfl, by omega, h⟩ (fuel_lt (by simp only; omega))
    rw [this]; rfl
  have fin : ∀ b : Bool, sumK (runS b) (fun _ => some true) (fun z => some z) = some b := fun b => by cases b <;> rfl
  simp only [s_l15Run, key, Option.bind_some, fin]
  by_cases hp : p < 1 <;> simp [hp]
abbrev MsgT := Int × Int × Int × Int × Int × Int × Int × Bool × List Ent × List UInt8
def RunM (x : MsgT × Int × List Ent × Int × Int) : Prop := ∃ j : Nat, x.2.2.2.2 = (j : Int) ∧ x.2.2.2.1 = (x.2.2.1.length : Int) ∧ j ≤ x.2.2.1.length ∧ x.2.2.1.length ≤ 1048576
theorem iRun_step (go) (x : MsgT × Int × List Ent × Int × Int) (hx : RunM x) (hgo : ∀ y, RunM y → (y.2.2.1.length - y.2.2.2.2.toNat) < (x.2.2.1.length - x.2.2.2.2.toNat) → go y = some (runS (runOk y.1.2.2.2.1 y.2.1 (y.2.2.1.drop y.2.2.2.2.toNat)))) :
    i_entriesOk_L9 go x = some (runS (runOk x.1.2.2.2.1 x.2.1 (x.2.2.1.drop x.2.2.2.2.toNat))) := by
  obtain ⟨m, p, es, n, i⟩ := x
  obtain ⟨j, h1, hn, h2, h3⟩ := hx
  simp only at h1 hn h2 h3
  subst h1; subst hn
  simp only [i_entriesOk_L9, dec_lt, dec_nn, cond_true, Int.toNat_natCast]
  by_cases hj : j < es.length
  · simp only [decide_eq_true hj, cond_true, List.getElem?_eq_getElem hj, Option.bind_some, in_i]
    rw [wrap_succ (by omega), hgo (m, es[j].1, es, (es.length : Int), ((j + 1 : Nat) : Int)) ⟨j + 1, rfl, rfl, hj, h3⟩ (by simp only [Int.toNat_natCast]; omega), List.drop_eq_getElem_cons hj]
    simp only [Int.toNat_natCast, runOk]
    cases decide (p ≤ es[j].1) <;> cases decide (es[j].1 ≤ m.2.2.2.1) <;> cases decide (900 < (es[j].2.length : Int)) <;> simp [runS]
  · have e : j = es.length := by omega
    subst e
    simp [runOk, runS]
theorem iRun_is {m : MsgT} (h : m.2.2.2.2.2.2.2.2.1.length ≤ 1048576) : i_entriesOk m = some (runOk m.2.2.2.1 (if m.2.2.2.2.2.1 < 1 then 1 else m.2.2.2.2.2.1) m.2.2.2.2.2.2.2.2.1 && (decide ((m.2.2.2.2.2.2.2.2.1.length : Int) ≤ 4) && decide (IntKind.i64.wrap (m.2.2.2.2.1 + (m.2.2.2.2.2.2.2.2.1.length : Int)) ≤ 100000))) := by
  have key : ∀ p, (iter i_entriesOk_L9 FUEL (m, p, m.2.2.2.2.2.2.2.2.1, (m.2.2.2.2.2.2.2.2.1.length : Int), 0)) = some (runS (runOk m.2.2.2.1 p m.2.2.2.2.2.2.2.2.1)) := fun p => by
    have := iter_is (S := i_entriesOk_L9) (g := fun y => some (runS (runOk y.1.2.2.2.1 y.2.1 (y.2.2.1.drop y.2.2.2.2.toNat)))) (fun x => x.2.2.1.length - x.2.2.2.2.toNat) RunM iRun_step FUEL (m, p, m.2.2.2.2.2.2.2.2.1, (m.2.2.2.2.2.2.2.2.1.length : Int), 0) ⟨0, rfl, rfl, by omega, h⟩ (fuel_lt (by simp only; omega))
    rw [this]; rfl
  have hp : (bif decide (1 < m.2.2.2.2.2.1) then m.2.2.2.2.2.1 else 1) = if m.2.2.2.2.2.1 < 1 then 1 else m.2.2.2.2.2.1 := by
    by_cases h1 : 1 < m.2.2.2.2.2.1
    · rw [decide_eq_true h1, if_neg (by omega)]; rfl
    · rw [decide_eq_false h1]
      by_cases h2 : m.2.2.2.2.2.1 < 1
      · rw [if_pos h2]; rfl
      · rw [if_neg h2]; simp only [cond_false]; omega
  simp only [i_entriesOk, hp, key, Option.bind_some]
  cases runOk m.2.2.2.1 (if m.2.2.2.2.2.1 < 1 then 1 else m.2.2.2.2.2.1) m.2.2.2.2.2.2.2.2.1 with
  | false => rfl
  | true =>
    simp only [runS, if_true, sumK, Bool.true_and]
    cases decide ((m.2.2.2.2.2.2.2.2.1.length : Int) ≤ 4) <;> simp
end Go.Proofs.Ytopeacfbcdoljaa
