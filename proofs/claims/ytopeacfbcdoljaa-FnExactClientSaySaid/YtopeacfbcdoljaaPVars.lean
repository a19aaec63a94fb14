/- The plain law: numbers in a row, and answers: the program's readers are the reference's. -/
import Derived.Test.YtopeacfbcdoljaaPReadVar
namespace Go.Proofs.Ytopeacfbcdoljaa
open Go Go.Proofs.Ytopeacfbcdoljaa.V
theorem rvI_bounds {s : List UInt8} : ∀ f i, 0 ≤ (rvI s f i).2 ∧ (rvI s f i).2 ≤ (s.length : Int) := by
  intro f
  induction f with
  | zero => intro i; simp [rvI]
  | succ f ih =>
    intro i
    rw [rvI]
    split
    · split
      · split
        · simp only; omega
        · simp
      · exact ih _
    · simp
theorem rv_pos (s : List UInt8) : 0 ≤ (rv s).2 := (rvI_bounds 7 0).1
theorem rv_le (s : List UInt8) : (rv s).2 ≤ (s.length : Int) := (rvI_bounds 7 0).2
/-- So many numbers from a place on, and where they end. -/
def varsAt (s : List UInt8) : Nat → Nat → Option (List Int × Nat)
  | 0, a => some ([], a)
  | n + 1, a => if (rv (s.drop a)).2 = 0 then none else (varsAt s n (a + (rv (s.drop a)).2.toNat)).map fun p => ((rv (s.drop a)).1 :: p.1, p.2)
theorem vars_le {s : List UInt8} : ∀ n a {p}, a ≤ s.length → varsAt s n a = some p → p.2 ≤ s.length ∧ p.1.length = n := by
  intro n
  induction n with
  | zero => intro a p ha h; cases h; exact ⟨ha, rfl⟩
  | succ n ih =>
    intro a p ha h
    rw [varsAt] at h
    split at h
    · cases h
    · cases hv : varsAt s n (a + (rv (s.drop a)).2.toNat) with
      | none => rw [hv] at h; cases h
      | some q =>
        rw [hv] at h
        cases h
        have h1 := rv_le (s.drop a)
        have h2 := rv_pos (s.drop a)
        rw [List.length_drop] at h1
        obtain ⟨h3, h4⟩ := ih _ (by omega) hv
        exact ⟨h3, by simp [h4]⟩
def vlAt (s : List UInt8) : Nat → Nat → List Int → Int × List Int ⊕ List Int × Int
  | 0, a, o => .inl ((a : Int), o)
  | n + 1, a, o => if (rv (s.drop a)).2 = 0 then .inr (o, -1) else vlAt s n (a + (rv (s.drop a)).2.toNat) (o ++ [(rv (s.drop a)).1])
theorem vl_is {s : List UInt8} : ∀ n a o, match varsAt s n a with
    | some p => vlAt s n a o = .inl ((p.2 : Int), o ++ p.1)
    | none => ∃ o', vlAt s n a o = .inr (o', -1) := by
  intro n
  induction n with
  | zero => intro a o; simp [varsAt, vlAt]
  | succ n ih =>
    intro a o
    rw [varsAt, vlAt]
    by_cases h : (rv (s.drop a)).2 = 0
    · rw [if_pos h, if_pos h]; exact ⟨o, rfl⟩
    · rw [if_neg h, if_neg h]
      have := ih (a + (rv (s.drop a)).2.toNat) (o ++ [(rv (s.drop a)).1])
      cases hv : varsAt s n (a + (rv (s.drop a)).2.toNat) with
      | none => rw [hv] at this; exact this
      | some p => rw [hv] at this; simpa using this
def VsI (s : List UInt8) (x : List UInt8 × Int × Int × List Int × Int) : Prop := ∃ a n i : Nat, x.1 = s ∧ x.2.1 = (a : Int) ∧ x.2.2.1 = (n : Int) ∧ x.2.2.2.2 = (i : Int) ∧ a ≤ s.length ∧ i ≤ n ∧ n ≤ 1000 ∧ x.2.2.2.1.length = i
theorem vs_step (s : List UInt8) (hs : s.length ≤ 9223372036854775807) (go) (x : List UInt8 × Int × Int × List Int × Int) (hx : VsI s x)
    (hgo : ∀ y, VsI s y → (y.2.2.1 - y.2.2.2.2).toNat < (x.2.2.1 - x.2.2.2.2).toNat → go y = some (vlAt s (y.2.2.1 - y.2.2.2.2).toNat y.2.1.toNat y.2.2.2.1)) :
    s_l13Vars_L9 go x = some (vlAt s (x.2.2.1 - x.2.2.2.2).toNat x.2.1.toNat x.2.2.2.1) := by
  obtain ⟨s', a', n', o, i'⟩ := x
  obtain ⟨a, n, i, h1, h2, h3, h4, ha, hi, hn, ho⟩ := hx
  simp only at h1 h2 h3 h4 ho
  subst h1 h2 h3 h4
  unfold s_l13Vars_L9
  simp only
  by_cases h : i < n
  · have e1 : decide ((i : Int) < (n : Int)) = true := by simp; omega
    have e2 : decide ((↑s'.length : Int) < (a : Int)) = false := by simp; omega
    have e3 : (decide ((0 : Int) ≤ (a : Int)) && decide ((a : Int) ≤ (↑s'.length : Int))) = true := by simp; omega
    have e4 : ((n : Int) - (i : Int)).toNat = (n - i - 1) + 1 := by omega
    have b1 := rv_le (s'.drop a)
    have b2 := rv_pos (s'.drop a)
    rw [List.length_drop] at b1
    simp only [e1, cond_true, e2, cond_false, e3, Int.toNat_natCast, s_ReadVar_is, Option.bind_some, e4]
    rw [vlAt]
    by_cases hz : (rv (s'.drop a)).2 = 0
    · have : decide ((rv (s'.drop a)).2 = 0) = true := by simpa using hz
      rw [if_pos hz, this]; rfl
    · have hz' : decide ((rv (s'.drop a)).2 = 0) = false := by simpa using hz
      rw [if_neg hz, hz', cond_false]
      have e5 : IntKind.i64.wrap ((a : Int) + (rv (s'.drop a)).2) = ((a + (rv (s'.drop a)).2.toNat : Nat) : Int) := by rw [w64 (by omega) (by omega)]; omega
      have e6 : IntKind.i64.wrap ((i : Int) + 1) = ((i + 1 : Nat) : Int) := by rw [w64 (by omega) (by omega)]; omega
      have e7 : (true && (3 == 0 || 3 == 1 || [3, 2].contains 3 || [].contains 3) && decide (o.length + ([(rv (s'.drop a)).1] : List Int).length ≤ 4294967296)) = true := by simp; omega
      simp only [List.replicate, List.set]
      rw [e7, cond_true, e5, e6, hgo _ ⟨_, n, i + 1, rfl, rfl, rfl, rfl, by omega, by omega, hn, by simp [ho]⟩ (by simp only; omega)]
      simp only [Int.toNat_natCast]
      rw [show ((n : Int) - ((i + 1 : Nat) : Int)).toNat = n - i - 1 by omega]
  · have e1 : decide ((i : Int) < (n : Int)) = false := by simp; omega
    simp only [e1, cond_false]
    rw [show ((n : Int) - (i : Int)).toNat = 0 by omega]
    rfl
theorem l13Vars_is {s : List UInt8} (hs : s.length ≤ 9223372036854775807) {a n : Nat} (ha : a ≤ s.length) (hn : n ≤ 1000) :
    match varsAt s n a with
    | some p => s_l13Vars (s, (a : Int), (n : Int)) = some (p.1, (p.2 : Int))
    | none => ∃ o', s_l13Vars (s, (a : Int), (n : Int)) = some (o', -1) := by
  unfold s_l13Vars
  have := iter_is (S := s_l13Vars_L9) (g := fun x => some (vlAt s (x.2.2.1 - x.2.2.2.2).toNat x.2.1.toNat x.2.2.2.1)) (fun x => (x.2.2.1 - x.2.2.2.2).toNat) (VsI s) (vs_step s hs) FUEL (s, (a : Int), (n : Int), List.replicate 0 0, 0)
    ⟨a, n, 0, rfl, rfl, rfl, rfl, ha, by omega, hn, rfl⟩ (fuel_lt (by simp only; omega))
  simp only [this, Option.bind_some, Int.toNat_natCast]
  rw [show ((n : Int) - 0).toNat = n by omega]
  have hv := vl_is (s := s) n a []
  cases h : varsAt s n a with
  | none => rw [h] at hv; obtain ⟨o', ho⟩ := hv; exact ⟨o', by simp only [List.replicate]; rw [ho]; rfl⟩
  | some p => rw [h] at hv; simp only [List.replicate]; rw [hv]; simp [sumK]
/-- The program's scanner. -/
def numP (x : List UInt8 × Bool) : Int × List UInt8 × Bool := if x.2 = true ∨ (rv x.1).2 = 0 then (0, x.1, true) else ((rv x.1).1, x.1.drop (rv x.1).2.toNat, x.2)
theorem scan_num_is (x : List UInt8 × Bool) : i_scan_num x = some (numP x) := by
  obtain ⟨r, b⟩ := x
  unfold i_scan_num numP
  simp only [i_ReadVar_is, Option.bind_some]
  cases b with
  | true => simp
  | false =>
    have h1 : decide ((0 : Int) ≤ (rv r).2) = true := by simpa using rv_pos r
    have h2 : decide ((rv r).2 ≤ (↑r.length : Int)) = true := by simpa using rv_le r
    by_cases h : (rv r).2 = 0
    · simp [h]
    · simp [h, h1, h2]
theorem varText_len (x : Int) : (varText x).length ≤ 9 := by
  unfold varText
  split
  · have := varPre_len 8 x.toNat (by omega)
    simp; omega
  · simp
theorem answerOk_same (x) : s_AnswerOk x = i_AnswerOk x := by
  simp only [s_AnswerOk, i_AnswerOk, in_s, in_i]
theorem answerOk_is (x) : ∃ b, i_AnswerOk x = some b ∧ (b = true → x.2.2.2.1.length ≤ 32) := by
  obtain ⟨a, b, c, h, d, e⟩ := x
  simp only [i_AnswerOk, in_i, Option.bind_some]
  generalize (decide (0 ≤ a) && decide (a ≤ 5)) = p1
  generalize (decide (0 ≤ b) && decide (b ≤ 6)) = p2
  generalize (decide (0 ≤ c) && decide (c ≤ 4)) = p3
  generalize (decide (0 ≤ d) && decide (d ≤ 250)) = p4
  generalize (decide (0 ≤ e) && decide (e ≤ 100000)) = p5
  by_cases h0 : (h.length : Int) = 0
  · have h0' : decide ((h.length : Int) = 0) = true := by simpa using h0
    simp only [h0']
    cases p1 <;> cases p2 <;> cases p3 <;> cases p4 <;> cases p5 <;> simp <;> omega
  · by_cases h1 : (h.length : Int) = 32
    · have h0' : decide ((h.length : Int) = 0) = false := by simpa using h0
      have h1' : decide ((h.length : Int) = 32) = true := by simpa using h1
      simp only [h0', h1']
      cases p1 <;> cases p2 <;> cases p3 <;> cases p4 <;> cases p5 <;> simp <;> omega
    · have h0' : decide ((h.length : Int) = 0) = false := by simpa using h0
      have h1' : decide ((h.length : Int) = 32) = false := by simpa using h1
      simp only [h0', h1']
      cases p1 <;> cases p2 <;> cases p3 <;> cases p4 <;> cases p5 <;> simp
theorem showAnswer_same (x) : s_ShowAnswer x = i_ShowAnswer x := by
  simp only [s_ShowAnswer, i_ShowAnswer, answerOk_same, s_Var_is, i_Var_is]
theorem showAnswer_is (x) : ∃ y, i_ShowAnswer x = some y := by
  obtain ⟨b, hb, hl⟩ := answerOk_is x
  obtain ⟨a, b', c, h, d, e⟩ := x
  simp only at hl
  simp only [i_ShowAnswer, hb, Option.bind_some, i_Var_is]
  cases b with
  | false => exact ⟨[], rfl⟩
  | true =>
    have := hl rfl
    have h1 := varText_len a
    have h2 := varText_len b'
    have h3 := varText_len c
    have h4 := varText_len d
    have h5 := varText_len e
    simp only [Bool.not_true, cond_false, List.length_append]
    rw [decide_eq_true (by omega), decide_eq_true (by omega), decide_eq_true (by omega), decide_eq_true (by omega), decide_eq_true (by omega)]
    exact ⟨_, rfl⟩
end Go.Proofs.Ytopeacfbcdoljaa
