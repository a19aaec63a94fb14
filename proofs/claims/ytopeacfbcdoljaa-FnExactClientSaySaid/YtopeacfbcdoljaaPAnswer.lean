/- The plain law: the program's ReadAnswer is the reference's. -/
import Derived.Test.YtopeacfbcdoljaaPVars
namespace Go.Proofs.Ytopeacfbcdoljaa
open Go Go.Proofs.Ytopeacfbcdoljaa.V
/-- So many numbers off the program's scanner. -/
def numsP : Nat → List UInt8 × Bool → List Int × List UInt8 × Bool
  | 0, x => ([], x)
  | n + 1, x => ((numP x).1 :: (numsP n (numP x).2).1, (numsP n (numP x).2).2)
theorem nums_bad : ∀ n (r : List UInt8), (numsP n (r, true)).2.2 = true := by
  intro n
  induction n with
  | zero => intro r; rfl
  | succ n ih => intro r; simp [numsP, numP, ih]
theorem nums_is {s : List UInt8} : ∀ n a, match varsAt s n a with
    | some p => numsP n (s.drop a, false) = (p.1, s.drop p.2, false)
    | none => (numsP n (s.drop a, false)).2.2 = true := by
  intro n
  induction n with
  | zero => intro a; simp [varsAt, numsP]
  | succ n ih =>
    intro a
    rw [varsAt]
    by_cases h : (rv (s.drop a)).2 = 0
    · rw [if_pos h]
      simp [numsP, numP, h, nums_bad]
    · rw [if_neg h]
      have := ih (a + (rv (s.drop a)).2.toNat)
      have hn : numP (s.drop a, false) = ((rv (s.drop a)).1, s.drop (a + (rv (s.drop a)).2.toNat), false) := by simp [numP, h, List.drop_drop]
      cases hv : varsAt s n (a + (rv (s.drop a)).2.toNat) with
      | none => rw [hv] at this; simp only [Option.map_none, numsP, hn]; exact this
      | some p => rw [hv] at this; simp only [Option.map_some, numsP, hn, this]
theorem list5 {l : List Int} (h : l.length = 5) : ∃ a b c d e, l = [a, b, c, d, e] := by
  match l, h with
  | [a, b, c, d, e], _ => exact ⟨a, b, c, d, e, rfl⟩
theorem readAnswer_same {s : List UInt8} (hs : s.length ≤ 9223372036854775807) : s_ReadAnswer s = i_ReadAnswer s ∧ ∃ y, i_ReadAnswer s = some y := by
  have h1 := l13Vars_is hs (a := 0) (n := 5) (by omega) (by omega)
  have h2 := nums_is (s := s) 5 0
  rw [List.drop_zero] at h2
  simp only [numsP] at h2
  unfold s_ReadAnswer i_ReadAnswer
  simp only [scan_num_is, Option.bind_some]
  generalize hy1 : numP (s, false) = y1 at *
  generalize hy2 : numP y1.2 = y2 at *
  generalize hy3 : numP y2.2 = y3 at *
  generalize hy4 : numP y3.2 = y4 at *
  generalize hy5 : numP y4.2 = y5 at *
  cases hv : varsAt s 5 0 with
  | none =>
    rw [hv] at h1 h2
    obtain ⟨o', ho⟩ := h1
    have ho' : s_l13Vars (s, 0, 5) = some (o', -1) := ho
    simp only at h2
    simp [ho', h2]
  | some p =>
    rw [hv] at h1 h2
    have h1' : s_l13Vars (s, 0, 5) = some (p.1, (p.2 : Int)) := h1
    obtain ⟨p1, p2⟩ := p
    obtain ⟨hp, hl⟩ := vars_le 5 0 (by omega) hv
    obtain ⟨a, b, c, d, e, rfl⟩ := list5 hl
    simp only [Prod.mk.injEq, List.cons.injEq, and_true] at h2
    obtain ⟨⟨k1, k2, k3, k4, k5⟩, k6⟩ := h2
    obtain ⟨k6, k7⟩ : y5.2.1 = s.drop p2 ∧ y5.2.2 = false := by rw [k6]; exact ⟨rfl, rfl⟩
    obtain ⟨z, hz⟩ := showAnswer_is (a, b, c, s.drop p2, d, e)
    have q1 : decide ((p2 : Int) < 0) = false := by simp
    have q2 : (decide ((0 : Int) ≤ (p2 : Int)) && decide ((p2 : Int) ≤ (↑s.length : Int))) = true := by simp only at hp; simp; omega
    simp only [h1', Option.bind_some, q1, cond_false, q2, cond_true, k1, k2, k3, k4, k5, k6, k7, Bool.not_false, showAnswer_same, Int.toNat_natCast, hz]
    have g : ∀ (i : Nat) (x : Int), ([a, b, c, d, e] : List Int)[i]? = some x → ([a, b, c, d, e] : List Int)[Int.toNat (i : Int)]? = some x := fun i x h => by rw [Int.toNat_natCast]; exact h
    have hz0 : s ≠ [] := by
      rintro rfl
      simp [varsAt, rv, rvI] at hv
    have hz1 : decide (s = []) = false := by simpa using hz0
    have u0 : ([a, b, c, d, e] : List Int)[Int.toNat 0]? = some a := rfl
    have u1 : ([a, b, c, d, e] : List Int)[Int.toNat 1]? = some b := rfl
    have u2 : ([a, b, c, d, e] : List Int)[Int.toNat 2]? = some c := rfl
    have u3 : ([a, b, c, d, e] : List Int)[Int.toNat 3]? = some d := rfl
    have u4 : ([a, b, c, d, e] : List Int)[Int.toNat 4]? = some e := rfl
    have v0 : ([a, b, c, d, e] : List Int)[0]? = some a := rfl
    have v1 : ([a, b, c, d, e] : List Int)[1]? = some b := rfl
    have v2 : ([a, b, c, d, e] : List Int)[2]? = some c := rfl
    have v3 : ([a, b, c, d, e] : List Int)[3]? = some d := rfl
    have v4 : ([a, b, c, d, e] : List Int)[4]? = some e := rfl
    simp only [u0, u1, u2, u3, u4, v0, v1, v2, v3, v4, Option.bind_some, hz, hz1]
    cases hd : decide (z = s) <;> simp
end Go.Proofs.Ytopeacfbcdoljaa
