/- The plain law: the program's ClientCall is the reference's. -/
import Derived.Test.YtopeacfbcdoljaaPClientOk
namespace Go.Proofs.Ytopeacfbcdoljaa
open Go Go.Proofs.Ytopeacfbcdoljaa.V
theorem cl11_serial {x} (h : F11 x = some true) : 0 ≤ x.2.1 ∧ x.2.1 ≤ 1000000 := by
  obtain ⟨i, s, b, o, g⟩ := x
  simp only [F11, F40, in39, Option.bind_some] at h
  cases h2 : (decide (0 ≤ s) && decide (s ≤ 1000000)) with
  | true => simpa using h2
  | false =>
    rw [h2] at h
    cases h1 : (decide (1 ≤ i) && decide (i ≤ 6)) <;> rw [h1] at h <;> simp at h
theorem call13 (x) : F13 x = F15 x := by
  obtain ⟨c, o, n⟩ := x
  obtain ⟨b, hb⟩ := cl11 c
  simp only [F13, F15, F40, cl9, op38, in37, in39, hb, Option.bind_some]
  cases b with
  | false => rfl
  | true =>
    have h := cl11_serial hb
    have h1 : decide (1000000 ≤ c.2.1) = decide (c.2.1 = 1000000) := by
      rw [decide_eq_decide]; omega
    simp only [h1]
theorem call15 (x) : ∃ y, F15 x = some y := by
  obtain ⟨c, o, n⟩ := x
  obtain ⟨b, hb⟩ := cl11 c
  obtain ⟨d, hd⟩ := op41 o
  simp only [F15, F40, in39, hb, hd, Option.bind_some]
  cases b <;> cases d <;> cases c.2.2.1 <;> cases decide (c.2.1 = 1000000) <;> cases (decide (0 ≤ n) && decide (n ≤ 1000000)) <;> simp
theorem eqop42 (x) : F42 (x, x) = some true := by simp [F42]
theorem eqcl16 (x) : F16 (x, x) = some true := by simp [F16, eqop42]
theorem law4a (x) : F4 x = some true := by
  obtain ⟨c, o, n⟩ := x
  obtain ⟨m, hm⟩ := sz8 (c, 1048576)
  obtain ⟨q, hq⟩ := sz12 (o, m)
  obtain ⟨y, hy⟩ := call15 (c, o, n)
  simp only [F4, hm, hq, to10, to14, call13, hy, eqcl16, Option.bind_some]
  cases decide (m < 0) <;> cases decide (q < 0) <;> simp
theorem law4 (x) (_ : WFs [t25, t23, .int .i64] x) : F4 x = some true := law4a x
end Go.Proofs.Ytopeacfbcdoljaa
