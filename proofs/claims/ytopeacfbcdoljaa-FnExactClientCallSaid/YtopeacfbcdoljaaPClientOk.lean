/- The plain law: the program's ClientOk is the reference's. -/
import Derived.Test.YtopeacfbcdoljaaFA
namespace Go.Proofs.Ytopeacfbcdoljaa
open Go Go.Proofs.Ytopeacfbcdoljaa.V
theorem in37 (a lo hi : Int) : F37 (a, lo, hi) = some (decide (lo ≤ a) && decide (a ≤ hi)) := by
  simp only [F37]; cases decide (lo ≤ a) <;> rfl
theorem in39 (a lo hi : Int) : F39 (a, lo, hi) = some (decide (lo ≤ a) && decide (a ≤ hi)) := by
  simp only [F39]; cases decide (lo ≤ a) <;> rfl
theorem op38 (x) : F38 x = F41 x := by
  obtain ⟨k, c, v, b⟩ := x
  simp only [F38, F41, F72, F73, in37, in39, Option.bind_some]
  by_cases h1 : k = 1
  · subst h1
    cases hb : decide ((↑b.length : Int) ≤ 250) <;> cases hv : decide (v = 0) <;> cases hc : decide (c = 0) <;> simp [*]
  · by_cases h2 : k = 2
    · subst h2
      cases hb : decide (b = []) <;> cases hv : (decide (1 ≤ v) && decide (v ≤ 6)) <;> cases hc : (decide (0 ≤ c) && decide (c ≤ 2)) <;> simp_all
    · by_cases h3 : k = 3
      · subst h3
        cases hb : decide (b = []) <;> cases hv : (decide (1 ≤ v) && decide (v ≤ 6)) <;> cases hc : decide (c = 0) <;> simp_all
      · by_cases h4 : k = 4
        · subst h4
          cases hb : decide (b = []) <;> cases hv : (decide (1 ≤ v) && decide (v ≤ 6)) <;> cases hc : decide (c = 0) <;> simp_all
        · by_cases h5 : k = 5
          · subst h5
            cases hb : decide (b = []) <;> cases hv : (decide (1 ≤ v) && decide (v ≤ 6)) <;> cases hc : decide (c = 0) <;> cases hv0 : decide (v = 0) <;> simp_all
          · cases hb : decide (b = []) <;> simp [*]
theorem op41 (x) : ∃ b, F41 x = some b := by
  obtain ⟨k, c, v, b⟩ := x
  simp only [F41, F72, F73, in39, Option.bind_some]
  by_cases h1 : k = 1
  · subst h1
    cases hb : decide ((↑b.length : Int) ≤ 250) <;> cases hv : decide (v = 0) <;> cases hc : decide (c = 0) <;> simp [*]
  · by_cases h2 : k = 2
    · subst h2
      cases hb : decide (b = []) <;> cases hv : (decide (1 ≤ v) && decide (v ≤ 6)) <;> cases hc : (decide (0 ≤ c) && decide (c ≤ 2)) <;> simp_all
    · by_cases h3 : k = 3
      · subst h3
        cases hb : decide (b = []) <;> cases hv : (decide (1 ≤ v) && decide (v ≤ 6)) <;> cases hc : decide (c = 0) <;> simp_all
      · by_cases h4 : k = 4
        · subst h4
          cases hb : decide (b = []) <;> cases hv : (decide (1 ≤ v) && decide (v ≤ 6)) <;> cases hc : decide (c = 0) <;> simp_all
        · by_cases h5 : k = 5
          · subst h5
            cases hb : decide (b = []) <;> cases hv : (decide (1 ≤ v) && decide (v ≤ 6)) <;> cases hc : decide (c = 0) <;> cases hv0 : decide (v = 0) <;> simp_all
          · cases hb : decide (b = []) <;> simp [*]
theorem cl9 (x) : F9 x = F11 x := by
  obtain ⟨i, s, b, o, g⟩ := x
  simp only [F9, F11, F40, op38, in37, in39, Option.bind_some]
theorem cl11 (x) : ∃ b, F11 x = some b := by
  obtain ⟨i, s, b, o, g⟩ := x
  obtain ⟨r, hr⟩ := op41 o
  simp only [F11, F40, in39, hr, Option.bind_some]
  cases (decide (1 ≤ i) && decide (i ≤ 6)) <;> cases (decide (0 ≤ s) && decide (s ≤ 1000000)) <;> cases (decide (0 ≤ g) && decide (g ≤ 1000000)) <;> cases b <;> cases decide (1 ≤ s) <;>
    cases (decide (o.fst = 0) && (decide (o.snd.fst = 0) && (decide (o.snd.snd.fst = 0) && decide (o.snd.snd.snd = [])))) <;> simp
theorem to14 (x) : F14 x = some x := rfl
theorem to10 (x) : F10 x = some x := rfl
theorem sz12 (x) : ∃ n, F12 x = some n := by
  unfold F12
  cases decide (IntKind.i64.wrap (x.snd - ↑(List.length x.fst.snd.snd.snd)) < 0) <;> simp
theorem sz8 (x) : ∃ n, F8 x = some n := by
  unfold F8
  obtain ⟨n, hn⟩ := sz12 (x.fst.snd.snd.snd.fst, x.snd)
  rw [hn]
  simp only [Option.bind_some]
  cases decide (n < 0) <;> simp
theorem law3a (x) : F3 x = some true := by
  unfold F3
  obtain ⟨n, hn⟩ := sz8 (x, 1048576)
  obtain ⟨b, hb⟩ := cl11 x
  rw [hn]
  simp only [to10, cl9, hb, Option.bind_some]
  cases decide (n < 0) <;> simp
theorem law3 (x) (_ : WFs [t25] x) : F3 x = some true := law3a x
end Go.Proofs.Ytopeacfbcdoljaa
