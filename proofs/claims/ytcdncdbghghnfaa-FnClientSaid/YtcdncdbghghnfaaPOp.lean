/- The plain law: operations and clients: the program's checks are the reference's. -/
import Derived.Test.YtcdncdbghghnfaaPVars
namespace Go.Proofs.Ytcdncdbghghnfaa
open Go Go.Proofs.Ytcdncdbghghnfaa.V
theorem opOk_same (x) : s_OpOk x = i_OpOk x := by
  obtain ⟨k, c, v, b⟩ := x
  simp only [s_OpOk, i_OpOk, i_isVersion, i_isChannel, in_s, in_i, Option.bind_some]
  by_cases h1 : k = 1
  · subst h1
    cases hb : decide ((↑b.length : Int) ≤ 250) <;> cases hv : decide (v = 0) <;> cases hc : decide (c = 0) <;> simp [*]
  · by_cases h2 : k = 2
    · subst h2
      cases hb : decide (b = []) <;> cases hv : (decide (1 ≤ v) && decide (v ≤ 6)) <;> cases hc : (decide (0 ≤ c) && decide (c ≤ 2)) <;> simp_all
    · by_cases h3 : k = 3
      · subst h3
        cases hb : decide (b = []) <;> cases hv : (decide (1 ≤ v) && decide (v ≤ 6)) <;> cases hc : decide (c = 0) <;> simp_all
      · by_cases h4 : k = 4
        · subst h4
          cases hb : decide (b = []) <;> cases hv : (decide (1 ≤ v) && decide (v ≤ 6)) <;> cases hc : decide (c = 0) <;> simp_all
        · by_cases h5 : k = 5
          · subst h5
            cases hb : decide (b = []) <;> cases hv : (decide (1 ≤ v) && decide (v ≤ 6)) <;> cases hc : decide (c = 0) <;> cases hv0 : decide (v = 0) <;> simp_all
          · cases hb : decide (b = []) <;> simp [*]
theorem opOk_is (x) : ∃ b, i_OpOk x = some b := by
  obtain ⟨k, c, v, b⟩ := x
  simp only [i_OpOk, i_isVersion, i_isChannel, in_i, Option.bind_some]
  by_cases h1 : k = 1
  · subst h1
    cases hb : decide ((↑b.length : Int) ≤ 250) <;> cases hv : decide (v = 0) <;> cases hc : decide (c = 0) <;> simp [*]
  · by_cases h2 : k = 2
    · subst h2
      cases hb : decide (b = []) <;> cases hv : (decide (1 ≤ v) && decide (v ≤ 6)) <;> cases hc : (decide (0 ≤ c) && decide (c ≤ 2)) <;> simp_all
    · by_cases h3 : k = 3
      · subst h3
        cases hb : decide (b = []) <;> cases hv : (decide (1 ≤ v) && decide (v ≤ 6)) <;> cases hc : decide (c = 0) <;> simp_all
      · by_cases h4 : k = 4
        · subst h4
          cases hb : decide (b = []) <;> cases hv : (decide (1 ≤ v) && decide (v ≤ 6)) <;> cases hc : decide (c = 0) <;> simp_all
        · by_cases h5 : k = 5
          · subst h5
            cases hb : decide (b = []) <;> cases hv : (decide (1 ≤ v) && decide (v ≤ 6)) <;> cases hc : decide (c = 0) <;> cases hv0 : decide (v = 0) <;> simp_all
          · cases hb : decide (b = []) <;> simp [*]
theorem clientOk_same (x) : s_ClientOk x = i_ClientOk x := by
  obtain ⟨i, s, b, o, g⟩ := x
  simp only [s_ClientOk, i_ClientOk, i_isNow, opOk_same, in_s, in_i, Option.bind_some]
theorem clientOk_is (x) : ∃ b, i_ClientOk x = some b := by
  obtain ⟨i, s, b, o, g⟩ := x
  obtain ⟨r, hr⟩ := opOk_is o
  simp only [i_ClientOk, i_isNow, in_i, hr, Option.bind_some]
  cases (decide (1 ≤ i) && decide (i ≤ 6)) <;> cases (decide (0 ≤ s) && decide (s ≤ 1000000)) <;> cases (decide (0 ≤ g) && decide (g ≤ 1000000)) <;> cases b <;> cases decide (1 ≤ s) <;>
    cases (decide (o.fst = 0) && (decide (o.snd.fst = 0) && (decide (o.snd.snd.fst = 0) && decide (o.snd.snd.snd = [])))) <;> simp
end Go.Proofs.Ytcdncdbghghnfaa
