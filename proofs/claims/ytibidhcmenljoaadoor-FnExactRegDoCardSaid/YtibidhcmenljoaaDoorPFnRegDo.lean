/- The plain law of FnExactRegDo. -/
import Derived.Test.YtibidhcmenljoaaDoorPRegX
import Derived.Test.YtibidhcmenljoaaDoorPSpecDo
namespace Go.Proofs.YtibidhcmenljoaaDoor
open Go Go.Proofs.YtibidhcmenljoaaDoor.V
noncomputable def RD (r : RegT) (o : OpT) : RegT × Ans := if regB r = true then ((doP r o).2, (doP r o).1) else (([], [], []), (1, 0, 0, [], 0, 0))
theorem s_RegDo_is (r : RegT) (o : OpT) : s_RegDo (r, o) = some (RD r o) := by
  unfold s_RegDo RD
  simp only [s_RegOk_is, Option.bind_some]
  cases h : regB r with
  | false => rfl
  | true =>
    have hr := regB_iff.1 h
    have h6 := hr.v6
    have h3 := hr.a3
    have hs := hr.s6
    have hc : s_l12Copy r = some r := by
      unfold s_l12Copy
      rw [decide_eq_true (show 0 + r.1.length ≤ 4294967296 by omega), cond_true, decide_eq_true (show 0 + r.2.1.length ≤ 4294967296 by omega), cond_true, decide_eq_true (show 0 + r.2.2.length ≤ 4294967296 by omega)]
      rfl
    obtain ⟨z, hz, rfl⟩ := s_do_is hr o
    simp only [Bool.not_true, cond_false, hc, hz, Option.bind_some, if_true]
theorem few_of {r : RegT} (hr : RegP r) : Few r := ⟨by have := hr.v6; omega, by have := hr.a3; omega, by have := hr.s6; omega⟩
theorem few_nil : Few ([], [], []) := ⟨by simp, by simp, by simp⟩
theorem rd_few (r : RegT) (o : OpT) : Few (RD r o).1 := by
  unfold RD
  by_cases h : regB r = true
  · rw [if_pos h]; exact few_of (do_fwd (regB_iff.1 h) o).reg
  · rw [if_neg h]; exact few_nil
theorem i_RegDo_is (r : RegT) (o : OpT) : i_RegDo (r, o) = some (RD r o) := by
  rw [RegDo_is]; rfl
theorem law3 {x : RegM × OpT} (hr : FitR x.1) (ho : x.2.2.2.2.length ≤ maxLen) : w_FnExactRegDo x = some true := by
  unfold w_FnExactRegDo
  obtain ⟨n, hn, n1, n2⟩ := szReg_is (m := 1048576) hr (by omega) (by omega)
  rw [hn, Option.bind_some]
  by_cases q : n < 0
  · rw [decide_eq_true q]; rfl
  rw [decide_eq_false q, cond_false, szOp_is ho (by omega) n1, Option.bind_some]
  by_cases q2 : less n x.2.2.2.2.length < 0
  · rw [decide_eq_true q2]; rfl
  have hf := n2 (by omega)
  have hg := rd_few x.1 x.2
  obtain ⟨k, r1, m1, m2, m3⟩ := markReg_is hf
  obtain ⟨k', r2, m1', m2', m3'⟩ := markReg_is hg
  simp only [decide_eq_false q2, cond_false, toReg_is hf, toOp_is, s_RegDo_is, i_RegDo_is, Option.bind_some, eqReg_refl hg, eqReg_refl hf, eqAnswer_refl, m1, m1', m3', decide_eq_false (show ¬ k < 0 by omega), decide_eq_false (show ¬ k' < 0 by omega), decide_true]
  simp
theorem law3W (x : RegM × OpT) (hx : WFs [t26, t28] x) : w_FnExactRegDo x = some true :=
  law3 ⟨hx.1.1.1, fun b hb => ⟨(hx.1.1.2 b hb).1, (hx.1.1.2 b hb).2.1⟩, hx.1.2.1.1, hx.1.2.2.1, fun b hb => (hx.1.2.2.2 b hb).2.2.2.2.2.1⟩ hx.2.1.2.2.2
end Go.Proofs.YtibidhcmenljoaaDoor
