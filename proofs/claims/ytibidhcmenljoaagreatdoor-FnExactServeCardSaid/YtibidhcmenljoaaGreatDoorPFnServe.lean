/- The plain law of FnExactServe. -/
import Derived.Test.YtibidhcmenljoaaGreatDoorPRegX
import Derived.Test.YtibidhcmenljoaaGreatDoorPServeS
namespace Go.Proofs.YtibidhcmenljoaaGreatDoor
open Go Go.Proofs.YtibidhcmenljoaaGreatDoor.V
theorem few_of {r : RegT} (hr : RegP r) : Few r := ⟨by have := hr.v6; omega, by have := hr.a3; omega, by have := hr.s6; omega⟩
theorem few_nil : Few ([], [], []) := ⟨by simp, by simp, by simp⟩
theorem serve_few (r : RegT) (cl se : Int) (o : OpT) (ix : Int) : Few (ServeP r cl se o ix).1 := by
  unfold ServeP
  by_cases h : regB r = true
  · rw [if_pos h]; exact few_of (serv_right (regB_iff.1 h) cl se o ix)
  · rw [if_neg h]; exact few_nil
theorem lawS {x : RegM × Int × Int × OpT × Int} (hr : FitR x.1) (ho : x.2.2.2.1.2.2.2.length ≤ maxLen) : w_FnExactServe x = some true := by
  unfold w_FnExactServe
  obtain ⟨n, hn, n1, n2⟩ := szReg_is (m := 1048576) hr (by omega) (by omega)
  rw [hn, Option.bind_some]
  by_cases q : n < 0
  · rw [decide_eq_true q]; rfl
  rw [decide_eq_false q, cond_false, szOp_is ho (by omega) n1, Option.bind_some]
  by_cases q2 : less n x.2.2.2.1.2.2.2.length < 0
  · rw [decide_eq_true q2]; rfl
  have hf := n2 (by omega)
  have hg := serve_few x.1 x.2.1 x.2.2.1 x.2.2.2.1 x.2.2.2.2
  obtain ⟨k, r1, m1, m2, m3⟩ := markReg_is hf
  obtain ⟨k', r2, m1', m2', m3'⟩ := markReg_is hg
  simp only [decide_eq_false q2, cond_false, toReg_is hf, toOp_is, s_Serve_is, i_Serve_is, Option.bind_some, eqReg_refl hg, eqReg_refl hf, eqAnswer_refl, m1, m1', m3', decide_eq_false (show ¬ k < 0 by omega), decide_eq_false (show ¬ k' < 0 by omega), decide_true]
  simp
theorem lawSW (x : RegM × Int × Int × OpT × Int) (hx : WFs [t26, .int .i64, .int .i64, t28, .int .i64] x) : w_FnExactServe x = some true :=
  lawS ⟨hx.1.1.1, fun b hb => ⟨(hx.1.1.2 b hb).1, (hx.1.1.2 b hb).2.1⟩, hx.1.2.1.1, hx.1.2.2.1, fun b hb => (hx.1.2.2.2 b hb).2.2.2.2.2.1⟩ hx.2.2.2.1.2.2.2
end Go.Proofs.YtibidhcmenljoaaGreatDoor
