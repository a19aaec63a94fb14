/- The plain law: a registry that is put away and taken back is the same. -/
import Derived.Test.YtacbkfginiknaaaDoorPImage
import Derived.Test.YtacbkfginiknaaaDoorPFnOnce
namespace Go.Proofs.YtacbkfginiknaaaDoor
open Go Go.Proofs.YtacbkfginiknaaaDoor.V
theorem law10 (x : List Int) : w_FnImage x = some true := by
  unfold w_FnImage w_big
  simp only [Option.bind_some]
  refine (?_ : (bif decide (1048576 < (x.length : Int)) then some true else _) = some true)
  by_cases hb : 1048576 < (x.length : Int)
  · rw [decide_eq_true hb]; rfl
  · rw [decide_eq_false hb, cond_false]
    obtain ⟨⟨r, cl, se, o, ix⟩, hz⟩ := drawServe_tot x (by omega)
    simp only [hz, Option.bind_some, i_ShowReg_is, s_RegOk_is, i_Serve_is, s_Serve_is]
    cases hr : regB r with
    | false =>
      obtain ⟨y, hy⟩ := i_ReadReg_nil
      simp only [Bool.false_eq_true, if_false, hy, Option.bind_some]
      rfl
    | true =>
      have hR := regB_iff.1 hr
      have hS : RegP (ServeP r cl se o ix).1 := by
        unfold ServeP
        rw [if_pos hr]
        exact serv_right hR cl se o ix
      have hl := regT_len hR
      simp only [if_true, i_ReadReg_is hR, Option.bind_some, Bool.not_true, cond_false, cond_true, same_right hR, same_right hS, decide_true, Bool.and_self, beq_self_eq_true]
      rw [decide_eq_true (show ((regT r).length : Int) ≤ 8000 by omega)]
end Go.Proofs.YtacbkfginiknaaaDoor
