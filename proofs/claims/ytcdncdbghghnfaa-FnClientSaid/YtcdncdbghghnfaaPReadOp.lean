/- The plain law: the program's ShowOp and ReadOp are the reference's. -/
import Derived.Test.YtcdncdbghghnfaaPOp
namespace Go.Proofs.Ytcdncdbghghnfaa
open Go Go.Proofs.Ytcdncdbghghnfaa.V
theorem showOp_same (x) : s_ShowOp x = i_ShowOp x := by
  simp only [s_ShowOp, i_ShowOp, opOk_same, s_Var_is, i_Var_is]
theorem showOp_is {x} (h : x.2.2.2.length ≤ 2305843009213693952) : ∃ y, i_ShowOp x = some y := by
  obtain ⟨b, hb⟩ := opOk_is x
  obtain ⟨k, c, v, d⟩ := x
  simp only at h
  simp only [i_ShowOp, hb, Option.bind_some, i_Var_is]
  cases b with
  | false => exact ⟨[], rfl⟩
  | true =>
    have h1 := varText_len c
    have h2 := varText_len v
    have h3 : (List.map (fun b => UInt8.ofNat b.toNat) ((List.replicate 1 (0 : Int)).set 0 (IntKind.u8.wrap k))).length = 1 := by simp
    simp only [Bool.not_true, cond_false, List.length_append, h3]
    rw [decide_eq_true (by omega), decide_eq_true (by omega), decide_eq_true (by omega)]
    exact ⟨_, rfl⟩
theorem scan_byte_nil : i_scan_byte ([], false) = some (0, [], true) := by
  simp [i_scan_byte, i_scan_cut, in_i]
theorem scan_byte_cons (b : UInt8) (t : List UInt8) : i_scan_byte (b :: t, false) = some (IntKind.i64.wrap (b.toNat : Int), t, false) := by
  have h1 : decide ((1 : Int) ≤ (↑(List.length (b :: t)) : Int)) = true := by simp; omega
  have h2 : ([b] : List UInt8)[Int.toNat 0]? = some b := rfl
  have h3 : decide (([b] : List UInt8) = []) = false := by simp
  have h4 : List.take (Int.toNat 1) (b :: t) = [b] := rfl
  have h5 : List.drop (Int.toNat 1) (b :: t) = t := rfl
  simp only [i_scan_byte, i_scan_cut, in_i, h1, Option.bind_some, Bool.not_false, cond_true, decide_eq_true (show (0 : Int) ≤ 1 by omega), Bool.and_self, Bool.not_true, cond_false, h4, h5, h3, h2]
end Go.Proofs.Ytcdncdbghghnfaa
