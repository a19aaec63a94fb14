/- The plain law: the program's ShowOp and ReadOp are the reference's. -/
import Derived.Test.YtopeacfbcdoljaaPOp
namespace Go.Proofs.Ytopeacfbcdoljaa
open Go Go.Proofs.Ytopeacfbcdoljaa.V
theorem showOp_same (x) : s_ShowOp x = i_ShowOp x := by
  simp only [s_ShowOp, i_ShowOp, opOk_same, s_Var_is, i_Var_is]
theorem showOp_is {x} (h : x.2.2.2.length ≤ 2305843009213693952) : ∃ y, i_ShowOp x = some y := by
  obtain ⟨b, hb⟩ := opOk_is x
  obtain ⟨k, c, v, d⟩ := x
  simp only at h
  simp only [i_ShowOp, hb, Option.bind_some, i_Var_is]
  cases b with
  | false => exact ⟨[], rfl⟩
  | true =>
    have h1 := varText_len c
    have h2 := varText_len v
    have h3 : (List.map (fun b => UInt8.ofNat b.toNat) ((List.replicate 1 (0 : Int)).set 0 (IntKind.u8.wrap k))).length = 1 := by simp
    simp only [Bool.not_true, cond_false, List.length_append, h3]
    rw [decide_eq_true (by omega), decide_eq_true (by omega), decide_eq_true (by omega)]
    exact ⟨_, rfl⟩
theorem list2 {l : List Int} (h : l.length = 2) : ∃ a b, l = [a, b] := by
  match l, h with
  | [a, b], _ => exact ⟨a, b, rfl⟩
theorem scan_byte_nil : i_scan_byte ([], false) = some (0, [], true) := by
  simp [i_scan_byte, i_scan_cut, in_i]
theorem scan_byte_cons (b : UInt8) (t : List UInt8) : i_scan_byte (b :: t, false) = some (IntKind.i64.wrap (b.toNat : Int), t, false) := by
  have h1 : decide ((1 : Int) ≤ (↑(List.length (b :: t)) : Int)) = true := by simp; omega
  have h2 : ([b] : List UInt8)[Int.toNat 0]? = some b := rfl
  have h3 : decide (([b] : List UInt8) = []) = false := by simp
  have h4 : List.take (Int.toNat 1) (b :: t) = [b] := rfl
  have h5 : List.drop (Int.toNat 1) (b :: t) = t := rfl
  simp only [i_scan_byte, i_scan_cut, in_i, h1, Option.bind_some, Bool.not_false, cond_true, decide_eq_true (show (0 : Int) ≤ 1 by omega), Bool.and_self, Bool.not_true, cond_false, h4, h5, h3, h2]
theorem readOp_same {s : List UInt8} (hs : s.length ≤ 2305843009213693952) : s_ReadOp s = i_ReadOp s ∧ ∃ y, i_ReadOp s = some y := by
  cases s with
  | nil =>
    have h1 : s_l13Vars ([], 1, 2) = some ([], -1) := by
      have : iter s_l13Vars_L9 FUEL (([] : List UInt8), (1 : Int), (2 : Int), List.replicate 0 (0 : Int), (0 : Int)) = some (.inr ([], -1)) := rfl
      simp only [s_l13Vars, this, Option.bind_some, sumK]
    have h2 : i_ReadOp [] = some ((0, 0, 0, []), false) := by
      simp [i_ReadOp, i_scan_op, scan_byte_nil, scan_num_is, numP]
    rw [h2]
    refine ⟨?_, _, rfl⟩
    simp only [s_ReadOp, h1, Option.bind_some]
    rfl
  | cons b0 t =>
    have hl0 : (b0 :: t).length = t.length + 1 := rfl
    have h1 := l13Vars_is (s := b0 :: t) (by omega) (a := 1) (n := 2) (by omega) (by omega)
    have h2 := nums_is (s := b0 :: t) 2 1
    have hd1 : (b0 :: t).drop 1 = t := rfl
    rw [hd1] at h2
    simp only [numsP] at h2
    unfold s_ReadOp i_ReadOp i_scan_op
    simp only [scan_byte_cons, scan_num_is, Option.bind_some]
    generalize hy1 : numP (t, false) = y1 at *
    generalize hy2 : numP y1.2 = y2 at *
    cases hv : varsAt (b0 :: t) 2 1 with
    | none =>
      rw [hv] at h1 h2
      obtain ⟨o', ho⟩ := h1
      have ho' : s_l13Vars (b0 :: t, 1, 2) = some (o', -1) := ho
      simp only at h2
      simp [ho', h2]
    | some p =>
      rw [hv] at h1 h2
      have h1' : s_l13Vars (b0 :: t, 1, 2) = some (p.1, (p.2 : Int)) := h1
      obtain ⟨p1, p2⟩ := p
      obtain ⟨hp, hl⟩ := vars_le 2 1 (by omega) hv
      obtain ⟨a, b, rfl⟩ := list2 hl
      simp only [Prod.mk.injEq, List.cons.injEq, and_true] at h2
      obtain ⟨⟨k1, k2⟩, k6⟩ := h2
      obtain ⟨k6, k7⟩ : y2.2.1 = (b0 :: t).drop p2 ∧ y2.2.2 = false := by rw [k6]; exact ⟨rfl, rfl⟩
      obtain ⟨z, hz⟩ := showOp_is (x := (IntKind.i64.wrap (b0.toNat : Int), a, b, (b0 :: t).drop p2)) (by simp only [List.length_drop]; omega)
      have q1 : decide ((p2 : Int) < 0) = false := by simp
      have q2 : (decide ((0 : Int) ≤ (p2 : Int)) && decide ((p2 : Int) ≤ (↑(b0 :: t).length : Int))) = true := by simp only at hp; simp; simp at hp; omega
      have hz1 : decide ((b0 :: t) = []) = false := by simp
      have u0 : ([a, b] : List Int)[Int.toNat 0]? = some a := rfl
      have u1 : ([a, b] : List Int)[Int.toNat 1]? = some b := rfl
      have v0 : ([a, b] : List Int)[0]? = some a := rfl
      have v1 : ([a, b] : List Int)[1]? = some b := rfl
      have w0 : (b0 :: t)[Int.toNat 0]? = some b0 := rfl
      simp only [h1', Option.bind_some, q1, cond_false, q2, cond_true, k1, k2, k6, k7, Bool.not_false, showOp_same, Int.toNat_natCast, u0, u1, v0, v1, w0, hz, hz1]
      cases hd : decide (z = b0 :: t) <;> simp
end Go.Proofs.Ytopeacfbcdoljaa
