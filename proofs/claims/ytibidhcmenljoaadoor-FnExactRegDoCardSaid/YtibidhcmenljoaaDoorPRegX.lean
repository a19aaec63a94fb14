/- The plain law: registries are counted, copied and held against each other. -/
import Derived.Test.YtibidhcmenljoaaDoorPMark
import Derived.Test.YtibidhcmenljoaaDoorPDo
namespace Go.Proofs.YtibidhcmenljoaaDoor
open Go Go.Proofs.YtibidhcmenljoaaDoor.V
def less (l : Int) (n : Nat) : Int := if l - (n : Int) < 0 then -1 else l - (n : Int)
theorem less_cut {l : Int} {n : Nat} (hn : n ≤ maxLen) (h3 : 0 ≤ l) (h4 : l ≤ 1048576) :
    (bif decide (IntKind.i64.wrap (l - (n : Int)) < 0) then some (-1) else some (IntKind.i64.wrap (l - (n : Int))) : Option Int) = some (less l n) := by
  have hM : maxLen ≤ 9223372036854775807 := by decide
  rw [w64 (by omega) (by omega)]
  unfold less
  by_cases h : l - (n : Int) < 0
  · rw [decide_eq_true h, if_pos h]; rfl
  · rw [decide_eq_false h, if_neg h]; rfl
theorem less_neg (a : Int) : (bif decide (a < 0) then some (-1) else some a : Option Int) = some (if a < 0 then -1 else a) := by
  by_cases h : a < 0
  · rw [decide_eq_true h, if_pos h]; rfl
  · rw [decide_eq_false h, if_neg h]; rfl
theorem less_again (l : Int) (n : Nat) : (if less l n < 0 then -1 else less l n) = less l n := by
  unfold less
  by_cases h : l - (n : Int) < 0
  · simp [h]
  · simp [h]
theorem szOp_is {o : OpT} {l : Int} (hn : o.2.2.2.length ≤ maxLen) (h3 : 0 ≤ l) (h4 : l ≤ 1048576) : w_szOp (o, l) = some (less l o.2.2.2.length) := by
  unfold w_szOp
  simp only
  rw [less_cut hn h3 h4]
theorem szAnswer_is {c : Ans} {l : Int} (hn : c.2.2.2.1.length ≤ maxLen) (h3 : 0 ≤ l) (h4 : l ≤ 1048576) : w_szAnswer (c, l) = some (less l c.2.2.2.1.length) := by
  unfold w_szAnswer
  simp only
  rw [less_cut hn h3 h4]
def szV (v : Bs × Bs × Int) : Nat := v.1.length + v.2.1.length
theorem szVersion_is {v : Bs × Bs × Int} {l : Int} (h1 : v.1.length ≤ maxLen) (h2 : v.2.1.length ≤ maxLen) (h3 : 0 ≤ l) (h4 : l ≤ 1048576) : w_szVersion (v, l) = some (less l (szV v)) := by
  have hM : maxLen ≤ 9223372036854775807 := by decide
  unfold w_szVersion
  simp only
  rw [w64 (n := l - (v.1.length : Int)) (by omega) (by omega)]
  by_cases hn : l - (v.1.length : Int) < 0
  · rw [decide_eq_true hn]
    unfold less szV
    rw [if_pos (by omega)]; rfl
  · rw [decide_eq_false hn, cond_false, less_cut h2 (by omega) (by omega), Option.some.injEq]
    unfold less szV
    by_cases hq : l - (v.1.length : Int) - (v.2.1.length : Int) < 0
    · rw [if_pos hq, if_pos (by omega)]
    · rw [if_neg hq, if_neg (by omega)]; omega
theorem szVersionS_is {l : List (Bs × Bs × Int)} {m : Int} (h1 : l.length ≤ maxLen) (h2 : ∀ b ∈ l, b.1.length ≤ maxLen ∧ b.2.1.length ≤ maxLen) (h3 : 0 ≤ m) (h4 : m ≤ 1048576) :
    ∃ n, w_szVersionS (l, m) = some n ∧ n ≤ 1048576 ∧ (0 ≤ n → l.length ≤ 1048576) := by
  have hM : maxLen ≤ 9223372036854775807 := by decide
  unfold w_szVersionS
  simp only
  rw [w64 (by omega) (by omega)]
  by_cases hn : m - (l.length : Int) < 0
  · rw [decide_eq_true hn]; exact ⟨-1, rfl, by omega, fun h => by omega⟩
  · rw [decide_eq_false hn, cond_false]
    obtain ⟨y, hy, hh⟩ := sz_loop (S := w_szVersionS_L13) (l := l) szV (by omega) (fun go i left hi q0 q1 => by
      obtain ⟨k1, k2⟩ := h2 l[i] (List.getElem_mem hi)
      unfold w_szVersionS_L13
      simp only [decN, Int.toNat_natCast, nnN, cond_true]
      rw [decide_eq_true hi, cond_true, List.getElem?_eq_getElem hi, Option.bind_some, wSucc (by omega), szVersion_is k1 k2 q0 q1, Option.bind_some]
      unfold less
      by_cases hq : left - (szV l[i] : Int) < 0
      · rw [if_pos hq, if_pos hq]; rfl
      · rw [if_neg hq, if_neg hq, decide_eq_false hq, cond_false]) (fun go left => by
      unfold w_szVersionS_L13
      simp) (left := m - (l.length : Int)) (by omega) (by omega)
    rw [hy, Option.bind_some]
    rcases hh with rfl | ⟨n, rfl, g1, g2, g3⟩
    · exact ⟨-1, rfl, by omega, fun h => by omega⟩
    · exact ⟨n, rfl, by omega, fun _ => by omega⟩
theorem szIntS_is {l : List Int} {m : Int} (h1 : l.length ≤ maxLen) (h3 : 0 ≤ m) (h4 : m ≤ 1048576) :
    ∃ n, w_szIntS (l, m) = some n ∧ n ≤ 1048576 ∧ (0 ≤ n → l.length ≤ 1048576) := by
  unfold w_szIntS
  simp only
  rw [less_cut h1 h3 h4]
  unfold less
  by_cases hn : m - (l.length : Int) < 0
  · rw [if_pos hn]; exact ⟨-1, rfl, by omega, fun h => by omega⟩
  · rw [if_neg hn]; exact ⟨_, rfl, by omega, fun h => by omega⟩
def szS (s : SesM) : Nat := s.2.2.2.2.2.1.length
theorem szSession_is {s : SesM} {l : Int} (h1 : s.2.2.2.2.2.1.length ≤ maxLen) (h3 : 0 ≤ l) (h4 : l ≤ 1048576) : w_szSession (s, l) = some (less l (szS s)) := by
  unfold w_szSession
  simp only
  rw [szAnswer_is h1 h3 h4, Option.bind_some, less_neg, less_again]
  rfl
theorem szSessionS_is {l : List SesM} {m : Int} (h1 : l.length ≤ maxLen) (h2 : ∀ b ∈ l, b.2.2.2.2.2.1.length ≤ maxLen) (h3 : 0 ≤ m) (h4 : m ≤ 1048576) :
    ∃ n, w_szSessionS (l, m) = some n ∧ n ≤ 1048576 ∧ (0 ≤ n → l.length ≤ 1048576) := by
  have hM : maxLen ≤ 9223372036854775807 := by decide
  unfold w_szSessionS
  simp only
  rw [w64 (by omega) (by omega)]
  by_cases hn : m - (l.length : Int) < 0
  · rw [decide_eq_true hn]; exact ⟨-1, rfl, by omega, fun h => by omega⟩
  · rw [decide_eq_false hn, cond_false]
    obtain ⟨y, hy, hh⟩ := sz_loop (S := w_szSessionS_L13) (l := l) szS (by omega) (fun go i left hi q0 q1 => by
      have k1 := h2 l[i] (List.getElem_mem hi)
      unfold w_szSessionS_L13
      simp only [decN, Int.toNat_natCast, nnN, cond_true]
      rw [decide_eq_true hi, cond_true, List.getElem?_eq_getElem hi, Option.bind_some, wSucc (by omega), szSession_is k1 q0 q1, Option.bind_some]
      unfold less
      by_cases hq : left - (szS l[i] : Int) < 0
      · rw [if_pos hq, if_pos hq]; rfl
      · rw [if_neg hq, if_neg hq, decide_eq_false hq, cond_false]) (fun go left => by
      unfold w_szSessionS_L13
      simp) (left := m - (l.length : Int)) (by omega) (by omega)
    rw [hy, Option.bind_some]
    rcases hh with rfl | ⟨n, rfl, g1, g2, g3⟩
    · exact ⟨-1, rfl, by omega, fun h => by omega⟩
    · exact ⟨n, rfl, by omega, fun _ => by omega⟩
structure FitR (r : RegM) : Prop where
  v : r.1.length ≤ maxLen
  vt : ∀ b ∈ r.1, b.1.length ≤ maxLen ∧ b.2.1.length ≤ maxLen
  a : r.2.1.length ≤ maxLen
  s : r.2.2.length ≤ maxLen
  st : ∀ b ∈ r.2.2, b.2.2.2.2.2.1.length ≤ maxLen
theorem szReg_is {r : RegM} {m : Int} (h : FitR r) (h3 : 0 ≤ m) (h4 : m ≤ 1048576) : ∃ n, w_szReg (r, m) = some n ∧ n ≤ 1048576 ∧ (0 ≤ n → Few r) := by
  unfold w_szReg
  simp only
  obtain ⟨a, a1, a2, a3⟩ := szVersionS_is h.v h.vt h3 h4
  rw [a1, Option.bind_some]
  by_cases k1 : a < 0
  · rw [decide_eq_true k1]; exact ⟨-1, rfl, by omega, fun h => by omega⟩
  obtain ⟨b, b1, b2, b3⟩ := szIntS_is h.a (show 0 ≤ a by omega) a2
  rw [decide_eq_false k1, cond_false, b1, Option.bind_some]
  by_cases k2 : b < 0
  · rw [decide_eq_true k2]; exact ⟨-1, rfl, by omega, fun h => by omega⟩
  obtain ⟨c, c1, c2, c3⟩ := szSessionS_is h.s h.st (show 0 ≤ b by omega) b2
  rw [decide_eq_false k2, cond_false, c1, Option.bind_some, less_neg]
  by_cases k3 : c < 0
  · rw [if_pos k3]; exact ⟨-1, rfl, by omega, fun h => by omega⟩
  · rw [if_neg k3]; exact ⟨c, rfl, c2, fun h => ⟨a3 (by omega), b3 (by omega), c3 h⟩⟩
theorem toReg_is {r : RegM} (h : Few r) : w_toReg r = some r := by
  have e1 : w_toVersionS r.1 = some r.1 := by
    unfold w_toVersionS
    rw [nn_le _ h.v, cond_true, Int.toNat_natCast, to_loop (S := w_toVersionS_L9) (([], [], 0) : Bs × Bs × Int) h.v (fun go i o hi ho => by
      have := h.v
      unfold w_toVersionS_L9 w_toVersion
      simp only [decN, Int.toNat_natCast, nnN, cond_true]
      rw [decide_eq_true hi, cond_true, List.getElem?_eq_getElem hi, List.getElem?_eq_getElem ho, wSucc (by omega)]
      rfl) (fun go o => by
      unfold w_toVersionS_L9
      simp)]
    rfl
  have e2 : w_toIntS r.2.1 = some r.2.1 := by
    unfold w_toIntS
    rw [nn_le _ h.a, cond_true, Int.toNat_natCast, to_loop (S := w_toIntS_L9) (0 : Int) h.a (fun go i o hi ho => by
      have := h.a
      unfold w_toIntS_L9
      simp only [decN, Int.toNat_natCast, nnN, cond_true]
      rw [decide_eq_true hi, cond_true, List.getElem?_eq_getElem hi, List.getElem?_eq_getElem ho, wSucc (by omega)]
      rfl) (fun go o => by
      unfold w_toIntS_L9
      simp)]
    rfl
  have e3 : w_toSessionS r.2.2 = some r.2.2 := by
    unfold w_toSessionS
    rw [nn_le _ h.s, cond_true, Int.toNat_natCast, to_loop (S := w_toSessionS_L9) ((0, 0, 0, 0, 0, [], 0, 0) : SesM) h.s (fun go i o hi ho => by
      have := h.s
      unfold w_toSessionS_L9 w_toSession w_toAnswer
      simp only [decN, Int.toNat_natCast, nnN, cond_true]
      rw [decide_eq_true hi, cond_true, List.getElem?_eq_getElem hi, List.getElem?_eq_getElem ho, wSucc (by omega)]
      rfl) (fun go o => by
      unfold w_toSessionS_L9
      simp)]
    rfl
  unfold w_toReg
  simp only [e1, e2, e3, Option.bind_some]
theorem eqAnswer_refl (a : Ans) : w_eqAnswer (a, a) = some true := by simp [w_eqAnswer]
theorem eqReg_refl {r : RegM} (h : Few r) : w_eqReg (r, r) = some true := by
  have e1 : w_eqVersionS (r.1, r.1) = some true := by
    unfold w_eqVersionS
    simp only [decide_true, Bool.not_true, cond_false]
    rw [eq_loop (S := w_eqVersionS_L11) h.v (fun go i hi => by
      have := h.v
      unfold w_eqVersionS_L11 w_eqVersion
      simp only [decN, Int.toNat_natCast, nnN, cond_true]
      rw [decide_eq_true hi, cond_true, List.getElem?_eq_getElem hi, wSucc (by omega)]
      simp) (fun go => by
      unfold w_eqVersionS_L11
      simp)]
    rfl
  have e2 : w_eqIntS (r.2.1, r.2.1) = some true := by
    unfold w_eqIntS
    simp only [decide_true, Bool.not_true, cond_false]
    rw [eq_loop (S := w_eqIntS_L11) h.a (fun go i hi => by
      have := h.a
      unfold w_eqIntS_L11
      simp only [decN, Int.toNat_natCast, nnN, cond_true]
      rw [decide_eq_true hi, cond_true, List.getElem?_eq_getElem hi, wSucc (by omega)]
      simp) (fun go => by
      unfold w_eqIntS_L11
      simp)]
    rfl
  have e3 : w_eqSessionS (r.2.2, r.2.2) = some true := by
    unfold w_eqSessionS
    simp only [decide_true, Bool.not_true, cond_false]
    rw [eq_loop (S := w_eqSessionS_L11) h.s (fun go i hi => by
      have := h.s
      unfold w_eqSessionS_L11 w_eqSession
      simp only [decN, Int.toNat_natCast, nnN, cond_true]
      rw [decide_eq_true hi, cond_true, List.getElem?_eq_getElem hi, wSucc (by omega)]
      simp [eqAnswer_refl]) (fun go => by
      unfold w_eqSessionS_L11
      simp)]
    rfl
  unfold w_eqReg
  simp only [e1, e2, e3, Option.bind_some, Bool.not_true, cond_false]
theorem toOp_is (o : OpT) : w_toOp o = some o := rfl
end Go.Proofs.YtibidhcmenljoaaDoor
