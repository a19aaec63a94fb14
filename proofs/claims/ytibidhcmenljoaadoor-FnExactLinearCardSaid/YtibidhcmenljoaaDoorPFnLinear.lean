/- The plain law of FnExactLinear. -/
import Derived.Test.YtibidhcmenljoaaDoorPLinear
import Derived.Test.YtibidhcmenljoaaDoorPRows
namespace Go.Proofs.YtibidhcmenljoaaDoor
open Go Go.Proofs.YtibidhcmenljoaaDoor.V
def szD (d : DoneT) : Nat := d.2.2.1.2.2.2.length + d.2.2.2.1.2.2.2.1.length
theorem szDone_is {d : DoneT} {l : Int} (h1 : d.2.2.1.2.2.2.length ≤ maxLen) (h2 : d.2.2.2.1.2.2.2.1.length ≤ maxLen) (h3 : 0 ≤ l) (h4 : l ≤ 1048576) :
    w_szDone (d, l) = some (if l - (szD d : Int) < 0 then -1 else l - (szD d : Int)) := by
  have hM : maxLen ≤ 9223372036854775807 := by decide
  unfold w_szDone w_szOp w_szAnswer szD
  simp only
  rw [w64 (by omega) (by omega)]
  by_cases hn : l - (d.2.2.1.2.2.2.length : Int) < 0
  · rw [decide_eq_true hn, if_pos (by omega)]; rfl
  · rw [decide_eq_false hn, cond_false, Option.bind_some, decide_eq_false hn, cond_false, w64 (by omega) (by omega)]
    by_cases hq : l - (d.2.2.1.2.2.2.length : Int) - (d.2.2.2.1.2.2.2.1.length : Int) < 0
    · rw [decide_eq_true hq, if_pos (by omega)]; rfl
    · rw [decide_eq_false hq, if_neg (by omega), cond_false, Option.bind_some, decide_eq_false hq, cond_false, Option.some.injEq]
      omega
theorem szDoneS_is {ds : List DoneT} (h1 : ds.length ≤ maxLen) (h2 : ∀ d ∈ ds, d.2.2.1.2.2.2.length ≤ maxLen ∧ d.2.2.2.1.2.2.2.1.length ≤ maxLen) :
    ∃ n, w_szDoneS (ds, 1048576) = some n ∧ n ≤ 1048576 ∧ (0 ≤ n → ds.length ≤ 1048576) := by
  have hM : maxLen ≤ 9223372036854775807 := by decide
  unfold w_szDoneS
  simp only
  rw [w64 (by omega) (by omega)]
  by_cases hn : (1048576 : Int) - (ds.length : Int) < 0
  · rw [decide_eq_true hn]; exact ⟨-1, rfl, by omega, fun h => by omega⟩
  · rw [decide_eq_false hn, cond_false]
    obtain ⟨y, hy, hh⟩ := sz_loop (S := w_szDoneS_L13) (l := ds) szD (by omega) (fun go i left hi q0 q1 => by
      obtain ⟨k1, k2⟩ := h2 ds[i] (List.getElem_mem hi)
      unfold w_szDoneS_L13
      simp only [decN, Int.toNat_natCast, nnN, cond_true]
      rw [decide_eq_true hi, cond_true, List.getElem?_eq_getElem hi, Option.bind_some, wSucc (by omega), szDone_is k1 k2 q0 q1, Option.bind_some]
      by_cases hq : left - (szD ds[i] : Int) < 0
      · rw [if_pos hq, if_pos hq]; rfl
      · rw [if_neg hq, if_neg hq, decide_eq_false hq, cond_false]) (fun go left => by
      unfold w_szDoneS_L13
      simp) (left := 1048576 - (ds.length : Int)) (by omega) (by omega)
    rw [hy, Option.bind_some]
    rcases hh with rfl | ⟨n, rfl, g1, g2, g3⟩
    · exact ⟨-1, rfl, by omega, fun h => by omega⟩
    · exact ⟨n, rfl, by omega, fun _ => by omega⟩
theorem toDoneS_is {ds : List DoneT} (h : ds.length ≤ 1048576) : w_toDoneS ds = some ds := by
  unfold w_toDoneS
  rw [nn_le _ h, cond_true, Int.toNat_natCast, to_loop (S := w_toDoneS_L9) ((0, 0, (0, 0, 0, []), (0, 0, 0, [], 0, 0), 0, 0) : DoneT) h (fun go i o hi ho => by
    unfold w_toDoneS_L9 w_toDone w_toOp w_toAnswer
    simp only [decN, Int.toNat_natCast, nnN, cond_true]
    rw [decide_eq_true hi, cond_true, List.getElem?_eq_getElem hi, List.getElem?_eq_getElem ho, wSucc (by omega)]
    rfl) (fun go o => by
    unfold w_toDoneS_L9
    simp)]
  rfl
theorem eqDone_refl (x : DoneT) : w_eqDone (x, x) = some true := by simp [w_eqDone, w_eqOp, w_eqAnswer]
theorem eqDoneS_refl {ds : List DoneT} (h : ds.length ≤ 1048576) : w_eqDoneS (ds, ds) = some true := by
  unfold w_eqDoneS
  simp only [decide_true, Bool.not_true, cond_false]
  rw [eq_loop (S := w_eqDoneS_L11) h (fun go i hi => by
    unfold w_eqDoneS_L11
    simp only [decN, Int.toNat_natCast, nnN, cond_true]
    rw [decide_eq_true hi, cond_true, List.getElem?_eq_getElem hi, wSucc (by omega)]
    simp only [Option.bind_some, eqDone_refl, Bool.not_true, cond_false]) (fun go => by
    unfold w_eqDoneS_L11
    simp)]
  rfl
theorem law9 {ds : List DoneT} {es : List Ent} (h1 : ds.length ≤ maxLen) (h2 : ∀ d ∈ ds, d.2.2.1.2.2.2.length ≤ maxLen ∧ d.2.2.2.1.2.2.2.1.length ≤ maxLen) (h3 : es.length ≤ maxLen) (h4 : ∀ e ∈ es, e.2.length ≤ maxLen) :
    w_FnExactLinear (ds, es) = some true := by
  unfold w_FnExactLinear
  obtain ⟨n, hn, n1, n2⟩ := szDoneS_is h1 h2
  simp only [hn, Option.bind_some]
  by_cases q : n < 0
  · rw [decide_eq_true q]; rfl
  obtain ⟨m, hm, m1, m2⟩ := szEntryS_is h3 h4 (show 0 ≤ n by omega) n1
  simp only [decide_eq_false q, cond_false, hm, Option.bind_some]
  by_cases q' : m < 0
  · rw [decide_eq_true q']; rfl
  have k1 := n2 (by omega)
  obtain ⟨k2, k3⟩ := m2 (by omega)
  obtain ⟨b, b1, b2⟩ := linear_is (l := ds) (es := es) (fun e he => by have := k3 e he; omega)
  simp only [decide_eq_false q', cond_false, toDoneS_is k1, toEntryS_is k2, Option.bind_some, b1, b2, eqDoneS_refl k1, eqEntryS_refl k2]
  cases b <;> rfl
theorem law9W (x : List DoneT × List Ent) (hx : WFs [.sl 160 t160, .sl 148 t148] x) : w_FnExactLinear x = some true :=
  law9 hx.1.1 (fun d hd => ⟨(hx.1.2 d hd).2.2.1.2.2.2, (hx.1.2 d hd).2.2.2.1.2.2.2.1⟩) hx.2.1.1 (fun e he => (hx.2.1.2 e he).2)
end Go.Proofs.YtibidhcmenljoaaDoor
