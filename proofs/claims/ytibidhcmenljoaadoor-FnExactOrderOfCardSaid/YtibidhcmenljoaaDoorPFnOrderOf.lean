/- The plain law of FnExactOrderOf. -/
import Derived.Test.YtibidhcmenljoaaDoorPEnts
namespace Go.Proofs.YtibidhcmenljoaaDoor
open Go Go.Proofs.YtibidhcmenljoaaDoor.V
noncomputable def mT (k : Int) (_ : TurnT) : TurnT := (k, k + 1, (k + 2, k + 3, k + 4, tx (k + 5)), k + 6, k + 7, k + 8, tx (k + 9), k + 10, k + 11)
theorem wraps12 {k : Int} (q0 : 0 ≤ k) (q1 : k ≤ 900000000000) : IntKind.i64.wrap (k + 1) = k + 1 ∧ IntKind.i64.wrap (k + 1 + 1) = k + 2 ∧ IntKind.i64.wrap (k + 2 + 1) = k + 3 ∧ IntKind.i64.wrap (k + 3 + 1) = k + 4 ∧ IntKind.i64.wrap (k + 4 + 1) = k + 5 ∧ IntKind.i64.wrap (k + 5 + 1) = k + 6 ∧ IntKind.i64.wrap (k + 6 + 1) = k + 7 ∧ IntKind.i64.wrap (k + 7 + 1) = k + 8 ∧ IntKind.i64.wrap (k + 8 + 1) = k + 9 ∧ IntKind.i64.wrap (k + 9 + 1) = k + 10 ∧ IntKind.i64.wrap (k + 10 + 1) = k + 11 ∧ IntKind.i64.wrap (k + 11 + 1) = k + 12 ∧ w_markText (k + 5) = some (tx (k + 5)) ∧ w_markText (k + 9) = some (tx (k + 9)) := by
  refine ⟨?_, ?_, ?_, ?_, ?_, ?_, ?_, ?_, ?_, ?_, ?_, ?_, markText_is (by omega) (by omega), markText_is (by omega) (by omega)⟩ <;> (rw [w64 (by omega) (by omega)]; try omega)
set_option maxHeartbeats 4000000 in
theorem markT_step (go) (i : Nat) (o : List TurnT) (k : Int) (hi : i < o.length) (ho : o.length ≤ 1048576) (q0 : 0 ≤ k) (q1 : k ≤ 900000000000) : w_markTurnS_L7 go (o, k, (i : Int)) = go (o.set i (mT k o[i]), k + ((12 : Nat) : Int), ((i + 1 : Nat) : Int)) := by
  have hs := wSucc (i := i) (by omega)
  obtain ⟨a1, a2, a3, a4, a5, a6, a7, a8, a9, a10, a11, a12, a13, a14⟩ := wraps12 q0 q1
  have hd := decide_eq_true hi
  have hat := List.getElem?_eq_getElem hi
  unfold w_markTurnS_L7 mT
  simp only [decN, Int.toNat_natCast, nnN, cond_true, hd, a1, a2, a3, a4, a5, a6, a7, a8, a9, a10, a11, a12, a13, a14, hs, hat, Option.bind_some, getSet hi, List.set_set]
  rfl
set_option maxHeartbeats 4000000 in
theorem heldT_step (go) (i : Nat) (o : List TurnT) (k : Int) (x : TurnT) (hi : i < o.length) (hl : o.length ≤ 1048576) (hx : o[i]? = some (mT k x)) (q0 : 0 ≤ k) (q1 : k ≤ 900000000000) : w_heldTurnS_L7 go (o, k, (i : Int)) = go (o, k + ((12 : Nat) : Int), ((i + 1 : Nat) : Int)) := by
  have hs := wSucc (i := i) (by omega)
  obtain ⟨a1, a2, a3, a4, a5, a6, a7, a8, a9, a10, a11, a12, a13, a14⟩ := wraps12 q0 q1
  have hd := decide_eq_true hi
  unfold mT at hx
  unfold w_heldTurnS_L7
  simp only [decN, Int.toNat_natCast, nnN, cond_true, hd, a1, a2, a3, a4, a5, a6, a7, a8, a9, a10, a11, a12, a13, a14, hs, hx, Option.bind_some, decide_true, Bool.not_true, cond_false]
  rfl
theorem markTurnS_is {l : List TurnT} (hl : l.length ≤ 1048576) : ∃ k o, w_markTurnS (l, 1) = some (k, o) ∧ 0 ≤ k ∧ w_heldTurnS (o, 1) = some k := by
  obtain ⟨o, g1, g2, g3⟩ := mark_loop (S := w_markTurnS_L7) (k := 1) 12 mT hl (by omega) (by omega) (by omega) (fun go i o k hi ho q0 q1 => markT_step go i o k hi ho q0 q1) (fun go o k => by
    unfold w_markTurnS_L7
    simp)
  have e := held_loop (S := w_heldTurnS_L7) (o := o) (k := 1) 12 mT (by omega) (by omega) (by omega) (by omega) (fun go i k x hi hx q0 q1 => heldT_step go i o k x hi (by omega) hx q0 q1) (fun go k => by
      unfold w_heldTurnS_L7
      simp) g3
  refine ⟨1 + ((12 * l.length : Nat) : Int), o, ?_, by omega, ?_⟩
  · unfold w_markTurnS
    simp only [g1, Option.bind_some]
  · unfold w_heldTurnS
    simp only [e, g2, Option.bind_some, sumK]
theorem eqTurnS_refl {l : List TurnT} (h : l.length ≤ 1048576) : w_eqTurnS (l, l) = some true := by
  unfold w_eqTurnS
  simp only [decide_true, Bool.not_true, cond_false]
  rw [eq_loop (S := w_eqTurnS_L11) h (fun go i hi => by
    unfold w_eqTurnS_L11 w_eqTurn
    simp only [decN, Int.toNat_natCast, nnN, cond_true]
    rw [decide_eq_true hi, cond_true, List.getElem?_eq_getElem hi, wSucc (by omega)]
    simp [w_eqOp, w_eqAnswer]) (fun go => by
    unfold w_eqTurnS_L11
    simp)]
  rfl
theorem orderOf_is {es : List Ent} (h : ∀ e ∈ es, e.2.length ≤ 1048576) : ∃ x : List TurnT × Bool, x.1.length ≤ 1048576 ∧ s_OrderOf es = some x ∧ i_OrderOf es = some x := by
  unfold s_OrderOf i_OrderOf
  by_cases q : (400 : Int) < (es.length : Int)
  · rw [decide_eq_true q]
    exact ⟨([], false), by simp, rfl, rfl⟩
  · rw [decide_eq_false q]
    simp only [cond_false]
    rw [s_fold_is (Nat.le_refl _) (by omega) (fun e he => by have := h e he; omega), i_folded_is (by omega)]
    have := (fold_right es es.length).2
    exact ⟨((foldP es es.length).2, true), by simp only; omega, rfl, rfl⟩
theorem law8 {x : List Ent} (h1 : x.length ≤ maxLen) (h2 : ∀ e ∈ x, e.2.length ≤ maxLen) : w_FnExactOrderOf x = some true := by
  unfold w_FnExactOrderOf
  obtain ⟨n, hn, n1, n2⟩ := szEntryS_is (l := 1048576) h1 h2 (by omega) (by omega)
  rw [hn, Option.bind_some]
  by_cases q : n < 0
  · rw [decide_eq_true q]; rfl
  rw [decide_eq_false q, cond_false]
  obtain ⟨k1, k2⟩ := n2 (by omega)
  obtain ⟨g, hf, e1, e2⟩ := orderOf_is k2
  obtain ⟨ke, oe, me, he⟩ := markEntryS_is k1
  obtain ⟨k, r1, m1, m2, m3⟩ := markTurnS_is hf
  simp only [toEntryS_is k1, e1, e2, Option.bind_some, eqTurnS_refl hf, eqEntryS_refl k1, me, m1, m3, decide_eq_false (show ¬ ke < 0 by omega), decide_eq_false (show ¬ k < 0 by omega), decide_true]
  simp
theorem law8W (x : List Ent) (hx : WFs [.sl 148 t148] x) : w_FnExactOrderOf x = some true :=
  law8 hx.1.1 (fun e he => (hx.1.2 e he).2)
end Go.Proofs.YtibidhcmenljoaaDoor
