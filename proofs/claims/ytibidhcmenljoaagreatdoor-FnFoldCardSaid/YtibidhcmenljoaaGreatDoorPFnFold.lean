/- The plain law of FnFold. -/
import Derived.Test.YtibidhcmenljoaaGreatDoorPTurns
import Derived.Test.YtibidhcmenljoaaGreatDoorPDrawOp
import Derived.Test.YtibidhcmenljoaaGreatDoorPSame
namespace Go.Proofs.YtibidhcmenljoaaGreatDoor
open Go Go.Proofs.YtibidhcmenljoaaGreatDoor.V
-- ---------------------------------------------------------------- what is drawn
theorem size30_tot (x : List Int) (hx : x.length ≤ 1048576) : Tot (s_l1Size (x, 30)) (fun m => 0 < m ∧ m ≤ 30) := by
  unfold s_l1Size
  have e1 : Int.tdiv ((x.length : Nat) : Int) 20 = ((x.length / 20 : Nat) : Int) := rfl
  have e2 : IntKind.i64.wrap ((x.length / 20 : Nat) : Int) = ((x.length / 20 : Nat) : Int) := w64 (by omega) (by omega)
  have e3 : IntKind.i64.wrap (2 + ((x.length / 20 : Nat) : Int)) = 2 + ((x.length / 20 : Nat) : Int) := w64 (by omega) (by omega)
  simp only [e1, e2, e3]
  exact tot_if (fun _ => tot_some ⟨by omega, by omega⟩) (fun h => tot_some ⟨by omega, by omega⟩)
theorem showCmd_tot (c : CmdT) : Tot (s_ShowCmd c) (fun z => z.length ≤ 1000) := by
  rw [s_ShowCmd_is]
  refine tot_some ?_
  by_cases h : cmdB c = true
  · rw [if_pos h]
    have h3 := (op_facts (cmd_facts h).2.2).2.2.2
    have hl := opT_len h3
    have g1 := varText_len c.1
    have g2 := varText_len c.2.1
    unfold cmdT
    simp only [List.length_append]; omega
  · rw [if_neg h]; simp
abbrev EvT := Cur × List Ent × RegT × Int
def EvI (x : EvT) : Prop := CI x.1 ∧ RegP x.2.2.1 ∧ 0 ≤ x.2.2.2 ∧ (x.2.1.length : Int) + x.2.2.2 ≤ 100 ∧ ∀ e ∈ x.2.1, e.2.length ≤ 1000
theorem more_small {l : List Ent} {t : Bs} (h : ∀ e ∈ l, e.2.length ≤ 1000) (ht : t.length ≤ 1000) : ∀ e ∈ l ++ [((1 : Int), t)], e.2.length ≤ 1000 := by
  intro e he
  rcases List.mem_append.1 he with he | he
  · exact h e he
  · rw [List.mem_singleton.1 he]; exact ht
theorem ever_step (go) (x : EvT) (hx : EvI x) (hgo : ∀ y, EvI y → y.2.2.2.toNat < x.2.2.2.toNat → Tot (go y) (fun z => z.1.length ≤ 100 ∧ (∀ e ∈ z.1, e.2.length ≤ 1000) ∧ CI z.2.1)) :
    Tot (s_l21Ever_L11 go x) (fun z => z.1.length ≤ 100 ∧ (∀ e ∈ z.1, e.2.length ≤ 1000) ∧ CI z.2.1) := by
  obtain ⟨c, l, r, n⟩ := x
  obtain ⟨hc, hr, h0, h1, h2⟩ := hx
  simp only at hc hr h0 h1 h2 hgo
  have hr6 := hr.s6
  unfold s_l21Ever_L11
  refine tot_if (fun hn => ?_) (fun hn => tot_some ⟨by simp only; omega, h2, hc⟩)
  simp only at hn
  have hw : IntKind.i64.wrap (n - 1) = n - 1 := w64 (by omega) (by omega)
  have more : ∀ (c' : Cur) (r' : RegT) (t : Bs), CI c' → RegP r' → t.length ≤ 1000 → Tot (go (c', l ++ [((1 : Int), t)], r', n - 1)) (fun z => z.1.length ≤ 100 ∧ (∀ e ∈ z.1, e.2.length ≤ 1000) ∧ CI z.2.1) := fun c' r' t q1 q2 q3 =>
    hgo _ ⟨q1, q2, by simp only; omega, by simp only [List.length_append, List.length_singleton]; omega, more_small h2 q3⟩ (by simp only; omega)
  simp only [hw]
  refine tot_bind (once_tot _ _ hc) fun a ac => tot_bif (fun _ => ?_) (fun _ => ?_)
  · exact tot_bind (text_tot _ 4 (by omega) (by omega) ac) fun t ⟨t1, t2⟩ => tot_okd (by omega) (more _ _ _ t2 hr (by omega))
  · refine tot_bind (below_tot _ _ ac) fun b ⟨_, _, _, bc⟩ => ?_
    rw [s_last_is (by omega), Option.bind_some]
    refine tot_bind (op_tot _ bc) fun o ⟨_, oc⟩ => ?_
    rw [s_OpOk_is, Option.bind_some]
    refine tot_bif (fun _ => hgo _ ⟨oc, hr, by simp only; omega, by simp only; omega, h2⟩ (by simp only; omega)) (fun _ => ?_)
    refine tot_bind (once_tot _ _ oc) fun d dc => tot_bif (fun _ => ?_) (fun _ => ?_)
    · refine tot_bind (below_tot _ _ dc) fun f ⟨_, _, _, fc⟩ => tot_bind (showCmd_tot _) fun t tl => tot_okd (by omega) ?_
      rw [s_serve_is hr, Option.bind_some]
      exact more _ _ _ fc (serv_right hr _ _ _ _) tl
    · refine tot_bind (showCmd_tot _) fun t tl => tot_okd (by omega) ?_
      rw [s_serve_is hr, Option.bind_some]
      exact more _ _ _ dc (serv_right hr _ _ _ _) tl
theorem ever_tot (c : Cur) (m : Int) (h0 : 0 < m) (hm : m ≤ 30) (hc : CI c) : Tot (s_l21Ever (c, m)) (fun z => z.1.length ≤ 100 ∧ (∀ e ∈ z.1, e.2.length ≤ 1000) ∧ CI z.2) := by
  unfold s_l21Ever
  rw [s_newReg, Option.bind_some]
  refine tot_bind (below_tot _ _ hc) fun b ⟨b0, b1, _, bc⟩ => ?_
  have := b1 h0
  exact tot_bind (iter_tot (S := s_l21Ever_L11) (fun x => x.2.2.2.toNat) EvI _ ever_step FUEL _ ⟨bc, reg0_right, b0, by simp; omega, fun e he => by simp at he⟩ (fuel_lt (by simp only; omega))) fun z hz => tot_some hz
theorem drawFold_tot (x : List Int) (hx : x.length ≤ 1048576) : Tot (s_DrawFoldReg x) (fun z => z.1.length ≤ 100 ∧ (∀ e ∈ z.1, e.2.length ≤ 1000) ∧ -1 ≤ z.2) := by
  unfold s_DrawFoldReg
  refine tot_bind (new_tot x hx) fun c hc => tot_bind (size30_tot x hx) fun m ⟨m0, m1⟩ => tot_bind (ever_tot _ m m0 m1 hc) fun z ⟨z1, z2, z3⟩ => tot_bind (below_tot _ _ z3) fun b ⟨b0, _, _, bc⟩ => tot_bind (once_tot _ _ bc) fun d _ => tot_bif (fun _ => ?_) (fun _ => ?_)
  · exact tot_some ⟨z1, z2, by simp only; omega⟩
  · exact tot_some ⟨z1, z2, by simp only; omega⟩
-- ---------------------------------------------------------------- what is folded
theorem foldReg_in {es : List Ent} {n : Nat} (hl : es.length ≤ 400) (hn : n ≤ es.length) : i_FoldReg (es, (n : Int)) = some ((foldP es n).1, true) := by
  unfold i_FoldReg
  have ht : (es.take n).length = n := by rw [List.length_take]; omega
  simp only [in_i, nnN, decL, Int.toNat_natCast, Bool.true_and, Option.bind_some]
  rw [decide_eq_false (by omega), decide_eq_true hn]
  simp only [Bool.not_true, Bool.not_false, cond_true, Option.bind_some, cond_false]
  rw [i_folded_is (by omega), ht, fold_take, Option.bind_some]
theorem foldReg_out {es : List Ent} {n : Int} (h : n < 0 ∨ (es.length : Int) < n) : ∃ r, i_FoldReg (es, n) = some (r, false) := by
  unfold i_FoldReg
  simp only [in_i, Option.bind_some]
  have : (decide (0 ≤ n) && decide (n ≤ (es.length : Int))) = false := by
    rcases h with h | h
    · rw [decide_eq_false (show ¬ 0 ≤ n by omega)]; rfl
    · rw [decide_eq_false (show ¬ n ≤ (es.length : Int) by omega), Bool.and_false]
  rw [this]
  cases decide (400 < (es.length : Int)) <;> exact ⟨_, rfl⟩
theorem law4 (x : List Int) : w_FnFold x = some true := by
  unfold w_FnFold w_big
  simp only [Option.bind_some]
  by_cases hx : (1048576 : Int) < (x.length : Int)
  · rw [decide_eq_true hx]; rfl
  rw [decide_eq_false hx, cond_false]
  obtain ⟨⟨es, n⟩, hd, h1, h2, h3⟩ := drawFold_tot x (by omega)
  simp only at h1 h2 h3
  simp only [hd, Option.bind_some]
  by_cases hn : n < 0 ∨ (es.length : Int) < n
  · obtain ⟨r, hr⟩ := foldReg_out hn
    simp only [hr, Option.bind_some]
    rcases hn with h | h
    · rw [decide_eq_true h]; rfl
    · rw [decide_eq_true h]; cases decide (n < 0) <;> rfl
  · obtain ⟨k, rfl⟩ : ∃ k : Nat, n = (k : Int) := ⟨n.toNat, by omega⟩
    have hk : k ≤ es.length := by omega
    have hT := turns_run (es := es) (n := es.length) (by omega)
    have hR := (fold_right es k).1
    have hO : i_OrderOf es = some ((foldP es es.length).2, true) := by
      unfold i_OrderOf
      rw [decide_eq_false (by omega), cond_false, i_folded_is (by omega), Option.bind_some]
    have hS : s_OrderOf es = some ((foldP es es.length).2, true) := by
      unfold s_OrderOf
      rw [decide_eq_false (by omega), cond_false, s_fold_is (Nat.le_refl _) (by omega) (fun e he => by have := h2 e he; omega), Option.bind_some]
    simp only [foldReg_in (by omega) hk, hO, hS, Option.bind_some]
    rw [decide_eq_false (show ¬ (k : Int) < 0 by omega), decide_eq_false (show ¬ (es.length : Int) < (k : Int) by omega), decide_eq_false (show ¬ (400 : Int) < (es.length : Int) by omega)]
    simp only [Bool.not_false, Bool.not_true, cond_true, cond_false, Option.bind_some, s_RegOk_is, regB_iff.2 hR, hT, sumK]
    have hsame : ∀ r : RegT, RegP r → w_sameReg (r, r) = some true := fun r hr => sameReg_refl r (by have := hr.v6; omega) (by have := hr.a3; omega) (by have := hr.s6; omega)
    cases k with
    | zero =>
      rw [decide_eq_true (show ((0 : Nat) : Int) = 0 from rfl), cond_true, i_newReg, Option.bind_some]
      rw [show (foldP es 0).1 = reg0 from rfl, hsame _ reg0_right]
      rfl
    | succ j =>
      have hw : IntKind.i64.wrap (((j + 1 : Nat) : Int) - 1) = (j : Int) := by rw [w64 (by omega) (by omega)]; omega
      have hat := List.getElem?_eq_getElem (show j < es.length by omega)
      rw [decide_eq_false (show ¬ ((j + 1 : Nat) : Int) = 0 by omega), cond_false, hw, foldReg_in (by omega) (by omega), Option.bind_some, nnN, cond_true, Int.toNat_natCast, hat, Option.bind_some, Option.bind_some, s_ReadCmd_is (by have := h2 _ (List.getElem_mem (show j < es.length by omega)); omega), Option.bind_some]
      have hF := (fold_right es j).1
      rw [fold_succ] at hR ⊢
      unfold foldF at hR ⊢
      rw [hat] at hR ⊢
      simp only [foldE] at hR ⊢
      cases hrd : (rdC es[j].2).2 with
      | false =>
        simp only [cond_false]
        rw [hsame _ hF]
        rfl
      | true =>
        rw [hrd] at hR
        simp only [cond_true] at hR ⊢
        have e : i_Serve ((foldP es j).1, (rdC es[j].2).1.1, (rdC es[j].2).1.2.1, (rdC es[j].2).1.2.2, ((j + 1 : Nat) : Int)) = some (servP (foldP es j).1 (rdC es[j].2).1.1 (rdC es[j].2).1.2.1 (rdC es[j].2).1.2.2 ((j + 1 : Nat) : Int)) := by
          unfold i_Serve
          simp only [i_RegOk_is, regB_iff.2 hF, Option.bind_some, Bool.not_true, cond_false, i_copy_is hF, i_serve_is hF]
        rw [e, Option.bind_some, hsame _ hR]
        rfl
end Go.Proofs.YtibidhcmenljoaaGreatDoor
