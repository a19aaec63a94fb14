/- The plain law: drawn clients, answers and messages come back, and stay small. -/
import Derived.Test.YtcdncdbghghnfaaPDrawOp
namespace Go.Proofs.Ytcdncdbghghnfaa
open Go Go.Proofs.Ytcdncdbghghnfaa.V
theorem s_ClientCall_tot (x) : TotT (s_ClientCall x) := by
  obtain ⟨b, hb⟩ := clientOk_is x.1
  obtain ⟨d, hd⟩ := opOk_is x.2.1
  unfold s_ClientCall
  simp only [clientOk_same, opOk_same, hb, hd, in_s, Option.bind_some]
  repeat' first | exact totT_some _ | refine totT_bif (fun _ => ?_) (fun _ => ?_) | refine totT_bind ?_ (fun _ => ?_)
theorem client_tot (c : Cur) (hc : CI c) : Tot (s_l19Client c) (fun z => CI z.2) := by
  unfold s_l19Client
  repeat' first
    | exact tot_some (by assumption)
    | refine tot_bind (below_tot _ _ (by assumption)) (fun _ ⟨_, _, _, _⟩ => ?_)
    | refine tot_bind (once_tot _ _ (by assumption)) (fun _ _ => ?_)
    | refine tot_bind (pick_tot _ _ (by simp) (by assumption)) (fun _ ⟨_, _⟩ => ?_)
    | refine tot_bind (op_tot _ (by assumption)) (fun _ ⟨_, _⟩ => ?_)
    | refine tot_bindT (s_ClientCall_tot _) (fun _ => ?_)
    | refine tot_bif (fun _ => ?_) (fun _ => ?_)
theorem answer_tot (c : Cur) (hc : CI c) : Tot (s_l12Answer c) (fun z => CI z.2) := by
  unfold s_l12Answer
  repeat' first
    | exact tot_some (by assumption)
    | refine tot_bind (below_tot _ _ (by assumption)) (fun _ ⟨_, _, _, _⟩ => ?_)
    | refine tot_bind (once_tot _ _ (by assumption)) (fun _ _ => ?_)
    | refine tot_bind (pick_tot _ _ (by simp) (by assumption)) (fun _ ⟨_, _⟩ => ?_)
    | refine tot_bind (text_tot _ _ (by omega) (by omega) (by assumption)) (fun _ ⟨_, _⟩ => ?_)
    | refine tot_bindT (sha_tot _ (by omega)).t (fun _ => ?_)
    | refine tot_bif (fun _ => ?_) (fun _ => ?_)
theorem showAnswer_tot (x) : Tot (s_ShowAnswer x) (fun y => y.length ≤ 1100) := by
  obtain ⟨b, hb, hl⟩ := answerOk_is x
  obtain ⟨a, b', c, h, d, e⟩ := x
  simp only at hl
  simp only [s_ShowAnswer, answerOk_same, hb, Option.bind_some, s_Var_is]
  cases b with
  | false => exact tot_some (by simp)
  | true =>
    have := hl rfl
    have h1 := varText_len a
    have h2 := varText_len b'
    have h3 := varText_len c
    have h4 := varText_len d
    have h5 := varText_len e
    simp only [Bool.not_true, cond_false, List.length_append]
    rw [decide_eq_true (by omega), decide_eq_true (by omega), decide_eq_true (by omega), decide_eq_true (by omega), decide_eq_true (by omega)]
    exact tot_some (by simp only [List.length_append]; omega)
theorem showOp_tot {x} (h : x.2.2.2.length ≤ 1000) : Tot (s_ShowOp x) (fun y => y.length ≤ 1100) := by
  obtain ⟨b, hb⟩ := opOk_is x
  obtain ⟨k, c, v, d⟩ := x
  simp only at h
  simp only [s_ShowOp, opOk_same, hb, Option.bind_some, s_Var_is]
  cases b with
  | false => exact tot_some (by simp)
  | true =>
    have h1 := varText_len c
    have h2 := varText_len v
    have h3 : (List.map (fun b => UInt8.ofNat b.toNat) ((List.replicate 1 (0 : Int)).set 0 (IntKind.u8.wrap k))).length = 1 := by simp
    simp only [Bool.not_true, cond_false, List.length_append, h3]
    rw [decide_eq_true (by omega), decide_eq_true (by omega), decide_eq_true (by omega)]
    exact tot_some (by simp only [List.length_append, h3]; omega)
def sumLen (z : List (Int × List UInt8) × List Int × Int × Int ⊕ List (Int × List UInt8) × List Int × Int × Int) : Prop := match z with
  | .inl y => y.1.length ≤ 4 ∧ CI y.2
  | .inr y => y.1.length ≤ 4 ∧ CI y.2
theorem ent9_step (go) (x : (List Int × Int × Int) × Int × Int × List (Int × List UInt8) × Int) (hx : CI x.1 ∧ 0 ≤ x.2.2.2.2 ∧ (x.2.2.2.1.length : Int) + x.2.2.2.2 ≤ 4)
    (hgo : ∀ y : (List Int × Int × Int) × Int × Int × List (Int × List UInt8) × Int, (CI y.1 ∧ 0 ≤ y.2.2.2.2 ∧ (y.2.2.2.1.length : Int) + y.2.2.2.2 ≤ 4) → y.2.2.2.2.toNat < x.2.2.2.2.toNat → Tot (go y) sumLen) : Tot (s_l5Entries_L9 go x) sumLen := by
  obtain ⟨c, t, top, out, n⟩ := x
  obtain ⟨hc, h0, h1⟩ := hx
  simp only at hc h0 h1 hgo
  unfold s_l5Entries_L9
  refine tot_bif (fun h => ?_) (fun _ => tot_some ⟨by simp only; omega, hc⟩)
  have hn : 0 < n := by simpa using h
  have e : IntKind.i64.wrap (n - 1) = n - 1 := w64 (by omega) (by omega)
  simp only [e]
  repeat' first
    | exact tot_some ⟨by simp only; omega, by assumption⟩
    | refine tot_bind (once_tot _ _ (by assumption)) (fun _ _ => ?_)
    | refine tot_bind (text_tot _ _ (by omega) (by omega) (by assumption)) (fun _ ⟨_, _⟩ => ?_)
    | exact tot_ok (g_push rfl (by omega)) (hgo _ ⟨by assumption, by simp only; omega, by simp only [len_push]; omega⟩ (by simp only; omega))
    | refine tot_bif (fun _ => ?_) (fun _ => ?_)
theorem entries_tot (c : Cur) (t top : Int) (hc : CI c) : Tot (s_l5Entries (c, 4, t, top)) (fun z => z.1.length ≤ 4 ∧ CI z.2) := by
  unfold s_l5Entries
  have e : IntKind.i64.wrap (4 + 1) = 5 := by decide
  simp only [e]
  refine tot_bind (below_pos _ _ (by omega) hc) fun n ⟨n0, n1, hc⟩ => tot_bind (iter_tot (S := s_l5Entries_L9) (fun x => x.2.2.2.2.toNat) (fun x => CI x.1 ∧ 0 ≤ x.2.2.2.2 ∧ (x.2.2.2.1.length : Int) + x.2.2.2.2 ≤ 4) sumLen ent9_step FUEL _ ⟨hc, n0, by simp; omega⟩ (fuel_lt (by simp only; omega))) fun z hz => ?_
  cases z with
  | inl y => exact tot_some hz
  | inr y => exact tot_some hz
theorem l15Msg_L8_is (x) : ∃ z, s_l15Msg_L8 x = some z ∧ z.2.2.2.2.2.2.2.2.1 = x.1.2.2.2.2.2.2.2.2.1 ∧ z.2.2.2.2.2.2.2.2.2 = x.1.2.2.2.2.2.2.2.2.2 := by
  obtain ⟨m, b⟩ := x
  cases b <;> exact ⟨_, rfl, rfl, rfl⟩
/-- A drawn message is small. -/
def Small (z : MsgT × Cur) : Prop := z.1.2.2.2.2.2.2.2.2.1.length ≤ 5 ∧ z.1.2.2.2.2.2.2.2.2.2.length ≤ 1101 ∧ CI z.2
theorem msg_tot (c : Cur) (hc : CI c) : Tot (s_l15Msg (c, 5, 3, 6)) (fun z => z.1.2.2.2.2.2.2.2.2.1.length ≤ 4 ∧ z.1.2.2.2.2.2.2.2.2.2.length ≤ 1100 ∧ CI z.2) := by
  unfold s_l15Msg
  refine tot_bind (below_tot _ _ hc) fun a ⟨_, _, _, _⟩ => tot_bind (below_tot _ _ (by assumption)) fun b ⟨_, _, _, _⟩ => tot_bind (below_tot _ _ (by assumption)) fun d ⟨_, _, _, _⟩ => tot_bind (below_tot _ _ (by assumption)) fun e ⟨_, _, _, _⟩ => ?_
  obtain ⟨z, hz, z1, z2⟩ := l15Msg_L8_is ((IntKind.i64.wrap (1 + a.fst), b.fst, d.fst, IntKind.i64.wrap (IntKind.i64.wrap (3 + e.fst) - 1), 0, 0, 0, false, [], []), decide (IntKind.i64.wrap (IntKind.i64.wrap (3 + e.fst) - 1) < 1))
  obtain ⟨k, fr, to, tm, ix, it, cm, ye, es, da⟩ := z
  simp only at z1 z2
  subst z1 z2
  simp only [hz, Option.bind_some]
  repeat' first
    | exact tot_some ⟨by first | (simp only [List.length_nil]; omega) | (simp only; omega), by first | (simp only [List.length_nil]; omega) | (simp only; omega), by assumption⟩
    | refine tot_bind (below_tot _ _ (by assumption)) (fun _ ⟨_, _, _, _⟩ => ?_)
    | refine tot_bind (once_tot _ _ (by assumption)) (fun _ _ => ?_)
    | refine tot_bind (text_tot _ _ (by omega) (by omega) (by assumption)) (fun _ ⟨_, _⟩ => ?_)
    | refine tot_bind (entries_tot _ _ _ (by assumption)) (fun _ ⟨_, _⟩ => ?_)
    | refine tot_bif (fun _ => ?_) (fun _ => ?_)
theorem mail_tot (c : Cur) (hc : CI c) : Tot (s_l15Mail c) (fun z => z.1.2.2.2.2.2.2.2.2.1.length ≤ 4 ∧ z.1.2.2.2.2.2.2.2.2.2.length ≤ 1100 ∧ CI z.2) := by
  unfold s_l15Mail
  repeat' first
    | exact tot_some ⟨by first | (simp only [List.length_nil]; omega) | (simp only; omega), by first | (simp only [List.length_nil]; omega) | (simp only; omega), by assumption⟩
    | refine tot_bind (below_tot _ _ (by assumption)) (fun _ ⟨_, _, _, _⟩ => ?_)
    | refine tot_bind (once_tot _ _ (by assumption)) (fun _ _ => ?_)
    | refine tot_bind (text_tot _ _ (by omega) (by omega) (by assumption)) (fun _ ⟨_, _⟩ => ?_)
    | refine tot_bind (pick_tot _ _ (by simp) (by assumption)) (fun _ ⟨_, _⟩ => ?_)
    | refine tot_bind (op_tot _ (by assumption)) (fun _ ⟨_, _⟩ => ?_)
    | refine tot_bind (answer_tot _ (by assumption)) (fun _ _ => ?_)
    | refine tot_bind (showOp_tot (by assumption)) (fun _ _ => ?_)
    | refine tot_bind (showAnswer_tot _) (fun _ _ => ?_)
    | refine tot_bif (fun _ => ?_) (fun _ => ?_)
theorem any_tot (c : Cur) (hc : CI c) : Tot (s_l15Any c) Small := by
  unfold s_l15Any
  refine tot_bind (msg_tot _ hc) fun m ⟨_, _, _⟩ => tot_bind (once_tot _ _ (by assumption)) fun a _ => ?_
  repeat' first
    | exact tot_some ⟨by first | assumption | omega | (simp only [len_push]; omega), by first | assumption | omega | (simp; omega), by assumption⟩
    | refine tot_bind (below_tot _ _ (by assumption)) (fun _ ⟨_, _, _, _⟩ => ?_)
    | refine tot_bind (once_tot _ _ (by assumption)) (fun _ _ => ?_)
    | refine tot_bind (pick_tot _ _ (by simp) (by assumption)) (fun _ ⟨_, _⟩ => ?_)
    | refine tot_bind (mail_tot _ (by assumption)) (fun _ ⟨_, _, _⟩ => ?_)
    | refine tot_ok (g_push rfl (by omega)) ?_
    | refine tot_ok (by simp; omega) ?_
    | refine tot_bif (fun _ => ?_) (fun _ => ?_)
theorem mail19_tot (c : Cur) (x) (hc : CI c) : Tot (s_l19Mail (c, x)) Small := by
  unfold s_l19Mail
  refine tot_bind (below_tot _ _ hc) fun a ⟨_, _, _, _⟩ => tot_bind (answer_tot _ (by assumption)) fun b _ => tot_bind (showAnswer_tot _) fun d hd => tot_bind (once_tot _ _ (by assumption)) fun e _ => ?_
  refine tot_bif (fun _ => tot_bind (any_tot _ (by assumption)) fun m ⟨m1, m2, m3⟩ => ?_) (fun _ => ?_)
  · refine tot_bind (once_tot _ _ m3) fun f hf => tot_bif (fun _ => tot_some ⟨m1, m2, hf⟩) (fun _ => tot_some ⟨m1, m2, hf⟩)
  · refine tot_bind (once_tot _ _ (by assumption)) fun f hf => tot_bif (fun _ => tot_some ⟨by simp, by simp only; omega, hf⟩) (fun _ => tot_some ⟨by simp, by simp only; omega, hf⟩)
theorem draw_tot (b : List Int) (hb : b.length ≤ 1048576) : Tot (s_DrawClientHear b) (fun z => z.2.1.2.2.2.2.2.2.2.2.1.length ≤ 1048576 ∧ z.2.1.2.2.2.2.2.2.2.2.2.length ≤ 1048576) := by
  unfold s_DrawClientHear
  exact tot_bind (new_tot b hb) fun c hc => tot_bind (now_tot c hc) fun n hn => tot_bind (client_tot _ hn) fun x hx => tot_bind (mail19_tot _ _ hx) fun m ⟨m1, m2, _⟩ => tot_some ⟨by simp only; omega, by simp only; omega⟩
end Go.Proofs.Ytcdncdbghghnfaa
