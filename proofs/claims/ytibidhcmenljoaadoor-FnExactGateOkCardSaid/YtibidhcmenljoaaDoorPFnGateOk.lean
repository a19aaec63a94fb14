/- The plain law of FnExactGateOk. -/
import Derived.Test.YtibidhcmenljoaaDoorPLoops
import Derived.Test.YtibidhcmenljoaaDoorPSDo
namespace Go.Proofs.YtibidhcmenljoaaDoor
open Go Go.Proofs.YtibidhcmenljoaaDoor.V
abbrev VocT := List (Int × Int) × PUnit
abbrev BookT := Bs × VocT
abbrev ClientT := Int × Int × Bool × OpT × Int
abbrev AskT := Int × Int × Bs
abbrev GateT := ClientT × Int × AskT × Ans × Bs × List BookT
theorem bAndS (p : Bool) (q : Bool) : ((bif p then some q else some false : Option Bool).bind fun x => some x) = some (p && q) := by cases p <;> rfl
theorem client_is (c : ClientT) : ∃ b, i_ClientOk c = some b ∧ s_ClientOk c = some b := by
  unfold i_ClientOk s_ClientOk i_isNow
  simp only [in_i, in_s, Option.bind_some, i_OpOk_is, s_OpOk_is]
  generalize (decide (1 ≤ c.1) && decide (c.1 ≤ 6)) = p1
  generalize (decide (0 ≤ c.2.1) && decide (c.2.1 ≤ 1000000)) = p2
  generalize (decide (0 ≤ c.2.2.2.2) && decide (c.2.2.2.2 ≤ 1000000)) = p3
  generalize opB c.2.2.2.1 = p4
  generalize decide (1 ≤ c.2.1) = p5
  generalize (decide (c.2.2.2.1.1 = 0) && (decide (c.2.2.2.1.2.1 = 0) && (decide (c.2.2.2.1.2.2.1 = 0) && decide (c.2.2.2.1.2.2.2 = [])))) = p6
  generalize decide (c.2.2.2.2 = 0) = p7
  generalize c.2.2.1 = p8
  cases p1 <;> cases p2 <;> cases p3 <;> cases p8 <;> cases p5 <;> cases p6 <;> exact ⟨_, rfl, rfl⟩
/-- The digest of a vocabulary. -/
noncomputable def digP (v : List (Int × Int)) : Bs := if vok v = true then sha (canon v) else []
theorem canon_small {v : List (Int × Int)} (h : vok v = true) : (canon v).length ≤ 1000 := by
  have := (canonOf_len h).2
  unfold canon; rw [if_pos h]; omega
theorem s_Digest_is (v : VocT) : s_Digest v = some (digP v.1) := by
  unfold s_Digest digP
  simp only [s_VocabOk_is, Option.bind_some]
  cases h : vok v.1 with
  | false => simp
  | true => simp only [Bool.not_true, cond_false, s_Canon_is, Option.bind_some, s_sha_is (canon_small h), if_true]
theorem i_Digest_is (v : VocT) : i_Digest v = some (digP v.1) := by
  unfold i_Digest digP
  simp only [i_VocabOk_is, Option.bind_some]
  cases h : vok v.1 with
  | false => simp
  | true => simp only [Bool.not_true, cond_false, i_Canon_is, Option.bind_some, i_sha_is (canon_small h), if_true]
-- ---------------------------------------------------------------- books
def isBk (l : List BookT) (h : Bs) (i : Nat) : Bool := match l[i]? with
  | some b => decide (b.1 = h)
  | none => false
def bkI (l : List BookT) (h : Bs) : Int := match fstI (isBk l h) l.length 0 with
  | some j => (j : Int)
  | none => -1
theorem s_book_is {l : List BookT} (h : Bs) (hl : l.length ≤ 1048576) : s_l19Book (l, h) = some (bkI l h) := by
  unfold s_l19Book
  have e := iter_fst (S := s_l19Book_L7) (fun i => (l, h, (i : Int))) l.length (isBk l h) () (fun i => (i : Int)) (by omega) (fun go i hi => by
    unfold s_l19Book_L7 isBk
    simp only [decN, Int.toNat_natCast, nnN, cond_true]
    rw [decide_eq_true hi, cond_true, List.getElem?_eq_getElem hi, Option.bind_some, wSucc (by omega)]) (fun go => by
    unfold s_l19Book_L7
    simp)
  rw [show ((0 : Nat) : Int) = 0 from rfl] at e
  rw [e, Option.bind_some]
  unfold bkI
  cases fstI (isBk l h) l.length 0 <;> rfl
theorem i_book_is {g : GateT} (h : Bs) (hl : g.2.2.2.2.2.length ≤ 1048576) : i_Gate_book (g, h) = some (bkI g.2.2.2.2.2 h) := by
  unfold i_Gate_book g_slices_IndexFunc_impl_Book_impl_Book
  simp only
  generalize g.2.2.2.2.2 = l at *
  have e := iter_fst (S := g_slices_IndexFunc_impl_Book_impl_Book_L7) (fun i => (l, (h, ()), (l.length : Int), (i : Int))) l.length (isBk l h) () (fun i => (i : Int)) (by omega) (fun go i hi => by
    unfold g_slices_IndexFunc_impl_Book_impl_Book_L7 i_Gate_book_1 isBk
    simp only [decN, Int.toNat_natCast, nnN, cond_true]
    rw [decide_eq_true hi, cond_true, List.getElem?_eq_getElem hi, Option.bind_some, Option.bind_some, wSucc (by omega)]) (fun go => by
    unfold g_slices_IndexFunc_impl_Book_impl_Book_L7
    simp)
  rw [show ((0 : Nat) : Int) = 0 from rfl] at e
  rw [e, Option.bind_some]
  unfold bkI
  cases fstI (isBk l h) l.length 0 <;> rfl
theorem bk_first {l : List BookT} {i : Nat} {b : BookT} (hb : l[i]? = some b) : decide (bkI l b.1 = (i : Int)) = !decide (0 ≤ bkI (l.take i) b.1) := by
  have hl := (List.getElem?_eq_some_iff.1 hb).1
  have hself : isBk l b.1 i = true := by unfold isBk; rw [hb]; simp
  have hlen : (l.take i).length = i := by rw [List.length_take]; omega
  have hcon : ∀ m, m < i → isBk (l.take i) b.1 m = isBk l b.1 m := fun m hm => by unfold isBk; rw [List.getElem?_take, if_pos hm]
  unfold bkI
  rw [hlen, fstI_congr (p := isBk (l.take i) b.1) (q := isBk l b.1) (fun m _ hm => hcon m (by omega))]
  cases h1 : fstI (isBk l b.1) i 0 with
  | some j =>
    obtain ⟨_, g2, g3, g4⟩ := fstI_some h1
    have : fstI (isBk l b.1) l.length 0 = some j := fstI_at (Nat.zero_le _) (by omega) g3 g4
    rw [this]
    simp only
    rw [decide_eq_false (by omega), decide_eq_true (by omega)]; rfl
  | none =>
    have g := fstI_none h1
    have : fstI (isBk l b.1) l.length 0 = some i := fstI_at (Nat.zero_le _) (by omega) hself fun m h0 hm => g m h0 (by omega)
    rw [this]
    simp
noncomputable def okBk (l : List BookT) (i : Nat) : Bool := match l[i]? with
  | some b => vok b.2.1 && decide (b.1 = digP b.2.1) && decide (bkI l b.1 = (i : Int))
  | none => true
theorem i11g_is {g : GateT} (hl : g.2.2.2.2.2.length ≤ 1048576) : iter i_GateOk_L11 FUEL (g, g.2.2.2.2.2, (g.2.2.2.2.2.length : Int), 0) = some (chk (allFrom (okBk g.2.2.2.2.2) g.2.2.2.2.2.length 0)) := by
  have e := iter_chk (S := i_GateOk_L11) (fun i => (g, g.2.2.2.2.2, (g.2.2.2.2.2.length : Int), (i : Int))) g.2.2.2.2.2.length (okBk g.2.2.2.2.2) (by omega) (fun go i hi => by
    have hat := List.getElem?_eq_getElem hi
    unfold i_GateOk_L11 okBk
    simp only [decN, Int.toNat_natCast, nnN, cond_true]
    rw [decide_eq_true hi, cond_true, hat]
    simp only [Option.bind_some, i_VocabOk_is, i_Digest_is, i_book_is _ hl]
    rw [wSucc (by omega)]
    cases vok g.2.2.2.2.2[i].2.1 <;> cases decide (g.2.2.2.2.2[i].1 = digP g.2.2.2.2.2[i].2.1) <;> cases decide (bkI g.2.2.2.2.2 g.2.2.2.2.2[i].1 = (i : Int)) <;> rfl) (fun go => by
    unfold i_GateOk_L11
    simp)
  rw [show ((0 : Nat) : Int) = 0 from rfl] at e
  exact e
theorem s11g_is {g : GateT} (hl : g.2.2.2.2.2.length ≤ 1048576) : iter s_GateOk_L11 FUEL (g, 0) = some (chk (allFrom (okBk g.2.2.2.2.2) g.2.2.2.2.2.length 0)) := by
  have e := iter_chk (S := s_GateOk_L11) (fun i => (g, (i : Int))) g.2.2.2.2.2.length (okBk g.2.2.2.2.2) (by omega) (fun go i hi => by
    have hat := List.getElem?_eq_getElem hi
    have hti : (g.2.2.2.2.2.take i).length ≤ 1048576 := by rw [List.length_take]; omega
    unfold s_GateOk_L11 okBk
    simp only [decN, decL, Int.toNat_natCast, nnN, cond_true]
    rw [decide_eq_true hi, cond_true, hat, decide_eq_true (show i ≤ g.2.2.2.2.2.length by omega)]
    simp only [Option.bind_some, s_VocabOk_is, s_Digest_is, s_book_is _ hti, Bool.and_self, cond_true]
    rw [wSucc (by omega), bk_first hat]
    cases vok g.2.2.2.2.2[i].2.1 <;> cases decide (g.2.2.2.2.2[i].1 = digP g.2.2.2.2.2[i].2.1) <;> cases decide (0 ≤ bkI (List.take i g.2.2.2.2.2) g.2.2.2.2.2[i].1) <;> rfl) (fun go => by
    unfold s_GateOk_L11
    simp)
  rw [show ((0 : Nat) : Int) = 0 from rfl] at e
  exact e
theorem shuf0 (x s p : Bool) : (x && (s && p)) = ((x && s) && p) := by cases x <;> cases s <;> rfl
theorem shuf1 (b o k s p : Bool) : (((b && k) && o) && (s && p)) = ((((b && o) && k) && s) && p) := by cases b <;> cases o <;> cases k <;> cases s <;> rfl
theorem gate_is {g : GateT} (hl : g.2.2.2.2.2.length ≤ 1048576) : ∃ b, i_GateOk g = some b ∧ s_GateOk g = some b := by
  obtain ⟨c, hc1, hc2⟩ := client_is g.1
  unfold i_GateOk s_GateOk i_askOk s_l19AskOk i_Ask_look s_l19Look
  simp only [hc1, hc2, Option.bind_some, i11g_is hl, s11g_is hl, i_OpOk_is, s_OpOk_is, i_ans_is, s_ans_is, i_book_is _ hl, s_book_is _ hl, bAnd]
  generalize allFrom (okBk g.2.2.2.2.2) g.2.2.2.2.2.length 0 = q1
  generalize decide (3 < (g.2.2.2.2.2.length : Int)) = q2
  cases c with
  | false => exact ⟨false, rfl, rfl⟩
  | true =>
    cases q2 with
    | true => exact ⟨false, rfl, rfl⟩
    | false =>
      cases q1 with
      | false => exact ⟨false, rfl, rfl⟩
      | true =>
        simp only [Bool.not_true, Bool.not_false, cond_true, cond_false, Option.bind_some, chk, sumK]
        cases decide (g.2.1 = 0) with
        | true =>
          simp only [cond_true]
          exact ⟨_, rfl, congrArg some (shuf0 _ _ _)⟩
        | false =>
          cases decide (g.2.1 = 1) with
          | true =>
            simp only [cond_true, cond_false]
            exact ⟨_, rfl, congrArg some (shuf1 _ _ _ _ _)⟩
          | false =>
            cases decide (g.2.1 = 2) with
            | true => exact ⟨_, rfl, rfl⟩
            | false => exact ⟨_, rfl, rfl⟩
-- ---------------------------------------------------------------- sizes, copies, equality
def less (l : Int) (n : Nat) : Int := if l - (n : Int) < 0 then -1 else l - (n : Int)
theorem less_cut {l : Int} {n : Nat} (hn : n ≤ maxLen) (h3 : 0 ≤ l) (h4 : l ≤ 1048576) :
    (bif decide (IntKind.i64.wrap (l - (n : Int)) < 0) then some (-1) else some (IntKind.i64.wrap (l - (n : Int))) : Option Int) = some (less l n) := by
  have hM : maxLen ≤ 9223372036854775807 := by decide
  rw [w64 (by omega) (by omega)]
  unfold less
  by_cases h : l - (n : Int) < 0
  · rw [decide_eq_true h, if_pos h]; rfl
  · rw [decide_eq_false h, if_neg h]; rfl
theorem less_neg (a : Int) : (bif decide (a < 0) then some (-1) else some a : Option Int) = some (if a < 0 then -1 else a) := by
  by_cases h : a < 0
  · rw [decide_eq_true h, if_pos h]; rfl
  · rw [decide_eq_false h, if_neg h]; rfl
theorem less_again (l : Int) (n : Nat) : (if less l n < 0 then -1 else less l n) = less l n := by
  unfold less
  by_cases h : l - (n : Int) < 0
  · simp [h]
  · simp [h]
theorem less_le {l : Int} (h : l ≤ 1048576) (n : Nat) : less l n ≤ 1048576 := by
  unfold less
  split <;> omega
theorem szClient_is {c : ClientT} {l : Int} (hn : c.2.2.2.1.2.2.2.length ≤ maxLen) (h3 : 0 ≤ l) (h4 : l ≤ 1048576) : w_szClient (c, l) = some (less l c.2.2.2.1.2.2.2.length) := by
  unfold w_szClient w_szOp
  simp only
  rw [less_cut hn h3 h4, Option.bind_some, less_neg, less_again]
theorem szAsk_is {c : AskT} {l : Int} (hn : c.2.2.length ≤ maxLen) (h3 : 0 ≤ l) (h4 : l ≤ 1048576) : w_szAsk (c, l) = some (less l c.2.2.length) := by
  unfold w_szAsk
  simp only
  rw [less_cut hn h3 h4]
theorem szAnswer_is {c : Ans} {l : Int} (hn : c.2.2.2.1.length ≤ maxLen) (h3 : 0 ≤ l) (h4 : l ≤ 1048576) : w_szAnswer (c, l) = some (less l c.2.2.2.1.length) := by
  unfold w_szAnswer
  simp only
  rw [less_cut hn h3 h4]
def szB (b : BookT) : Nat := b.1.length + b.2.1.length
theorem szBook_is {b : BookT} {l : Int} (h1 : b.1.length ≤ maxLen) (h2 : b.2.1.length ≤ maxLen) (h3 : 0 ≤ l) (h4 : l ≤ 1048576) : w_szBook (b, l) = some (less l (szB b)) := by
  have hM : maxLen ≤ 9223372036854775807 := by decide
  unfold w_szBook w_szVocab w_szPairS
  simp only
  rw [w64 (by omega) (by omega)]
  by_cases hn : l - (b.1.length : Int) < 0
  · rw [decide_eq_true hn]
    unfold less szB
    rw [if_pos (by omega)]; rfl
  · rw [decide_eq_false hn, cond_false, less_cut h2 (by omega) (by omega), Option.bind_some, less_neg, less_again, Option.bind_some, less_neg, less_again, Option.some.injEq]
    unfold less szB
    by_cases hq : l - (b.1.length : Int) - (b.2.1.length : Int) < 0
    · rw [if_pos hq, if_pos (by omega)]
    · rw [if_neg hq, if_neg (by omega)]; omega
theorem szBookS_is {l : List BookT} {m : Int} (h1 : l.length ≤ maxLen) (h2 : ∀ b ∈ l, b.1.length ≤ maxLen ∧ b.2.1.length ≤ maxLen) (h3 : 0 ≤ m) (h4 : m ≤ 1048576) :
    ∃ n, w_szBookS (l, m) = some n ∧ (0 ≤ n → l.length ≤ 1048576 ∧ ∀ b ∈ l, b.2.1.length ≤ 1048576) := by
  have hM : maxLen ≤ 9223372036854775807 := by decide
  unfold w_szBookS
  simp only
  rw [w64 (by omega) (by omega)]
  by_cases hn : m - (l.length : Int) < 0
  · rw [decide_eq_true hn]; exact ⟨-1, rfl, fun h => by omega⟩
  · rw [decide_eq_false hn, cond_false]
    obtain ⟨y, hy, hh⟩ := sz_loop (S := w_szBookS_L13) (l := l) szB (by omega) (fun go i left hi q0 q1 => by
      obtain ⟨k1, k2⟩ := h2 l[i] (List.getElem_mem hi)
      unfold w_szBookS_L13
      simp only [decN, Int.toNat_natCast, nnN, cond_true]
      rw [decide_eq_true hi, cond_true, List.getElem?_eq_getElem hi, Option.bind_some, wSucc (by omega), szBook_is k1 k2 q0 q1, Option.bind_some]
      unfold less
      by_cases hq : left - (szB l[i] : Int) < 0
      · rw [if_pos hq, if_pos hq]; rfl
      · rw [if_neg hq, if_neg hq, decide_eq_false hq, cond_false]) (fun go left => by
      unfold w_szBookS_L13
      simp) (left := m - (l.length : Int)) (by omega) (by omega)
    rw [hy, Option.bind_some]
    rcases hh with rfl | ⟨n, rfl, g1, g2, g3⟩
    · exact ⟨-1, rfl, fun h => by omega⟩
    · exact ⟨n, rfl, fun _ => ⟨by omega, fun b hb => by have := g3 b hb; unfold szB at this; omega⟩⟩
theorem toPairS_is {l : List (Int × Int)} (h : l.length ≤ 1048576) : w_toPairS l = some l := by
  unfold w_toPairS
  rw [nn_le _ h, cond_true, Int.toNat_natCast, to_loop (S := w_toPairS_L9) ((0, 0) : Int × Int) h (fun go i o hi ho => by
    unfold w_toPairS_L9 w_toPair
    simp only [decN, Int.toNat_natCast, nnN, cond_true]
    rw [decide_eq_true hi, cond_true, List.getElem?_eq_getElem hi, List.getElem?_eq_getElem ho, wSucc (by omega)]
    rfl) (fun go o => by
    unfold w_toPairS_L9
    simp)]
  rfl
theorem toBookS_is {l : List BookT} (h : l.length ≤ 1048576) (hb : ∀ b ∈ l, b.2.1.length ≤ 1048576) : w_toBookS l = some l := by
  unfold w_toBookS
  rw [nn_le _ h, cond_true, Int.toNat_natCast, to_loop (S := w_toBookS_L9) (([], [], ()) : BookT) h (fun go i o hi ho => by
    unfold w_toBookS_L9 w_toBook w_toVocab
    simp only [decN, Int.toNat_natCast, nnN, cond_true]
    rw [decide_eq_true hi, cond_true, List.getElem?_eq_getElem hi, List.getElem?_eq_getElem ho, wSucc (by omega)]
    simp only [Option.bind_some, toPairS_is (hb _ (List.getElem_mem hi)), cond_true]) (fun go o => by
    unfold w_toBookS_L9
    simp)]
  rfl
theorem eqPairS_refl {l : List (Int × Int)} (h : l.length ≤ 1048576) : w_eqPairS (l, l) = some true := by
  unfold w_eqPairS
  simp only [decide_true, Bool.not_true, cond_false]
  rw [eq_loop (S := w_eqPairS_L11) h (fun go i hi => by
    unfold w_eqPairS_L11 w_eqPair
    simp only [decN, Int.toNat_natCast, nnN, cond_true]
    rw [decide_eq_true hi, cond_true, List.getElem?_eq_getElem hi, wSucc (by omega)]
    simp) (fun go => by
    unfold w_eqPairS_L11
    simp)]
  rfl
theorem eqBookS_refl {l : List BookT} (h : l.length ≤ 1048576) (hb : ∀ b ∈ l, b.2.1.length ≤ 1048576) : w_eqBookS (l, l) = some true := by
  unfold w_eqBookS
  simp only [decide_true, Bool.not_true, cond_false]
  rw [eq_loop (S := w_eqBookS_L11) h (fun go i hi => by
    unfold w_eqBookS_L11 w_eqBook w_eqVocab
    simp only [decN, Int.toNat_natCast, nnN, cond_true]
    rw [decide_eq_true hi, cond_true, List.getElem?_eq_getElem hi, wSucc (by omega)]
    simp only [Option.bind_some, decide_true, Bool.not_true, cond_false, eqPairS_refl (hb _ (List.getElem_mem hi))]) (fun go => by
    unfold w_eqBookS_L11
    simp)]
  rfl
theorem toGate_is {g : GateT} (h : g.2.2.2.2.2.length ≤ 1048576) (hb : ∀ b ∈ g.2.2.2.2.2, b.2.1.length ≤ 1048576) : w_toGate g = some g := by
  unfold w_toGate w_toClient w_toOp w_toAsk w_toAnswer
  simp only [Option.bind_some, toBookS_is h hb]
theorem eqGate_refl {g : GateT} (h : g.2.2.2.2.2.length ≤ 1048576) (hb : ∀ b ∈ g.2.2.2.2.2, b.2.1.length ≤ 1048576) : w_eqGate (g, g) = some true := by
  unfold w_eqGate
  simp only [eqBookS_refl h hb]
  simp [w_eqClient, w_eqOp, w_eqAsk, w_eqAnswer]
theorem szGate_is {g : GateT} (h1 : g.1.2.2.2.1.2.2.2.length ≤ maxLen) (h2 : g.2.2.1.2.2.length ≤ maxLen) (h3 : g.2.2.2.1.2.2.2.1.length ≤ maxLen) (h4 : g.2.2.2.2.1.length ≤ maxLen) (h5 : g.2.2.2.2.2.length ≤ maxLen) (h6 : ∀ b ∈ g.2.2.2.2.2, b.1.length ≤ maxLen ∧ b.2.1.length ≤ maxLen) :
    ∃ n, w_szGate (g, 1048576) = some n ∧ (0 ≤ n → g.2.2.2.2.2.length ≤ 1048576 ∧ ∀ b ∈ g.2.2.2.2.2, b.2.1.length ≤ 1048576) := by
  have hM : maxLen ≤ 9223372036854775807 := by decide
  unfold w_szGate
  simp only [szClient_is h1 (show (0 : Int) ≤ 1048576 by decide) (show (1048576 : Int) ≤ 1048576 by decide), Option.bind_some]
  have e1 := less_le (show (1048576 : Int) ≤ 1048576 by decide) g.1.2.2.2.1.2.2.2.length
  generalize less 1048576 g.1.2.2.2.1.2.2.2.length = a at *
  by_cases k1 : a < 0
  · rw [decide_eq_true k1]; exact ⟨-1, rfl, fun h => by omega⟩
  rw [decide_eq_false k1, cond_false, szAsk_is h2 (by omega) e1, Option.bind_some]
  have e2 := less_le e1 g.2.2.1.2.2.length
  generalize less a g.2.2.1.2.2.length = b at *
  by_cases k2 : b < 0
  · rw [decide_eq_true k2]; exact ⟨-1, rfl, fun h => by omega⟩
  rw [decide_eq_false k2, cond_false, szAnswer_is h3 (by omega) e2, Option.bind_some]
  have e3 := less_le e2 g.2.2.2.1.2.2.2.1.length
  generalize less b g.2.2.2.1.2.2.2.1.length = c at *
  by_cases k3 : c < 0
  · rw [decide_eq_true k3]; exact ⟨-1, rfl, fun h => by omega⟩
  rw [decide_eq_false k3, cond_false, w64 (by omega) (by omega)]
  by_cases k4 : c - (g.2.2.2.2.1.length : Int) < 0
  · rw [decide_eq_true k4]; exact ⟨-1, rfl, fun h => by omega⟩
  rw [decide_eq_false k4, cond_false]
  obtain ⟨n, hn, hh⟩ := szBookS_is h5 h6 (show 0 ≤ c - (g.2.2.2.2.1.length : Int) by omega) (by omega)
  rw [hn, Option.bind_some, less_neg]
  by_cases k5 : n < 0
  · rw [if_pos k5]; exact ⟨-1, rfl, fun h => by omega⟩
  · rw [if_neg k5]; exact ⟨n, rfl, hh⟩
theorem law11 {g : GateT} (h1 : g.1.2.2.2.1.2.2.2.length ≤ maxLen) (h2 : g.2.2.1.2.2.length ≤ maxLen) (h3 : g.2.2.2.1.2.2.2.1.length ≤ maxLen) (h4 : g.2.2.2.2.1.length ≤ maxLen) (h5 : g.2.2.2.2.2.length ≤ maxLen) (h6 : ∀ b ∈ g.2.2.2.2.2, b.1.length ≤ maxLen ∧ b.2.1.length ≤ maxLen) : w_FnExactGateOk g = some true := by
  obtain ⟨n, hn, hh⟩ := szGate_is h1 h2 h3 h4 h5 h6
  unfold w_FnExactGateOk
  rw [hn, Option.bind_some]
  by_cases q : n < 0
  · rw [decide_eq_true q]; rfl
  obtain ⟨k1, k2⟩ := hh (by omega)
  obtain ⟨b, b1, b2⟩ := gate_is k1
  simp only [decide_eq_false q, cond_false, toGate_is k1 k2, b1, b2, eqGate_refl k1 k2, Option.bind_some]
  cases b <;> rfl
theorem law11W (x : GateT) (hx : WFs [t95] x) : w_FnExactGateOk x = some true :=
  law11 hx.1.1.2.2.2.1.2.2.2 hx.1.2.2.1.2.2 hx.1.2.2.2.1.2.2.2.1 hx.1.2.2.2.2.1 hx.1.2.2.2.2.2.1 (fun b hb => ⟨(hx.1.2.2.2.2.2.2 b hb).1, (hx.1.2.2.2.2.2.2 b hb).2.1.1⟩)
end Go.Proofs.YtibidhcmenljoaaDoor
