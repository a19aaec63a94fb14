/- The plain law: the turns of a fold are in order, each serial of a client once. -/
import Derived.Test.YtibidhcmenljoaaGreatDoorPFold
namespace Go.Proofs.YtibidhcmenljoaaGreatDoor
open Go Go.Proofs.YtibidhcmenljoaaGreatDoor.V
theorem ses_lt {l : List Ses} (h : allFrom (okSes l) l.length 0 = true) : ∀ (k m j : Nat) (p s : Ses), j - m = k → m < j → l[m]? = some p → l[j]? = some s → p.1 < s.1 := by
  intro k
  induction k with
  | zero => intro m j p s hk hm; omega
  | succ k ih =>
    intro m j p s hk hm hp hs
    by_cases h1 : m + 1 = j
    · exact (ses_at h hs).2.2.2 m p h1 hp
    · have hl := (List.getElem?_eq_some_iff.1 hs).1
      have hat := List.getElem?_eq_getElem (show m + 1 < l.length by omega)
      have q1 := (ses_at h hat).2.2.2 m p rfl hp
      have q2 := ih (m + 1) j _ s (by omega) (by omega) hat hs
      omega
theorem lastP_mem {l : List Ses} (h : allFrom (okSes l) l.length 0 = true) {j : Nat} {s : Ses} (hj : l[j]? = some s) : lastP l s.1 = s.2 := by
  have hl := (List.getElem?_eq_some_iff.1 hj).1
  have hf : fstI (atLeast l s.1) l.length 0 = some j := by
    refine fstI_at (Nat.zero_le _) (by omega) ?_ fun m _ hm => ?_
    · unfold atLeast; rw [hj]; simp
    · have hat := List.getElem?_eq_getElem (show m < l.length by omega)
      have := ses_lt h _ m j _ s rfl hm hat hj
      unfold atLeast; rw [hat]
      simp only [decide_eq_false_iff_not]; omega
  have hi : isAt l s.1 j = true := by unfold isAt; rw [hj]; simp
  have e : sesP l s.1 = (j, true) := by
    have e : sesP l s.1 = (match fstI (atLeast l s.1) l.length 0 with
      | some j => (j, isAt l s.1 j)
      | none => (l.length, false)) := rfl
    rw [e, hf]
    simp only [hi]
  unfold lastP
  rw [e]
  simp only [hj, cond_true]
theorem lastP_none {l : List Ses} {c : Int} (h : ∀ (j : Nat) (s : Ses), l[j]? = some s → s.1 ≠ c) : lastP l c = (0, ans0) := by
  unfold lastP
  cases hb : (sesP l c).2 with
  | false => cases l[(sesP l c).1]? <;> rfl
  | true =>
    obtain ⟨s, hs, e⟩ := sesP_has hb
    exact absurd e (h _ s hs)
theorem lastP_other {l : List Ses} (h : allFrom (okSes l) l.length 0 = true) {c c' : Int} {s : Ses} (hp : allFrom (okSes (putSes l c s)) (putSes l c s).length 0 = true) (hs : s.1 = c) (hc : c' ≠ c) :
    lastP (putSes l c s) c' = lastP l c' := by
  by_cases hx : ∃ (j : Nat) (s' : Ses), l[j]? = some s' ∧ s'.1 = c'
  · obtain ⟨j, s', h1, rfl⟩ := hx
    rw [lastP_mem h h1]
    have hin : ∃ j' : Nat, (putSes l c s)[j']? = some s' := by
      by_cases q : j < (sesP l c).1
      · exact ⟨j, by rw [put_get, if_pos q]; exact h1⟩
      · cases hb : (sesP l c).2 with
        | false => exact ⟨j + 1, by rw [put_get, if_neg (by omega), if_neg (by omega), hb]; exact h1⟩
        | true =>
          obtain ⟨p, g1, g2⟩ := sesP_has hb
          have hne : j ≠ (sesP l c).1 := by
            intro e
            rw [e, g1] at h1
            have := Option.some.inj h1
            subst this
            exact hc g2
          exact ⟨j, by rw [put_get, if_neg q, if_neg hne, hb]; exact h1⟩
    obtain ⟨j', hj'⟩ := hin
    exact lastP_mem hp hj'
  · have hn : ∀ (j : Nat) (s' : Ses), l[j]? = some s' → s'.1 ≠ c' := fun j s' h1 e => hx ⟨j, s', h1, e⟩
    rw [lastP_none hn, lastP_none fun j s' h1 => ?_]
    rw [put_get] at h1
    split at h1
    · exact hn _ _ h1
    · split at h1
      · have := Option.some.inj h1
        subst this
        rw [hs]; exact fun e => hc e.symm
      · cases hb : (sesP l c).2 with
        | false => rw [hb] at h1; exact hn _ _ h1
        | true => rw [hb] at h1; exact hn _ _ h1
-- ---------------------------------------------------------------- looking at turns one by one
abbrev ScanT := List Int × Int
def scan1 (s : ScanT) (t : TurnT) : ScanT := (s.1.set t.1.toNat t.2.1, t.2.2.2.2.2.2.2.2)
def scanT (l : List TurnT) : ScanT := l.foldl scan1 ([0, 0, 0, 0, 0, 0, 0], 0)
theorem scan_snoc (l : List TurnT) (t : TurnT) : scanT (l ++ [t]) = scan1 (scanT l) t := by
  unfold scanT; rw [List.foldl_append]; rfl
/-- The turn follows what was there. -/
def TurnOk (s : ScanT) (t : TurnT) : Prop := 1 ≤ t.1 ∧ t.1 ≤ 6 ∧ (∃ v, s.1[t.1.toNat]? = some v ∧ 0 ≤ v ∧ v ≤ 1000000 ∧ t.2.1 = v + 1) ∧ s.2 < t.2.2.2.2.2.2.2.2
structure TI (i : Nat) (s : FoldT) : Prop where
  ok : ∀ (j : Nat) (t : TurnT), s.2[j]? = some t → TurnOk (scanT (s.2.take j)) t
  len : (scanT s.2).1.length = 7
  at' : ∀ c : Int, 1 ≤ c → c ≤ 6 → (scanT s.2).1[c.toNat]? = some (lastP s.1.2.2 c).1
  ix : (scanT s.2).2 ≤ (i : Int)
theorem ti_zero : TI 0 (reg0, []) := by
  refine ⟨fun j t h => (by simp at h), rfl, fun c h1 h2 => ?_, Int.le_refl _⟩
  have hl : lastP reg0.2.2 c = (0, ans0) := lastP_none fun j s h => by simp [reg0] at h
  show ([0, 0, 0, 0, 0, 0, 0] : List Int)[c.toNat]? = some (lastP reg0.2.2 c).1
  rw [hl]
  have h3 : c.toNat < 7 := by omega
  generalize c.toNat = n at h3
  match n, h3 with
  | 0, _ | 1, _ | 2, _ | 3, _ | 4, _ | 5, _ | 6, _ => rfl
theorem ti_same {i : Nat} {s : FoldT} (h : TI i s) : TI (i + 1) s := ⟨h.ok, h.len, h.at', by have := h.ix; omega⟩
theorem ti_step {e : Ent} {i : Nat} {s : FoldT} (hr : RegP s.1) (h : TI i s) : TI (i + 1) (foldE e ((i + 1 : Nat) : Int) s) := by
  unfold foldE
  cases (rdC e.2).2 with
  | false => exact ti_same h
  | true =>
    simp only [cond_true]
    generalize (rdC e.2).1.1 = cl
    generalize (rdC e.2).1.2.1 = se
    generalize (rdC e.2).1.2.2 = o
    unfold servP
    cases hin : inR cl se ((i + 1 : Nat) : Int) with
    | false => rw [if_pos rfl]; exact ti_same h
    | true =>
      rw [if_neg (by decide)]
      unfold inR at hin
      simp only [Bool.and_eq_true, decide_eq_true_eq] at hin
      obtain ⟨⟨⟨a1, a2⟩, a3, a4⟩, a5, a6⟩ := hin
      by_cases h1 : se = (lastP s.1.2.2 cl).1
      · rw [if_pos h1]; exact ti_same h
      · rw [if_neg h1]
        by_cases h2 : se = (lastP s.1.2.2 cl).1 + 1
        · rw [if_pos h2]
          simp only [cond_true]
          have hA := do_ans hr o a5 a6
          obtain ⟨p1, p2⟩ := put_right hr.ses ⟨a1, a2⟩ (s := (cl, se, setIx (doP s.1 o).1 ((i + 1 : Nat) : Int))) rfl ⟨a3, a4⟩ hA
          have hrg := lastP_range hr cl
          have hc7 : cl.toNat < (scanT s.2).1.length := by rw [h.len]; omega
          refine ⟨fun j t hj => ?_, ?_, fun c b1 b2 => ?_, ?_⟩
          · rcases Nat.lt_trichotomy j s.2.length with q | q | q
            · rw [List.getElem?_append_left q] at hj
              rw [List.take_append_of_le_length (by omega)]
              exact h.ok j t hj
            · subst q
              rw [List.getElem?_append_right (Nat.le_refl _), Nat.sub_self] at hj
              have := Option.some.inj hj
              subst this
              rw [List.take_left]
              refine ⟨a1, a2, ⟨_, h.at' cl a1 a2, by omega, by omega, h2⟩, ?_⟩
              have := h.ix
              show (scanT s.2).2 < ((i + 1 : Nat) : Int)
              omega
            · rw [List.getElem?_eq_none (by simp; omega)] at hj; cases hj
          · rw [scan_snoc]
            unfold scan1
            simp only [List.length_set]; exact h.len
          · rw [scan_snoc]
            unfold scan1
            simp only
            by_cases hc : c = cl
            · subst hc
              rw [List.getElem?_set_self hc7, lastP_put (l := s.1.2.2) (c := c) (s := (c, se, setIx (doP s.1 o).1 ((i + 1 : Nat) : Int))) rfl]
            · rw [List.getElem?_set_ne (by omega), lastP_other hr.ses p2 rfl hc]
              exact h.at' c b1 b2
          · rw [scan_snoc]
            exact Int.le_refl _
        · rw [if_neg h2]; exact ti_same h
theorem fold_turns (es : List Ent) (n : Nat) : TI n (foldP es n) := by
  have : ∀ (k i : Nat) (s : FoldT), FoldI i s → TI i s → TI (i + k) (sumI (foldF es) k i s) := by
    intro k
    induction k with
    | zero => intro i s _ h; exact h
    | succ k ih =>
      intro i s hf h
      rw [sumI, show i + (k + 1) = i + 1 + k by omega]
      refine ih _ _ (foldF_right hf) ?_
      unfold foldF
      cases es[i]? with
      | none => exact ti_same h
      | some e => exact ti_step hf.1 h
  have := this n 0 (reg0, []) ⟨reg0_right, Nat.le_refl _⟩ ti_zero
  rwa [Nat.zero_add] at this
theorem sum_last {σ : Type} (f : Nat → σ → σ) : ∀ (k i : Nat) (s : σ), sumI f (k + 1) i s = f (i + k) (sumI f k i s) := by
  intro k
  induction k with
  | zero => intro i s; rfl
  | succ k ih => intro i s; rw [sumI, ih, sumI, show i + 1 + k = i + (k + 1) by omega]
theorem sum_congr {σ : Type} {f g : Nat → σ → σ} : ∀ (k i : Nat) (s : σ), (∀ j s, i ≤ j → j < i + k → f j s = g j s) → sumI f k i s = sumI g k i s := by
  intro k
  induction k with
  | zero => intro i s _; rfl
  | succ k ih => intro i s h; rw [sumI, sumI, h i s (Nat.le_refl _) (by omega), ih _ _ fun j s h1 h2 => h j s (by omega) (by omega)]
theorem fold_take {es : List Ent} {n : Nat} : foldP (es.take n) n = foldP es n :=
  sum_congr n 0 _ fun j s _ hj => by unfold foldF; rw [List.getElem?_take, if_pos (by omega)]
theorem fold_succ (es : List Ent) (n : Nat) : foldP es (n + 1) = foldF es n (foldP es n) := by
  unfold foldP
  rw [sum_last, Nat.zero_add]
theorem turns_run {es : List Ent} {n : Nat} (hn : n ≤ 1000000) : iter w_FnFold_L31 FUEL ((foldP es n).2, [0, 0, 0, 0, 0, 0, 0], 0, 0) = some (.inl ()) := by
  have h := fold_turns es n
  have hlen := (fold_right es n).2
  generalize (foldP es n) = s at h hlen
  obtain ⟨r, l⟩ := s
  simp only at hlen
  have e := iter_sum (S := w_FnFold_L31) (σ := Unit) (fun i _ => (l, (scanT (l.take i)).1, (scanT (l.take i)).2, (i : Int))) l.length (fun _ s => s) (fun _ _ => True) (fun _ => .inl ()) (by omega) (fun go i _ hi _ => by
    refine ⟨?_, trivial⟩
    have hat := List.getElem?_eq_getElem hi
    obtain ⟨g1, g2, ⟨v, g3, g4, g5, g6⟩, g7⟩ := h.ok i _ hat
    unfold w_FnFold_L31
    simp only [decN, Int.toNat_natCast, nnN, cond_true]
    rw [decide_eq_true hi, cond_true, hat, Option.bind_some, wSucc (by omega)]
    simp only at g1 g2 g3 g6 g7
    rw [decide_eq_false (show ¬ l[i].1 < 1 by omega)]
    simp only [Bool.not_false, cond_true, Option.bind_some]
    rw [decide_eq_false (show ¬ 6 < l[i].1 by omega), decide_eq_true (show 0 ≤ l[i].1 by omega)]
    simp only [Bool.not_false, cond_true, g3, Option.bind_some]
    rw [w64 (by omega) (by omega), decide_eq_true g6]
    simp only [Bool.not_true, Bool.not_false, cond_true, Option.bind_some]
    rw [decide_eq_false (by omega), cond_false, List.take_succ_eq_append_getElem hi, scan_snoc]
    rfl) (fun go _ _ => by
    unfold w_FnFold_L31
    simp) () trivial
  have e1 := e.1
  simp only [List.take_zero] at e1
  exact e1
end Go.Proofs.YtibidhcmenljoaaGreatDoor
