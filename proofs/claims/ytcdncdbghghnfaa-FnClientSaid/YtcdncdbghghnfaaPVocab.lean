/- The plain law: drawn vocabularies and operations come back. -/
import Derived.Test.YtcdncdbghghnfaaPText
import Derived.Test.YtcdncdbghghnfaaPVars
import Derived.Test.YtcdncdbghghnfaaPSha
namespace Go.Proofs.Ytcdncdbghghnfaa
open Go Go.Proofs.Ytcdncdbghghnfaa.V
theorem bytes_tot (t : List (List UInt8)) (id : Int) (h0 : 0 ≤ id) (h1 : id ≤ 255 + (t.length : Int)) (h2 : t.length ≤ 60) (h3 : ∀ s ∈ t, s.length ≤ 24) : Tot (s_l7Bytes (t, id)) (fun z => z.length ≤ 24) := by
  unfold s_l7Bytes
  refine tot_bif (fun _ => tot_some (by simp)) (fun h => ?_)
  have hi : ¬ id < 256 := by simpa using h
  have e : IntKind.i64.wrap (id - 256) = id - 256 := w64 (by omega) (by omega)
  simp only [e]
  exact tot_ok (by simp; omega) (tot_get (by omega) fun x hx => tot_some (h3 x hx))
theorem t31_step (out : List (List UInt8)) (h60 : out.length ≤ 60) (go) (x : List (List UInt8) × Int × List UInt8 × Int) (hx : x.1 = out ∧ x.2.1 ≤ (out.length : Int) ∧ 0 ≤ x.2.2.2 ∧ x.2.2.2 ≤ 60)
    (hgo : ∀ y : List (List UInt8) × Int × List UInt8 × Int, (y.1 = out ∧ y.2.1 ≤ (out.length : Int) ∧ 0 ≤ y.2.2.2 ∧ y.2.2.2 ≤ 60) → (60 - y.2.2.2).toNat < (60 - x.2.2.2).toNat → Tot (go y) (fun z => ∀ o, z = .inl o → o = out)) : Tot (s_l7Table_L31 go x) (fun z => ∀ o, z = .inl o → o = out) := by
  obtain ⟨o, i, s, k⟩ := x
  obtain ⟨h1, h2, h3, h4⟩ := hx
  simp only at h1 h2 h3 h4 hgo
  subst h1
  unfold s_l7Table_L31
  refine tot_bif (fun h => ?_) (fun _ => tot_some (fun o h => by cases h; rfl))
  have hk : k < i := by simpa using h
  have e : IntKind.i64.wrap (k + 1) = k + 1 := w64 (by omega) (by omega)
  simp only [e]
  exact tot_ok (by simpa using h3) (tot_get (by omega) fun _ _ => tot_get (by omega) fun _ _ => tot_bif (fun _ => tot_some (fun o h => by cases h)) (fun _ => hgo _ ⟨rfl, h2, by simp only; omega, by simp only; omega⟩ (by simp only; omega)))
theorem t13_step (go) (x : (List (Int × Int) × PUnit) × List (List UInt8) × Int) (hx : x.1.1.length ≤ 60 ∧ 0 ≤ x.2.2 ∧ x.2.2 ≤ (x.1.1.length : Int) ∧ (x.2.1.length : Int) = x.2.2 ∧ ∀ s ∈ x.2.1, s.length ≤ 24)
    (hgo : ∀ y : (List (Int × Int) × PUnit) × List (List UInt8) × Int, (y.1.1.length ≤ 60 ∧ 0 ≤ y.2.2 ∧ y.2.2 ≤ (y.1.1.length : Int) ∧ (y.2.1.length : Int) = y.2.2 ∧ ∀ s ∈ y.2.1, s.length ≤ 24) → (60 - y.2.2).toNat < (60 - x.2.2).toNat → Tot (go y) (fun _ => True)) : Tot (s_l7Table_L13 go x) (fun _ => True) := by
  obtain ⟨⟨v, u⟩, out, i⟩ := x
  obtain ⟨h1, h2, h3, h4, h5⟩ := hx
  simp only at h1 h2 h3 h4 h5 hgo
  unfold s_l7Table_L13
  refine tot_bif (fun h => ?_) (fun _ => tot_some trivial)
  have hi : i < (v.length : Int) := by simpa using h
  have e : IntKind.i64.wrap (i + 1) = i + 1 := w64 (by omega) (by omega)
  have e2 : IntKind.i64.wrap (255 + i) = 255 + i := w64 (by omega) (by omega)
  simp only [e, e2, in_s, Option.bind_some]
  refine tot_ok (by simpa using h2) (tot_get (by omega) fun m _ => ?_)
  cases hp : (decide (0 ≤ m.1) && decide (m.1 ≤ 255 + i)) with
  | false => simp only [Bool.not_false, Bool.not_true, cond_false, Option.bind_some, cond_true]; exact tot_some trivial
  | true =>
    cases hq : (decide (0 ≤ m.2) && decide (m.2 ≤ 255 + i)) with
    | false => simp only [Bool.not_false, Bool.not_true, Option.bind_some, cond_true]; exact tot_some trivial
    | true =>
      simp only [Bool.not_false, Bool.not_true, Option.bind_some, cond_true, cond_false]
      simp only [Bool.and_eq_true, decide_eq_true_eq] at hp hq
      refine tot_bind (bytes_tot out m.1 hp.1 (by omega) (by omega) h5) fun a ha => tot_bind (bytes_tot out m.2 hq.1 (by omega) (by omega) h5) fun b hb => tot_ok (by simp; omega) (tot_bif (fun _ => tot_some trivial) (fun hl => ?_))
      have hl' : (a ++ b).length ≤ 24 := by simp at hl; simp; omega
      refine tot_bind (iter_tot (S := s_l7Table_L31) (fun x => (60 - x.2.2.2).toNat) (fun x => x.1 = out ∧ x.2.1 ≤ (out.length : Int) ∧ 0 ≤ x.2.2.2 ∧ x.2.2.2 ≤ 60) (fun z => ∀ o, z = .inl o → o = out) (t31_step out (by omega)) FUEL _ ⟨rfl, by simp only; omega, by simp, by simp⟩ (fuel_lt (by simp))) fun z hz => ?_
      cases z with
      | inr z => exact tot_some trivial
      | inl o =>
        have := hz o rfl
        subst this
        refine tot_ok (g_push rfl (by omega)) (hgo _ ⟨h1, by simp only; omega, by simp only; omega, by simp only [len_push]; omega, fun s hs => ?_⟩ (by simp only; omega))
        simp only [List.mem_append] at hs
        rcases hs with hs | hs
        · exact h5 s hs
        · simp at hs
          rw [hs]; simpa using hl'
theorem vocabOk_tot (v : List (Int × Int) × PUnit) : TotT (s_VocabOk v) := by
  unfold s_VocabOk
  refine totT_bind ?_ fun _ => totT_some _
  unfold s_l7Table
  refine totT_bif (fun _ => totT_some _) (fun h => ?_)
  have hl : v.1.length ≤ 60 := by simp at h; omega
  refine totT_bind (iter_tot (S := s_l7Table_L13) (fun x => (60 - x.2.2).toNat) (fun x => x.1.1.length ≤ 60 ∧ 0 ≤ x.2.2 ∧ x.2.2 ≤ (x.1.1.length : Int) ∧ (x.2.1.length : Int) = x.2.2 ∧ ∀ s ∈ x.2.1, s.length ≤ 24) (fun _ => True) t13_step FUEL _ ⟨hl, by simp, by simp, by simp, by simp⟩ (fuel_lt (by simp))).t fun z => ?_
  cases z with
  | inl a => exact totT_some _
  | inr a => exact totT_some _
theorem c13_step (go) (x : (List (Int × Int) × PUnit) × List UInt8 × Int) (hx : x.1.1.length ≤ 3 ∧ 0 ≤ x.2.2 ∧ x.2.2 ≤ 3 ∧ (x.2.1.length : Int) ≤ 12 + 18 * x.2.2)
    (hgo : ∀ y : (List (Int × Int) × PUnit) × List UInt8 × Int, (y.1.1.length ≤ 3 ∧ 0 ≤ y.2.2 ∧ y.2.2 ≤ 3 ∧ (y.2.1.length : Int) ≤ 12 + 18 * y.2.2) → (3 - y.2.2).toNat < (3 - x.2.2).toNat → Tot (go y) (fun z => z.length ≤ 66)) : Tot (s_Canon_L13 go x) (fun z => z.length ≤ 66) := by
  obtain ⟨⟨v, u⟩, s, i⟩ := x
  obtain ⟨h1, h2, h3, h4⟩ := hx
  simp only at h1 h2 h3 h4 hgo
  unfold s_Canon_L13
  refine tot_bif (fun h => ?_) (fun _ => tot_some (by show s.length ≤ 66; omega))
  have hi : i < (v.length : Int) := by simpa using h
  have e : IntKind.i64.wrap (i + 1) = i + 1 := w64 (by omega) (by omega)
  simp only [e, s_Var_is, Option.bind_some]
  refine tot_ok (by simpa using h2) (tot_get (by omega) fun a _ => ?_)
  have l1 := varText_len a.1
  refine tot_ok (by simp; omega) (tot_ok (by simpa using h2) (tot_get (by omega) fun b _ => ?_))
  have l2 := varText_len b.2
  exact tot_ok (by simp; omega) (hgo _ ⟨h1, by simp only; omega, by simp only; omega, by simp only [List.length_append]; omega⟩ (by simp only; omega))
theorem canon_tot (v : List (Int × Int) × PUnit) (h : v.1.length ≤ 3) : Tot (s_Canon v) (fun z => z.length ≤ 66) := by
  unfold s_Canon
  refine tot_bindT (vocabOk_tot v) fun b => tot_bif (fun _ => tot_some (by simp)) (fun _ => ?_)
  simp only [s_Var_is, Option.bind_some]
  have l1 := varText_len (v.1.length : Int)
  refine tot_ok (by simp; omega) (tot_bind (iter_tot (S := s_Canon_L13) (fun x => (3 - x.2.2).toNat) (fun x => x.1.1.length ≤ 3 ∧ 0 ≤ x.2.2 ∧ x.2.2 ≤ 3 ∧ (x.2.1.length : Int) ≤ 12 + 18 * x.2.2) (fun z => z.length ≤ 66) c13_step FUEL _ ⟨h, by simp, by simp, by simp; omega⟩ (fuel_lt (by simp))) fun z hz => tot_some hz)
theorem d18_tot (c : Cur) (n : Int) (b : Bool) (hc : CI c) : Tot (s_l7Draw_L18 (c, n, b)) (fun z => CI z.2) := by
  unfold s_l7Draw_L18
  exact tot_bif (fun _ => tot_bind (pick_tot _ _ (by simp) hc) fun z ⟨_, hc⟩ => tot_some hc) (fun _ => tot_some hc)
theorem d9_step (go) (x : Cur × (List (Int × Int) × PUnit) × Int) (hx : CI x.1 ∧ 0 ≤ x.2.2 ∧ (x.2.1.1.length : Int) + x.2.2 ≤ 3)
    (hgo : ∀ y : Cur × (List (Int × Int) × PUnit) × Int, (CI y.1 ∧ 0 ≤ y.2.2 ∧ (y.2.1.1.length : Int) + y.2.2 ≤ 3) → y.2.2.toNat < x.2.2.toNat → Tot (go y) (fun z => CI z.1 ∧ z.2.1.length ≤ 3)) : Tot (s_l7Draw_L9 go x) (fun z => CI z.1 ∧ z.2.1.length ≤ 3) := by
  obtain ⟨c, ⟨v, u⟩, n⟩ := x
  obtain ⟨hc, h2, h3⟩ := hx
  simp only at hc h2 h3 hgo
  unfold s_l7Draw_L9
  refine tot_bif (fun h => ?_) (fun _ => tot_some ⟨hc, by show v.length ≤ 3; omega⟩)
  have hn : 0 < n := by simpa using h
  have e : IntKind.i64.wrap (n - 1) = n - 1 := w64 (by omega) (by omega)
  simp only [e]
  repeat' first
    | exact hgo _ ⟨hc, by simp only; omega, by simp; omega⟩ (by simp only; omega)
    | refine tot_bind (below_tot _ _ hc) (fun _ ⟨_, _, _, hc⟩ => ?_)
    | refine tot_bind (once_tot _ _ hc) (fun _ hc => ?_)
    | refine tot_bind (d18_tot _ _ _ hc) (fun _ hc => ?_)
    | refine tot_bindT (vocabOk_tot _) (fun _ => ?_)
    | refine tot_ok (by simp; omega) ?_
    | refine tot_bif (fun _ => ?_) (fun _ => ?_)
theorem draw7_tot (c : Cur) (hc : CI c) : Tot (s_l7Draw (c, 3)) (fun z => z.1.1.length ≤ 3 ∧ CI z.2) := by
  unfold s_l7Draw
  have e : IntKind.i64.wrap (3 + 1) = 4 := by decide
  simp only [e]
  refine tot_bind (below_tot _ _ hc) fun n ⟨n0, n1, _, hc⟩ => tot_bind (iter_tot (S := s_l7Draw_L9) (fun x => x.2.2.toNat) (fun x => CI x.1 ∧ 0 ≤ x.2.2 ∧ (x.2.1.1.length : Int) + x.2.2 ≤ 3) (fun z => CI z.1 ∧ z.2.1.length ≤ 3) d9_step FUEL _ ⟨hc, n0, ?_⟩ (fuel_lt ?_)) fun z ⟨z1, z2⟩ => tot_some ⟨z2, z1⟩
  · have := n1 (by omega); simp; omega
  · have := n1 (by omega); simp only; omega
theorem l43_step (n0 : Int) (hn : n0 ≤ 1000) (go) (x : Int × List Int) (hx : x.1 = n0 ∧ (x.2.length : Int) ≤ 1000)
    (hgo : ∀ y : Int × List Int, (y.1 = n0 ∧ (y.2.length : Int) ≤ 1000) → (1000 - y.2.length) < (1000 - x.2.length) → Tot (go y) (fun z => z.length ≤ 1000)) : Tot (s_l12Op_L43 go x) (fun z => z.length ≤ 1000) := by
  obtain ⟨n, l⟩ := x
  obtain ⟨h1, h2⟩ := hx
  simp only at h1 h2 hgo
  subst h1
  unfold s_l12Op_L43
  refine tot_bif (fun h => ?_) (fun _ => tot_some (by show l.length ≤ 1000; omega))
  have hi : (l.length : Int) < n := by simpa using h
  exact tot_ok (by simp; omega) (hgo _ ⟨rfl, by simp only [len_push]; omega⟩ (by simp only [len_push]; omega))
theorem l43_tot (n : Int) (hn : n ≤ 1000) : Tot (iter s_l12Op_L43 FUEL (n, List.replicate 0 0)) (fun z => z.length ≤ 1000) :=
  iter_tot (S := s_l12Op_L43) (fun x => 1000 - x.2.length) (fun x => x.1 = n ∧ (x.2.length : Int) ≤ 1000) (fun z => z.length ≤ 1000) (l43_step n hn) FUEL _ ⟨rfl, by simp⟩ (fuel_lt (by simp))
end Go.Proofs.Ytcdncdbghghnfaa
