/- The plain law: a digest has 32 bytes. -/
import Derived.Test.YtacbkfginiknaaaDoorPReg
namespace Go.Proofs.YtacbkfginiknaaaDoor
open Go Go.Proofs.YtacbkfginiknaaaDoor.V
def U32 (l : List Int) : Prop := ∀ w ∈ l, 0 ≤ w ∧ w < 4294967296
theorem b49_u32 (go) (x : List Int × List Int × List Int × Int) (hx : x.1.length = 8 ∧ x.2.1.length = 8 ∧ (x.2.2.1.length : Int) = x.2.2.2 ∧ 0 ≤ x.2.2.2 ∧ x.2.2.2 ≤ 8 ∧ U32 x.2.2.1)
    (hgo : ∀ y : List Int × List Int × List Int × Int, (y.1.length = 8 ∧ y.2.1.length = 8 ∧ (y.2.2.1.length : Int) = y.2.2.2 ∧ 0 ≤ y.2.2.2 ∧ y.2.2.2 ≤ 8 ∧ U32 y.2.2.1) → (8 - y.2.2.2).toNat < (8 - x.2.2.2).toNat → Tot (go y) (fun z => z.length = 8 ∧ U32 z)) : Tot (s_l2Block_L49 go x) (fun z => z.length = 8 ∧ U32 z) := by
  obtain ⟨k, w, v, i⟩ := x
  obtain ⟨h1, h2, h3, h4, h5, h6⟩ := hx
  simp only at h1 h2 h3 h4 h5 h6 hgo
  unfold s_l2Block_L49
  refine tot_bif (fun h => ?_) (fun h => tot_some ?_)
  · have hi : i < 8 := by simpa using h
    have e4 : IntKind.i64.wrap (i + 1) = i + 1 := w64 (by omega) (by omega)
    have d0 : decide (0 ≤ i) = true := by simp; omega
    simp only [e4, d0, cond_true]
    refine tot_get (by omega) fun _ _ => tot_get (by omega) fun _ _ => tot_ok (g_push (by omega)) (hgo _ ⟨h1, h2, by simp only [len_push]; omega, by simp only; omega, by simp only; omega, fun a ha => ?_⟩ (by simp only; omega))
    rcases List.mem_append.1 ha with ha | ha
    · exact h6 a ha
    · rw [List.mem_singleton.1 ha, w32]; omega
  · have hi : ¬ i < 8 := by simpa using h
    exact ⟨by show v.length = 8; omega, h6⟩
theorem block_u32 (h k : List Int) (b : List UInt8) (h1 : h.length = 8) (h2 : k.length = 64) (h3 : b.length = 64) : Tot (s_l2Block (h, k, b)) (fun z => z.length = 8 ∧ U32 z) := by
  unfold s_l2Block
  refine tot_bind (iter_tot (S := s_l2Block_L9) (fun x => (16 - x.2.2).toNat) (fun x => x.1.length = 64 ∧ 0 ≤ x.2.2 ∧ x.2.2 ≤ 16 ∧ (x.2.1.length : Int) = x.2.2) (fun z => z.length = 16) b9_step FUEL _ ⟨h3, by simp, by simp, by simp⟩ (fuel_lt (by simp))) fun w hw => ?_
  refine tot_bind (iter_tot (S := s_l2Block_L17) (fun x => (64 - x.2).toNat) (fun x => 16 ≤ x.2 ∧ x.2 ≤ 64 ∧ (x.1.length : Int) = x.2) (fun z => z.length = 64) b17_step FUEL _ ⟨by simp, by simp, by simp only; omega⟩ (fuel_lt (by simp))) fun w' hw' => ?_
  refine tot_ok (by simp; omega) ?_
  refine tot_bind (iter_tot (S := s_l2Block_L31) (fun x => (64 - x.2.2.2).toNat) (fun x => x.1.length = 64 ∧ x.2.1.length = 64 ∧ x.2.2.1.length = 8 ∧ 0 ≤ x.2.2.2 ∧ x.2.2.2 ≤ 64) (fun z => z.length = 8) b31_step FUEL _ ⟨h2, hw', by simpa using h1, by simp, by simp⟩ (fuel_lt (by simp))) fun v hv => ?_
  exact tot_bind (iter_tot (S := s_l2Block_L49) (fun x => (8 - x.2.2.2).toNat) (fun x => x.1.length = 8 ∧ x.2.1.length = 8 ∧ (x.2.2.1.length : Int) = x.2.2.2 ∧ 0 ≤ x.2.2.2 ∧ x.2.2.2 ≤ 8 ∧ U32 x.2.2.1) (fun z => z.length = 8 ∧ U32 z) b49_u32 FUEL _ ⟨h1, hv, by simp, by simp, by simp, fun a ha => by simp at ha⟩ (fuel_lt (by simp))) fun z hz => tot_some hz
theorem fixed4 {n : Int} (h0 : 0 ≤ n) (h1 : n < 4294967296) : Tot (s_Fixed (n, 4)) (fun z => z.length = 4) := by
  obtain ⟨m, rfl⟩ : ∃ m : Nat, n = (m : Int) := ⟨n.toNat, by omega⟩
  unfold s_Fixed
  have es := iter_is (S := s_Fixed_L13) (g := fsG) (fun x => (x.2.1 - x.2.2.2).toNat) FsI fs_step FUEL ((m : Int), 4, [], 0) ⟨m, 4, 0, rfl, by omega, rfl, rfl, by omega, by omega, rfl⟩ (fuel_lt (by simp))
  simp only [in_s, Option.bind_some, show (decide ((1 : Int) ≤ 4) && decide ((4 : Int) ≤ 7)) = true from rfl, Bool.not_true, Bool.not_false, cond_true, cond_false, decide_eq_false (show ¬ ((m : Int) < 0) by omega), es, fsG, Int.toNat_natCast]
  have e : m / 256 ^ ((4 : Int) - 0).toNat = 0 := by
    rw [show ((4 : Int) - 0).toNat = 4 by rfl]
    exact Nat.div_eq_of_lt (by omega)
  rw [e]
  refine tot_some ?_
  simp [fixN_len]
theorem sha21_u32 (go) (x : List UInt8 × List Int × List Int × Int × Int) (hx : x.1.length ≤ 1000 ∧ (x.2.1.length = 8 ∧ U32 x.2.1) ∧ x.2.2.1.length = 64 ∧ ∃ p q : Nat, x.2.2.2.1 = 64 * q ∧ x.2.2.2.2 = 64 * p ∧ 64 * q ≤ x.1.length)
    (hgo : ∀ y : List UInt8 × List Int × List Int × Int × Int, (y.1.length ≤ 1000 ∧ (y.2.1.length = 8 ∧ U32 y.2.1) ∧ y.2.2.1.length = 64 ∧ ∃ p q : Nat, y.2.2.2.1 = 64 * q ∧ y.2.2.2.2 = 64 * p ∧ 64 * q ≤ y.1.length) → (y.2.2.2.1 - y.2.2.2.2).toNat < (x.2.2.2.1 - x.2.2.2.2).toNat → Tot (go y) (fun z => z.length = 8 ∧ U32 z)) : Tot (s_Sha_L21 go x) (fun z => z.length = 8 ∧ U32 z) := by
  obtain ⟨s, h, k, a, i⟩ := x
  obtain ⟨h1, h2, h3, p, q, h4, h5, h6⟩ := hx
  simp only at h1 h2 h3 h4 h5 h6 hgo
  subst h4; subst h5
  unfold s_Sha_L21
  refine tot_bif (fun hc => ?_) (fun _ => tot_some h2)
  have hi : (64 : Int) * p < 64 * q := by simpa using hc
  have e4 : IntKind.i64.wrap (64 * (p : Int) + 64) = 64 * (p : Int) + 64 := w64 (by omega) (by omega)
  simp only [e4]
  refine tot_ok (by simp; omega) (tot_bind (block_u32 _ _ _ h2.1 h3 (by simp; omega)) fun z hz => hgo _ ⟨h1, hz, h3, p + 1, q, rfl, by simp only; omega, h6⟩ (by simp only; omega))
theorem sha31_u32 (go) (x : List Int × List Int × List UInt8 × Int) (hx : (x.1.length = 8 ∧ U32 x.1) ∧ x.2.1.length = 64 ∧ x.2.2.1.length ≤ 2000 ∧ 0 ≤ x.2.2.2 ∧ x.2.2.2 ≤ 2000)
    (hgo : ∀ y : List Int × List Int × List UInt8 × Int, ((y.1.length = 8 ∧ U32 y.1) ∧ y.2.1.length = 64 ∧ y.2.2.1.length ≤ 2000 ∧ 0 ≤ y.2.2.2 ∧ y.2.2.2 ≤ 2000) → (2000 - y.2.2.2).toNat < (2000 - x.2.2.2).toNat → Tot (go y) (fun z => z.length = 8 ∧ U32 z)) : Tot (s_Sha_L31 go x) (fun z => z.length = 8 ∧ U32 z) := by
  obtain ⟨h, k, s, i⟩ := x
  obtain ⟨h1, h2, h3, h4, h5⟩ := hx
  simp only at h1 h2 h3 h4 h5 hgo
  unfold s_Sha_L31
  have e4 : IntKind.i64.wrap (i + 64) = i + 64 := w64 (by omega) (by omega)
  simp only [e4]
  refine tot_bif (fun hc => ?_) (fun _ => tot_some h1)
  have hi : i + 64 ≤ (s.length : Int) := by simpa using hc
  refine tot_ok (by simp; omega) (tot_bind (block_u32 _ _ _ h1.1 h2 (by simp; omega)) fun z hz => hgo _ ⟨hz, h2, h3, by simp only; omega, by simp only; omega⟩ (by simp only; omega))
theorem sha41_len (go) (x : List Int × List UInt8 × Int) (hx : (x.1.length = 8 ∧ U32 x.1) ∧ (x.2.1.length : Int) = 4 * x.2.2 ∧ 0 ≤ x.2.2 ∧ x.2.2 ≤ 8)
    (hgo : ∀ y : List Int × List UInt8 × Int, ((y.1.length = 8 ∧ U32 y.1) ∧ (y.2.1.length : Int) = 4 * y.2.2 ∧ 0 ≤ y.2.2 ∧ y.2.2 ≤ 8) → (8 - y.2.2).toNat < (8 - x.2.2).toNat → Tot (go y) (fun z => z.length = 32)) : Tot (s_Sha_L41 go x) (fun z => z.length = 32) := by
  obtain ⟨h, s, i⟩ := x
  obtain ⟨h1, h2, h3, h4⟩ := hx
  simp only at h1 h2 h3 h4 hgo
  unfold s_Sha_L41
  refine tot_bif (fun hc => ?_) (fun hc => tot_some (by have : ¬ i < 8 := by simpa using hc
                                                        show s.length = 32; omega))
  have hi : i < 8 := by simpa using hc
  have e4 : IntKind.i64.wrap (i + 1) = i + 1 := w64 (by omega) (by omega)
  simp only [e4]
  refine tot_ok (by simp; omega) (tot_get (by omega) fun a ha => ?_)
  have hu := h1.2 a ha
  rw [w64 (by omega) (by omega)]
  exact tot_bind (fixed4 hu.1 hu.2) fun z hz => tot_ok (by simp; omega) (hgo _ ⟨h1, by simp only [List.length_append]; omega, by simp only; omega, by simp only; omega⟩ (by simp only; omega))
theorem sha_tot32 (s : List UInt8) (hs : s.length ≤ 1000) : Tot (s_Sha s) (fun z => z.length = 32) := by
  unfold s_Sha
  have hb : s_l2Begin () = some [1779033703, 3144134277, 1013904242, 2773480762, 1359893119, 2600822924, 528734635, 1541459225] := rfl
  have ht : ∃ k : List Int, s_l2Table () = some k ∧ k.length = 64 := ⟨_, rfl, by simp⟩
  obtain ⟨k, hk, hkl⟩ := ht
  have hu : U32 [1779033703, 3144134277, 1013904242, 2773480762, 1359893119, 2600822924, 528734635, 1541459225] := by
    intro a ha; simp at ha; omega
  simp only [hk, hb, Option.bind_some]
  refine tot_bind (iter_tot (S := s_Sha_L11) (fun x => (6456 - (x.1.length + x.2.length)) % 64) (fun x => x.1.length ≤ 1000 ∧ x.2.length + (6456 - (x.1.length + x.2.length)) % 64 ≤ 65) (fun z => z.length ≤ 65) sha11_step FUEL _ ⟨hs, by simp; omega⟩ (fuel_lt (by simp only; omega))) fun p hp => ?_
  refine tot_ok (by simp; omega) (tot_bind (fixed_tot _ _) fun f hf => tot_ok (by simp; omega) ?_)
  have e1 : Int.tdiv ((s.length : Nat) : Int) 64 = ((s.length / 64 : Nat) : Int) := rfl
  have e2 : IntKind.i64.wrap ((s.length / 64 : Nat) : Int) = ((s.length / 64 : Nat) : Int) := w64 (by omega) (by omega)
  have e3 : IntKind.i64.wrap (((s.length / 64 : Nat) : Int) * 64) = ((64 * (s.length / 64) : Nat) : Int) := by rw [w64 (by omega) (by omega)]; omega
  simp only [e1, e2, e3]
  refine tot_bind (iter_tot (S := s_Sha_L21) (fun x => (x.2.2.2.1 - x.2.2.2.2).toNat) (fun x => x.1.length ≤ 1000 ∧ (x.2.1.length = 8 ∧ U32 x.2.1) ∧ x.2.2.1.length = 64 ∧ ∃ p q : Nat, x.2.2.2.1 = 64 * q ∧ x.2.2.2.2 = 64 * p ∧ 64 * q ≤ x.1.length) (fun z => z.length = 8 ∧ U32 z) sha21_u32 FUEL _ ⟨hs, ⟨rfl, hu⟩, hkl, 0, s.length / 64, by simp only; omega, by simp, by simp only; omega⟩ (fuel_lt (by simp only; omega))) fun g hg => ?_
  refine tot_ok (by simp; omega) (tot_ok (by simp; omega) ?_)
  refine tot_bind (iter_tot (S := s_Sha_L31) (fun x => (2000 - x.2.2.2).toNat) (fun x => (x.1.length = 8 ∧ U32 x.1) ∧ x.2.1.length = 64 ∧ x.2.2.1.length ≤ 2000 ∧ 0 ≤ x.2.2.2 ∧ x.2.2.2 ≤ 2000) (fun z => z.length = 8 ∧ U32 z) sha31_u32 FUEL _ ⟨hg, hkl, by simp; omega, by simp, by simp⟩ (fuel_lt (by simp))) fun g' hg' => ?_
  exact tot_bind (iter_tot (S := s_Sha_L41) (fun x => (8 - x.2.2).toNat) (fun x => (x.1.length = 8 ∧ U32 x.1) ∧ (x.2.1.length : Int) = 4 * x.2.2 ∧ 0 ≤ x.2.2 ∧ x.2.2 ≤ 8) (fun z => z.length = 32) sha41_len FUEL _ ⟨hg', by simp, by simp, by simp⟩ (fuel_lt (by simp))) fun z hz => tot_some hz
theorem sha32 {s : Bs} (h : s.length ≤ 1000) : (sha s).length = 32 := by
  obtain ⟨y, hy, hl⟩ := sha_tot32 s h
  unfold sha; rw [hy]; exact hl
end Go.Proofs.YtacbkfginiknaaaDoor
