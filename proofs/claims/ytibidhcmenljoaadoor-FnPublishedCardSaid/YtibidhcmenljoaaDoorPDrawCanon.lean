/- The plain law: drawn vocabularies come back. -/
import Derived.Test.YtibidhcmenljoaaDoorPDrawReg
namespace Go.Proofs.YtibidhcmenljoaaDoor
open Go Go.Proofs.YtibidhcmenljoaaDoor.V
theorem l37_tot (v : List (Int × Int)) (hv : v.length ≤ 60) : Tot (iter s_l7Any_L37 FUEL ((v, ()), 0)) (fun _ => True) := by
  refine iter_tot (S := s_l7Any_L37) (fun x => (6 - x.2).toNat) (fun x => 0 ≤ x.2 ∧ x.2 ≤ 6 ∧ (x.1.1.length : Int) ≤ 60 + x.2) _ (fun go x hx hgo => ?_) FUEL _ ⟨by simp, by simp, by simp only; omega⟩ (fuel_lt (by simp))
  obtain ⟨⟨l, u⟩, i⟩ := x
  obtain ⟨h1, h2, h3⟩ := hx
  simp only at h1 h2 h3 hgo
  unfold s_l7Any_L37
  refine tot_if (fun hi => ?_) (fun _ => tot_some trivial)
  simp only at hi
  have e : IntKind.i64.wrap (i + 1) = i + 1 := w64 (by omega) (by omega)
  simp only [e]
  refine tot_bif (fun _ => tot_okd (by omega) (hgo _ ⟨by simp only; omega, by simp only; omega, by simp; omega⟩ (by simp only; omega))) (fun _ => tot_ok (by simp; omega) (hgo _ ⟨by simp only; omega, by simp only; omega, by simp; omega⟩ (by simp only; omega)))
theorem l17_tot (k : Int) (h0 : 0 ≤ k) (hk : k ≤ 100) : Tot (iter s_l7Any_L17 FUEL ((List.replicate 0 ((0 : Int), (0 : Int)), ()), k, 0)) (fun _ => True) := by
  refine iter_tot (S := s_l7Any_L17) (fun x => (k - x.2.2).toNat) (fun x => 0 ≤ x.2.2 ∧ x.2.1 = k ∧ x.2.2 ≤ k ∧ (x.1.1.length : Int) ≤ x.2.2) _ (fun go x hx hgo => ?_) FUEL _ ⟨by simp, rfl, by simp only; omega, by simp⟩ (fuel_lt (by simp only; omega))
  obtain ⟨⟨l, u⟩, n, i⟩ := x
  obtain ⟨h1, h2, h3, h4⟩ := hx
  simp only at h1 h2 h3 h4 hgo
  subst h2
  unfold s_l7Any_L17
  refine tot_if (fun hi => ?_) (fun _ => tot_some trivial)
  simp only at hi
  have e : IntKind.i64.wrap (i + 1) = i + 1 := w64 (by omega) (by omega)
  simp only [e]
  exact tot_okd (by omega) (hgo _ ⟨by simp only; omega, rfl, by simp only; omega, by simp; omega⟩ (by simp only; omega))
theorem any7_tot (c : Cur) (m : Int) (h0 : 0 ≤ m) (hm : m ≤ 59) (hc : CI c) : TotT (s_l7Any (c, m)) := by
  unfold s_l7Any
  refine Tot.t (Q := fun _ => True) (tot_bind (draw7_totM c m h0 hm hc) fun z ⟨zl, zc⟩ => tot_bind (once_tot _ _ zc) fun a ac => tot_bif (fun _ => tot_bind (below_pos _ 4 (by omega) ac) fun k ⟨_, _, kc⟩ => ?_) fun _ => tot_some trivial)
  refine tot_if (fun _ => ?_) fun _ => tot_if (fun _ => ?_) fun _ => tot_if (fun _ => ?_) fun _ => ?_
  · exact tot_bind (pick_tot _ _ (by simp) kc) fun _ _ => tot_okd (by omega) (tot_some trivial)
  · refine tot_if (fun h => ?_) (fun _ => tot_some trivial)
    exact tot_bind (below_pos _ _ h kc) fun a ⟨a0, a1, _⟩ => tot_okd a0 (tot_get (by omega) fun _ _ => tot_get (by omega) fun _ _ => tot_okd (by omega) (tot_some trivial))
  · exact tot_bind (l37_tot z.1.1 (by omega)) fun _ _ => tot_some trivial
  · refine tot_bind (below_pos _ 2 (by omega) kc) fun a ⟨a0, a1, _⟩ => ?_
    have e : IntKind.i64.wrap (60 + a.1) = 60 + a.1 := w64 (by omega) (by omega)
    rw [e]
    exact tot_bind (l17_tot _ (by omega) (by omega)) fun _ _ => tot_some trivial
theorem drawCanon_tot (x : List Int) (hx : x.length ≤ 1048576) : TotT (s_DrawCanon x) := by
  unfold s_DrawCanon
  exact Tot.t (Q := fun _ => True) (tot_bind (new_tot x hx) fun c hc => tot_bind (size_tot x hx) fun m ⟨m0, m1⟩ => tot_bindT (any7_tot _ m (by omega) (by omega) hc) fun z => tot_some trivial)
end Go.Proofs.YtibidhcmenljoaaDoor
