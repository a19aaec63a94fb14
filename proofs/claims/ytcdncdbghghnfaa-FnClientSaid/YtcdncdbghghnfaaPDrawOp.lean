/- The plain law: drawn operations, clients and messages come back, and stay small. -/
import Derived.Test.YtcdncdbghghnfaaPVocab
import Derived.Test.YtcdncdbghghnfaaPSha
import Derived.Test.YtcdncdbghghnfaaPTot
namespace Go.Proofs.Ytcdncdbghghnfaa
open Go Go.Proofs.Ytcdncdbghghnfaa.V
theorem new9_step (go) (x : List Int × Int × Int) (hx : 0 ≤ x.2.2 ∧ x.2.2 ≤ 4000)
    (hgo : ∀ y : List Int × Int × Int, (0 ≤ y.2.2 ∧ y.2.2 ≤ 4000) → (4000 - y.2.2).toNat < (4000 - x.2.2).toNat → Tot (go y) (fun _ => True)) : Tot (s_l1New_L9 go x) (fun _ => True) := by
  obtain ⟨b, h, i⟩ := x
  obtain ⟨h1, h2⟩ := hx
  simp only at h1 h2 hgo
  unfold s_l1New_L9
  have e : (bif decide (i < (↑(List.length b) : Int)) then some (decide (i < 4000)) else some false) = some (decide (i < (↑(List.length b) : Int)) && decide (i < 4000)) := by
    cases decide (i < (↑(List.length b) : Int)) <;> rfl
  simp only [e, Option.bind_some]
  refine tot_bif (fun h => ?_) (fun _ => tot_some trivial)
  simp only [Bool.and_eq_true, decide_eq_true_eq] at h
  have hw : IntKind.i64.wrap (i + 1) = i + 1 := w64 (by omega) (by omega)
  simp only [hw]
  exact tot_ok (by simpa using h1) (tot_get (by omega) fun _ _ => hgo _ ⟨by simp only; omega, by simp only; omega⟩ (by simp only; omega))
theorem new_tot (b : List Int) (hb : b.length ≤ 1048576) : Tot (s_l1New b) CI := by
  unfold s_l1New
  exact tot_bind (iter_tot (S := s_l1New_L9) (fun x => (4000 - x.2.2).toNat) (fun x => 0 ≤ x.2.2 ∧ x.2.2 ≤ 4000) (fun _ => True) new9_step FUEL _ ⟨by simp, by simp⟩ (fuel_lt (by simp))) fun z _ => tot_some ⟨by simp, by simp, hb⟩
theorem below_pos (c : Cur) (n : Int) (hn : 0 < n) (hc : CI c) : Tot (s_l1Below (c, n)) (fun y => 0 ≤ y.1 ∧ y.1 < n ∧ CI y.2) :=
  (below_tot c n hc).mono fun _ ⟨h0, h1, _, h3⟩ => ⟨h0, h1 hn, h3⟩
theorem l22_tot (c : Cur) (o1 o2 o3 k : Int) (b : Bool) (hc : CI c) : Tot (s_l12Op_L22 (c, (o1, o2, o3, []), k, b)) (fun z => z.2.2.2.2.length ≤ 1000 ∧ CI z.1) := by
  unfold s_l12Op_L22
  repeat' first
    | exact tot_some ⟨by simp, by assumption⟩
    | refine tot_bind (below_tot _ _ (by assumption)) (fun _ ⟨_, _, _, _⟩ => ?_)
    | refine tot_bind (once_tot _ _ (by assumption)) (fun _ _ => ?_)
    | refine tot_bif (fun _ => ?_) (fun _ => ?_)
theorem l43_is (n : Int) (hn : n < 2) (h0 : 0 ≤ n) : Tot (iter s_l12Op_L43 FUEL (IntKind.i64.wrap (250 + n), List.replicate 0 0)) (fun z => z.length ≤ 1000) :=
  l43_tot _ (by rw [w64 (by omega) (by omega)]; omega)
theorem op_tot (c : Cur) (hc : CI c) : Tot (s_l12Op c) (fun z => z.1.2.2.2.length ≤ 1000 ∧ CI z.2) := by
  unfold s_l12Op
  repeat' first
    | exact tot_some ⟨by first | assumption | omega | (simp only [List.length_map]; omega), by assumption⟩
    | refine tot_bind (below_pos _ _ (by omega) (by assumption)) (fun _ ⟨_, _, _⟩ => ?_)
    | refine tot_bind (once_tot _ _ (by assumption)) (fun _ _ => ?_)
    | refine tot_bind (pick_tot _ _ (by simp) (by assumption)) (fun _ ⟨_, _⟩ => ?_)
    | refine tot_bind (draw7_tot _ (by assumption)) (fun _ ⟨_, _⟩ => ?_)
    | refine tot_bind (canon_tot _ (by assumption)) (fun _ _ => ?_)
    | refine tot_bind (spoil_tot _ _ (by omega) (by assumption)) (fun _ ⟨_, _⟩ => ?_)
    | refine tot_bind (l22_tot _ _ _ _ _ _ (by assumption)) (fun _ ⟨_, _⟩ => ?_)
    | refine tot_bind (l43_is _ (by omega) (by omega)) (fun _ _ => ?_)
    | refine tot_bif (fun _ => ?_) (fun _ => ?_)
end Go.Proofs.Ytcdncdbghghnfaa
