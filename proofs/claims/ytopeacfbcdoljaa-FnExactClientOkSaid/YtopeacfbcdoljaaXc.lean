/- Tables: of types, of functions. -/
import Derived.Test.YtopeacfbcdoljaaXb
namespace Go.Proofs.Ytopeacfbcdoljaa.V
open Go
section
variable {P : Program}
def tabB (P : Program) (k : Nat) : List (Option Ty) → Nat → Bool
  | [], _ => true
  | none :: r, i => tabB P k r (i + 1)
  | some t :: r, i => tyB P k i t && (match t with | .st u => !(Ty.st u).comparable || !P.eqGuardType P.depth i | _ => true) && tabB P k r (i + 1)
theorem tabB_at {k : Nat} : ∀ {l : List (Option Ty)} {i j : Nat} {t : Ty}, tabB P k l i = true → l.getD j none = some t → tyB P k (i + j) t = true ∧ ∀ u, t = .st u → (Ty.st u).comparable = true → P.eqGuardType P.depth (i + j) = false := by
  intro l
  induction l with
  | nil => intro i j t _ h; simp at h
  | cons o l ih =>
    intro i j t h hj
    cases j with
    | zero =>
      have ho : o = some t := by simpa using hj
      subst ho
      simp only [tabB, Bool.and_eq_true] at h
      refine ⟨h.1.1, fun u hu hc => ?_⟩
      subst hu
      have := h.1.2
      simp only [hc, Bool.not_true, Bool.false_or, Bool.not_eq_true'] at this
      exact this
    | succ j =>
      have hj' : l.getD j none = some t := by simpa using hj
      have h' : tabB P k l (i + 1) = true := by
        cases o with
        | none => exact h
        | some t => simp only [tabB, Bool.and_eq_true] at h; exact h.2
      have := ih h' hj'
      rwa [show i + 1 + j = i + (j + 1) by omega] at this
def tabT (l : List (Option Ty)) (i : TypeId) : Option Ty := l.getD i none
theorem tab_ok {l : List (Option Ty)} {k : Nat} (hk : k ≤ 10000) (h : tabB P k l 0 = true) : TabOk P (tabT l) := by
  refine ⟨fun i t hi => ⟨k, by have := (tabB_at h hi).1; simpa using this⟩, fun i u hi hc => by have := (tabB_at h hi).2 u rfl hc; simpa using this, fun i t n hi _ => ⟨k, hk, by have := (tabB_at h hi).1; simpa using this⟩⟩
/-- A function that may be called, with its contract. -/
def FnOk (P : Program) (f : FuncId) (fn : Fn) : Prop := Meets P f fn ∧ ∃ g, P.funcs[f]? = some g ∧ g.body.isSome = true ∧ (g.name == "runtime.NumGoroutine") = false
def ftab : List (FuncId × Fn) → FuncId → Option Fn
  | [], _ => none
  | (g, fn) :: r, f => bif g == f then some fn else ftab r f
def FAll (P : Program) : List (FuncId × Fn) → Prop
  | [] => True
  | p :: r => FnOk P p.1 p.2 ∧ FAll P r
theorem fall_ok : ∀ {l : List (FuncId × Fn)}, FAll P l → FOk P (ftab l) := by
  intro l
  induction l with
  | nil => intro _ f fn h; simp [ftab] at h
  | cons p r ih =>
    intro h f fn hf
    obtain ⟨g, fn'⟩ := p
    simp only [ftab] at hf
    cases hg : (g == f) with
    | true =>
      rw [hg] at hf
      simp at hf
      have hgf : g = f := by simpa using hg
      subst hgf; subst hf
      exact h.1
    | false => rw [hg] at hf; exact ih h.2 f fn hf
def bodyOf (g : Func) : Code := match g.body with
  | some c => c
  | none => .skip
def C0 : Cuts := fun _ => none
theorem cuts0 : ∀ {c : Code}, CutsIn P C0 c := by
  intro c
  induction c with
  | seq a b iha ihb => exact ⟨iha, ihb⟩
  | cond c a b iha ihb => exact ⟨iha, ihb⟩
  | block id c ih => exact ih
  | loop c ih => exact trivial
  | _ => exact trivial
theorem fn_of {l : List (Option Ty)} {k : Nat} (hk : decide (k ≤ 10000) = true) (hT : tabB P k l 0 = true) {fl : List (FuncId × Fn)} (hF : FAll P fl) {C : Cuts} {f : FuncId} {g : Func} (hf : P.funcs[f]? = some g) (hb : g.body.isSome = true) (hn : (g.name == "runtime.NumGoroutine") = false)
    (hc : CutsIn P C (bodyOf g)) {s : Sig} {F : s.In → Option s.Out} (he : ∀ x, fnK ⟨tabT l, ftab fl⟩ C g s x = F x) : FnOk P f ⟨s, F⟩ := by
  refine ⟨?_, g, hf, hb, hn⟩
  have hbody : g.body = some (bodyOf g) := by
    unfold bodyOf
    cases h : g.body with
    | none => rw [h] at hb; cases hb
    | some c => rfl
  exact fn_ok ⟨tabT l, ftab fl⟩ C (tab_ok (by simpa using hk) hT) (fall_ok hF) hf hbody hc F (fun x y h => (he x).trans h)
end
end Go.Proofs.Ytopeacfbcdoljaa.V
