/- Soundness of single operations, first part: operands, casts, places, types. -/
import Derived.Test.YtopeacfbcdoljaaVc
namespace Go.Proofs.Ytopeacfbcdoljaa.V
open Go

-- ---------------------------------------------------------------- types
def zc : Ty → List Value
  | .int k => [.int k 0]
  | .bool => [.bool false]
  | .str => [.string ⟨#[]⟩]
  | .unit => []
  | .pair a b => zc a ++ zc b
  | .st t => zc t
  | .arr n t => (List.replicate n (zc t)).flatten
  | .sl _ _ => [.slice none 0 0]
def sameV : Value → Value → Bool
  | .int k n, .int k' n' => k == k' && n == n'
  | .bool a, .bool b => a == b
  | .string a, .string b => a.data.toList == b.data.toList
  | .slice none 0 0, .slice none 0 0 => true
  | _, _ => false
def sameL : List Value → List Value → Bool
  | [], [] => true
  | a :: r, b :: s => sameV a b && sameL r s
  | _, _ => false
theorem eq_of_sameV {a b : Value} (h : sameV a b = true) : a = b := by
  unfold sameV at h
  split at h
  · simp at h; rw [h.1, h.2]
  · simp at h; rw [h]
  · rename_i a b
    have e : a.data = b.data := Array.toList_inj.1 (by simpa using h)
    congr 1
    cases a; cases b; simp at e; rw [e]
  · rfl
  · cases h
theorem eq_of_sameL : ∀ {a b : List Value}, sameL a b = true → a = b
  | [], [], _ => rfl
  | a :: r, b :: s, h => by simp [sameL] at h; rw [eq_of_sameV h.1, eq_of_sameL h.2]
  | [], _ :: _, h => by simp [sameL] at h
  | _ :: _, [], h => by simp [sameL] at h
def fieldsB (W : TypeId → Ty → Bool) : Ty → List Field → Nat → Bool
  | .pair a b, f :: r, off => f.offset == off && f.name != "_" && W f.type a && decide (0 < a.size) && fieldsB W b r (off + a.size)
  | .pair _ _, [], _ => false
  | .unit, [], _ => true
  | .unit, _ :: _, _ => false
  | t, [f], off => f.offset == off && f.name != "_" && W f.type t && decide (0 < t.size)
  | _, _, _ => false
def infoB (P : Program) (i : TypeId) (t : Ty) : Bool :=
  match P.info? i with
  | some f => f.size == t.size && decide (f.bytes ≤ 32768) && (match f.zero with
    | some z => sameL z.cells.toList (zc t)
    | none => false)
  | none => false
def tyB (P : Program) : Nat → TypeId → Ty → Bool
  | 0, _, _ => false
  | n + 1, i, t => infoB P i t && t.ok && (match t, P.underlying i with
    | .int k, some (.int k') => k == k'
    | .bool, some .bool => true
    | .str, some .string => true
    | .st u, some (.struct fs) => !P.stoodInHeld i && fieldsB (tyB P n) u fs.toList 0
    | .arr m u, some (.array m' e) => m == m' && tyB P n e u
    | .sl e u, some (.slice e') => e == e' && tyB P n e u
    | _, _ => false)
/-- The table tells the program's types. -/
def TOk (P : Program) (T : TypeId → Option Ty) : Prop := ∀ i t, T i = some t → ∃ n, tyB P n i t = true
section
variable {P : Program}
theorem tyB_info {n : Nat} {i : TypeId} {t : Ty} (h : tyB P n i t = true) : ∃ f z, P.info? i = some f ∧ f.size = t.size ∧ f.bytes ≤ 32768 ∧ f.zero = some z ∧ z.cells.toList = zc t := by
  cases n with
  | zero => simp [tyB] at h
  | succ n =>
    simp only [tyB, Bool.and_eq_true] at h
    have h1 := h.1.1
    unfold infoB at h1
    cases hi : P.info? i with
    | none => simp [hi] at h1
    | some f =>
      simp only [hi, Bool.and_eq_true, beq_iff_eq, decide_eq_true_eq] at h1
      cases hz : f.zero with
      | none => simp [hz] at h1
      | some z => exact ⟨f, z, rfl, h1.1.1, h1.1.2, hz, by simpa [hz] using eq_of_sameL (by simpa [hz] using h1.2)⟩
theorem tyB_ok {n : Nat} {i : TypeId} {t : Ty} (h : tyB P n i t = true) : t.ok = true := by
  cases n with
  | zero => simp [tyB] at h
  | succ n => simp only [tyB, Bool.and_eq_true] at h; exact h.1.2
theorem tyB_st {n : Nat} {i : TypeId} {u : Ty} (h : tyB P n i (.st u) = true) : ∃ m fs, P.underlying i = some (.struct fs) ∧ P.stoodInHeld i = false ∧ fieldsB (tyB P m) u fs.toList 0 = true := by
  cases n with
  | zero => simp [tyB] at h
  | succ n =>
    simp only [tyB, Bool.and_eq_true] at h
    have h1 := h.2
    cases hu : P.underlying i with
    | none => simp [hu] at h1
    | some d =>
      cases d with
      | struct fs => simp [hu] at h1; exact ⟨n, fs, rfl, h1.1, h1.2⟩
      | _ => simp [hu] at h1
theorem tyB_arr {n : Nat} {i : TypeId} {m : Nat} {u : Ty} (h : tyB P n i (.arr m u) = true) : ∃ k e, P.underlying i = some (.array m e) ∧ tyB P k e u = true := by
  cases n with
  | zero => simp [tyB] at h
  | succ n =>
    simp only [tyB, Bool.and_eq_true] at h
    have h1 := h.2
    cases hu : P.underlying i with
    | none => simp [hu] at h1
    | some d =>
      cases d with
      | array m' e => simp [hu] at h1; exact ⟨n, e, by rw [h1.1], h1.2⟩
      | _ => simp [hu] at h1
theorem tyB_sl {n : Nat} {i e : TypeId} {u : Ty} (h : tyB P n i (.sl e u) = true) : ∃ k, P.underlying i = some (.slice e) ∧ tyB P k e u = true := by
  cases n with
  | zero => simp [tyB] at h
  | succ n =>
    simp only [tyB, Bool.and_eq_true] at h
    have h1 := h.2
    cases hu : P.underlying i with
    | none => simp [hu] at h1
    | some d =>
      cases d with
      | slice e' => simp [hu] at h1; exact ⟨n, by rw [h1.1], h1.2⟩
      | _ => simp [hu] at h1
theorem tyB_agg {n : Nat} {i : TypeId} {t : Ty} (h : tyB P n i t = true) (w : World) : (isAgg i).run P w = .ok t.agg w := by
  cases n with
  | zero => simp [tyB] at h
  | succ n =>
    simp only [tyB, Bool.and_eq_true] at h
    have h1 := h.2
    unfold isAgg
    cases hu : P.underlying i with
    | none => cases t <;> simp [hu] at h1
    | some d => cases t <;> cases d <;> simp_all [run_underlying hu, Ty.agg]
theorem tyB_scalar {n : Nat} {i : TypeId} {t : Ty} (h : tyB P n i t = true) (ha : t.agg = false) : t.size = 1 := by
  cases n with
  | zero => simp [tyB] at h
  | succ n =>
    simp only [tyB, Bool.and_eq_true] at h
    have h1 := h.2
    cases t <;> simp_all [Ty.agg, Ty.size]
theorem run_sizeOf_ty {n : Nat} {i : TypeId} {t : Ty} (h : tyB P n i t = true) (w : World) : (sizeOf i).run P w = .ok t.size w := by
  obtain ⟨f, z, hi, hs, _⟩ := tyB_info h
  simp [sizeOf, typeInfo, hi, hs]
theorem run_zeroValue_ty {n : Nat} {i : TypeId} {t : Ty} (h : tyB P n i t = true) (w : World) : ∃ z, (zeroValue i).run P w = .ok z w ∧ z.cells.toList = zc t := by
  obtain ⟨f, z, hi, hs, _, hz, hc⟩ := tyB_info h
  exact ⟨z, by simp [zeroValue, typeInfo, hi, hz], hc⟩
/-- A struct's field: its place and type. -/
theorem fieldsB_at {m : Nat} : ∀ {u : Ty} {fs : List Field} {off j : Nat} {p : List Sel}, fieldsB (tyB P m) u fs off = true → fieldPath u j = some p →
    ∃ f d, fs[j]? = some f ∧ f.offset = off + d ∧ f.name ≠ "_" ∧ tyB P m f.type (fieldTy u p) = true ∧ 0 < (fieldTy u p).size ∧ ∀ b o, addr u (b, o) p = some (fieldTy u p, (b, o + d)) := by
  have single : ∀ {u : Ty} {fs : List Field} {off j : Nat} {p : List Sel}, (∀ a b, u ≠ .pair a b) → u ≠ .unit → fieldsB (tyB P m) u fs off = true → fieldPath u j = some p →
      ∃ f d, fs[j]? = some f ∧ f.offset = off + d ∧ f.name ≠ "_" ∧ tyB P m f.type (fieldTy u p) = true ∧ 0 < (fieldTy u p).size ∧ ∀ b o, addr u (b, o) p = some (fieldTy u p, (b, o + d)) := by
    intro u fs off j p hp hu h hj
    cases j with
    | succ j => cases u <;> simp_all [fieldPath]
    | zero =>
      have hp0 : p = [] := by cases u <;> simp_all [fieldPath]
      subst hp0
      match fs, h with
      | [], h => cases u <;> simp_all [fieldsB]
      | _ :: _ :: _, h => cases u <;> simp_all [fieldsB]
      | [f], h =>
        have h' : f.offset = off ∧ f.name ≠ "_" ∧ tyB P m f.type u = true ∧ 0 < u.size := by
          cases u <;> simp_all [fieldsB]
        exact ⟨f, 0, rfl, h'.1, h'.2.1, by simpa [fieldTy] using h'.2.2.1, by simpa [fieldTy] using h'.2.2.2, fun b o => by simp [addr, fieldTy]⟩
  intro u
  induction u with
  | pair a b _ ihb =>
    intro fs off j p h hj
    cases fs with
    | nil => simp [fieldsB] at h
    | cons f r =>
      simp only [fieldsB, Bool.and_eq_true, beq_iff_eq, decide_eq_true_eq, bne_iff_ne] at h
      cases j with
      | zero =>
        simp only [fieldPath, Option.some.injEq] at hj; subst hj
        exact ⟨f, 0, rfl, h.1.1.1.1, h.1.1.1.2, by simpa [fieldTy] using h.1.1.2, by simpa [fieldTy] using h.1.2, fun b' o => by simp [addr, fieldTy]⟩
      | succ j =>
        simp only [fieldPath] at hj
        cases hq : fieldPath b j with
        | none => simp [hq] at hj
        | some q =>
          simp only [hq, Option.some.injEq] at hj; subst hj
          obtain ⟨f', d, h1, h2, h3, h4, h5, h6⟩ := ihb h.2 hq
          refine ⟨f', a.size + d, by simpa using h1, by omega, h3, by simpa [fieldTy] using h4, by simpa [fieldTy] using h5, fun b' o => ?_⟩
          simp only [addr, fieldTy]
          rw [h6]; simp; omega
  | unit => intro fs off j p h hj; simp [fieldPath] at hj
  | int k => intro fs off j p h hj; exact single (by simp) (by simp) h hj
  | bool => intro fs off j p h hj; exact single (by simp) (by simp) h hj
  | str => intro fs off j p h hj; exact single (by simp) (by simp) h hj
  | st t _ => intro fs off j p h hj; exact single (by simp) (by simp) h hj
  | arr n t _ => intro fs off j p h hj; exact single (by simp) (by simp) h hj
  | sl e t _ => intro fs off j p h hj; exact single (by simp) (by simp) h hj
end
theorem addr_append : ∀ {t u : Ty} {p q : Nat × Nat} {r s : List Sel}, addr t p r = some (u, q) → addr t p (r ++ s) = addr u q s := by
  intro t
  induction t with
  | st t ih =>
    intro u p q r s h
    cases r with
    | nil => simp [addr] at h; obtain ⟨rfl, rfl⟩ := h; rfl
    | cons c r => exact ih (r := c :: r) h
  | pair a b iha ihb =>
    intro u p q r s h
    cases r with
    | nil => simp [addr] at h; obtain ⟨rfl, rfl⟩ := h; rfl
    | cons c r => cases c with
      | fst => exact iha h
      | snd => exact ihb h
      | ix i => simp [addr] at h
  | arr n t ih =>
    intro u p q r s h
    cases r with
    | nil => simp [addr] at h; obtain ⟨rfl, rfl⟩ := h; rfl
    | cons c r => cases c with
      | fst => simp [addr] at h
      | snd => simp [addr] at h
      | ix i =>
        simp only [addr] at h
        split at h
        · rename_i hi; simp only [List.cons_append, addr, hi, if_true]; exact ih h
        · cases h
  | _ =>
    intro u p q r s h
    cases r with
    | nil => simp [addr] at h; obtain ⟨rfl, rfl⟩ := h; rfl
    | cons c r => cases c <;> simp [addr] at h

-- ---------------------------------------------------------------- casts
theorem cast?_some {t : Ty} {x : Val} {v : t.den} {ms : List Nat} (h : cast? t x = some (v, ms)) : x = ⟨t, v, ms⟩ := by
  unfold cast? at h
  split at h
  · rename_i hb
    obtain ⟨t', v', ms'⟩ := x
    have e := Ty.eq_of_beq hb
    dsimp only at e
    subst e
    simp at h
    obtain ⟨rfl, rfl⟩ := h
    rfl
  · cases h
section
variable {w : World} {A : Nat → Prop} {E : Env} {σ : St}
theorem slot_const {v : Value} (hno : opd σ (.const v) ≠ .no) : SlotOk w A E σ (opd σ (.const v)) v := by
  cases v with
  | int k n => exact ⟨[.int k n], rfl, rfl, rfl⟩
  | bool b => exact ⟨[.bool b], rfl, rfl, rfl⟩
  | string s => exact ⟨[.string s], by show [Value.string s] = [Value.string ⟨s.data.toList.toArray⟩]; simp, rfl, rfl⟩
  | slice a n c =>
    cases a with
    | some a => exact absurd rfl hno
    | none => cases n with
      | succ n => exact absurd rfl hno
      | zero => cases c with
        | succ c => exact absurd rfl hno
        | zero => rfl
  | _ => exact absurd rfl hno
end
theorem slot_opd {X : Ctx} {E : Env} {σ : St} {a : Act} {w : World} (h : RelE X E σ a.tmps w) (x : Operand) : SlotOk w (Fz X E σ w) E σ (opd σ x) (a.eval x) := by
  cases x with
  | tmp t =>
    show SlotOk _ _ _ _ (σ.fr.getD t .no) (a.tmps.getD t undef)
    by_cases ht : t < σ.fr.length
    · have ht' : t < a.tmps.size := by rw [← h.len]; exact ht
      have e1 : σ.fr[t]? = some σ.fr[t] := List.getElem?_eq_getElem ht
      have e2 : a.tmps[t]? = some a.tmps[t] := Array.getElem?_eq_getElem ht'
      have := h.slot t _ _ e1 e2
      simpa [List.getD, e1, Array.getD, ht'] using this
    · have e1 : σ.fr[t]? = none := List.getElem?_eq_none (Nat.le_of_not_lt ht)
      simp [List.getD, e1, SlotOk]
  | const v =>
    by_cases hn : opd σ (.const v) = .no
    · rw [hn]; trivial
    · exact slot_const hn
  | global g => trivial
  | func f => rfl
section
variable {w : World} {A : Nat → Prop} {E : Env} {σ : St}
/-- A slot told as a value of a type. -/
theorem coe_ok {t : Ty} {s : Slot} {v : t.den} {ms : List Nat} {u : Value} (h : coe t s = some (v, ms)) (hs : SlotOk w A E σ s u) (hnt : 2 ≤ σ.nt) (h1 : 1 ∉ σ.al) (h1' : 1 ∉ σ.fz) :
    ∃ cs, Rv w A E σ t v ms cs ∧ u = toVal t cs ∧ ms.length = t.nl := by
  unfold coe at h
  split at h
  · rename_i x hh
    have e := cast?_some h
    subst e
    exact hs
  · split at h
    · rename_i e t'
      simp only [Option.some.injEq, Prod.mk.injEq] at h
      obtain ⟨rfl, rfl⟩ := h
      have hu : u = .slice none 0 0 := hs
      subst hu
      refine ⟨[.slice none 0 0], ⟨_, rfl, by simp; omega, none, 0, rfl, fun hz => ?_, fun _ => ⟨rfl, rfl, rfl⟩, fun h => absurd h (by simp), fun h => absurd h (by simpa using h1)⟩, rfl, rfl⟩
      rcases hz with h | h
      · simp at h
      · exact absurd h (by simpa using h1')
    · cases h
  · cases h
end
theorem RelE.no1 {X : Ctx} {E : Env} {σ : St} {a : Array Value} {w : World} (h : RelE X E σ a w) : 1 ∉ σ.al ∧ 1 ∉ σ.fz :=
  ⟨fun h1 => by have := (h.alr 1 h1).1; omega, fun h1 => by have := (h.fzr 1 h1).1; omega⟩
theorem RelE.coe {X : Ctx} {E : Env} {σ : St} {a : Act} {w : World} (hr : RelE X E σ a.tmps w) {t : Ty} {x : Operand} {v : t.den} {ms : List Nat} (h : V.coe t (opd σ x) = some (v, ms)) :
    ∃ cs, Rv w (Fz X E σ w) E σ t v ms cs ∧ a.eval x = toVal t cs ∧ ms.length = t.nl :=
  coe_ok h (slot_opd hr x) hr.nt2 hr.no1.1 hr.no1.2
end Go.Proofs.Ytopeacfbcdoljaa.V
