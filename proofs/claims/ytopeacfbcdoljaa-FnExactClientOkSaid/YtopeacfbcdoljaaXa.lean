/- What comes in, read as typed values. -/
import Derived.Test.YtopeacfbcdoljaaWh
import Derived.ProofKit
import Derived.Carry
namespace Go.Proofs.Ytopeacfbcdoljaa.V
open Go
/-- No arrays. -/
def Ty.plain : Ty → Bool
  | .pair a b => a.plain && b.plain
  | .st t => t.plain
  | .arr _ _ => false
  | .sl _ t => t.plain
  | _ => true
/-- What holds of every value that comes in. -/
def WFv : (t : Ty) → t.den → Prop
  | .int k, n => (Lit.int k n).wf = true
  | .bool, _ => True
  | .str, s => (s : List UInt8).length ≤ maxLen
  | .unit, _ => True
  | .pair a b, v => WFv a v.1 ∧ WFv b v.2
  | .st t, v => WFv t v
  | .arr _ _, _ => True
  | .sl _ t, v => (v : List t.den).length ≤ maxLen ∧ ∀ x ∈ (v : List t.den), WFv t x
section
variable {P : Program} {w : World} {H : Type} {enc : TypeId × Value → H} {sp : Nat → Bool} {held : Bool}
theorem tyB_cells {n : Nat} {i : TypeId} {t : Ty} (h : tyB P n i t = true) : P.cellsOf i = t.size := by
  obtain ⟨f, z, h1, h2, _⟩ := tyB_info h
  simp [Program.cellsOf, h1, h2]
theorem tyB_bool {n : Nat} {i : TypeId} (h : tyB P n i .bool = true) : P.underlying i = some .bool := by
  cases n with
  | zero => simp [tyB] at h
  | succ n =>
    simp only [tyB, Bool.and_eq_true] at h
    have h1 := h.2
    cases hu : P.underlying i with
    | none => simp [hu] at h1
    | some d => cases d <;> simp [hu] at h1; rfl
theorem list_of_each {α : Type} {φ : Nat → α → Prop} : ∀ (n : Nat), (∀ i, i < n → ∃ x, φ i x) → ∃ l : List α, l.length = n ∧ ∀ (i : Nat) x, l[i]? = some x → φ i x := by
  intro n
  induction n with
  | zero => intro _; exact ⟨[], rfl, fun i x h => by simp at h⟩
  | succ n ih =>
    intro h
    obtain ⟨l, h1, h2⟩ := ih (fun i hi => h i (by omega))
    obtain ⟨x, hx⟩ := h n (by omega)
    refine ⟨l ++ [x], by simp [h1], fun i y hy => ?_⟩
    by_cases hi : i < n
    · rw [List.getElem?_append_left (by omega)] at hy; exact h2 i y hy
    · rw [List.getElem?_append_right (by omega)] at hy
      have := (List.getElem?_eq_some_iff.1 hy).1
      have hin : i = n := by simp at this; omega
      subst hin
      simp [h1] at hy
      subst hy; exact hx
theorem add_none {a : Addr} {v : Value} (h : w.cell? a = some v) : ∃ b o, a = ⟨b, o, none⟩ := by
  obtain ⟨b, o, s⟩ := a
  cases s with
  | none => exact ⟨b, o, rfl⟩
  | some k =>
    exfalso
    unfold World.cell? at h
    split at h
    · simp at h
    · cases h
theorem seg_flat {α : Type} {n m : Nat} {l : List (List Value)} (hl : l.length = m) (h : ∀ c ∈ l, c.length = n) : l.flatten.length = m * n ∧ ∀ i c, l[i]? = some c → seg l.flatten n i = c := by
  have _ : List α = List α := rfl
  induction l generalizing m with
  | nil => simp at hl; subst hl; exact ⟨by simp, fun i c h => by simp at h⟩
  | cons c0 l ih =>
    cases m with
    | zero => simp at hl
    | succ m =>
      obtain ⟨h1, h2⟩ := ih (m := m) (by simpa using hl) (fun c hc => h c (List.mem_cons_of_mem _ hc))
      have h0 := h c0 List.mem_cons_self
      refine ⟨by simp only [List.flatten_cons, List.length_append, h1, h0, Nat.add_mul]; omega, fun i c hc => ?_⟩
      cases i with
      | zero =>
        simp at hc; subst hc
        simp [seg, h0]
      | succ i =>
        have := h2 i c (by simpa using hc)
        simp only [seg, List.flatten_cons] at this ⊢
        rw [List.drop_append, List.drop_eq_nil_of_le (by rw [h0, Nat.add_mul]; omega), List.nil_append, h0, show (i + 1) * n - n = i * n by rw [Nat.add_mul]; omega]
        exact this
theorem trod_ty (A : Nat → Prop) (hA : ∀ b, b < w.heap.size → A b) : ∀ {t : Ty}, t.plain = true →
    (∀ {n : Nat} {i : TypeId} {fuel : Nat} {cs : List Value} {x : DataW H × List MemPlace}, tyB P n i t = true → DataW.trod enc P w 0 sp held fuel i cs = some x → ∃ v : t.den, Rf w A t v cs ∧ WFv t v) ∧
    (∀ {m : Nat} {fs : List Field} {off : Nat} {cs : List Value}, fieldsB (tyB P m) t fs off = true → cs.length = off + t.size → (∀ f ∈ fs, ∃ fuel x, DataW.trod enc P w 0 sp held fuel f.type ((cs.drop f.offset).take (P.cellsOf f.type)) = some x) →
      ∃ v : t.den, Rf w A t v (cs.drop off) ∧ WFv t v) := by
  have one : ∀ {t : Ty}, (∀ a b, t ≠ .pair a b) → t ≠ .unit → (∀ {n : Nat} {i : TypeId} {fuel : Nat} {cs : List Value} {x : DataW H × List MemPlace}, tyB P n i t = true → DataW.trod enc P w 0 sp held fuel i cs = some x → ∃ v : t.den, Rf w A t v cs ∧ WFv t v) →
      (∀ {m : Nat} {fs : List Field} {off : Nat} {cs : List Value}, fieldsB (tyB P m) t fs off = true → cs.length = off + t.size → (∀ f ∈ fs, ∃ fuel x, DataW.trod enc P w 0 sp held fuel f.type ((cs.drop f.offset).take (P.cellsOf f.type)) = some x) →
        ∃ v : t.den, Rf w A t v (cs.drop off) ∧ WFv t v) := by
    intro t h1 h2 hT m fs off cs hf hl hr
    match fs with
    | [f] =>
      have hf' : (f.offset == off && f.name != "_" && tyB P m f.type t && decide (0 < t.size)) = true := by
        cases t <;> first | exact hf | exact absurd rfl (h1 _ _) | exact absurd rfl h2
      simp only [Bool.and_eq_true, beq_iff_eq] at hf'
      obtain ⟨fuel, x, hx⟩ := hr f List.mem_cons_self
      rw [hf'.1.1.1, tyB_cells hf'.1.2, List.take_of_length_le (by simp; omega)] at hx
      exact hT hf'.1.2 hx
    | [] => cases t <;> first | (simp [fieldsB] at hf; done) | exact absurd rfl (h1 _ _) | exact absurd rfl h2
    | f :: g :: r => cases t <;> first | (simp [fieldsB] at hf; done) | exact absurd rfl (h1 _ _) | exact absurd rfl h2
  intro t
  induction t with
  | int k =>
    intro _
    have h : ∀ {n : Nat} {i : TypeId} {fuel : Nat} {cs : List Value} {x : DataW H × List MemPlace}, tyB P n i (.int k) = true → DataW.trod enc P w 0 sp held fuel i cs = some x → ∃ v : (Ty.int k).den, Rf w A (.int k) v cs ∧ WFv (.int k) v := by
      intro n i fuel cs x ht h
      obtain ⟨v, h1, _, h2⟩ := DataW.trod_int (tyB_int ht) h
      exact ⟨v, h1, h2⟩
    exact ⟨h, one (fun _ _ h => by cases h) (fun h => by cases h) h⟩
  | bool =>
    intro _
    have h : ∀ {n : Nat} {i : TypeId} {fuel : Nat} {cs : List Value} {x : DataW H × List MemPlace}, tyB P n i .bool = true → DataW.trod enc P w 0 sp held fuel i cs = some x → ∃ v : Ty.bool.den, Rf w A .bool v cs ∧ WFv .bool v := by
      intro n i fuel cs x ht h
      obtain ⟨v, h1, _⟩ := DataW.trod_bool (tyB_bool ht) h
      exact ⟨v, h1, trivial⟩
    exact ⟨h, one (fun _ _ h => by cases h) (fun h => by cases h) h⟩
  | str =>
    intro _
    have h : ∀ {n : Nat} {i : TypeId} {fuel : Nat} {cs : List Value} {x : DataW H × List MemPlace}, tyB P n i .str = true → DataW.trod enc P w 0 sp held fuel i cs = some x → ∃ v : Ty.str.den, Rf w A .str v cs ∧ WFv .str v := by
      intro n i fuel cs x ht h
      obtain ⟨s, h1, _, h2⟩ := DataW.trod_string (tyB_str ht) h
      refine ⟨s.data.toList, ?_, by simpa [WFv] using h2⟩
      show cs = [.string ⟨s.data.toList.toArray⟩]
      rw [h1]
    exact ⟨h, one (fun _ _ h => by cases h) (fun h => by cases h) h⟩
  | unit =>
    intro _
    refine ⟨fun {n i fuel cs x} ht h => ?_, fun {m fs off cs} hf hl hr => ⟨(), ?_, trivial⟩⟩
    · exfalso
      cases n with
      | zero => simp [tyB] at ht
      | succ n => simp [tyB] at ht
    · show cs.drop off = []
      exact List.drop_eq_nil_of_le (by simp [Ty.size] at hl; omega)
  | pair a b iha ihb =>
    intro hp
    simp only [Ty.plain, Bool.and_eq_true] at hp
    refine ⟨fun {n i fuel cs x} ht h => ?_, fun {m fs off cs} hf hl hr => ?_⟩
    · exfalso
      cases n with
      | zero => simp [tyB] at ht
      | succ n => simp [tyB] at ht
    · cases fs with
      | nil => simp [fieldsB] at hf
      | cons f r =>
        simp only [fieldsB, Bool.and_eq_true, beq_iff_eq] at hf
        obtain ⟨fuel, x, hx⟩ := hr f List.mem_cons_self
        rw [hf.1.1.1.1, tyB_cells hf.1.1.2] at hx
        obtain ⟨v1, p1, p2⟩ := (iha hp.1).1 hf.1.1.2 hx
        simp only [Ty.size] at hl
        obtain ⟨v2, q1, q2⟩ := (ihb hp.2).2 hf.2 (by omega) (fun g hg => hr g (List.mem_cons_of_mem _ hg))
        refine ⟨(v1, v2), ⟨_, _, ?_, p1, q1⟩, p2, q2⟩
        rw [← List.drop_drop, List.take_append_drop]
  | st t ih =>
    intro hp
    have h : ∀ {n : Nat} {i : TypeId} {fuel : Nat} {cs : List Value} {x : DataW H × List MemPlace}, tyB P n i (.st t) = true → DataW.trod enc P w 0 sp held fuel i cs = some x → ∃ v : (Ty.st t).den, Rf w A (.st t) v cs ∧ WFv (.st t) v := by
      intro n i fuel cs x ht h
      obtain ⟨m, fs, h1, _, h2⟩ := tyB_st ht
      obtain ⟨xs, k, rfl, _, h4, h5, h6⟩ := DataW.trod_struct h1 h
      obtain ⟨v, g1, g2⟩ := (ih hp).2 h2 (by rw [h4, tyB_cells ht]; simp [Ty.size]) (fun f hf => by
        obtain ⟨j, hj⟩ := List.getElem?_of_mem hf
        have hj' : fs[j]? = some f := by simpa using hj
        have hlt : j < xs.length := by rw [h5]; exact (Array.getElem?_eq_some_iff.1 hj').1
        exact ⟨k, xs[j], by rw [h6 j f hj', List.getElem?_eq_getElem hlt]⟩)
      exact ⟨v, by rw [List.drop_zero] at g1; exact g1, g2⟩
    exact ⟨h, one (fun _ _ h => by cases h) (fun h => by cases h) h⟩
  | arr n t ih => intro hp; simp [Ty.plain] at hp
  | sl e t ih =>
    intro hp
    have h : ∀ {n : Nat} {i : TypeId} {fuel : Nat} {cs : List Value} {x : DataW H × List MemPlace}, tyB P n i (.sl e t) = true → DataW.trod enc P w 0 sp held fuel i cs = some x → ∃ v : (Ty.sl e t).den, Rf w A (.sl e t) v cs ∧ WFv (.sl e t) v := by
      intro n i fuel cs x ht h
      obtain ⟨m, h1, h2⟩ := tyB_sl ht
      have hsz := tyB_cells h2
      have hpos : 0 < t.size := by
        have := tyB_ok ht
        simp only [Ty.ok, Bool.and_eq_true, decide_eq_true_eq] at this
        exact this.2
      rcases DataW.trod_slice h1 h with ⟨rfl, _⟩ | ⟨a, len, cap, elems, rest, k, rfl, rfl, _, _, hle, hcap, hlen, hel, _⟩
      · exact ⟨([] : List t.den), ⟨none, 0, [], rfl, by simp, fun i x h => by simp at h, fun h => absurd rfl h, Nat.le_refl _⟩, by simp [maxLen], fun x h => by simp at h⟩
      · have each : ∀ i, i < len → ∃ q : t.den × List Value, Rf w A t q.1 q.2 ∧ WFv t q.1 ∧ q.2.length = t.size ∧ ∀ j, j < t.size → w.cell? ((a.add (i * t.size)).add j) = q.2[j]? := by
          intro i hi
          have h3 := hel i hi
          rw [List.getElem?_eq_getElem (by omega), Option.bind_eq_some_iff] at h3
          obtain ⟨c, h4, h5⟩ := h3
          rw [hsz] at h4
          obtain ⟨_, h6, h7⟩ := World.cells?_some h4
          obtain ⟨v, g1, g2⟩ := (ih hp).1 h2 h5
          exact ⟨(v, c), g1, g2, h6, h7⟩
        obtain ⟨l, hl, hall⟩ := list_of_each len each
        obtain ⟨hf1, hf2⟩ := seg_flat (α := Nat) (l := l.map (·.2)) (m := len) (n := t.size) (by simpa using hl) (fun c hc => by
          obtain ⟨q, hq, rfl⟩ := List.mem_map.1 hc
          obtain ⟨j, hj⟩ := List.getElem?_of_mem hq
          exact (hall j q hj).2.2.1)
        refine ⟨l.map (·.1), ⟨some a, cap, (l.map (·.2)).flatten, by simp [hl], by simpa [hl] using hf1, fun i x hx => ?_, fun hne => ?_, by simpa [hl] using hle⟩, by simp [hl]; omega, fun x hx => ?_⟩
        · rw [List.getElem?_map] at hx
          cases hq : l[i]? with
          | none => rw [hq] at hx; simp at hx
          | some q =>
            rw [hq] at hx
            simp at hx; subst hx
            rw [hf2 i q.2 (by rw [List.getElem?_map, hq]; rfl)]
            exact (hall i q hq).1
        · have h0 : 0 < len := by
            rcases Nat.eq_zero_or_pos len with h | h
            · exfalso; apply hne
              have : l = [] := List.eq_nil_of_length_eq_zero (by rw [hl, h])
              simp [this]
            · exact h
          have hq0 := hall 0 (l[0]'(by omega)) (List.getElem?_eq_getElem (by omega))
          obtain ⟨u0, hc0⟩ : ∃ u0, w.cell? ((a.add (0 * t.size)).add 0) = some u0 := ⟨_, by rw [hq0.2.2.2 0 hpos, List.getElem?_eq_getElem (by rw [hq0.2.2.1]; exact hpos)]⟩
          clear hq0
          have ha : ∃ b o, a = ⟨b, o, none⟩ := by
            have : a.add (0 * t.size) = a.add 0 := by simp
            rw [this] at hc0
            have e : (a.add 0).add 0 = a.add 0 := by
              obtain ⟨b', o', s'⟩ := a
              cases s' <;> simp [Addr.add]
            rw [e] at hc0
            rw [show a.add 0 = a by simp [Addr.add]] at hc0
            exact add_none hc0
          obtain ⟨b, o, rfl⟩ := ha
          refine ⟨b, o, rfl, hA b ?_, ?_⟩
          · simp only [Nat.zero_mul, add_addr, Nat.add_zero] at hc0
            unfold World.cell? at hc0
            split at hc0
            · rename_i hb; exact (Array.getElem?_eq_some_iff.1 hb).1
            · cases hc0
          · intro j v hv
            have hj : j < len * t.size := by rw [← hf1]; exact (List.getElem?_eq_some_iff.1 hv).1
            have hi : j / t.size < len := Nat.div_lt_of_lt_mul (by rwa [Nat.mul_comm] at hj)
            have hq := hall (j / t.size) (l[j / t.size]'(by omega)) (List.getElem?_eq_getElem (by omega))
            have hseg := hf2 (j / t.size) (l[j / t.size]'(by omega)).2 (by rw [List.getElem?_map, List.getElem?_eq_getElem (by omega)]; rfl)
            have hm : j % t.size < t.size := Nat.mod_lt _ hpos
            have h8 := hq.2.2.2 (j % t.size) hm
            rw [add_addr, add_addr, ← hseg] at h8
            simp only [seg, List.getElem?_take, hm, if_true, List.getElem?_drop] at h8
            rw [Nat.mul_comm, Nat.add_assoc, Nat.div_add_mod] at h8
            rw [h8]
            exact hv
        · obtain ⟨q, hq, rfl⟩ := List.mem_map.1 hx
          obtain ⟨j, hj⟩ := List.getElem?_of_mem hq
          exact (hall j q hj).2.1
    exact ⟨h, one (fun _ _ h => by cases h) (fun h => by cases h) h⟩
end
end Go.Proofs.Ytopeacfbcdoljaa.V
