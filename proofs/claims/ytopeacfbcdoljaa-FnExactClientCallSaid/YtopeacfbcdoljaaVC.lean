/- A typed evaluator of the program's code and its soundness (part VC). Of a function it shows what it computes, as a plain function on numbers, bools, strings, lists and pairs. -/
import Derived.Test.YtopeacfbcdoljaaVB
import Derived.ProofKit
import Derived.Carry
namespace Go.Proofs.Ytopeacfbcdoljaa.V
open Go
/-- No arrays. -/
def Ty.plain : Ty → Bool
  | .pair a b => a.plain && b.plain
  | .st t => t.plain
  | .arr _ _ => false
  | .sl _ t => t.plain
  | _ => true
/-- What holds of every value that comes in. -/
def WFv : (t : Ty) → t.den → Prop
  | .int k, n => (Lit.int k n).wf = true
  | .bool, _ => True
  | .str, s => (s : List UInt8).length ≤ maxLen
  | .unit, _ => True
  | .pair a b, v => WFv a v.1 ∧ WFv b v.2
  | .st t, v => WFv t v
  | .arr _ _, _ => True
  | .sl _ t, v => (v : List t.den).length ≤ maxLen ∧ ∀ x ∈ (v : List t.den), WFv t x
section
variable {P : Program} {w : World} {H : Type} {enc : TypeId × Value → H} {sp : Nat → Bool} {held : Bool}
theorem tyB_cells {n : Nat} {i : TypeId} {t : Ty} (h : tyB P n i t = true) : P.cellsOf i = t.size := by
  obtain ⟨f, z, h1, h2, _⟩ := tyB_info h
  simp [Program.cellsOf, h1, h2]
theorem tyB_bool {n : Nat} {i : TypeId} (h : tyB P n i .bool = true) : P.underlying i = some .bool := by
  cases n with
  | zero => simp [tyB] at h
  | succ n =>
    simp only [tyB, Bool.and_eq_true] at h
    have h1 := h.2
    cases hu : P.underlying i with
    | none => simp [hu] at h1
    | some d => cases d <;> simp [hu] at h1; rfl
theorem list_of_each {α : Type} {φ : Nat → α → Prop} : ∀ (n : Nat), (∀ i, i < n → ∃ x, φ i x) → ∃ l : List α, l.length = n ∧ ∀ (i : Nat) x, l[i]? = some x → φ i x := by
  intro n
  induction n with
  | zero => intro _; exact ⟨[], rfl, fun i x h => by simp at h⟩
  | succ n ih =>
    intro h
    obtain ⟨l, h1, h2⟩ := ih (fun i hi => h i (by omega))
    obtain ⟨x, hx⟩ := h n (by omega)
    refine ⟨l ++ [x], by simp [h1], fun i y hy => ?_⟩
    by_cases hi : i < n
    · rw [List.getElem?_append_left (by omega)] at hy; exact h2 i y hy
    · rw [List.getElem?_append_right (by omega)] at hy
      have := (List.getElem?_eq_some_iff.1 hy).1
      have hin : i = n := by simp at this; omega
      subst hin
      simp [h1] at hy
      subst hy; exact hx
theorem add_none {a : Addr} {v : Value} (h : w.cell? a = some v) : ∃ b o, a = ⟨b, o, none⟩ := by
  obtain ⟨b, o, s⟩ := a
  cases s with
  | none => exact ⟨b, o, rfl⟩
  | some k =>
    exfalso
    unfold World.cell? at h
    split at h
    · simp at h
    · cases h
theorem seg_flat {α : Type} {n m : Nat} {l : List (List Value)} (hl : l.length = m) (h : ∀ c ∈ l, c.length = n) : l.flatten.length = m * n ∧ ∀ i c, l[i]? = some c → seg l.flatten n i = c := by
  have _ : List α = List α := rfl
  induction l generalizing m with
  | nil => simp at hl; subst hl; exact ⟨by simp, fun i c h => by simp at h⟩
  | cons c0 l ih =>
    cases m with
    | zero => simp at hl
    | succ m =>
      obtain ⟨h1, h2⟩ := ih (m := m) (by simpa using hl) (fun c hc => h c (List.mem_cons_of_mem _ hc))
      have h0 := h c0 List.mem_cons_self
      refine ⟨by simp only [List.flatten_cons, List.length_append, h1, h0, Nat.add_mul]; omega, fun i c hc => ?_⟩
      cases i with
      | zero =>
        simp at hc; subst hc
        simp [seg, h0]
      | succ i =>
        have := h2 i c (by simpa using hc)
        simp only [seg, List.flatten_cons] at this ⊢
        rw [List.drop_append, List.drop_eq_nil_of_le (by rw [h0, Nat.add_mul]; omega), List.nil_append, h0, show (i + 1) * n - n = i * n by rw [Nat.add_mul]; omega]
        exact this
theorem trod_ty (A : Nat → Prop) (hA : ∀ b, b < w.heap.size → A b) : ∀ {t : Ty}, t.plain = true →
    (∀ {n : Nat} {i : TypeId} {fuel : Nat} {cs : List Value} {x : DataW H × List MemPlace}, tyB P n i t = true → DataW.trod enc P w 0 sp held fuel i cs = some x → ∃ v : t.den, Rf w A t v cs ∧ WFv t v) ∧
    (∀ {m : Nat} {fs : List Field} {off : Nat} {cs : List Value}, fieldsB (tyB P m) t fs off = true → cs.length = off + t.size → (∀ f ∈ fs, ∃ fuel x, DataW.trod enc P w 0 sp held fuel f.type ((cs.drop f.offset).take (P.cellsOf f.type)) = some x) →
      ∃ v : t.den, Rf w A t v (cs.drop off) ∧ WFv t v) := by
  have one : ∀ {t : Ty}, (∀ a b, t ≠ .pair a b) → t ≠ .unit → (∀ {n : Nat} {i : TypeId} {fuel : Nat} {cs : List Value} {x : DataW H × List MemPlace}, tyB P n i t = true → DataW.trod enc P w 0 sp held fuel i cs = some x → ∃ v : t.den, Rf w A t v cs ∧ WFv t v) →
      (∀ {m : Nat} {fs : List Field} {off : Nat} {cs : List Value}, fieldsB (tyB P m) t fs off = true → cs.length = off + t.size → (∀ f ∈ fs, ∃ fuel x, DataW.trod enc P w 0 sp held fuel f.type ((cs.drop f.offset).take (P.cellsOf f.type)) = some x) →
        ∃ v : t.den, Rf w A t v (cs.drop off) ∧ WFv t v) := by
    intro t h1 h2 hT m fs off cs hf hl hr
    match fs with
    | [f] =>
      have hf' : (f.offset == off && f.name != "_" && tyB P m f.type t && decide (0 < t.size)) = true := by
        cases t <;> first | exact hf | exact absurd rfl (h1 _ _) | exact absurd rfl h2
      simp only [Bool.and_eq_true, beq_iff_eq] at hf'
      obtain ⟨fuel, x, hx⟩ := hr f List.mem_cons_self
      rw [hf'.1.1.1, tyB_cells hf'.1.2, List.take_of_length_le (by simp; omega)] at hx
      exact hT hf'.1.2 hx
    | [] => cases t <;> first | (simp [fieldsB] at hf; done) | exact absurd rfl (h1 _ _) | exact absurd rfl h2
    | f :: g :: r => cases t <;> first | (simp [fieldsB] at hf; done) | exact absurd rfl (h1 _ _) | exact absurd rfl h2
  intro t
  induction t with
  | int k =>
    intro _
    have h : ∀ {n : Nat} {i : TypeId} {fuel : Nat} {cs : List Value} {x : DataW H × List MemPlace}, tyB P n i (.int k) = true → DataW.trod enc P w 0 sp held fuel i cs = some x → ∃ v : (Ty.int k).den, Rf w A (.int k) v cs ∧ WFv (.int k) v := by
      intro n i fuel cs x ht h
      obtain ⟨v, h1, _, h2⟩ := DataW.trod_int (tyB_int ht) h
      exact ⟨v, h1, h2⟩
    exact ⟨h, one (fun _ _ h => by cases h) (fun h => by cases h) h⟩
  | bool =>
    intro _
    have h : ∀ {n : Nat} {i : TypeId} {fuel : Nat} {cs : List Value} {x : DataW H × List MemPlace}, tyB P n i .bool = true → DataW.trod enc P w 0 sp held fuel i cs = some x → ∃ v : Ty.bool.den, Rf w A .bool v cs ∧ WFv .bool v := by
      intro n i fuel cs x ht h
      obtain ⟨v, h1, _⟩ := DataW.trod_bool (tyB_bool ht) h
      exact ⟨v, h1, trivial⟩
    exact ⟨h, one (fun _ _ h => by cases h) (fun h => by cases h) h⟩
  | str =>
    intro _
    have h : ∀ {n : Nat} {i : TypeId} {fuel : Nat} {cs : List Value} {x : DataW H × List MemPlace}, tyB P n i .str = true → DataW.trod enc P w 0 sp held fuel i cs = some x → ∃ v : Ty.str.den, Rf w A .str v cs ∧ WFv .str v := by
      intro n i fuel cs x ht h
      obtain ⟨s, h1, _, h2⟩ := DataW.trod_string (tyB_str ht) h
      refine ⟨s.data.toList, ?_, by simpa [WFv] using h2⟩
      show cs = [.string ⟨s.data.toList.toArray⟩]
      rw [h1]
    exact ⟨h, one (fun _ _ h => by cases h) (fun h => by cases h) h⟩
  | unit =>
    intro _
    refine ⟨fun {n i fuel cs x} ht h => ?_, fun {m fs off cs} hf hl hr => ⟨(), ?_, trivial⟩⟩
    · exfalso
      cases n with
      | zero => simp [tyB] at ht
      | succ n => simp [tyB] at ht
    · show cs.drop off = []
      exact List.drop_eq_nil_of_le (by simp [Ty.size] at hl; omega)
  | pair a b iha ihb =>
    intro hp
    simp only [Ty.plain, Bool.and_eq_true] at hp
    refine ⟨fun {n i fuel cs x} ht h => ?_, fun {m fs off cs} hf hl hr => ?_⟩
    · exfalso
      cases n with
      | zero => simp [tyB] at ht
      | succ n => simp [tyB] at ht
    · cases fs with
      | nil => simp [fieldsB] at hf
      | cons f r =>
        simp only [fieldsB, Bool.and_eq_true, beq_iff_eq] at hf
        obtain ⟨fuel, x, hx⟩ := hr f List.mem_cons_self
        rw [hf.1.1.1.1, tyB_cells hf.1.1.2] at hx
        obtain ⟨v1, p1, p2⟩ := (iha hp.1).1 hf.1.1.2 hx
        simp only [Ty.size] at hl
        obtain ⟨v2, q1, q2⟩ := (ihb hp.2).2 hf.2 (by omega) (fun g hg => hr g (List.mem_cons_of_mem _ hg))
        refine ⟨(v1, v2), ⟨_, _, ?_, p1, q1⟩, p2, q2⟩
        rw [← List.drop_drop, List.take_append_drop]
  | st t ih =>
    intro hp
    have h : ∀ {n : Nat} {i : TypeId} {fuel : Nat} {cs : List Value} {x : DataW H × List MemPlace}, tyB P n i (.st t) = true → DataW.trod enc P w 0 sp held fuel i cs = some x → ∃ v : (Ty.st t).den, Rf w A (.st t) v cs ∧ WFv (.st t) v := by
      intro n i fuel cs x ht h
      obtain ⟨m, fs, h1, _, h2⟩ := tyB_st ht
      obtain ⟨xs, k, rfl, _, h4, h5, h6⟩ := DataW.trod_struct h1 h
      obtain ⟨v, g1, g2⟩ := (ih hp).2 h2 (by rw [h4, tyB_cells ht]; simp [Ty.size]) (fun f hf => by
        obtain ⟨j, hj⟩ := List.getElem?_of_mem hf
        have hj' : fs[j]? = some f := by simpa using hj
        have hlt : j < xs.length := by rw [h5]; exact (Array.getElem?_eq_some_iff.1 hj').1
        exact ⟨k, xs[j], by rw [h6 j f hj', List.getElem?_eq_getElem hlt]⟩)
      exact ⟨v, by rw [List.drop_zero] at g1; exact g1, g2⟩
    exact ⟨h, one (fun _ _ h => by cases h) (fun h => by cases h) h⟩
  | arr n t ih => intro hp; simp [Ty.plain] at hp
  | sl e t ih =>
    intro hp
    have h : ∀ {n : Nat} {i : TypeId} {fuel : Nat} {cs : List Value} {x : DataW H × List MemPlace}, tyB P n i (.sl e t) = true → DataW.trod enc P w 0 sp held fuel i cs = some x → ∃ v : (Ty.sl e t).den, Rf w A (.sl e t) v cs ∧ WFv (.sl e t) v := by
      intro n i fuel cs x ht h
      obtain ⟨m, h1, h2⟩ := tyB_sl ht
      have hsz := tyB_cells h2
      have hpos : 0 < t.size := by
        have := tyB_ok ht
        simp only [Ty.ok, Bool.and_eq_true, decide_eq_true_eq] at this
        exact this.2
      rcases DataW.trod_slice h1 h with ⟨rfl, _⟩ | ⟨a, len, cap, elems, rest, k, rfl, rfl, _, _, hle, hcap, hlen, hel, _⟩
      · exact ⟨([] : List t.den), ⟨none, 0, [], rfl, by simp, fun i x h => by simp at h, fun h => absurd rfl h, Nat.le_refl _⟩, by simp [maxLen], fun x h => by simp at h⟩
      · have each : ∀ i, i < len → ∃ q : t.den × List Value, Rf w A t q.1 q.2 ∧ WFv t q.1 ∧ q.2.length = t.size ∧ ∀ j, j < t.size → w.cell? ((a.add (i * t.size)).add j) = q.2[j]? := by
          intro i hi
          have h3 := hel i hi
          rw [List.getElem?_eq_getElem (by omega), Option.bind_eq_some_iff] at h3
          obtain ⟨c, h4, h5⟩ := h3
          rw [hsz] at h4
          obtain ⟨_, h6, h7⟩ := World.cells?_some h4
          obtain ⟨v, g1, g2⟩ := (ih hp).1 h2 h5
          exact ⟨(v, c), g1, g2, h6, h7⟩
        obtain ⟨l, hl, hall⟩ := list_of_each len each
        obtain ⟨hf1, hf2⟩ := seg_flat (α := Nat) (l := l.map (·.2)) (m := len) (n := t.size) (by simpa using hl) (fun c hc => by
          obtain ⟨q, hq, rfl⟩ := List.mem_map.1 hc
          obtain ⟨j, hj⟩ := List.getElem?_of_mem hq
          exact (hall j q hj).2.2.1)
        refine ⟨l.map (·.1), ⟨some a, cap, (l.map (·.2)).flatten, by simp [hl], by simpa [hl] using hf1, fun i x hx => ?_, fun hne => ?_, by simpa [hl] using hle⟩, by simp [hl]; omega, fun x hx => ?_⟩
        · rw [List.getElem?_map] at hx
          cases hq : l[i]? with
          | none => rw [hq] at hx; simp at hx
          | some q =>
            rw [hq] at hx
            simp at hx; subst hx
            rw [hf2 i q.2 (by rw [List.getElem?_map, hq]; rfl)]
            exact (hall i q hq).1
        · have h0 : 0 < len := by
            rcases Nat.eq_zero_or_pos len with h | h
            · exfalso; apply hne
              have : l = [] := List.eq_nil_of_length_eq_zero (by rw [hl, h])
              simp [this]
            · exact h
          have hq0 := hall 0 (l[0]'(by omega)) (List.getElem?_eq_getElem (by omega))
          obtain ⟨u0, hc0⟩ : ∃ u0, w.cell? ((a.add (0 * t.size)).add 0) = some u0 := ⟨_, by rw [hq0.2.2.2 0 hpos, List.getElem?_eq_getElem (by rw [hq0.2.2.1]; exact hpos)]⟩
          clear hq0
          have ha : ∃ b o, a = ⟨b, o, none⟩ := by
            have : a.add (0 * t.size) = a.add 0 := by simp
            rw [this] at hc0
            have e : (a.add 0).add 0 = a.add 0 := by
              obtain ⟨b', o', s'⟩ := a
              cases s' <;> simp [Addr.add]
            rw [e] at hc0
            rw [show a.add 0 = a by simp [Addr.add]] at hc0
            exact add_none hc0
          obtain ⟨b, o, rfl⟩ := ha
          refine ⟨b, o, rfl, hA b ?_, ?_⟩
          · simp only [Nat.zero_mul, add_addr, Nat.add_zero] at hc0
            unfold World.cell? at hc0
            split at hc0
            · rename_i hb; exact (Array.getElem?_eq_some_iff.1 hb).1
            · cases hc0
          · intro j v hv
            have hj : j < len * t.size := by rw [← hf1]; exact (List.getElem?_eq_some_iff.1 hv).1
            have hi : j / t.size < len := Nat.div_lt_of_lt_mul (by rwa [Nat.mul_comm] at hj)
            have hq := hall (j / t.size) (l[j / t.size]'(by omega)) (List.getElem?_eq_getElem (by omega))
            have hseg := hf2 (j / t.size) (l[j / t.size]'(by omega)).2 (by rw [List.getElem?_map, List.getElem?_eq_getElem (by omega)]; rfl)
            have hm : j % t.size < t.size := Nat.mod_lt _ hpos
            have h8 := hq.2.2.2 (j % t.size) hm
            rw [add_addr, add_addr, ← hseg] at h8
            simp only [seg, List.getElem?_take, hm, if_true, List.getElem?_drop] at h8
            rw [Nat.mul_comm, Nat.add_assoc, Nat.div_add_mod] at h8
            rw [h8]
            exact hv
        · obtain ⟨q, hq, rfl⟩ := List.mem_map.1 hx
          obtain ⟨j, hj⟩ := List.getElem?_of_mem hq
          exact (hall j q hj).2.1
    exact ⟨h, one (fun _ _ h => by cases h) (fun h => by cases h) h⟩
end
end Go.Proofs.Ytopeacfbcdoljaa.V
namespace Go.Proofs.Ytopeacfbcdoljaa.V
open Go
section
variable {P : Program} {W W' : World} {H : Type} {enc : TypeId × Value → H}
abbrev roAll (tys : List Ty) : List AK := tys.map AK.ro
def WFs : (tys : List Ty) → Tup (tysOf (roAll tys)) → Prop
  | [], _ => True
  | t :: r, x => WFv t (Tup.hd x) ∧ WFs r (Tup.tl x)
theorem open_val {r : Reach} {b0 n : Nat} {i : TypeId} {t : Ty} {v : Value} {d : DataW H} {ps : List MemPlace} (ht : tyB P n i t = true) (hp : t.plain = true) (hval : Value.okWide P W r b0 i v) (hd : DataW.Trod enc P W 0 (fun _ => true) true i v d ps) :
    ∃ x : t.den, (∃ cs, Rf W (fun b => b < W.heap.size) t x cs ∧ v = toVal t cs) ∧ WFv t x := by
  obtain ⟨fuel, hf⟩ := hd
  obtain ⟨x, h1, h2⟩ := (trod_ty (fun b => b < W.heap.size) (fun _ h => h) hp).1 ht hf
  refine ⟨x, ⟨_, h1, ?_⟩, h2⟩
  cases t with
  | int k => obtain ⟨n, rfl⟩ := WideShapes.okWide_int (tyB_int ht) hval; rfl
  | bool => obtain ⟨n, rfl⟩ := WideShapes.okWide_bool (tyB_bool ht) hval; rfl
  | str => obtain ⟨n, rfl⟩ := WideShapes.okWide_string (tyB_str ht) hval; rfl
  | unit => cases n <;> simp [tyB] at ht
  | pair a b => cases n <;> simp [tyB] at ht
  | arr n t => simp [Ty.plain] at hp
  | sl e t =>
    obtain ⟨m, h3, _⟩ := tyB_sl ht
    obtain ⟨a, len, cap, rfl⟩ := WideShapes.okWide_slice h3 hval
    rfl
  | st t =>
    obtain ⟨m, fs, h3, _, _⟩ := tyB_st ht
    unfold Value.okWide at hval
    rw [h3] at hval
    obtain ⟨cs, rfl, _⟩ := hval
    show Value.agg cs = .agg (Value.agg cs).cells.toList.toArray
    simp [Value.cells]
/-- The parameters, by their types. -/
def ParB (P : Program) : List TypeId → List Ty → Prop
  | [], [] => True
  | i :: is, t :: ts => (∃ n, tyB P n i t = true) ∧ t.plain = true ∧ P.readableRec i = true ∧ i < P.types.size ∧ ParB P is ts
  | _, _ => False
theorem opens_ok : ∀ {is : List TypeId} {tys : List Ty} {vs : List Value} {ds : List (DataW H)} {ps : List MemPlace}, ParB P is tys → DataW.TrodAll enc P W 0 (fun _ => true) true is vs ds ps →
    (∀ (j : Nat) t v, is[j]? = some t → vs[j]? = some v → Value.okWide P W .any 0 t v ∨ ∃ b, Value.okWide P W .any b t v) →
    ∃ x : Tup (tysOf (roAll tys)), ArgsOk W (fun b => b < W.heap.size) (fun _ => False) (roAll tys) x vs (tys.map fun _ => ⟨[], none⟩) ∧ WFs tys x ∧ ds.length = is.length := by
  intro is
  induction is with
  | nil =>
    intro tys vs ds ps hp h _
    cases tys with
    | cons t tys => exact hp.elim
    | nil =>
      obtain ⟨rfl, rfl, _⟩ := ChangeShapes.trodAll_nil h
      exact ⟨(), trivial, trivial, rfl⟩
  | cons i is ih =>
    intro tys vs ds ps hp h hv
    cases tys with
    | nil => exact hp.elim
    | cons t tys =>
      obtain ⟨⟨n, ht⟩, hpl, _, _, hr⟩ := hp
      obtain ⟨v, vs', d, ds', p, q, rfl, rfl, rfl, h1, h2⟩ := ChangeShapes.trodAll_cons h
      obtain ⟨x2, g1, g2, g3⟩ := ih hr h2 (fun j t v e1 e2 => hv (j + 1) t v (by simpa using e1) (by simpa using e2))
      obtain ⟨x1, g4, g5⟩ : ∃ x : t.den, (∃ cs, Rf W (fun b => b < W.heap.size) t x cs ∧ v = toVal t cs) ∧ WFv t x := by
        rcases hv 0 i v rfl rfl with h | ⟨b, h⟩
        · exact open_val ht hpl h h1
        · exact open_val ht hpl h h1
      have e1 := tup_hd (t := t) (r := tysOf (roAll tys)) x1 x2
      have e2 := tup_tl (t := t) (r := tysOf (roAll tys)) x1 x2
      refine ⟨Tup.cons (t := t) (r := tysOf (roAll tys)) x1 x2, ⟨⟨?_, rfl⟩, ?_⟩, ⟨?_, ?_⟩, by simp [g3]⟩
      · show ∃ cs, Rf W _ t (Tup.hd (t := t) (r := tysOf (roAll tys)) (Tup.cons x1 x2)) cs ∧ v = toVal t cs
        rw [e1]; exact g4
      · show ArgsOk W _ _ (roAll tys) (Tup.tl (t := t) (r := tysOf (roAll tys)) (Tup.cons x1 x2)) vs' _
        rw [e2]; exact g1
      · show WFv t (Tup.hd (t := t) (r := tysOf (roAll tys)) (Tup.cons x1 x2))
        rw [e1]; exact g5
      · show WFs tys (Tup.tl (t := t) (r := tysOf (roAll tys)) (Tup.cons x1 x2))
        rw [e2]; exact g2
theorem Ext.keptBut (h : Ext W W') (may : MemPlace → Prop) : W.keptBut W' may := by
  refine ⟨h.os, h.output, fun i hi => ?_⟩
  rw [h.block i hi]
  cases hb : W.heap[i]? with
  | none => trivial
  | some o => cases o <;> simp
theorem Ext.sameAt (h : Ext W W') {p : MemPlace} (hp : p.block < W.heap.size) : W.sameAt W' p := RowKit.Below.same ⟨h.os, h.tape, h.output, h.size, h.block⟩ hp
theorem args_stay (hl : laidOutB P = true) (hx : Ext W W') {sp : Nat → Bool} : ∀ {is : List TypeId} {tys : List Ty} {vs : List Value} {ds : List (DataW H)} {ps : List MemPlace}, ParB P is tys → DataW.TrodAll enc P W 0 (fun _ => true) true is vs ds ps →
    (∀ p ∈ ps, p.block < W.heap.size) → (∀ p ∈ ps, sp p.block = true) → DataW.TrodAll enc P W' 0 sp true is vs ds ps := by
  intro is
  induction is with
  | nil =>
    intro tys vs ds ps _ h _ _
    obtain ⟨rfl, rfl, rfl⟩ := ChangeShapes.trodAll_nil h
    exact ChangeShapes.trodAll_mk0
  | cons i is ih =>
    intro tys vs ds ps hp h hlt hsp
    cases tys with
    | nil => exact hp.elim
    | cons t tys =>
      obtain ⟨_, _, hrd, hrow, hr⟩ := hp
      obtain ⟨v, vs', d, ds', p, q, rfl, rfl, rfl, h1, h2⟩ := ChangeShapes.trodAll_cons h
      exact ⟨p, q, WideElems.Trod_stays hl hrd hrow h1 (fun x hx' => hx.sameAt (hlt x (List.mem_append_left _ hx'))) (fun x hx' => hsp x (List.mem_append_left _ hx')),
        ih hr h2 (fun x hx' => hlt x (List.mem_append_right _ hx')) (fun x hx' => hsp x (List.mem_append_right _ hx')), rfl⟩
theorem Ext.frozen (h : Ext W W') {b off : Nat} (hb : b < W.heap.size) : W'.frozen? ⟨b, off, none⟩ = W.frozen? ⟨b, off, none⟩ := by
  unfold World.frozen?
  rw [h.block b hb]
/-- What is owed behind the call. -/
theorem post_law {f : Func} {s : ChangeSpec} {apart fresh handsOn again : Bool} {args : Array Value} {ds gs : List (DataW H)} {before : List MemPlace} {tys : List Ty} {tb : TypeId}
    (hl : laidOutB P = true) (hpar : ParB P f.params.toList tys) (hres : f.resultTypes = #[tb]) (htb : P.underlying tb = some .bool) (hvars : s.vars = []) (hgs : gs = [])
    (hfn : s.fn H ds = { results := [.lit (.bool true)], args := ds })
    (hW : DataW.Whole enc P f.params.toList s.vars apart W args.toList ds gs before) (hx : Ext W W') : s.post enc P f apart fresh handsOn again W args (.bool true) W' := by
  subst hgs
  have hlt := hW.lt
  have hW' := hW
  obtain ⟨p, q, hA, hV, rfl, hz, hn⟩ := hW'
  rw [hvars] at hV
  obtain ⟨_, rfl⟩ := ChangeShapes.trodVars_none hV
  rw [List.append_nil] at *
  have hp : ∀ x ∈ p, x.block < W.heap.size := fun x hx' => by simpa using hlt x (by simpa using hx')
  have hr : ∀ (b : Nat) (sp : Nat → Bool) (hd : Bool), DataW.TrodAll enc P W' b sp hd f.resultTypes.toList ((Value.bool true).resultList f.resultTypes.size) (s.fn H (ds ++ [])).results [] := by
    intro b sp hd
    rw [List.append_nil, hfn, hres]
    exact ChangeShapes.trodAll_mk1 ⟨1, by simp [DataW.trod, Value.cells, htb]⟩
  have ha : ∀ sp : Nat → Bool, (∀ x ∈ p, sp x.block = true) → DataW.TrodAll enc P W' 0 sp true f.params.toList args.toList (s.fn H (ds ++ [])).args p := by
    intro sp hsp
    rw [List.append_nil, hfn]
    exact args_stay hl hx hpar hA hp hsp
  have hv : ∀ sp : Nat → Bool, DataW.TrodVars enc P W' sp s.vars (s.fn H (ds ++ [])).vars [] := by
    intro sp
    rw [List.append_nil, hfn, hvars]
    exact rfl
  refine ⟨ds, [], p, [], p, [], hW, hr _ _ _, ha _ (fun x hx' => by simpa using hp x hx'), hv _, hx.keptBut _, fun _ => ⟨?_, (s.fn H (ds ++ [])).results ++ (s.fn H (ds ++ [])).args, (s.fn H (ds ++ [])).vars, p, ⟨p, [], ?_, hv _, by simp, ?_, hn⟩, fun x hx' _ => hx'⟩⟩
  · intro j t r h1 h2
    rw [hres] at h1 h2
    match j, h1, h2 with
    | 0, h1, h2 =>
      simp [Value.resultList] at h1 h2
      subst h1; subst h2
      exact RowKit.okWide_bool_mk htb true
  · have := ChangeShapes.trodAll_append (ha (fun _ => true) (fun _ _ => rfl)) (hr 0 (fun _ => true) true)
    simpa using this
  · intro b off hb
    rw [hx.frozen (b := b) (off := off) (hp _ hb)]
    exact hz b off hb
abbrev LawSig (tys : List Ty) : Sig := ⟨roAll tys, [(.bool, true)]⟩
/-- A law's contract, as a row asks. -/
theorem law_ok {f : FuncId} {fn : Func} {s : ChangeSpec} {apart fresh handsOn again : Bool} {tys : List Ty} {tb : TypeId} {F : (LawSig tys).In → Option (LawSig tys).Out} (hm : Meets P f ⟨LawSig tys, F⟩)
    (hF : ∀ x, WFs tys x → ∃ y, F x = some y ∧ Tup.hd (Tup.fst (a := [Ty.bool]) (b := outsOf (roAll tys)) y) = true)
    (hl : laidOutB P = true) (hpar : ParB P fn.params.toList tys) (hres : fn.resultTypes = #[tb]) (htb : P.underlying tb = some .bool) (hvars : s.vars = [])
    (hfn : ∀ ds : List (DataW H), ds.length = fn.params.toList.length → s.fn H ds = { results := [.lit (.bool true)], args := ds })
    {args : Array Value} {ds gs : List (DataW H)} {before : List MemPlace} {base : Nat} (hval : ∀ (j : Nat) t v, fn.params[j]? = some t → args[j]? = some v → Value.okWide P W .any base t v)
    (hW : DataW.Whole enc P fn.params.toList s.vars apart W args.toList ds gs before) :
    Calls P f args W fun e W' => ∃ v, e = .returned v ∧ s.post enc P fn apart fresh handsOn again W args v W' := by
  have hW' := hW
  obtain ⟨p, q, hA, hV, rfl, hz, hn⟩ := hW'
  rw [hvars] at hV
  obtain ⟨rfl, rfl⟩ := ChangeShapes.trodVars_none hV
  obtain ⟨x, h1, h2, h3⟩ := opens_ok hpar hA (fun j t v e1 e2 => .inr ⟨base, hval j t v (by simpa using e1) (by simpa using e2)⟩)
  obtain ⟨y, hy, ht⟩ := hF x h2
  have hblocks : ∀ l : List Ty, blocksOf (l.map fun _ => (⟨[], none⟩ : Foot)) = [] := by
    intro l
    induction l with
    | nil => rfl
    | cons t l ih => simp [blocksOf, Foot.blocks] at ih ⊢
  have hc := hm x y hy W (fun b => b < W.heap.size) (fun _ => False) args.toList _ ⟨h1, by rw [hblocks]; exact List.nodup_nil, fun b hb => (by rw [hblocks] at hb; cases hb), fun b hb => hb, fun b hb => hb.elim⟩
  refine hc.mono fun e W' he => ?_
  cases e with
  | panicked c => exact he.elim
  | outgrown => exact he.elim
  | returned v =>
    obtain ⟨vs, rfl, hp⟩ := he
    have hro : roOnly (roAll tys) = true := by
      have : ∀ l : List Ty, roOnly (roAll l) = true := fun l => by
        induction l with
        | nil => rfl
        | cons t l ih => exact ih
      exact this tys
    have hx : Ext W W' := hp.fr.toExt (foot_ro hro h1)
    obtain ⟨bo, br, _, _, hr, _⟩ := hp.ex
    have hv : resVal vs = .bool true := by
      cases vs with
      | nil => cases br <;> exact hr.elim
      | cons u vs =>
        cases br with
        | nil => exact hr.elim
        | cons b br =>
          obtain ⟨⟨cs, g1, g2, _⟩, g3⟩ := hr
          cases vs with
          | cons u' vs => cases br <;> exact g3.elim
          | nil =>
            have g2' : cs = [.bool (Tup.hd (Tup.fst (a := [Ty.bool]) (b := outsOf (roAll tys)) y))] := g2
            rw [g1, g2', ht]
            rfl
    rw [hv]
    exact ⟨_, rfl, post_law hl hpar hres htb hvars rfl (hfn ds h3) hW hx⟩
end
end Go.Proofs.Ytopeacfbcdoljaa.V
namespace Go.Proofs.Ytopeacfbcdoljaa.V
open Go
section
variable {P : Program}
def tabB (P : Program) (k : Nat) : List (Option Ty) → Nat → Bool
  | [], _ => true
  | none :: r, i => tabB P k r (i + 1)
  | some t :: r, i => tyB P k i t && (match t with | .st u => !(Ty.st u).comparable || !P.eqGuardType P.depth i | _ => true) && tabB P k r (i + 1)
theorem tabB_at {k : Nat} : ∀ {l : List (Option Ty)} {i j : Nat} {t : Ty}, tabB P k l i = true → l.getD j none = some t → tyB P k (i + j) t = true ∧ ∀ u, t = .st u → (Ty.st u).comparable = true → P.eqGuardType P.depth (i + j) = false := by
  intro l
  induction l with
  | nil => intro i j t _ h; simp at h
  | cons o l ih =>
    intro i j t h hj
    cases j with
    | zero =>
      have ho : o = some t := by simpa using hj
      subst ho
      simp only [tabB, Bool.and_eq_true] at h
      refine ⟨h.1.1, fun u hu hc => ?_⟩
      subst hu
      have := h.1.2
      simp only [hc, Bool.not_true, Bool.false_or, Bool.not_eq_true'] at this
      exact this
    | succ j =>
      have hj' : l.getD j none = some t := by simpa using hj
      have h' : tabB P k l (i + 1) = true := by
        cases o with
        | none => exact h
        | some t => simp only [tabB, Bool.and_eq_true] at h; exact h.2
      have := ih h' hj'
      rwa [show i + 1 + j = i + (j + 1) by omega] at this
def tabT (l : List (Option Ty)) (i : TypeId) : Option Ty := l.getD i none
theorem tab_ok {l : List (Option Ty)} {k : Nat} (hk : k ≤ 10000) (h : tabB P k l 0 = true) : TabOk P (tabT l) := by
  refine ⟨fun i t hi => ⟨k, by have := (tabB_at h hi).1; simpa using this⟩, fun i u hi hc => by have := (tabB_at h hi).2 u rfl hc; simpa using this, fun i t n hi _ => ⟨k, hk, by have := (tabB_at h hi).1; simpa using this⟩⟩
/-- A function that may be called, with its contract. -/
def FnOk (P : Program) (f : FuncId) (fn : Fn) : Prop := Meets P f fn ∧ ∃ g, P.funcs[f]? = some g ∧ g.body.isSome = true ∧ (g.name == "runtime.NumGoroutine") = false
def ftab : List (FuncId × Fn) → FuncId → Option Fn
  | [], _ => none
  | (g, fn) :: r, f => bif g == f then some fn else ftab r f
def FAll (P : Program) : List (FuncId × Fn) → Prop
  | [] => True
  | p :: r => FnOk P p.1 p.2 ∧ FAll P r
theorem fall_ok : ∀ {l : List (FuncId × Fn)}, FAll P l → FOk P (ftab l) := by
  intro l
  induction l with
  | nil => intro _ f fn h; simp [ftab] at h
  | cons p r ih =>
    intro h f fn hf
    obtain ⟨g, fn'⟩ := p
    simp only [ftab] at hf
    cases hg : (g == f) with
    | true =>
      rw [hg] at hf
      simp at hf
      have hgf : g = f := by simpa using hg
      subst hgf; subst hf
      exact h.1
    | false => rw [hg] at hf; exact ih h.2 f fn hf
def bodyOf (g : Func) : Code := match g.body with
  | some c => c
  | none => .skip
def C0 : Cuts := fun _ => none
theorem cuts0 : ∀ {c : Code}, CutsIn P C0 c := by
  intro c
  induction c with
  | seq a b iha ihb => exact ⟨iha, ihb⟩
  | cond c a b iha ihb => exact ⟨iha, ihb⟩
  | block id c ih => exact ih
  | loop c ih => exact trivial
  | _ => exact trivial
theorem fn_of (hmix : P.follows .mixedOrders = true) {l : List (Option Ty)} {k : Nat} (hk : decide (k ≤ 10000) = true) (hT : tabB P k l 0 = true) {fl : List (FuncId × Fn)} (hF : FAll P fl) {C : Cuts} {f : FuncId} {g : Func} (hf : P.funcs[f]? = some g) (hb : g.body.isSome = true) (hn : (g.name == "runtime.NumGoroutine") = false)
    (hc : CutsIn P C (bodyOf g)) {s : Sig} {F : s.In → Option s.Out} (he : ∀ x, fnK ⟨tabT l, ftab fl⟩ C g s x = F x) : FnOk P f ⟨s, F⟩ := by
  refine ⟨?_, g, hf, hb, hn⟩
  have hbody : g.body = some (bodyOf g) := by
    unfold bodyOf
    cases h : g.body with
    | none => rw [h] at hb; cases hb
    | some c => rfl
  exact fn_ok hmix ⟨tabT l, ftab fl⟩ C (tab_ok (by simpa using hk) hT) (fall_ok hF) hf hbody hc F (fun x y h => (he x).trans h)
end
end Go.Proofs.Ytopeacfbcdoljaa.V
