/- Soundness of single operations, thirteenth part: structs, arrays, rows that are built. -/
import Derived.Test.YtopeacfbcdoljaaVp
namespace Go.Proofs.Ytopeacfbcdoljaa.V
open Go
section
variable {P : Program} {X : Ctx} {E : Env} {σ : St} {A0 : Array Value} {a : Act} {w : World} {o : Oper} {R : Type}
theorem fold_splice (off : Nat) : ∀ (cs : List Value) (k : Nat) (A : Array Value), off + k + cs.length ≤ A.size → (cs.zipIdx k).foldl (fun A (x : Value × Nat) => A.setIfInBounds (off + x.2) x.1) A = splice A (off + k) cs := by
  intro cs
  induction cs with
  | nil => intro k A _; simp [splice]
  | cons c r ih =>
    intro k A h
    simp only [List.length_cons] at h
    simp only [List.zipIdx_cons, List.foldl_cons]
    rw [ih (k + 1) _ (by simp; omega)]
    apply Array.ext_getElem?
    intro j
    rw [splice_get (by simp; omega), splice_get (by simp; omega)]
    simp only [Array.getElem?_setIfInBounds, List.length_cons]
    by_cases h1 : j < off + k
    · rw [if_pos (by omega), if_pos h1, if_neg (by omega)]
    · by_cases h2 : j = off + k
      · subst h2
        rw [if_pos (by omega), if_pos rfl, if_pos (by omega), if_neg h1, if_pos (by omega), Nat.sub_self]; rfl
      · rw [if_neg (by omega), if_neg h1]
        by_cases h3 : j < off + k + (r.length + 1)
        · rw [if_pos (by omega), if_pos h3]
          rw [show j - (off + k) = j - (off + (k + 1)) + 1 by omega, List.getElem?_cons_succ]
        · rw [if_neg (by omega), if_neg h3, if_neg (by omega)]
theorem fill_cons {place : Nat → Option (Nat × Nat)} {A : Array Value} {i off : Nat} {v : Value} {cx : List Value} {rest : List (Nat × Value)} (hp : place i = some (off, cx.length)) (hv : v.cells = cx.toArray) (h : off + cx.length ≤ A.size) :
    Instr.fill place A ((i, v) :: rest) = Instr.fill place (splice A off cx) rest := by
  have hf := fold_splice off cx 0 A (by omega)
  simp only [Nat.add_zero] at hf
  simp only [Instr.fill, hp, hv, List.size_toArray, ne_eq, not_true_eq_false, decide_false, Bool.false_or]
  rw [if_neg (by simp; omega)]
  congr 1
  rw [← hf]
  simp
theorem splice_list {cs cx : List Value} {d : Nat} : splice cs.toArray d cx = (cs.take d ++ cx ++ cs.drop (d + cx.length)).toArray := by simp [splice]
theorem st_ne (u : Ty) : Ty.st u ≠ u := fun h => by have := congrArg SizeOf.sizeOf h; simp at this
/-- The parts, one by one. -/
theorem parts_ok {n : Nat} {s : TypeId} {t : Ty} (hr : RelE X E σ a.tmps w) (ht : tyB P n s t = true) {place : Nat → Option (Nat × Nat)}
    (hplace : ∀ u, t = .st u → ∀ j p, fieldPath u j = some p → ∃ d m i, tyB P m i (fieldTy u p) = true ∧ place j = some (d, (fieldTy u p).size) ∧ ∀ b o, addr u (b, o) p = some (fieldTy u p, (b, o + d)))
    (hplace2 : ∀ k u, t = .arr k u → (∃ m i, tyB P m i u = true) ∧ ∀ j, place j = some (j * u.size, u.size)) :
    ∀ (ps : List (Nat × Operand)) {x : Val} {cs : List Value} {k : Val → Option R} {r : R}, partsK t (ps.map fun p => (p.1, opd σ p.2)) x k = some r → x.t = t → Rv w (Fz X E σ w) E σ x.t x.v x.ms cs → x.ms.length = x.t.nl →
      ∃ x' cs', k x' = some r ∧ x'.t = t ∧ Rv w (Fz X E σ w) E σ x'.t x'.v x'.ms cs' ∧ x'.ms.length = x'.t.nl ∧ Instr.fill place cs.toArray (ps.map fun p => (p.1, a.eval p.2)) = some cs'.toArray := by
  intro ps
  induction ps with
  | nil => intro x cs k r h hx hv hm; exact ⟨x, cs, h, hx, hv, hm, rfl⟩
  | cons p ps ih =>
    intro x cs k r h hx hv hm
    obtain ⟨i, z⟩ := p
    simp only [List.map_cons] at h ⊢
    unfold partsK at h
    split at h
    · rename_i u
      cases hp : fieldPath u i with
      | none => simp [hp] at h
      | some p =>
        simp only [hp] at h
        cases hc : V.coe (fieldTy u p) (opd σ z) with
        | none => simp [hc] at h
        | some q =>
          obtain ⟨v, ms⟩ := q
          simp only [hc] at h
          obtain ⟨cz, hz1, hz2, hz3⟩ := hr.coe hc
          obtain ⟨v', ms', d, q1, q2, q3, q4, q5⟩ := set_ok h hv hm (x := ⟨fieldTy u p, v, ms⟩) hz1 hz3
          obtain ⟨d', m, i', h1, h2, h3⟩ := hplace u rfl i p hp
          have hd : d = d' := by
            have k1 := q5 0 0
            rw [hx] at k1
            cases p with
            | nil =>
              simp only [addr, Option.some.injEq, Prod.mk.injEq] at k1
              exact absurd k1.1 (by simpa [fieldTy] using st_ne u)
            | cons s p =>
              rw [addr_st (by simp), h3] at k1
              simp at k1
              exact k1.symm
          subst hd
          have hcl : (a.eval z).cells = cz.toArray := by rw [hz2]; exact cells_toVal hz1 (tyB_scalar h1)
          obtain ⟨x', cs', w1, w2, w3, w4, w5⟩ := ih (x := ⟨x.t, v', ms'⟩) q1 hx q2 q3
          refine ⟨x', cs', w1, w2, w3, w4, ?_⟩
          rw [fill_cons (cx := cz) (by rw [h2, hz1.length]) hcl (by simpa using q4), splice_list]
          exact w5
    · rename_i n' u
      cases hc : V.coe u (opd σ z) with
      | none => simp [hc] at h
      | some q =>
        obtain ⟨v, ms⟩ := q
        simp only [hc] at h
        cases hi : decide (i < n') with
        | false => simp [hi] at h
        | true =>
          simp only [hi, cond_true] at h
          obtain ⟨cz, hz1, hz2, hz3⟩ := hr.coe hc
          obtain ⟨v', ms', d, q1, q2, q3, q4, q5⟩ := set_ok h hv hm (x := ⟨u, v, ms⟩) hz1 hz3
          obtain ⟨⟨m, i', h1⟩, h2⟩ := hplace2 n' u rfl
          have hi' : i < n' := by simpa using hi
          have hd : d = i * u.size := by
            have k1 := q5 0 0
            rw [hx] at k1
            simp only [addr, hi', if_true, Option.some.injEq, Prod.mk.injEq] at k1
            omega
          subst hd
          have hcl : (a.eval z).cells = cz.toArray := by rw [hz2]; exact cells_toVal hz1 (tyB_scalar h1)
          obtain ⟨x', cs', w1, w2, w3, w4, w5⟩ := ih (x := ⟨x.t, v', ms'⟩) q1 hx q2 q3
          refine ⟨x', cs', w1, w2, w3, w4, ?_⟩
          rw [fill_cons (cx := cz) (by rw [h2, hz1.length]) hcl (by simpa using q4), splice_list]
          exact w5
    · cases h
theorem mapM_some {α β : Type} {g : α → Option β} : ∀ (l : List α), (∀ x ∈ l, ∃ y, g x = some y) → ∃ ys, l.mapM g = some ys ∧ ∀ (j : Nat) x, l[j]? = some x → ys[j]? = g x := by
  intro l
  induction l with
  | nil => intro _; exact ⟨[], rfl, fun j x h => by simp at h⟩
  | cons c r ih =>
    intro h
    obtain ⟨y, hy⟩ := h c List.mem_cons_self
    obtain ⟨ys, h1, h2⟩ := ih fun x hx => h x (List.mem_cons_of_mem _ hx)
    refine ⟨y :: ys, by simp [List.mapM_cons, hy, h1], fun j x hx => ?_⟩
    cases j with
    | zero => simp at hx; subst hx; simp [hy]
    | succ j => simpa using h2 j x (by simpa using hx)
theorem fieldsB_info {m : Nat} : ∀ {u : Ty} {fs : List Field} {off : Nat}, fieldsB (tyB P m) u fs off = true → ∀ f ∈ fs, ∃ t, tyB P m f.type t = true := by
  intro u
  induction u with
  | pair a b _ ihb =>
    intro fs off h f hf
    cases fs with
    | nil => cases hf
    | cons c r =>
      simp only [fieldsB, Bool.and_eq_true] at h
      rcases List.mem_cons.1 hf with rfl | hf
      · exact ⟨a, h.1.1.2⟩
      · exact ihb h.2 f hf
  | unit =>
    intro fs off h f hf
    cases fs with
    | nil => cases hf
    | cons c r => simp [fieldsB] at h
  | _ =>
    intro fs off h f hf
    match fs, h with
    | [], _ => cases hf
    | [c], h =>
      simp only [fieldsB, Bool.and_eq_true] at h
      simp at hf; subst hf
      exact ⟨_, h.1.2⟩
    | _ :: _ :: _, h => simp [fieldsB] at h
theorem step_build (T : Tabs) (hT : TabOk P T.T) {s : TypeId} {ps : Array (Nat × Operand)} (ho : o.op = .build s ps) {k : St → Option R} {r : R} (h : stepK T o σ k = some r) (hr : RelE X E σ a.tmps w) : StepOk P X T o a w (fun σ' => k σ' = some r) := by
  simp only [stepK, ho] at h
  cases hTs : T.T s with
  | none => simp [hTs] at h
  | some t =>
    simp only [hTs] at h
    obtain ⟨n, ht⟩ := hT.ty s _ hTs
    obtain ⟨fi, z, i1, i2, i3, i4, i5⟩ := tyB_info ht
    have hz := rv_zero (w := w) (A := Fz X E σ w) (E := E) hr.nt2 hr.no1.1 hr.no1.2 (tyB_ok ht)
    have hzc : z.cells = (zc t).toArray := by rw [← i5]
    have hfin : ∀ cells, P.built s ((ps.map fun (i, x) => (i, a.eval x)).toList) = some cells → (execOp a.eval o).run P w = .ok (.value (.agg cells)) w := by
      intro cells hb
      simp only [execOp, ho, Sem.run_bind, run_build w s _ cells hb, Result.andThen_ok, Sem.run_pure]
    have hmap : (ps.map fun (i, x) => (i, a.eval x)).toList = ps.toList.map fun p => (p.1, a.eval p.2) := by simp
    cases t with
    | st u =>
      simp only [Ty.agg, cond_true] at h
      obtain ⟨m, fs, f1, _, f3⟩ := tyB_st ht
      obtain ⟨places, p1, p2⟩ := mapM_some (g := fun f : Field => (P.info? f.type).map fun i => (f.offset, i.size)) fs.toList (fun f hf => by
        obtain ⟨t', ht'⟩ := fieldsB_info f3 f hf
        obtain ⟨fi', _, j1, _⟩ := tyB_info ht'
        exact ⟨_, by rw [j1]; rfl⟩)
      obtain ⟨x', cs', w1, w2, w3, w4, w5⟩ := parts_ok (place := (places.toArray[·]?)) hr ht (fun u' hu' j p hp => by
          cases hu'
          obtain ⟨f, d, q1, q2, q3, q4, q5, q6⟩ := fieldsB_at f3 hp
          obtain ⟨fi', _, j1, j2, _⟩ := tyB_info q4
          refine ⟨d, m, f.type, q4, ?_, q6⟩
          have := p2 j f q1
          rw [j1] at this
          simp only [Option.map_some, j2, q2, Nat.zero_add] at this
          simpa using this) (fun k u' hu' => by cases hu') ps.toList h rfl hz (by simp)
      obtain ⟨xt, xv, xm⟩ := x'
      dsimp only at w2 w3 w4
      subst w2
      refine stepOk_value (hfin cs'.toArray ?_) ⟨E, hr.put (s := .val ⟨.st u, xv, xm⟩ none) o.dst ⟨cs', w3, rfl, w4⟩⟩ w1
      rw [hmap]
      simp only [Program.built, i1, f1, i4, p1, hzc]
      exact w5
    | arr k' u =>
      simp only [Ty.agg, cond_true] at h
      obtain ⟨m, e, f1, f2⟩ := tyB_arr ht
      obtain ⟨fe, ze, e1, e2, _⟩ := tyB_info f2
      obtain ⟨x', cs', w1, w2, w3, w4, w5⟩ := parts_ok (place := fun i => some (i * u.size, u.size)) hr ht (fun u' hu' => by cases hu') (fun k u' hu' => by
          cases hu'
          exact ⟨⟨m, e, f2⟩, fun j => rfl⟩) ps.toList h rfl hz (by simp)
      obtain ⟨xt, xv, xm⟩ := x'
      dsimp only at w2 w3 w4
      subst w2
      refine stepOk_value (hfin cs'.toArray ?_) ⟨E, hr.put (s := .val ⟨.arr k' u, xv, xm⟩ none) o.dst ⟨cs', w3, rfl, w4⟩⟩ w1
      rw [hmap]
      simp only [Program.built, i1, f1, i4, e1, hzc, e2]
      exact w5
    | _ => simp [Ty.agg] at h
end
end Go.Proofs.Ytopeacfbcdoljaa.V
