/- Soundness of single operations, eighth part: fields, lengths, elements, cuts. -/
import Derived.Test.YtopeacfbcdoljaaVk
namespace Go.Proofs.Ytopeacfbcdoljaa.V
open Go
section
variable {P : Program} {X : Ctx} {E : Env} {σ : St} {A0 : Array Value} {a : Act} {w : World} {o : Oper} {R : Type}
theorem arr_one {α β : Type} {f : α → β} {l : Array α} {y : β} (h : l.toList.map f = [y]) : ∃ x, l = #[x] ∧ f x = y := by
  obtain ⟨l⟩ := l
  cases l with
  | nil => simp at h
  | cons a r => cases r with
    | nil => exact ⟨a, rfl, by simpa using h⟩
    | cons b r => simp at h
theorem arr_two {α β : Type} {f : α → β} {l : Array α} {y z : β} (h : l.toList.map f = [y, z]) : ∃ x u, l = #[x, u] ∧ f x = y ∧ f u = z := by
  obtain ⟨l⟩ := l
  cases l with
  | nil => simp at h
  | cons a r => cases r with
    | nil => simp at h
    | cons b r => cases r with
      | nil => simp at h; exact ⟨a, b, rfl, h.1, h.2⟩
      | cons c r => simp at h
theorem tyB_str {n : Nat} {i : TypeId} (h : tyB P n i .str = true) : P.underlying i = some .string := by
  cases n with
  | zero => simp [tyB] at h
  | succ n =>
    simp only [tyB, Bool.and_eq_true] at h
    have h1 := h.2
    cases hu : P.underlying i with
    | none => simp [hu] at h1
    | some d => cases d <;> simp_all
theorem tyB_int {n : Nat} {i : TypeId} {k : IntKind} (h : tyB P n i (.int k) = true) : P.underlying i = some (.int k) := by
  cases n with
  | zero => simp [tyB] at h
  | succ n =>
    simp only [tyB, Bool.and_eq_true] at h
    have h1 := h.2
    cases hu : P.underlying i with
    | none => simp [hu] at h1
    | some d => cases d <;> simp_all
theorem get_some : ∀ {t : Ty} {v : t.den} {ms : List Nat} {p : List Sel} {k : Val → Option R} {r : R}, getK t v ms p k = some r → ∃ y, k y = some r := by
  intro t
  induction t with
  | st t ih =>
    intro v ms p k r h
    cases p with
    | nil => exact ⟨_, by simpa [getK] using h⟩
    | cons s p => exact ih (p := s :: p) (by simpa [getK] using h)
  | pair a b iha ihb =>
    intro v ms p k r h
    cases p with
    | nil => exact ⟨_, by simpa [getK] using h⟩
    | cons s p => cases s with
      | fst => exact iha (by simpa [getK] using h)
      | snd => exact ihb (by simpa [getK] using h)
      | ix i => simp [getK] at h
  | arr n t ih =>
    intro v ms p k r h
    cases p with
    | nil => exact ⟨_, by simpa [getK] using h⟩
    | cons s p => cases s with
      | fst => simp [getK] at h
      | snd => simp [getK] at h
      | ix i =>
        simp only [getK] at h
        cases hx : (v : List t.den)[i]? with
        | none => rw [hx] at h; simp at h
        | some x => rw [hx] at h; exact ih h
  | _ =>
    intro v ms p k r h
    cases p with
    | nil => exact ⟨_, by simpa [getK] using h⟩
    | cons s p => cases s <;> simp [getK] at h
theorem addr_st {u : Ty} {p : List Sel} (hp : p ≠ []) (q : Nat × Nat) : addr (.st u) q p = addr u q p := by
  cases p with
  | nil => exact absurd rfl hp
  | cons s r => rfl
theorem step_fieldAddr (T : Tabs) (hT : TabOk P T.T) {s : TypeId} {x : Operand} {j : Nat} (ho : o.op = .fieldAddr s x j) {k : St → Option R} {r : R} (h : stepK T o σ k = some r) (hr : RelE X E σ a.tmps w) : StepOk P X T o a w (fun σ' => k σ' = some r) := by
  simp only [stepK, ho] at h
  have hnt : 0 < σ.nt := by have := hr.nt2; omega
  have hs := slot_opd hr x
  split at h
  · rename_i u hTs
    obtain ⟨n, ht⟩ := hT.ty s _ hTs
    cases hj : fieldPath u j with
    | none => simp [hj] at h
    | some p =>
      simp only [hj] at h
      revert h hs
      cases e : opd σ x with
      | ptr id r' q t =>
        intro hs h
        cases hb : Ty.beq t (.st u) && !p.isEmpty with
        | false => simp only [hb, cond_false] at h; cases h
        | true =>
          simp only [hb, cond_true] at h
          simp only [Bool.and_eq_true, Bool.not_eq_true', List.isEmpty_eq_false_iff] at hb
          have e' := Ty.eq_of_beq hb.1
          subst e'
          obtain ⟨hid, b, f, hv, ha⟩ := hs
          obtain ⟨d, m, q1, q2, _⟩ := run_fieldAt (w := w) ht hj b f
          refine stepOk_value (v := .pointer (some ⟨b, f + d, none⟩)) (w' := w) ?_ ⟨E, hr.put (s := .ptr id r' (q ++ p) (fieldTy u p)) o.dst ⟨hid, b, f + d, rfl, ?_⟩⟩ h
          · simp only [execOp, ho, hv, q1, Sem.run_bind, Result.andThen_ok, Sem.run_pure]
          · rw [addr_append ha, addr_st hb.2]; exact q2 b f
      | eptr hm τ i z q t =>
        intro hs h
        cases hb : Ty.beq t (.st u) && !p.isEmpty with
        | false => simp only [hb, cond_false] at h; cases h
        | true =>
          simp only [hb, cond_true] at h
          simp only [Bool.and_eq_true, Bool.not_eq_true', List.isEmpty_eq_false_iff] at hb
          have e' := Ty.eq_of_beq hb.1
          subst e'
          obtain ⟨hid, g, b, f, hg, hv, ha⟩ := hs
          obtain ⟨d, m, q1, q2, _⟩ := run_fieldAt (w := w) ht hj b f
          refine stepOk_value (v := .pointer (some ⟨b, f + d, none⟩)) (w' := w) ?_ ⟨E, hr.put (s := .eptr hm τ i z (q ++ p) (fieldTy u p)) o.dst ⟨hid, g, b, f + d, hg, rfl, ?_⟩⟩ h
          · simp only [execOp, ho, hv, q1, Sem.run_bind, Result.andThen_ok, Sem.run_pure]
          · rw [addr_append ha, addr_st hb.2]; exact q2 b f
      | rptr τ y =>
        intro hs h
        cases hc : cast? (.st u) y with
        | none => simp only [hc] at h; cases h
        | some q =>
          obtain ⟨v, ms⟩ := q
          simp only [hc] at h
          have e' := cast?_some hc
          subst e'
          obtain ⟨hid, b, f, hv, ha⟩ := hs
          obtain ⟨d, m, q1, q2, _⟩ := run_fieldAt (w := w) ht hj b f
          -- readable or not, the continuation is told
          by_cases hu : frz σ τ ∨ τ ∈ σ.al
          · obtain ⟨cs, a1, a2, a3, a4, a5⟩ := ha hu
            obtain ⟨y', d', g1, g2, g3, g4, g5⟩ := get_ok hnt hr.z (t := u) (v := v) (ms := ms) h a1 a2
            have hd : d' = d := by
              have k1 := g5 0 0
              rw [q2 0 0] at k1
              simp at k1
              exact k1.2.symm
            subst hd
            refine stepOk_value (v := .pointer (some ⟨b, f + d', none⟩)) (w' := w) ?_ ⟨E, hr.put (s := .rptr τ y') o.dst ⟨hid, b, f + d', rfl, fun _ => ⟨_, g2, g3, a3.part, a4, a5⟩⟩⟩ g1
            simp only [execOp, ho, hv, q1, Sem.run_bind, Result.andThen_ok, Sem.run_pure]
          · obtain ⟨y', g1⟩ : ∃ y', k (σ.put o.dst (.rptr τ y')) = some r := get_some h
            refine stepOk_value (v := .pointer (some ⟨b, f + d, none⟩)) (w' := w) ?_ ⟨E, hr.put (s := .rptr τ y') o.dst ⟨hid, b, f + d, rfl, fun h => absurd h hu⟩⟩ g1
            simp only [execOp, ho, hv, q1, Sem.run_bind, Result.andThen_ok, Sem.run_pure]
      | _ => intro _ h; simp at h
  · cases h
theorem step_field (T : Tabs) (hT : TabOk P T.T) {s : TypeId} {x : Operand} {j : Nat} (ho : o.op = .field s x j) {k : St → Option R} {r : R} (h : stepK T o σ k = some r) (hr : RelE X E σ a.tmps w) : StepOk P X T o a w (fun σ' => k σ' = some r) := by
  simp only [stepK, ho] at h
  have hnt : 0 < σ.nt := by have := hr.nt2; omega
  have hs := slot_opd hr x
  split at h
  · rename_i u hTs
    obtain ⟨n, ht⟩ := hT.ty s _ hTs
    cases hj : fieldPath u j with
    | none => simp [hj] at h
    | some p =>
      simp only [hj] at h
      revert h hs
      cases e : opd σ x with
      | val y hm =>
        intro hs h
        cases hc : cast? (.st u) y with
        | none => simp only [hc] at h; cases h
        | some q =>
          obtain ⟨v, ms⟩ := q
          simp only [hc] at h
          have e' := cast?_some hc
          subst e'
          obtain ⟨cs, a1, a2, a3⟩ := hs
          obtain ⟨y', d', g1, g2, g3, g4, g5⟩ := get_ok hnt hr.z (t := u) (v := v) (ms := ms) h a1 a3
          obtain ⟨m, fs, f1, f2, f3⟩ := tyB_st ht
          obtain ⟨fd, d, w1, w2, w3, w4, w5, w6⟩ := fieldsB_at f3 hj
          have hd : fieldTy u p = y'.t ∧ d' = d := by
            have k1 := g5 0 0
            rw [w6 0 0] at k1
            simp at k1
            exact ⟨k1.1, k1.2.symm⟩
          obtain ⟨hd1, rfl⟩ := hd
          have hfs : fs[j]? = some fd := by rw [← Array.getElem?_toList]; exact w1
          refine stepOk_value (v := toVal y'.t ((cs.drop d').take y'.t.size)) (w' := w) ?_ ⟨E, hr.put (s := .val y' (hm.map fun h => ⟨h.root, h.path ++ p⟩)) o.dst ⟨_, g2, rfl, g3⟩⟩ g1
          rw [hd1] at w4
          have hp := run_part (w := w) w4 (xs := cs.toArray) (off := fd.offset) (c := (cs.drop d').take y'.t.size) (by rw [w2]; simp) g2.length
          simp only [execOp, ho, a2, toVal, Ty.agg, if_true, Instr.field, Sem.run_bind, run_underlying f1, Result.andThen_ok, hfs, asAgg, Sem.run_pure]
          rw [hp]; rfl
      | _ => intro _ h; simp at h
  · cases h
theorem step_len (T : Tabs) {args : Array Operand} {ats : Array TypeId} (hT : TabOk P T.T) (ho : o.op = .call ⟨.builtin .len, args, ats⟩) {k : St → Option R} {r : R} (h : stepK T o σ k = some r) (hr : RelE X E σ a.tmps w) : StepOk P X T o a w (fun σ' => k σ' = some r) := by
  simp only [stepK, ho] at h
  have hex : ∀ v, (Builtin.len_ ats o.type (args.map a.eval)).run P w = .ok v w → (execOp a.eval o).run P w = .ok (.value v) w := by
    intro v hv
    simp only [execOp, ho, resolve, invoke, builtin, Sem.run_bind, Sem.run_pure, Result.andThen_ok, hv]
  split at h
  · rename_i s m hm e1 e2
    obtain ⟨t, hat, hTt⟩ : ∃ t, ats = #[t] ∧ T.T t = some .str := arr_one e1
    obtain ⟨x, hxa, hx⟩ : ∃ x, args = #[x] ∧ opd σ x = .val ⟨.str, s, m⟩ hm := arr_one e2
    subst hat; subst hxa
    obtain ⟨n, ht⟩ := hT.ty t _ hTt
    have hv := val_str (slot_of_opd hr hx)
    refine stepOk_value (hex _ ?_) ⟨E, hr.put (s := .val ⟨.int .i64, ((s.length : Nat) : Int), []⟩ none) o.dst (slot_int _ _ none)⟩ h
    simp only [List.map_toArray, List.map_cons, List.map_nil, hv]
    rw [run_len_string _ _ _ _ (tyB_str ht)]
    rfl
  · rename_i e t y hm e1 e2
    obtain ⟨t', hat, hTt⟩ : ∃ t', ats = #[t'] ∧ T.T t' = some (.sl e t) := arr_one e1
    obtain ⟨x, hxa, hx⟩ : ∃ x, args = #[x] ∧ opd σ x = .val y hm := arr_one e2
    subst hat; subst hxa
    cases hc : cast? (.sl e t) y with
    | none => simp [hc] at h
    | some q =>
      obtain ⟨s, ms⟩ := q
      simp only [hc] at h
      have e' := cast?_some hc
      subst e'
      obtain ⟨n, ht⟩ := hT.ty t' _ hTt
      obtain ⟨m, hu, _⟩ := tyB_sl ht
      obtain ⟨cs, ⟨c, ec, _, ad, cap, rfl, _⟩, hv, _⟩ := slot_of_opd hr hx
      subst ec
      refine stepOk_value (hex _ ?_) ⟨E, hr.put (s := .val ⟨.int .i64, ((List.length (α := t.den) s : Nat) : Int), []⟩ none) o.dst (slot_int _ _ none)⟩ h
      have hel : P.elem t' = e := by simp [Program.elem, hu]
      simp only [List.map_toArray, List.map_cons, List.map_nil, hv, toVal, Ty.agg, Bool.false_eq_true, if_false, List.headD_cons]
      rw [run_len_slice _ _ _ _ _ _ (by rw [hel]; exact hu)]
      rfl
  · cases h
theorem step_min (T : Tabs) {args : Array Operand} {ats : Array TypeId} (ho : o.op = .call ⟨.builtin .min, args, ats⟩) {k : St → Option R} {r : R} (h : stepK T o σ k = some r) (hr : RelE X E σ a.tmps w) : StepOk P X T o a w (fun σ' => k σ' = some r) := by
  simp only [stepK, ho] at h
  split at h
  · rename_i q x m1 h1 q' y m2 h2 e1
    obtain ⟨u, v, hxa, hx, hy⟩ : ∃ u v, args = #[u, v] ∧ opd σ u = .val ⟨.int q, x, m1⟩ h1 ∧ opd σ v = .val ⟨.int q', y, m2⟩ h2 := arr_two e1
    subst hxa
    have v1 := val_int (slot_of_opd hr hx)
    have v2 := val_int (slot_of_opd hr hy)
    refine stepOk_value (v := .int q (bif decide ((y : Int) < x) then y else x)) (w' := w) ?_ ⟨E, hr.put (s := .val ⟨.int q, (bif decide ((y : Int) < x) then y else x), []⟩ none) o.dst (slot_int _ _ none)⟩ h
    simp only [execOp, ho, resolve, invoke, builtin, Sem.run_bind, Sem.run_pure, Result.andThen_ok, List.map_toArray, List.map_cons, List.map_nil, v1, v2, run_min_int2]
    by_cases hlt : (y : Int) < x <;> simp [hlt]
  · cases h
theorem step_max (T : Tabs) {args : Array Operand} {ats : Array TypeId} (ho : o.op = .call ⟨.builtin .max, args, ats⟩) {k : St → Option R} {r : R} (h : stepK T o σ k = some r) (hr : RelE X E σ a.tmps w) : StepOk P X T o a w (fun σ' => k σ' = some r) := by
  simp only [stepK, ho] at h
  split at h
  · rename_i q x m1 h1 q' y m2 h2 e1
    obtain ⟨u, v, hxa, hx, hy⟩ : ∃ u v, args = #[u, v] ∧ opd σ u = .val ⟨.int q, x, m1⟩ h1 ∧ opd σ v = .val ⟨.int q', y, m2⟩ h2 := arr_two e1
    subst hxa
    have v1 := val_int (slot_of_opd hr hx)
    have v2 := val_int (slot_of_opd hr hy)
    refine stepOk_value (v := .int q (bif decide ((x : Int) < y) then y else x)) (w' := w) ?_ ⟨E, hr.put (s := .val ⟨.int q, (bif decide ((x : Int) < y) then y else x), []⟩ none) o.dst (slot_int _ _ none)⟩ h
    simp only [execOp, ho, resolve, invoke, builtin, Sem.run_bind, Sem.run_pure, Result.andThen_ok, List.map_toArray, List.map_cons, List.map_nil, v1, v2, run_max_int2]
    by_cases hlt : (x : Int) < y <;> simp [hlt]
  · cases h
end
end Go.Proofs.Ytopeacfbcdoljaa.V
