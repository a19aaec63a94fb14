/- Soundness of single operations, fourteenth part: rows that are built; all operations. -/
import Derived.Test.YtopeacfbcdoljaaVq
import Derived.Great.BuildSlice
namespace Go.Proofs.Ytopeacfbcdoljaa.V
open Go
section
variable {P : Program} {X : Ctx} {E : Env} {σ : St} {A0 : Array Value} {a : Act} {w : World} {o : Oper} {R : Type}
theorem rf_of_frz {A : Nat → Prop} : ∀ {t : Ty} {v : t.den} {ms : List Nat} {cs : List Value}, (∀ τ ∈ ms, τ = 1 ∨ frz σ τ) → ms.length = t.nl → Rv w A E σ t v ms cs → Rf w A t v cs := by
  intro t
  induction t with
  | int k => intro v ms cs _ _ h; exact h
  | bool => intro v ms cs _ _ h; exact h
  | str => intro v ms cs _ _ h; exact h
  | unit => intro v ms cs _ _ h; exact h
  | pair a b iha ihb =>
    intro v ms cs hz hl h; obtain ⟨c1, c2, e, h1, h2⟩ := h
    simp only [Ty.nl] at hl
    exact ⟨c1, c2, e, iha (fun τ hτ => hz τ (List.mem_of_mem_take hτ)) (by simp; omega) h1, ihb (fun τ hτ => hz τ (List.mem_of_mem_drop hτ)) (by simp; omega) h2⟩
  | st t ih => intro v ms cs hz hl h; exact ih hz hl h
  | arr n t _ => intro v ms cs _ _ h; exact h
  | sl e t _ =>
    intro v ms cs hz hl h
    obtain ⟨c, rfl, _, ad, cap, rfl, h1, h2, _⟩ := h
    match ms, hl with
    | [τ], _ =>
      rcases hz τ (by simp) with h | h
      · obtain ⟨rfl, rfl, hx⟩ := h2 h
        have hx' : (v : List t.den) = [] := hx
        exact ⟨none, 0, [], by rw [hx'], by rw [hx']; simp, fun i x hx => by rw [hx'] at hx; simp at hx, fun h => absurd rfl h, by rw [hx']; simp⟩
      · exact h1 h
theorem frz_freeze1 {τ υ : Nat} (h : frz σ τ) (b : Bool) : frz (bif b then { σ with al := σ.al.erase υ, fz := υ :: σ.fz } else σ) τ := by
  cases b with
  | false => exact h
  | true => exact h.imp id (List.mem_cons_of_mem _)
theorem frz_freeze : ∀ (l : List Nat) {σ : St} {τ : Nat}, frz σ τ → frz (σ.freeze l) τ := by
  intro l
  induction l with
  | nil => intro σ τ h; exact h
  | cons υ r ih => intro σ τ h; simp only [St.freeze]; exact ih (frz_freeze1 h _)
theorem freeze_frz : ∀ (l : List Nat) {σ : St} {τ : Nat}, τ ∈ l → σ.us τ = true → τ = 1 ∨ frz (σ.freeze l) τ := by
  intro l
  induction l with
  | nil => intro σ τ h; cases h
  | cons υ r ih =>
    intro σ τ h hu
    simp only [St.freeze]
    by_cases he : τ = υ
    · subst he
      cases hc : σ.al.contains τ with
      | true => exact .inr (frz_freeze r (.inr List.mem_cons_self))
      | false =>
        rcases us_iff.1 hu with h | h | h | h
        · exact .inr (frz_freeze r (.inl h))
        · exact .inl h
        · simp at hc; exact absurd h hc
        · exact .inr (frz_freeze r (.inr h))
    · have ht : τ ∈ r := by
        rcases List.mem_cons.1 h with h | h
        · exact absurd h he
        · exact h
      refine ih ht ?_
      cases hc : σ.al.contains υ with
      | false => exact hu
      | true =>
        simp only [cond_true]
        rw [us_iff] at hu ⊢
        rcases hu with h | h | h | h
        · exact .inl h
        · exact .inr (.inl h)
        · exact .inr (.inr (.inl ((List.mem_erase_of_ne he).2 h)))
        · exact .inr (.inr (.inr (List.mem_cons_of_mem _ h)))
theorem allUs_mem : ∀ {l : List Nat} {τ : Nat}, allUs σ l = true → τ ∈ l → σ.us τ = true := by
  intro l
  induction l with
  | nil => intro τ _ h; cases h
  | cons υ r ih =>
    intro τ h ht
    simp only [allUs, Bool.and_eq_true] at h
    rcases List.mem_cons.1 ht with rfl | ht
    · exact h.1
    · exact ih h.2 ht
theorem seg_set {css cx : List Value} {n size i j : Nat} (hl : css.length = n * size) (hi : i < n) (hj : j < n) (hc : cx.length = size) :
    seg (css.take (i * size) ++ cx ++ css.drop (i * size + cx.length)) size j = if j = i then cx else seg css size j := by
  have hi1 : (i + 1) * size ≤ n * size := Nat.mul_le_mul_right _ hi
  rw [Nat.add_mul] at hi1
  by_cases hij : j = i
  · subst hij
    rw [if_pos rfl]
    simp only [V.seg]
    rw [List.append_assoc, List.drop_left' (by simp; omega), List.take_left' hc]
  · rw [if_neg hij]
    have hne : j * size + size ≤ i * size ∨ i * size + size ≤ j * size := by
      rcases Nat.lt_or_gt_of_ne hij with h | h
      · left; have := Nat.mul_le_mul_right size (show j + 1 ≤ i from h); rw [Nat.add_mul] at this; omega
      · right; have := Nat.mul_le_mul_right size (show i + 1 ≤ j from h); rw [Nat.add_mul] at this; omega
    apply List.ext_getElem?
    intro q
    simp only [V.seg, List.getElem?_take, List.getElem?_drop, List.getElem?_append, List.length_take, List.length_drop, List.length_append]
    by_cases hq : q < size
    · simp only [hq, if_true]
      repeat' split
      all_goals first | omega | rfl | (congr 1; omega)
    · simp only [hq, if_false]
theorem list_ok {n : Nat} {s : TypeId} {t : Ty} (hr : RelE X E σ a.tmps w) (ht : tyB P n s t = true) :
    ∀ (ps : List (Nat × Operand)) {xs : List t.den} {ts : List Nat} {css : List Value} {k : List t.den → List Nat → Option R} {r : R}, listK t (ps.map fun p => (p.1, opd σ p.2)) xs ts k = some r → css.length = xs.length * t.size →
      ∃ xs' ts' css', k xs' ts' = some r ∧ xs'.length = xs.length ∧ css'.length = css.length ∧ (∀ τ ∈ ts, τ ∈ ts') ∧ Instr.fill (fun i => some (i * t.size, t.size)) css.toArray (ps.map fun p => (p.1, a.eval p.2)) = some css'.toArray ∧
        ∀ σ' : St, RelE X E σ' a.tmps w → σ'.fr = σ.fr → (∀ τ ∈ ts', τ = 1 ∨ frz σ' τ) → (∀ (i : Nat) x, xs[i]? = some x → Rf w (Fz X E σ' w) t x (seg css t.size i)) → ∀ (i : Nat) x, xs'[i]? = some x → Rf w (Fz X E σ' w) t x (seg css' t.size i) := by
  intro ps
  induction ps with
  | nil => intro xs ts css k r h hl; exact ⟨xs, ts, css, h, rfl, rfl, fun _ h => h, rfl, fun _ _ _ _ h => h⟩
  | cons p ps ih =>
    intro xs ts css k r h hl
    obtain ⟨i, z⟩ := p
    simp only [List.map_cons] at h ⊢
    unfold listK at h
    cases hc : V.coe t (opd σ z) with
    | none => simp [hc] at h
    | some q =>
      obtain ⟨v, ms⟩ := q
      simp only [hc] at h
      cases hi : decide (i < xs.length) with
      | false => simp [hi] at h
      | true =>
        simp only [hi, cond_true] at h
        have hi' : i < xs.length := by simpa using hi
        obtain ⟨cz, hz1, hz2, hz3⟩ := hr.coe hc
        have hlz := hz1.length
        have hcl : (a.eval z).cells = cz.toArray := by rw [hz2]; exact cells_toVal hz1 (tyB_scalar ht)
        have hi1 : (i + 1) * t.size ≤ xs.length * t.size := Nat.mul_le_mul_right _ hi'
        rw [Nat.add_mul] at hi1
        have hl' : (css.take (i * t.size) ++ cz ++ css.drop (i * t.size + cz.length)).length = (xs.set i v).length * t.size := by simp; omega
        obtain ⟨xs', ts', css', w1, w2, w3, w4, w5, w6⟩ := ih h hl'
        refine ⟨xs', ts', css', w1, by simpa using w2, by rw [w3, hl', List.length_set, hl], fun τ hτ => w4 τ (List.mem_append_right _ hτ), ?_, fun σ' hr' hfr hfz hxs => w6 σ' hr' hfr hfz fun j x hx => ?_⟩
        · rw [fill_cons (cx := cz) (by rw [hlz]) hcl (by simp; omega), splice_list]
          exact w5
        · have hj : j < xs.length := by have := (List.getElem?_eq_some_iff.1 hx).1; simpa using this
          rw [seg_set hl hi' hj hlz]
          by_cases hji : j = i
          · subst hji
            rw [if_pos rfl]
            rw [List.getElem?_set_self hj] at hx
            injection hx with hx; subst hx
            have hop : opd σ' z = opd σ z := by
              cases z with
              | tmp t => simp [opd, hfr]
              | const v =>
                cases v with
                | slice a n c => cases a <;> cases n <;> cases c <;> rfl
                | _ => rfl
              | _ => rfl
            obtain ⟨cz', hy1, hy2, hy3⟩ := hr'.coe (show V.coe t (opd σ' z) = some (v, ms) by rw [hop]; exact hc)
            have hcl' : (a.eval z).cells = cz'.toArray := by rw [hy2]; exact cells_toVal hy1 (tyB_scalar ht)
            have he : cz' = cz := by rw [hcl] at hcl'; simpa using hcl'.symm
            subst he
            exact rf_of_frz (fun τ hτ => hfz τ (w4 τ (List.mem_append_left _ hτ))) hy3 hy1
          · rw [if_neg hji]
            rw [List.getElem?_set_ne (fun h => hji h.symm)] at hx
            exact hxs j x hx
theorem step_buildSlice (T : Tabs) (hT : TabOk P T.T) {s : TypeId} {n : Nat} {ps : Array (Nat × Operand)} (ho : o.op = .buildSlice s n ps) {k : St → Option R} {r : R} (h : stepK T o σ k = some r) (hr : RelE X E σ a.tmps w) : StepOk P X T o a w (fun σ' => k σ' = some r) := by
  simp only [stepK, ho] at h
  split at h
  · rename_i e t hTs
    obtain ⟨_, ht⟩ := hT.ty s _ hTs
    obtain ⟨m, hu, he⟩ := tyB_sl ht
    have hpos : 0 < t.size := by have := tyB_ok ht; simp [Ty.ok] at this; exact this.2
    obtain ⟨fi, z, i1, i2, i3, i4, i5⟩ := tyB_info he
    have hzl : (zc t).length = t.size := (rf_zero (w := w) (A := fun _ => False) (tyB_ok he)).length
    obtain ⟨xs, ts, css, w1, w2, w3, _, w5, w6⟩ := list_ok (css := (madeCells z.cells (n * t.size)).toList) hr he ps.toList h (by simp [size_madeCells])
    obtain ⟨g1, g2⟩ := guardK_some w1
    simp only [Bool.and_eq_true, decide_eq_true_eq] at g1
    have hr' := hr.freeze ts
    have hrs := w6 (σ.freeze ts) hr' (freeze_fr σ ts).1 (fun τ hτ => freeze_frz ts hτ (allUs_mem g1.1 hτ)) (fun i x hx => by
      have hi : i < n := by have := (List.getElem?_eq_some_iff.1 hx).1; simpa using this
      rw [List.getElem?_replicate, if_pos hi] at hx
      injection hx with hx; subst hx
      rw [seg_made i5 hzl hpos hi]
      exact rf_zero (tyB_ok he))
    have hxn : xs.length = n := by rw [w2]; simp
    have hcn : css.length = n * t.size := by rw [w3]; simp [size_madeCells]
    have hmap : (ps.map fun (i, x) => (i, a.eval x)).toList = ps.toList.map fun p => (p.1, a.eval p.2) := by simp
    have hrun : (execOp a.eval o).run P w = .ok (.value (.slice (some ⟨w.heap.size, 0, none⟩) n n)) (w.alloc (.cells css.toArray e)) := by
      simp only [execOp, ho, Sem.run_bind]
      have hf : Instr.fill (fun i => some (i * fi.size, fi.size)) ((Array.range (n * fi.size)).map (z.cells[· % z.cells.size]!)) (ps.map fun (i, x) => (i, a.eval x)).toList = some css.toArray := by
        rw [hmap, i2]
        have : (madeCells z.cells (n * t.size)).toList.toArray = madeCells z.cells (n * t.size) := by simp
        rw [this] at w5
        exact w5
      by_cases hn : n = 0
      · subst hn
        have hps : ps = #[] := by
          rw [← Array.toList_inj]
          cases hl : ps.toList with
          | nil => rfl
          | cons p r =>
            rw [hl] at h
            simp only [List.map_cons, listK] at h
            split at h
            · simp at h
            · cases h
        have hc0 : css = [] := List.eq_nil_of_length_eq_zero (by omega)
        subst hps; subst hc0
        have hb : (Instr.buildSlice s 0 ((#[] : Array (Nat × Operand)).map fun (i, x) => (i, a.eval x))).run P w = .ok (.slice (some ⟨w.heap.size, 0, none⟩) 0 0) (w.alloc (.cells #[] e)) := by
          simp only [Instr.buildSlice, run_underlying hu, sizeOf, typeInfo, i1, newRow, Sem.run_bind, Result.andThen_ok, Nat.zero_mul]
          have h0 : ∀ f : Nat → Value, (Array.range 0).map f = #[] := fun f => Array.eq_empty_of_size_eq_zero (by simp)
          simp [i1, Instr.fill]
          rw [h0]
        rw [hb]; simp only [Result.andThen_ok, Sem.run_pure]
      · have hp : n * fi.size ≠ 0 := by
          rw [i2]
          intro h0
          rcases Nat.mul_eq_zero.1 h0 with h | h <;> omega
        rw [run_buildSlice w s e n _ css.toArray fi z hu i1 i4 (by rw [i2]; have := g1.2; omega) hp hf]
        simp only [Result.andThen_ok, Sem.run_pure]
    have hx := Ext.alloc w (.cells css.toArray e)
    obtain ⟨hr1, K1⟩ := hr'.fresh hx (g := w.heap.size) ⟨Nat.le_refl _, by simp⟩
    have hnt := (freeze_fr σ ts).2.1
    refine stepOk_value hrun ⟨_, hr1.put (s := .val ⟨.sl e t, xs, [σ.nt]⟩ none) o.dst ?_⟩ g2
    have := more_val (w1 := w.alloc (.cells css.toArray e)) (e := e) (t := t) (xs := xs) (g := w.heap.size) (cap := n) (css := css) (E' := (E.tok (σ.freeze ts).nt (some w.heap.size))) hr' (if_pos rfl)
      ⟨by rw [hcn, hxn], .inr ⟨_, n, css.toArray, by rw [hxn], Nat.zero_le _, heap_alloc_new w _, by rw [hxn]; exact Nat.le_refl _, ?_, by simpa using hcn, by rw [hxn]; simp [← hcn]⟩⟩ (fun i x hx => K1.rf (hrs i x hx))
    · rw [hxn, hnt] at this
      rw [hnt]
      exact this
    · have h1 := g1.2
      have : n ≤ n * t.size := Nat.le_mul_of_pos_right _ hpos
      simp only [maxLen]; omega
  · cases h
end
end Go.Proofs.Ytopeacfbcdoljaa.V
