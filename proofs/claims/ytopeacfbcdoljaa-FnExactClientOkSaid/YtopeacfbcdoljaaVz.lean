/- A call, part 3: results; the whole call. -/
import Derived.Test.YtopeacfbcdoljaaVy
namespace Go.Proofs.Ytopeacfbcdoljaa.V
open Go
section
variable {P : Program} {X : Ctx} {E : Env} {σ : St} {A0 : Array Value} {a : Act} {w : World} {o : Oper} {R : Type}
theorem res_ok {AF : Nat → Prop} : ∀ {rs : List (Ty × Bool)} {y : Tup (resOf rs)} {vs : List Value} {br : List (List (Option Nat))} {E : Env} {σ : St} {l : List Nat}, RelE X E σ A0 w → E.out = flatB br ++ l → ResOk w AF rs y vs br →
    (sharesR rs = false ∨ ∀ b, AF b → Fz X E σ w b) →
    ∃ E', RelE X E' (resVals rs y σ).2 A0 w ∧ Keep w w (Fz X E σ w) (Fz X E' (resVals rs y σ).2 w) E E' σ (resVals rs y σ).2 ∧ (resVals rs y σ).1.length = vs.length ∧
      ∀ (i : Nat) x u, (resVals rs y σ).1[i]? = some x → vs[i]? = some u → ValOk w (Fz X E' (resVals rs y σ).2 w) E' (resVals rs y σ).2 x u := by
  intro rs
  induction rs with
  | nil =>
    intro y vs br E σ l hr ho h _
    cases vs with
    | nil => exact ⟨E, hr, hr.keep, rfl, fun i x u h => by simp [resVals] at h⟩
    | cons v vs => cases br <;> exact h.elim
  | cons p rs ih =>
    intro y vs br E σ l hr ho h hA
    obtain ⟨t, own⟩ := p
    cases vs with
    | nil => cases br <;> exact h.elim
    | cons u vs =>
      cases br with
      | nil => exact h.elim
      | cons bs br =>
        obtain ⟨⟨cs, hu, hc⟩, h2⟩ := h
        rw [flatB_cons, List.append_assoc] at ho
        have hA2 : sharesR rs = false ∨ ∀ b, AF b → Fz X E σ w b := hA.imp (fun h => by simp only [sharesR, Bool.or_eq_false_iff] at h; exact h.2) id
        cases own with
        | true =>
          obtain ⟨hv, hl⟩ := hc
          have hd : t.deep = false ∨ ∀ b, AF b → Fz X E σ w b ∧ w.heap[b]? = w.heap[b]? := hA.imp (fun h => by simp only [sharesR, Bool.or_eq_false_iff] at h; exact h.1.2) (fun h b hb => ⟨h b hb, rfl⟩)
          obtain ⟨E1, r1, K1, r2, r3, r4⟩ := adopt_val hr ho hl (hv.move (A' := Fz X E σ w) hl (fun _ _ => rfl) hd)
          obtain ⟨E2, q1, q2, q3, q4⟩ := ih (y := Tup.tl y) r1 r2 h2 (hA2.imp id fun h b hb => (K1.A b (h b hb)).1)
          refine ⟨E2, q1, K1.trans q2, by simpa [resVals] using q3, fun i x u' hx hu' => ?_⟩
          cases i with
          | zero =>
            simp only [resVals, cond_true, List.getElem?_cons_zero, Option.some.injEq] at hx hu'
            subst hx; subst hu'
            exact ⟨cs, q2.rv r3, hu, r4⟩
          | succ i => exact q4 i x u' (by simpa [resVals] using hx) (by simpa using hu')
        | false =>
          obtain ⟨hv, hb⟩ := hc
          have hb' : bs = [] := hb
          subst hb'
          have hrf : Rf w (Fz X E σ w) t (Tup.hd y) cs := by
            rcases hA with hA | hA
            · simp only [sharesR, Bool.or_eq_false_iff, Bool.not_false, Bool.true_and, Bool.not_eq_false', beq_iff_eq] at hA
              exact rf_any hA.1.1 hv
            · exact hv.mono hA (fun _ _ => rfl)
          obtain ⟨E2, q1, q2, q3, q4⟩ := ih (y := Tup.tl y) hr (by simpa using ho) h2 hA2
          refine ⟨E2, q1, q2, by simpa [resVals] using q3, fun i x u' hx hu' => ?_⟩
          cases i with
          | zero =>
            simp only [resVals, cond_false, List.getElem?_cons_zero, Option.some.injEq] at hx hu'
            subst hx; subst hu'
            exact ⟨cs, q2.rv (rv_of_rf (by have := hr.nt2; omega) (fun h => by have := (hr.alr 0 h).1; omega) hrf), hu, by simp⟩
          | succ i => exact q4 i x u' (by simpa [resVals] using hx) (by simpa using hu')
theorem placeArg_of {A pin : Nat → Prop} : ∀ {ks : List AK} {x : Tup (tysOf ks)} {us : List Value} {fs : List Foot}, ArgsOk w A pin ks x us fs → PlaceArg ks us fs := by
  intro ks
  induction ks with
  | nil => intro x us fs h; cases us <;> cases fs <;> trivial
  | cons b r ih =>
    intro x us fs h
    cases us with
    | nil => cases fs <;> exact h.elim
    | cons u us =>
      cases fs with
      | nil => exact h.elim
      | cons f fs =>
        refine ⟨?_, ih h.2⟩
        have h1 := h.1
        cases b with
        | ro t => rw [h1.2]
        | own t => exact h1.2.2
        | mu t => exact h1.2.2
        | pin t => rw [h1.2]
        | pio t => obtain ⟨b, o, cs, c, e, q1, _, _, _, _, _, q2⟩ := h1; exact ⟨b, o, q2, q1⟩
theorem placesOk_of {A pin : Nat → Prop} {M : Nat → Nat → Prop} {w' : World} (hfr : Fr M w w') : ∀ {ks : List AK} {x : Tup (tysOf ks)} {us : List Value} {fs : List Foot}, ArgsOk w A pin ks x us fs →
    (∀ b j, (∃ p ∈ placesOf fs, p.1 = b) → M b j → footM ks fs b j) → (∀ p ∈ placesOf fs, p.1 ∉ rowsOf fs) → ((placesOf fs).map (·.1)).Nodup → PlacesOk w w' ks fs := by
  intro ks
  induction ks with
  | nil => intro x us fs h _ _ _; cases fs <;> trivial
  | cons b r ih =>
    intro x us fs h hM hrow hnd
    cases us with
    | nil => cases fs <;> exact h.elim
    | cons u us =>
      cases fs with
      | nil => exact h.elim
      | cons f fs =>
        have hsub : ∀ p ∈ placesOf fs, p ∈ placesOf (f :: fs) := by
          intro p hp
          simp only [placesOf, List.filterMap_cons] at hp ⊢
          cases f.place with
          | none => exact hp
          | some q => exact List.mem_cons_of_mem _ hp
        have hrowsub : ∀ c, c ∈ rowsOf fs → c ∈ rowsOf (f :: fs) := fun c hc => List.mem_append_right _ hc
        refine ⟨fun bb oo hp => ?_, ih h.2 (fun b' j hp hm => ?_) (fun p hp hc => hrow p (hsub p hp) (hrowsub _ hc)) ?_⟩
        · have hpls : placesOf (f :: fs) = (bb, oo) :: placesOf fs := by simp [placesOf, hp]
          rw [hpls] at hnd hrow
          simp only [List.map_cons, List.nodup_cons] at hnd
          have h1 := h.1
          have hpio : ∃ t, b = .pio t := by
            cases b with
            | ro t => rw [h1.2] at hp; cases hp
            | own t => rw [show f.place = none from h1.2.2] at hp; cases hp
            | mu t => rw [show f.place = none from h1.2.2] at hp; cases hp
            | pin t => rw [h1.2] at hp; cases hp
            | pio t => exact ⟨t, rfl⟩
          obtain ⟨t, rfl⟩ := hpio
          obtain ⟨b2, o2, cs, c, e, q1, q2, q3, q4, q5, q6, q7⟩ := h1
          rw [hp] at q7
          simp only [Option.some.injEq, Prod.mk.injEq] at q7
          obtain ⟨rfl, rfl⟩ := q7
          have hlt : bb < w.heap.size := (Array.getElem?_eq_some_iff.1 q5).1
          have hin : ∀ j, ¬ (oo ≤ j ∧ j < oo + t.size) → ¬ M bb j := by
            intro j hj hm
            have := hM bb j ⟨(bb, oo), by rw [hpls]; exact List.mem_cons_self, rfl⟩ hm
            rcases this with h | ⟨p, h1, h2, h3⟩ | h
            · exact hrow (bb, oo) List.mem_cons_self (List.mem_append_left _ (List.mem_filterMap.2 ⟨some bb, h, rfl⟩))
            · rw [hp] at h1
              simp only [Option.some.injEq] at h1
              subst h1
              exact hj h3
            · rcases footM_mem h with h | ⟨p, h1, h2⟩
              · exact hrow (bb, oo) List.mem_cons_self (hrowsub _ h)
              · exact hnd.1 (List.mem_map.2 ⟨p, h1, h2⟩)
          rcases hfr.block bb hlt with h | ⟨d, d', e', h1, h2, h3, h4⟩
          · exact ⟨c, c, e, q5, h.trans q5, rfl, fun _ _ => rfl⟩
          · exact ⟨d, d', e', h1, h2, h3, fun j hj => h4 j (hin j hj)⟩
        · obtain ⟨p, hp1, rfl⟩ := hp
          have := hM p.1 j ⟨p, hsub p hp1, rfl⟩ hm
          rcases this with h | ⟨q, h1, h2, h3⟩ | h
          · exact (hrow p (hsub p hp1) (List.mem_append_left _ (List.mem_filterMap.2 ⟨some p.1, h, rfl⟩))).elim
          · have hpls : placesOf (f :: fs) = q :: placesOf fs := by simp [placesOf, h1]
            rw [hpls] at hnd
            simp only [List.map_cons, List.nodup_cons] at hnd
            exact absurd (List.mem_map.2 ⟨p, hp1, h2.symm⟩) hnd.1
          · exact h
        · simp only [placesOf, List.filterMap_cons] at hnd ⊢
          cases hp : f.place with
          | none => simpa [hp] using hnd
          | some q =>
            simp only [hp, List.map_cons, List.nodup_cons] at hnd
            exact hnd.2
theorem noMu_of {ex : List (Nat × Nat)} {X : Ctx} {E : Env} : ∀ {ks : List AK} {ss : List Slot} {us : List Value} {x : Tup (tysOf ks)} {fs : List Foot}, Pends X w E σ ks ss us x fs → lentOk σ ex ks ss = true → NoMu ks := by
  intro ks
  induction ks with
  | nil => intro ss us x fs _ _; trivial
  | cons b r ih =>
    intro ss us x fs h hl
    cases ss with
    | nil => cases us <;> cases fs <;> exact h.elim
    | cons s ss =>
      cases us with
      | nil => cases fs <;> exact h.elim
      | cons u us =>
        cases fs with
        | nil => exact h.elim
        | cons f fs =>
          simp only [lentOk, Bool.and_eq_true] at hl
          refine ⟨?_, ih h.2 hl.2⟩
          cases b with
          | mu t => have := hl.1; simp [lendAt] at this
          | _ => trivial
end
end Go.Proofs.Ytopeacfbcdoljaa.V
