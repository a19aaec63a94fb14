/- How code ends. -/
import Derived.Test.YtopeacfbcdoljaaWe
namespace Go.Proofs.Ytopeacfbcdoljaa.V
open Go
section
variable {P : Program} {X : Ctx} {E : Env} {σ : St} {A0 : Array Value} {a : Act} {w : World} {R : Type}
theorem ResOk.monoA {A A' : Nat → Prop} (hA : ∀ b, A b → A' b) : ∀ {rs : List (Ty × Bool)} {y : Tup (resOf rs)} {vs : List Value} {br : List (List (Option Nat))}, ResOk w A rs y vs br → ResOk w A' rs y vs br := by
  intro rs
  induction rs with
  | nil => intro y vs br h; cases vs <;> cases br <;> first | exact h | exact h.elim
  | cons p rs ih =>
    intro y vs br h
    cases vs with
    | nil => cases br <;> exact h.elim
    | cons u vs =>
      cases br with
      | nil => exact h.elim
      | cons bs br =>
        obtain ⟨⟨cs, h1, h2⟩, h3⟩ := h
        refine ⟨⟨cs, h1, ?_⟩, ih h3⟩
        obtain ⟨t, o⟩ := p
        cases o with
        | true => exact ⟨h2.1.monoA hA, h2.2⟩
        | false => exact ⟨h2.1.mono hA (fun _ _ => rfl), h2.2⟩
theorem OutOk.monoA {A A' : Nat → Prop} (hA : ∀ b, A b → A' b) {k : AK} {u : Value} {f : Foot} {bs : List (Option Nat)} {v : Tup k.outs} (h : OutOk w A k u f bs v) : OutOk w A' k u f bs v := by
  cases k with
  | mu t => obtain ⟨h1, cs, h2, h3, h4⟩ := h; exact ⟨h1, cs, h2, h3, h4.monoA hA⟩
  | pio t => obtain ⟨h1, b, o, cs, h2, h3, h4⟩ := h; exact ⟨h1, b, o, cs, h2, h3.monoA hA, h4⟩
  | _ => exact h
theorem OutsOk.monoA {A A' : Nat → Prop} (hA : ∀ b, A b → A' b) : ∀ {ks : List AK} {y : Tup (outsOf ks)} {us : List Value} {fs : List Foot} {bo : List (List (Option Nat))}, OutsOk w A ks y us fs bo → OutsOk w A' ks y us fs bo := by
  intro ks
  induction ks with
  | nil => intro y us fs bo h; cases us <;> cases fs <;> cases bo <;> first | exact h | exact h.elim
  | cons k ks ih =>
    intro y us fs bo h
    cases us with
    | nil => cases fs <;> cases bo <;> exact h.elim
    | cons u us =>
      cases fs with
      | nil => cases bo <;> exact h.elim
      | cons f fs =>
        cases bo with
        | nil => exact h.elim
        | cons b bo => exact ⟨h.1.monoA hA, ih h.2⟩
theorem resL_ok : ∀ {rs : List (Ty × Bool)} {ss : List Slot} {vs : List Value} {E : Env} {σ : St} {k : Tup (resOf rs) → St → Option R} {r : R}, RelE X E σ A0 w → ss.length = vs.length →
    (∀ (i : Nat) s u, ss[i]? = some s → vs[i]? = some u → SlotOk w (Fz X E σ w) E σ s u) → resL ss rs σ k = some r →
    ∃ y σ1 E1 br, k y σ1 = some r ∧ RelE X E1 σ1 A0 w ∧ Keep w w (Fz X E σ w) (Fz X E1 σ1 w) E E1 σ σ1 ∧ E1.out.Perm (flatB br ++ E.out) ∧ E1.ad = E.ad ∧ σ1.bx = σ.bx ∧ ResOk w (Fz X E1 σ1 w) rs y vs br := by
  intro rs
  induction rs with
  | nil =>
    intro ss vs E σ k r hr hl hs h
    cases ss with
    | cons s ss => simp [resL] at h
    | nil =>
      have : vs = [] := List.eq_nil_of_length_eq_zero hl.symm
      subst this
      exact ⟨(), σ, E, [], h, hr, hr.keep, by simp [flatB], rfl, rfl, trivial⟩
  | cons p rs ih =>
    intro ss vs E σ k r hr hl hs h
    obtain ⟨t, o⟩ := p
    cases ss with
    | nil => simp [resL] at h
    | cons s ss =>
      cases vs with
      | nil => simp at hl
      | cons u vs =>
        simp only [resL] at h
        cases hc : coe t s with
        | none => rw [hc] at h; simp at h
        | some q =>
          obtain ⟨v, ms⟩ := q
          rw [hc] at h
          simp only at h
          obtain ⟨cs, c1, c2, c3⟩ := coe_ok hc (hs 0 s u rfl rfl) hr.nt2 hr.no1.1 hr.no1.2
          have hs2 : ∀ (i : Nat) s' u', ss[i]? = some s' → vs[i]? = some u' → SlotOk w (Fz X E σ w) E σ s' u' := fun i s' u' h1 h2 => hs (i + 1) s' u' (by simpa using h1) (by simpa using h2)
          cases o with
          | true =>
            simp only [cond_true] at h
            obtain ⟨σ', E', q1, q2, q3, q4, q5, q6, q7, q8, q9, q10, q11, q12, q13, q14⟩ := take_ok ms hr h
            obtain ⟨y, σ1, E1, br, z1, z2, z3, z4, z5, z6, z7⟩ := ih q2 (by simpa using hl) (fun i s' u' h1 h2 => q3.slot (hs2 i s' u' h1 h2)) q1
            refine ⟨Tup.cons v y, σ1, E1, (ms.map E.hd) :: br, z1, z2, q3.trans z3, ?_, z5.trans q7, z6.trans q10, ?_, ?_⟩
            · rw [flatB_cons]
              refine z4.trans ?_
              refine (List.Perm.append_left _ q5).trans ?_
              rw [← List.append_assoc]
              exact List.Perm.append_right _ List.perm_append_comm
            · refine ⟨cs, c2, ?_⟩
              rw [tup_hd]
              exact ⟨(ow_of_rv (hr.hd0 1 (by omega)) (al_ge hr) q4 c3 c1).monoA (fun b hb => ((q3.trans z3).A b hb).1), by simpa using c3⟩
            · rw [tup_tl]; exact z7
          | false =>
            simp only [cond_false] at h
            cases hu : allUs σ ms with
            | false => rw [hu] at h; simp at h
            | true =>
              rw [hu] at h
              simp only [cond_true] at h
              obtain ⟨hrf, hKf⟩ := hr.freezeK ms
              obtain ⟨y, σ1, E1, br, z1, z2, z3, z4, z5, z6, z7⟩ := ih hrf (by simpa using hl) (fun i s' u' h1 h2 => hKf.slot (hs2 i s' u' h1 h2)) h
              refine ⟨Tup.cons v y, σ1, E1, [] :: br, z1, z2, hKf.trans z3, by simpa [flatB_cons] using z4, z5, z6.trans (freeze_fr σ ms).2.2, ?_, ?_⟩
              · refine ⟨cs, c2, ?_⟩
                rw [tup_hd]
                refine ⟨?_, rfl⟩
                have := rf_of_frz (A := Fz X E (σ.freeze ms) w) (σ := σ.freeze ms) (E := E) (fun τ hτ => freeze_frz ms hτ (allUs_mem hu hτ)) c3 (hKf.rv c1)
                exact this.mono (fun b hb => (z3.A b hb).1) (fun _ _ => rfl)
              · rw [tup_tl]; exact z7
/-- Where what may turn stands. -/
def HomeOk (X : Ctx) (k : AK) (u : Value) (f : Foot) (h : Slot) : Prop :=
  match k with
  | .pio t => ∃ id b o sz, h = .ptr id t [] t ∧ u = .pointer (some ⟨b, o, none⟩) ∧ f.place = some (b, o) ∧ (id, (b, o), sz) ∈ X.pbx
  | _ => f.place = none
def HomesOk (X : Ctx) : List AK → List Value → List Foot → List Slot → Prop
  | [], [], [], [] => True
  | k :: ks, u :: us, f :: fs, h :: hs => HomeOk X k u f h ∧ HomesOk X ks us fs hs
  | _, _, _, _ => False
theorem tup_fst_app : ∀ {a b : List Ty} (x : Tup a) (y : Tup b), Tup.fst (Tup.app x y) = x := by
  intro a
  induction a with
  | nil => intro b x y; cases x; rfl
  | cons t r ih =>
    intro b x y
    cases r with
    | nil =>
      show Tup.hd (Tup.cons (Tup.hd x) (Tup.app (Tup.tl x) y)) = x
      rw [tup_hd]; rfl
    | cons u r =>
      show (Tup.hd (Tup.cons (Tup.hd x) (Tup.app (Tup.tl x) y)), Tup.fst (Tup.tl (Tup.cons (Tup.hd x) (Tup.app (Tup.tl x) y)))) = x
      rw [tup_hd, tup_tl, ih]
      rfl
theorem tup_snd_app : ∀ {a b : List Ty} (x : Tup a) (y : Tup b), Tup.snd (Tup.app x y) = y := by
  intro a
  induction a with
  | nil => intro b x y; rfl
  | cons t r ih =>
    intro b x y
    show Tup.snd (a := r) (b := b) (Tup.tl (Tup.cons (Tup.hd x) (Tup.app (Tup.tl x) y))) = y
    rw [tup_tl, ih]
theorem outsL_ok : ∀ {ks : List AK} {us : List Value} {fs : List Foot} {hs : List Slot} {E : Env} {σ : St} {k : Tup (outsOf ks) → Option R} {r : R}, RelE X E σ A0 w → HomesOk X ks us fs hs → outsL ks hs σ k = some r →
    ∃ z σ1 E1 bo, k z = some r ∧ RelE X E1 σ1 A0 w ∧ Keep w w (Fz X E σ w) (Fz X E1 σ1 w) E E1 σ σ1 ∧ E1.out.Perm (flatB bo ++ E.out) ∧ E1.ad = E.ad ∧ σ1.bx = σ.bx ∧ OutsOk w (Fz X E1 σ1 w) ks z us fs bo ∧ ∀ p ∈ placesOf fs, ∃ q ∈ σ.bx, (E.ad q.id).1 = p.1 := by
  intro ks
  induction ks with
  | nil =>
    intro us fs hs E σ k r hr hh h
    cases us <;> cases fs <;> cases hs <;> first | exact hh.elim | skip
    exact ⟨(), σ, E, [], h, hr, hr.keep, by simp [flatB], rfl, rfl, trivial, fun p hp => by simp [placesOf] at hp⟩
  | cons c ks ih =>
    intro us fs hs E σ k r hr hh h
    cases us with
    | nil => cases fs <;> cases hs <;> exact hh.elim
    | cons u us =>
      cases fs with
      | nil => cases hs <;> exact hh.elim
      | cons f fs =>
        cases hs with
        | nil => exact hh.elim
        | cons hm hs =>
          obtain ⟨h1, h2⟩ := hh
          simp only [outsL] at h
          have other : c.outs = [] → f.place = none → (∀ v : Tup c.outs, OutOk w (fun _ => True) c u f [] v) → (∃ v, outsL ks hs σ (fun x => k (Tup.app (a := c.outs) v x)) = some r) → (∀ {A : Nat → Prop} (v : Tup c.outs), OutOk w A c u f [] v) →
              ∃ z σ1 E1 bo, k z = some r ∧ RelE X E1 σ1 A0 w ∧ Keep w w (Fz X E σ w) (Fz X E1 σ1 w) E E1 σ σ1 ∧ E1.out.Perm (flatB bo ++ E.out) ∧ E1.ad = E.ad ∧ σ1.bx = σ.bx ∧ OutsOk w (Fz X E1 σ1 w) (c :: ks) z (u :: us) (f :: fs) bo ∧
                ∀ p ∈ placesOf (f :: fs), ∃ q ∈ σ.bx, (E.ad q.id).1 = p.1 := by
            intro _ hf _ ⟨v, hv⟩ hout
            obtain ⟨z, σ1, E1, bo, z1, z2, z3, z4, z5, z6, z7, z8⟩ := ih hr h2 hv
            refine ⟨Tup.app v z, σ1, E1, [] :: bo, z1, z2, z3, by simpa [flatB_cons] using z4, z5, z6, ⟨?_, ?_⟩, fun p hp => z8 p (by simpa [placesOf, hf] using hp)⟩
            · rw [tup_fst_app]; exact hout v
            · rw [tup_snd_app]; exact z7
          cases c with
          | ro t => exact other rfl h1 (fun _ => rfl) ⟨(), h⟩ (fun _ => rfl)
          | own t => exact other rfl h1 (fun _ => rfl) ⟨(), h⟩ (fun _ => rfl)
          | pin t => exact other rfl h1 (fun _ => rfl) ⟨(), h⟩ (fun _ => rfl)
          | mu t => simp [outOne] at h
          | pio t =>
            obtain ⟨id, b, o, sz, rfl, rfl, hpl, hpb⟩ := h1
            obtain ⟨hid, had⟩ := hr.adx _ hpb
            have hslot : SlotOk w (Fz X E σ w) E σ (.ptr id t [] t) (.pointer (some ⟨b, o, none⟩)) := ⟨hid, b, o, rfl, by simp only [addr]; rw [show E.ad id = (b, o) from had]⟩
            simp only [outOne] at h
            obtain ⟨x, hm, b', o', cs, g1, g2, g3, g4, g5⟩ := read_ok (a := ⟨A0, []⟩) hr hslot h
            simp only [Value.pointer.injEq, Option.some.injEq, Addr.mk.injEq, and_true] at g2
            obtain ⟨rfl, rfl⟩ := g2
            have hfind : ∃ q ∈ σ.bx, q.id = id := by
              simp only [readK] at h
              cases hf : σ.find id with
              | none => rw [hf] at h; simp at h
              | some y => exact ⟨_, find_mem hf, rfl⟩
            cases hc : cast? t x with
            | none => rw [hc] at g1; simp at g1
            | some q =>
              obtain ⟨v, ms⟩ := q
              rw [hc] at g1
              simp only at g1
              have hx := cast?_some hc
              subst hx
              obtain ⟨σ', E', q1, q2, q3, q4, q5, q6, q7, q8, q9, q10, q11, q12, q13, q14⟩ := take_ok ms hr g1
              obtain ⟨z, σ1, E1, bo, z1, z2, z3, z4, z5, z6, z7, z8⟩ := ih q2 h2 q1
              refine ⟨Tup.app (a := (AK.pio t).outs) v z, σ1, E1, (ms.map E.hd) :: bo, z1, z2, q3.trans z3, ?_, z5.trans q7, z6.trans q10, ⟨?_, ?_⟩, fun p hp => ?_⟩
              · rw [flatB_cons]
                refine z4.trans ?_
                refine (List.Perm.append_left _ q5).trans ?_
                rw [← List.append_assoc]
                exact List.Perm.append_right _ List.perm_append_comm
              · have e : Tup.fst (a := (AK.pio t).outs) (b := outsOf ks) (Tup.app (a := (AK.pio t).outs) (b := outsOf ks) v z) = v := tup_fst_app (a := (AK.pio t).outs) (b := outsOf ks) v z
                refine e.symm ▸ (?_ : OutOk w _ (.pio t) _ f _ v)
                exact ⟨by simpa using g4, b, o, cs, rfl, (ow_of_rv (hr.hd0 1 (by omega)) (al_ge hr) q4 g4 g3).monoA (fun b hb => ((q3.trans z3).A b hb).1), g5⟩
              · have e : Tup.snd (a := (AK.pio t).outs) (b := outsOf ks) (Tup.app (a := (AK.pio t).outs) (b := outsOf ks) v z) = z := tup_snd_app (a := (AK.pio t).outs) (b := outsOf ks) v z
                exact e.symm ▸ z7
              · simp only [placesOf, List.filterMap_cons, hpl] at hp
                rcases List.mem_cons.1 hp with rfl | hp
                · obtain ⟨q, hq, rfl⟩ := hfind
                  exact ⟨q, hq, by rw [had]⟩
                · obtain ⟨q, hq, he⟩ := z8 p hp
                  rw [q10] at hq
                  rw [q7] at he
                  exact ⟨q, hq, he⟩
/-- What the context of code is, that was begun with these. -/
structure Began (X : Ctx) (ks : List AK) (w : World) (A : Nat → Prop) (us : List Value) (fs : List Foot) (hs : List Slot) : Prop where
  w0 : X.w0 = w
  M : ∀ b o, b < w.heap.size → X.M b o → footM ks fs b o
  ok : ∀ b, X.ok b → A b ∨ b ∈ blocksOf fs ∨ w.heap.size ≤ b
  fps : ∀ b ∈ X.fps, b ∈ rowsOf fs
  homes : HomesOk X ks us fs hs
theorem Fr.narrow {M M' : Nat → Nat → Prop} {w w' : World} (h : Fr M w w') (hm : ∀ b o, b < w.heap.size → M b o → M' b o) : Fr M' w w' := by
  refine ⟨h.os, h.tape, h.output, h.size, fun b hb => ?_⟩
  rcases h.block b hb with h1 | ⟨c, c', e, h1, h2, h3, h4⟩
  · exact .inl h1
  · exact .inr ⟨c, c', e, h1, h2, h3, fun o ho => h4 o (fun hM => ho (hm b o hb hM))⟩
theorem fin_ok {ks : List AK} {rs : List (Ty × Bool)} {ss : List Slot} {vs us : List Value} {fs : List Foot} {hs : List Slot} {w0 : World} {A : Nat → Prop} {y : Tup (resOf rs ++ outsOf ks)} (hr : RelE X E σ A0 w) (hb : Began X ks w0 A us fs hs) (hl : ss.length = vs.length)
    (hsl : ∀ (i : Nat) s u, ss[i]? = some s → vs[i]? = some u → SlotOk w (Fz X E σ w) E σ s u) (h : finK ks hs rs ss σ = some y) : PostL ks rs w0 A us fs y vs w := by
  unfold finK at h
  obtain ⟨y1, σ1, E1, br, z1, z2, z3, z4, z5, z6, z7⟩ := resL_ok hr hl hsl h
  obtain ⟨z, σ2, E2, bo, k1, k2, k3, k4, k5, k6, k7, k8⟩ := outsL_ok z2 hb.homes z1
  have hy : Tup.app y1 z = y := by injection k1
  subst hy
  have hfr := hr.fr
  rw [hb.w0] at hfr
  refine ⟨hfr.narrow hb.M, bo, br, ?_⟩
  have hperm : E2.out.Perm ((flatB bo ++ flatB br) ++ E.out) := by
    refine k4.trans ?_
    rw [List.append_assoc]
    exact List.Perm.append_left _ z4
  have hnd : ((flatB bo ++ flatB br) ++ E.out).Nodup := by
    have := k2.nodup
    simp only [owned] at this
    have := (List.nodup_append.1 (List.nodup_append.1 this).2.1).2.1
    exact hperm.nodup_iff.1 this
  have hmem : ∀ b ∈ flatB bo ++ flatB br, b ∈ E2.out := fun b hb => hperm.mem_iff.2 (List.mem_append_left _ hb)
  have hA : ∀ b, Fz X E2 σ2 w b → After w0 w A fs (flatB bo ++ flatB br) b := by
    intro b ⟨h1, h2, h3⟩
    refine ⟨?_, h2, fun h => h3 (mem_out k2 (hmem b h))⟩
    rcases hb.ok b h1 with h | h | h
    · exact .inl h
    · rcases blocks_mem.1 h with h | ⟨p, hp, he⟩
      · exact .inr (.inl h)
      · obtain ⟨q, hq, hqe⟩ := k8 p hp
        exfalso
        refine h3 ?_
        rw [← he, ← hqe, ← k5]
        exact mem_owned_bx (by rw [k6]; exact hq)
    · exact .inr (.inr h)
  refine ⟨(List.nodup_append.1 hnd).1, fun b hb' => ?_, ?_, ?_⟩
  · refine ⟨?_, (k2.lt b (mem_out k2 (hmem b hb'))).1⟩
    rcases k2.srco b (hmem b hb') with h | h
    · exact .inl (hb.fps b h)
    · exact .inr (by rw [hb.w0] at h; exact h)
  · rw [tup_fst_app]
    exact z7.monoA (fun b hb => hA b (k3.A b hb).1)
  · rw [tup_snd_app]
    exact k7.monoA hA
end
end Go.Proofs.Ytopeacfbcdoljaa.V
