/- What a call is lent: gathering. -/
import Derived.Test.YtopeacfbcdoljaaVt
namespace Go.Proofs.Ytopeacfbcdoljaa.V
open Go
section
variable {P : Program} {X : Ctx} {E : Env} {σ : St} {A0 : Array Value} {a : Act} {w : World} {o : Oper} {R : Type}
theorem getK_nat : ∀ {t : Ty} {v : t.den} {ms : List Nat} {p : List Sel} {k : Val → Option R} {r : R}, getK t v ms p k = some r → ∃ x, k x = some r ∧ ∀ (R' : Type) (k' : Val → Option R'), getK t v ms p k' = k' x := by
  intro t
  induction t with
  | st t ih =>
    intro v ms p k r h
    cases p with
    | nil => exact ⟨_, by simpa [getK] using h, fun R' k' => by simp [getK]⟩
    | cons s p => exact ih (p := s :: p) (by simpa [getK] using h)
  | pair a b iha ihb =>
    intro v ms p k r h
    cases p with
    | nil => exact ⟨_, by simpa [getK] using h, fun R' k' => by simp [getK]⟩
    | cons s p => cases s with
      | fst =>
        obtain ⟨x, h1, h2⟩ := iha (by simpa [getK] using h)
        exact ⟨x, h1, fun R' k' => by simpa [getK] using h2 R' k'⟩
      | snd =>
        obtain ⟨x, h1, h2⟩ := ihb (by simpa [getK] using h)
        exact ⟨x, h1, fun R' k' => by simpa [getK] using h2 R' k'⟩
      | ix i => simp [getK] at h
  | arr n t ih =>
    intro v ms p k r h
    cases p with
    | nil => exact ⟨_, by simpa [getK] using h, fun R' k' => by simp [getK]⟩
    | cons s p => cases s with
      | fst => simp [getK] at h
      | snd => simp [getK] at h
      | ix i =>
        simp only [getK] at h
        cases hx : (v : List t.den)[i]? with
        | none => rw [hx] at h; simp at h
        | some x =>
          rw [hx] at h
          obtain ⟨y, h1, h2⟩ := ih h
          exact ⟨y, h1, fun R' k' => by simp only [getK, hx, Option.bind_some]; exact h2 R' k'⟩
  | _ =>
    intro v ms p k r h
    cases p with
    | nil => exact ⟨_, by simpa [getK] using h, fun R' k' => by simp [getK]⟩
    | cons s p => cases s <;> simp [getK] at h
/-- The same but for what is still one's own. -/
structure Same (σ σ1 : St) : Prop where
  fr : σ1.fr = σ.fr
  bx : σ1.bx = σ.bx
  nt : σ1.nt = σ.nt
  ln : σ1.ln = σ.ln
  fz : σ1.fz = σ.fz
  al : ∀ τ, τ ∈ σ1.al → τ ∈ σ.al
theorem Same.refl (σ : St) : Same σ σ := ⟨rfl, rfl, rfl, rfl, rfl, fun _ h => h⟩
theorem Same.trans {σ σ1 σ2 : St} (h : Same σ σ1) (k : Same σ1 σ2) : Same σ σ2 := ⟨k.fr.trans h.fr, k.bx.trans h.bx, k.nt.trans h.nt, k.ln.trans h.ln, k.fz.trans h.fz, fun τ ht => h.al τ (k.al τ ht)⟩
theorem Same.find {σ σ1 : St} (h : Same σ σ1) (id : Nat) : σ1.find id = σ.find id := by simp [St.find, h.bx]
theorem Same.root {σ σ1 : St} (h : Same σ σ1) (r : Root) : σ1.root r = σ.root r := by cases r <;> simp [St.root, h.fr, h.find]
theorem Same.us {σ σ1 : St} (h : Same σ σ1) {τ : Nat} (hu : σ1.us τ = true) : σ.us τ = true := by
  rw [us_iff] at hu ⊢
  rcases hu with q | q | q | q
  · exact .inl q
  · exact .inr (.inl q)
  · exact .inr (.inr (.inl (h.al τ q)))
  · exact .inr (.inr (.inr (h.fz ▸ q)))
theorem readK_nat {s : Slot} {k : Val → Option Home → Option R} {r : R} (h : readK σ s k = some r) :
    ∃ x hm, k x hm = some r ∧ (∀ (R' : Type) (k' : Val → Option Home → Option R'), readK σ s k' = k' x hm) ∧ ∀ σ1, Same σ σ1 → ∀ (R' : Type) (k' : Val → Option Home → Option R') q, readK σ1 s k' = some q → k' x hm = some q := by
  cases s with
  | ptr id r' p t =>
    simp only [readK] at h ⊢
    cases hf : σ.find id with
    | none => simp [hf] at h
    | some y =>
      simp only [hf] at h
      cases hb : Ty.beq y.t r' with
      | false => simp [hb] at h
      | true =>
        rw [hb] at h
        simp only [cond_true] at h
        obtain ⟨x, h1, h2⟩ := getK_nat h
        refine ⟨x, _, h1, fun R' k' => by simp only [hb, cond_true]; exact h2 R' fun x => k' x _, fun σ1 hs R' k' q hq => ?_⟩
        rw [hs.find, hf] at hq
        simp only [hb, cond_true] at hq
        rw [h2 R' fun x => k' x _] at hq
        exact hq
  | eptr hm τ i u p t =>
    simp only [readK, rowK] at h ⊢
    cases hy : σ.root hm.root with
    | none => simp [hy] at h
    | some y =>
      simp only [hy] at h
      obtain ⟨z, h1, h2⟩ := getK_nat h
      obtain ⟨zt, zv, zm⟩ := z
      cases zt with
      | sl e u' =>
        simp only at h1
        cases hc : σ.us (zm.headD 0) && (rootTok σ.ln (zm.headD 0) == rootTok σ.ln τ) && Ty.beq u' u with
        | false => rw [hc] at h1; simp at h1
        | true =>
          rw [hc] at h1
          simp only [cond_true] at h1
          cases hx : (zv : List u'.den)[i]? with
          | none => rw [hx] at h1; simp at h1
          | some x =>
            rw [hx] at h1
            simp only [Option.bind_some] at h1
            obtain ⟨x2, g1, g2⟩ := getK_nat h1
            refine ⟨x2, none, g1, fun R' k' => ?_, fun σ1 hs R' k' q hq => ?_⟩
            · simp only
              rw [h2]
              simp only [hc, cond_true, hx, Option.bind_some]
              exact g2 R' fun x => k' x none
            · rw [hs.root, hy] at hq
              simp only at hq
              rw [h2] at hq
              simp only at hq
              cases hc1 : σ1.us (zm.headD 0) && (rootTok σ1.ln (zm.headD 0) == rootTok σ1.ln τ) && Ty.beq u' u with
              | false => rw [hc1] at hq; simp at hq
              | true =>
                rw [hc1] at hq
                simp only [cond_true, hx, Option.bind_some] at hq
                rw [g2 R' fun x => k' x none] at hq
                exact hq
      | _ => simp at h1
  | rptr τ x =>
    simp only [readK] at h ⊢
    cases hc : σ.us τ && !(τ == 1) with
    | false => rw [hc] at h; simp at h
    | true =>
      rw [hc] at h
      simp only [cond_true] at h
      refine ⟨x, none, h, fun R' k' => by simp, fun σ1 hs R' k' q hq => ?_⟩
      cases hc1 : σ1.us τ && !(τ == 1) with
      | false => rw [hc1] at hq; simp at hq
      | true => rw [hc1] at hq; simpa using hq
  | _ => simp [readK] at h
/-- Further tokens given away. -/
structure Gone (X : Ctx) (w : World) (E : Env) (σ : St) (E1 : Env) (σ1 : St) : Prop where
  K : Keep w w (Fz X E σ w) (Fz X E1 σ1 w) E E1 σ σ1
  S : Same σ σ1
  hd : E1.hd = E.hd
  ad : E1.ad = E.ad
  pin : E1.pin = E.pin
theorem Gone.trans {E1 E2 : Env} {σ1 σ2 : St} (h : Gone X w E σ E1 σ1) (k : Gone X w E1 σ1 E2 σ2) : Gone X w E σ E2 σ2 := ⟨h.K.trans k.K, h.S.trans k.S, k.hd.trans h.hd, k.ad.trans h.ad, k.pin.trans h.pin⟩
/-- One argument, made ready. -/
def Pend (X : Ctx) (w : World) (E : Env) (σ : St) (a : AK) (s : Slot) (u : Value) (v : a.ty.den) (f : Foot) : Prop :=
  match a, v with
  | .ro t, v => f = ⟨[], none⟩ ∧ ∃ ms cs, coe t s = some (v, ms) ∧ Rv w (Fz X E σ w) E σ t v ms cs ∧ u = toVal t cs ∧ ms.length = t.nl
  | .own t, v | .mu t, v => f.place = none ∧ f.rows.length = t.nl ∧ ∃ cs, Ow w (Fz X E σ w) t v cs f.rows ∧ u = toVal t cs
  | .pin t, v => f = ⟨[], none⟩ ∧ ∃ ms b o cs hm, u = .pointer (some ⟨b, o, none⟩) ∧ Rv w (Fz X E σ w) E σ t v ms cs ∧ ms.length = t.nl ∧ At w b o cs ∧
      ∀ σ2, Same σ σ2 → ∀ (R' : Type) (k' : Val → Option Home → Option R') q, readK σ2 s k' = some q → k' ⟨t, v, ms⟩ hm = some q
  | .pio t, v => ∃ b o cs, f.place = some (b, o) ∧ u = .pointer (some ⟨b, o, none⟩) ∧ Ow w (Fz X E σ w) t v cs f.rows ∧ f.rows.length = t.nl ∧ At w b o cs
theorem Pend.gone {E1 : Env} {σ1 : St} {b : AK} {s : Slot} {u : Value} {v : b.ty.den} {f : Foot} (h : Pend X w E σ b s u v f) (g : Gone X w E σ E1 σ1) : Pend X w E1 σ1 b s u v f := by
  cases b with
  | ro t => obtain ⟨h1, ms, cs, h2, h3, h4, h5⟩ := h; exact ⟨h1, ms, cs, h2, g.K.rv h3, h4, h5⟩
  | own t => obtain ⟨h1, h2, cs, h3, h4⟩ := h; exact ⟨h1, h2, cs, h3.monoA (fun b hb => (g.K.A b hb).1), h4⟩
  | mu t => obtain ⟨h1, h2, cs, h3, h4⟩ := h; exact ⟨h1, h2, cs, h3.monoA (fun b hb => (g.K.A b hb).1), h4⟩
  | pin t => obtain ⟨h1, ms, b, o, cs, hm, h2, h3, h4, h5, h6⟩ := h; exact ⟨h1, ms, b, o, cs, hm, h2, g.K.rv h3, h4, h5, fun σ2 hs => h6 σ2 (g.S.trans hs)⟩
  | pio t => obtain ⟨b, o, cs, h1, h2, h3, h4, h5⟩ := h; exact ⟨b, o, cs, h1, h2, h3.monoA (fun b hb => (g.K.A b hb).1), h4, h5⟩
theorem al_ge (hr : RelE X E σ A0 w) : ∀ τ ∈ σ.al, 2 ≤ τ := fun τ ht => (hr.alr τ ht).1
theorem one_ok {b : AK} {s : Slot} {u : Value} {k : b.ty.den → St → Option R} {r : R} (hr : RelE X E σ A0 w) (hs : SlotOk w (Fz X E σ w) E σ s u) (h : oneK b s σ k = some r) :
    ∃ v σ1 E1 f, k v σ1 = some r ∧ RelE X E1 σ1 A0 w ∧ Gone X w E σ E1 σ1 ∧ E1.out.Perm (f.rows.filterMap id ++ E.out) ∧ Pend X w E1 σ1 b s u v f := by
  have hr0 : ∀ (a : Act), a.tmps = A0 → RelE X E σ a.tmps w := fun a ha => ha ▸ hr
  have hra := hr0 ⟨A0, []⟩ rfl
  have g0 : Gone X w E σ E σ := ⟨hr.keep, Same.refl σ, rfl, rfl, rfl⟩
  have take : ∀ {t : Ty} {v : t.den} {ms : List Nat} {cs : List Value} {k : St → Option R}, takeK σ ms k = some r → Rv w (Fz X E σ w) E σ t v ms cs → ms.length = t.nl →
      ∃ σ1 E1, k σ1 = some r ∧ RelE X E1 σ1 A0 w ∧ Gone X w E σ E1 σ1 ∧ E1.out.Perm ((ms.map E.hd).filterMap id ++ E.out) ∧ Ow w (Fz X E1 σ1 w) t v cs (ms.map E.hd) := by
    intro t v ms cs k h hv hl
    obtain ⟨σ1, E1, q1, q2, q3, q4, q5, q6, q7, q8, q9, q10, q11, q12, q13, q14⟩ := take_ok ms hr h
    exact ⟨σ1, E1, q1, q2, ⟨q3, ⟨q9, q10, q11, q12, q13, fun τ ht => (q14 τ ht).1⟩, q6, q7, q8⟩, q5, (ow_of_rv (hr.hd0 1 (by omega)) (al_ge hr) q4 hl hv).monoA (fun b hb => (q3.A b hb).1)⟩
  have readw : ∀ {k : Val → Option Home → Option R}, readK σ s k = some r → ∃ x hm b o cs, k x hm = some r ∧ u = .pointer (some ⟨b, o, none⟩) ∧ Rv w (Fz X E σ w) E σ x.t x.v x.ms cs ∧ x.ms.length = x.t.nl ∧ At w b o cs ∧
      ∀ σ2, Same σ σ2 → ∀ (R' : Type) (k' : Val → Option Home → Option R') q, readK σ2 s k' = some q → k' x hm = some q := by
    intro k h
    obtain ⟨x, hm, h1, h2, h3⟩ := readK_nat h
    obtain ⟨x', hm', b, o, cs, q1, q2, q3, q4, q5⟩ := read_ok hra hs (h2 _ fun x hm => some (x, hm))
    simp only [Option.some.injEq, Prod.mk.injEq] at q1
    obtain ⟨rfl, rfl⟩ := q1
    exact ⟨x', hm', b, o, cs, h1, q2, q3, q4, q5, h3⟩
  cases b with
  | ro t =>
    simp only [oneK] at h
    cases hc : coe t s with
    | none => simp [hc] at h
    | some p =>
      obtain ⟨v, ms⟩ := p
      simp only [hc] at h
      cases hu : allUs σ ms with
      | false => rw [hu] at h; simp at h
      | true =>
        rw [hu] at h
        simp only [cond_true] at h
        obtain ⟨cs, q1, q2, q3⟩ := coe_ok hc hs hr.nt2 hr.no1.1 hr.no1.2
        exact ⟨v, σ, E, ⟨[], none⟩, h, hr, g0, by simp, rfl, ms, cs, hc, q1, q2, q3⟩
  | own t =>
    simp only [oneK] at h
    cases hc : coe t s with
    | none => simp [hc] at h
    | some p =>
      obtain ⟨v, ms⟩ := p
      simp only [hc] at h
      obtain ⟨cs, q1, q2, q3⟩ := coe_ok hc hs hr.nt2 hr.no1.1 hr.no1.2
      obtain ⟨σ1, E1, w1, w2, w3, w4, w5⟩ := take h q1 q3
      exact ⟨v, σ1, E1, ⟨ms.map E.hd, none⟩, w1, w2, w3, w4, rfl, by simpa using q3, cs, w5, q2⟩
  | mu t =>
    simp only [oneK] at h
    cases hc : coe t s with
    | none => simp [hc] at h
    | some p =>
      obtain ⟨v, ms⟩ := p
      simp only [hc] at h
      obtain ⟨cs, q1, q2, q3⟩ := coe_ok hc hs hr.nt2 hr.no1.1 hr.no1.2
      obtain ⟨σ1, E1, w1, w2, w3, w4, w5⟩ := take h q1 q3
      exact ⟨v, σ1, E1, ⟨ms.map E.hd, none⟩, w1, w2, w3, w4, rfl, by simpa using q3, cs, w5, q2⟩
  | pin t =>
    simp only [oneK] at h
    obtain ⟨x, hm, b, o, cs, q1, q2, q3, q4, q5, q6⟩ := readw h
    cases hc : cast? t x with
    | none => simp [hc] at q1
    | some p =>
      obtain ⟨v, ms⟩ := p
      simp only [hc] at q1
      have e := cast?_some hc
      subst e
      cases hu : allUs σ ms with
      | false => rw [hu] at q1; simp at q1
      | true =>
        rw [hu] at q1
        simp only [cond_true] at q1
        exact ⟨v, σ, E, ⟨[], none⟩, q1, hr, g0, by simp, rfl, ms, b, o, cs, hm, q2, q3, q4, q5, q6⟩
  | pio t =>
    have h' : (readK σ s fun x _ => match cast? t x with
        | some (v, ms) => takeK σ ms fun σ => k v σ
        | none => none) = some r := by
      cases s with
      | rptr τ x => simp [oneK] at h
      | _ => exact h
    obtain ⟨x, hm, b, o, cs, q1, q2, q3, q4, q5, q6⟩ := readw h'
    cases hc : cast? t x with
    | none => simp [hc] at q1
    | some p =>
      obtain ⟨v, ms⟩ := p
      simp only [hc] at q1
      have e := cast?_some hc
      subst e
      obtain ⟨σ1, E1, w1, w2, w3, w4, w5⟩ := take q1 q3 q4
      exact ⟨v, σ1, E1, ⟨ms.map E.hd, some (b, o)⟩, w1, w2, w3, w4, b, o, cs, rfl, q2, w5, by simpa using q4, q5⟩
def Pends (X : Ctx) (w : World) (E : Env) (σ : St) : (ks : List AK) → List Slot → List Value → Tup (tysOf ks) → List Foot → Prop
  | [], [], [], _, [] => True
  | b :: r, s :: ss, u :: us, x, f :: fs => Pend X w E σ b s u (Tup.hd x) f ∧ Pends X w E σ r ss us (Tup.tl x) fs
  | _, _, _, _, _ => False
theorem Pends.gone {E1 : Env} {σ1 : St} (g : Gone X w E σ E1 σ1) : ∀ {ks : List AK} {ss : List Slot} {us : List Value} {x : Tup (tysOf ks)} {fs : List Foot}, Pends X w E σ ks ss us x fs → Pends X w E1 σ1 ks ss us x fs := by
  intro ks
  induction ks with
  | nil => intro ss us x fs h; cases ss <;> cases us <;> cases fs <;> exact h
  | cons b r ih =>
    intro ss us x fs h
    cases ss <;> cases us <;> cases fs <;> first | exact h | exact ⟨h.1.gone g, ih h.2⟩
theorem tup_hd {t : Ty} {r : List Ty} (v : t.den) (x : Tup r) : Tup.hd (Tup.cons v x) = v := by cases r <;> rfl
theorem tup_tl {t : Ty} {r : List Ty} (v : t.den) (x : Tup r) : Tup.tl (Tup.cons v x) = x := by cases r <;> rfl
theorem gather_ok : ∀ {ks : List AK} {ss : List Slot} {us : List Value} {E : Env} {σ : St} {k : Tup (tysOf ks) → St → Option R} {r : R}, RelE X E σ A0 w → ss.length = us.length →
    (∀ (i : Nat) s u, ss[i]? = some s → us[i]? = some u → SlotOk w (Fz X E σ w) E σ s u) → gatherK ks ss σ k = some r →
    ∃ x σ1 E1 fs, k x σ1 = some r ∧ RelE X E1 σ1 A0 w ∧ Gone X w E σ E1 σ1 ∧ E1.out.Perm (rowsOf fs ++ E.out) ∧ Pends X w E1 σ1 ks ss us x fs := by
  intro ks
  induction ks with
  | nil =>
    intro ss us E σ k r hr hl hs h
    cases ss with
    | nil =>
      have : us = [] := List.eq_nil_of_length_eq_zero hl.symm
      subst this
      exact ⟨(), σ, E, [], h, hr, ⟨hr.keep, Same.refl σ, rfl, rfl, rfl⟩, by simp [rowsOf], trivial⟩
    | cons s ss => simp [gatherK] at h
  | cons b ks ih =>
    intro ss us E σ k r hr hl hs h
    cases ss with
    | nil => simp [gatherK] at h
    | cons s ss =>
      cases us with
      | nil => simp at hl
      | cons u us =>
        simp only [gatherK] at h
        obtain ⟨v, σ1, E1, f, q1, q2, q3, q4, q5⟩ := one_ok hr (hs 0 s u rfl rfl) h
        obtain ⟨x, σ2, E2, fs, w1, w2, w3, w4, w5⟩ := ih q2 (by simpa using hl) (fun i s' u' hs' hu' => q3.K.slot (hs (i + 1) s' u' hs' hu')) q1
        refine ⟨Tup.cons v x, σ2, E2, f :: fs, w1, w2, q3.trans w3, ?_, ?_, ?_⟩
        · refine w4.trans ?_
          refine (List.Perm.append_left _ q4).trans ?_
          simp only [rowsOf, List.flatMap_cons, ← List.append_assoc]
          exact List.Perm.append_right _ List.perm_append_comm
        · rw [tup_hd]; exact q5.gone w3
        · rw [tup_tl]; exact w5
end
end Go.Proofs.Ytopeacfbcdoljaa.V
