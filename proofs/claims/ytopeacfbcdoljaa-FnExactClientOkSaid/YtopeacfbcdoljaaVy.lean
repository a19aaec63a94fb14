/- A call, part 2: what comes back. -/
import Derived.Test.YtopeacfbcdoljaaVx
namespace Go.Proofs.Ytopeacfbcdoljaa.V
open Go
section
variable {P : Program} {X : Ctx} {E : Env} {σ : St} {A0 : Array Value} {a : Act} {w : World} {o : Oper} {R : Type}
theorem rf_any {w W : World} {A A' : Nat → Prop} : ∀ {t : Ty} {v : t.den} {cs : List Value}, t.nl = 0 → Rf w A t v cs → Rf W A' t v cs := by
  intro t
  induction t with
  | int k => intro v cs _ h; exact h
  | bool => intro v cs _ h; exact h
  | str => intro v cs _ h; exact h
  | unit => intro v cs _ h; exact h
  | pair a b iha ihb =>
    intro v cs hn h; obtain ⟨c1, c2, e, h1, h2⟩ := h
    simp only [Ty.nl] at hn
    exact ⟨c1, c2, e, iha (by omega) h1, ihb (by omega) h2⟩
  | st t ih => intro v cs hn h; exact ih hn h
  | arr n t ih => intro v cs _ h; exact ⟨h.1, h.2.1, fun i x hx => ih h.2.2.2 (h.2.2.1 i x hx), h.2.2.2⟩
  | sl e t _ => intro v cs hn h; simp [Ty.nl] at hn
theorem Ow.move {w W : World} {A A' : Nat → Prop} : ∀ {t : Ty} {v : t.den} {cs : List Value} {bs : List (Option Nat)}, bs.length = t.nl → (∀ b, some b ∈ bs → W.heap[b]? = w.heap[b]?) → (t.deep = false ∨ ∀ b, A b → A' b ∧ W.heap[b]? = w.heap[b]?) →
    Ow w A t v cs bs → Ow W A' t v cs bs := by
  intro t
  induction t with
  | int k => intro v cs bs _ _ _ h; exact h
  | bool => intro v cs bs _ _ _ h; exact h
  | str => intro v cs bs _ _ _ h; exact h
  | unit => intro v cs bs _ _ _ h; exact h
  | pair a b iha ihb =>
    intro v cs bs hl hb hA h; obtain ⟨c1, c2, e, h1, h2⟩ := h
    simp only [Ty.nl] at hl
    have hA1 : a.deep = false ∨ ∀ b, A b → A' b ∧ W.heap[b]? = w.heap[b]? := hA.imp (fun h => by simp only [Ty.deep, Bool.or_eq_false_iff] at h; exact h.1) id
    have hA2 : b.deep = false ∨ ∀ b, A b → A' b ∧ W.heap[b]? = w.heap[b]? := hA.imp (fun h => by simp only [Ty.deep, Bool.or_eq_false_iff] at h; exact h.2) id
    exact ⟨c1, c2, e, iha (by simp; omega) (fun x hx => hb x (List.mem_of_mem_take hx)) hA1 h1, ihb (by simp; omega) (fun x hx => hb x (List.mem_of_mem_drop hx)) hA2 h2⟩
  | st t ih => intro v cs bs hl hb hA h; exact ih hl hb hA h
  | arr n t _ => intro v cs bs _ _ _ h; exact ⟨h.1, h.2.1, fun i x hx => rf_any h.2.2.2 (h.2.2.1 i x hx), h.2.2.2⟩
  | sl e t _ =>
    intro v cs bs hl hb hA h
    obtain ⟨cap, css, e1, h1, h2⟩ := h
    match bs, hl with
    | [g], _ =>
      refine ⟨cap, css, e1, ⟨h1.1, ?_⟩, fun i x hx => ?_⟩
      · rcases h1.2 with h | ⟨b, cap', cur, q1, q2, q3, q4⟩
        · exact .inl h
        · refine .inr ⟨b, cap', cur, q1, q2, ?_, q4⟩
          have hg : g = some b := by
            cases g with
            | none => simp at q1
            | some b' => simp at q1; rw [q1.1]
          rw [hb b (by rw [hg]; simp)]
          exact q3
      · rcases hA with hA | hA
        · simp only [Ty.deep, Bool.not_eq_false', beq_iff_eq] at hA
          exact rf_any hA (h2 i x hx)
        · exact (h2 i x hx).mono (fun b hb => (hA b hb).1) (fun b hb => (hA b hb).2)
/-- New tokens for what came back. -/
theorem adopt_valP (hr : RelE X E σ A0 w) {t : Ty} {v : t.den} {cs : List Value} {bs : List (Option Nat)} {l : List Nat} (ho : E.out = bs.filterMap id ++ l) (hl : bs.length = t.nl) (hv : Ow w (Fz X E σ w) t v cs bs) :
    ∃ E', RelE X E' (σ.more t.nl) A0 w ∧ Keep w w (Fz X E σ w) (Fz X E' (σ.more t.nl) w) E E' σ (σ.more t.nl) ∧ E'.out = l ∧ E'.pin = E.pin ∧ E'.ad = E.ad ∧ Rv w (Fz X E' (σ.more t.nl) w) E' (σ.more t.nl) t v (σ.new t.nl) cs ∧ (σ.new t.nl).length = t.nl := by
  obtain ⟨E', q1, q2, q3, q4, q5, q6, q7, q8, q9, q10, q11⟩ := adopt_ok bs hr ho
  rw [hl] at q1 q2 q6 q7 q11
  refine ⟨E', q1, q2, q3, q5, q4, rv_of_ow (bs := bs) (fun i τ hτ => ?_) (by simp [St.new]) hl (hv.monoA (fun b hb => (q2.A b hb).1)), by simp [St.new]⟩
  have hi : i < t.nl := by have := (List.getElem?_eq_some_iff.1 hτ).1; simpa [St.new] using this
  have hτ' : τ = σ.nt + i := by
    simp only [St.new] at hτ
    rw [List.getElem?_range' (by omega)] at hτ
    simp at hτ
    omega
  subst hτ'
  have hb : bs[i]? = some bs[i] := List.getElem?_eq_getElem (by omega)
  obtain ⟨k1, k2⟩ := q11 i _ hb
  obtain ⟨k3, k4, k5⟩ := q1.alr _ k2
  exact ⟨k3, k4, k5, by rw [hb, k1]⟩
theorem adopt_val (hr : RelE X E σ A0 w) {t : Ty} {v : t.den} {cs : List Value} {bs : List (Option Nat)} {l : List Nat} (ho : E.out = bs.filterMap id ++ l) (hl : bs.length = t.nl) (hv : Ow w (Fz X E σ w) t v cs bs) :
    ∃ E', RelE X E' (σ.more t.nl) A0 w ∧ Keep w w (Fz X E σ w) (Fz X E' (σ.more t.nl) w) E E' σ (σ.more t.nl) ∧ E'.out = l ∧ Rv w (Fz X E' (σ.more t.nl) w) E' (σ.more t.nl) t v (σ.new t.nl) cs ∧ (σ.new t.nl).length = t.nl := by
  obtain ⟨E', q1, q2, q3, _, _, q4, q5⟩ := adopt_valP hr ho hl hv
  exact ⟨E', q1, q2, q3, q4, q5⟩
/-- Of a place, its cells alone have turned. -/
def PlacesOk (w w' : World) : List AK → List Foot → Prop
  | a :: r, f :: fs => (∀ b o, f.place = some (b, o) → ∃ c c' e, w.heap[b]? = some (.cells c e (0, 0)) ∧ w'.heap[b]? = some (.cells c' e (0, 0)) ∧ c'.size = c.size ∧ ∀ j, ¬ (o ≤ j ∧ j < o + a.ty.size) → c'[j]? = c[j]?) ∧ PlacesOk w w' r fs
  | _, _ => True
def PlaceArg : List AK → List Value → List Foot → Prop
  | a :: r, u :: us, f :: fs => (match a with | .pio _ => ∃ b o, f.place = some (b, o) ∧ u = .pointer (some ⟨b, o, none⟩) | _ => f.place = none) ∧ PlaceArg r us fs
  | _, _, _ => True
def NoMu : List AK → Prop
  | [] => True
  | a :: r => (match a with | .mu _ => False | _ => True) ∧ NoMu r
theorem flatB_cons (b : List (Option Nat)) (r : List (List (Option Nat))) : flatB (b :: r) = b.filterMap id ++ flatB r := rfl
theorem putBack_ok {w w' : World} {AF : Nat → Prop} {sh : Bool} : ∀ {ks : List AK} {ss : List Slot} {us : List Value} {fs : List Foot} {bo : List (List (Option Nat))} {y : Tup (outsOf ks)} {E : Env} {σ : St} {W : World} {l : List Nat} {k : St → Option R} {r : R},
    NoMu ks → RelE X E σ a.tmps W → E.out = flatB bo ++ l → ss.length = us.length → (∀ (i : Nat) s u, ss[i]? = some s → us[i]? = some u → SlotOk W (Fz X E σ W) E σ s u) →
    OutsOk w' AF ks y us fs bo → PlaceArg ks us fs → PlacesOk w w' ks fs → ((placesOf fs).map (·.1)).Nodup → (∃ H, W = { w' with heap := H }) →
    (∀ b, b ∉ (placesOf fs).map (·.1) → W.heap[b]? = w'.heap[b]?) → (∀ p ∈ placesOf fs, W.heap[p.1]? = w.heap[p.1]?) → (∀ b ∈ flatB bo, b ∉ (placesOf fs).map (·.1)) →
    (sharesO ks = false ∨ ∀ b, AF b → Fz X E σ W b ∧ b ∉ (placesOf fs).map (·.1)) → putBackK ks ss y σ k = some r →
    ∃ σ' E', k σ' = some r ∧ RelE X E' σ' a.tmps w' ∧ E'.out = l ∧ Keep W w' (Fz X E σ W) (Fz X E' σ' w') E E' σ σ' := by
  intro ks
  induction ks with
  | nil =>
    intro ss us fs bo y E σ W l k r _ hr ho hln hs hout hpa hpl hnd hH hsame hold hrow hA h
    have e1 : us = [] ∧ fs = [] ∧ bo = [] := by
      cases us <;> cases fs <;> cases bo <;> first | exact ⟨rfl, rfl, rfl⟩ | exact hout.elim
    obtain ⟨rfl, rfl, rfl⟩ := e1
    have e2 : ss = [] := List.eq_nil_of_length_eq_zero hln
    subst e2
    have hW : W = w' := by
      obtain ⟨H, rfl⟩ := hH
      have : H = w'.heap := by
        apply Array.ext_getElem?
        intro i
        exact hsame i (by simp [placesOf])
      rw [this]
    subst hW
    exact ⟨σ, E, by simpa [putBackK] using h, hr, by simpa [flatB] using ho, hr.keep⟩
  | cons b ks ih =>
    intro ss us fs bo y E σ W l k r hmu hr ho hln hs hout hpa hpl hnd hH hsame hold hrow hA h
    cases us with
    | nil => exact hout.elim
    | cons u us =>
      cases ss with
      | nil => simp at hln
      | cons s ss =>
        cases fs with
        | nil => exact hout.elim
        | cons f fs =>
          cases bo with
          | nil => exact hout.elim
          | cons bs bo =>
            obtain ⟨ho1, ho2⟩ := hout
            simp only [putBackK] at h
            rw [flatB_cons] at ho hrow
            have hs' : ∀ (i : Nat) s u, ss[i]? = some s → us[i]? = some u → SlotOk W (Fz X E σ W) E σ s u := fun i s' u' h1 h2 => hs (i + 1) s' u' h1 h2
            cases b with
            | mu t => exact hmu.1.elim
            | pio t =>
              obtain ⟨hbl, b, q, cs, hu, hv, hat⟩ := ho1
              obtain ⟨⟨b1, q1, hp1, hp2⟩, hpa'⟩ := hpa
              rw [hu] at hp2
              simp only [Value.pointer.injEq, Option.some.injEq, Addr.mk.injEq, and_true] at hp2
              obtain ⟨rfl, rfl⟩ := hp2
              have hpls : placesOf (f :: fs) = (b, q) :: placesOf fs := by simp [placesOf, hp1]
              rw [hpls] at hnd hsame hold hrow hA
              simp only [List.map_cons, List.mem_cons, not_or, List.nodup_cons] at hnd hsame hold hrow hA
              have hdeep : t.deep = false ∨ ∀ b, AF b → Fz X E σ W b ∧ W.heap[b]? = w'.heap[b]? := by
                rcases hA with hA | hA
                · left
                  simp only [sharesO, AK.outs, List.any_cons, List.any_nil, Bool.or_false, Bool.or_eq_false_iff] at hA
                  exact hA.1
                · exact .inr fun b hb => ⟨(hA b hb).1, hsame b (hA b hb).2⟩
              have hv' := hv.move (W := W) (A' := Fz X E σ W) hbl (fun x hx => hsame x (hrow x (List.mem_append_left _ (List.mem_filterMap.2 ⟨some x, hx, rfl⟩)))) hdeep
              rw [List.append_assoc] at ho
              have h' : writeK (σ.more t.nl) s ⟨t, (Tup.fst (a := (AK.pio t).outs) (b := outsOf ks) y : t.den), σ.new t.nl⟩ (fun σ => putBackK ks ss (Tup.snd (a := (AK.pio t).outs) (b := outsOf ks) y) σ k) = some r := h
              obtain ⟨E1, r1, K1, r2, r3, r4⟩ := adopt_val hr ho hbl hv'
              obtain ⟨b', f', cur, e, σ2, E2, g1, g2, g3, g4, g5, g6, g7⟩ := write_ok r1 (K1.slot (hs 0 s u rfl rfl)) (x := ⟨t, (Tup.fst (a := (AK.pio t).outs) (b := outsOf ks) y : t.den), σ.new t.nl⟩) r3 r4 h'
              rw [hu] at g1
              simp only [Value.pointer.injEq, Option.some.injEq, Addr.mk.injEq, and_true] at g1
              obtain ⟨rfl, rfl⟩ := g1
              obtain ⟨c, c', e', k1, k2, k3, k4⟩ := hpl.1 b q hp1
              have hWb := hold (b, q) (.inl rfl)
              dsimp only at hWb
              rw [k1, g2] at hWb
              simp only [Option.some.injEq, Obj.cells.injEq, and_true] at hWb
              obtain ⟨rfl, rfl⟩ := hWb
              have hlen : cs.length = t.size := hv.length
              have hsp : splice cur q cs = c' := by
                apply Array.ext_getElem?
                intro j
                rw [splice_get g3]
                by_cases hj1 : j < q
                · rw [if_pos hj1, k4 j (by omega)]
                · rw [if_neg hj1]
                  by_cases hj2 : j < q + cs.length
                  · rw [if_pos hj2]
                    have hj3 : j - q < cs.length := by omega
                    have := hat (j - q) _ (List.getElem?_eq_getElem hj3)
                    rw [cell_of_row w' b _ c' e _ k2] at this
                    rw [List.getElem?_eq_getElem hj3, ← this]
                    congr 1; omega
                  · rw [if_neg hj2, k4 j (by show ¬ (q ≤ j ∧ j < q + t.size); omega)]
              have hnew : (W.setRow b (splice cur q cs)).heap[b]? = w'.heap[b]? := by rw [setRow_heap W b cur _ e _ g2, hsp, k2]
              have hsame2 : ∀ b2, b2 ∉ (placesOf fs).map (·.1) → (W.setRow b (splice cur q cs)).heap[b2]? = w'.heap[b2]? := by
                intro b2 hb2
                by_cases hb : b2 = b
                · subst hb; exact hnew
                · rw [setRow_other W _ _ _ hb]; exact hsame b2 ⟨hb, hb2⟩
              obtain ⟨σ', E', z1, z2, z3, z4⟩ := ih hmu.2 g5 (g7.trans r2) (by simpa using hln) (fun i s' u' h1 h2 => (K1.trans g6).slot (hs' i s' u' h1 h2)) ho2 hpa' hpl.2 hnd.2
                (by obtain ⟨H, rfl⟩ := hH; exact ⟨_, rfl⟩) hsame2 (fun p hp => by rw [setRow_other W _ _ _ (fun he => hnd.1 (List.mem_map.2 ⟨p, hp, he⟩))]; exact hold p (.inr hp))
                (fun x hx => (hrow x (List.mem_append_right _ hx)).2)
                (by
                  rcases hA with hA | hA
                  · left
                    simp only [sharesO, Bool.or_eq_false_iff] at hA
                    exact hA.2
                  · exact .inr fun x hx => ⟨((K1.trans g6).A x (hA x hx).1).1, (hA x hx).2.2⟩) g4
              exact ⟨σ', E', z1, z2, z3, (K1.trans g6).trans z4⟩
            | ro t =>
              have hb0 : bs = [] := ho1
              subst hb0
              have hpls : placesOf (f :: fs) = placesOf fs := by simp [placesOf, show f.place = none from hpa.1]
              rw [hpls] at hnd hsame hold hrow hA
              exact ih hmu.2 hr (by simpa using ho) (by simpa using hln) hs' ho2 hpa.2 hpl.2 hnd hH hsame hold (by simpa using hrow) hA h
            | own t =>
              have hb0 : bs = [] := ho1
              subst hb0
              have hpls : placesOf (f :: fs) = placesOf fs := by simp [placesOf, show f.place = none from hpa.1]
              rw [hpls] at hnd hsame hold hrow hA
              exact ih hmu.2 hr (by simpa using ho) (by simpa using hln) hs' ho2 hpa.2 hpl.2 hnd hH hsame hold (by simpa using hrow) hA h
            | pin t =>
              have hb0 : bs = [] := ho1
              subst hb0
              have hpls : placesOf (f :: fs) = placesOf fs := by simp [placesOf, show f.place = none from hpa.1]
              rw [hpls] at hnd hsame hold hrow hA
              exact ih hmu.2 hr (by simpa using ho) (by simpa using hln) hs' ho2 hpa.2 hpl.2 hnd hH hsame hold (by simpa using hrow) hA h
end
end Go.Proofs.Ytopeacfbcdoljaa.V
