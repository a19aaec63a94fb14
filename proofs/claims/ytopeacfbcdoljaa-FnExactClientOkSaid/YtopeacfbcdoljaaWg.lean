/- How code begins. -/
import Derived.Test.YtopeacfbcdoljaaWf
namespace Go.Proofs.Ytopeacfbcdoljaa.V
open Go
section
variable {P : Program} {X : Ctx} {E : Env} {σ : St} {A0 : Array Value} {a : Act} {w : World} {R : Type}
/-- A place that was lent becomes a box. -/
theorem RelE.takeBox (hr : RelE X E σ A0 w) {t : Ty} {v : t.den} {ms : List Nat} {cs : List Value} {b o : Nat} {c : Array Value} {e : TypeId} (hnok : ¬ X.ok b) (hv : Rv w (Fz X E σ w) E σ t v ms cs) (hms : ms.length = t.nl)
    (hb : w.heap[b]? = some (.cells c e (0, 0))) (hsz : o + cs.length ≤ c.size) (hat : At w b o cs) (hM : ∀ j, o ≤ j → j < o + t.size → X.M b j) (hpin : ¬ E.pin b) :
    ∃ X' E', X'.w0 = X.w0 ∧ X'.M = X.M ∧ X'.fps = X.fps ∧ (∀ b', X'.ok b' ↔ X.ok b' ∨ b' = b) ∧ (∀ p, p ∈ X.pbx → p ∈ X'.pbx) ∧ (σ.nt, (b, o), t.size) ∈ X'.pbx ∧ E'.out = E.out ∧ E'.pin = E.pin ∧
      RelE X' E' { σ with bx := ⟨σ.nt, ⟨t, v, ms⟩⟩ :: σ.bx, nt := σ.nt + 1 } A0 w ∧
      Keep w w (Fz X E σ w) (Fz X' E' { σ with bx := ⟨σ.nt, ⟨t, v, ms⟩⟩ :: σ.bx, nt := σ.nt + 1 } w) E E' σ { σ with bx := ⟨σ.nt, ⟨t, v, ms⟩⟩ :: σ.bx, nt := σ.nt + 1 } ∧
      SlotOk w (Fz X' E' { σ with bx := ⟨σ.nt, ⟨t, v, ms⟩⟩ :: σ.bx, nt := σ.nt + 1 } w) E' { σ with bx := ⟨σ.nt, ⟨t, v, ms⟩⟩ :: σ.bx, nt := σ.nt + 1 } (.ptr σ.nt t [] t) (.pointer (some ⟨b, o, none⟩)) := by
  let E' : Env := ⟨fun i => if i = σ.nt then (b, o) else E.ad i, E.hd, E.out, E.pin⟩
  let X' : Ctx := { X with ok := fun b' => X.ok b' ∨ b' = b, pbx := (σ.nt, (b, o), t.size) :: X.pbx }
  let σ' : St := { σ with bx := ⟨σ.nt, ⟨t, v, ms⟩⟩ :: σ.bx, nt := σ.nt + 1 }
  have hlt : b < w.heap.size := (Array.getElem?_eq_some_iff.1 hb).1
  have hE : ∀ b ∈ σ.bx, E'.ad b.id = E.ad b.id := fun b hb => if_neg (Nat.ne_of_lt (hr.idlt b hb))
  have hEn : E'.ad σ.nt = (b, o) := if_pos rfl
  have hown : owned E' σ' = b :: owned E σ := by
    show (E'.ad σ.nt).1 :: (σ.bx.map (fun b => (E'.ad b.id).1)) ++ _ = _
    rw [hEn, List.map_congr_left (fun b hb => by rw [hE b hb])]
    rfl
  have hn : b ∉ owned E σ := fun h => hnok (hr.lt _ h).2
  have K : Keep w w (Fz X E σ w) (Fz X' E' σ' w) E E' σ σ' :=
    ⟨fun b' hb' => ⟨⟨.inl hb'.1, hb'.2.1, by
        rw [hown]; intro h
        rcases List.mem_cons.1 h with h | h
        · exact hnok (h ▸ hb'.1)
        · exact hb'.2.2 h⟩, rfl⟩,
      Nat.le_succ _, fun _ _ => rfl, fun i hi => if_neg (Nat.ne_of_lt hi), fun _ _ h => .inl h,
      fun τ _ hτ => ⟨hτ, fun b hb => rfl⟩, hr.ge, fun b hb => ⟨hb, rfl⟩⟩
  refine ⟨X', E', rfl, rfl, rfl, fun _ => Iff.rfl, fun p hp => List.mem_cons_of_mem _ hp, List.mem_cons_self, rfl, rfl, { hr with
    slot := fun i s u hs hu => K.slot (hr.slot i s u hs hu)
    bx := fun q hq => ?_
    nodup := by rw [hown]; exact List.nodup_cons.2 ⟨hn, hr.nodup⟩
    lt := fun b' hb' => ?_
    ids := ?_
    idlt := fun q hq => ?_
    alr := fun τ hτ => ⟨(hr.alr τ hτ).1, Nat.lt_succ_of_lt (hr.alr τ hτ).2.1, (hr.alr τ hτ).2.2⟩
    fzr := fun τ hτ => ⟨(hr.fzr τ hτ).1, Nat.lt_succ_of_lt (hr.fzr τ hτ).2⟩
    nt2 := Nat.le_succ_of_le hr.nt2
    new := fun b' hb' => .inl (hr.new b' hb')
    lnlt := fun p hp => ⟨Nat.lt_succ_of_lt (hr.lnlt p hp).1, Nat.lt_succ_of_lt (hr.lnlt p hp).2⟩
    srcb := fun q hq => ?_
    pbm := fun p hp j h1 h2 => ?_
    adx := fun p hp => ?_
    hdx := fun e he => ⟨Nat.lt_succ_of_lt (hr.hdx e he).1, (hr.hdx e he).2⟩
    pinlt := fun b' hb' => ⟨(hr.pinlt b' hb').1, by
      rw [hown]; intro h
      rcases List.mem_cons.1 h with h | h
      · exact hpin (h ▸ hb')
      · exact (hr.pinlt b' hb').2 h⟩ }, K, Nat.lt_succ_self _, b, o, rfl, by rw [hEn]; simp [addr]⟩
  · rcases List.mem_cons.1 hq with rfl | hq
    · exact ⟨cs, c, e, K.rv hv, hms, by rw [hEn]; exact hb, by rw [hEn]; exact hsz, by rw [hEn]; exact hat⟩
    · exact K.bx (hr.bx q hq) (hr.idlt q hq) rfl
  · rw [hown] at hb'
    rcases List.mem_cons.1 hb' with rfl | hb'
    · exact ⟨hlt, .inr rfl⟩
    · exact ⟨(hr.lt b' hb').1, .inl (hr.lt b' hb').2⟩
  · show (σ.nt :: σ.bx.map (·.id)).Nodup
    refine List.nodup_cons.2 ⟨fun h => ?_, hr.ids⟩
    obtain ⟨b, hb, he⟩ := List.mem_map.1 h
    have := hr.idlt b hb
    omega
  · rcases List.mem_cons.1 hq with rfl | hq
    · exact Nat.lt_succ_self _
    · exact Nat.lt_succ_of_lt (hr.idlt q hq)
  · rcases List.mem_cons.1 hq with rfl | hq
    · left; rw [hEn]; exact List.mem_cons_self
    · rw [hE q hq]
      exact (hr.srcb q hq).imp (fun h => List.mem_cons_of_mem _ h) id
  · rcases List.mem_cons.1 hp with rfl | hp
    · exact hM j h1 h2
    · exact hr.pbm p hp j h1 h2
  · rcases List.mem_cons.1 hp with rfl | hp
    · exact ⟨Nat.lt_succ_self _, hEn⟩
    · exact ⟨Nat.lt_succ_of_lt (hr.adx p hp).1, (if_neg (Nat.ne_of_lt (hr.adx p hp).1)).trans (hr.adx p hp).2⟩
theorem HomesOk.mono {X' : Ctx} (hp : ∀ p, p ∈ X.pbx → p ∈ X'.pbx) : ∀ {ks : List AK} {us : List Value} {fs : List Foot} {hs : List Slot}, HomesOk X ks us fs hs → HomesOk X' ks us fs hs := by
  intro ks
  induction ks with
  | nil => intro us fs hs h; cases us <;> cases fs <;> cases hs <;> first | exact h | exact h.elim
  | cons k ks ih =>
    intro us fs hs h
    cases us with
    | nil => cases fs <;> cases hs <;> exact h.elim
    | cons u us => cases fs with
      | nil => cases hs <;> exact h.elim
      | cons f fs => cases hs with
        | nil => exact h.elim
        | cons hm hs =>
          refine ⟨?_, ih h.2⟩
          have h1 := h.1
          cases k with
          | pio t => obtain ⟨id, b, o, sz, e1, e2, e3, e4⟩ := h1; exact ⟨id, b, o, sz, e1, e2, e3, hp _ e4⟩
          | _ => exact h1
theorem set_same {d : Nat} {u : Value} (h : A0[d]? = some u) : A0.setIfInBounds d u = A0 := by
  apply Array.ext_getElem?
  intro i
  by_cases hi : d = i
  · subst hi
    rw [Array.getElem?_setIfInBounds_self_of_lt (Array.getElem?_eq_some_iff.1 h).1, h]
  · rw [Array.getElem?_setIfInBounds_ne hi]
theorem init_ok {A pin : Nat → Prop} : ∀ {ks : List AK} {ds : List Nat} {x : Tup (tysOf ks)} {us : List Value} {fs : List Foot} {X : Ctx} {E : Env} {i : Ini}, RelE X E i.σ A0 w → E.out = rowsOf fs → E.pin = pin → ArgsOk w A pin ks x us fs →
    (∀ b, A b → Fz X E i.σ w b) → (∀ p ∈ placesOf fs, ¬ X.ok p.1 ∧ ¬ pin p.1) → ((placesOf fs).map (·.1)).Nodup → (∀ b o, footM ks fs b o → X.M b o) → ds.map (fun d => A0[d]?) = us.map some →
    ∃ X' E' hs, X'.w0 = X.w0 ∧ X'.M = X.M ∧ X'.fps = X.fps ∧ (∀ b', X'.ok b' → X.ok b' ∨ b' ∈ (placesOf fs).map (·.1)) ∧ (∀ p, p ∈ X.pbx → p ∈ X'.pbx) ∧ RelE X' E' (initL ks ds x i).σ A0 w ∧ (initL ks ds x i).homes = i.homes ++ hs ∧ HomesOk X' ks us fs hs := by
  intro ks
  induction ks with
  | nil =>
    intro ds x us fs X E i hr ho hp hargs hA hpl hnd hM hds
    cases us with
    | cons u us => cases fs <;> exact hargs.elim
    | nil =>
      cases fs with
      | cons f fs => exact hargs.elim
      | nil => exact ⟨X, E, [], rfl, rfl, rfl, fun _ h => .inl h, fun _ h => h, hr, by simp [initL], trivial⟩
  | cons k ks ih =>
    intro ds x us fs X E i hr ho hp hargs hA hpl hnd hM hds
    cases us with
    | nil => cases fs <;> exact hargs.elim
    | cons u us =>
      cases fs with
      | nil => exact hargs.elim
      | cons f fs =>
        cases ds with
        | nil => simp at hds
        | cons d ds =>
          simp only [List.map_cons, List.cons.injEq] at hds
          obtain ⟨hd, hds⟩ := hds
          obtain ⟨h1, h2⟩ := hargs
          have hro : E.out = f.rows.filterMap id ++ rowsOf fs := ho
          have hMr : ∀ b o, footM ks fs b o → X.M b o := fun b o h => hM b o (.inr (.inr h))
          have hnt : 0 < i.σ.nt := by have := hr.nt2; omega
          have hz : 0 ∉ i.σ.al := fun h => by have := (hr.alr 0 h).1; omega
          -- the rest, behind one argument that has no place
          have rest : ∀ {E1 : Env} {i1 : Ini} {hm : Slot}, f.place = none → RelE X E1 i1.σ A0 w → E1.out = rowsOf fs → E1.pin = pin → (∀ b, A b → Fz X E1 i1.σ w b) → i1.homes = i.homes ++ [hm] → HomeOk X k u f hm → (∀ {X' : Ctx}, HomeOk X' k u f hm) →
              ∃ X' E' hs, X'.w0 = X.w0 ∧ X'.M = X.M ∧ X'.fps = X.fps ∧ (∀ b', X'.ok b' → X.ok b' ∨ b' ∈ (placesOf (f :: fs)).map (·.1)) ∧ (∀ p, p ∈ X.pbx → p ∈ X'.pbx) ∧ RelE X' E' (initL ks ds (Tup.tl x) i1).σ A0 w ∧ (initL ks ds (Tup.tl x) i1).homes = i.homes ++ hs ∧ HomesOk X' (k :: ks) (u :: us) (f :: fs) hs := by
            intro E1 i1 hm hf hr1 ho1 hp1 hA1 hh _ hho
            have e : placesOf (f :: fs) = placesOf fs := by simp [placesOf, hf]
            rw [e] at hpl hnd ⊢
            obtain ⟨X', E', hs, q1, q2, q3, q4, q5, q6, q7, q8⟩ := ih (x := Tup.tl x) hr1 ho1 hp1 h2 hA1 hpl hnd hMr hds
            exact ⟨X', E', hm :: hs, q1, q2, q3, q4, q5, q6, by rw [q7, hh]; simp, hho, q8⟩
          cases k with
          | ro t =>
            obtain ⟨⟨cs, g1, g2⟩, hf⟩ := h1
            have g1' : Rf w A t (Tup.hd x) cs := g1
            subst hf
            have hs : SlotOk w (Fz X E i.σ w) E i.σ (.val ⟨t, Tup.hd x, List.replicate t.nl 0⟩ none) u := ⟨cs, rv_of_rf hnt hz (g1'.mono hA (fun _ _ => rfl)), g2, by simp⟩
            have hr1 := hr.set d hs
            rw [set_same hd] at hr1
            exact rest (hm := .no) rfl hr1 (by simpa using hro) hp (fun b hb => hA b hb) rfl rfl rfl
          | pin t =>
            obtain ⟨⟨b, o, cs, g1, g2, g3, g4⟩, hf⟩ := h1
            have g2' : Rf w A t (Tup.hd x) cs := g2
            subst hf
            have hs : SlotOk w (Fz X E i.σ w) E i.σ (.rptr 0 ⟨t, Tup.hd x, List.replicate t.nl 0⟩) u :=
              ⟨hnt, b, o, g1, fun _ => ⟨cs, rv_of_rf hnt hz (g2'.mono hA (fun _ _ => rfl)), by simp, g3, fun h => absurd h hz, fun _ => .inr (by rw [hp]; exact g4)⟩⟩
            have hr1 := hr.set d hs
            rw [set_same hd] at hr1
            exact rest (hm := .no) rfl hr1 (by simpa using hro) hp (fun b hb => hA b hb) rfl rfl rfl
          | own t =>
            obtain ⟨⟨cs, g1, g2⟩, g3, g4⟩ := h1
            have g1' : Ow w A t (Tup.hd x) cs f.rows := g1
            obtain ⟨E1, r1, K1, r2, r5, _, r3, r4⟩ := adopt_valP hr hro g3 (g1'.monoA hA)
            have hs : SlotOk w (Fz X E1 (i.σ.more t.nl) w) E1 (i.σ.more t.nl) (.val ⟨t, Tup.hd x, i.σ.new t.nl⟩ none) u := ⟨cs, r3, g2, r4⟩
            have hr1 := r1.set d hs
            rw [set_same hd] at hr1
            exact rest (i1 := initOne (.own t) d i (Tup.hd x)) (hm := .no) g4 hr1 r2 (r5.trans hp) (fun b hb => (K1.A b (hA b hb)).1) rfl g4 g4
          | mu t =>
            obtain ⟨⟨cs, g1, g2⟩, g3, g4⟩ := h1
            have g1' : Ow w A t (Tup.hd x) cs f.rows := g1
            obtain ⟨E1, r1, K1, r2, r5, _, r3, r4⟩ := adopt_valP hr hro g3 (g1'.monoA hA)
            have hs : SlotOk w (Fz X E1 (i.σ.more t.nl) w) E1 (i.σ.more t.nl) (.val ⟨t, Tup.hd x, i.σ.new t.nl⟩ none) u := ⟨cs, r3, g2, r4⟩
            have hr1 := r1.set d hs
            rw [set_same hd] at hr1
            exact rest (i1 := initOne (.mu t) d i (Tup.hd x)) (hm := .no) g4 hr1 r2 (r5.trans hp) (fun b hb => (K1.A b (hA b hb)).1) rfl g4 g4
          | pio t =>
            obtain ⟨b, o, cs, c, e, g1, g2, g3, g4, g5, g6, g7⟩ := h1
            have g2' : Ow w A t (Tup.hd x) cs f.rows := g2
            have e0 : placesOf (f :: fs) = (b, o) :: placesOf fs := by simp [placesOf, g7]
            rw [e0] at hpl hnd
            simp only [List.map_cons, List.nodup_cons] at hnd
            obtain ⟨hnok, hnpin⟩ := hpl (b, o) List.mem_cons_self
            obtain ⟨E1, r1, K1, r2, r5, _, r3, r4⟩ := adopt_valP hr hro g3 (g2'.monoA hA)
            obtain ⟨X2, E2, z1, z2, z3, z4, z5, z6, z7, z8, z9, z10, z11⟩ := r1.takeBox (b := b) (o := o) hnok r3 r4 g5 g6 g4 (fun j h1 h2 => hM b j (.inr (.inl ⟨(b, o), g7, rfl, h1, h2⟩))) (by rw [r5, hp]; exact hnpin)
            have hr1 := z9.set d z11
            rw [← g1, set_same hd] at hr1
            obtain ⟨X', E', hs, q1, q2, q3, q4, q5, q6, q7, q8⟩ := ih (i := initOne (.pio t) d i (Tup.hd x)) (x := Tup.tl x) hr1 (z7.trans r2) (z8.trans (r5.trans hp)) h2 (fun b' hb' => have g := (z10.A b' (K1.A b' (hA b' hb')).1).1; ⟨g.1, g.2.1, g.2.2⟩)
              (fun p hp' => ⟨fun h => by
                rcases (z4 p.1).1 h with h | h
                · exact (hpl p (List.mem_cons_of_mem _ hp')).1 h
                · exact hnd.1 (h ▸ List.mem_map.2 ⟨p, hp', rfl⟩), (hpl p (List.mem_cons_of_mem _ hp')).2⟩) hnd.2 (fun b' o' h => by rw [z2]; exact hMr b' o' h) hds
            refine ⟨X', E', .ptr (i.σ.more t.nl).nt t [] t :: hs, q1.trans z1, q2.trans z2, q3.trans z3, fun b' hb' => ?_, fun p hp' => q5 p (z5 p hp'), q6, by
              rw [show initL (.pio t :: ks) (d :: ds) x i = initL ks ds (Tup.tl x) (initOne (.pio t) d i (Tup.hd x)) from rfl, q7]
              simp [initOne], ⟨_, b, o, _, rfl, g1, g7, q5 _ z6⟩, q8⟩
            rw [e0]
            rcases q4 b' hb' with h | h
            · rcases (z4 b').1 h with h | h
              · exact .inl h
              · exact .inr (by rw [h]; exact List.mem_cons_self)
            · exact .inr (List.mem_cons_of_mem _ h)
theorem row_foot {A pin : Nat → Prop} : ∀ {ks : List AK} {x : Tup (tysOf ks)} {us : List Value} {fs : List Foot} {b : Nat}, ArgsOk w A pin ks x us fs → b ∈ rowsOf fs → ∀ o, footM ks fs b o := by
  intro ks
  induction ks with
  | nil => intro x us fs b h hb; cases us <;> cases fs <;> first | exact h.elim | (simp [rowsOf] at hb)
  | cons k ks ih =>
    intro x us fs b h hb o
    cases us with
    | nil => cases fs <;> exact h.elim
    | cons u us => cases fs with
      | nil => exact h.elim
      | cons f fs =>
        have hb' : b ∈ f.rows.filterMap id ++ rowsOf fs := hb
        rcases List.mem_append.1 hb' with h1 | h1
        · refine .inl ?_
          obtain ⟨q, hq, he⟩ := List.mem_filterMap.1 h1
          have he' : q = some b := he
          rw [← he']; exact hq
        · exact .inr (.inr (ih h.2 h1 o))
/-- The state with which code begins. -/
theorem begin_ok {A pin : Nat → Prop} {ks : List AK} {ds : List Nat} {x : Tup (tysOf ks)} {us : List Value} {fs : List Foot} (hp : Pre ks x w A pin us fs) (hds : ds.map (fun d => A0[d]?) = us.map some) :
    ∃ X E hs, RelE X E (initL ks ds x (ini0 A0.size)).σ A0 w ∧ (initL ks ds x (ini0 A0.size)).homes = hs ∧ Began X ks w A us fs hs := by
  obtain ⟨hargs, hnd, hap, hltA, hltp⟩ := hp
  have hperm := (blocks_perm fs).nodup_iff.1 hnd
  have hdis := List.nodup_append.1 hperm
  let X0 : Ctx := ⟨w, fun b => A b ∨ b ∈ rowsOf fs ∨ w.heap.size ≤ b, footM ks fs, rowsOf fs, [], []⟩
  let E0 : Env := ⟨fun _ => (0, 0), fun _ => none, rowsOf fs, pin⟩
  have hown : owned E0 (ini0 A0.size).σ = rowsOf fs := rfl
  have hrow : ∀ b ∈ rowsOf fs, b ∈ blocksOf fs := fun b hb => blocks_mem.2 (.inl hb)
  have hr : RelE X0 E0 (ini0 A0.size).σ A0 w := {
    len := by simp [ini0]
    slot := fun i s v hs _ => by
      have : s = .no := by
        have h1 : (List.replicate A0.size Slot.no)[i]? = some s := hs
        rw [List.getElem?_replicate] at h1
        split at h1 <;> simp at h1
        exact h1.symm
      subst this; trivial
    bx := fun b hb => nomatch hb
    nodup := by rw [hown]; exact hdis.1
    lt := fun b hb => by rw [hown] at hb; exact ⟨(hap b (hrow b hb)).1, .inr (.inl hb)⟩
    ids := List.nodup_nil
    idlt := fun b hb => nomatch hb
    aln := List.nodup_nil
    alr := fun b hb => nomatch hb
    fzr := fun b hb => nomatch hb
    nt2 := Nat.le_refl _
    hd0 := fun _ _ => rfl
    new := fun b hb => .inr (.inr hb)
    fr := ⟨rfl, rfl, rfl, Nat.le_refl _, fun _ _ => .inl rfl⟩
    srct := fun b hb => nomatch hb
    srcb := fun b hb => nomatch hb
    pbm := fun b hb => nomatch hb
    srco := fun b hb => .inl hb
    lnr := fun b hb => nomatch hb
    lnlt := fun b hb => nomatch hb
    fpm := fun b hb o => row_foot hargs hb o
    pinlt := fun b hb => ⟨hltp b hb, fun h => by rw [hown] at h; exact (hap b (hrow b h)).2.2 hb⟩
    adx := fun b hb => nomatch hb
    hdx := fun b hb => nomatch hb }
  obtain ⟨X', E', hs, q1, q2, q3, q4, q5, q6, q7, q8⟩ := init_ok (i := ini0 A0.size) hr rfl rfl hargs (fun b hb => ⟨.inl hb, hltA b hb, fun h => by rw [hown] at h; exact (hap b (hrow b h)).2.1 hb⟩)
    (fun p hp => by
      have hb : p.1 ∈ blocksOf fs := blocks_mem.2 (.inr ⟨p, hp, rfl⟩)
      refine ⟨fun h => ?_, (hap _ hb).2.2⟩
      rcases h with h | h | h
      · exact (hap _ hb).2.1 h
      · exact hdis.2.2 _ h _ (List.mem_map.2 ⟨p, hp, rfl⟩) rfl
      · have := (hap _ hb).1; omega) hdis.2.1 (fun b o h => h) hds
  refine ⟨X', E', hs, q6, by rw [q7]; simp [ini0], ⟨q1, fun b o _ h => by rw [q2] at h; exact h, fun b hb => ?_, fun b hb => by rw [q3] at hb; exact hb, q8⟩⟩
  rcases q4 b hb with h | h
  · rcases h with h | h | h
    · exact .inl h
    · exact .inr (.inl (hrow b h))
    · exact .inr (.inr h)
  · obtain ⟨p, hp, rfl⟩ := List.mem_map.1 h
    exact .inr (.inl (blocks_mem.2 (.inr ⟨p, hp, rfl⟩)))
end
end Go.Proofs.Ytopeacfbcdoljaa.V
