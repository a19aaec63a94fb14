/- A call, part 4: the whole call. -/
import Derived.Test.YtopeacfbcdoljaaVz
namespace Go.Proofs.Ytopeacfbcdoljaa.V
open Go
section
variable {P : Program} {X : Ctx} {E : Env} {σ : St} {A0 : Array Value} {a : Act} {w : World} {o : Oper} {R : Type}
theorem freeze_notin : ∀ (l : List Nat) {σ : St} {τ : Nat}, σ.al.Nodup → τ ∈ l → τ ∉ (σ.freeze l).al := by
  intro l
  induction l with
  | nil => intro σ τ _ h; cases h
  | cons υ r ih =>
    intro σ τ hn h
    simp only [St.freeze]
    have hsub : ∀ (l : List Nat) {σ : St}, τ ∉ σ.al → τ ∉ (σ.freeze l).al := by
      intro l
      induction l with
      | nil => intro σ h; exact h
      | cons υ r ih =>
        intro σ h
        simp only [St.freeze]
        cases hc : σ.al.contains υ with
        | false => exact ih h
        | true => exact ih (fun h' => h (List.mem_of_mem_erase h'))
    cases hc : σ.al.contains υ with
    | false =>
      rcases List.mem_cons.1 h with rfl | h
      · exact hsub r (by simpa using hc)
      · exact ih hn h
    | true =>
      simp only [cond_true]
      rcases List.mem_cons.1 h with rfl | h
      · exact hsub r (fun h' => (hn.mem_erase_iff.1 h').1 rfl)
      · exact ih (hn.erase υ) h
theorem roToks_mem : ∀ {ks : List AK} {ss : List Slot} {t : Ty} {s : Slot} {v : t.den} {ms : List Nat} {i : Nat}, ks[i]? = some (.ro t) → ss[i]? = some s → coe t s = some (v, ms) → ∀ τ ∈ ms, τ ∈ roToks σ ks ss := by
  intro ks
  induction ks with
  | nil => intro ss t s v ms i h; simp at h
  | cons b r ih =>
    intro ss t s v ms i h1 h2 h3 τ hτ
    cases ss with
    | nil => simp at h2
    | cons s' ss =>
      cases i with
      | zero =>
        simp only [List.getElem?_cons_zero, Option.some.injEq] at h1 h2
        subst h1; subst h2
        simp only [roToks, h3]
        exact List.mem_append_left _ hτ
      | succ i =>
        have := ih (by simpa using h1) (by simpa using h2) h3 τ hτ
        cases b <;> simp only [roToks] <;> first | exact this | exact List.mem_append_right _ this
theorem shOks_of {sh : Bool} {σ1 : St} {ks0 : List AK} {ss0 : List Slot} (hno : sh = true → ∀ τ, τ ∈ roToks σ ks0 ss0 → τ ∉ σ1.al) (hpin : sh = true → noPins ks0 = true) : ∀ {ks : List AK} {ss : List Slot}, (∀ τ, τ ∈ roToks σ ks ss → τ ∈ roToks σ ks0 ss0) → (noPins ks0 = true → noPins ks = true) → ShOks σ1 sh ks ss := by
  intro ks
  induction ks with
  | nil => intro ss _ _; cases ss <;> trivial
  | cons b r ih =>
    intro ss hsub hp
    cases ss with
    | nil => trivial
    | cons s ss =>
      refine ⟨?_, ih (fun τ hτ => hsub τ (by cases b <;> simp only [roToks] <;> first | exact hτ | exact List.mem_append_right _ hτ)) (fun h => ?_)⟩
      · cases b with
        | ro t =>
          intro hs v ms hc τ hτ
          exact hno hs τ (hsub τ (roToks_mem (i := 0) rfl rfl hc τ hτ))
        | pin t =>
          intro hs
          have := hp (hpin hs)
          simp only [noPins, Bool.and_eq_true, beq_iff_eq] at this
          exact this.1
        | _ => trivial
      · have := hp h
        cases b <;> simp only [noPins, Bool.and_eq_true] at this <;> first | exact this | exact this.2
theorem resVal_slot {A : Nat → Prop} {l : List Val} {vs : List Value} (hl : l.length = vs.length) (h : ∀ (i : Nat) x u, l[i]? = some x → vs[i]? = some u → ValOk w A E σ x u) : SlotOk w A E σ (resSlot l) (resVal vs) := by
  match l, vs, hl with
  | [], [], _ => exact ⟨[], rfl, rfl, fun i x u h => by simp at h⟩
  | [x], [v], _ => exact h 0 x v rfl rfl
  | x :: y :: l, v :: u :: vs, hl => exact ⟨_, rfl, hl.symm, h⟩
theorem foot_ro {A pin : Nat → Prop} : ∀ {ks : List AK} {x : Tup (tysOf ks)} {us : List Value} {fs : List Foot}, roOnly ks = true → ArgsOk w A pin ks x us fs → ∀ b o, ¬ footM ks fs b o := by
  intro ks
  induction ks with
  | nil => intro x us fs _ _ b o h; cases fs <;> exact h
  | cons c r ih =>
    intro x us fs hro h b o hm
    cases us with
    | nil => cases fs <;> exact h.elim
    | cons u us =>
      cases fs with
      | nil => exact h.elim
      | cons f fs =>
        have hf : f = ⟨[], none⟩ := by
          have h1 := h.1
          cases c with
          | ro t => exact h1.2
          | pin t => exact h1.2
          | _ => simp [roOnly] at hro
        have hro' : roOnly r = true := by cases c <;> simp [roOnly] at hro <;> exact hro
        subst hf
        rcases hm with h1 | ⟨p, h1, _⟩ | h1
        · cases h1
        · cases h1
        · exact ih hro' h.2 b o h1
theorem Fr.toExt {M : Nat → Nat → Prop} {w w' : World} (h : Fr M w w') (hM : ∀ b o, ¬ M b o) : Ext w w' := by
  refine ⟨h.os, h.tape, h.output, h.size, fun b hb => ?_⟩
  rcases h.block b hb with h1 | ⟨c, c', e, h1, h2, _, h4⟩
  · exact h1
  · have : c' = c := Array.ext_getElem? fun o => h4 o (hM b o)
    rw [h2, this, h1]
/-- What is lent, and what comes back. -/
theorem lent_ok {aks : List AK} {sh : Bool} {ss : List Slot} {us : List Value} {k : Tup (tysOf aks) → St → Option R} {r : R} (hr : RelE X E σ A0 w) (hlen : ss.length = us.length)
    (hsl : ∀ (i : Nat) s u, ss[i]? = some s → us[i]? = some u → SlotOk w (Fz X E σ w) E σ s u) (h : lendK aks sh ss σ k = some r) :
    ∃ x σ1 E1 fs A pin, k x σ1 = some r ∧ Pre aks x w A pin us fs ∧ RelE X E1 σ1 A0 w ∧ E1.ad = E.ad ∧ (∀ b, A b → X.ok b ∧ ∀ q ∈ σ1.bx, (E1.ad q.id).1 ≠ b) ∧ (∀ b ∈ rowsOf fs, b ∈ X.fps ∨ X.w0.heap.size ≤ b) ∧
      ∀ {R' : Type} {rs : List (Ty × Bool)} {y : Tup (resOf rs ++ outsOf aks)} {vs : List Value} {w' : World} {kk : List Val → St → Option R'} {r' : R'}, (sh = false → sharesR rs = false ∧ sharesO aks = false) →
        PostL aks rs w A us fs y vs w' → backK aks ss rs y σ1 kk = some r' → (roOnly aks = true → Ext w w') ∧ ∃ l σ2 E2, kk l σ2 = some r' ∧ RelE X E2 σ2 A0 w' ∧ l.length = vs.length ∧
          ∀ (i : Nat) x u, l[i]? = some x → vs[i]? = some u → ValOk w' (Fz X E2 σ2 w') E2 σ2 x u := by
  unfold lendK at h
  cases hg : !sh || noPins aks with
  | false => rw [hg] at h; simp at h
  | true =>
    rw [hg] at h
    simp only [cond_true] at h
    generalize hσf : (bif sh then σ.freeze (roToks σ aks ss) else σ) = σf at h
    have hrf : RelE X E σf A0 w ∧ Keep w w (Fz X E σ w) (Fz X E σf w) E E σ σf := by
      rw [← hσf]
      cases sh with
      | true => exact hr.freezeK _
      | false => exact ⟨hr, hr.keep⟩
    obtain ⟨hrf, hKf⟩ := hrf
    obtain ⟨x, σ1, E1, fs, q1, q2, q3, q4, q5⟩ := gather_ok hrf hlen (fun i s u h1 h2 => hKf.slot (hsl i s u h1 h2)) h
    cases hc : noDup (exclOf σ1 aks ss) && lentOk σ1 (exclOf σ1 aks ss) aks ss with
    | false => rw [hc] at q1; simp at q1
    | true =>
      rw [hc] at q1
      simp only [Bool.not_true, cond_false] at q1
      simp only [Bool.and_eq_true] at hc
      have hsl1 : ∀ (i : Nat) s u, ss[i]? = some s → us[i]? = some u → SlotOk w (Fz X E1 σ1 w) E1 σ1 s u := fun i s u h1 h2 => q3.K.slot (hKf.slot (hsl i s u h1 h2))
      have hsh : ShOks σ1 sh aks ss := shOks_of (ks0 := aks) (ss0 := ss) (σ := σ) (fun hs τ hτ hal => by
          have := q3.S.al τ hal
          rw [← hσf, hs] at this
          exact freeze_notin _ hr.aln hτ this)
        (fun hs => by rw [hs] at hg; simpa using hg) (fun _ h => h) id
      obtain ⟨w1, w2, w3⟩ := lend_all q2 hsl1 q5 hc.2 hsh
      obtain ⟨w4, w5⟩ := lend_apart (sh := sh) q2 q4 w2 w3 hc.1
      have hmu := noMu_of q5 hc.2
      refine ⟨x, σ1, E1, fs, _, _, q1, ⟨w1, w4, w5, fun b hb => ?_, fun b hb => ?_⟩, q2, q3.ad, fun b hb => ?_, fun b hb => q2.srco b (q4.mem_iff.2 (List.mem_append_left _ hb)), ?_⟩
      · rcases hb with h | ⟨_, τ, h1, _, h2⟩
        · exact h.2.1
        · exact (q2.lt b (mem_owned_al h1 h2)).1
      · rcases hb with h | ⟨q, h1, _, rfl⟩ | h | ⟨τ, h1, _, h2⟩
        · exact (q2.pinlt b h).1
        · exact (q2.lt _ (mem_owned_bx h1)).1
        · exact h.2.1
        · exact (q2.lt b (mem_owned_al h1 h2)).1
      · rcases hb with h | ⟨_, τ, h1, _, h2⟩
        · exact ⟨h.1, fun q hq he => h.2.2 (he ▸ mem_owned_bx hq)⟩
        · exact ⟨(q2.lt b (mem_owned_al h1 h2)).2, fun q hq => bx_al q2 hq h1 h2⟩
      · intro R' rs y vs w' kk r' hshr he q1
        obtain ⟨hfr, bo, br, hnd, hrets, hres, houts⟩ := he
        have hrowout : ∀ b ∈ rowsOf fs, b ∈ E1.out := fun b hb => q4.mem_iff.2 (List.mem_append_left _ hb)
        have hplown : ∀ p ∈ placesOf fs, p.1 ∈ owned E1 σ1 ∧ p.1 ∉ E1.out := by
          intro p hp
          have : some p.1 ∈ (placesOf fs).map (fun p => some p.1) := List.mem_map.2 ⟨p, hp, rfl⟩
          rw [← w2] at this
          obtain ⟨e, he, hb⟩ := List.mem_map.1 this
          exact blk_owned q2 (w3 e he) hb
        have hpl0 := placeArg_of w1
        have hplnd : ((placesOf fs).map (·.1)).Nodup := by
          have := (blocks_perm fs).nodup_iff.1 w4
          exact (List.nodup_append.1 this).2.1
        have hprow : ∀ p ∈ placesOf fs, p.1 ∉ rowsOf fs := fun p hp h => (hplown p hp).2 (hrowout _ h)
        have hpls := placesOk_of hfr w1 (fun b j _ h => h) hprow hplnd
        have hcell : ∀ p ∈ placesOf fs, ∃ c e, w.heap[p.1]? = some (.cells c e (0, 0)) := by
          have key : ∀ {ks : List AK} {fs : List Foot}, PlacesOk w w' ks fs → ks.length = fs.length → ∀ p ∈ placesOf fs, ∃ c e, w.heap[p.1]? = some (.cells c e (0, 0)) := by
            intro ks
            induction ks with
            | nil => intro fs _ hl p hp; cases fs with | nil => simp [placesOf] at hp | cons _ _ => simp at hl
            | cons b r ih =>
              intro fs h hl p hp
              cases fs with
              | nil => simp at hl
              | cons f fs =>
                simp only [placesOf, List.filterMap_cons] at hp
                cases hf : f.place with
                | none => rw [hf] at hp; exact ih h.2 (by simpa using hl) p hp
                | some q =>
                  rw [hf] at hp
                  rcases List.mem_cons.1 hp with rfl | hp
                  · obtain ⟨c, _, e, h1, _⟩ := h.1 p.1 p.2 hf
                    exact ⟨c, e, h1⟩
                  · exact ih h.2 (by simpa using hl) p hp
          refine key hpls ?_
          have len : ∀ {ks : List AK} {x : Tup (tysOf ks)} {us : List Value} {fs : List Foot}, ArgsOk w (AA X w E1 σ1 (exclOf σ1 aks ss) sh) (PP X w E1 σ1 (exclOf σ1 aks ss)) ks x us fs → ks.length = fs.length := by
            intro ks
            induction ks with
            | nil => intro x us fs h; cases us <;> cases fs <;> first | rfl | exact h.elim
            | cons b r ih =>
              intro x us fs h
              cases us with
              | nil => cases fs <;> exact h.elim
              | cons u us => cases fs with
                | nil => exact h.elim
                | cons f fs => simp [ih h.2]
          exact len w1
        obtain ⟨m1, m2, m3, m4⟩ := mid_ok q2 hfr hrowout (fun p hp => ⟨(hplown p hp).1, (hplown p hp).2, hcell p hp⟩) (l := flatB bo ++ flatB br) hnd hrets
        have hAF : sh = false ∨ ∀ b, After w w' (AA X w E1 σ1 (exclOf σ1 aks ss) sh) fs (flatB bo ++ flatB br) b →
            Fz X (E1.outs (flatB bo ++ flatB br)) σ1 (restore w ((placesOf fs).map (·.1)) w') b ∧ b ∉ (placesOf fs).map (·.1) := by
          cases hs : sh with
          | false => exact .inl rfl
          | true =>
            refine .inr fun b hb => ?_
            obtain ⟨h1, h2, h3⟩ := hb
            have hnp : b ∉ (placesOf fs).map (·.1) := by
              intro hbp
              obtain ⟨p, hp, rfl⟩ := List.mem_map.1 hbp
              rcases h1 with h | h | h
              · have := (w5 p.1 (blocks_mem.2 (.inr ⟨p, hp, rfl⟩))).2.1
                rw [hs] at this
                exact this h
              · exact hprow p hp h
              · have := (q2.lt _ (hplown p hp).1).1; omega
            refine ⟨?_, hnp⟩
            rcases h1 with h | h | h
            · rcases h with h | ⟨h, _⟩
              · exact (m2.A b h).1
              · cases h
            · exact m4 b (.inl h) h2 h3
            · exact m4 b (.inr h) h2 h3
        have hAFo : sharesO aks = false ∨ _ := hAF.imp (fun h => (hshr h).2) id
        obtain ⟨σ2, E2, n1, n2, n3, n4⟩ := putBack_ok (a := ⟨A0, []⟩) (w := w) (sh := sh) hmu m1 rfl hlen (fun i s u h1 h2 => m2.slot (hsl1 i s u h1 h2)) houts hpl0 hpls hplnd (restore_world w _ w')
          (fun b hb => restore_other w _ w' hb) m3 (fun b hb hbp => by
            obtain ⟨p, hp, rfl⟩ := List.mem_map.1 hbp
            rcases (hrets p.1 (List.mem_append_left _ hb)).1 with h | h
            · exact hprow p hp h
            · have := (q2.lt _ (hplown p hp).1).1; omega) hAFo q1
        obtain ⟨E3, z1, z2, z3, z4⟩ := res_ok (y := Tup.fst (a := resOf rs) (b := outsOf aks) y) (l := []) n2 (by simpa using n3) hres
          (hAF.imp (fun h => (hshr h).1) (fun h b hb => (n4.A b (h b hb).1).1))
        exact ⟨fun hro => hfr.toExt (foot_ro hro w1), _, _, E3, n1, z1, z3, z4⟩
/-- The call. -/
theorem call_ok {fn : Fn} {f : FuncId} (hm : Meets P f fn) {args : List Operand} {d : Option Tmp} {k : St → Option R} {r : R} (hr : RelE X E σ a.tmps w) (h : callK fn (args.map (opd σ)) d σ k = some r) :
    Calls P f (args.map a.eval).toArray w fun e w' => match e with
      | .returned v => (roOnly fn.s.args = true → Ext w w') ∧ ∃ σ', k σ' = some r ∧ Rel X σ' (a.put d v).tmps w'
      | _ => False := by
  unfold callK at h
  obtain ⟨x, σ1, E1, fs, A, pin, h1, h2, _, _, _, _, h3⟩ := lent_ok (us := args.map a.eval) hr (by simp) (fun i s u h1 h2 => by
    rw [List.getElem?_map] at h1 h2
    cases hz : args[i]? with
    | none => rw [hz] at h1; simp at h1
    | some z =>
      rw [hz] at h1 h2
      simp only [Option.map_some, Option.some.injEq] at h1 h2
      subst h1; subst h2
      exact slot_opd hr z) h
  cases hy : fn.f x with
  | none => rw [hy] at h1; simp at h1
  | some y =>
    rw [hy] at h1
    simp only [Option.bind_some] at h1
    refine (hm x y hy w _ _ _ fs h2).mono fun e w' he => ?_
    cases e with
    | returned v =>
      obtain ⟨vs, rfl, hp⟩ := he
      obtain ⟨k1, l, σ2, E2, k2, k3, k4, k5⟩ := h3 (fun hs => by simpa [shares] using hs) hp h1
      exact ⟨k1, _, k2, E2, k3.put d (resVal_slot k4 k5)⟩
    | panicked c => exact he
    | outgrown => exact he
end
end Go.Proofs.Ytopeacfbcdoljaa.V
