/- What a call is lent: all arguments. -/
import Derived.Test.YtopeacfbcdoljaaVv
namespace Go.Proofs.Ytopeacfbcdoljaa.V
open Go
section
variable {P : Program} {X : Ctx} {E : Env} {σ : St} {A0 : Array Value} {a : Act} {w : World} {o : Oper} {R : Type}
/-- Nothing that is read is one's own still, if what comes out may share with it. -/
def ShOk (σ : St) (sh : Bool) (b : AK) (s : Slot) : Prop :=
  match b with
  | .ro t => sh = true → ∀ v ms, coe t s = some (v, ms) → ∀ τ ∈ ms, τ ∉ σ.al
  | .pin t => sh = true → t.nl = 0
  | _ => True
def ex1 (σ : St) (b : AK) (s : Slot) : List (Nat × Nat) := exclOf σ [b] [s]
theorem exclOf_cons (σ : St) (b : AK) (r : List AK) (s : Slot) (ss : List Slot) : exclOf σ (b :: r) (s :: ss) = ex1 σ b s ++ exclOf σ r ss := by
  cases b <;> cases s <;> simp [ex1, exclOf]
theorem lend_one (hr : RelE X E σ A0 w) {ex : List (Nat × Nat)} {sh : Bool} {b : AK} {s : Slot} {u : Value} {v : b.ty.den} {f : Foot} (hs : SlotOk w (Fz X E σ w) E σ s u) (hp : Pend X w E σ b s u v f) (hl : lendAt σ ex b s = true) (hsh : ShOk σ sh b s) :
    ArgOk w (AA X w E σ ex sh) (PP X w E σ ex) b v u f ∧ (ex1 σ b s).map (blk E) = f.place.toList.map (fun p => some p.1) ∧ ∀ e ∈ ex1 σ b s, Valid σ e := by
  cases b with
  | ro t =>
    obtain ⟨rfl, ms, cs, h1, h2, h3, h4⟩ := hp
    refine ⟨⟨⟨cs, rf_lent hr (fun τ hτ => ⟨?_, fun h => hsh h v ms h1 τ hτ⟩) h4 h2, h3⟩, rfl⟩, by simp [ex1, exclOf], by simp [ex1, exclOf]⟩
    simp only [lendAt, h1] at hl
    exact freeToks_mem hl hτ
  | own t =>
    obtain ⟨h1, h2, cs, h3, h4⟩ := hp
    exact ⟨⟨⟨cs, h3.monoA (fun _ h => .inl h), h4⟩, h2, h1⟩, by simp [ex1, exclOf, h1], by simp [ex1, exclOf]⟩
  | mu t => simp [lendAt] at hl
  | pin t =>
    obtain ⟨rfl, ms, b, o, cs, hm, h1, h2, h3, h4, h5⟩ := hp
    simp only [lendAt, Bool.and_eq_true] at hl
    obtain ⟨hl1, hl2⟩ := hl
    have hms : freeToks σ ex ms = true := by
      cases hrd : readK σ s fun x _ => some x.ms with
      | none => rw [hrd] at hl1; cases hl1
      | some ms' =>
        rw [hrd] at hl1
        have := h5 σ (Same.refl σ) _ (fun x _ => some x.ms) ms' hrd
        simp only [Option.some.injEq] at this
        rw [this]; exact hl1
    have hnl : sh = true → t.nl = 0 := hsh
    refine ⟨⟨⟨b, o, cs, h1, rf_lent hr (fun τ hτ => ⟨freeToks_mem hms hτ, fun h => ?_⟩) h3 h2, h4, ?_⟩, rfl⟩, by simp [ex1, exclOf], by simp [ex1, exclOf]⟩
    · have : ms = [] := List.eq_nil_of_length_eq_zero (h3.trans (hnl h))
      rw [this] at hτ; cases hτ
    · cases s with
      | ptr id r p t' =>
        obtain ⟨_, b', o', e1, e2⟩ := hs
        rw [h1] at e1
        simp only [Value.pointer.injEq, Option.some.injEq, Addr.mk.injEq, and_true] at e1
        obtain ⟨rfl, rfl⟩ := e1
        have hb := addr_fst e2
        dsimp only at hb
        cases hf : σ.find id with
        | none =>
          cases hrd : readK σ (.ptr id r p t') fun x _ => some x.ms with
          | none => rw [hrd] at hl1; cases hl1
          | some q => simp [readK, hf] at hrd
        | some y =>
          refine .inr (.inl ⟨⟨id, y⟩, find_mem hf, ?_, hb⟩)
          simpa using hl2
      | eptr h τ i z p t' =>
        obtain ⟨_, g, b', o', e0, e1, e2⟩ := hs
        rw [h1] at e1
        simp only [Value.pointer.injEq, Option.some.injEq, Addr.mk.injEq, and_true] at e1
        obtain ⟨rfl, rfl⟩ := e1
        have hb := addr_fst e2
        dsimp only at hb
        subst hb
        cases hrt : rowTok σ h with
        | none => simp [hrt] at hl2
        | some υ =>
          simp only [hrt, Bool.and_eq_true, beq_iff_eq, List.contains_iff_mem, Bool.not_eq_true'] at hl2
          refine .inr (.inr (.inr ⟨υ, hl2.1.2, by simpa using hl2.2, ?_⟩))
          rw [← rootTok_hd hr.lnr υ, hl2.1.1, rootTok_hd hr.lnr τ, e0]
      | rptr τ x =>
        obtain ⟨_, b', o', e1, e2⟩ := hs
        rw [h1] at e1
        simp only [Value.pointer.injEq, Option.some.injEq, Addr.mk.injEq, and_true] at e1
        obtain ⟨rfl, rfl⟩ := e1
        have hτ := freeToks_mem hl2 (List.mem_singleton_self τ)
        have hne : τ ≠ 1 := by
          intro he
          subst he
          cases hrd : readK σ (.rptr 1 x) fun x _ => some x.ms with
          | none => rw [hrd] at hl1; cases hl1
          | some q => simp [readK] at hrd
        have hfr : frz σ τ ∨ τ ∈ σ.al := by
          rcases us_iff.1 hτ.1 with h | h | h | h
          · exact .inl (.inl h)
          · exact absurd h hne
          · exact .inr h
          · exact .inl (.inr h)
        obtain ⟨_, _, _, _, k1, k2⟩ := e2 hfr
        by_cases hal : τ ∈ σ.al
        · exact .inr (.inr (.inr ⟨τ, hal, hτ.2, k1 hal⟩))
        · rcases k2 hal with h | h
          · exact .inr (.inr (.inl h))
          · exact .inl h
      | _ => simp at hl2
  | pio t =>
    obtain ⟨b, o, cs, h1, h2, h3, h4, h5⟩ := hp
    simp only [lendAt, Bool.and_eq_true, Bool.not_eq_true', beq_eq_false_iff_ne, ne_eq] at hl
    obtain ⟨hsz, hl2⟩ := hl
    have hlen := h3.length
    have key : ∀ c e, w.heap[b]? = some (.cells c e (0, 0)) → ArgOk w (AA X w E σ ex sh) (PP X w E σ ex) (.pio t) v u f := by
      intro c e hc
      refine ⟨b, o, cs, c, e, h2, h3.monoA (fun _ h => .inl h), h4, h5, hc, ?_, h1⟩
      have hj : cs.length - 1 < cs.length := by omega
      have := h5 (cs.length - 1) _ (List.getElem?_eq_getElem hj)
      rw [cell_of_row w b _ c e _ hc] at this
      have := (Array.getElem?_eq_some_iff.1 this).1
      omega
    cases s with
    | ptr id r p t' =>
      obtain ⟨_, b', o', e1, e2⟩ := hs
      rw [h2] at e1
      simp only [Value.pointer.injEq, Option.some.injEq, Addr.mk.injEq, and_true] at e1
      obtain ⟨rfl, rfl⟩ := e1
      have hb := addr_fst e2
      dsimp only at hb
      cases hf : σ.find id with
      | none => simp [hf] at hl2
      | some y =>
        obtain ⟨_, c, e, _, _, q, _⟩ := hr.bx _ (find_mem hf)
        exact ⟨key c e (by rw [hb]; exact q), by simp [ex1, exclOf, h1, blk, hb], by simp [ex1, exclOf, Valid]; exact ⟨_, find_mem hf, rfl⟩⟩
    | eptr h τ i z p t' =>
      obtain ⟨_, g, b', o', e0, e1, e2⟩ := hs
      rw [h2] at e1
      simp only [Value.pointer.injEq, Option.some.injEq, Addr.mk.injEq, and_true] at e1
      obtain ⟨rfl, rfl⟩ := e1
      have hb := addr_fst e2
      dsimp only at hb
      subst hb
      cases hrt : rowTok σ h with
      | none => simp [hrt] at hl2
      | some υ =>
        simp only [hrt, Bool.and_eq_true, beq_iff_eq, List.contains_iff_mem] at hl2
        have hhd : E.hd υ = some b := by rw [← rootTok_hd hr.lnr υ, hl2.1, rootTok_hd hr.lnr τ, e0]
        obtain ⟨c, e, q⟩ := rowTok_ok hr hrt hl2.2 hhd
        exact ⟨key c e q, by simp [ex1, exclOf, hrt, h1, blk, hhd], by simp [ex1, exclOf, hrt, Valid, hl2.2]⟩
    | _ => simp at hl2
def placesOf (fs : List Foot) : List (Nat × Nat) := fs.filterMap (·.place)
def ShOks (σ : St) (sh : Bool) : List AK → List Slot → Prop
  | b :: r, s :: ss => ShOk σ sh b s ∧ ShOks σ sh r ss
  | _, _ => True
theorem lend_all (hr : RelE X E σ A0 w) {ex : List (Nat × Nat)} {sh : Bool} : ∀ {ks : List AK} {ss : List Slot} {us : List Value} {x : Tup (tysOf ks)} {fs : List Foot}, (∀ (i : Nat) s u, ss[i]? = some s → us[i]? = some u → SlotOk w (Fz X E σ w) E σ s u) →
    Pends X w E σ ks ss us x fs → lentOk σ ex ks ss = true → ShOks σ sh ks ss →
    ArgsOk w (AA X w E σ ex sh) (PP X w E σ ex) ks x us fs ∧ (exclOf σ ks ss).map (blk E) = (placesOf fs).map (fun p => some p.1) ∧ ∀ e ∈ exclOf σ ks ss, Valid σ e := by
  intro ks
  induction ks with
  | nil =>
    intro ss us x fs _ h _ _
    cases ss <;> cases us <;> cases fs <;> first | exact h.elim | exact ⟨trivial, rfl, fun e h => by cases h⟩
  | cons b r ih =>
    intro ss us x fs hs h hl hsh
    cases ss with
    | nil => cases us <;> cases fs <;> exact h.elim
    | cons s ss =>
      cases us with
      | nil => cases fs <;> exact h.elim
      | cons u us =>
        cases fs with
        | nil => exact h.elim
        | cons f fs =>
          simp only [lentOk, Bool.and_eq_true] at hl
          obtain ⟨q1, q2, q3⟩ := lend_one hr (hs 0 s u rfl rfl) h.1 hl.1 hsh.1
          obtain ⟨w1, w2, w3⟩ := ih (fun i s' u' h1 h2 => hs (i + 1) s' u' h1 h2) h.2 hl.2 hsh.2
          refine ⟨⟨q1, w1⟩, ?_, fun e he => ?_⟩
          · rw [exclOf_cons, List.map_append, q2, w2]
            cases hp : f.place <;> simp [placesOf, hp]
          · rw [exclOf_cons] at he
            rcases List.mem_append.1 he with h | h
            · exact q3 e h
            · exact w3 e h
theorem blocks_mem {fs : List Foot} {b : Nat} : b ∈ blocksOf fs ↔ b ∈ rowsOf fs ∨ ∃ p ∈ placesOf fs, p.1 = b := by
  induction fs with
  | nil => simp [blocksOf, rowsOf, placesOf]
  | cons f fs ih =>
    have e1 : blocksOf (f :: fs) = f.blocks ++ blocksOf fs := rfl
    have e2 : rowsOf (f :: fs) = f.rows.filterMap id ++ rowsOf fs := rfl
    rw [e1, e2, List.mem_append, List.mem_append, ih]
    cases hp : f.place <;> simp [Foot.blocks, placesOf, hp, or_assoc, or_comm, or_left_comm, eq_comm]
theorem blocks_perm (fs : List Foot) : (blocksOf fs).Perm (rowsOf fs ++ (placesOf fs).map (·.1)) := by
  induction fs with
  | nil => simp [blocksOf, rowsOf, placesOf]
  | cons f fs ih =>
    have e1 : blocksOf (f :: fs) = f.rows.filterMap id ++ ((f.place.map (·.1)).toList ++ blocksOf fs) := by simp [blocksOf, Foot.blocks]
    have e2 : rowsOf (f :: fs) = f.rows.filterMap id ++ rowsOf fs := rfl
    have e3 : (placesOf (f :: fs)).map (·.1) = (f.place.map (·.1)).toList ++ (placesOf fs).map (·.1) := by cases hp : f.place <;> simp [placesOf, hp]
    rw [e1, e2, e3, List.append_assoc]
    refine List.Perm.append_left _ ?_
    refine (List.Perm.append_left _ ih).trans ?_
    rw [← List.append_assoc, ← List.append_assoc]
    exact List.Perm.append_right _ List.perm_append_comm
theorem noDup_nodup : ∀ {l : List (Nat × Nat)}, noDup l = true → l.Nodup := by
  intro l
  induction l with
  | nil => intro _; exact List.nodup_nil
  | cons c r ih =>
    intro h
    simp only [noDup, Bool.and_eq_true, Bool.not_eq_true'] at h
    exact List.nodup_cons.2 ⟨by simpa using h.1, ih h.2⟩
/-- The footprint's blocks are apart, and nobody else's. -/
theorem lend_apart (hr : RelE X E σ A0 w) {ex : List (Nat × Nat)} {sh : Bool} {fs : List Foot} {l : List Nat} (ho : E.out.Perm (rowsOf fs ++ l)) (hex : ex.map (blk E) = (placesOf fs).map (fun p => some p.1)) (hv : ∀ e ∈ ex, Valid σ e) (hnd : noDup ex = true) :
    (blocksOf fs).Nodup ∧ (∀ b ∈ blocksOf fs, b < w.heap.size ∧ ¬ AA X w E σ ex sh b ∧ ¬ PP X w E σ ex b) := by
  have hplace : ∀ p ∈ placesOf fs, ∃ e ∈ ex, blk E e = some p.1 := by
    intro p hp
    have : some p.1 ∈ (placesOf fs).map (fun p => some p.1) := List.mem_map.2 ⟨p, hp, rfl⟩
    rw [← hex] at this
    obtain ⟨e, he, hb⟩ := List.mem_map.1 this
    exact ⟨e, he, hb⟩
  have hrow : ∀ b ∈ rowsOf fs, b ∈ E.out := fun b hb => ho.mem_iff.2 (List.mem_append_left _ hb)
  have hout : E.out.Nodup := by
    have hn := hr.nodup
    simp only [owned] at hn
    exact (List.nodup_append.1 (List.nodup_append.1 hn).2.1).2.1
  refine ⟨(blocks_perm fs).nodup_iff.2 ?_, fun b hb => ?_⟩
  · rw [List.nodup_append]
    refine ⟨(List.nodup_append.1 (ho.nodup_iff.1 hout)).1, ?_, fun x hx y hy he => ?_⟩
    · have h1 : (ex.map (blk E)).Nodup := by
        have hnd' := noDup_nodup hnd
        have hsome : ∀ e ∈ ex, ∃ q, blk E e = some q := by
          intro e he
          have : blk E e ∈ ex.map (blk E) := List.mem_map.2 ⟨e, he, rfl⟩
          rw [hex] at this
          obtain ⟨p, _, hp⟩ := List.mem_map.1 this
          exact ⟨p.1, hp.symm⟩
        clear hex hplace hnd
        induction ex with
        | nil => exact List.nodup_nil
        | cons c r ih =>
          simp only [List.map_cons, List.nodup_cons] at hnd' ⊢
          refine ⟨fun h => ?_, ih (fun e he => hv e (List.mem_cons_of_mem _ he)) hnd'.2 (fun e he => hsome e (List.mem_cons_of_mem _ he))⟩
          obtain ⟨e, he, hb⟩ := List.mem_map.1 h
          obtain ⟨q, hq⟩ := hsome c List.mem_cons_self
          have he' := blk_inj hr (hv c List.mem_cons_self) (hv e (List.mem_cons_of_mem _ he)) hq (hb.trans hq)
          subst he'
          exact hnd'.1 he
      rw [hex] at h1
      have : (placesOf fs).map (fun p => some p.1) = ((placesOf fs).map (·.1)).map some := by simp
      rw [this] at h1
      exact List.Pairwise.of_map some (fun a b h e => h (congrArg some e)) h1
    · subst he
      obtain ⟨p, hp, rfl⟩ := List.mem_map.1 hy
      obtain ⟨e, he, hb⟩ := hplace p hp
      exact (blk_owned hr (hv e he) hb).2 (hrow _ hx)
  · rcases blocks_mem.1 hb with h | ⟨p, hp, rfl⟩
    · have ho' := hrow b h
      have hown := mem_out hr ho'
      refine ⟨(hr.lt b hown).1, fun hA => ?_, fun hP => ?_⟩
      · rcases hA with h | ⟨_, τ, h1, _, h2⟩
        · exact h.2.2 hown
        · exact al_out hr h1 h2 ho'
      · rcases hP with h | ⟨q, h1, _, h2⟩ | h | ⟨τ, h1, _, h2⟩
        · exact (hr.pinlt b h).2 hown
        · exact bx_out hr h1 ho' h2.symm
        · exact h.2.2 hown
        · exact al_out hr h1 h2 ho'
    · obtain ⟨e, he, hb⟩ := hplace p hp
      have hown := (blk_owned hr (hv e he) hb).1
      have hval := hv e he
      refine ⟨(hr.lt _ hown).1, fun hA => ?_, fun hP => ?_⟩
      · rcases hA with h | ⟨_, τ, h1, h3, h2⟩
        · exact h.2.2 hown
        · have := blk_inj hr hval (f := (0, τ)) (.inr ⟨rfl, h1⟩) hb (by simpa [blk] using h2)
          subst this
          exact h3 he
      · rcases hP with h | ⟨q, h1, h3, h2⟩ | h | ⟨τ, h1, h3, h2⟩
        · exact (hr.pinlt _ h).2 hown
        · have := blk_inj hr hval (f := (1, q.id)) (.inl ⟨rfl, q, h1, rfl⟩) hb (by simp [blk, h2])
          subst this
          exact h3 he
        · exact h.2.2 hown
        · have := blk_inj hr hval (f := (0, τ)) (.inr ⟨rfl, h1⟩) hb (by simpa [blk] using h2)
          subst this
          exact h3 he
end
end Go.Proofs.Ytopeacfbcdoljaa.V
