/- A call, part 1: the world after it, lent places given back one by one. -/
import Derived.Test.YtopeacfbcdoljaaVw
namespace Go.Proofs.Ytopeacfbcdoljaa.V
open Go
section
variable {P : Program} {X : Ctx} {E : Env} {σ : St} {A0 : Array Value} {a : Act} {w : World} {o : Oper} {R : Type}
/-- Places as they were. -/
def restore (w : World) : List Nat → World → World
  | [], W => W
  | b :: r, W => restore w r (match w.heap[b]? with
    | some (.cells c _ _) => W.setRow b c
    | _ => W)
theorem restore_size (w : World) : ∀ (l : List Nat) (W : World), (restore w l W).heap.size = W.heap.size := by
  intro l
  induction l with
  | nil => intro W; rfl
  | cons b r ih =>
    intro W
    simp only [restore]
    rw [ih]
    split
    · simp
    · rfl
theorem restore_world (w : World) : ∀ (l : List Nat) (W : World), ∃ H, restore w l W = { W with heap := H } := by
  intro l
  induction l with
  | nil => intro W; exact ⟨W.heap, rfl⟩
  | cons b r ih =>
    intro W
    simp only [restore]
    split
    · obtain ⟨H, h⟩ := ih (W.setRow b _)
      exact ⟨H, by rw [h]; rfl⟩
    · exact ih W
theorem restore_other (w : World) {b : Nat} : ∀ (l : List Nat) (W : World), b ∉ l → (restore w l W).heap[b]? = W.heap[b]? := by
  intro l
  induction l with
  | nil => intro W _; rfl
  | cons c r ih =>
    intro W h
    simp only [List.mem_cons, not_or] at h
    simp only [restore]
    rw [ih _ h.2]
    split
    · exact setRow_other W _ _ _ h.1
    · rfl
theorem restore_at (w : World) {b : Nat} {c : Array Value} {e : TypeId} (hw : w.heap[b]? = some (.cells c e (0, 0))) : ∀ (l : List Nat) (W : World) {c' : Array Value}, W.heap[b]? = some (.cells c' e (0, 0)) → b ∈ l → (restore w l W).heap[b]? = some (.cells c e (0, 0)) := by
  intro l
  induction l with
  | nil => intro W c' _ h; cases h
  | cons d r ih =>
    intro W c' hW h
    simp only [restore]
    by_cases hd : d = b
    · subst hd
      rw [hw]
      have h1 := setRow_heap W d c' c e (0, 0) hW
      by_cases hr : d ∈ r
      · exact ih _ h1 hr
      · rw [restore_other w r _ hr]; exact h1
    · have hr : b ∈ r := by
        rcases List.mem_cons.1 h with h | h
        · exact absurd h.symm hd
        · exact h
      refine ih _ (c' := c') ?_ hr
      split
      · rw [setRow_other W _ _ _ (fun h => hd h.symm)]; exact hW
      · exact hW
theorem footM_mem : ∀ {ks : List AK} {fs : List Foot} {b o : Nat}, footM ks fs b o → b ∈ rowsOf fs ∨ ∃ p ∈ placesOf fs, p.1 = b := by
  intro ks
  induction ks with
  | nil => intro fs b o h; cases fs <;> exact h.elim
  | cons k ks ih =>
    intro fs b o h
    cases fs with
    | nil => exact h.elim
    | cons f fs =>
      rcases h with h | ⟨p, h1, h2, _⟩ | h
      · left
        show b ∈ f.rows.filterMap id ++ rowsOf fs
        exact List.mem_append_left _ (List.mem_filterMap.2 ⟨some b, h, rfl⟩)
      · right
        exact ⟨p, by simp [placesOf, h1], h2⟩
      · rcases ih h with h | ⟨p, h1, h2⟩
        · left
          show b ∈ f.rows.filterMap id ++ rowsOf fs
          exact List.mem_append_right _ h
        · right
          refine ⟨p, ?_, h2⟩
          simp only [placesOf, List.filterMap_cons] at h1 ⊢
          cases f.place with
          | none => exact h1
          | some q => exact List.mem_cons_of_mem _ h1
/-- Another's frame, and ours. -/
theorem Fr.compose {M M' : Nat → Nat → Prop} {w0 w w' : World} (h : Fr M w0 w) (k : Fr M' w w') (hm : ∀ b, b < w0.heap.size → (∃ o, M' b o) → ∀ o, M b o) : Fr M w0 w' := by
  refine ⟨k.os.trans h.os, k.tape.trans h.tape, k.output.trans h.output, Nat.le_trans h.size k.size, fun b hb => ?_⟩
  rcases k.block b (Nat.lt_of_lt_of_le hb h.size) with h1 | ⟨c, c', e, h1, h2, h3, h4⟩
  · rw [h1]; exact h.block b hb
  · by_cases hM : ∃ o, M' b o
    · have hall := hm b hb hM
      rcases h.block b hb with q1 | ⟨d, d', e', q1, q2, q3, q4⟩
      · exact .inr ⟨c, c', e, by rw [← q1]; exact h1, h2, h3, fun o ho => absurd (hall o) ho⟩
      · rw [h1] at q2
        simp only [Option.some.injEq, Obj.cells.injEq, and_true] at q2
        obtain ⟨rfl, rfl⟩ := q2
        exact .inr ⟨d, c', e, q1, h2, h3.trans q3, fun o ho => absurd (hall o) ho⟩
    · have : c' = c := by
        apply Array.ext_getElem?
        intro o
        exact h4 o (fun h => hM ⟨o, h⟩)
      subst this
      rw [h2, ← h1]
      exact h.block b hb
/-- The world after a call, its lent places as they were. -/
theorem mid_ok (hr : RelE X E σ A0 w) {ks : List AK} {fs : List Foot} {w' : World} (hfr : Fr (footM ks fs) w w') (hrow : ∀ b ∈ rowsOf fs, b ∈ E.out) (hplace : ∀ p ∈ placesOf fs, p.1 ∈ owned E σ ∧ p.1 ∉ E.out ∧ ∃ c e, w.heap[p.1]? = some (.cells c e (0, 0))) {l : List Nat} (hl : l.Nodup)
    (hlm : ∀ b ∈ l, (b ∈ rowsOf fs ∨ w.heap.size ≤ b) ∧ b < w'.heap.size) :
    RelE X (E.outs l) σ A0 (restore w ((placesOf fs).map (·.1)) w') ∧ Keep w (restore w ((placesOf fs).map (·.1)) w') (Fz X E σ w) (Fz X (E.outs l) σ (restore w ((placesOf fs).map (·.1)) w')) E (E.outs l) σ σ ∧
      (∀ p ∈ placesOf fs, (restore w ((placesOf fs).map (·.1)) w').heap[p.1]? = w.heap[p.1]?) ∧
      ∀ b, b ∈ rowsOf fs ∨ w.heap.size ≤ b → b < w'.heap.size → b ∉ l → Fz X (E.outs l) σ (restore w ((placesOf fs).map (·.1)) w') b := by
  have hsize := restore_size w ((placesOf fs).map (·.1)) w'
  have hat : ∀ p ∈ placesOf fs, (restore w ((placesOf fs).map (·.1)) w').heap[p.1]? = w.heap[p.1]? := by
    intro p hp
    obtain ⟨h1, h2, c, e, h3⟩ := hplace p hp
    have hlt := (hr.lt _ h1).1
    rw [h3]
    rcases hfr.block p.1 hlt with q | ⟨d, d', e', q1, q2, _⟩
    · exact restore_at w h3 _ w' (c' := c) (q.trans h3) (List.mem_map.2 ⟨p, hp, rfl⟩)
    · rw [h3] at q1
      simp only [Option.some.injEq, Obj.cells.injEq, and_true] at q1
      obtain ⟨rfl, rfl⟩ := q1
      exact restore_at w h3 _ w' q2 (List.mem_map.2 ⟨p, hp, rfl⟩)
  have hsame : ∀ b, b < w.heap.size → b ∉ rowsOf fs → (restore w ((placesOf fs).map (·.1)) w').heap[b]? = w.heap[b]? := by
    intro b hb hnr
    by_cases hp : ∃ p ∈ placesOf fs, p.1 = b
    · obtain ⟨p, hp, rfl⟩ := hp
      exact hat p hp
    · rw [restore_other w _ w' (fun h => by obtain ⟨p, hp', he⟩ := List.mem_map.1 h; exact hp ⟨p, hp', he⟩)]
      rcases hfr.block b hb with q | ⟨c, c', e, q1, q2, q3, q4⟩
      · exact q
      · have : c' = c := by
          apply Array.ext_getElem?
          intro o
          exact q4 o (fun h => by
            rcases footM_mem h with h | h
            · exact hnr h
            · exact hp h)
        rw [q2, this, q1]
  obtain ⟨H, hH⟩ := restore_world w ((placesOf fs).map (·.1)) w'
  have hfr2 : Fr X.M X.w0 (restore w ((placesOf fs).map (·.1)) w') := by
    have k : Fr (fun b _ => b ∈ rowsOf fs) w (restore w ((placesOf fs).map (·.1)) w') := by
      refine ⟨by rw [hH]; exact hfr.os, by rw [hH]; exact hfr.tape, by rw [hH]; exact hfr.output, by rw [hsize]; exact hfr.size, fun b hb => ?_⟩
      by_cases hbr : b ∈ rowsOf fs
      · have hnp : b ∉ (placesOf fs).map (·.1) := fun h => by
          obtain ⟨p, hp', he⟩ := List.mem_map.1 h
          exact (hplace p hp').2.1 (he ▸ hrow b hbr)
        rw [restore_other w _ w' hnp]
        rcases hfr.block b hb with q | ⟨c, c', e, q1, q2, q3, _⟩
        · exact .inl q
        · exact .inr ⟨c, c', e, q1, q2, q3, fun o ho => absurd hbr ho⟩
      · exact .inl (hsame b hb hbr)
    refine hr.fr.compose k (fun b hb ⟨_, h⟩ => ?_)
    rcases hr.srco b (hrow b h) with h1 | h1
    · exact hr.fpm b h1
    · omega
  have hw := hr.world (w1 := restore w ((placesOf fs).map (·.1)) w') (l := l) (fun b hb hno => hsame b hb (fun h => hno (hrow b h))) hfr2 (by rw [hsize]; exact hfr.size) hl (fun b hb => ⟨(hlm b hb).1.imp (hrow b) id, by rw [hsize]; exact (hlm b hb).2⟩)
  refine ⟨hw.1, hw.2, hat, fun b hb hlt hnl => ?_⟩
  have hok : X.ok b := by
    rcases hb with h | h
    · exact (hr.lt b (mem_out hr (hrow b h))).2
    · exact hr.new b (Nat.le_trans hr.fr.size h)
  refine ⟨hok, by rw [hsize]; exact hlt, fun h => ?_⟩
  have hn := hr.nodup
  simp only [owned] at hn
  rcases List.mem_append.1 h with h | h
  · obtain ⟨q, hq, rfl⟩ := List.mem_map.1 h
    rcases hb with hb | hb
    · exact bx_out hr hq (hrow _ hb) rfl
    · have h1 := (hr.lt _ (mem_owned_bx hq)).1
      have h2 : w.heap.size ≤ (E.ad q.id).1 := hb
      omega
  · rcases List.mem_append.1 h with h | h
    · obtain ⟨τ, hτ, hb'⟩ := List.mem_flatMap.1 h
      have hb2 : E.hd τ = some b := by
        have : b ∈ (E.hd τ).toList := hb'
        simpa using this
      rcases hb with hb | hb
      · exact al_out hr hτ hb2 (hrow _ hb)
      · have := (hr.lt _ (mem_owned_al hτ hb2)).1; omega
    · exact hnl h
end
end Go.Proofs.Ytopeacfbcdoljaa.V
