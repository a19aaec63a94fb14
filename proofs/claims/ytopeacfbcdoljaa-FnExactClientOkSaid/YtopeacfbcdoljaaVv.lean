/- What a call is lent: the contract's premises. -/
import Derived.Test.YtopeacfbcdoljaaVu
namespace Go.Proofs.Ytopeacfbcdoljaa.V
open Go
section
variable {P : Program} {X : Ctx} {E : Env} {σ : St} {A0 : Array Value} {a : Act} {w : World} {o : Oper} {R : Type}
/-- What the call may read. -/
def AA (X : Ctx) (w : World) (E : Env) (σ : St) (ex : List (Nat × Nat)) (sh : Bool) (b : Nat) : Prop := Fz X E σ w b ∨ (sh = false ∧ ∃ τ ∈ σ.al, (0, τ) ∉ ex ∧ E.hd τ = some b)
def PP (X : Ctx) (w : World) (E : Env) (σ : St) (ex : List (Nat × Nat)) (b : Nat) : Prop :=
  E.pin b ∨ (∃ q ∈ σ.bx, (1, q.id) ∉ ex ∧ b = (E.ad q.id).1) ∨ Fz X E σ w b ∨ (∃ τ ∈ σ.al, (0, τ) ∉ ex ∧ E.hd τ = some b)
theorem addr_fst : ∀ {t u : Ty} {q q' : Nat × Nat} {p : List Sel}, addr t q p = some (u, q') → q'.1 = q.1 := by
  intro t
  induction t with
  | st t ih =>
    intro u q q' p h
    cases p with
    | nil => simp [addr] at h; rw [h.2]
    | cons s p => exact ih (p := s :: p) h
  | pair a b iha ihb =>
    intro u q q' p h
    cases p with
    | nil => simp [addr] at h; rw [h.2]
    | cons s p => cases s with
      | fst => exact iha h
      | snd =>
        have h' : addr b (q.1, q.2 + a.size) p = some (u, q') := h
        have := ihb h'
        exact this
      | ix i => simp [addr] at h
  | arr n t ih =>
    intro u q q' p h
    cases p with
    | nil => simp [addr] at h; rw [h.2]
    | cons s p => cases s with
      | fst => simp [addr] at h
      | snd => simp [addr] at h
      | ix i =>
        simp only [addr] at h
        split at h
        · have := ih h
          exact this
        · cases h
  | _ =>
    intro u q q' p h
    cases p with
    | nil => simp [addr] at h; rw [h.2]
    | cons s p => cases s <;> simp [addr] at h
theorem freeToks_mem {ex : List (Nat × Nat)} {ms : List Nat} {τ : Nat} (h : freeToks σ ex ms = true) (ht : τ ∈ ms) : σ.us τ = true ∧ (0, τ) ∉ ex := by
  have := List.all_eq_true.1 h τ ht
  simpa using this
theorem rf_lent (hr : RelE X E σ A0 w) {ex : List (Nat × Nat)} {sh : Bool} : ∀ {t : Ty} {v : t.den} {ms : List Nat} {cs : List Value}, (∀ τ ∈ ms, (σ.us τ = true ∧ (0, τ) ∉ ex) ∧ (sh = true → τ ∉ σ.al)) → ms.length = t.nl → Rv w (Fz X E σ w) E σ t v ms cs → Rf w (AA X w E σ ex sh) t v cs := by
  intro t
  induction t with
  | int k => intro v ms cs _ _ h; exact h
  | bool => intro v ms cs _ _ h; exact h
  | str => intro v ms cs _ _ h; exact h
  | unit => intro v ms cs _ _ h; exact h
  | pair a b iha ihb =>
    intro v ms cs hz hl h; obtain ⟨c1, c2, e, h1, h2⟩ := h
    simp only [Ty.nl] at hl
    exact ⟨c1, c2, e, iha (fun τ hτ => hz τ (List.mem_of_mem_take hτ)) (by simp; omega) h1, ihb (fun τ hτ => hz τ (List.mem_of_mem_drop hτ)) (by simp; omega) h2⟩
  | st t ih => intro v ms cs hz hl h; exact ih hz hl h
  | arr n t _ => intro v ms cs _ _ h; exact ⟨h.1, h.2.1, fun i x hx => (h.2.2.1 i x hx).mono (fun _ h => .inl h) (fun _ _ => rfl), h.2.2.2⟩
  | sl e t _ =>
    intro v ms cs hz hl h
    obtain ⟨c, rfl, hleaf⟩ := h
    match ms, hl with
    | [τ], _ =>
      obtain ⟨⟨hu, hex⟩, hsh⟩ := hz τ (by simp)
      obtain ⟨ad, cap, css, rfl, q1, q2, q3, q4⟩ := leaf_row (a := ⟨A0, []⟩) hr hleaf hu
      refine ⟨ad, cap, css, rfl, q1, fun i x hx => (q2 i x hx).mono (fun _ h => .inl h) (fun _ _ => rfl), fun hn => ?_, q4⟩
      obtain ⟨b, o, k1, k2, k3, k4⟩ := q3 hn
      refine ⟨b, o, k1, ?_, k2⟩
      by_cases hal : τ ∈ σ.al
      · refine .inr ⟨?_, τ, hal, hex, (k4 (hr.alr τ hal).1).2⟩
        cases sh with
        | false => rfl
        | true => exact absurd hal (hsh rfl)
      · exact .inl (k3 hal)
theorem al_inj (hr : RelE X E σ A0 w) {τ υ b : Nat} (h1 : τ ∈ σ.al) (h2 : υ ∈ σ.al) (h3 : E.hd τ = some b) (h4 : E.hd υ = some b) : τ = υ := by
  have hn := hr.nodup
  simp only [owned] at hn
  have hn2 := (List.nodup_append.1 (List.nodup_append.1 hn).2.1).1
  clear hn
  have key : ∀ l : List Nat, (l.flatMap (tokB E)).Nodup → τ ∈ l → υ ∈ l → τ = υ := by
    intro l
    induction l with
    | nil => intro _ h; cases h
    | cons c l ih =>
      intro hn ht hu
      simp only [List.flatMap_cons, List.nodup_append] at hn
      have mem : ∀ {ρ : Nat}, ρ ∈ l → E.hd ρ = some b → b ∈ l.flatMap (tokB E) := fun hρ hb => List.mem_flatMap.2 ⟨_, hρ, by simp [tokB, hb]⟩
      have memc : ∀ {ρ : Nat}, E.hd ρ = some b → b ∈ tokB E ρ := fun hb => by simp [tokB, hb]
      rcases List.mem_cons.1 ht with h5 | ht' <;> rcases List.mem_cons.1 hu with h6 | hu'
      · rw [h5, h6]
      · exact absurd rfl (hn.2.2 b (h5 ▸ memc h3) b (mem hu' h4))
      · exact absurd rfl (hn.2.2 b (h6 ▸ memc h4) b (mem ht' h3))
      · exact ih hn.2.1 ht' hu'
  exact key _ hn2 h1 h2
theorem bx_al (hr : RelE X E σ A0 w) {q : Bx} {τ b : Nat} (h1 : q ∈ σ.bx) (h2 : τ ∈ σ.al) (h3 : E.hd τ = some b) : (E.ad q.id).1 ≠ b := fun he => by
  have hn := hr.nodup
  simp only [owned] at hn
  exact (List.nodup_append.1 hn).2.2 _ (List.mem_map.2 ⟨q, h1, rfl⟩) b (List.mem_append_left _ (List.mem_flatMap.2 ⟨τ, h2, by simp [tokB, h3]⟩)) he
theorem bx_out (hr : RelE X E σ A0 w) {q : Bx} {b : Nat} (h1 : q ∈ σ.bx) (h2 : b ∈ E.out) : (E.ad q.id).1 ≠ b := fun he => by
  have hn := hr.nodup
  simp only [owned] at hn
  exact (List.nodup_append.1 hn).2.2 _ (List.mem_map.2 ⟨q, h1, rfl⟩) b (List.mem_append_right _ h2) he
theorem al_out (hr : RelE X E σ A0 w) {τ b : Nat} (h1 : τ ∈ σ.al) (h2 : E.hd τ = some b) : b ∉ E.out := fun h => by
  have hn := hr.nodup
  simp only [owned] at hn
  exact (List.nodup_append.1 (List.nodup_append.1 hn).2.1).2.2 b (List.mem_flatMap.2 ⟨τ, h1, by simp [tokB, h2]⟩) b h rfl
theorem bx_inj (hr : RelE X E σ A0 w) {q q' : Bx} (h1 : q ∈ σ.bx) (h2 : q' ∈ σ.bx) (h3 : (E.ad q.id).1 = (E.ad q'.id).1) : q = q' := by
  have hn := hr.nodup
  simp only [owned] at hn
  exact inj_of_nodup (f := fun b : Bx => (E.ad b.id).1) (List.nodup_append.1 hn).1 h1 h2 h3
theorem mem_out (hr : RelE X E σ A0 w) {b : Nat} (h : b ∈ E.out) : b ∈ owned E σ := List.mem_append_right _ (List.mem_append_right _ h)
/-- The row that stands at a home. -/
theorem rowTok_ok (hr : RelE X E σ A0 w) {h : Home} {υ : Nat} (ht : rowTok σ h = some υ) (hal : υ ∈ σ.al) {b : Nat} (hb : E.hd υ = some b) : ∃ c e, w.heap[b]? = some (.cells c e (0, 0)) := by
  unfold rowTok rowK at ht
  cases hy : σ.root h.root with
  | none => simp [hy] at ht
  | some y =>
    simp only [hy] at ht
    obtain ⟨cs, h1, h2, _⟩ := root_cells (a := ⟨A0, []⟩) hr hy
    obtain ⟨z, d, q1, q2, _⟩ := get_ok (by have := hr.nt2; omega) (fun h => by have := (hr.alr 0 h).1; omega) ht h1 h2
    obtain ⟨zt, zv, zm⟩ := z
    cases zt with
    | sl e u =>
      simp only [Option.some.injEq] at q1
      subst q1
      obtain ⟨c, _, _, ad, cap, rfl, _, _, k1, k2⟩ := q2
      obtain ⟨css, hown, _⟩ := k2 hal
      have k3 := k1 (hr.alr _ hal).1
      rw [hb] at k3
      simp only [Option.map_some] at k3
      subst k3
      rcases hown.2 with ⟨e1, _⟩ | ⟨g, cap', cur, e1, _, hg, _⟩
      · cases e1
      · simp only [Value.slice.injEq, Option.some.injEq, Addr.mk.injEq, and_true, true_and] at e1
        obtain ⟨rfl, _⟩ := e1
        exact ⟨cur, e, hg⟩
    | _ => simp at q1
def blk (E : Env) (e : Nat × Nat) : Option Nat := if e.1 = 0 then E.hd e.2 else some (E.ad e.2).1
/-- What is lent for writing: there, and one's own. -/
def Valid (σ : St) (e : Nat × Nat) : Prop := (e.1 = 1 ∧ ∃ q ∈ σ.bx, q.id = e.2) ∨ (e.1 = 0 ∧ e.2 ∈ σ.al)
theorem blk_owned (hr : RelE X E σ A0 w) {e : Nat × Nat} (hv : Valid σ e) {b : Nat} (hb : blk E e = some b) : b ∈ owned E σ ∧ b ∉ E.out := by
  obtain ⟨k, i⟩ := e
  rcases hv with ⟨h1, q, hq, h2⟩ | ⟨h1, h2⟩
  · dsimp only at h1 h2; subst h1; subst h2
    simp [blk] at hb
    subst hb
    exact ⟨mem_owned_bx hq, fun h => bx_out hr hq h rfl⟩
  · dsimp only at h1 h2; subst h1
    simp [blk] at hb
    exact ⟨mem_owned_al h2 hb, al_out hr h2 hb⟩
theorem blk_inj (hr : RelE X E σ A0 w) {e f : Nat × Nat} (he : Valid σ e) (hf : Valid σ f) {b : Nat} (h1 : blk E e = some b) (h2 : blk E f = some b) : e = f := by
  obtain ⟨k, i⟩ := e
  obtain ⟨l, j⟩ := f
  rcases he with ⟨e1, q, hq, e2⟩ | ⟨e1, e2⟩ <;> rcases hf with ⟨f1, q', hq', f2⟩ | ⟨f1, f2⟩ <;> dsimp only at e1 e2 f1 f2 <;> subst e1 <;> subst f1 <;> simp [blk] at h1 h2
  · subst e2; subst f2
    rw [bx_inj hr hq hq' (h1.trans h2.symm)]
  · subst e2
    exact absurd h1 (bx_al hr hq f2 h2)
  · subst f2
    exact absurd h2 (bx_al hr hq' e2 h1)
  · rw [al_inj hr e2 f2 h1 h2]
end
end Go.Proofs.Ytopeacfbcdoljaa.V
