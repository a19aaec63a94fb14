/- The relation between the evaluator's state and the machine's, and how it is kept. -/
import Derived.Test.YtopeacfbcdoljaaVb
namespace Go.Proofs.Ytopeacfbcdoljaa.V
open Go

def At (w : World) (b o : Nat) (cs : List Value) : Prop := ∀ j v, cs[j]? = some v → w.cell? ⟨b, o + j, none⟩ = some v
/-- Element i of a row's cells. -/
abbrev seg (cs : List Value) (n i : Nat) : List Value := (cs.drop (i * n)).take n
/-- What is read (nothing of it is written): blocks in A. -/
def Rf (w : World) (A : Nat → Prop) : (t : Ty) → t.den → List Value → Prop
  | .int k, n, cs => cs = [.int k n]
  | .bool, b, cs => cs = [.bool b]
  | .str, s, cs => cs = [.string ⟨(s : List UInt8).toArray⟩]
  | .unit, _, cs => cs = []
  | .pair a b, v, cs => ∃ c1 c2, cs = c1 ++ c2 ∧ Rf w A a v.1 c1 ∧ Rf w A b v.2 c2
  | .st t, v, cs => Rf w A t v cs
  | .arr n t, v, cs => (v : List t.den).length = n ∧ cs.length = n * t.size ∧ (∀ (i : Nat) (x : t.den), (v : List t.den)[i]? = some x → Rf w A t x (seg cs t.size i)) ∧ t.nl = 0
  | .sl _ t, v, cs => ∃ ad cap css, cs = [.slice ad (v : List t.den).length cap] ∧ css.length = (v : List t.den).length * t.size ∧
      (∀ (i : Nat) (x : t.den), (v : List t.den)[i]? = some x → Rf w A t x (seg css t.size i)) ∧ (css ≠ [] → ∃ b o, ad = some ⟨b, o, none⟩ ∧ A b ∧ At w b o css) ∧ (v : List t.den).length ≤ cap

structure Env where
  ad : Nat → Nat × Nat
  hd : Nat → Option Nat
  /-- Blocks given away. -/
  out : List Nat
  /-- Blocks looked at through a pointer. -/
  pin : Nat → Prop
def Env.tok (E : Env) (τ : Nat) (g : Option Nat) : Env := { E with hd := fun υ => if υ = τ then g else E.hd υ }
def tokB (E : Env) (τ : Nat) : List Nat := (E.hd τ).toList
def owned (E : Env) (σ : St) : List Nat := σ.bx.map (fun b => (E.ad b.id).1) ++ (σ.al.flatMap (tokB E) ++ E.out)
def frz (σ : St) (τ : Nat) : Prop := τ = 0 ∨ τ ∈ σ.fz
/-- A slice outside of slices. -/
def Leaf (w : World) (A : Nat → Prop) (E : Env) (σ : St) (e : TypeId) (t : Ty) (τ : Nat) (xs : List t.den) (c : Value) : Prop :=
  τ < σ.nt ∧ ∃ ad cap, c = .slice ad xs.length cap ∧ (frz σ τ → Rf w A (.sl e t) xs [c]) ∧ (τ = 1 → ad = none ∧ cap = 0 ∧ xs = []) ∧
    (2 ≤ τ → ad = (E.hd τ).map fun b => ⟨b, 0, none⟩) ∧
    (τ ∈ σ.al → ∃ css, w.ownsRow 0 e t.size c xs.length css ∧ ∀ (i : Nat) (x : t.den), xs[i]? = some x → Rf w A t x (seg css t.size i))
def Rv (w : World) (A : Nat → Prop) (E : Env) (σ : St) : (t : Ty) → t.den → List Nat → List Value → Prop
  | .int k, n, _, cs => cs = [.int k n]
  | .bool, b, _, cs => cs = [.bool b]
  | .str, s, _, cs => cs = [.string ⟨(s : List UInt8).toArray⟩]
  | .unit, _, _, cs => cs = []
  | .pair a b, v, ms, cs => ∃ c1 c2, cs = c1 ++ c2 ∧ Rv w A E σ a v.1 (ms.take a.nl) c1 ∧ Rv w A E σ b v.2 (ms.drop a.nl) c2
  | .st t, v, ms, cs => Rv w A E σ t v ms cs
  | .arr n t, v, _, cs => (v : List t.den).length = n ∧ cs.length = n * t.size ∧ (∀ (i : Nat) (x : t.den), (v : List t.den)[i]? = some x → Rf w A t x (seg cs t.size i)) ∧ t.nl = 0
  | .sl e t, v, ms, cs => ∃ c, cs = [c] ∧ Leaf w A E σ e t (ms.headD 0) v c

def toVal (t : Ty) (cs : List Value) : Value := if t.agg then .agg cs.toArray else cs.headD undef
def ValOk (w : World) (A : Nat → Prop) (E : Env) (σ : St) (x : Val) (v : Value) : Prop := ∃ cs, Rv w A E σ x.t x.v x.ms cs ∧ v = toVal x.t cs ∧ x.ms.length = x.t.nl
/-- The place that a path leads to. -/
def addr : (t : Ty) → Nat × Nat → List Sel → Option (Ty × (Nat × Nat))
  | t, p, [] => some (t, p)
  | .st t, p, s :: r => addr t p (s :: r)
  | .pair a _, p, .fst :: r => addr a p r
  | .pair a b, p, .snd :: r => addr b (p.1, p.2 + a.size) r
  | .arr n t, p, .ix i :: r => if i < n then addr t (p.1, p.2 + i * t.size) r else none
  | _, _, _ => none
def SlotOk (w : World) (A : Nat → Prop) (E : Env) (σ : St) : Slot → Value → Prop
  | .no, _ => True
  | .nilsl, v => v = .slice none 0 0
  | .val x _, v => ValOk w A E σ x v
  | .ptr id r p t, v => id < σ.nt ∧ ∃ b o, v = .pointer (some ⟨b, o, none⟩) ∧ addr r (E.ad id) p = some (t, (b, o))
  | .eptr _ τ i u p t, v => (2 ≤ τ ∧ τ < σ.nt) ∧ ∃ g b o, E.hd τ = some g ∧ v = .pointer (some ⟨b, o, none⟩) ∧ addr u (g, i * u.size) p = some (t, (b, o))
  | .rptr τ x, v => τ < σ.nt ∧ ∃ b o, v = .pointer (some ⟨b, o, none⟩) ∧ ((frz σ τ ∨ τ ∈ σ.al) → ∃ cs, Rv w A E σ x.t x.v x.ms cs ∧ x.ms.length = x.t.nl ∧ At w b o cs ∧ (τ ∈ σ.al → E.hd τ = some b) ∧ (τ ∉ σ.al → A b ∨ E.pin b))
  | .clo f _, v => v = .func (.func f) #[] #[]
  | .tup l, v => ∃ vs : List Value, v = .tuple vs.toArray ∧ vs.length = l.length ∧ ∀ (i : Nat) x u, l[i]? = some x → vs[i]? = some u → ValOk w A E σ x u
def BxOk (w : World) (A : Nat → Prop) (E : Env) (σ : St) (b : Bx) : Prop :=
  ∃ cs c e, Rv w A E σ b.x.t b.x.v b.x.ms cs ∧ b.x.ms.length = b.x.t.nl ∧ w.heap[(E.ad b.id).1]? = some (.cells c e (0, 0)) ∧ (E.ad b.id).2 + cs.length ≤ c.size ∧ At w (E.ad b.id).1 (E.ad b.id).2 cs

/-- What doesn't turn in a call: where it began, what it may look at, which cells it may write. -/
structure Ctx where
  w0 : World
  ok : Nat → Prop
  M : Nat → Nat → Prop
  fps : List Nat
  pbx : List (Nat × (Nat × Nat) × Nat)
  thx : List (Nat × Option Nat)
/-- Cells outside of M are as they were. -/
structure Fr (M : Nat → Nat → Prop) (w w' : World) : Prop where
  os : w'.os = w.os
  tape : w'.tape = w.tape
  output : w'.output = w.output
  size : w.heap.size ≤ w'.heap.size
  block : ∀ b, b < w.heap.size → w'.heap[b]? = w.heap[b]? ∨ ∃ c c' e, w.heap[b]? = some (.cells c e (0, 0)) ∧ w'.heap[b]? = some (.cells c' e (0, 0)) ∧ c'.size = c.size ∧ ∀ o, ¬ M b o → c'[o]? = c[o]?
/-- The blocks that are read and not written. -/
def Fz (X : Ctx) (E : Env) (σ : St) (w : World) (b : Nat) : Prop := X.ok b ∧ b < w.heap.size ∧ b ∉ owned E σ
structure RelE (X : Ctx) (E : Env) (σ : St) (a : Array Value) (w : World) : Prop where
  len : σ.fr.length = a.size
  slot : ∀ (i : Nat) s v, σ.fr[i]? = some s → a[i]? = some v → SlotOk w (Fz X E σ w) E σ s v
  bx : ∀ b ∈ σ.bx, BxOk w (Fz X E σ w) E σ b
  nodup : (owned E σ).Nodup
  lt : ∀ b ∈ owned E σ, b < w.heap.size ∧ X.ok b
  ids : (σ.bx.map (·.id)).Nodup
  idlt : ∀ b ∈ σ.bx, b.id < σ.nt
  aln : σ.al.Nodup
  alr : ∀ τ ∈ σ.al, 2 ≤ τ ∧ τ < σ.nt ∧ τ ∉ σ.fz
  fzr : ∀ τ ∈ σ.fz, 2 ≤ τ ∧ τ < σ.nt
  nt2 : 2 ≤ σ.nt
  hd0 : ∀ τ, τ < 2 → E.hd τ = none
  new : ∀ b, X.w0.heap.size ≤ b → X.ok b
  fr : Fr X.M X.w0 w
  srct : ∀ τ ∈ σ.al, ∀ b, E.hd τ = some b → (b ∈ X.fps ∨ X.w0.heap.size ≤ b)
  srcb : ∀ b ∈ σ.bx, (b.id, E.ad b.id, b.x.t.size) ∈ X.pbx ∨ X.w0.heap.size ≤ (E.ad b.id).1
  pbm : ∀ e ∈ X.pbx, ∀ j, e.2.1.2 ≤ j → j < e.2.1.2 + e.2.2 → X.M e.2.1.1 j
  srco : ∀ b ∈ E.out, b ∈ X.fps ∨ X.w0.heap.size ≤ b
  lnr : ∀ p ∈ σ.ln, E.hd p.1 = E.hd p.2
  lnlt : ∀ p ∈ σ.ln, p.1 < σ.nt ∧ p.2 < σ.nt
  fpm : ∀ b ∈ X.fps, ∀ o, X.M b o
  pinlt : ∀ b, E.pin b → b < w.heap.size ∧ b ∉ owned E σ
  adx : ∀ e ∈ X.pbx, e.1 < σ.nt ∧ E.ad e.1 = e.2.1
  hdx : ∀ e ∈ X.thx, e.1 < σ.nt ∧ E.hd e.1 = e.2
def Rel (X : Ctx) (σ : St) (a : Array Value) (w : World) : Prop := ∃ E, RelE X E σ a w

theorem ownsRow_cap {w : World} {base size n cap : Nat} {e : TypeId} {ad : Option Addr} {xs : List Value} (h : w.ownsRow base e size (.slice ad n cap) n xs) : n ≤ cap := by
  rcases h.2 with ⟨_, e2⟩ | ⟨g, cap', cur, e1, _, _, hle, _⟩
  · omega
  · simp only [Value.slice.injEq] at e1
    omega
-- ---------------------------------------------------------------- lengths, and other worlds
theorem seg_length {cs : List Value} {n m i : Nat} (h : cs.length = m * n) (hi : i < m) : (seg cs n i).length = n := by
  have : (i + 1) * n ≤ m * n := Nat.mul_le_mul_right _ hi
  simp only [seg, List.length_take, List.length_drop]
  rw [Nat.add_mul] at this; omega
theorem Rf.length {w : World} {A : Nat → Prop} : ∀ {t : Ty} {v : t.den} {cs : List Value}, Rf w A t v cs → cs.length = t.size := by
  intro t
  induction t with
  | int k => intro v cs h; simp only [Rf] at h; subst h; rfl
  | bool => intro v cs h; simp only [Rf] at h; subst h; rfl
  | str => intro v cs h; simp only [Rf] at h; subst h; rfl
  | unit => intro v cs h; simp only [Rf] at h; subst h; rfl
  | pair a b iha ihb =>
    intro v cs h; obtain ⟨c1, c2, rfl, h1, h2⟩ := h
    rw [List.length_append, iha h1, ihb h2]; rfl
  | st t ih => intro v cs h; exact ih h
  | arr n t _ => intro v cs h; exact h.2.1
  | sl e t _ => intro v cs h; obtain ⟨ad, cap, css, rfl, _⟩ := h; rfl
theorem Rv.length {w : World} {A : Nat → Prop} {E : Env} {σ : St} : ∀ {t : Ty} {v : t.den} {ms : List Nat} {cs : List Value}, Rv w A E σ t v ms cs → cs.length = t.size := by
  intro t
  induction t with
  | int k => intro v ms cs h; simp only [Rv] at h; subst h; rfl
  | bool => intro v ms cs h; simp only [Rv] at h; subst h; rfl
  | str => intro v ms cs h; simp only [Rv] at h; subst h; rfl
  | unit => intro v ms cs h; simp only [Rv] at h; subst h; rfl
  | pair a b iha ihb =>
    intro v ms cs h; obtain ⟨c1, c2, rfl, h1, h2⟩ := h
    rw [List.length_append, iha h1, ihb h2]; rfl
  | st t ih => intro v ms cs h; exact ih h
  | arr n t _ => intro v ms cs h; exact h.2.1
  | sl e t _ => intro v ms cs h; obtain ⟨c, rfl, _⟩ := h; rfl
theorem At.append {w : World} {b o : Nat} {c1 c2 : List Value} : At w b o (c1 ++ c2) ↔ At w b o c1 ∧ At w b (o + c1.length) c2 := by
  constructor
  · intro h
    refine ⟨fun j v hv => h j v ?_, fun j v hv => ?_⟩
    · rw [List.getElem?_append_left]; exact hv
      exact (List.getElem?_eq_some_iff.1 hv).1
    · have := h (c1.length + j) v (by rw [List.getElem?_append_right (by omega)]; simpa using hv)
      rwa [Nat.add_assoc]
  · intro ⟨h1, h2⟩ j v hv
    by_cases hj : j < c1.length
    · rw [List.getElem?_append_left hj] at hv; exact h1 j v hv
    · rw [List.getElem?_append_right (by omega)] at hv
      have := h2 _ v hv
      rwa [Nat.add_assoc, Nat.add_sub_cancel' (by omega)] at this
theorem At.seg {w : World} {b o n i : Nat} {cs : List Value} (h : At w b o cs) : At w b (o + i * n) (seg cs n i) := by
  intro j v hv
  simp only [V.seg, List.getElem?_take] at hv
  split at hv
  · rw [List.getElem?_drop] at hv
    have := h _ v hv
    rwa [Nat.add_assoc]
  · cases hv
theorem cell_of_heap {w w' : World} {b o : Nat} (h : w'.heap[b]? = w.heap[b]?) : w'.cell? ⟨b, o, none⟩ = w.cell? ⟨b, o, none⟩ := by simp [World.cell?, h]
theorem At.mono {w w' : World} {b o : Nat} {cs : List Value} (h : At w b o cs) (hb : w'.heap[b]? = w.heap[b]?) : At w' b o cs :=
  fun j v hv => (cell_of_heap hb).trans (h j v hv)
theorem Rf.mono {w w' : World} {A A' : Nat → Prop} (hA : ∀ b, A b → A' b) (hw : ∀ b, A b → w'.heap[b]? = w.heap[b]?) : ∀ {t : Ty} {v : t.den} {cs : List Value}, Rf w A t v cs → Rf w' A' t v cs := by
  intro t
  induction t with
  | int k => intro v cs h; exact h
  | bool => intro v cs h; exact h
  | str => intro v cs h; exact h
  | unit => intro v cs h; exact h
  | pair a b iha ihb => intro v cs h; obtain ⟨c1, c2, e, h1, h2⟩ := h; exact ⟨c1, c2, e, iha h1, ihb h2⟩
  | st t ih => intro v cs h; exact ih h
  | arr n t ih => intro v cs h; exact ⟨h.1, h.2.1, fun i x hx => ih (h.2.2.1 i x hx), h.2.2.2⟩
  | sl e t ih =>
    intro v cs h; obtain ⟨ad, cap, css, e1, e2, h1, h2, h3⟩ := h
    exact ⟨ad, cap, css, e1, e2, fun i x hx => ih (h1 i x hx), fun hn => by
      obtain ⟨b, o, e3, hb, hat⟩ := h2 hn
      exact ⟨b, o, e3, hA b hb, hat.mono (hw b hb)⟩, h3⟩
/-- From one state and world to another: what is told of slots stays true. -/
structure Keep (w w' : World) (A A' : Nat → Prop) (E E' : Env) (σ σ' : St) : Prop where
  A : ∀ b, A b → A' b ∧ w'.heap[b]? = w.heap[b]?
  nt : σ.nt ≤ σ'.nt
  hd : ∀ τ, τ < σ.nt → E'.hd τ = E.hd τ
  ad : ∀ i, i < σ.nt → E'.ad i = E.ad i
  fz : ∀ τ, τ < σ.nt → τ ∈ σ'.fz → τ ∈ σ.fz ∨ (τ ∈ σ.al ∧ ∀ b, E.hd τ = some b → A' b ∧ w'.heap[b]? = w.heap[b]?)
  al : ∀ τ, τ < σ.nt → τ ∈ σ'.al → τ ∈ σ.al ∧ ∀ b, E.hd τ = some b → w'.heap[b]? = w.heap[b]?
  ge : ∀ τ ∈ σ.al, 2 ≤ τ ∧ τ ∉ σ.fz
  pin : ∀ b, E.pin b → E'.pin b ∧ w'.heap[b]? = w.heap[b]?
section
variable {w w' : World} {A A' : Nat → Prop} {E E' : Env} {σ σ' : St}
theorem Keep.leaf (K : Keep w w' A A' E E' σ σ') {e : TypeId} {t : Ty} {τ : Nat} {xs : List t.den} {c : Value}
    (h : Leaf w A E σ e t τ xs c) : Leaf w' A' E' σ' e t τ xs c := by
  obtain ⟨hlt, ad, cap, rfl, hf, h1, hh, ho⟩ := h
  refine ⟨Nat.lt_of_lt_of_le hlt K.nt, ad, cap, rfl, fun hz' => ?_, h1, fun h2 => (hh h2).trans (by rw [K.hd τ hlt]), fun hal => ?_⟩
  · have hz : frz σ τ ∨ (τ ∈ σ.al ∧ ∀ b, E.hd τ = some b → A' b ∧ w'.heap[b]? = w.heap[b]?) := by
      rcases hz' with h0 | h0
      · exact .inl (.inl h0)
      · rcases K.fz τ hlt h0 with h | h
        · exact .inl (.inr h)
        · exact .inr h
    rcases hz with h | ⟨hal, hb⟩
    · exact (hf h).mono (fun b hb => (K.A b hb).1) (fun b hb => (K.A b hb).2)
    · obtain ⟨css, hown, hrs⟩ := ho hal
      refine ⟨ad, cap, css, rfl, hown.1, fun i x hx => (hrs i x hx).mono (fun b hb => (K.A b hb).1) (fun b hb => (K.A b hb).2), fun hn => ?_, ownsRow_cap hown⟩
      rcases hown.2 with ⟨e1, e2⟩ | ⟨g, cap', cur, e1, _, hg, hle, _, hsz, htk⟩
      · have : css = [] := List.eq_nil_of_length_eq_zero (by rw [hown.1, e2, Nat.zero_mul])
        exact absurd this hn
      · simp only [Value.slice.injEq] at e1
        obtain ⟨rfl, _, rfl⟩ := e1
        have hE := hh (K.ge τ hal).1
        cases hd : E.hd τ with
        | none => rw [hd] at hE; simp at hE
        | some b =>
          rw [hd] at hE; simp at hE; subst hE
          refine ⟨g, 0, rfl, (hb g hd).1, At.mono (w := w) (fun j v hv => ?_) (hb g hd).2⟩
          rw [Nat.zero_add, cell_of_row w g j cur e (0, 0) hg]
          rw [← htk, List.getElem?_take] at hv
          split at hv
          · simpa using hv
          · cases hv
  · obtain ⟨hal', hb⟩ := K.al τ hlt hal
    obtain ⟨css, hown, hrs⟩ := ho hal'
    refine ⟨css, ⟨hown.1, ?_⟩, fun i x hx => (hrs i x hx).mono (fun b hb => (K.A b hb).1) (fun b hb => (K.A b hb).2)⟩
    rcases hown.2 with h | ⟨g, cap', cur, e1, hb0, hg, rest⟩
    · exact .inl h
    · refine .inr ⟨g, cap', cur, e1, hb0, ?_, rest⟩
      simp only [Value.slice.injEq] at e1
      obtain ⟨rfl, _, rfl⟩ := e1
      have hE := hh (K.ge τ hal').1
      cases hd : E.hd τ with
      | none => rw [hd] at hE; simp at hE
      | some b => rw [hd] at hE; simp at hE; subst hE; rw [hb g hd]; exact hg
theorem Keep.rf (K : Keep w w' A A' E E' σ σ') {t : Ty} {v : t.den} {cs : List Value} (h : Rf w A t v cs) : Rf w' A' t v cs :=
  h.mono (fun b hb => (K.A b hb).1) (fun b hb => (K.A b hb).2)
theorem Keep.rv (K : Keep w w' A A' E E' σ σ') : ∀ {t : Ty} {v : t.den} {ms : List Nat} {cs : List Value}, Rv w A E σ t v ms cs → Rv w' A' E' σ' t v ms cs := by
  intro t
  induction t with
  | int k => intro v ms cs h; exact h
  | bool => intro v ms cs h; exact h
  | str => intro v ms cs h; exact h
  | unit => intro v ms cs h; exact h
  | pair a b iha ihb => intro v ms cs h; obtain ⟨c1, c2, e, h1, h2⟩ := h; exact ⟨c1, c2, e, iha h1, ihb h2⟩
  | st t ih => intro v ms cs h; exact ih h
  | arr n t _ => intro v ms cs h; exact ⟨h.1, h.2.1, fun i x hx => K.rf (h.2.2.1 i x hx), h.2.2.2⟩
  | sl e t _ => intro v ms cs h; obtain ⟨c, e1, h1⟩ := h; exact ⟨c, e1, K.leaf h1⟩
theorem Keep.val (K : Keep w w' A A' E E' σ σ') {x : Val} {v : Value} (h : ValOk w A E σ x v) : ValOk w' A' E' σ' x v := by
  obtain ⟨cs, h1, h2, h3⟩ := h; exact ⟨cs, K.rv h1, h2, h3⟩
theorem Keep.slot (K : Keep w w' A A' E E' σ σ') {s : Slot} {v : Value} (h : SlotOk w A E σ s v) : SlotOk w' A' E' σ' s v := by
  cases s with
  | no => trivial
  | nilsl => exact h
  | val x _ => exact K.val h
  | ptr id r p t => obtain ⟨h0, b, o, h1, h2⟩ := h; exact ⟨Nat.lt_of_lt_of_le h0 K.nt, b, o, h1, by rw [K.ad id h0]; exact h2⟩
  | eptr h0 τ i u p t =>
    obtain ⟨h0, g, b, o, h1, h2⟩ := h
    exact ⟨⟨h0.1, Nat.lt_of_lt_of_le h0.2 K.nt⟩, g, b, o, by rw [K.hd τ h0.2]; exact h1, h2⟩
  | rptr τ x =>
    obtain ⟨h0, b, o, h1, h2⟩ := h
    refine ⟨Nat.lt_of_lt_of_le h0 K.nt, b, o, h1, fun hu => ?_⟩
    have key : (frz σ τ ∨ τ ∈ σ.al) ∧ ((τ ∈ σ.al → E.hd τ = some b) → (τ ∉ σ.al → A b ∨ E.pin b) → w'.heap[b]? = w.heap[b]? ∧ (τ ∉ σ'.al → A' b ∨ E'.pin b)) := by
      rcases hu with hz | hal
      · have : frz σ τ ∨ (τ ∈ σ.al ∧ ∀ b, E.hd τ = some b → A' b ∧ w'.heap[b]? = w.heap[b]?) := by
          rcases hz with h | h
          · exact .inl (.inl h)
          · rcases K.fz τ h0 h with h | h
            · exact .inl (.inr h)
            · exact .inr h
        rcases this with h | ⟨h, hb⟩
        · refine ⟨.inl h, fun _ hA => ?_⟩
          have hn : τ ∉ σ.al := fun hal => by
            have := K.ge τ hal
            rcases h with h | h
            · omega
            · exact this.2 h
          rcases hA hn with hA | hA
          · exact ⟨(K.A b hA).2, fun _ => .inl (K.A b hA).1⟩
          · exact ⟨(K.pin b hA).2, fun _ => .inr (K.pin b hA).1⟩
        · exact ⟨.inr h, fun he _ => ⟨(hb b (he h)).2, fun _ => .inl (hb b (he h)).1⟩⟩
      · obtain ⟨h, hb⟩ := K.al τ h0 hal
        exact ⟨.inr h, fun he _ => ⟨hb b (he h), fun hn => absurd hal hn⟩⟩
    obtain ⟨cs, h3, h4, h5, h6, h7⟩ := h2 key.1
    obtain ⟨k1, k2⟩ := key.2 h6 h7
    exact ⟨cs, K.rv h3, h4, h5.mono k1, fun hal => (K.hd τ h0).trans (h6 (K.al τ h0 hal).1), k2⟩
  | clo f c => exact h
  | tup l => obtain ⟨vs, h1, h2, h3⟩ := h; exact ⟨vs, h1, h2, fun i x u hx hu => K.val (h3 i x u hx hu)⟩
theorem Keep.bx (K : Keep w w' A A' E E' σ σ') {b : Bx} (h : BxOk w A E σ b) (hid : b.id < σ.nt) (hb : w'.heap[(E.ad b.id).1]? = w.heap[(E.ad b.id).1]?) : BxOk w' A' E' σ' b := by
  obtain ⟨cs, c, e, h1, h2, h3, h4, h5⟩ := h
  exact ⟨cs, c, e, K.rv h1, h2, by rw [K.ad _ hid, hb]; exact h3, by rw [K.ad _ hid]; exact h4, by rw [K.ad _ hid]; exact h5.mono hb⟩
end
theorem Keep.trans {w w1 w2 : World} {A A1 A2 : Nat → Prop} {E E1 E2 : Env} {σ σ1 σ2 : St} (h : Keep w w1 A A1 E E1 σ σ1) (k : Keep w1 w2 A1 A2 E1 E2 σ1 σ2) : Keep w w2 A A2 E E2 σ σ2 :=
  ⟨fun b hb => ⟨(k.A b (h.A b hb).1).1, (k.A b (h.A b hb).1).2.trans (h.A b hb).2⟩, Nat.le_trans h.nt k.nt, fun τ ht => (k.hd τ (Nat.lt_of_lt_of_le ht h.nt)).trans (h.hd τ ht),
    fun i hi => (k.ad i (Nat.lt_of_lt_of_le hi h.nt)).trans (h.ad i hi),
    fun τ ht hf => by
      rcases k.fz τ (Nat.lt_of_lt_of_le ht h.nt) hf with h1 | ⟨h1, h2⟩
      · rcases h.fz τ ht h1 with h3 | ⟨h3, h4⟩
        · exact .inl h3
        · exact .inr ⟨h3, fun b hb => ⟨(k.A b (h4 b hb).1).1, (k.A b (h4 b hb).1).2.trans (h4 b hb).2⟩⟩
      · obtain ⟨h3, h4⟩ := h.al τ ht h1
        exact .inr ⟨h3, fun b hb => ⟨(h2 b ((h.hd τ ht).trans hb)).1, (h2 b ((h.hd τ ht).trans hb)).2.trans (h4 b hb)⟩⟩,
    fun τ ht hf => by
      obtain ⟨h1, h2⟩ := k.al τ (Nat.lt_of_lt_of_le ht h.nt) hf
      obtain ⟨h3, h4⟩ := h.al τ ht h1
      exact ⟨h3, fun b hb => (h2 b ((h.hd τ ht).trans hb)).trans (h4 b hb)⟩, h.ge,
    fun b hb => ⟨(k.pin b (h.pin b hb).1).1, (k.pin b (h.pin b hb).1).2.trans (h.pin b hb).2⟩⟩
/-- Nothing that was there has turned. -/
structure Ext (w w' : World) : Prop where
  os : w'.os = w.os
  tape : w'.tape = w.tape
  output : w'.output = w.output
  size : w.heap.size ≤ w'.heap.size
  block : ∀ b, b < w.heap.size → w'.heap[b]? = w.heap[b]?
theorem Ext.refl (w : World) : Ext w w := ⟨rfl, rfl, rfl, Nat.le_refl _, fun _ _ => rfl⟩
theorem Ext.trans {a b c : World} (h : Ext a b) (k : Ext b c) : Ext a c :=
  ⟨k.os.trans h.os, k.tape.trans h.tape, k.output.trans h.output, Nat.le_trans h.size k.size, fun i hi => (k.block i (Nat.lt_of_lt_of_le hi h.size)).trans (h.block i hi)⟩
theorem Ext.drew (w : World) : Ext w w.drew := ⟨rfl, rfl, rfl, Nat.le_refl _, fun _ _ => rfl⟩
theorem Ext.alloc (w : World) (o : Obj) : Ext w (w.alloc o) := ⟨rfl, rfl, rfl, by simp, fun b hb => by show (w.heap.push o)[b]? = _; rw [Array.getElem?_push, if_neg (by omega)]⟩
theorem Fr.ext {M : Nat → Nat → Prop} {w0 w w' : World} (h : Fr M w0 w) (k : Ext w w') : Fr M w0 w' := by
  refine ⟨k.os.trans h.os, k.tape.trans h.tape, k.output.trans h.output, Nat.le_trans h.size k.size, fun b hb => ?_⟩
  rw [k.block b (Nat.lt_of_lt_of_le hb h.size)]
  exact h.block b hb
theorem RelE.keepExt {X : Ctx} {E : Env} {σ : St} {a : Array Value} {w w' : World} (h : RelE X E σ a w) (k : Ext w w') :
    Keep w w' (Fz X E σ w) (Fz X E σ w') E E σ σ :=
  ⟨fun b hb => ⟨⟨hb.1, Nat.lt_of_lt_of_le hb.2.1 k.size, hb.2.2⟩, k.block b hb.2.1⟩, Nat.le_refl _, fun _ _ => rfl, fun _ _ => rfl, fun _ _ h => .inl h,
    fun τ _ ht => ⟨ht, fun b hb => k.block b (h.lt b (List.mem_append_right _ (List.mem_append_left _ (List.mem_flatMap.2 ⟨τ, ht, by simp [tokB, hb]⟩)))).1⟩,
    fun τ ht => ⟨(h.alr τ ht).1, (h.alr τ ht).2.2⟩, fun b hb => ⟨hb, k.block b (h.pinlt b hb).1⟩⟩
theorem mem_owned_bx {E : Env} {σ : St} {b : Bx} (h : b ∈ σ.bx) : (E.ad b.id).1 ∈ owned E σ := List.mem_append_left _ (List.mem_map.2 ⟨b, h, rfl⟩)
theorem mem_owned_al {E : Env} {σ : St} {τ b : Nat} (h : τ ∈ σ.al) (hb : E.hd τ = some b) : b ∈ owned E σ :=
  List.mem_append_right _ (List.mem_append_left _ (List.mem_flatMap.2 ⟨τ, h, by simp [tokB, hb]⟩))
theorem RelE.ext {X : Ctx} {E : Env} {σ : St} {a : Array Value} {w w' : World} (h : RelE X E σ a w) (k : Ext w w') : RelE X E σ a w' := by
  have K := h.keepExt k
  exact { h with
    slot := fun i s v hs hv => K.slot (h.slot i s v hs hv)
    bx := fun b hb => K.bx (h.bx b hb) (h.idlt b hb) (k.block _ (h.lt _ (mem_owned_bx hb)).1)
    lt := fun b hb => ⟨Nat.lt_of_lt_of_le (h.lt b hb).1 k.size, (h.lt b hb).2⟩
    fr := h.fr.ext k
    pinlt := fun b hb => ⟨Nat.lt_of_lt_of_le (h.pinlt b hb).1 k.size, (h.pinlt b hb).2⟩ }
theorem SlotOk.fr {w : World} {A : Nat → Prop} {E : Env} {σ : St} {fr : List Slot} {s : Slot} {v : Value} (h : SlotOk w A E σ s v) (hge : ∀ τ ∈ σ.al, 2 ≤ τ ∧ τ ∉ σ.fz) : SlotOk w A E { σ with fr := fr } s v :=
  Keep.slot (w := w) (w' := w) (A := A) (A' := A) (E := E) (E' := E) (σ := σ) (σ' := { σ with fr := fr }) ⟨fun _ h => ⟨h, rfl⟩, Nat.le_refl _, fun _ _ => rfl, fun _ _ => rfl, fun _ _ h => .inl h, fun _ _ h => ⟨h, fun _ _ => rfl⟩, hge, fun _ h => ⟨h, rfl⟩⟩ h
theorem BxOk.fr {w : World} {A : Nat → Prop} {E : Env} {σ : St} {fr : List Slot} {b : Bx} (h : BxOk w A E σ b) (hid : b.id < σ.nt) (hge : ∀ τ ∈ σ.al, 2 ≤ τ ∧ τ ∉ σ.fz) : BxOk w A E { σ with fr := fr } b :=
  Keep.bx (w := w) (w' := w) (A := A) (A' := A) (E := E) (E' := E) (σ := σ) (σ' := { σ with fr := fr }) ⟨fun _ h => ⟨h, rfl⟩, Nat.le_refl _, fun _ _ => rfl, fun _ _ => rfl, fun _ _ h => .inl h, fun _ _ h => ⟨h, fun _ _ => rfl⟩, hge, fun _ h => ⟨h, rfl⟩⟩ h hid rfl
theorem RelE.ge {X : Ctx} {E : Env} {σ : St} {a : Array Value} {w : World} (h : RelE X E σ a w) : ∀ τ ∈ σ.al, 2 ≤ τ ∧ τ ∉ σ.fz := fun τ ht => ⟨(h.alr τ ht).1, (h.alr τ ht).2.2⟩
/-- A slot is filled. -/
theorem RelE.set {X : Ctx} {E : Env} {σ : St} {a : Array Value} {w : World} (h : RelE X E σ a w) {s : Slot} {v : Value} (d : Nat) (hs : SlotOk w (Fz X E σ w) E σ s v) :
    RelE X E { σ with fr := σ.fr.set d s } (a.setIfInBounds d v) w := by
  exact { h with
    len := by simp [h.len]
    slot := fun i s' v' hs' hv' => by
      have : SlotOk w (Fz X E σ w) E σ s' v' := by
        by_cases hid : d = i
        · subst hid
          have hd : d < σ.fr.length := by have := (List.getElem?_eq_some_iff.1 hs').1; simpa using this
          rw [List.getElem?_set_self hd] at hs'
          rw [Array.getElem?_setIfInBounds_self_of_lt (by rw [← h.len]; exact hd)] at hv'
          injection hs' with e1; injection hv' with e2; subst e1; subst e2; exact hs
        · rw [List.getElem?_set_ne hid] at hs'
          rw [Array.getElem?_setIfInBounds_ne hid] at hv'
          exact h.slot i s' v' hs' hv'
      exact this.fr h.ge
    bx := fun b hb => (h.bx b hb).fr (h.idlt b hb) h.ge }
theorem RelE.put {X : Ctx} {E : Env} {σ : St} {a : Act} {w : World} (h : RelE X E σ a.tmps w) {s : Slot} {v : Value} (d : Option Tmp) (hs : SlotOk w (Fz X E σ w) E σ s v) :
    RelE X E (σ.put d s) (a.put d v).tmps w := by
  cases d with
  | none => exact h
  | some d => exact h.set d hs
end Go.Proofs.Ytopeacfbcdoljaa.V
