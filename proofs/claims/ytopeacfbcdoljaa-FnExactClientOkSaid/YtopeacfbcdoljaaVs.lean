/- Contracts: what a call is lent and what it gives back. -/
import Derived.Test.YtopeacfbcdoljaaVr
namespace Go.Proofs.Ytopeacfbcdoljaa.V
open Go

/-- Cells whose slices are the bearer's own: their blocks, in order. -/
def Ow (w : World) (A : Nat → Prop) : (t : Ty) → t.den → List Value → List (Option Nat) → Prop
  | .int k, n, cs, _ => cs = [.int k n]
  | .bool, b, cs, _ => cs = [.bool b]
  | .str, s, cs, _ => cs = [.string ⟨(s : List UInt8).toArray⟩]
  | .unit, _, cs, _ => cs = []
  | .pair a b, v, cs, bs => ∃ c1 c2, cs = c1 ++ c2 ∧ Ow w A a v.1 c1 (bs.take a.nl) ∧ Ow w A b v.2 c2 (bs.drop a.nl)
  | .st t, v, cs, bs => Ow w A t v cs bs
  | .arr n t, v, cs, _ => (v : List t.den).length = n ∧ cs.length = n * t.size ∧ (∀ (i : Nat) (x : t.den), (v : List t.den)[i]? = some x → Rf w A t x (seg cs t.size i)) ∧ t.nl = 0
  | .sl e t, v, cs, bs => ∃ cap css, cs = [.slice ((bs.headD none).map fun b => ⟨b, 0, none⟩) (v : List t.den).length cap] ∧
      w.ownsRow 0 e t.size (.slice ((bs.headD none).map fun b => ⟨b, 0, none⟩) (v : List t.den).length cap) (v : List t.den).length css ∧
      ∀ (i : Nat) (x : t.den), (v : List t.den)[i]? = some x → Rf w A t x (seg css t.size i)
/-- One argument's footprint: its rows, its place. -/
structure Foot where
  rows : List (Option Nat)
  place : Option (Nat × Nat)
def Foot.blocks (f : Foot) : List Nat := f.rows.filterMap id ++ (f.place.map (·.1)).toList
def blocksOf (fs : List Foot) : List Nat := fs.flatMap Foot.blocks
def rowsOf (fs : List Foot) : List Nat := fs.flatMap fun f => f.rows.filterMap id
/-- The cells that may turn. -/
def footM : List AK → List Foot → Nat → Nat → Prop
  | a :: r, f :: fs, b, o => some b ∈ f.rows ∨ (∃ p, f.place = some p ∧ p.1 = b ∧ p.2 ≤ o ∧ o < p.2 + a.ty.size) ∨ footM r fs b o
  | _, _, _, _ => False
def ArgOk (w : World) (A pin : Nat → Prop) (a : AK) (v : a.ty.den) (u : Value) (f : Foot) : Prop :=
  match a, v with
  | .ro t, v => (∃ cs, Rf w A t v cs ∧ u = toVal t cs) ∧ f = ⟨[], none⟩
  | .own t, v | .mu t, v => (∃ cs, Ow w A t v cs f.rows ∧ u = toVal t cs) ∧ f.rows.length = t.nl ∧ f.place = none
  | .pin t, v => (∃ b o cs, u = .pointer (some ⟨b, o, none⟩) ∧ Rf w A t v cs ∧ At w b o cs ∧ pin b) ∧ f = ⟨[], none⟩
  | .pio t, v => ∃ b o cs c e, u = .pointer (some ⟨b, o, none⟩) ∧ Ow w A t v cs f.rows ∧ f.rows.length = t.nl ∧ At w b o cs ∧ w.heap[b]? = some (.cells c e (0, 0)) ∧ o + cs.length ≤ c.size ∧ f.place = some (b, o)
def ArgsOk (w : World) (A pin : Nat → Prop) : (ks : List AK) → Tup (tysOf ks) → List Value → List Foot → Prop
  | [], _, [], [] => True
  | a :: r, x, u :: us, f :: fs => ArgOk w A pin a (Tup.hd x) u f ∧ ArgsOk w A pin r (Tup.tl x) us fs
  | _, _, _, _ => False
def ResOk (w : World) (A : Nat → Prop) : (rs : List (Ty × Bool)) → Tup (resOf rs) → List Value → List (List (Option Nat)) → Prop
  | [], _, [], [] => True
  | (t, o) :: r, y, u :: us, bs :: bss => (∃ cs, u = toVal t cs ∧ if o then Ow w A t (Tup.hd y) cs bs ∧ bs.length = t.nl else Rf w A t (Tup.hd y) cs ∧ bs = []) ∧ ResOk w A r (Tup.tl y) us bss
  | _, _, _, _ => False
/-- What a parameter that may turn holds in the end. -/
def OutOk (w : World) (A : Nat → Prop) (a : AK) (u : Value) (f : Foot) (bs : List (Option Nat)) : Tup a.outs → Prop :=
  match a with
  | .mu t => fun v => bs = f.rows ∧ ∃ cs, u = toVal t cs ∧ cs.length = t.size ∧ Ow w A t v cs bs
  | .pio t => fun v => bs.length = t.nl ∧ ∃ b o cs, u = .pointer (some ⟨b, o, none⟩) ∧ Ow w A t v cs bs ∧ At w b o cs
  | _ => fun _ => bs = []
def OutsOk (w : World) (A : Nat → Prop) : (ks : List AK) → Tup (outsOf ks) → List Value → List Foot → List (List (Option Nat)) → Prop
  | [], _, [], [], [] => True
  | a :: r, y, u :: us, f :: fs, bs :: bss => OutOk w A a u f bs (Tup.fst (a := a.outs) (b := outsOf r) y) ∧ OutsOk w A r (Tup.snd (a := a.outs) (b := outsOf r) y) us fs bss
  | _, _, _, _, _ => False
def resVal : List Value → Value
  | [v] => v
  | l => .tuple l.toArray
def flatB (bss : List (List (Option Nat))) : List Nat := bss.flatMap fun bs => bs.filterMap id
/-- What may be read when the call is over. -/
def After (w w' : World) (A : Nat → Prop) (fs : List Foot) (rets : List Nat) (b : Nat) : Prop := (A b ∨ b ∈ rowsOf fs ∨ w.heap.size ≤ b) ∧ b < w'.heap.size ∧ b ∉ rets
structure PostL (ks : List AK) (rs : List (Ty × Bool)) (w : World) (A : Nat → Prop) (us : List Value) (fs : List Foot) (y : Tup (resOf rs ++ outsOf ks)) (vs : List Value) (w' : World) : Prop where
  fr : Fr (footM ks fs) w w'
  ex : ∃ bo br, (flatB bo ++ flatB br).Nodup ∧ (∀ b ∈ flatB bo ++ flatB br, (b ∈ rowsOf fs ∨ w.heap.size ≤ b) ∧ b < w'.heap.size) ∧
    ResOk w' (After w w' A fs (flatB bo ++ flatB br)) rs (Tup.fst (a := resOf rs) (b := outsOf ks) y) vs br ∧
    OutsOk w' (After w w' A fs (flatB bo ++ flatB br)) ks (Tup.snd (a := resOf rs) (b := outsOf ks) y) us fs bo
def Post (s : Sig) (w : World) (A : Nat → Prop) (us : List Value) (fs : List Foot) (y : s.Out) (v : Value) (w' : World) : Prop := ∃ vs, v = resVal vs ∧ PostL s.args s.res w A us fs y vs w'
/-- What a call may lean on. -/
structure Pre (ks : List AK) (x : Tup (tysOf ks)) (w : World) (A pin : Nat → Prop) (us : List Value) (fs : List Foot) : Prop where
  args : ArgsOk w A pin ks x us fs
  nodup : (blocksOf fs).Nodup
  apart : ∀ b ∈ blocksOf fs, b < w.heap.size ∧ ¬ A b ∧ ¬ pin b
  ltA : ∀ b, A b → b < w.heap.size
  ltpin : ∀ b, pin b → b < w.heap.size
/-- The contract. -/
def Meets (P : Program) (f : FuncId) (fn : Fn) : Prop :=
  ∀ x y, fn.f x = some y → ∀ (w : World) (A pin : Nat → Prop) (us : List Value) (fs : List Foot), Pre fn.s.args x w A pin us fs →
    Calls P f us.toArray w fun e w' => match e with
      | .returned v => Post fn.s w A us fs y v w'
      | _ => False

-- ---------------------------------------------------------------- readings
section
variable {w w' : World} {A A' : Nat → Prop} {E : Env} {σ : St}
theorem Ow.length : ∀ {t : Ty} {v : t.den} {cs : List Value} {bs : List (Option Nat)}, Ow w A t v cs bs → cs.length = t.size := by
  intro t
  induction t with
  | int k => intro v cs bs h; simp only [Ow] at h; subst h; rfl
  | bool => intro v cs bs h; simp only [Ow] at h; subst h; rfl
  | str => intro v cs bs h; simp only [Ow] at h; subst h; rfl
  | unit => intro v cs bs h; simp only [Ow] at h; subst h; rfl
  | pair a b iha ihb =>
    intro v cs bs h; obtain ⟨c1, c2, rfl, h1, h2⟩ := h
    rw [List.length_append, iha h1, ihb h2]; rfl
  | st t ih => intro v cs bs h; exact ih h
  | arr n t _ => intro v cs bs h; exact h.2.1
  | sl e t _ => intro v cs bs h; obtain ⟨cap, css, rfl, _⟩ := h; rfl
theorem Ow.monoA (hA : ∀ b, A b → A' b) : ∀ {t : Ty} {v : t.den} {cs : List Value} {bs : List (Option Nat)}, Ow w A t v cs bs → Ow w A' t v cs bs := by
  intro t
  induction t with
  | int k => intro v cs bs h; exact h
  | bool => intro v cs bs h; exact h
  | str => intro v cs bs h; exact h
  | unit => intro v cs bs h; exact h
  | pair a b iha ihb => intro v cs bs h; obtain ⟨c1, c2, e, h1, h2⟩ := h; exact ⟨c1, c2, e, iha h1, ihb h2⟩
  | st t ih => intro v cs bs h; exact ih h
  | arr n t _ => intro v cs bs h; exact ⟨h.1, h.2.1, fun i x hx => (h.2.2.1 i x hx).mono hA (fun _ _ => rfl), h.2.2.2⟩
  | sl e t _ => intro v cs bs h; obtain ⟨cap, css, e1, h1, h2⟩ := h; exact ⟨cap, css, e1, h1, fun i x hx => (h2 i x hx).mono hA (fun _ _ => rfl)⟩
/-- One's own slices, told by blocks. -/
theorem ow_of_rv (h1 : E.hd 1 = none) (h2 : ∀ τ ∈ σ.al, 2 ≤ τ) : ∀ {t : Ty} {v : t.den} {ms : List Nat} {cs : List Value}, (∀ τ ∈ ms, τ = 1 ∨ τ ∈ σ.al) → ms.length = t.nl → Rv w A E σ t v ms cs → Ow w A t v cs (ms.map E.hd) := by
  intro t
  induction t with
  | int k => intro v ms cs _ _ h; exact h
  | bool => intro v ms cs _ _ h; exact h
  | str => intro v ms cs _ _ h; exact h
  | unit => intro v ms cs _ _ h; exact h
  | pair a b iha ihb =>
    intro v ms cs hz hl h; obtain ⟨c1, c2, e, q1, q2⟩ := h
    simp only [Ty.nl] at hl
    refine ⟨c1, c2, e, ?_, ?_⟩
    · rw [← List.map_take]; exact iha (fun τ hτ => hz τ (List.mem_of_mem_take hτ)) (by simp; omega) q1
    · rw [← List.map_drop]; exact ihb (fun τ hτ => hz τ (List.mem_of_mem_drop hτ)) (by simp; omega) q2
  | st t ih => intro v ms cs hz hl h; exact ih hz hl h
  | arr n t _ => intro v ms cs _ _ h; exact h
  | sl e t _ =>
    intro v ms cs hz hl h
    obtain ⟨c, rfl, _, ad, cap, rfl, _, q1, q2, q3⟩ := h
    match ms, hl with
    | [τ], _ =>
      rcases hz τ (by simp) with h | h
      · subst h
        obtain ⟨rfl, rfl, hx⟩ := q1 rfl
        have hx' : (v : List t.den) = [] := hx
        refine ⟨0, [], ?_, ?_, fun i x hx => by rw [hx'] at hx; simp at hx⟩
        · simp [h1]
        · refine ⟨by rw [hx']; simp, .inl ⟨by rw [hx']; simp [h1], by rw [hx']; rfl⟩⟩
      · obtain ⟨css, q4, q5⟩ := q3 h
        have q6 := q2 (h2 τ h)
        have q7 : ad = (E.hd τ).map fun b => ⟨b, 0, none⟩ := q6
        subst q7
        exact ⟨cap, css, rfl, q4, q5⟩
theorem rv_of_ow : ∀ {t : Ty} {v : t.den} {ms : List Nat} {cs : List Value} {bs : List (Option Nat)}, (∀ (i : Nat) τ, ms[i]? = some τ → 2 ≤ τ ∧ τ < σ.nt ∧ τ ∉ σ.fz ∧ bs[i]? = some (E.hd τ)) → ms.length = t.nl → bs.length = t.nl →
    Ow w A t v cs bs → Rv w A E σ t v ms cs := by
  intro t
  induction t with
  | int k => intro v ms cs bs _ _ _ h; exact h
  | bool => intro v ms cs bs _ _ _ h; exact h
  | str => intro v ms cs bs _ _ _ h; exact h
  | unit => intro v ms cs bs _ _ _ h; exact h
  | pair a b iha ihb =>
    intro v ms cs bs hz hl hl2 h; obtain ⟨c1, c2, e, q1, q2⟩ := h
    simp only [Ty.nl] at hl hl2
    refine ⟨c1, c2, e, iha (fun i τ hτ => ?_) (by simp; omega) (by simp; omega) q1, ihb (fun i τ hτ => ?_) (by simp; omega) (by simp; omega) q2⟩
    · rw [List.getElem?_take] at hτ
      split at hτ
      · rename_i hi
        obtain ⟨k1, k2, k3, k4⟩ := hz i τ hτ
        exact ⟨k1, k2, k3, by rw [List.getElem?_take, if_pos hi]; exact k4⟩
      · cases hτ
    · rw [List.getElem?_drop] at hτ
      obtain ⟨k1, k2, k3, k4⟩ := hz _ τ hτ
      exact ⟨k1, k2, k3, by rw [List.getElem?_drop]; exact k4⟩
  | st t ih => intro v ms cs bs hz hl hl2 h; exact ih hz hl hl2 h
  | arr n t _ => intro v ms cs bs _ _ _ h; exact h
  | sl e t _ =>
    intro v ms cs bs hz hl hl2 h
    obtain ⟨cap, css, rfl, q1, q2⟩ := h
    match ms, bs, hl, hl2 with
    | [τ], [g], _, _ =>
      obtain ⟨k1, k2, k3, k4⟩ := hz 0 τ rfl
      simp only [List.getElem?_cons_zero, Option.some.injEq] at k4
      subst k4
      refine ⟨_, rfl, k2, _, cap, rfl, fun hf => ?_, fun h => ?_, fun _ => rfl, fun _ => ⟨css, q1, q2⟩⟩
      · rcases hf with h | h
        · have h' : τ = 0 := h
          omega
        · exact absurd h k3
      · have h' : τ = 1 := h
        omega
end
end Go.Proofs.Ytopeacfbcdoljaa.V
