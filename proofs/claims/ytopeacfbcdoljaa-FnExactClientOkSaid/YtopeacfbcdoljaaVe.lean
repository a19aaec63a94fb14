/- Soundness of single operations, second part: down a path, and another value at a path. -/
import Derived.Test.YtopeacfbcdoljaaVd
namespace Go.Proofs.Ytopeacfbcdoljaa.V
open Go
section
variable {w : World} {A : Nat → Prop} {E : Env} {σ : St}
theorem rv_of_rf (hnt : 0 < σ.nt) (hz : 0 ∉ σ.al) : ∀ {t : Ty} {v : t.den} {cs : List Value}, Rf w A t v cs → Rv w A E σ t v (List.replicate t.nl 0) cs := by
  intro t
  induction t with
  | int k => intro v cs h; exact h
  | bool => intro v cs h; exact h
  | str => intro v cs h; exact h
  | unit => intro v cs h; exact h
  | pair a b iha ihb =>
    intro v cs h; obtain ⟨c1, c2, e, h1, h2⟩ := h
    refine ⟨c1, c2, e, ?_, ?_⟩
    · have : (List.replicate (a.nl + b.nl) 0).take a.nl = List.replicate a.nl 0 := by rw [List.take_replicate, Nat.min_eq_left (by omega)]
      show Rv w A E σ a v.1 ((List.replicate (a.nl + b.nl) 0).take a.nl) c1
      rw [this]; exact iha h1
    · have : (List.replicate (a.nl + b.nl) 0).drop a.nl = List.replicate b.nl 0 := by rw [List.drop_replicate, Nat.add_sub_cancel_left]
      show Rv w A E σ b v.2 ((List.replicate (a.nl + b.nl) 0).drop a.nl) c2
      rw [this]; exact ihb h2
  | st t ih => intro v cs h; exact ih h
  | arr n t _ => intro v cs h; exact h
  | sl e t _ =>
    intro v cs h
    obtain ⟨ad, cap, css, rfl, h1, h2, h3⟩ := h
    exact ⟨_, rfl, hnt, ad, cap, rfl, fun _ => ⟨ad, cap, css, rfl, h1, h2, h3⟩, fun h => absurd h (by simp [Ty.nl]), fun h => absurd h (by simp [Ty.nl]), fun h => absurd h (by simpa [Ty.nl] using hz)⟩
theorem rf_of_rv : ∀ {t : Ty} {v : t.den} {ms : List Nat} {cs : List Value}, t.nl = 0 → Rv w A E σ t v ms cs → Rf w A t v cs := by
  intro t
  induction t with
  | int k => intro v ms cs _ h; exact h
  | bool => intro v ms cs _ h; exact h
  | str => intro v ms cs _ h; exact h
  | unit => intro v ms cs _ h; exact h
  | pair a b iha ihb =>
    intro v ms cs hn h; obtain ⟨c1, c2, e, h1, h2⟩ := h
    simp only [Ty.nl] at hn
    exact ⟨c1, c2, e, iha (by omega) h1, ihb (by omega) h2⟩
  | st t ih => intro v ms cs hn h; exact ih hn h
  | arr n t _ => intro v ms cs _ h; exact h
  | sl e t _ => intro v ms cs hn h; simp [Ty.nl] at hn
variable {R : Type}
theorem get_ok (hnt : 0 < σ.nt) (hz : 0 ∉ σ.al) : ∀ {t : Ty} {v : t.den} {ms : List Nat} {p : List Sel} {k : Val → Option R} {r : R} {c : List Value}, getK t v ms p k = some r → Rv w A E σ t v ms c → ms.length = t.nl →
    ∃ (y : Val) (d : Nat), k y = some r ∧ Rv w A E σ y.t y.v y.ms ((c.drop d).take y.t.size) ∧ y.ms.length = y.t.nl ∧ d + y.t.size ≤ c.length ∧ ∀ b o, addr t (b, o) p = some (y.t, (b, o + d)) := by
  have stop : ∀ {t : Ty} {v : t.den} {ms : List Nat} {k : Val → Option R} {r : R} {c : List Value}, k ⟨t, v, ms⟩ = some r → Rv w A E σ t v ms c → ms.length = t.nl →
      ∃ (y : Val) (d : Nat), k y = some r ∧ Rv w A E σ y.t y.v y.ms ((c.drop d).take y.t.size) ∧ y.ms.length = y.t.nl ∧ d + y.t.size ≤ c.length ∧ ∀ b o, addr t (b, o) [] = some (y.t, (b, o + d)) := by
    intro t v ms k r c h hv hl
    refine ⟨⟨t, v, ms⟩, 0, h, ?_, hl, by have := hv.length; dsimp only; omega, fun b o => by simp [addr]⟩
    have := hv.length
    dsimp only
    rw [List.drop_zero, List.take_of_length_le (by omega)]
    exact hv
  intro t
  induction t with
  | st t ih =>
    intro v ms p k r c h hv hl
    cases p with
    | nil => exact stop (by simpa [getK] using h) hv hl
    | cons s p =>
      obtain ⟨y, d, h1, h2, h3, h4, h5⟩ := ih (p := s :: p) (by simpa [getK] using h) hv hl
      exact ⟨y, d, h1, h2, h3, h4, fun b o => by simpa [addr] using h5 b o⟩
  | pair a b iha ihb =>
    intro v ms p k r c h hv hl
    cases p with
    | nil => exact stop (by simpa [getK] using h) hv hl
    | cons s p =>
      obtain ⟨c1, c2, rfl, hv1, hv2⟩ := hv
      have l1 := hv1.length
      have l2 := hv2.length
      simp only [Ty.nl] at hl
      cases s with
      | fst =>
        obtain ⟨y, d, h1, h2, h3, h4, h5⟩ := iha (by simpa [getK] using h) hv1 (by simp; omega)
        refine ⟨y, d, h1, ?_, h3, by simp; omega, fun b o => by simpa [addr] using h5 b o⟩
        rwa [List.drop_append_of_le_length (by omega), List.take_append_of_le_length (by simp; omega)]
      | snd =>
        obtain ⟨y, d, h1, h2, h3, h4, h5⟩ := ihb (by simpa [getK] using h) hv2 (by simp; omega)
        refine ⟨y, a.size + d, h1, ?_, h3, by simp; omega, fun b o => by simp only [addr]; rw [h5]; simp; omega⟩
        have : (c1 ++ c2).drop (a.size + d) = c2.drop d := by rw [← l1, List.drop_append, List.drop_eq_nil_of_le (by omega), Nat.add_sub_cancel_left]; rfl
        rwa [this]
      | ix i => simp [getK] at h
  | arr n t ih =>
    intro v ms p k r c h hv hl
    cases p with
    | nil => exact stop (by simpa [getK] using h) hv hl
    | cons s p =>
      cases s with
      | fst => simp [getK] at h
      | snd => simp [getK] at h
      | ix i =>
        simp only [getK] at h
        cases hx : (v : List t.den)[i]? with
        | none => rw [hx] at h; simp at h
        | some x =>
          rw [hx] at h
          simp only [Option.bind_some] at h
          obtain ⟨e1, e2, e3, e4⟩ := hv
          have hi : i < n := by rw [← e1]; exact (List.getElem?_eq_some_iff.1 hx).1
          have hrv : Rv w A E σ t x [] (seg c t.size i) := by
            have := rv_of_rf (E := E) hnt hz (e3 i x hx)
            rwa [e4] at this
          obtain ⟨y, d, h1, h2, h3, h4, h5⟩ := ih h hrv (by rw [e4]; rfl)
          have hle : (i + 1) * t.size ≤ n * t.size := Nat.mul_le_mul_right _ hi
          rw [Nat.add_mul] at hle
          have hs : (seg c t.size i).length = t.size := seg_length e2 hi
          refine ⟨y, i * t.size + d, h1, ?_, h3, by omega, fun b o => by simp only [addr, hi, if_true]; rw [h5]; simp; omega⟩
          have : ((seg c t.size i).drop d).take y.t.size = (c.drop (i * t.size + d)).take y.t.size := by
            simp only [V.seg]
            rw [List.drop_take, List.take_take, List.drop_drop, Nat.min_eq_left (by omega)]
          rwa [← this]
  | _ =>
    intro v ms p k r c h hv hl
    cases p with
    | nil => exact stop (by simpa [getK] using h) hv hl
    | cons s p => cases s <;> simp [getK] at h
theorem At.part {b o d n : Nat} {c : List Value} (h : At w b o c) : At w b (o + d) ((c.drop d).take n) := by
  intro j v hv
  simp only [List.getElem?_take] at hv
  split at hv
  · rw [List.getElem?_drop] at hv
    have := h _ v hv
    rwa [Nat.add_assoc]
  · cases hv
theorem set_ok : ∀ {t : Ty} {v : t.den} {ms : List Nat} {p : List Sel} {x : Val} {k : t.den → List Nat → Option R} {r : R} {c cx : List Value}, setK t v ms p x k = some r → Rv w A E σ t v ms c → ms.length = t.nl →
    Rv w A E σ x.t x.v x.ms cx → x.ms.length = x.t.nl →
    ∃ (v' : t.den) (ms' : List Nat) (d : Nat), k v' ms' = some r ∧ Rv w A E σ t v' ms' (c.take d ++ cx ++ c.drop (d + cx.length)) ∧ ms'.length = t.nl ∧ d + cx.length ≤ c.length ∧ ∀ b o, addr t (b, o) p = some (x.t, (b, o + d)) := by
  have stop : ∀ {t : Ty} {v : t.den} {ms : List Nat} {x : Val} {k : t.den → List Nat → Option R} {r : R} {c cx : List Value}, (match cast? t x with | some (v, ms) => k v ms | none => none) = some r → Rv w A E σ t v ms c → ms.length = t.nl →
      Rv w A E σ x.t x.v x.ms cx → x.ms.length = x.t.nl →
      ∃ (v' : t.den) (ms' : List Nat) (d : Nat), k v' ms' = some r ∧ Rv w A E σ t v' ms' (c.take d ++ cx ++ c.drop (d + cx.length)) ∧ ms'.length = t.nl ∧ d + cx.length ≤ c.length ∧ ∀ b o, addr t (b, o) [] = some (x.t, (b, o + d)) := by
    intro t v ms x k r c cx h hv hl hx hxl
    cases hc : cast? t x with
    | none => rw [hc] at h; cases h
    | some q =>
      obtain ⟨v', ms'⟩ := q
      rw [hc] at h
      have e := cast?_some hc
      subst e
      have l1 := hv.length
      have l2 := hx.length
      refine ⟨v', ms', 0, h, ?_, hxl, by dsimp only at l2; omega, fun b o => by simp [addr]⟩
      have : c.take 0 ++ cx ++ c.drop (0 + cx.length) = cx := by
        rw [List.take_zero, List.nil_append, List.drop_eq_nil_of_le (by dsimp only at l2; omega), List.append_nil]
      rw [this]; exact hx
  intro t
  induction t with
  | st t ih =>
    intro v ms p x k r c cx h hv hl hx hxl
    cases p with
    | nil => exact stop (by rw [setK] at h; exact h) hv hl hx hxl
    | cons s p =>
      obtain ⟨v', ms', d, h1, h2, h3, h4, h5⟩ := ih (p := s :: p) (by simpa [setK] using h) hv hl hx hxl
      exact ⟨v', ms', d, h1, h2, h3, h4, fun b o => by simpa [addr] using h5 b o⟩
  | pair a b iha ihb =>
    intro v ms p x k r c cx h hv hl hx hxl
    cases p with
    | nil => exact stop (by rw [setK] at h; exact h) hv hl hx hxl
    | cons s p =>
      obtain ⟨c1, c2, rfl, hv1, hv2⟩ := hv
      have l1 := hv1.length
      have l2 := hv2.length
      simp only [Ty.nl] at hl
      cases s with
      | fst =>
        obtain ⟨v', ms', d, h1, h2, h3, h4, h5⟩ := iha (by simpa [setK] using h) hv1 (by simp; omega) hx hxl
        refine ⟨(v', v.2), ms' ++ ms.drop a.nl, d, h1, ⟨c1.take d ++ cx ++ c1.drop (d + cx.length), c2, ?_, ?_, ?_⟩, by simp [Ty.nl, h3]; omega, by simp; omega, fun b o => by simpa [addr] using h5 b o⟩
        · rw [List.take_append_of_le_length (by omega), List.drop_append_of_le_length (by omega)]; simp
        · rw [List.take_left' h3]; exact h2
        · rw [List.drop_left' h3]; exact hv2
      | snd =>
        obtain ⟨v', ms', d, h1, h2, h3, h4, h5⟩ := ihb (by simpa [setK] using h) hv2 (by simp; omega) hx hxl
        have la : (ms.take a.nl).length = a.nl := by simp; omega
        refine ⟨(v.1, v'), ms.take a.nl ++ ms', a.size + d, h1, ⟨c1, c2.take d ++ cx ++ c2.drop (d + cx.length), ?_, ?_, ?_⟩, by simp [Ty.nl, h3]; omega, by simp; omega, fun b o => by simp only [addr]; rw [h5]; simp; omega⟩
        · rw [← l1, Nat.add_assoc, List.drop_append, List.take_append, List.take_of_length_le (by omega), List.drop_eq_nil_of_le (by omega), Nat.add_sub_cancel_left, Nat.add_sub_cancel_left]; simp
        · rw [List.take_left' la]; exact hv1
        · rw [List.drop_left' la]; exact h2
      | ix i => simp [setK] at h
  | arr n t ih =>
    intro v ms p x k r c cx h hv hl hx hxl
    cases p with
    | nil => exact stop (by rw [setK] at h; exact h) hv hl hx hxl
    | cons s p =>
      cases s with
      | fst => simp [setK] at h
      | snd => simp [setK] at h
      | ix i =>
        simp only [setK] at h
        cases hy : (v : List t.den)[i]? with
        | none => rw [hy] at h; simp at h
        | some y =>
          rw [hy] at h
          simp only [Option.bind_some] at h
          obtain ⟨e1, e2, e3, e4⟩ := hv
          have hi : i < n := by rw [← e1]; exact (List.getElem?_eq_some_iff.1 hy).1
          have hle : (i + 1) * t.size ≤ n * t.size := Nat.mul_le_mul_right _ hi
          rw [Nat.add_mul] at hle
          have hs : (seg c t.size i).length = t.size := seg_length e2 hi
          have hrv : Rv w A E σ t y [] (seg c t.size i) := by
            have h0 := e3 i y hy
            clear h hx hxl ih e3 hl
            revert h0
            generalize seg c t.size i = cc
            intro h0
            have key : ∀ {t : Ty} {v : t.den} {ms : List Nat} {cs : List Value}, t.nl = 0 → Rf w A t v cs → Rv w A E σ t v ms cs := by
              intro t
              induction t with
              | int k => intro v ms cs _ h; exact h
              | bool => intro v ms cs _ h; exact h
              | str => intro v ms cs _ h; exact h
              | unit => intro v ms cs _ h; exact h
              | pair a b iha ihb =>
                intro v ms cs hn h; obtain ⟨c1, c2, e, h1, h2⟩ := h
                simp only [Ty.nl] at hn
                exact ⟨c1, c2, e, iha (by omega) h1, ihb (by omega) h2⟩
              | st t ih => intro v ms cs hn h; exact ih hn h
              | arr n t _ => intro v ms cs _ h; exact h
              | sl e t _ => intro v ms cs hn h; simp [Ty.nl] at hn
            exact key e4 h0
          obtain ⟨v', ms', d, h1, h2, h3, h4, h5⟩ := ih h hrv (by rw [e4]; rfl) hx hxl
          refine ⟨(v : List t.den).set i v', ms, i * t.size + d, h1, ⟨by simpa using e1, by simp; omega, fun j z hz => ?_, e4⟩, hl, by omega, fun b o => by simp only [addr, hi, if_true]; rw [h5]; simp; omega⟩
          have hz' : (if i = j then some v' else (v : List t.den)[j]?) = some z := by
            by_cases hij : i = j
            · subst hij
              rw [List.getElem?_set_self (by rw [e1]; exact hi)] at hz
              simpa using hz
            · rw [List.getElem?_set_ne hij] at hz
              simpa [hij] using hz
          have hj : j < n := by
            have := (List.getElem?_eq_some_iff.1 hz).1
            rw [List.length_set, e1] at this; exact this
          have hlj : (j + 1) * t.size ≤ n * t.size := Nat.mul_le_mul_right _ hj
          rw [Nat.add_mul] at hlj
          by_cases hij : i = j
          · subst hij
            simp at hz'; subst hz'
            have : seg (c.take (i * t.size + d) ++ cx ++ c.drop (i * t.size + d + cx.length)) t.size i = (seg c t.size i).take d ++ cx ++ (seg c t.size i).drop (d + cx.length) := by
              apply List.ext_getElem?
              intro q
              simp only [V.seg, List.getElem?_take, List.getElem?_drop, List.getElem?_append, List.length_take, List.length_drop, List.length_append]
              by_cases hq : q < t.size
              · simp only [hq, if_true]
                repeat' split
                all_goals first | omega | rfl | (congr 1; omega)
              · simp only [hq, if_false]
                repeat' split
                all_goals first | omega | rfl
            rw [this]
            exact rf_of_rv e4 h2
          · simp [hij] at hz'
            have : seg (c.take (i * t.size + d) ++ cx ++ c.drop (i * t.size + d + cx.length)) t.size j = seg c t.size j := by
              have hne : j * t.size + t.size ≤ i * t.size ∨ i * t.size + t.size ≤ j * t.size := by
                rcases Nat.lt_or_gt_of_ne hij with h | h
                · right; have := Nat.mul_le_mul_right t.size (show i + 1 ≤ j from h); rw [Nat.add_mul] at this; omega
                · left; have := Nat.mul_le_mul_right t.size (show j + 1 ≤ i from h); rw [Nat.add_mul] at this; omega
              apply List.ext_getElem?
              intro q
              simp only [V.seg, List.getElem?_take, List.getElem?_drop, List.getElem?_append, List.length_take, List.length_drop, List.length_append]
              by_cases hq : q < t.size
              · simp only [hq, if_true]
                repeat' split
                all_goals first | omega | rfl | (congr 1; omega)
              · simp only [hq, if_false]
            rw [this]
            exact e3 j z hz'
  | _ =>
    intro v ms p x k r c cx h hv hl hx hxl
    cases p with
    | nil => exact stop (by rw [setK] at h; exact h) hv hl hx hxl
    | cons s p => cases s <;> simp [setK] at h
end
end Go.Proofs.Ytopeacfbcdoljaa.V
