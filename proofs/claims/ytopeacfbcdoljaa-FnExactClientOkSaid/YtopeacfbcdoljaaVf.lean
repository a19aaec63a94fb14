/- Soundness of single operations, third part: memory that is read, made and written. -/
import Derived.Test.YtopeacfbcdoljaaVe
namespace Go.Proofs.Ytopeacfbcdoljaa.V
open Go
section
variable {w : World} {A : Nat → Prop} {E : Env} {σ : St}
theorem Rf.one : ∀ {t : Ty} {v : t.den} {cs : List Value}, Rf w A t v cs → ∀ c ∈ cs, c.oneCell' = true := by
  intro t
  induction t with
  | int k => intro v cs h c hc; simp only [Rf] at h; subst h; simp at hc; subst hc; rfl
  | bool => intro v cs h c hc; simp only [Rf] at h; subst h; simp at hc; subst hc; rfl
  | str => intro v cs h c hc; simp only [Rf] at h; subst h; simp at hc; subst hc; rfl
  | unit => intro v cs h c hc; simp only [Rf] at h; subst h; simp at hc
  | pair a b iha ihb =>
    intro v cs h c hc; obtain ⟨c1, c2, rfl, h1, h2⟩ := h
    rcases List.mem_append.1 hc with h | h
    · exact iha h1 c h
    · exact ihb h2 c h
  | st t ih => intro v cs h c hc; exact ih h c hc
  | arr n t ih =>
    intro v cs h c hc
    obtain ⟨q, hq, rfl⟩ := List.mem_iff_getElem.1 hc
    have hsz : 0 < t.size := by
      rcases Nat.eq_zero_or_pos t.size with h0 | h0
      · rw [h.2.1, h0] at hq; simp at hq
      · exact h0
    have hqn : q / t.size < n := by rw [Nat.div_lt_iff_lt_mul hsz, ← h.2.1]; exact hq
    have hx : (v : List t.den)[q / t.size]? = some ((v : List t.den)[q / t.size]'(by rw [h.1]; exact hqn)) := List.getElem?_eq_getElem _
    refine ih (h.2.2.1 _ _ hx) _ ?_
    rw [List.mem_iff_getElem?]
    refine ⟨q % t.size, ?_⟩
    rw [V.seg, List.getElem?_take, if_pos (Nat.mod_lt _ hsz), List.getElem?_drop, Nat.mul_comm, Nat.div_add_mod, List.getElem?_eq_getElem hq]
  | sl e t _ => intro v cs h c hc; obtain ⟨ad, cap, css, rfl, _⟩ := h; simp at hc; subst hc; rfl
theorem Rv.one : ∀ {t : Ty} {v : t.den} {ms : List Nat} {cs : List Value}, Rv w A E σ t v ms cs → ∀ c ∈ cs, c.oneCell' = true := by
  intro t
  induction t with
  | int k => intro v ms cs h c hc; simp only [Rv] at h; subst h; simp at hc; subst hc; rfl
  | bool => intro v ms cs h c hc; simp only [Rv] at h; subst h; simp at hc; subst hc; rfl
  | str => intro v ms cs h c hc; simp only [Rv] at h; subst h; simp at hc; subst hc; rfl
  | unit => intro v ms cs h c hc; simp only [Rv] at h; subst h; simp at hc
  | pair a b iha ihb =>
    intro v ms cs h c hc; obtain ⟨c1, c2, rfl, h1, h2⟩ := h
    rcases List.mem_append.1 hc with h | h
    · exact iha h1 c h
    · exact ihb h2 c h
  | st t ih => intro v ms cs h c hc; exact ih h c hc
  | arr n t _ =>
    intro v ms cs h c hc
    exact Rf.one (t := .arr n t) (w := w) (A := A) h c hc
  | sl e t _ => intro v ms cs h c hc; obtain ⟨c', rfl, _, ad, cap, rfl, _⟩ := h; simp at hc; subst hc; rfl
theorem cells_one {v : Value} (h : v.oneCell' = true) : v.cells = #[v] := by cases v <;> first | rfl | simp [Value.oneCell'] at h
theorem cells_toVal {t : Ty} {v : t.den} {ms : List Nat} {cs : List Value} (h : Rv w A E σ t v ms cs) (ha : t.agg = false → t.size = 1) : (toVal t cs).cells = cs.toArray := by
  unfold toVal
  split
  · rfl
  · rename_i hg
    have hl := h.length
    rw [ha (by simpa using hg)] at hl
    match cs, hl with
    | [c], _ => exact cells_one (h.one c (by simp))
/-- The zero value. -/
theorem rf_zero : ∀ {t : Ty}, t.ok = true → Rf w A t t.zero (zc t) := by
  intro t
  induction t with
  | int k => intro _; rfl
  | bool => intro _; rfl
  | str => intro _; rfl
  | unit => intro _; rfl
  | pair a b iha ihb => intro h; simp [Ty.ok] at h; exact ⟨_, _, rfl, iha h.1, ihb h.2⟩
  | st t ih => intro h; simp [Ty.ok] at h; exact ih h
  | arr n t ih =>
    intro h
    simp [Ty.ok] at h
    have hl : (zc t).length = t.size := (ih h.1).length
    refine ⟨by simp [Ty.zero], ?_, fun i x hx => ?_, h.2⟩
    · show ((List.replicate n (zc t)).flatten).length = n * t.size
      simp [hl]
    · have hx' : (List.replicate n t.zero)[i]? = some x := hx
      rw [List.getElem?_replicate] at hx'
      split at hx'
      · rename_i hi
        injection hx' with hx'; subst hx'
        have : seg ((List.replicate n (zc t)).flatten) t.size i = zc t := by
          rw [show List.replicate n (zc t) = List.replicate i (zc t) ++ zc t :: List.replicate (n - i - 1) (zc t) by
            rw [← List.replicate_succ, List.replicate_append_replicate]; congr 1; omega]
          simp only [V.seg, List.flatten_append, List.flatten_cons]
          rw [List.drop_left' (by simp [hl]), List.take_left' hl]
        show Rf w A t t.zero (seg ((List.replicate n (zc t)).flatten) t.size i)
        rw [this]; exact ih h.1
      · cases hx'
  | sl e t _ => intro h; exact ⟨none, 0, [], rfl, by simp [Ty.zero], fun i x hx => by simp [Ty.zero] at hx, fun h => absurd rfl h, by simp [Ty.zero]⟩
theorem nil_leaf {e : TypeId} {t : Ty} (hnt : 2 ≤ σ.nt) (h1 : 1 ∉ σ.al) (h1' : 1 ∉ σ.fz) : Leaf w A E σ e t 1 [] (.slice none 0 0) := by
  refine ⟨by omega, none, 0, rfl, fun hz => ?_, fun _ => ⟨rfl, rfl, rfl⟩, fun h => absurd h (by omega), fun h => absurd h h1⟩
  rcases hz with h | h
  · omega
  · exact absurd h h1'
theorem rv_zero (hnt : 2 ≤ σ.nt) (h1 : 1 ∉ σ.al) (h1' : 1 ∉ σ.fz) : ∀ {t : Ty}, t.ok = true → Rv w A E σ t t.zero (List.replicate t.nl 1) (zc t) := by
  intro t
  induction t with
  | int k => intro _; rfl
  | bool => intro _; rfl
  | str => intro _; rfl
  | unit => intro _; rfl
  | pair a b iha ihb =>
    intro h
    simp [Ty.ok] at h
    refine ⟨_, _, rfl, ?_, ?_⟩
    · have : (List.replicate (a.nl + b.nl) 1).take a.nl = List.replicate a.nl 1 := by rw [List.take_replicate, Nat.min_eq_left (by omega)]
      show Rv w A E σ a a.zero ((List.replicate (a.nl + b.nl) 1).take a.nl) (zc a)
      rw [this]; exact iha h.1
    · have : (List.replicate (a.nl + b.nl) 1).drop a.nl = List.replicate b.nl 1 := by rw [List.drop_replicate, Nat.add_sub_cancel_left]
      show Rv w A E σ b b.zero ((List.replicate (a.nl + b.nl) 1).drop a.nl) (zc b)
      rw [this]; exact ihb h.2
  | st t ih => intro h; simp [Ty.ok] at h; exact ih h
  | arr n t _ => intro h; exact rf_zero (t := .arr n t) h
  | sl e t _ => intro h; exact ⟨_, rfl, nil_leaf hnt h1 h1'⟩
end

-- ---------------------------------------------------------------- the machine's reads and writes
section
variable {P : Program}
theorem add_addr (b o j : Nat) : (⟨b, o, none⟩ : Addr).add j = ⟨b, o + j, none⟩ := by unfold Addr.add; split <;> simp_all
theorem run_loadVar_ty {n : Nat} {i : TypeId} {t : Ty} (h : tyB P n i t = true) {w : World} {b o : Nat} {cs : List Value} (hl : cs.length = t.size) (hat : At w b o cs) :
    (loadVar i ⟨b, o, none⟩).run P w = .ok (toVal t cs) w := by
  unfold loadVar
  simp only [Sem.run_bind, tyB_agg h, Result.andThen_ok]
  by_cases ha : t.agg = true
  · simp only [ha, if_true, Sem.run_bind, run_sizeOf_ty h, Result.andThen_ok]
    have := run_loadCells_list (P := P) w ⟨b, o, none⟩ cs (fun j v hv => by rw [add_addr]; exact hat j v hv)
    rw [hl] at this
    rw [this]
    simp [toVal, ha]
  · have ha' : t.agg = false := by simpa using ha
    rw [tyB_scalar h ha'] at hl
    match cs, hl with
    | [c], _ =>
      have := hat 0 c rfl
      simp only [Nat.add_zero] at this
      simp [ha', toVal, this]
theorem run_loadAt_ty {n : Nat} {i : TypeId} {t : Ty} (h : tyB P n i t = true) {w : World} {b o : Nat} {cs : List Value} (hl : cs.length = t.size) (hat : At w b o cs) :
    (Instr.loadAt i (.pointer (some ⟨b, o, none⟩))).run P w = .ok (toVal t cs) w := by
  simp only [Instr.loadAt, Instr.sureAddr, Sem.run_bind, Sem.run_pure, Result.andThen_ok]
  exact run_loadVar_ty h hl hat
def splice (cur : Array Value) (o : Nat) (cs : List Value) : Array Value := (cur.toList.take o ++ cs ++ cur.toList.drop (o + cs.length)).toArray
theorem run_storeAt_ty {n : Nat} {i : TypeId} {t : Ty} (h : tyB P n i t = true) {w : World} {b o : Nat} {cs : List Value} {cur : Array Value} {e : TypeId} {v : Value} (hv : v.cells = cs.toArray) (hl : cs.length = t.size)
    (h1 : ∀ c ∈ cs, c.oneCell' = true) (hb : w.heap[b]? = some (.cells cur e (0, 0))) (hfit : o + cs.length ≤ cur.size) :
    (Instr.storeAt i (.pointer (some ⟨b, o, none⟩)) v).run P w = .ok () (w.setRow b (splice cur o cs)) := by
  have hst := run_storeCells_at P b o e cs 0 cur w hb (by simpa using hfit) h1
  simp only [Nat.add_zero] at hst
  simp only [Instr.storeAt, Instr.sureAddr, storeVar, Sem.run_bind, Sem.run_pure, Result.andThen_ok, run_sizeOf_ty h, hv]
  simp [hl, hst, splice]
theorem splice_size {cur : Array Value} {o : Nat} {cs : List Value} (h : o + cs.length ≤ cur.size) : (splice cur o cs).size = cur.size := by
  simp [splice]; omega
theorem splice_get {cur : Array Value} {o : Nat} {cs : List Value} (h : o + cs.length ≤ cur.size) (j : Nat) : (splice cur o cs)[j]? = if j < o then cur[j]? else if j < o + cs.length then cs[j - o]? else cur[j]? := by
  simp only [splice, List.getElem?_toArray, List.getElem?_append, List.length_append, List.length_take, Array.length_toList, List.getElem?_take, List.getElem?_drop, Array.getElem?_toList]
  repeat' split
  all_goals first | omega | rfl | (congr 1; omega)
end
theorem Fr.setRow {M : Nat → Nat → Prop} {w0 w : World} {b : Nat} {cur arr : Array Value} {e : TypeId} (h : Fr M w0 w) (hb : w.heap[b]? = some (.cells cur e (0, 0))) (hs : arr.size = cur.size)
    (hm : b < w0.heap.size → ∀ o, ¬ M b o → arr[o]? = cur[o]?) : Fr M w0 (w.setRow b arr) := by
  refine ⟨h.os, h.tape, h.output, by simpa [World.setRow] using h.size, fun i hi => ?_⟩
  by_cases hib : i = b
  · subst hib
    have hnew := setRow_heap w i cur arr e (0, 0) hb
    rcases h.block i hi with h1 | ⟨c, c', e', h1, h2, h3, h4⟩
    · exact .inr ⟨cur, arr, e, by rw [← h1]; exact hb, hnew, hs, hm hi⟩
    · rw [hb] at h2
      simp only [Option.some.injEq, Obj.cells.injEq, and_true] at h2
      obtain ⟨rfl, rfl⟩ := h2
      exact .inr ⟨c, arr, e, h1, hnew, hs.trans h3, fun o ho => (hm hi o ho).trans (h4 o ho)⟩
  · rw [setRow_other w b i arr hib]
    exact h.block i hi
theorem find_mem {σ : St} {id : Nat} {x : Val} (h : σ.find id = some x) : ⟨id, x⟩ ∈ σ.bx := by
  unfold St.find at h
  induction hb : σ.bx with
  | nil => rw [hb] at h; simp [St.find.go] at h
  | cons b r ih =>
    have key : ∀ l : List Bx, St.find.go id l = some x → ⟨id, x⟩ ∈ l := by
      intro l
      induction l with
      | nil => intro h; simp [St.find.go] at h
      | cons b r ih =>
        intro h
        simp only [St.find.go] at h
        split at h
        · rename_i he
          injection h with h; subst h; subst he
          exact List.mem_cons_self
        · exact List.mem_cons_of_mem _ (ih h)
    rw [hb] at h
    exact key _ h
theorem mem_setBx {id : Nat} {x : Val} : ∀ {l : List Bx} {b : Bx}, b ∈ setBx id x l → b = ⟨id, x⟩ ∨ (b ∈ l ∧ (b.id = id → False) ∨ b ∈ l ∧ b.id ≠ id) ∨ b ∈ l := by
  intro l
  induction l with
  | nil => intro b h; simp [setBx] at h
  | cons c r ih =>
    intro b h
    simp only [setBx] at h
    split at h
    · rcases List.mem_cons.1 h with h | h
      · exact .inl h
      · exact .inr (.inr (List.mem_cons_of_mem _ h))
    · rcases List.mem_cons.1 h with h | h
      · exact .inr (.inr (h ▸ List.mem_cons_self))
      · rcases ih h with h | _ | h
        · exact .inl h
        · rename_i h; rcases h with h | h <;> exact .inr (.inr (List.mem_cons_of_mem _ h.1))
        · exact .inr (.inr (List.mem_cons_of_mem _ h))
theorem setBx_ids {id : Nat} {x : Val} : ∀ (l : List Bx), (setBx id x l).map (·.id) = l.map (·.id) := by
  intro l
  induction l with
  | nil => rfl
  | cons c r ih =>
    simp only [setBx]
    split
    · rename_i h; simp [h]
    · simp [ih]
theorem setBx_mem {id : Nat} {x : Val} : ∀ {l : List Bx} {b : Bx}, (l.map (·.id)).Nodup → b ∈ setBx id x l → b = ⟨id, x⟩ ∨ (b ∈ l ∧ b.id ≠ id) := by
  intro l
  induction l with
  | nil => intro b _ h; simp [setBx] at h
  | cons c r ih =>
    intro b hn h
    simp only [List.map_cons, List.nodup_cons] at hn
    simp only [setBx] at h
    split at h
    · rename_i hc
      rcases List.mem_cons.1 h with h | h
      · exact .inl h
      · exact .inr ⟨List.mem_cons_of_mem _ h, fun he => hn.1 (by rw [hc, ← he]; exact List.mem_map.2 ⟨b, h, rfl⟩)⟩
    · rename_i hc
      rcases List.mem_cons.1 h with h | h
      · exact .inr ⟨h ▸ List.mem_cons_self, h ▸ hc⟩
      · rcases ih hn.2 h with h | h
        · exact .inl h
        · exact .inr ⟨List.mem_cons_of_mem _ h.1, h.2⟩
theorem inj_of_nodup {α β : Type} {f : α → β} : ∀ {l : List α}, (l.map f).Nodup → ∀ {x y : α}, x ∈ l → y ∈ l → f x = f y → x = y := by
  intro l
  induction l with
  | nil => intro _ x y h; cases h
  | cons c r ih =>
    intro hn x y hx hy he
    simp only [List.map_cons, List.nodup_cons] at hn
    rcases List.mem_cons.1 hx with h1 | h1 <;> rcases List.mem_cons.1 hy with h2 | h2
    · rw [h1, h2]
    · exact absurd (List.mem_map.2 ⟨y, h2, by rw [← he, h1]⟩) hn.1
    · exact absurd (List.mem_map.2 ⟨x, h1, by rw [he, h2]⟩) hn.1
    · exact ih hn.2 h1 h2 he
section
variable {X : Ctx} {E : Env} {σ : St} {a : Array Value} {w : World}
theorem owned_setBx (id : Nat) (x : Val) : owned E { σ with bx := setBx id x σ.bx } = owned E σ := by
  have key : ∀ l : List Bx, (setBx id x l).map (fun b => (E.ad b.id).1) = l.map (fun b => (E.ad b.id).1) := by
    intro l
    have h1 : ∀ l : List Bx, l.map (fun b => (E.ad b.id).1) = (l.map (·.id)).map (fun i => (E.ad i).1) := fun l => by simp
    rw [h1, h1, setBx_ids]
  simp only [owned, key]
/-- A box holds something else. -/
theorem RelE.setBox (h : RelE X E σ a w) {id : Nat} {y : Val} (hf : σ.find id = some y) {v : y.t.den} {ms : List Nat} {cur : Array Value} {e : TypeId} {d : Nat} {c cx : List Value}
    (hb : w.heap[(E.ad id).1]? = some (.cells cur e (0, 0))) (hfit : (E.ad id).2 + c.length ≤ cur.size) (hat : At w (E.ad id).1 (E.ad id).2 c) (hd : d + cx.length ≤ c.length) (hcl : c.length = y.t.size)
    (hv : Rv w (Fz X E σ w) E σ y.t v ms (c.take d ++ cx ++ c.drop (d + cx.length))) (hms : ms.length = y.t.nl) :
    RelE X E { σ with bx := setBx id ⟨y.t, v, ms⟩ σ.bx } a (w.setRow (E.ad id).1 (splice cur ((E.ad id).2 + d) cx)) ∧
      Keep w (w.setRow (E.ad id).1 (splice cur ((E.ad id).2 + d) cx)) (Fz X E σ w) (Fz X E { σ with bx := setBx id ⟨y.t, v, ms⟩ σ.bx } (w.setRow (E.ad id).1 (splice cur ((E.ad id).2 + d) cx))) E E σ { σ with bx := setBx id ⟨y.t, v, ms⟩ σ.bx } := by
  have hmem := find_mem hf
  have hne : ∀ b, b ∈ σ.bx → b.id ≠ id → (E.ad b.id).1 ≠ (E.ad id).1 := by
    intro b hb' hbid he
    have hn := h.nodup
    simp only [owned] at hn
    have hn1 := (List.nodup_append.1 hn).1
    have hinj := inj_of_nodup (f := fun b : Bx => (E.ad b.id).1) hn1 hb' hmem he
    exact hbid (by rw [hinj])
  have hal : ∀ τ ∈ σ.al, ∀ g, E.hd τ = some g → g ≠ (E.ad id).1 := by
    intro τ hτ g hg he
    have hn := h.nodup
    simp only [owned] at hn
    exact (List.nodup_append.1 hn).2.2 _ (List.mem_map.2 ⟨_, hmem, rfl⟩) g (List.mem_append_left _ (List.mem_flatMap.2 ⟨τ, hτ, by simp [tokB, hg]⟩)) he.symm
  have hFz : ∀ b, Fz X E σ w b → Fz X E { σ with bx := setBx id ⟨y.t, v, ms⟩ σ.bx } (w.setRow (E.ad id).1 (splice cur ((E.ad id).2 + d) cx)) b := fun b hb' => ⟨hb'.1, by simpa [World.setRow] using hb'.2.1, by rw [owned_setBx]; exact hb'.2.2⟩
  have hother : ∀ b, b ≠ (E.ad id).1 → (w.setRow (E.ad id).1 (splice cur ((E.ad id).2 + d) cx)).heap[b]? = w.heap[b]? := fun b hb' => setRow_other w _ b _ hb'
  have K : Keep w (w.setRow (E.ad id).1 (splice cur ((E.ad id).2 + d) cx)) (Fz X E σ w) (Fz X E { σ with bx := setBx id ⟨y.t, v, ms⟩ σ.bx } (w.setRow (E.ad id).1 (splice cur ((E.ad id).2 + d) cx))) E E σ { σ with bx := setBx id ⟨y.t, v, ms⟩ σ.bx } :=
    ⟨fun b hb' => ⟨hFz b hb', hother b (fun he => hb'.2.2 (he ▸ mem_owned_bx hmem))⟩, Nat.le_refl _, fun _ _ => rfl, fun _ _ => rfl, fun _ _ h => .inl h, fun τ _ hτ => ⟨hτ, fun g hg => hother g (hal τ hτ g hg)⟩, h.ge, fun b hb' => ⟨hb', hother b (fun he => (h.pinlt b hb').2 (he ▸ mem_owned_bx hmem))⟩⟩
  have hfit' : (E.ad id).2 + d + cx.length ≤ cur.size := by omega
  have hlen : (c.take d ++ cx ++ c.drop (d + cx.length)).length = c.length := by simp; omega
  refine ⟨{ h with
    slot := fun i s u hs hu => K.slot (h.slot i s u hs hu)
    bx := fun b hb' => ?_
    nodup := by rw [owned_setBx]; exact h.nodup
    lt := fun b hb' => by rw [owned_setBx] at hb'; exact ⟨by simpa [World.setRow] using (h.lt b hb').1, (h.lt b hb').2⟩
    ids := by show ((setBx id ⟨y.t, v, ms⟩ σ.bx).map (·.id)).Nodup; rw [setBx_ids]; exact h.ids
    idlt := fun b hb' => ?_
    fr := h.fr.setRow hb (splice_size hfit') (fun hlt o ho => ?_)
    srcb := fun b hb' => ?_
    pinlt := fun b hb' => by rw [owned_setBx]; exact ⟨by simpa [World.setRow] using (h.pinlt b hb').1, (h.pinlt b hb').2⟩ }, K⟩
  · rcases setBx_mem h.ids hb' with rfl | ⟨hb1, hb2⟩
    · refine ⟨_, _, e, K.rv hv, hms, setRow_heap w _ cur _ e _ hb, by rw [hlen, splice_size hfit']; exact hfit, fun j u hu => ?_⟩
      show (w.setRow (E.ad id).1 _).cell? ⟨(E.ad id).1, (E.ad id).2 + j, none⟩ = some u
      have hget : w.cell? ⟨(E.ad id).1, (E.ad id).2 + j, none⟩ = cur[(E.ad id).2 + j]? := cell_of_row w _ _ cur e _ hb
      have hjc : c[j]? = cur[(E.ad id).2 + j]? := by
        by_cases hj : j < c.length
        · have := hat j _ (List.getElem?_eq_getElem hj)
          rw [hget] at this
          rw [List.getElem?_eq_getElem hj, this]
        · have := (List.getElem?_eq_some_iff.1 hu).1
          omega
      rw [cell_of_row _ _ _ _ e (0, 0) (setRow_heap w _ cur _ e _ hb), splice_get hfit']
      simp only [List.getElem?_append, List.length_append, List.length_take, List.getElem?_take, List.getElem?_drop] at hu
      by_cases h1 : j < d
      · rw [if_pos (by omega)]
        rw [if_pos (by omega), if_pos (by omega), if_pos h1] at hu
        rw [← hjc]; exact hu
      · rw [if_neg (by omega)]
        by_cases h2 : j < d + cx.length
        · rw [if_pos (by omega)]
          rw [if_pos (by omega), if_neg (by omega)] at hu
          rw [← hu]; congr 1; omega
        · rw [if_neg (by omega)]
          rw [if_neg (by omega)] at hu
          rw [← hjc, ← hu]; congr 1; omega
    · exact K.bx (h.bx b hb1) (h.idlt b hb1) (hother _ (hne b hb1 hb2))
  · rcases setBx_mem h.ids hb' with rfl | ⟨hb1, _⟩
    · exact (h.idlt ⟨id, y⟩ hmem : id < σ.nt)
    · exact h.idlt b hb1
  · rw [splice_get hfit']
    rcases h.srcb _ hmem with h1 | h1
    · split
      · rfl
      · split
        · exact absurd (h.pbm _ h1 o (by dsimp only; omega) (by dsimp only; omega)) ho
        · rfl
    · dsimp only at h1; omega
  · rcases setBx_mem h.ids hb' with rfl | ⟨hb1, _⟩
    · have h0 := h.srcb ⟨id, y⟩ hmem
      exact h0
    · exact h.srcb b hb1
end
end Go.Proofs.Ytopeacfbcdoljaa.V
