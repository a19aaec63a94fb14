/- Regions in the text's order. -/
import Derived.Test.YtopeacfbcdoljaaWb
namespace Go.Proofs.Ytopeacfbcdoljaa.V
open Go
section
variable {P : Program} {X : Ctx} {E : Env} {σ : St} {A0 : Array Value} {a : Act} {w : World} {o : Oper} {R : Type}
def Contig : Nat → List (Oper × Nat) → Prop
  | _, [] => True
  | i, q :: r => q.2 = i ∧ Contig (i + 1) r
theorem spanG_eq (j : Nat) : ∀ (l : List (Oper × Nat)) {g r : List (Oper × Nat)}, spanG j l = (g, r) → l = g ++ r := by
  intro l
  induction l with
  | nil => intro g r h; simp [spanG] at h; simp [h.1, h.2]
  | cons o l ih =>
    intro g r h
    simp only [spanG] at h
    cases hd : decide (j < gOf o.1) with
    | false => rw [hd] at h; simp at h; simp [h.1, h.2]
    | true =>
      rw [hd] at h
      simp only [cond_true, Prod.mk.injEq] at h
      obtain ⟨rfl, rfl⟩ := h
      have := ih (g := (spanG j l).1) (r := (spanG j l).2) rfl
      rw [List.cons_append, ← this]
theorem contig_append {g r : List (Oper × Nat)} : ∀ {i : Nat}, Contig i (g ++ r) → Contig i g ∧ Contig (i + g.length) r := by
  induction g with
  | nil => intro i h; exact ⟨trivial, by simpa using h⟩
  | cons q g ih =>
    intro i h
    obtain ⟨h1, h2⟩ := ih h.2
    exact ⟨⟨h.1, h1⟩, by rw [List.length_cons, show i + (g.length + 1) = i + 1 + g.length by omega]; exact h2⟩
theorem clearD_fr : ∀ (g : List (Oper × Nat)) (σ : St), (clearD g σ).bx = σ.bx ∧ (clearD g σ).al = σ.al ∧ (clearD g σ).fz = σ.fz ∧ (clearD g σ).ln = σ.ln ∧ (clearD g σ).nt = σ.nt ∧ (clearD g σ).fr.length = σ.fr.length ∧
    ∀ i s, (clearD g σ).fr[i]? = some s → s = .no ∨ (σ.fr[i]? = some s ∧ ∀ q ∈ g, q.1.dst ≠ some i) := by
  intro g
  induction g with
  | nil => intro σ; exact ⟨rfl, rfl, rfl, rfl, rfl, rfl, fun i s h => .inr ⟨h, fun q hq => by cases hq⟩⟩
  | cons q g ih =>
    intro σ
    obtain ⟨h1, h2, h3, h4, h5, h6, h7⟩ := ih (σ.put q.1.dst .no)
    have e : clearD (q :: g) σ = clearD g (σ.put q.1.dst .no) := rfl
    rw [e]
    cases hd : q.1.dst with
    | none =>
      rw [hd] at h1 h2 h3 h4 h5 h6 h7
      refine ⟨h1, h2, h3, h4, h5, h6, fun i s hs => ?_⟩
      rcases h7 i s hs with h | ⟨h, k⟩
      · exact .inl h
      · exact .inr ⟨h, fun q' hq' => by
          rcases List.mem_cons.1 hq' with rfl | hq'
          · rw [hd]; simp
          · exact k q' hq'⟩
    | some d =>
      rw [hd] at h1 h2 h3 h4 h5 h6 h7
      refine ⟨h1, h2, h3, h4, h5, by rw [h6]; simp [St.put], fun i s hs => ?_⟩
      rcases h7 i s hs with h | ⟨h, k⟩
      · exact .inl h
      · by_cases hi : d = i
        · subst hi
          simp only [St.put] at h
          rw [List.getElem?_set_self (by have := (List.getElem?_eq_some_iff.1 h).1; simpa using this)] at h
          injection h with h
          exact .inl h.symm
        · simp only [St.put] at h
          rw [List.getElem?_set_ne hi] at h
          exact .inr ⟨h, fun q' hq' => by
            rcases List.mem_cons.1 hq' with rfl | hq'
            · rw [hd]; simpa using hi
            · exact k q' hq'⟩
/-- A group's slots forgotten. -/
theorem RelE.clear (hr : RelE X E σ A0 w) (g : List (Oper × Nat)) {A1 : Array Value} (hs : A1.size = A0.size) (ho : ∀ i, (∀ q ∈ g, q.1.dst ≠ some i) → A1[i]? = A0[i]?) : RelE X E (clearD g σ) A1 w := by
  obtain ⟨h1, h2, h3, h4, h5, h6, h7⟩ := clearD_fr g σ
  have e : clearD g σ = { σ with fr := (clearD g σ).fr } := by
    have : clearD g σ = ⟨(clearD g σ).fr, (clearD g σ).bx, (clearD g σ).al, (clearD g σ).fz, (clearD g σ).ln, (clearD g σ).nt⟩ := rfl
    rw [this, h1, h2, h3, h4, h5]
  rw [e]
  exact { hr with
    len := by show (clearD g σ).fr.length = _; rw [h6, hr.len, hs]
    slot := fun i s v hs' hv => by
      rcases h7 i s hs' with h | ⟨h, k⟩
      · subst h; trivial
      · rw [ho i k] at hv
        exact (hr.slot i s v h hv).fr hr.ge
    bx := fun b hb => (hr.bx b hb).fr (hr.idlt b hb) hr.ge }

/-- How a list of operations ends. -/
def End (X : Ctx) (T : Tabs) (l : List (Oper × Nat)) (a : Act) (w : World) (G : St → Prop) (a' : Act) (w' : World) : Prop :=
  a'.defers = a.defers ∧ a'.tmps.size = a.tmps.size ∧ (∀ i, (∀ q ∈ l, q.1.dst ≠ some i) → a'.tmps[i]? = a.tmps[i]?) ∧ ((∀ q ∈ l, quiet T q.1.op = true) → Ext w w') ∧ ∃ σ', G σ' ∧ Rel X σ' a'.tmps w'
theorem yielded_dst {ops : Array Oper} {tmps : Array Value} {j : Nat} {c : Tmp} (h : dstOf ops j = some c) : yielded ops tmps j = (match tmps[c]? with | some (.bool b) => some b | _ => none) := by
  unfold yielded dstOf at *
  rw [h]
  simp only [Option.bind_some]
  cases tmps[c]? with
  | none => rfl
  | some v => cases v <;> rfl
theorem yielded_none {ops : Array Oper} {tmps : Array Value} {j : Nat} (h : dstOf ops j = none) : yielded ops tmps j = none := by
  unfold yielded dstOf at *
  rw [h]; rfl
/-- A guarded group that isn't wanted. -/
theorem skip_ok {T : Tabs} {ops : Array Oper} {i0 j : Nat} {v : Bool} {c : Tmp} {Q : Exit → Act → World → Prop} {rest : List Nat} : ∀ {g : List (Oper × Nat)} {a : Act} {i : Nat}, Contig i g → (∀ q ∈ g, ops[q.2]? = some q.1) → (∀ q ∈ g, okG T i0 j v c q.1 q.2 = true) → dstOf ops j = some c →
    yielded ops a.tmps j ≠ some v → (∀ j', i0 ≤ j' → j' < i → yielded ops a.tmps j' = none) → (∀ a', a'.defers = a.defers → a'.tmps.size = a.tmps.size → (∀ i, (∀ q ∈ g, q.1.dst ≠ some i) → a'.tmps[i]? = a.tmps[i]?) → wpOps P ops Q rest a' w) →
    wpOps P ops Q (g.map (·.2) ++ rest) a w := by
  intro g
  induction g with
  | nil => intro a i _ _ _ _ _ _ h; exact h a rfl rfl (fun _ _ => rfl)
  | cons q g ih =>
    intro a i hc hi hok hd hy hn h
    have hq := hi q List.mem_cons_self
    have ho := hok q List.mem_cons_self
    simp only [okG, Bool.and_eq_true, Bool.not_eq_true', beq_eq_false_iff_ne, ne_eq] at ho
    have hun : Region.wanted q.1 (yielded ops a.tmps) = false := by
      unfold Region.wanted
      cases hg : q.1.guard with
      | none => rw [hg] at ho; exact absurd ho.1.1 (by simp)
      | some p =>
        obtain ⟨j', w'⟩ := p
        rw [hg] at ho
        simp only [Bool.or_eq_true, Bool.and_eq_true, beq_iff_eq, decide_eq_true_eq] at ho
        rcases ho.1.1 with ⟨rfl, rfl⟩ | ⟨h1, h2⟩
        · simpa using hy
        · have := hn j' h1 (by rw [← hc.1]; exact h2)
          simp [this]
    simp only [List.map_cons, List.cons_append, wpOps, hq, hun, Bool.false_eq_true, if_false]
    have hput : ∀ k, q.1.dst ≠ some k → (a.put q.1.dst undef).tmps[k]? = a.tmps[k]? := fun k hk => put_other _ _ k (fun e => hk e.symm)
    refine ih hc.2 (fun q' hq' => hi q' (List.mem_cons_of_mem _ hq')) (fun q' hq' => hok q' (List.mem_cons_of_mem _ hq')) hd ?_ (fun j' h1 h2 => ?_) (fun a' e1 e2 e3 => h a' ?_ ?_ ?_)
    · rw [yielded_dst hd, hput c ho.1.2, ← yielded_dst hd]; exact hy
    · cases hdj : dstOf ops j' with
      | none => exact yielded_none hdj
      | some d =>
        rw [yielded_dst hdj]
        by_cases he : q.1.dst = some d
        · have hund : ∀ u, (a.put q.1.dst undef).tmps[d]? = some u → u = undef := by
            intro u hu
            rw [he] at hu
            simp only [Act.put] at hu
            by_cases hlt : d < a.tmps.size
            · rw [Array.getElem?_setIfInBounds_self_of_lt hlt] at hu
              exact (Option.some.inj hu).symm
            · rw [Array.getElem?_eq_none (by rw [Array.size_setIfInBounds]; exact Nat.le_of_not_lt hlt)] at hu; cases hu
          cases hz : (a.put q.1.dst undef).tmps[d]? with
          | none => rfl
          | some u => rw [hund u hz]; rfl
        · rw [hput d he, ← yielded_dst hdj]
          by_cases hj : j' = i
          · subst hj
            have : dstOf ops j' = q.1.dst := by unfold dstOf; rw [← hc.1, hq]; rfl
            rw [this] at hdj
            exact absurd hdj he
          · exact hn j' h1 (by omega)
    · rw [e1]; exact put_defers _ _
    · rw [e2]; exact put_size _ _
    · intro k hk
      rw [e3 k (fun q' hq' => hk q' (List.mem_cons_of_mem _ hq'))]
      exact hput k (hk q List.mem_cons_self)
end
end Go.Proofs.Ytopeacfbcdoljaa.V
