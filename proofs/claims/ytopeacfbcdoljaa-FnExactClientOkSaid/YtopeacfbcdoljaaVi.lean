/- Soundness of single operations, sixth part: through pointers; boxes made, written. -/
import Derived.Test.YtopeacfbcdoljaaVh
namespace Go.Proofs.Ytopeacfbcdoljaa.V
open Go
section
variable {P : Program} {X : Ctx} {E : Env} {σ : St} {a : Act} {w : World} {o : Oper} {R : Type}
theorem us_iff {τ : Nat} : σ.us τ = true ↔ τ = 0 ∨ τ = 1 ∨ τ ∈ σ.al ∨ τ ∈ σ.fz := by
  simp [St.us, or_assoc]
theorem ownsAt {e : TypeId} {size n g cap : Nat} {css : List Value} (h : w.ownsRow 0 e size (.slice (some ⟨g, 0, none⟩) n cap) n css) : At w g 0 css := by
  intro j v hv
  have := h.cells (g := g) rfl j v hv
  rwa [add_addr] at this
theorem rootTok_hd {ln : List (Nat × Nat)} (h : ∀ p ∈ ln, E.hd p.1 = E.hd p.2) (τ : Nat) : E.hd (rootTok ln τ) = E.hd τ := by
  induction ln generalizing τ with
  | nil => rfl
  | cons p r ih =>
    obtain ⟨x, y⟩ := p
    have ih' := ih (fun q hq => h q (List.mem_cons_of_mem _ hq))
    simp only [rootTok]
    cases hx : (x == τ) with
    | true =>
      have : x = τ := by simpa using hx
      subst this
      simp only [cond_true, ih']
      exact (h (x, y) (by simp)).symm
    | false => simp only [cond_false, ih']
theorem RelE.z (hr : RelE X E σ a.tmps w) : 0 ∉ σ.al := fun h => by have := (hr.alr 0 h).1; omega
theorem root_ok (hr : RelE X E σ a.tmps w) {root : Root} {y : Val} (h : σ.root root = some y) : ∃ cs, Rv w (Fz X E σ w) E σ y.t y.v y.ms cs ∧ y.ms.length = y.t.nl := by
  cases root with
  | tmp i =>
    simp only [St.root] at h
    have hs := slot_opd hr (.tmp i)
    simp only [opd] at hs
    revert h hs
    generalize σ.fr.getD i .no = s
    intro h hs
    cases s with
    | val x hm => simp at h; subst h; obtain ⟨cs, h1, _, h3⟩ := hs; exact ⟨cs, h1, h3⟩
    | _ => simp at h
  | bx id =>
    simp only [St.root] at h
    obtain ⟨cs, c, e, h1, h2, _⟩ := hr.bx _ (find_mem h)
    exact ⟨cs, h1, h2⟩
/-- A row's cells, of a slice that may be read. -/
theorem leaf_row {e : TypeId} {t : Ty} {τ : Nat} {xs : List t.den} {c : Value} (hr : RelE X E σ a.tmps w) (h : Leaf w (Fz X E σ w) E σ e t τ xs c) (hu : σ.us τ = true) :
    ∃ ad cap css, c = .slice ad xs.length cap ∧ css.length = xs.length * t.size ∧ (∀ (i : Nat) (x : t.den), xs[i]? = some x → Rf w (Fz X E σ w) t x (seg css t.size i)) ∧
      (css ≠ [] → ∃ b o, ad = some ⟨b, o, none⟩ ∧ At w b o css ∧ (τ ∉ σ.al → Fz X E σ w b) ∧ (2 ≤ τ → o = 0 ∧ E.hd τ = some b)) ∧ xs.length ≤ cap := by
  obtain ⟨hlt, ad, cap, rfl, hf, h1, hh, ho⟩ := h
  have hfz : frz σ τ → τ ∉ σ.al := fun hz hal => by
    have := hr.alr τ hal
    rcases hz with h | h
    · omega
    · exact this.2.2 h
  have two : ∀ b o, ad = some ⟨b, o, none⟩ → 2 ≤ τ → o = 0 ∧ E.hd τ = some b := by
    intro b o he h2
    have := hh h2
    rw [he] at this
    cases hd : E.hd τ with
    | none => rw [hd] at this; simp at this
    | some g => rw [hd] at this; simp at this; exact ⟨this.2, by rw [this.1]⟩
  rcases us_iff.1 hu with h | h | h | h
  · obtain ⟨ad', cap', css, e1, e2, e3, e4, e5⟩ := hf (.inl h)
    simp only [List.cons.injEq, Value.slice.injEq, and_true, true_and] at e1
    obtain ⟨rfl, rfl⟩ := e1
    exact ⟨ad, cap, css, rfl, e2, e3, fun hn => by
      obtain ⟨b, o, q1, q2, q3⟩ := e4 hn
      exact ⟨b, o, q1, q3, fun _ => q2, two b o q1⟩, e5⟩
  · obtain ⟨rfl, rfl, hx⟩ := h1 h
    subst hx
    exact ⟨none, 0, [], rfl, by simp, fun i x hx => by simp at hx, fun h => absurd rfl h, by simp⟩
  · obtain ⟨css, hown, hrs⟩ := ho h
    refine ⟨ad, cap, css, rfl, hown.1, hrs, fun hn => ?_, ownsRow_cap hown⟩
    have hE := hh (hr.alr τ h).1
    rcases hown.2 with ⟨e1, e2⟩ | ⟨g, cap', cur, e1, _⟩
    · have : css = [] := List.eq_nil_of_length_eq_zero (by rw [hown.1, e2, Nat.zero_mul])
      exact absurd this hn
    · simp only [Value.slice.injEq] at e1
      obtain ⟨rfl, _, rfl⟩ := e1
      exact ⟨g, 0, rfl, ownsAt hown, fun hn => absurd h hn, two g 0 rfl⟩
  · obtain ⟨ad', cap', css, e1, e2, e3, e4, e5⟩ := hf (.inr h)
    simp only [List.cons.injEq, Value.slice.injEq, and_true, true_and] at e1
    obtain ⟨rfl, rfl⟩ := e1
    exact ⟨ad, cap, css, rfl, e2, e3, fun hn => by
      obtain ⟨b, o, q1, q2, q3⟩ := e4 hn
      exact ⟨b, o, q1, q3, fun _ => q2, two b o q1⟩, e5⟩
theorem read_ok (hr : RelE X E σ a.tmps w) {s : Slot} {v : Value} (hs : SlotOk w (Fz X E σ w) E σ s v) {k : Val → Option Home → Option R} {r : R} (h : readK σ s k = some r) :
    ∃ x hm b o cs, k x hm = some r ∧ v = .pointer (some ⟨b, o, none⟩) ∧ Rv w (Fz X E σ w) E σ x.t x.v x.ms cs ∧ x.ms.length = x.t.nl ∧ At w b o cs := by
  have hnt : 0 < σ.nt := by have := hr.nt2; omega
  cases s with
  | ptr id r' p t =>
    simp only [readK] at h
    cases hf : σ.find id with
    | none => simp [hf] at h
    | some y =>
      simp only [hf] at h
      cases hb : Ty.beq y.t r' with
      | false => simp [hb] at h
      | true =>
        rw [hb] at h
        simp only [cond_true] at h
        have e := Ty.eq_of_beq hb
        obtain ⟨_, b, o, hv, ha⟩ := hs
        obtain ⟨cs, c, e', h1, h2, h3, h4, h5⟩ := hr.bx _ (find_mem hf)
        dsimp only at h1 h2 h3 h4 h5
        obtain ⟨x, d, q1, q2, q3, q4, q5⟩ := get_ok hnt hr.z h h1 h2
        have q6 := q5 (E.ad id).1 (E.ad id).2
        rw [e, ha] at q6
        simp only [Option.some.injEq, Prod.mk.injEq] at q6
        obtain ⟨q7, q8, q9⟩ := q6
        refine ⟨x, _, b, o, _, q1, hv, q2, q3, ?_⟩
        rw [q8, q9]
        exact h5.part
  | eptr hm τ i u p t =>
    simp only [readK, rowK] at h
    cases hy : σ.root hm.root with
    | none => simp [hy] at h
    | some y =>
      simp only [hy] at h
      obtain ⟨cs, h1, h2⟩ := root_ok hr hy
      obtain ⟨z, d, q1, q2, q3, q4, _⟩ := get_ok hnt hr.z h h1 h2
      obtain ⟨zt, zv, zm⟩ := z
      cases zt with
      | sl e u' =>
        simp only at q1
        cases hc : σ.us (zm.headD 0) && (rootTok σ.ln (zm.headD 0) == rootTok σ.ln τ) && Ty.beq u' u with
        | false => rw [hc] at q1; simp at q1
        | true =>
          rw [hc] at q1
          simp only [cond_true] at q1
          simp only [Bool.and_eq_true, beq_iff_eq] at hc
          obtain ⟨⟨hu, hroot⟩, hbeq⟩ := hc
          have e' := Ty.eq_of_beq hbeq
          subst e'
          cases hx : (zv : List u'.den)[i]? with
          | none => rw [hx] at q1; simp at q1
          | some x =>
            rw [hx] at q1
            simp only [Option.bind_some] at q1
            obtain ⟨⟨h20, h21⟩, g, b, o, hg, hv, ha⟩ := hs
            obtain ⟨c, ec, hleaf⟩ := q2
            have hhd : E.hd (zm.headD 0) = some g := by
              rw [← rootTok_hd hr.lnr (zm.headD 0), hroot, rootTok_hd hr.lnr τ, hg]
            have h2' : 2 ≤ zm.headD 0 := by
              rcases Nat.lt_or_ge (zm.headD 0) 2 with hlt | hge
              · rw [hr.hd0 _ hlt] at hhd; cases hhd
              · exact hge
            obtain ⟨ad, cap, css, _, hl, hrs, hne, _⟩ := leaf_row hr hleaf hu
            have hi : i < (zv : List u'.den).length := (List.getElem?_eq_some_iff.1 hx).1
            have hrf := hrs i x hx
            have hlen := hrf.length
            obtain ⟨y2, d2, w1, w2, w3, w4, w5⟩ := get_ok hnt hr.z q1 (rv_of_rf hnt hr.z hrf) (by simp)
            have w6 := w5 g (i * u'.size)
            rw [ha] at w6
            simp only [Option.some.injEq, Prod.mk.injEq] at w6
            obtain ⟨w7, w8, w9⟩ := w6
            refine ⟨y2, none, b, o, _, w1, hv, w2, w3, ?_⟩
            by_cases hn : css = []
            · subst hn
              have e0 : seg ([] : List Value) u'.size i = [] := by simp [V.seg]
              rw [e0]
              intro j q hq
              simp at hq
            · obtain ⟨b', o', _, hat, _, h2e⟩ := hne hn
              obtain ⟨rfl, hh⟩ := h2e h2'
              rw [hhd] at hh
              injection hh with hh
              subst hh
              rw [w8, w9]
              have := (hat.seg (i := i) (n := u'.size)).part (d := d2) (n := y2.t.size)
              rwa [Nat.zero_add] at this
      | _ => simp at q1
  | rptr τ x =>
    simp only [readK] at h
    cases hc : σ.us τ && !(τ == 1) with
    | false => rw [hc] at h; simp at h
    | true =>
      rw [hc] at h
      simp only [cond_true] at h
      simp only [Bool.and_eq_true, Bool.not_eq_true', beq_eq_false_iff_ne, ne_eq] at hc
      obtain ⟨_, b, o, hv, hall⟩ := hs
      have : frz σ τ ∨ τ ∈ σ.al := by
        rcases us_iff.1 hc.1 with h | h | h | h
        · exact .inl (.inl h)
        · exact absurd h hc.2
        · exact .inr h
        · exact .inl (.inr h)
      obtain ⟨cs, r1, r2, r3, _⟩ := hall this
      exact ⟨x, none, b, o, cs, h, hv, r1, r2, r3⟩
  | _ => simp [readK] at h
theorem step_load (T : Tabs) (hT : TabOk P T.T) {t : TypeId} {x : Operand} (ho : o.op = .load t x) {k : St → Option R} {r : R} (h : stepK T o σ k = some r) (hr : RelE X E σ a.tmps w) : StepOk P X T o a w (fun σ' => k σ' = some r) := by
  simp only [stepK, ho] at h
  cases hTt : T.T t with
  | none => simp [hTt] at h
  | some tt =>
    simp only [hTt] at h
    obtain ⟨y, hm, b, f, cs, h1, hv, h2, h3, h4⟩ := read_ok hr (slot_opd hr x) h
    cases hb : Ty.beq y.t tt with
    | false => rw [hb] at h1; simp at h1
    | true =>
      rw [hb] at h1
      simp only [cond_true] at h1
      have e := Ty.eq_of_beq hb
      subst e
      obtain ⟨n, ht⟩ := hT.ty t _ hTt
      refine stepOk_value (v := toVal y.t cs) (w' := w) ?_ ⟨E, hr.put (s := .val y hm) o.dst ⟨cs, h2, rfl, h3⟩⟩ h1
      simp only [execOp, ho, hv, Sem.run_bind, run_loadAt_ty ht h2.length h4, Result.andThen_ok, Sem.run_pure]
/-- A new box. -/
theorem RelE.newBox {A0 : Array Value} (hr : RelE X E σ A0 w) {t : Ty} {v : t.den} {ms : List Nat} {cs : List Value} (e : TypeId) (hv : Rv w (Fz X E σ w) E σ t v ms cs) (hms : ms.length = t.nl) :
    ∃ E', RelE X E' { σ with bx := ⟨σ.nt, ⟨t, v, ms⟩⟩ :: σ.bx, nt := σ.nt + 1 } A0 (w.alloc (.cells cs.toArray e)) ∧
      SlotOk (w.alloc (.cells cs.toArray e)) (Fz X E' { σ with bx := ⟨σ.nt, ⟨t, v, ms⟩⟩ :: σ.bx, nt := σ.nt + 1 } (w.alloc (.cells cs.toArray e))) E' { σ with bx := ⟨σ.nt, ⟨t, v, ms⟩⟩ :: σ.bx, nt := σ.nt + 1 } (.ptr σ.nt t [] t) (.pointer (some ⟨w.heap.size, 0, none⟩)) := by
  let E' : Env := ⟨fun i => if i = σ.nt then (w.heap.size, 0) else E.ad i, E.hd, E.out, E.pin⟩
  let σ' : St := { σ with bx := ⟨σ.nt, ⟨t, v, ms⟩⟩ :: σ.bx, nt := σ.nt + 1 }
  have hx := Ext.alloc w (.cells cs.toArray e)
  have hE : ∀ b ∈ σ.bx, E'.ad b.id = E.ad b.id := fun b hb => if_neg (Nat.ne_of_lt (hr.idlt b hb))
  have hEn : E'.ad σ.nt = (w.heap.size, 0) := if_pos rfl
  have hown : owned E' σ' = w.heap.size :: owned E σ := by
    show (E'.ad σ.nt).1 :: (σ.bx.map (fun b => (E'.ad b.id).1)) ++ _ = _
    rw [hEn, List.map_congr_left (fun b hb => by rw [hE b hb])]
    rfl
  have hn : w.heap.size ∉ owned E σ := fun h => Nat.lt_irrefl _ (hr.lt _ h).1
  have K : Keep w (w.alloc (.cells cs.toArray e)) (Fz X E σ w) (Fz X E' σ' (w.alloc (.cells cs.toArray e))) E E' σ σ' :=
    ⟨fun b hb => ⟨⟨hb.1, Nat.lt_of_lt_of_le hb.2.1 hx.size, by
        rw [hown]; intro h
        rcases List.mem_cons.1 h with h | h
        · have := hb.2.1; omega
        · exact hb.2.2 h⟩, hx.block b hb.2.1⟩,
      Nat.le_succ _, fun _ _ => rfl, fun i hi => if_neg (Nat.ne_of_lt hi), fun _ _ h => .inl h,
      fun τ _ hτ => ⟨hτ, fun b hb => hx.block b (hr.lt b (mem_owned_al hτ hb)).1⟩, hr.ge, fun b hb => ⟨hb, hx.block b (hr.pinlt b hb).1⟩⟩
  refine ⟨E', { hr with
    slot := fun i s u hs hu => K.slot (hr.slot i s u hs hu)
    bx := fun b hb => ?_
    nodup := by rw [hown]; exact List.nodup_cons.2 ⟨hn, hr.nodup⟩
    lt := fun b hb => ?_
    ids := ?_
    idlt := fun b hb => ?_
    alr := fun τ hτ => ⟨(hr.alr τ hτ).1, Nat.lt_succ_of_lt (hr.alr τ hτ).2.1, (hr.alr τ hτ).2.2⟩
    fzr := fun τ hτ => ⟨(hr.fzr τ hτ).1, Nat.lt_succ_of_lt (hr.fzr τ hτ).2⟩
    nt2 := Nat.le_succ_of_le hr.nt2
    lnlt := fun p hp => ⟨Nat.lt_succ_of_lt (hr.lnlt p hp).1, Nat.lt_succ_of_lt (hr.lnlt p hp).2⟩
    fr := hr.fr.ext hx
    srcb := fun b hb => ?_
    adx := fun e he => ⟨Nat.lt_succ_of_lt (hr.adx e he).1, (if_neg (Nat.ne_of_lt (hr.adx e he).1)).trans (hr.adx e he).2⟩
    hdx := fun e he => ⟨Nat.lt_succ_of_lt (hr.hdx e he).1, (hr.hdx e he).2⟩
    pinlt := fun b hb => ⟨Nat.lt_of_lt_of_le (hr.pinlt b hb).1 hx.size, by
      rw [hown]; intro h
      rcases List.mem_cons.1 h with h | h
      · have := (hr.pinlt b hb).1; omega
      · exact (hr.pinlt b hb).2 h⟩ }, Nat.lt_succ_self _, w.heap.size, 0, rfl, by rw [hEn]; simp [addr]⟩
  · rcases List.mem_cons.1 hb with rfl | hb
    · refine ⟨cs, cs.toArray, e, K.rv hv, hms, by rw [hEn]; exact heap_alloc_new w _, by rw [hEn]; simp, ?_⟩
      rw [hEn]
      intro j u hu
      show (w.alloc (.cells cs.toArray e)).cell? ⟨w.heap.size, 0 + j, none⟩ = some u
      rw [Nat.zero_add, World.cell?_alloc_new]
      simpa using hu
    · exact K.bx (hr.bx b hb) (hr.idlt b hb) (hx.block _ (hr.lt _ (mem_owned_bx hb)).1)
  · rw [hown] at hb
    rcases List.mem_cons.1 hb with rfl | hb
    · exact ⟨by simp, hr.new _ hr.fr.size⟩
    · exact ⟨Nat.lt_of_lt_of_le (hr.lt b hb).1 hx.size, (hr.lt b hb).2⟩
  · show (σ.nt :: σ.bx.map (·.id)).Nodup
    refine List.nodup_cons.2 ⟨fun h => ?_, hr.ids⟩
    obtain ⟨b, hb, he⟩ := List.mem_map.1 h
    have := hr.idlt b hb
    omega
  · rcases List.mem_cons.1 hb with rfl | hb
    · exact Nat.lt_succ_self _
    · exact Nat.lt_succ_of_lt (hr.idlt b hb)
  · rcases List.mem_cons.1 hb with rfl | hb
    · right; rw [hEn]; exact hr.fr.size
    · rw [hE b hb]; exact hr.srcb b hb
theorem step_alloc (T : Tabs) (hT : TabOk P T.T) {e : TypeId} (ho : o.op = .alloc e) {k : St → Option R} {r : R} (h : stepK T o σ k = some r) (hr : RelE X E σ a.tmps w) : StepOk P X T o a w (fun σ' => k σ' = some r) := by
  simp only [stepK, ho] at h
  cases hTt : T.T e with
  | none => simp [hTt] at h
  | some t =>
    simp only [hTt] at h
    obtain ⟨n, ht⟩ := hT.ty e _ hTt
    obtain ⟨z, hz, hzc⟩ := run_zeroValue_ty ht w
    obtain ⟨E', h1, h2⟩ := hr.newBox e (rv_zero (w := w) (A := Fz X E σ w) (E := E) hr.nt2 hr.no1.1 hr.no1.2 (tyB_ok ht)) (by simp)
    refine stepOk_value (v := .pointer (some ⟨w.heap.size, 0, none⟩)) (w' := w.alloc (.cells (zc t).toArray e)) ?_ ⟨E', h1.put o.dst h2⟩ h
    have hc : z.cells = (zc t).toArray := by rw [← hzc]
    simp only [execOp, ho, Instr.alloc, Sem.run_bind, hz, Result.andThen_ok, newVar, newRow, hc, run_newObj, Sem.run_pure, World.alloc_eq]
theorem step_box (T : Tabs) (hT : TabOk P T.T) {e : TypeId} {x : Operand} (ho : o.op = .box e x) {k : St → Option R} {r : R} (h : stepK T o σ k = some r) (hr : RelE X E σ a.tmps w) : StepOk P X T o a w (fun σ' => k σ' = some r) := by
  simp only [stepK, ho] at h
  cases hTt : T.T e with
  | none => simp [hTt] at h
  | some t =>
    simp only [hTt] at h
    cases hc : V.coe t (opd σ x) with
    | none => simp [hc] at h
    | some p =>
      obtain ⟨v, ms⟩ := p
      simp only [hc] at h
      obtain ⟨cs, h1, h2, h3⟩ := hr.coe hc
      obtain ⟨n, ht⟩ := hT.ty e _ hTt
      obtain ⟨E', q1, q2⟩ := hr.newBox e h1 h3
      refine stepOk_value (v := .pointer (some ⟨w.heap.size, 0, none⟩)) (w' := w.alloc (.cells cs.toArray e)) ?_ ⟨E', q1.put o.dst q2⟩ h
      have hcl : (a.eval x).cells = cs.toArray := by rw [h2]; exact cells_toVal h1 (tyB_scalar ht)
      simp only [execOp, ho, Instr.box, Sem.run_bind, Result.andThen_ok, newVar, newRow, hcl, run_newObj, Sem.run_pure, World.alloc_eq]
end
end Go.Proofs.Ytopeacfbcdoljaa.V
