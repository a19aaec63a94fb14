/- Soundness of single operations, twelfth part: rows that grow. -/
import Derived.Test.YtopeacfbcdoljaaVo
namespace Go.Proofs.Ytopeacfbcdoljaa.V
open Go
section
variable {P : Program} {X : Ctx} {E : Env} {σ : St} {A0 : Array Value} {a : Act} {w : World} {o : Oper} {R : Type}
/-- 'append' onto a row of one's own: in its place, or into a new block. -/
theorem append_cases (t ty e : TypeId) (i : TypeInfo) (z : Value) (size : Nat) (ht : P.underlying t = some (.slice e)) (hi : P.info? e = some i) (hz : i.zero = some z)
    (hsize : i.size = size) (hzs : z.cells.size = size) (hsz : 0 < size)
    (v : Value) (n : Nat) (xs : List Value) (hown : w.ownsRow 0 e size v n xs)
    (ad : Option Addr) (m c : Nat) (news : List Value) (hl : news.length = m * size) (hnews : news ≠ [] → ∃ a, ad = some a ∧ ∀ j u, news[j]? = some u → w.cell? (a.add j) = some u) (h1 : ∀ u ∈ news, u.oneCell' = true)
    (h63 : n + m ≤ maxLen) (hbytes : (n + m) * i.bytes ≤ 140737488355328) :
    ∃ v' w', (Builtin.append_ #[t, t] ty #[v, .slice ad m c]).run P w = .ok v' w' ∧
      ((v' = v ∧ w' = w ∧ m = 0) ∨
       (∃ g cap cur arr, v = .slice (some ⟨g, 0, none⟩) n cap ∧ v' = .slice (some ⟨g, 0, none⟩) (n + m) cap ∧ w.heap[g]? = some (.cells cur e (0, 0)) ∧ w' = w.setRow g arr ∧ arr.size = cur.size ∧ w'.ownsRow 0 e size v' (n + m) (xs ++ news)) ∨
       (∃ cap, v' = .slice (some ⟨w.heap.size, 0, none⟩) (n + m) cap ∧ Ext w w' ∧ w.heap.size < w'.heap.size ∧ w'.ownsRow 0 e size v' (n + m) (xs ++ news))) := by
  subst hsize
  have hsmall : n + m ≤ 9223372036854775807 := by simp only [maxLen] at h63; omega
  by_cases hn : news = []
  · subst hn
    have hm : m = 0 := by
      have h2 : m * i.size = 0 := by rw [← hl]; rfl
      rcases Nat.mul_eq_zero.1 h2 with h | h <;> omega
    subst hm
    refine ⟨v, w, ?_, .inl ⟨rfl, rfl, rfl⟩⟩
    have hf : ∀ w : World, (Builtin.firstCells i.size 0 (.slice ad 0 c)).run P w = .ok #[] w := by
      intro w
      cases ad with
      | none => simp [Builtin.firstCells]
      | some ad => simp [Builtin.firstCells, loadCells, loadCellsFrom]
    rcases hown.2 with ⟨rfl, rfl⟩ | ⟨g, cap, cur, rfl, _, _, hnc, _⟩
    · simp [Builtin.append_, run_underlying ht, sizeOf, typeInfo, hi, Builtin.lenOf, hf]
    · simp [Builtin.append_, run_underlying ht, sizeOf, typeInfo, hi, Builtin.lenOf, hf, hnc, storeCells]
  · obtain ⟨a, rfl, hnw⟩ := hnews hn
    have hm : 0 < m := by
      rcases Nat.eq_zero_or_pos m with h | h
      · subst h; exact absurd (List.eq_nil_of_length_eq_zero (by omega)) hn
      · exact h
    have hlen : (xs ++ news).length = (n + m) * i.size := by rw [List.length_append, hown.1, hl, Nat.add_mul]
    have grown : ∀ (old : Nat), old < n + m →
        (w.drew.alloc (.cells (xs.toArray ++ news.toArray ++ Builtin.zeroCells z.cells (grownCap w (n + m) old e - (n + m))) e)).ownsRow 0 e i.size
          (.slice (some ⟨w.heap.size, 0, none⟩) (n + m) (grownCap w (n + m) old e)) (n + m) (xs ++ news) := by
      intro old ho
      have hge := grownCap_ge w (n + m) old e
      have hcm : grownCap w (n + m) old e ≤ maxLen := grownCap_le_maxLen w (n + m) old e h63
      refine ⟨hlen, .inr ⟨w.heap.size, _, _, rfl, Nat.zero_le _, heap_alloc_new w.drew _, hge, hcm, ?_, ?_⟩⟩
      · simp only [Array.size_append, List.size_toArray, size_zeroCells, hzs, hown.1, hl, ← Nat.add_mul]
        congr 1
        omega
      · simp only [Array.toList_append, List.append_assoc]
        rw [← List.append_assoc, ← hlen]
        exact List.take_left
    have hext : ∀ ob, Ext w (w.drew.alloc ob) := fun ob => (Ext.drew w).trans (Ext.alloc _ _)
    rcases hown.2 with ⟨rfl, rfl⟩ | ⟨g, cap, cur, rfl, hbg, hg, hnc, hcm, hcs, htake⟩
    · have hx : xs = [] := List.eq_nil_of_length_eq_zero (by simpa using hown.1)
      subst hx
      have hr := run_append_nil (P := P) w t ty e i z ht hi hz a m c news hl hnw hm (by omega) (by have hb := hbytes; simp only [Nat.zero_add] at hb; omega)
      have hgr := grown 0 (by omega)
      simp only [Nat.zero_add, List.nil_append, Array.empty_append] at hgr ⊢
      exact ⟨_, _, hr, .inr (.inr ⟨_, rfl, hext _, by simp, hgr⟩)⟩
    · by_cases hroom : n + m ≤ cap
      · have hfit : n * i.size + news.length ≤ cur.size := by rw [hl, hcs, ← Nat.add_mul]; exact Nat.mul_le_mul_right _ hroom
        have hr := run_append_room (P := P) w t ty e i ht hi g n cap cur hg a m c news hl hnw h1 hroom hfit
        refine ⟨_, _, hr, .inr (.inl ⟨g, cap, cur, _, rfl, rfl, hg, rfl, ?_, hlen, .inr ⟨g, cap, _, rfl, hbg, setRow_heap w g cur _ e _ hg, hroom, hcm, ?_, ?_⟩⟩)⟩
        · simp only [List.size_toArray, List.length_append, List.length_take, List.length_drop, Array.length_toList]
          omega
        · simp only [List.size_toArray, List.length_append, List.length_take, List.length_drop, Array.length_toList]
          omega
        · rw [htake, ← hlen]
          exact List.take_left
      · have holds : ∀ j u, xs[j]? = some u → w.cell? ((⟨g, 0, none⟩ : Addr).add j) = some u := hown.cells (g := g) rfl
        have hr := run_append_grow (P := P) w t ty e i z ht hi hz ⟨g, 0, none⟩ n cap xs hown.1 holds a m c news hl hnw (by omega) (by omega) (growslice_fits (by omega) hbytes)
        exact ⟨_, _, hr, .inr (.inr ⟨_, rfl, hext _, by simp, grown cap (by omega)⟩)⟩
theorem seg_append1 {c1 c2 : List Value} {n m i : Nat} (hl : c1.length = m * n) (hi : i < m) : seg (c1 ++ c2) n i = seg c1 n i := by
  have : (i + 1) * n ≤ m * n := Nat.mul_le_mul_right _ hi
  rw [Nat.add_mul] at this
  simp only [V.seg]
  rw [List.drop_append_of_le_length (by omega), List.take_append_of_le_length (by simp; omega)]
theorem seg_append2 {c1 c2 : List Value} {n m i : Nat} (hl : c1.length = m * n) : seg (c1 ++ c2) n (m + i) = seg c2 n i := by
  simp only [V.seg]
  rw [Nat.add_mul, ← hl, List.drop_append, List.drop_eq_nil_of_le (by omega), Nat.add_sub_cancel_left, List.nil_append]
/-- The cells of elements, each of one cell. -/
theorem rows_one {A : Nat → Prop} {t : Ty} {xs : List t.den} {css : List Value} (hpos : 0 < t.size) (hl : css.length = xs.length * t.size) (hrs : ∀ (i : Nat) (x : t.den), xs[i]? = some x → Rf w A t x (seg css t.size i)) :
    ∀ c ∈ css, c.oneCell' = true := by
  intro c hc
  obtain ⟨q, hq, rfl⟩ := List.mem_iff_getElem.1 hc
  have hqn : q / t.size < xs.length := by rw [Nat.div_lt_iff_lt_mul hpos, ← hl]; exact hq
  refine (hrs _ _ (List.getElem?_eq_getElem hqn)).one _ ?_
  rw [List.mem_iff_getElem?]
  refine ⟨q % t.size, ?_⟩
  rw [V.seg, List.getElem?_take, if_pos (Nat.mod_lt _ hpos), List.getElem?_drop, Nat.mul_comm, Nat.div_add_mod, List.getElem?_eq_getElem hq]
/-- What is owned, or nil: a row. -/
theorem leaf_own (hr : RelE X E σ A0 w) {e : TypeId} {t : Ty} {τ : Nat} {xs : List t.den} {c : Value} (h : Leaf w (Fz X E σ w) E σ e t τ xs c) (ho : σ.own τ = true) :
    ∃ css, w.ownsRow 0 e t.size c xs.length css ∧ ∀ (i : Nat) (x : t.den), xs[i]? = some x → Rf w (Fz X E σ w) t x (seg css t.size i) := by
  obtain ⟨_, ad, cap, rfl, _, h1, _, h2⟩ := h
  simp only [St.own, Bool.or_eq_true, beq_iff_eq, List.contains_iff_mem] at ho
  rcases ho with h | h
  · obtain ⟨rfl, rfl, rfl⟩ := h1 h
    exact ⟨[], ⟨by simp, .inl ⟨rfl, rfl⟩⟩, fun i x hx => by simp at hx⟩
  · exact h2 h
theorem step_append (T : Tabs) (hT : TabOk P T.T) {args : Array Operand} {ats : Array TypeId} (ho : o.op = .call ⟨.builtin .append, args, ats⟩) {k : St → Option R} {r : R} (h : stepK T o σ k = some r) (hr : RelE X E σ a.tmps w) : StepOk P X T o a w (fun σ' => k σ' = some r) := by
  simp only [stepK, ho] at h
  split at h
  · rename_i t0 t1 s x ea eb
    obtain ⟨so, xo, rfl, rfl, rfl⟩ := arr_two eb
    have hats : ats = #[t0, t1] := by rw [← Array.toList_inj]; exact ea
    subst hats
    split at h
    · rename_i e t hT0
      cases hc : V.coe (.sl e t) (opd σ so) with
      | none => simp only [hc] at h; cases h
      | some q =>
        obtain ⟨xs, ms⟩ := q
        simp only [hc] at h
        obtain ⟨g1, h⟩ := guardK_some h
        split at h
        · rename_i e1 u1 hT1
          cases hc2 : V.coe (.sl e t) (opd σ xo) with
          | none => simp only [hc2] at h; cases h
          | some q =>
            obtain ⟨ys, us⟩ := q
            simp only [hc2] at h
            obtain ⟨g2, hk⟩ := guardK_some h
            simp only [Bool.and_eq_true, beq_iff_eq, decide_eq_true_eq] at g2
            obtain ⟨⟨rfl, hus⟩, hlim⟩ := g2
            obtain ⟨_, ht⟩ := hT.ty t0 _ hT0
            obtain ⟨_, hu, he⟩ := tyB_sl ht
            obtain ⟨fi, z, i1, i2, i3, i4, i5⟩ := tyB_info he
            have hpos : 0 < t.size := by have := tyB_ok ht; simp [Ty.ok] at this; exact this.2
            have hzl : (zc t).length = t.size := (rf_zero (w := w) (A := fun _ => False) (tyB_ok he)).length
            obtain ⟨cs1, ⟨c1, ec1, hleaf1⟩, hv1, hm1⟩ := hr.coe hc
            obtain ⟨cs2, ⟨c2, ec2, hleaf2⟩, hv2, hm2⟩ := hr.coe hc2
            subst ec1; subst ec2
            simp only [toVal, Ty.agg, Bool.false_eq_true, if_false, List.headD_cons] at hv1 hv2
            obtain ⟨css, hown, hrs⟩ := leaf_own hr hleaf1 g1
            obtain ⟨ad, cap, css2, rfl, hl2, hrs2, hne2, _⟩ := leaf_row hr hleaf2 hus
            have hlt := hleaf1.1
            have hLIM : LIM = 4294967296 := rfl
            obtain ⟨v', w', hrun, hcase⟩ := append_cases (P := P) (w := w) t0 o.type e fi z t.size hu i1 i4 i2 (by rw [← Array.length_toList, i5, hzl]) hpos c1 _ css hown ad _ cap css2 hl2
              (fun hn => by
                obtain ⟨b, f, q1, q2, _⟩ := hne2 hn
                exact ⟨_, q1, fun j u hu => by rw [add_addr]; exact q2 j u hu⟩)
              (rows_one hpos hl2 hrs2) (by simp only [maxLen]; omega) (by
                calc (List.length xs + List.length ys) * fi.bytes ≤ 4294967296 * 32768 := Nat.mul_le_mul (by omega) i3
                  _ ≤ 140737488355328 := by decide)
            have hex : (execOp a.eval o).run P w = .ok (.value v') w' := by
              simp only [execOp, ho, resolve, invoke, builtin, List.map_toArray, List.map_cons, List.map_nil, Sem.run_bind, Sem.run_pure, Result.andThen_ok, hv1, hv2, hrun]
            have hll : (xs ++ ys : List t.den).length = List.length xs + List.length ys := List.length_append
            -- the elements, read in the new world
            have elems : ∀ {A' : Nat → Prop} {w1 : World}, (∀ (v : t.den) cs, Rf w (Fz X E σ w) t v cs → Rf w1 A' t v cs) → ∀ (i : Nat) (v : t.den), (xs ++ ys : List t.den)[i]? = some v → Rf w1 A' t v (seg (css ++ css2) t.size i) := by
              intro A' w1 hk i v hv
              by_cases hi : i < List.length xs
              · rw [List.getElem?_append_left hi] at hv
                rw [seg_append1 hown.1 hi]
                exact hk _ _ (hrs i v hv)
              · rw [List.getElem?_append_right (by omega)] at hv
                have := seg_append2 (c1 := css) (c2 := css2) (n := t.size) (m := List.length xs) (i := i - List.length xs) hown.1
                rw [Nat.add_sub_cancel' (by omega)] at this
                rw [this]
                exact hk _ _ (hrs2 _ v hv)
            obtain ⟨G, ha, hb, hc', hd, ad', cap', hv', had', hown'⟩ : ∃ G : Option Nat, (∀ b, b < w.heap.size → (ms.headD 0 ∈ σ.al → E.hd (ms.headD 0) ≠ some b) → w'.heap[b]? = w.heap[b]?) ∧ Fr X.M X.w0 w' ∧ w.heap.size ≤ w'.heap.size ∧
                (∀ b, G = some b → ((ms.headD 0 ∈ σ.al ∧ E.hd (ms.headD 0) = some b) ∨ w.heap.size ≤ b) ∧ b < w'.heap.size) ∧
                ∃ ad' cap', v' = .slice ad' (List.length xs + List.length ys) cap' ∧ ad' = G.map (fun b => ⟨b, 0, none⟩) ∧ w'.ownsRow 0 e t.size v' (List.length xs + List.length ys) (css ++ css2) := by
              have hown1 : ms.headD 0 = 1 ∨ ms.headD 0 ∈ σ.al := by simpa [St.own] using g1
              obtain ⟨_, ad1, cap1, rfl, _, hone, htwo, _⟩ := hleaf1
              rcases hcase with ⟨rfl, rfl, hm0⟩ | ⟨g, cap1', cur, arr, e1, e2, hg, rfl, hsz, hown2⟩ | ⟨cap2, e2, hext, hlt2, hown2⟩
              · have hc20 : css2 = [] := List.eq_nil_of_length_eq_zero (by rw [hl2, hm0, Nat.zero_mul])
                refine ⟨E.hd (ms.headD 0), fun _ _ _ => rfl, hr.fr, Nat.le_refl _, fun b hb => ?_, ad1, cap1, by rw [hm0]; rfl, ?_, by rw [hc20, List.append_nil, hm0]; exact hown⟩
                · rcases hown1 with h1 | h1
                  · rw [h1, hr.hd0 1 (by omega)] at hb; cases hb
                  · exact ⟨.inl ⟨h1, hb⟩, (hr.lt b (mem_owned_al h1 hb)).1⟩
                · rcases hown1 with h1 | h1
                  · rw [h1, hr.hd0 1 (by omega), (hone h1).1]; rfl
                  · exact htwo (hr.alr _ h1).1
              · simp only [Value.slice.injEq, true_and] at e1
                obtain ⟨rfl, rfl⟩ := e1
                have hal : ms.headD 0 ∈ σ.al := by
                  rcases hown1 with h1 | h1
                  · have := (hone h1).1; cases this
                  · exact h1
                have hhd : E.hd (ms.headD 0) = some g := by
                  have := htwo (hr.alr _ hal).1
                  cases hh : E.hd (ms.headD 0) with
                  | none => rw [hh] at this; simp at this
                  | some b => rw [hh] at this; simp at this; rw [this]
                refine ⟨some g, fun b _ hb => setRow_other w _ _ _ (fun he => hb hal (by rw [he]; exact hhd)), hr.fr.setRow hg hsz (fun hlt o hno => ?_), by simp, fun b hb => ?_, _, _, e2, rfl, hown2⟩
                · rcases hr.srct _ hal g hhd with h | h
                  · exact absurd (hr.fpm g h o) hno
                  · omega
                · injection hb with hb; subst hb
                  exact ⟨.inl ⟨hal, hhd⟩, by simpa using (hr.lt g (mem_owned_al hal hhd)).1⟩
              · exact ⟨some w.heap.size, fun b hb _ => hext.block b hb, hr.fr.ext hext, hext.size, fun b hb => by injection hb with hb; subst hb; exact ⟨.inr (Nat.le_refl _), hlt2⟩, _, _, e2, rfl, hown2⟩
            obtain ⟨hr1, K1⟩ := hr.renew (w1 := w') (ms.headD 0) σ.ln G (fun p hp => .inr hp) ha hb hc' hd
            refine stepOk_value hex ⟨_, hr1.put (s := .val ⟨.sl e t, (xs ++ ys : List t.den), [σ.nt]⟩ none) o.dst ?_⟩ hk
            subst hv'
            refine ⟨_, ⟨_, rfl, Nat.lt_succ_self _, ad', cap', by rw [hll], fun hz => ?_, fun h => ?_, fun _ => ?_, fun _ => ⟨_, by rw [hll]; exact hown', elems fun _ _ h => K1.rf h⟩⟩, rfl, rfl⟩
            · rcases hz with h | h
              · have h' : σ.nt = 0 := h
                have := hr.nt2; omega
              · have := (hr.fzr _ h).2
                exact absurd this (Nat.lt_irrefl _)
            · have h' : σ.nt = 1 := h
              have := hr.nt2; omega
            · rw [had']
              show G.map _ = (if σ.nt = σ.nt then G else E.hd σ.nt).map _
              rw [if_pos rfl]
        · cases h
    · cases h
  · cases h
end
end Go.Proofs.Ytopeacfbcdoljaa.V
