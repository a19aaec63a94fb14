/- Regions in the text's order: the whole. -/
import Derived.Test.YtopeacfbcdoljaaWc
namespace Go.Proofs.Ytopeacfbcdoljaa.V
open Go
section
variable {P : Program} {X : Ctx} {E : Env} {σ : St} {A0 : Array Value} {a : Act} {w : World} {o : Oper} {R : Type}
theorem End.cons {T : Tabs} {q : Oper × Nat} {l : List (Oper × Nat)} {G : St → Prop} {a1 a2 : Act} {w1 w2 : World} (h1 : a1.defers = a.defers) (h2 : a1.tmps.size = a.tmps.size) (h3 : ∀ i, some i ≠ q.1.dst → a1.tmps[i]? = a.tmps[i]?) (h4 : quiet T q.1.op = true → Ext w w1)
    (h : End X T l a1 w1 G a2 w2) : End X T (q :: l) a w G a2 w2 := by
  obtain ⟨k1, k2, k3, k4, k5⟩ := h
  exact ⟨k1.trans h1, k2.trans h2, fun i hi => (k3 i fun q' hq' => hi q' (List.mem_cons_of_mem _ hq')).trans (h3 i (fun e => hi q List.mem_cons_self e.symm)),
    fun hq => (h4 (hq q List.mem_cons_self)).trans (k4 fun q' hq' => hq q' (List.mem_cons_of_mem _ hq')), k5⟩
theorem End.append {T : Tabs} {g l : List (Oper × Nat)} {G : St → Prop} {a1 a2 : Act} {w1 w2 : World} (h1 : a1.defers = a.defers) (h2 : a1.tmps.size = a.tmps.size) (h3 : ∀ i, (∀ q ∈ g, q.1.dst ≠ some i) → a1.tmps[i]? = a.tmps[i]?) (h4 : (∀ q ∈ g, quiet T q.1.op = true) → Ext w w1)
    (h : End X T l a1 w1 G a2 w2) : End X T (g ++ l) a w G a2 w2 := by
  obtain ⟨k1, k2, k3, k4, k5⟩ := h
  exact ⟨k1.trans h1, k2.trans h2, fun i hi => (k3 i fun q' hq' => hi q' (List.mem_append_right _ hq')).trans (h3 i (fun q hq => hi q (List.mem_append_left _ hq))),
    fun hq => (h4 fun q hq' => hq q (List.mem_append_left _ hq')).trans (k4 fun q' hq' => hq q' (List.mem_append_right _ hq')), k5⟩
def ActOk (ops : Array Oper) (tmps : Array Value) (act : List (Nat × Bool)) (l : List (Oper × Nat)) : Prop := ∀ g ∈ act, yielded ops tmps g.1 = some g.2 ∧ ∀ c, dstOf ops g.1 = some c → ∀ q ∈ l, q.1.dst ≠ some c
theorem ActOk.next {ops : Array Oper} {t1 t2 : Array Value} {act : List (Nat × Bool)} {l l2 : List (Oper × Nat)} (h : ActOk ops t1 act l) (hsub : ∀ q ∈ l2, q ∈ l) (ht : ∀ i, (∀ q ∈ l, q.1.dst ≠ some i) → t2[i]? = t1[i]?) : ActOk ops t2 act l2 := by
  intro g hg
  obtain ⟨h1, h2⟩ := h g hg
  refine ⟨?_, fun c hc q hq => h2 c hc q (hsub q hq)⟩
  cases hd : dstOf ops g.1 with
  | none => rw [yielded_none hd] at h1; cases h1
  | some c => rw [yielded_dst hd, ht c (h2 c hd), ← yielded_dst hd]; exact h1
theorem ops_ok (T : Tabs) (hT : TabOk P T.T) (hF : FOk P T.F) {ops : Array Oper} : ∀ (n : Nat) {act : List (Nat × Bool)} {R : Type} {l : List (Oper × Nat)} {i : Nat} {σ : St} {k : St → Option R} {r : R} {a : Act} {w : World} {E : Env},
    opsK T ops n act R l σ k = some r → RelE X E σ a.tmps w → Contig i l → (∀ q ∈ l, ops[q.2]? = some q.1) → ActOk ops a.tmps act l → ∀ (Q : Exit → Act → World → Prop) (rest : List Nat),
    (∀ a' w', End X T l a w (fun σ' => k σ' = some r) a' w' → wpOps P ops Q rest a' w') → wpOps P ops Q (l.map (·.2) ++ rest) a w := by
  intro n
  induction n with
  | zero =>
    intro act R l i σ k r a w E h hr _ _ _ Q rest hend
    cases l with
    | nil => exact hend a w ⟨rfl, rfl, fun _ _ => rfl, fun _ => Ext.refl w, σ, by simpa [opsK] using h, E, hr⟩
    | cons o l => simp [opsK] at h
  | succ n ih =>
    intro act R l i σ k r a w E h hr hc hi hact Q rest hend
    cases l with
    | nil => exact hend a w ⟨rfl, rfl, fun _ _ => rfl, fun _ => Ext.refl w, σ, by simpa [opsK] using h, E, hr⟩
    | cons o l =>
      simp only [opsK] at h
      have ho := hi o List.mem_cons_self
      split at h
      · rename_i hg
        have hw : Region.wanted o.1 (yielded ops a.tmps) = true := by
          unfold Region.wanted
          unfold openG at hg
          cases hgu : o.1.guard with
          | none => rfl
          | some g =>
            rw [hgu] at hg
            simp only at hg
            cases hcon : act.contains g with
            | false => rw [hcon] at hg; simp at hg
            | true =>
              have := (hact g (by simpa using hcon)).1
              simp [this]
        simp only [List.map_cons, List.cons_append, wpOps, ho, hw, if_true]
        left
        refine Oper.wp_mono (fun a1 w1 ⟨d1, s1, z1, x1, σ1, hk, E1, hr1⟩ => ?_) (step_ok T hT hF h hr Q)
        refine ih hk hr1 hc.2 (fun q hq => hi q (List.mem_cons_of_mem _ hq)) (hact.next (fun q hq => List.mem_cons_of_mem _ hq) (fun i hi' => s1 i (fun e => hi' o List.mem_cons_self e.symm))) Q rest (fun a2 w2 he => hend a2 w2 (End.cons d1 z1 s1 x1 he))
      · rename_i j w0 hg
        split at h
        · rename_i x1 x2 g d c x y ty pos af pg i' r' hsp
          have hl := spanG_eq j _ hsp
          have ho2 : o.2 = i := hc.1
          cases hb1 : (dstOf ops j == some c && g.all fun q => okG T o.snd j w0 c q.fst q.snd) && pgOk act pg with
          | false => rw [hb1] at h; simp at h
          | true =>
            rw [hb1] at h
            simp only [cond_true] at h
            simp only [Bool.and_eq_true, beq_iff_eq, List.all_eq_true] at hb1
            obtain ⟨⟨hdst, hall⟩, hpg⟩ := hb1
            cases hv : boolOf (σ.fr.getD c .no) with
            | none => rw [hv] at h; simp at h
            | some v =>
              rw [hv] at h
              simp only [Option.bind_eq_some_iff] at h
              obtain ⟨t, ht, hk⟩ := h
              have hevc : a.eval (.tmp c) = .bool v := by
                have hs := slot_opd hr (.tmp c)
                simp only [opd] at hs
                unfold boolOf at hv
                split at hv
                · rename_i b ms hm e
                  injection hv with hv; subst hv
                  rw [e] at hs
                  exact val_bool hs
                · cases hv
              have hac : a.tmps[c]? = some (.bool v) := by
                have h1 : a.tmps.getD c undef = .bool v := hevc
                rw [Array.getD_eq_getD_getElem?] at h1
                cases hz : a.tmps[c]? with
                | none => rw [hz] at h1; cases h1
                | some u => rw [hz] at h1; simpa using h1
              have hyj : yielded ops a.tmps j = some v := by rw [yielded_dst hdst, hac]
              have hok : ∀ q ∈ g, okG T o.snd j w0 c q.1 q.2 = true := hall
              have hgc : ∀ q ∈ g, q.1.dst ≠ some c := fun q hq => by
                have := hok q hq
                simp only [okG, Bool.and_eq_true, Bool.not_eq_true', beq_eq_false_iff_ne, ne_eq] at this
                exact this.1.2
              have hgq : ∀ q ∈ g, quiet T q.1.op = true := fun q hq => by
                have := hok q hq
                simp only [okG, Bool.and_eq_true] at this
                exact this.2
              rw [hl] at hc hi hact hend ⊢
              obtain ⟨hc1, hc2⟩ := contig_append hc
              have hmem : ∀ q ∈ g, q ∈ g ++ (⟨some d, .pick (.tmp c) x y, ty, pos, af, pg⟩, i') :: r' := fun q hq => List.mem_append_left _ hq
              have hmem2 : ∀ q ∈ r', q ∈ g ++ ((⟨some d, .pick (.tmp c) x y, ty, pos, af, pg⟩ : Oper), i') :: r' := fun q hq => List.mem_append_right _ (List.mem_cons_of_mem _ hq)
              have fin : ∀ a1 w1, a1.defers = a.defers → a1.tmps.size = a.tmps.size → (∀ i, (∀ q ∈ g, q.1.dst ≠ some i) → a1.tmps[i]? = a.tmps[i]?) → Ext w w1 → a1.eval (bif v then x else y) = .bool t →
                  wpOps P ops Q (i' :: (r'.map (·.2) ++ rest)) a1 w1 := by
                intro a1 w1 e1 e2 e3 e4 e5
                have hp := hi (⟨some d, .pick (.tmp c) x y, ty, pos, af, pg⟩, i') (List.mem_append_right _ List.mem_cons_self)
                have hact1 : ActOk ops a1.tmps act (((⟨some d, .pick (.tmp c) x y, ty, pos, af, pg⟩ : Oper), i') :: r') := by
                  intro q hq
                  obtain ⟨k1, k2⟩ := hact q hq
                  refine ⟨?_, fun c' hc' q' hq' => k2 c' hc' q' (List.mem_append_right _ hq')⟩
                  cases hd : dstOf ops q.1 with
                  | none => rw [yielded_none hd] at k1; cases k1
                  | some c' => rw [yielded_dst hd, e3 c' (fun q' hq' => k2 c' hd q' (hmem q' hq')), ← yielded_dst hd]; exact k1
                have hw : Region.wanted (⟨some d, .pick (.tmp c) x y, ty, pos, af, pg⟩ : Oper) (yielded ops a1.tmps) = true := by
                  unfold Region.wanted
                  cases pg with
                  | none => rfl
                  | some q =>
                    have := (hact1 q (by simpa [pgOk] using hpg)).1
                    simp [this]
                simp only [wpOps, hp, hw, if_true]
                left
                unfold Oper.wp
                have hx : (execOp a1.eval (⟨some d, .pick (.tmp c) x y, ty, pos, af, pg⟩ : Oper)).run P w1 = .ok (.value (.bool t)) w1 := by
                  have h1 : a1.eval (.tmp c) = .bool v := by
                    show a1.tmps.getD c undef = _
                    rw [Array.getD_eq_getD_getElem?, e3 c hgc, hac]; rfl
                  simp only [execOp, h1, asBool, Sem.run_bind, Sem.run_pure, Result.andThen_ok]
                  rw [← e5]
                  cases v <;> simp
                rw [hx, Oper.upon_value]
                have hr1 : RelE X E (clearD g σ) a1.tmps w1 := (hr.ext e4).clear g e2 e3
                have hr2 : RelE X E ((clearD g σ).put (some d) (.val ⟨.bool, t, []⟩ none)) (a1.put (some d) (.bool t)).tmps w1 := hr1.put (some d) (slot_bool t none)
                refine ih hk hr2 hc2.2 (fun q hq => hi q (hmem2 q hq)) (hact1.next (fun q hq => List.mem_cons_of_mem _ hq) (fun i hi' => put_other _ _ i (fun e => hi' _ List.mem_cons_self e.symm))) Q rest (fun a2 w2 he => ?_)
                exact hend a2 w2 (End.append e1 e2 e3 (fun _ => e4) (End.cons (q := (⟨some d, .pick (.tmp c) x y, ty, pos, af, pg⟩, i')) (put_defers _ _) (put_size _ _) (fun i hi' => put_other _ _ i hi') (fun _ => Ext.refl _) he))
              rw [List.map_append, List.append_assoc]
              cases hvw : (bif w0 then v else !v) with
              | true =>
                rw [hvw] at ht
                simp only [cond_true] at ht
                have hvw' : v = w0 := by cases v <;> cases w0 <;> simp_all
                subst hvw'
                refine ih ht hr hc1 (fun q hq => hi q (hmem q hq)) ?_ Q _ (fun a1 w1 he => ?_)
                · intro q hq
                  rcases List.mem_cons.1 hq with rfl | hq
                  · exact ⟨hyj, fun c' hc' q' hq' => by
                      have : c' = c := by
                        have h1 : dstOf ops j = some c' := hc'
                        rw [hdst] at h1; exact (Option.some.inj h1).symm
                      subst this
                      exact hgc q' hq'⟩
                  · exact ⟨(hact q hq).1, fun c' hc' q' hq' => (hact q hq).2 c' hc' q' (hmem q' hq')⟩
                · obtain ⟨e1, e2, e3, e4, σ', hσ, E', hr'⟩ := he
                  refine fin a1 w1 e1 e2 e3 (e4 hgq) ?_
                  have hs := slot_opd hr' (bif v then x else y)
                  unfold boolOf at hσ
                  split at hσ
                  · rename_i b ms hm e
                    injection hσ with hσ; subst hσ
                    rw [e] at hs
                    exact val_bool hs
                  · cases hσ
              | false =>
                rw [hvw] at ht
                simp only [cond_false] at ht
                have hvw' : v = !w0 := by cases v <;> cases w0 <;> simp_all
                refine skip_ok (T := T) (i0 := o.2) (j := j) (v := w0) (c := c) hc1 (fun q hq => hi q (hmem q hq)) hok hdst (by rw [hyj, hvw']; cases w0 <;> simp) (fun j' h1 h2 => by omega) (fun a1 e1 e2 e3 => fin a1 w e1 e2 e3 (Ext.refl w) ?_)
                have hr1 : RelE X E (clearD g σ) a1.tmps w := hr.clear g e2 e3
                have hs := slot_opd hr1 (bif w0 then y else x)
                have hxy : (bif v then x else y) = (bif w0 then y else x) := by rw [hvw']; cases w0 <;> rfl
                rw [hxy]
                unfold boolOf at ht
                split at ht
                · rename_i b ms hm e
                  injection ht with ht; subst ht
                  rw [e] at hs
                  exact val_bool hs
                · cases ht
        · cases h
end
end Go.Proofs.Ytopeacfbcdoljaa.V
