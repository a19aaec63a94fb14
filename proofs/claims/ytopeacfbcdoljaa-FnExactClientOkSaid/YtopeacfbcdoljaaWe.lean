/- Code, in the text's order. -/
import Derived.Test.YtopeacfbcdoljaaWd
namespace Go.Proofs.Ytopeacfbcdoljaa.V
open Go
section
variable {P : Program} {X : Ctx} {E : Env} {σ : St} {A0 : Array Value} {a : Act} {w : World} {R : Type}
theorem contig_zipIdx : ∀ (l : List Oper) (i : Nat), Contig i (l.zipIdx i) := by
  intro l
  induction l with
  | nil => intro i; trivial
  | cons o l ih => intro i; exact ⟨rfl, ih (i + 1)⟩
theorem zipIdx_at {ops : Array Oper} : ∀ q ∈ ops.toList.zipIdx, ops[q.2]? = some q.1 := by
  intro q hq
  have := List.mem_zipIdx_iff_getElem?.1 hq
  simpa using this
theorem zipIdx_snd (l : List Oper) : l.zipIdx.map (·.2) = List.range l.length := by
  rw [List.range_eq_range']
  exact List.zipIdx_map_snd 0 l
theorem mem_opsWrites {l : List Oper} {i : Nat} (h : i ∉ opsWrites l) : ∀ o ∈ l, o.dst ≠ some i := by
  intro o ho he
  exact h (List.mem_filterMap.2 ⟨o, ho, he⟩)
/-- An exit, told two ways. -/
def XK.mt : XK → Exit → Prop
  | .nor, .normal => True
  | .ex i, .exit j => i = j
  | .ret, .ret => True
  | _, _ => False
/-- How code ends. -/
def Ends (X : Ctx) (c : Code) (a : Act) (G : XK → St → Prop) (e : Exit) (a' : Act) (w' : World) : Prop :=
  ∃ x : XK, x.mt e ∧ a'.defers = a.defers ∧ a'.tmps.size = a.tmps.size ∧ (∀ i, i ∉ writes c → a'.tmps[i]? = a.tmps[i]?) ∧ ∃ σ', G x σ' ∧ Rel X σ' a'.tmps w'
theorem region_ok (T : Tabs) (hT : TabOk P T.T) (hF : FOk P T.F) {id : Nat} {ops : Array Oper} {k : XK → St → Option R} {r : R}
    (h : opsK T ops (ops.size + 1) [] R ops.toList.zipIdx σ (k .nor) = some r) (hr : RelE X E σ a.tmps w) :
    (Code.region id ops false).wp P (Ends X (.region id ops false) a (fun x σ' => k x σ' = some r)) a w := by
  refine wp_region ?_
  have := ops_ok T hT hF (ops.size + 1) h hr (contig_zipIdx _ 0) zipIdx_at (fun g hg => by cases hg)
    (Ends X (.region id ops false) a (fun x σ' => k x σ' = some r)) [] (fun a' w' he => ?_)
  · rw [List.append_nil, zipIdx_snd, Array.length_toList] at this
    exact this
  · obtain ⟨e1, e2, e3, _, σ', e4, e5⟩ := he
    refine ⟨.nor, trivial, e1, e2, fun i hi => e3 i fun q hq => ?_, σ', e4, e5⟩
    exact mem_opsWrites hi q.1 (by
      have := List.mem_zipIdx_iff_getElem?.1 hq
      exact List.mem_of_getElem? this)
/-- A cut does what its function tells. -/
def CutOk (P : Program) (cut : Cut) (c : Code) : Prop :=
  ∀ {R : Type} {X : Ctx} {E : Env} {σ : St} {a : Act} {w : World} {k : XK → St → Option R} {r : R}, cutK cut c σ k = some r → RelE X E σ a.tmps w → c.wp P (Ends X c a (fun x σ' => k x σ' = some r)) a w
def CutsIn (P : Program) (C : Cuts) : Code → Prop
  | .seq a b => CutsIn P C a ∧ CutsIn P C b
  | .cond c a b => match C (2 * firstR (.cond c a b)) with
    | some cut => CutOk P cut (.cond c a b)
    | none => CutsIn P C a ∧ CutsIn P C b
  | .block _ c => CutsIn P C c
  | .loop c => match C (2 * firstR c + 1) with
    | some cut => CutOk P cut (.loop c)
    | none => True
  | _ => True
theorem code_ok (T : Tabs) (C : Cuts) (hT : TabOk P T.T) (hF : FOk P T.F) : ∀ {c : Code} {X : Ctx} {E : Env} {σ : St} {a : Act} {w : World} {k : XK → St → Option R} {r : R}, CutsIn P C c →
    codeK T C c σ k = some r → RelE X E σ a.tmps w → c.wp P (Ends X c a (fun x σ' => k x σ' = some r)) a w := by
  intro c
  induction c with
  | skip => intro X E σ a w k r _ h hr; exact wp_skip ⟨.nor, trivial, rfl, rfl, fun _ _ => rfl, σ, by simpa [codeK] using h, E, hr⟩
  | label l => intro X E σ a w k r _ h hr; exact wp_label ⟨.nor, trivial, rfl, rfl, fun _ _ => rfl, σ, by simpa [codeK] using h, E, hr⟩
  | ret => intro X E σ a w k r _ h hr; exact wp_ret ⟨.ret, trivial, rfl, rfl, fun _ _ => rfl, σ, by simpa [codeK] using h, E, hr⟩
  | exit id => intro X E σ a w k r _ h hr; exact wp_exit ⟨.ex id, rfl, rfl, rfl, fun _ _ => rfl, σ, by simpa [codeK] using h, E, hr⟩
  | region id ops dr =>
    intro X E σ a w k r _ h hr
    cases dr with
    | false => exact region_ok T hT hF (by simpa only [codeK, cond_false] using h) hr
    | true => simp only [codeK, cond_true] at h; cases h
  | seq c1 c2 ih1 ih2 =>
    intro X E σ a w k r hc h hr
    simp only [codeK] at h
    refine wp_seq (wp_mono (ih1 hc.1 h hr) fun e a1 w1 he => ?_)
    obtain ⟨x, hx, e1, e2, e3, σ1, hg, E1, hr1⟩ := he
    cases x with
    | nor =>
      cases e <;> first | exact hx.elim | skip
      simp only [XK.thenK] at hg
      refine wp_mono (ih2 hc.2 hg hr1) fun e a2 w2 he => ?_
      obtain ⟨y, hy, k1, k2, k3, k4⟩ := he
      exact ⟨y, hy, k1.trans e1, k2.trans e2, fun i hi => (k3 i (fun h => hi (List.mem_append_right _ h))).trans (e3 i (fun h => hi (List.mem_append_left _ h))), k4⟩
    | ex i =>
      cases e <;> first | exact hx.elim | skip
      exact ⟨.ex i, hx, e1, e2, fun i hi => e3 i (fun h => hi (List.mem_append_left _ h)), σ1, hg, E1, hr1⟩
    | ret =>
      cases e <;> first | exact hx.elim | skip
      exact ⟨.ret, hx, e1, e2, fun i hi => e3 i (fun h => hi (List.mem_append_left _ h)), σ1, hg, E1, hr1⟩
  | cond c c1 c2 ih1 ih2 =>
    intro X E σ a w k r hc h hr
    simp only [codeK] at h
    simp only [CutsIn] at hc
    cases hcut : C (2 * firstR (.cond c c1 c2)) with
    | some cut =>
      rw [hcut] at h hc
      exact hc h hr
    | none =>
      rw [hcut] at h hc
      simp only at h hc
      cases hb : boolOf (opd σ c) with
      | none => rw [hb] at h; simp at h
      | some t =>
        rw [hb] at h
        have hv : a.eval c = .bool t := by
          have hs := slot_opd hr c
          unfold boolOf at hb
          split at hb
          · rename_i b ms hm e
            injection hb with hb; subst hb
            rw [e] at hs
            exact val_bool hs
          · cases hb
        cases t with
        | true =>
          refine wp_cond_true hv (wp_mono (ih1 hc.1 (by simpa using h) hr) fun e a1 w1 he => ?_)
          obtain ⟨x, hx, e1, e2, e3, e4⟩ := he
          exact ⟨x, hx, e1, e2, fun i hi => e3 i (fun h => hi (List.mem_append_left _ h)), e4⟩
        | false =>
          refine wp_cond_false hv (wp_mono (ih2 hc.2 (by simpa using h) hr) fun e a1 w1 he => ?_)
          obtain ⟨x, hx, e1, e2, e3, e4⟩ := he
          exact ⟨x, hx, e1, e2, fun i hi => e3 i (fun h => hi (List.mem_append_right _ h)), e4⟩
  | block id c ih =>
    intro X E σ a w k r hc h hr
    simp only [codeK] at h
    refine wp_block (wp_mono (ih hc h hr) fun e a1 w1 he => ?_)
    obtain ⟨x, hx, e1, e2, e3, σ1, hg, E1, hr1⟩ := he
    cases x with
    | nor =>
      cases e <;> first | exact hx.elim | skip
      exact ⟨.nor, trivial, e1, e2, e3, σ1, hg, E1, hr1⟩
    | ret =>
      cases e <;> first | exact hx.elim | skip
      exact ⟨.ret, trivial, e1, e2, e3, σ1, hg, E1, hr1⟩
    | ex i =>
      cases e <;> first | exact hx.elim | skip
      rename_i j
      have hij : i = j := hx
      subst hij
      simp only [Exit.inBlock]
      cases hb : (i == id) with
      | true =>
        have : i = id := by simpa using hb
        subst this
        simp only [beq_self_eq_true, cond_true] at hg
        simp only [if_true]
        exact ⟨.nor, trivial, e1, e2, e3, σ1, hg, E1, hr1⟩
      | false =>
        have hne : ¬ i = id := by simpa using hb
        simp only [hb, cond_false] at hg
        simp only [hne, if_false]
        exact ⟨.ex i, rfl, e1, e2, e3, σ1, hg, E1, hr1⟩
  | loop c ih =>
    intro X E σ a w k r hc h hr
    simp only [codeK] at h
    simp only [CutsIn] at hc
    cases hcut : C (2 * firstR c + 1) with
    | some cut => rw [hcut] at h hc; exact hc h hr
    | none => rw [hcut] at h; simp at h
  | _ => intro X E σ a w k r hc h hr; simp [codeK] at h
end
end Go.Proofs.Ytopeacfbcdoljaa.V
