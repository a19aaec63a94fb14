/- A typed evaluator of the program's code and its soundness (part VC). Of a function it shows what it computes, as a plain function on numbers, bools, strings, lists and pairs. -/
import Derived.Test.YtcdncdbghghnfaaVB
namespace Go.Proofs.Ytcdncdbghghnfaa.V
open Go
section
variable {P : Program} {X : Ctx} {E : Env} {σ : St} {A0 : Array Value} {a : Act} {w : World} {o : Oper} {R : Type}
theorem step_slice_slot (T : Tabs) (hT : TabOk P T.T) {s : TypeId} {x : Operand} {lo hi : Option Operand} (ho : o.op = .slice s x lo hi none) (hno : lo = none ∨ ∀ y hm, opd σ x = .val y hm → noneAl σ y.ms = true) {k : St → Option R} {r : R} (h : stepK T o σ k = some r) (hr : RelE X E σ a.tmps w) : StepSlot P X E σ o a w (fun σ' => k σ' = some r) := by
  simp only [stepK, ho] at h
  have hnt : 0 < σ.nt := by have := hr.nt2; omega
  split at h
  · rename_i hTs
    obtain ⟨m, ht⟩ := hT.ty s _ hTs
    split at h
    · rename_i l ms hm ex
      obtain ⟨i, j, h2, hij, hjn, hcut, _, hb⟩ := boundK_ok (P := P) hr h
      have hv := val_str (slot_of_opd hr ex)
      rw [hcut _ _ rfl] at h2
      refine stepSlot_value (v := .string ⟨(((l : List UInt8).take j).drop i).toArray⟩) (s := .val ⟨.str, ((l : List UInt8).take j).drop i, []⟩ none) (fun w1 hx1 => ?_) (slot_str _ none) h2
      have hb' := hb false _ (Nat.le_refl _)
      simp only [execOp, ho, hv, Sem.run_bind, Option.map_none]
      rw [run_sliceAt_string _ _ _ _ _ _ (tyB_str ht)]
      have hsize : (⟨(l : List UInt8).toArray⟩ : ByteArray).size = (l : List UInt8).length := rfl
      simp only [Instr.slice, Sem.run_bind, run_underlying (tyB_str ht), Result.andThen_ok, hsize, hb', Sem.run_pure, Option.isSome_none, Bool.false_eq_true, if_false]
      rw [ByteArray.extract_mk, List.drop_take]
    · cases h
  · rename_i e t hTs
    obtain ⟨m, ht⟩ := hT.ty s _ hTs
    obtain ⟨m2, hu, he⟩ := tyB_sl ht
    have hel : P.elem s = e := by simp [Program.elem, hu]
    have hsz : ∀ w : World, (sizeOf e).run P w = .ok t.size w := fun w => run_sizeOf_ty he w
    have hpos : 0 < t.size := by have := tyB_ok ht; simp [Ty.ok] at this; exact this.2
    have hs := slot_opd hr x
    revert hs h
    cases ex : opd σ x with
    | val y hm =>
      intro h hs
      cases hc : cast? (.sl e t) y with
      | none => simp only [hc] at h; cases h
      | some q =>
        obtain ⟨v, ms⟩ := q
        simp only [hc] at h
        have e' := cast?_some hc
        subst e'
        obtain ⟨i, j, h2, hij, hjn, hcut, hlo, hb⟩ := boundK_ok (P := P) hr h
        obtain ⟨cs, ⟨c, ec, hleaf⟩, hv, hms⟩ := hs
        subst ec
        obtain ⟨ad, cap, hcc⟩ : ∃ ad cap, c = .slice ad (v : List t.den).length cap := by obtain ⟨_, ad, cap, hcc, _⟩ := hleaf; exact ⟨ad, cap, hcc⟩
        subst hcc
        have hcap : (v : List t.den).length ≤ cap → ∀ w1, Ext w w1 → (execOp a.eval o).run P w1 = .ok (.value (.slice (if cap = i then ad else ad.map (·.add (i * t.size))) (j - i) (cap - i))) w1 := by
          intro hcap w1 _
          have hb' := hb true cap hcap
          simp only [execOp, ho, hv, toVal, Ty.agg, Bool.false_eq_true, if_false, List.headD_cons, Sem.run_bind, Option.map_none]
          rw [run_sliceAt_slice _ _ _ _ _ _ (by rw [hel]; exact hu)]
          simp only [Instr.slice, Sem.run_bind, run_underlying hu, Result.andThen_ok, hb', hsz, Sem.run_pure]
        cases lo with
        | none =>
          have hi0 := hlo rfl
          subst hi0
          simp only at h2
          cases hus : σ.us (ms.headD 0) with
          | false => rw [hus] at h2; simp only [cond_false] at h2; cases h2
          | true =>
          rw [hus] at h2
          simp only [cond_true] at h2
          have hct := hcut t.den (v : List t.den) rfl
          simp only [Option.map_none, List.drop_zero] at hct
          rw [hct] at h2
          have hle : (v : List t.den).length ≤ cap := by
            obtain ⟨_, _, _, q1, _, _, _, q5⟩ := leaf_row hr hleaf hus
            simp only [Value.slice.injEq, true_and] at q1
            rw [q1.2]; exact q5
          refine stepSlot_value (s := .val ⟨.sl e t, (v : List t.den).take j, ms⟩ hm) (hcap hle) ⟨_, ⟨_, rfl, hleaf.take hjn⟩, ?_, hms⟩ h2
          have hadd : ad.map (·.add (0 * t.size)) = ad := by cases ad <;> simp [Addr.add]
          rw [hadd]
          simp [toVal, Ty.agg]
        | some lo' =>
          simp only at h2
          cases hus : σ.us (ms.headD 0) with
          | false => rw [hus] at h2; simp only [cond_false] at h2; cases h2
          | true =>
            rw [hus] at h2
            simp only [cond_true] at h2
            have hna : noneAl σ ms = true := (hno.resolve_left (by simp)) _ hm ex
            rw [freeze_noop hna] at h2
            have hms1 : ms = [ms.headD 0] := by
              have : ms.length = 1 := hms
              match ms, this with
              | [τ], _ => rfl
            have hnal : ms.headD 0 ∉ σ.al := noneAl_iff.1 hna _ (by rw [hms1]; simp)
            obtain ⟨_, _, _, q1, _, _, _, q5⟩ := leaf_row hr hleaf hus
            simp only [Value.slice.injEq, true_and] at q1
            have hle : (v : List t.den).length ≤ cap := by rw [q1.2]; exact q5
            rw [hcut t.den (v : List t.den) rfl] at h2
            exact stepSlot_value (s := .val ⟨.sl e t, ((v : List t.den).take j).drop i, [0]⟩ none) (hcap hle) ⟨_, ⟨_, rfl, leaf_cut hr hleaf hus hnal hij hjn hpos⟩, rfl, rfl⟩ h2
    | _ => intro h; simp at h
  · cases h
/-- What an operation hands back, in this world. -/
def slotUpon (P : Program) (X : Ctx) (E : Env) (σ : St) (w : World) (s : Slot) : Result Next → Prop
  | .ok (.value u) w2 => Ext w w2 ∧ SlotOk w2 (Fz X E σ w2) E σ s u
  | .ok (.enter f args) w2 => w2 = w ∧ Calls P f args w (fun e w3 => ∃ v, e = .returned v ∧ Ext w w3 ∧ SlotOk w3 (Fz X E σ w3) E σ s v)
  | _ => False
-- ---------------------------------------------------------------- calls
theorem res0_ok {AF B : Nat → Prop} (hnt : 0 < σ.nt) (hz : 0 ∉ σ.al) : ∀ {rs : List (Ty × Bool)} {y : Tup (resOf rs)} {vs : List Value} {br : List (List (Option Nat))}, ResOk w AF rs y vs br → (∀ b ∈ flatB br, B b) → (sharesR rs = false ∨ ∀ b, AF b → B b) →
    (resVals0 rs y).length = vs.length ∧ ∀ (i : Nat) x u, (resVals0 rs y)[i]? = some x → vs[i]? = some u → ValOk w B E σ x u := by
  intro rs
  induction rs with
  | nil =>
    intro y vs br h _ _
    cases vs with
    | nil => exact ⟨rfl, fun i x u h => by simp [resVals0] at h⟩
    | cons v vs => cases br <;> exact h.elim
  | cons p rs ih =>
    intro y vs br h hB hA
    obtain ⟨t, own⟩ := p
    cases vs with
    | nil => cases br <;> exact h.elim
    | cons u vs =>
      cases br with
      | nil => exact h.elim
      | cons bs br =>
        obtain ⟨⟨cs, hu, hc⟩, h2⟩ := h
        rw [flatB_cons] at hB
        have hA2 : sharesR rs = false ∨ ∀ b, AF b → B b := hA.imp (fun h => by simp only [sharesR, Bool.or_eq_false_iff] at h; exact h.2) id
        obtain ⟨k1, k2⟩ := ih (y := Tup.tl y) h2 (fun b hb => hB b (List.mem_append_right _ hb)) hA2
        have hrf : Rf w B t (Tup.hd y) cs := by
          cases own with
          | true =>
            obtain ⟨hv, hl⟩ := hc
            have hd : t.deep = false ∨ ∀ b, AF b → B b ∧ w.heap[b]? = w.heap[b]? := hA.imp (fun h => by simp only [sharesR, Bool.or_eq_false_iff] at h; exact h.1.2) (fun h b hb => ⟨h b hb, rfl⟩)
            exact rf_of_ow (fun _ h => h) hl (fun b hb => hB b (List.mem_append_left _ (List.mem_filterMap.2 ⟨some b, hb, rfl⟩))) (hv.move (A' := B) hl (fun _ _ => rfl) hd)
          | false =>
            obtain ⟨hv, hb⟩ := hc
            rcases hA with hA | hA
            · simp only [sharesR, Bool.or_eq_false_iff, Bool.not_false, Bool.true_and, Bool.not_eq_false', beq_iff_eq] at hA
              exact rf_any hA.1.1 hv
            · exact hv.mono hA (fun _ _ => rfl)
        refine ⟨by simp [resVals0, k1], fun i x u' hx hu' => ?_⟩
        cases i with
        | zero =>
          simp only [resVals0, List.getElem?_cons_zero, Option.some.injEq] at hx hu'
          subst hx; subst hu'
          exact ⟨cs, rv_of_rf hnt hz hrf, hu, by simp⟩
        | succ i => exact k2 i x u' (by simpa [resVals0] using hx) (by simpa using hu')
theorem outs_ro {A : Nat → Prop} : ∀ {ks : List AK} {y : Tup (outsOf ks)} {us : List Value} {fs : List Foot} {bo : List (List (Option Nat))}, roOnly ks = true → OutsOk w A ks y us fs bo → flatB bo = [] := by
  intro ks
  induction ks with
  | nil => intro y us fs bo _ h; cases us <;> cases fs <;> cases bo <;> first | rfl | exact h.elim
  | cons c r ih =>
    intro y us fs bo hro h
    cases us with
    | nil => cases fs <;> cases bo <;> exact h.elim
    | cons u us =>
      cases fs with
      | nil => cases bo <;> exact h.elim
      | cons f fs =>
        cases bo with
        | nil => exact h.elim
        | cons b bo =>
          have hb : b = [] := by
            have h1 := h.1
            cases c with
            | ro t => exact h1
            | pin t => exact h1
            | _ => simp [roOnly] at hro
          have hro' : roOnly r = true := by cases c <;> simp [roOnly] at hro <;> exact hro
          subst hb
          show flatB bo = []
          exact ih hro' h.2
/-- A call that reads alone: what it hands back may be looked at. -/
theorem call_make {fn : Fn} {f : FuncId} (hm : Meets P f fn) (hbx : fn.s.bx = false) (hro : roOnly fn.s.args = true) {args : List Operand} {x : fn.s.In} {y : fn.s.Out} (hno : shares fn.s = true → noneAl σ (roToks σ fn.s.args (args.map (opd σ))) = true)
    (h : lendK fn.s.args (shares fn.s) (args.map (opd σ)) σ (fun x σ' => some (x, σ')) = some (x, σ)) (hy : fn.f x = some y) (hr : RelE X E σ a.tmps w) :
    Calls P f (args.map a.eval).toArray w fun e w3 => ∃ v, e = .returned v ∧ Ext w w3 ∧ SlotOk w3 (Fz X E σ w3) E σ (resSlot (resVals0 fn.s.res (Tup.fst (a := resOf fn.s.res) (b := outsOf fn.s.args) y))) v := by
  obtain ⟨fs, A, pin, hpre, hA⟩ := lent_ro (us := args.map a.eval) hro hno hr (by simp) (fun i s u q1 q2 => by
    rw [List.getElem?_map] at q1 q2
    cases hz : args[i]? with
    | none => rw [hz] at q1; simp at q1
    | some z =>
      rw [hz] at q1 q2
      simp only [Option.map_some, Option.some.injEq] at q1 q2
      subst q1; subst q2
      exact slot_opd hr z) h
  refine (hm x y hy w A pin _ fs hpre).mono fun e w3 he => ?_
  cases e with
  | panicked c => exact he.elim
  | outgrown => exact he.elim
  | returned v =>
    obtain ⟨vs, rfl, hp⟩ := he.1 hbx
    obtain ⟨bo, br, hnd, hrets, hres, houts⟩ := hp.ex
    have hext := hp.fr.toExt (foot_ro hro hpre.args)
    have hrow := rows_ro hro hpre.args
    have hbo := outs_ro hro houts
    have hw0 : X.w0.heap.size ≤ w.heap.size := hr.fr.size
    have hfresh : ∀ b, w.heap.size ≤ b → b < w3.heap.size → Fz X E σ w3 b := fun b h1 h2 =>
      ⟨hr.new b (Nat.le_trans hw0 h1), h2, fun ho => by have := (hr.lt b ho).1; omega⟩
    refine ⟨_, rfl, hext, ?_⟩
    obtain ⟨k1, k2⟩ := res0_ok (w := w3) (E := E) (σ := σ) (B := Fz X E σ w3) (by have := hr.nt2; omega) (fun h => by have := (hr.alr 0 h).1; omega) hres (fun b hb => by
        obtain ⟨h1, h2⟩ := hrets b (List.mem_append_right _ hb)
        rcases h1 with h1 | h1
        · rw [hrow] at h1; cases h1
        · exact hfresh b h1 h2) (by
        cases hs : shares fn.s with
        | false => left; simp only [shares, Bool.or_eq_false_iff] at hs; exact hs.1
        | true =>
          right
          intro b hb
          obtain ⟨h1, h2, _⟩ := hb
          rcases h1 with h1 | h1 | h1
          · obtain ⟨z1, z2, z3⟩ := hA hs b h1
            exact ⟨z1, h2, z3⟩
          · rw [hrow] at h1; cases h1
          · exact hfresh b h1 h2)
    exact resVal_slot k1 k2
-- ---------------------------------------------------------------- rows that are built
theorem buildSlice_slot (T : Tabs) (hT : TabOk P T.T) {s : TypeId} {n : Nat} {ps : Array (Nat × Operand)} (ho : o.op = .buildSlice s n ps) {sl : Slot} (h : slotK T o σ (fun s => some s) = some sl) (hr : RelE X E σ a.tmps w) : slotUpon P X E σ w sl ((execOp a.eval o).run P w) := by
  simp only [slotK, ho] at h
  split at h
  · rename_i e t hTs
    obtain ⟨_, ht⟩ := hT.ty s _ hTs
    obtain ⟨m, hu, he⟩ := tyB_sl ht
    have hpos : 0 < t.size := by have := tyB_ok ht; simp [Ty.ok] at this; exact this.2
    obtain ⟨fi, z, i1, i2, i3, i4, i5⟩ := tyB_info he
    have hzl : (zc t).length = t.size := (rf_zero (w := w) (A := fun _ => False) (tyB_ok he)).length
    obtain ⟨xs, ts, css, w1, w2, w3, _, w5, w6⟩ := list_ok (css := (madeCells z.cells (n * t.size)).toList) hr he ps.toList h (by simp [size_madeCells])
    obtain ⟨g1, g2⟩ := guardK_some w1
    simp only [Bool.and_eq_true, decide_eq_true_eq] at g1
    have hfz : σ.freeze ts = σ := freeze_noop g1.1.1
    have hrs := w6 σ hr rfl (fun τ hτ => by
      have := freeze_frz (σ := σ) ts hτ (allUs_mem g1.1.2 hτ)
      rwa [hfz] at this) (fun i x hx => by
      have hi : i < n := by have := (List.getElem?_eq_some_iff.1 hx).1; simpa using this
      rw [List.getElem?_replicate, if_pos hi] at hx
      injection hx with hx; subst hx
      rw [seg_made i5 hzl hpos hi]
      exact rf_zero (tyB_ok he))
    have hxn : xs.length = n := by rw [w2]; simp
    have hcn : css.length = n * t.size := by rw [w3]; simp [size_madeCells]
    have hmap : (ps.map fun (i, x) => (i, a.eval x)).toList = ps.toList.map fun p => (p.1, a.eval p.2) := by simp
    have hrun : (execOp a.eval o).run P w = .ok (.value (.slice (some ⟨w.heap.size, 0, none⟩) n n)) (w.alloc (.cells css.toArray e)) := by
      simp only [execOp, ho, Sem.run_bind]
      have hf : Instr.fill (fun i => some (i * fi.size, fi.size)) ((Array.range (n * fi.size)).map (z.cells[· % z.cells.size]!)) (ps.map fun (i, x) => (i, a.eval x)).toList = some css.toArray := by
        rw [hmap, i2]
        have : (madeCells z.cells (n * t.size)).toList.toArray = madeCells z.cells (n * t.size) := by simp
        rw [this] at w5
        exact w5
      by_cases hn : n = 0
      · subst hn
        have hps : ps = #[] := by
          rw [← Array.toList_inj]
          cases hl : ps.toList with
          | nil => rfl
          | cons p r =>
            rw [hl] at h
            simp only [List.map_cons, listK] at h
            split at h
            · simp at h
            · cases h
        have hc0 : css = [] := List.eq_nil_of_length_eq_zero (by omega)
        subst hps; subst hc0
        have hb : (Instr.buildSlice s 0 ((#[] : Array (Nat × Operand)).map fun (i, x) => (i, a.eval x))).run P w = .ok (.slice (some ⟨w.heap.size, 0, none⟩) 0 0) (w.alloc (.cells #[] e)) := by
          simp only [Instr.buildSlice, run_underlying hu, sizeOf, typeInfo, i1, newRow, Sem.run_bind, Result.andThen_ok, Nat.zero_mul]
          have h0 : ∀ f : Nat → Value, (Array.range 0).map f = #[] := fun f => Array.eq_empty_of_size_eq_zero (by simp)
          simp [i1, Instr.fill]
          rw [h0]
        rw [hb]; simp only [Result.andThen_ok, Sem.run_pure]
      · have hp : n * fi.size ≠ 0 := by
          rw [i2]
          intro h0
          rcases Nat.mul_eq_zero.1 h0 with h | h <;> omega
        rw [run_buildSlice w s e n _ css.toArray fi z hu i1 i4 (by rw [i2]; have := g1.2; omega) hp hf]
        simp only [Result.andThen_ok, Sem.run_pure]
    have hx := Ext.alloc w (.cells css.toArray e)
    rw [hrun]
    refine ⟨hx, ?_⟩
    injection g2 with g2
    subst g2
    have hw0 : X.w0.heap.size ≤ w.heap.size := hr.fr.size
    have K := hr.keepExt hx
    refine ⟨[.slice (some ⟨w.heap.size, 0, none⟩) n n], ?_, by simp [toVal, Ty.agg], rfl⟩
    refine rv_of_rf (t := .sl e t) (by have := hr.nt2; omega) (fun h => by have := (hr.alr 0 h).1; omega) ⟨_, n, css, by rw [hxn], by rw [hcn, hxn], fun i x hx => K.rf (hrs i x hx), fun _ => ⟨w.heap.size, 0, rfl, ⟨hr.new _ hw0, by simp, fun ho => by have := (hr.lt _ ho).1; omega⟩, fun j v hv => ?_⟩, by rw [hxn]; exact Nat.le_refl _⟩
    rw [Nat.zero_add, cell_of_row _ _ j css.toArray e (0, 0) (heap_alloc_new w _)]
    simpa using hv
  · cases h
-- ---------------------------------------------------------------- all
theorem slotAt_ok {A : Nat → Prop} {s s' : Slot} {v : Value} (h : slotAt (σ.put o.dst s') o.dst = s) (hs : SlotOk w A E σ s' v) : SlotOk w A E σ s v := by
  subst h
  cases hd : o.dst with
  | none => trivial
  | some d =>
    simp only [slotAt, St.put]
    by_cases hlt : d < σ.fr.length
    · simp only [List.getD_eq_getElem?_getD, List.getElem?_set_self hlt, Option.getD_some]; exact hs
    · simp only [List.getD_eq_getElem?_getD, List.getElem?_eq_none (show (σ.fr.set d s').length ≤ d by simpa using Nat.le_of_not_lt hlt), Option.getD_none]; trivial
theorem slotK_nat (T : Tabs) {k : Slot → Option R} {r : R} (hh : headOp T o.op = true) (h : slotK T o σ k = some r) : ∃ s, k s = some r ∧ ∀ (R' : Type) (k' : Slot → Option R'), slotK T o σ k' = k' s := by
  by_cases hc : ∃ f args ats, o.op = .call ⟨.value (.func f), args, ats⟩
  · obtain ⟨f, args, ats, ho⟩ := hc
    simp only [slotK, ho] at h ⊢
    cases hf : T.F f with
    | none => rw [hf] at h; cases h
    | some fn =>
      simp only [hf] at h ⊢
      cases hb : roOnly fn.s.args && !fn.s.bx && (!shares fn.s || noneAl σ (roToks σ fn.s.args (args.toList.map (opd σ)))) with
      | false => rw [hb] at h; cases h
      | true =>
        simp only [hb, cond_true] at h ⊢
        simp only [Bool.and_eq_true, Bool.or_eq_true, Bool.not_eq_true'] at hb
        obtain ⟨x, h1, h2⟩ := lend_nat hb.1.1 (fun hs => hb.2.resolve_left (by rw [hs]; simp)) h
        cases hy : fn.f x with
        | none => rw [hy] at h1; cases h1
        | some y => rw [hy] at h1; exact ⟨_, h1, fun R' k' => by rw [h2, hy]; rfl⟩
  · by_cases hb : ∃ t n ps, o.op = .buildSlice t n ps
    · obtain ⟨t, n, ps, ho⟩ := hb
      simp only [slotK, ho] at h ⊢
      split at h
      · rename_i e t e1
        obtain ⟨xs, ts, h1, h2⟩ := listK_nat h
        obtain ⟨h3, h4⟩ := guardK_nat h1
        exact ⟨_, h3, fun R' k' => by first | (rw [h2]; exact h4 R' _) | (simp only [e1]; rw [h2]; exact h4 R' _)⟩
      · cases h
    · have hfix : fixK T o.op = true := by
        unfold headOp at hh
        split at hh
        · rename_i t n ps ho; exact absurd ⟨_, _, _, ho⟩ hb
        · rename_i f args ats ho; exact absurd ⟨_, _, _, ho⟩ hc
        · exact hh
      have hnc : ∀ f args ats, o.op ≠ .call ⟨.value (.func f), args, ats⟩ := fun f args ats ho => hc ⟨_, _, _, ho⟩
      by_cases hs : ∃ t x lo hi mx, o.op = .slice t x lo hi mx
      · obtain ⟨t, x, lo, hi, mx, ho⟩ := hs
        have key : ∀ (R' : Type) (k' : Slot → Option R'), slotK T o σ k' = bif lo.isNone || (match opd σ x with | .val y _ => noneAl σ y.ms | _ => true) then stepK T o σ fun σ' => k' (slotAt σ' o.dst) else none := fun R' k' => by simp only [slotK, ho]; rfl
        rw [key] at h
        cases hb : lo.isNone || (match opd σ x with | .val y _ => noneAl σ y.ms | _ => true) with
        | false => rw [hb] at h; cases h
        | true =>
          rw [hb] at h
          simp only [cond_true] at h
          obtain ⟨σ', h1, h2⟩ := stepK_nat T hfix hnc h
          exact ⟨_, h1, fun R' k' => by rw [key, hb]; simp only [cond_true]; rw [h2]⟩
      · have key : ∀ (R' : Type) (k' : Slot → Option R'), slotK T o σ k' = stepK T o σ fun σ' => k' (slotAt σ' o.dst) := by
          intro R' k'
          unfold slotK
          split
          · rename_i ho; exact absurd ⟨_, _, _, ho⟩ hb
          · rename_i ho; exact absurd ⟨_, _, _, ho⟩ hc
          · rename_i ho; exact absurd ⟨_, _, _, _, _, ho⟩ hs
          · rfl
        rw [key] at h
        obtain ⟨σ', h1, h2⟩ := stepK_nat T hfix hnc h
        exact ⟨_, h1, fun R' k' => by rw [key, h2]⟩
theorem slotK_ok (T : Tabs) (hT : TabOk P T.T) (hF : FOk P T.F) {s : Slot} (hh : headOp T o.op = true) (h : slotK T o σ (fun s => some s) = some s) (hr : RelE X E σ a.tmps w) : slotUpon P X E σ w s ((execOp a.eval o).run P w) := by
  by_cases hc : ∃ f args ats, o.op = .call ⟨.value (.func f), args, ats⟩
  · obtain ⟨f, args, ats, ho⟩ := hc
    simp only [slotK, ho] at h
    cases hf : T.F f with
    | none => rw [hf] at h; cases h
    | some fn =>
      simp only [hf] at h
      cases hb : roOnly fn.s.args && !fn.s.bx && (!shares fn.s || noneAl σ (roToks σ fn.s.args (args.toList.map (opd σ)))) with
      | false => rw [hb] at h; cases h
      | true =>
        simp only [hb, cond_true] at h
        simp only [Bool.and_eq_true, Bool.or_eq_true, Bool.not_eq_true'] at hb
        have hno : shares fn.s = true → noneAl σ (roToks σ fn.s.args (args.toList.map (opd σ))) = true := fun hs => hb.2.resolve_left (by rw [hs]; simp)
        obtain ⟨x, h1, h2⟩ := lend_nat hb.1.1 hno h
        cases hy : fn.f x with
        | none => rw [hy] at h1; cases h1
        | some y =>
          rw [hy] at h1
          simp only [Option.bind_some, Option.some.injEq] at h1
          subst h1
          obtain ⟨hm, g, g1, g2, g3⟩ := hF f fn hf
          have hcall := call_make hm hb.1.2 hb.1.1 hno (h2 _ _) hy hr
          have hrun : (execOp a.eval o).run P w = .ok (.enter f (args.toList.map a.eval).toArray) w := by
            have e1 : a.eval (.func f) = .func (.func f) #[] #[] := rfl
            have hb : ¬ g.body = none := by intro h; rw [h] at g2; cases g2
            have hn : ¬ g.name = "runtime.NumGoroutine" := by simpa using g3
            simp [execOp, ho, resolve, e1, Deferred.ofValue, invoke, callFunc, g1]
            rw [if_neg hn, if_neg hb, ← Array.toList_map]
          rw [hrun]
          exact ⟨rfl, hcall⟩
  · by_cases hb : ∃ t n ps, o.op = .buildSlice t n ps
    · obtain ⟨t, n, ps, ho⟩ := hb
      exact buildSlice_slot T hT ho h hr
    · have hfix : fixK T o.op = true := by
        unfold headOp at hh
        split at hh
        · rename_i t n ps ho; exact absurd ⟨_, _, _, ho⟩ hb
        · rename_i f args ats ho; exact absurd ⟨_, _, _, ho⟩ hc
        · exact hh
      have fin : ∀ {v : Value} {s' : Slot}, FixAt P o a w v → slotAt (σ.put o.dst s') o.dst = s → SlotOk w (Fz X E σ w) E σ s' v → slotUpon P X E σ w s ((execOp a.eval o).run P w) := by
        intro v s' h1 h2 h3
        have h4 := slotAt_ok h2 h3
        have h5 := h1 w (Ext.refl w)
        generalize (execOp a.eval o).run P w = q at h5
        cases q with
        | halt x w2 => exact h5.elim
        | ok n w2 =>
          cases n with
          | value u => obtain ⟨e1, e2⟩ := h5; subst e1; subst e2; exact ⟨Ext.refl _, h4⟩
          | enter f args =>
            obtain ⟨e1, hcl⟩ := h5
            subst e1
            exact ⟨rfl, hcl.mono fun e w3 ⟨he, hx⟩ => ⟨v, he, hx, (hr.keepExt hx).slot h4⟩⟩
          | _ => exact h5.elim
      by_cases hs : ∃ t x lo hi mx, o.op = .slice t x lo hi mx
      · obtain ⟨t, x, lo, hi, mx, ho⟩ := hs
        have key : slotK T o σ (fun s => some s) = bif lo.isNone || (match opd σ x with | .val y _ => noneAl σ y.ms | _ => true) then stepK T o σ fun σ' => some (slotAt σ' o.dst) else none := by simp only [slotK, ho]; rfl
        rw [key] at h
        cases hb : lo.isNone || (match opd σ x with | .val y _ => noneAl σ y.ms | _ => true) with
        | false => rw [hb] at h; cases h
        | true =>
          rw [hb] at h
          simp only [cond_true] at h
          cases mx with
          | some m => simp [stepK, ho] at h
          | none =>
            obtain ⟨v, h1, s', h2, h3⟩ := (step_slice_slot T hT ho (by
              cases lo with
              | none => exact .inl rfl
              | some z =>
                right
                intro y hm e
                rw [e] at hb
                simpa using hb) h hr).at
            exact fin h1 (Option.some.inj h2) h3
      · have key : slotK T o σ (fun s => some s) = stepK T o σ fun σ' => some (slotAt σ' o.dst) := by
          unfold slotK
          split
          · rename_i ho; exact absurd ⟨_, _, _, ho⟩ hb
          · rename_i ho; exact absurd ⟨_, _, _, ho⟩ hc
          · rename_i ho; exact absurd ⟨_, _, _, _, _, ho⟩ hs
          · rfl
        rw [key] at h
        obtain ⟨v, h1, s', h2, h3⟩ := slot_step T hT hF hfix (fun t x lo hi mx ho => hs ⟨_, _, _, _, _, ho⟩) h hr
        exact fin h1 (Option.some.inj h2) h3
end
end Go.Proofs.Ytcdncdbghghnfaa.V
namespace Go.Proofs.Ytcdncdbghghnfaa.V
open Go
section
variable {P : Program} {X : Ctx} {E : Env} {σ0 : St} {A0 : Array Value} {a : Act} {w : World} {R : Type} {ops : Array Oper} {D : List Nat} {m nn : Nat}
/-- All but the slots is the same. -/
structure SameB (σ0 σ : St) : Prop where
  bx : σ.bx = σ0.bx
  al : σ.al = σ0.al
  fz : σ.fz = σ0.fz
  ln : σ.ln = σ0.ln
  nt : σ.nt = σ0.nt
  len : σ.fr.length = σ0.fr.length
theorem SameB.refl (σ : St) : SameB σ σ := ⟨rfl, rfl, rfl, rfl, rfl, rfl⟩
theorem SameB.eq {σ0 σ : St} (h : SameB σ0 σ) : σ = { σ0 with fr := σ.fr } := by
  obtain ⟨fr, bx, al, fz, ln, nt⟩ := σ
  obtain ⟨h1, h2, h3, h4, h5, _⟩ := h
  simp only at h1 h2 h3 h4 h5
  subst h1; subst h2; subst h3; subst h4; subst h5; rfl
theorem SameB.put {σ0 σ : St} (h : SameB σ0 σ) (d : Option Tmp) (s : Slot) : SameB σ0 (σ.put d s) := by
  cases d with
  | none => exact h
  | some d => exact ⟨h.bx, h.al, h.fz, h.ln, h.nt, by simp [St.put, h.len]⟩
theorem SameB.clear {σ0 σ : St} (h : SameB σ0 σ) (g : List (Oper × Nat)) : SameB σ0 (clearD g σ) := by
  obtain ⟨h1, h2, h3, h4, h5, h6, _⟩ := clearD_fr g σ
  exact ⟨h1.trans h.bx, h2.trans h.al, h3.trans h.fz, h4.trans h.ln, h5.trans h.nt, h6.trans h.len⟩
theorem hideL_len (D l : List Nat) : ∀ (fr : List Slot) (i : Nat), (hideL D l i fr).length = fr.length := by
  intro fr
  induction fr with
  | nil => intro i; rfl
  | cons s fr ih => intro i; simp [hideL, ih]
theorem hideL_at (D l : List Nat) : ∀ (fr : List Slot) (i t : Nat), (hideL D l i fr)[t]? = (fr[t]?).map fun s => bif D.contains (i + t) && !l.contains (i + t) then .no else s := by
  intro fr
  induction fr with
  | nil => intro i t; simp [hideL]
  | cons s fr ih =>
    intro i t
    cases t with
    | zero => simp [hideL]
    | succ t =>
      simp only [hideL, List.getElem?_cons_succ]
      rw [ih, show i + 1 + t = i + (t + 1) by omega]
theorem SameB.hide {σ0 σ : St} (h : SameB σ0 σ) (l : List Nat) : SameB σ0 (hide D l σ) := ⟨h.bx, h.al, h.fz, h.ln, h.nt, (hideL_len D l σ.fr 0).trans h.len⟩
theorem hide_at {l : List Nat} {σ : St} {t : Nat} {s : Slot} (h : (hide D l σ).fr[t]? = some s) : s = .no ∨ (σ.fr[t]? = some s ∧ (t ∈ D → t ∈ l)) := by
  simp only [hide, hideL_at, Option.map_eq_some_iff, Nat.zero_add] at h
  obtain ⟨s', h1, h2⟩ := h
  cases hb : D.contains t && !l.contains t with
  | true => rw [hb] at h2; exact .inl h2.symm
  | false =>
    rw [hb] at h2
    simp only [cond_false] at h2
    subst h2
    refine .inr ⟨h1, fun hD => ?_⟩
    simp only [Bool.and_eq_false_iff, Bool.not_eq_false', List.contains_eq_mem, decide_eq_false_iff_not, decide_eq_true_eq] at hb
    rcases hb with hb | hb
    · exact absurd hD hb
    · exact hb
theorem opd_hide {l : List Nat} {σ : St} {x : Operand} (h : ∀ t, x = .tmp t → t ∈ l) : opd (hide D l σ) x = opd σ x := by
  cases x with
  | tmp t =>
    simp only [opd, List.getD_eq_getElem?_getD, hide, hideL_at, Nat.zero_add]
    have : l.contains t = true := by simpa using h t rfl
    rw [this]
    cases σ.fr[t]? <;> simp
  | const v =>
    cases v with
    | slice a n c => cases a <;> cases n <;> cases c <;> rfl
    | _ => rfl
  | _ => rfl
/-- The slots of the text's walk: empty, as they were, or of the head. -/
structure Walk (ops : Array Oper) (S : Nat → Slot) (σ0 σ : St) (i : Nat) : Prop where
  same : SameB σ0 σ
  slot : ∀ t s, σ.fr[t]? = some s → s = .no ∨ ((∀ j p, j < i → ops[j]? = some p → p.dst ≠ some t) ∧ σ0.fr[t]? = some s) ∨ ∃ j p, j < i ∧ ops[j]? = some p ∧ p.dst = some t ∧ s = S j
/-- What one operation may see of it. -/
structure Sees (D : List Nat) (ops : Array Oper) (S : Nat → Slot) (σ0 σ : St) (i : Nat) (o : Oper) : Prop where
  same : SameB σ0 σ
  slot : ∀ t s, σ.fr[t]? = some s → s = .no ∨ (t ∉ D ∧ σ0.fr[t]? = some s) ∨ ∃ j p, j < i ∧ ops[j]? = some p ∧ p.dst = some t ∧ t ∈ o.looksAt ops ∧ s = S j
/-- What is known of a head: its places, and that what an operation looks at comes ahead of it. -/
structure HeadOk (ops : Array Oper) (D : List Nat) (m n : Nat) : Prop where
  le : m ≤ n
  mem : ∀ t, t ∈ D ↔ ∃ j p, j < n ∧ ops[j]? = some p ∧ p.dst = some t
  dep : ∀ i o j p t, i < m → ops[i]? = some o → j < n → ops[j]? = some p → p.dst = some t → t ∈ o.looksAt ops → j < i
  inj : ∀ i o j p t, i < n → ops[i]? = some o → j < n → ops[j]? = some p → o.dst = some t → p.dst = some t → i = j
theorem Walk.sees (H : HeadOk ops D m nn) {S : Nat → Slot} {σ : St} {i : Nat} {o : Oper} (h : Walk ops S σ0 σ i) (him : i < m) (ho : ops[i]? = some o) : Sees D ops S σ0 (hide D (o.looksAt ops) σ) i o := by
  refine ⟨h.same.hide _, fun t s hs => ?_⟩
  rcases hide_at hs with hn | ⟨h1, h2⟩
  · exact .inl hn
  · rcases h.slot t s h1 with h3 | ⟨h3, h4⟩ | ⟨j, p, h3, h4, h5, h6⟩
    · exact .inl h3
    · refine .inr (.inl ⟨fun hD => ?_, h4⟩)
      obtain ⟨j, p, q1, q2, q3⟩ := (H.mem t).1 hD
      exact h3 j p (H.dep i o j p t him ho q1 q2 q3 (h2 hD)) q2 q3
    · exact .inr (.inr ⟨j, p, h3, h4, h5, h2 ((H.mem t).2 ⟨j, p, Nat.lt_of_lt_of_le (Nat.lt_trans h3 him) H.le, h4, h5⟩), h6⟩)
/-- A guard that holds. -/
def Guards (ops : Array Oper) (S : Nat → Slot) (sk : Nat → Bool) (n i j : Nat) (w : Bool) : Prop :=
  j < i ∧ sk j = false ∧ ∃ c, dstOf ops j = some c ∧ c < n ∧ ∃ ms h, S j = .val ⟨.bool, w, ms⟩ h
/-- What is known of one operation of the head. -/
def CertAt (P : Program) (X : Ctx) (D : List Nat) (ops : Array Oper) (S : Nat → Slot) (sk : Nat → Bool) (σ0 : St) (i : Nat) (o : Oper) : Prop :=
  (sk i = true ∧ S i = .no ∧ ∃ j w, o.guard = some (j, w) ∧ j < i ∧ (sk j = true ∨ ∃ v, v ≠ w ∧ Guards ops S sk σ0.fr.length i j v)) ∨
  (sk i = false ∧ (∀ j w, o.guard = some (j, w) → Guards ops S sk σ0.fr.length i j w) ∧ ∃ σ, Sees D ops S σ0 σ i o ∧ ∀ (E : Env) (a : Act) (w : World), RelE X E σ a.tmps w → slotUpon P X E σ w (S i) ((execOp a.eval o).run P w))
theorem Guards.congr {S S' : Nat → Slot} {sk sk' : Nat → Bool} {n i j : Nat} {w : Bool} (h : Guards ops S sk n i j w) (hs : ∀ k, k < i → S' k = S k ∧ sk' k = sk k) : Guards ops S' sk' n i j w := by
  obtain ⟨h1, h2, c, h3, h4, ms, hm, h5⟩ := h
  exact ⟨h1, (hs j h1).2.trans h2, c, h3, h4, ms, hm, (hs j h1).1.trans h5⟩
theorem Sees.congr {S S' : Nat → Slot} {σ : St} {i : Nat} {o : Oper} (h : Sees D ops S σ0 σ i o) (hs : ∀ k, k < i → S' k = S k) : Sees D ops S' σ0 σ i o :=
  ⟨h.same, fun t s ht => by
    rcases h.slot t s ht with h1 | h1 | ⟨j, p, h1, h2, h3, h4, h5⟩
    · exact .inl h1
    · exact .inr (.inl h1)
    · exact .inr (.inr ⟨j, p, h1, h2, h3, h4, h5.trans (hs j h1).symm⟩)⟩
theorem Walk.congr {S S' : Nat → Slot} {σ : St} {i : Nat} (h : Walk ops S σ0 σ i) (hs : ∀ k, k < i → S' k = S k) : Walk ops S' σ0 σ i :=
  ⟨h.same, fun t s ht => by
    rcases h.slot t s ht with h1 | h1 | ⟨j, p, h1, h2, h3, h5⟩
    · exact .inl h1
    · exact .inr (.inl h1)
    · exact .inr (.inr ⟨j, p, h1, h2, h3, h5.trans (hs j h1).symm⟩)⟩
theorem CertAt.congr {S S' : Nat → Slot} {sk sk' : Nat → Bool} {i : Nat} {o : Oper} (h : CertAt P X D ops S sk σ0 i o) (hs : ∀ k, k < i + 1 → S' k = S k ∧ sk' k = sk k) : CertAt P X D ops S' sk' σ0 i o := by
  have hs' : ∀ k, k < i → S' k = S k ∧ sk' k = sk k := fun k hk => hs k (by omega)
  have hi := hs i (by omega)
  rcases h with ⟨h1, h2, j, w, h3, h4, h5⟩ | ⟨h1, h2, σ, h3, h4⟩
  · refine .inl ⟨hi.2.trans h1, hi.1.trans h2, j, w, h3, h4, ?_⟩
    rcases h5 with h5 | ⟨v, h5, h6⟩
    · exact .inl ((hs' j h4).2.trans h5)
    · exact .inr ⟨v, h5, h6.congr hs'⟩
  · refine .inr ⟨hi.2.trans h1, fun j w hg => (h2 j w hg).congr hs', σ, h3.congr (fun k hk => (hs' k hk).1), fun E a w hr => ?_⟩
    rw [hi.1]; exact h4 E a w hr
theorem Walk.put {S : Nat → Slot} {σ : St} {i : Nat} {o : Oper} (h : Walk ops S σ0 σ i) (ho : ops[i]? = some o) {d : Tmp} (hd : o.dst = some d) (s : Slot) (S' : Nat → Slot) (hS : ∀ k, k < i → S' k = S k) (hSi : S' i = s) : Walk ops S' σ0 (σ.put o.dst s) (i + 1) := by
  refine ⟨h.same.put _ _, fun t u ht => ?_⟩
  rw [hd] at ht
  simp only [St.put] at ht
  by_cases htd : d = t
  · subst htd
    rw [List.getElem?_set_self (by have := (List.getElem?_eq_some_iff.1 ht).1; simpa using this)] at ht
    injection ht with ht
    exact .inr (.inr ⟨i, o, by omega, ho, hd, by rw [hSi, ht]⟩)
  · rw [List.getElem?_set_ne htd] at ht
    rcases h.slot t u ht with h1 | ⟨h1, h2⟩ | ⟨j, p, h1, h2, h3, h5⟩
    · exact .inl h1
    · refine .inr (.inl ⟨fun j p hj hp he => ?_, h2⟩)
      rcases Nat.lt_or_ge j i with hji | hji
      · exact h1 j p hji hp he
      · have : j = i := by omega
        subst this
        rw [ho] at hp
        have := Option.some.inj hp
        subst this
        rw [hd] at he
        exact htd (Option.some.inj he)
    · exact .inr (.inr ⟨j, p, by omega, h2, h3, h5.trans (hS j h1).symm⟩)
/-- A group forgotten. -/
theorem Walk.clear {S S' : Nat → Slot} {σ : St} {i n : Nat} {g : List (Oper × Nat)} (h : Walk ops S σ0 σ i) (hS : ∀ k, k < i → S' k = S k) (hn : i ≤ n) (hg : ∀ j p, i ≤ j → j < n → ops[j]? = some p → (p, j) ∈ g) : Walk ops S' σ0 (clearD g σ) n := by
  refine ⟨h.same.clear g, fun t u ht => ?_⟩
  obtain ⟨_, _, _, _, _, _, h7⟩ := clearD_fr g σ
  rcases h7 t u ht with h1 | ⟨h1, h2⟩
  · exact .inl h1
  · rcases h.slot t u h1 with h3 | ⟨h3, h4⟩ | ⟨j, p, q1, q2, q3, q5⟩
    · exact .inl h3
    · refine .inr (.inl ⟨fun j p hj hp he => ?_, h4⟩)
      rcases Nat.lt_or_ge j i with hji | hji
      · exact h3 j p hji hp he
      · exact h2 (p, j) (hg j p hji hj hp) he
    · exact .inr (.inr ⟨j, p, by omega, q2, q3, q5.trans (hS j q1).symm⟩)
theorem contig_mem : ∀ {l : List (Oper × Nat)} {i : Nat}, Contig i l → ∀ q ∈ l, i ≤ q.2 ∧ q.2 < i + l.length := by
  intro l
  induction l with
  | nil => intro i _ q hq; cases hq
  | cons x l ih =>
    intro i h q hq
    rcases List.mem_cons.1 hq with rfl | hq
    · have := h.1; simp; omega
    · have := ih h.2 q hq; simp; omega
theorem contig_has : ∀ {l : List (Oper × Nat)} {i : Nat}, Contig i l → (∀ q ∈ l, ops[q.2]? = some q.1) → ∀ j p, i ≤ j → j < i + l.length → ops[j]? = some p → (p, j) ∈ l := by
  intro l
  induction l with
  | nil => intro i _ _ j p h1 h2; simp at h2; omega
  | cons x l ih =>
    intro i h hi j p h1 h2 hp
    by_cases hj : j = i
    · subst hj
      have := hi x List.mem_cons_self
      rw [h.1, hp] at this
      have e := Option.some.inj this
      have : (p, j) = x := Prod.ext e h.1.symm
      rw [this]; exact List.mem_cons_self
    · exact List.mem_cons_of_mem _ (ih h.2 (fun q hq => hi q (List.mem_cons_of_mem _ hq)) j p (by omega) (by simp at h2; omega) hp)
theorem boolOf_some {s : Slot} {v : Bool} (h : boolOf s = some v) : ∃ ms hm, s = .val ⟨.bool, v, ms⟩ hm := by
  unfold boolOf at h
  split at h
  · rename_i b ms hm
    injection h with h; subst h; exact ⟨ms, hm, rfl⟩
  · cases h
theorem pick_upon {σ : St} {o : Oper} {c : Tmp} {x y : Operand} (ho : o.op = .pick (.tmp c) x y) {v t : Bool} (hc : boolOf (opd σ (.tmp c)) = some v) (ht : boolOf (opd σ (bif v then x else y)) = some t) (hr : RelE X E σ a.tmps w) :
    slotUpon P X E σ w (.val ⟨.bool, t, []⟩ none) ((execOp a.eval o).run P w) := by
  obtain ⟨ms, hm, e1⟩ := boolOf_some hc
  obtain ⟨ms', hm', e2⟩ := boolOf_some ht
  have h1 : a.eval (.tmp c) = .bool v := val_bool (slot_of_opd hr e1)
  have h2 : a.eval (bif v then x else y) = .bool t := val_bool (slot_of_opd hr e2)
  have hx : (execOp a.eval o).run P w = .ok (.value (.bool t)) w := by
    simp only [execOp, ho, h1, asBool, Sem.run_bind, Sem.run_pure, Result.andThen_ok]
    rw [← h2]
    cases v <;> simp
  rw [hx]
  exact ⟨Ext.refl w, slot_bool t none⟩
theorem bool_yes {v w : Bool} (h : (bif w then v else !v) = true) : v = w := by cases v <;> cases w <;> simp_all
theorem bool_no {v w : Bool} (h : (bif w then v else !v) = false) : v = !w := by cases v <;> cases w <;> simp_all
theorem clear_at {u : Tmp} : ∀ (g : List (Oper × Nat)) (σ : St), (∀ q ∈ g, q.1.dst ≠ some u) → (clearD g σ).fr[u]? = σ.fr[u]? := by
  intro g
  induction g with
  | nil => intro σ _; rfl
  | cons q g ihg =>
    intro σ hq
    have e : clearD (q :: g) σ = clearD g (σ.put q.1.dst .no) := rfl
    rw [e, ihg _ (fun q' hq' => hq q' (List.mem_cons_of_mem _ hq'))]
    cases hdq : q.1.dst with
    | none => rfl
    | some dq => simp only [St.put]; rw [List.getElem?_set_ne (fun e => hq q List.mem_cons_self (by rw [hdq, e]))]
theorem head_cert (T : Tabs) (hT : TabOk P T.T) (hF : FOk P T.F) (H : HeadOk ops D m nn) : ∀ (n : Nat) {act : List (Nat × Bool)} {R : Type} {l : List (Oper × Nat)} {i : Nat} {σ : St} {k : St → Option R} {r : R} {S : Nat → Slot} {sk : Nat → Bool},
    headK T D ops n act R l σ k = some r → Contig i l → (∀ q ∈ l, ops[q.2]? = some q.1) → i + l.length ≤ m → (∀ q ∈ l, headOp T q.1.op = true ∧ ∃ d, q.1.dst = some d) → Walk ops S σ0 σ i → (∀ j, j < i → sk j = true → S j = .no) →
    (∀ g ∈ act, Guards ops S sk σ0.fr.length i g.1 g.2) →
    ∃ S' sk' σ', (∀ j, j < i → S' j = S j ∧ sk' j = sk j) ∧ (∀ j o, i ≤ j → j < i + l.length → ops[j]? = some o → CertAt P X D ops S' sk' σ0 j o) ∧ Walk ops S' σ0 σ' (i + l.length) ∧ (∀ j, j < i + l.length → sk' j = true → S' j = .no) ∧ k σ' = some r ∧
      ∀ t, (∀ q ∈ l, q.1.dst ≠ some t) → σ'.fr[t]? = σ.fr[t]? := by
  intro n
  induction n with
  | zero =>
    intro act R l i σ k r S sk h hc hi hm hh hw hsk _
    cases l with
    | nil => exact ⟨S, sk, σ, fun _ _ => ⟨rfl, rfl⟩, fun j o h1 h2 => by simp at h2; omega, hw, hsk, by simpa [headK] using h, fun _ _ => rfl⟩
    | cons o l => simp [headK] at h
  | succ n ih =>
    intro act R l i σ k r S sk h hc hi hm hh hw hsk hact
    cases l with
    | nil => exact ⟨S, sk, σ, fun _ _ => ⟨rfl, rfl⟩, fun j o h1 h2 => by simp at h2; omega, hw, hsk, by simpa [headK] using h, fun _ _ => rfl⟩
    | cons o l =>
      simp only [headK] at h
      have ho := hi o List.mem_cons_self
      have ho2 : o.2 = i := hc.1
      rw [ho2] at ho
      have him : i < m := by simp at hm; omega
      obtain ⟨hhd, d, hd⟩ := hh o List.mem_cons_self
      split at h
      · rename_i hg
        have hgs : ∀ j w, o.1.guard = some (j, w) → Guards ops S sk σ0.fr.length i j w := by
          intro j w hgu
          unfold openG at hg
          rw [hgu] at hg
          simp only at hg
          cases hcon : act.contains (j, w) with
          | false => rw [hcon] at hg; simp at hg
          | true => exact hact (j, w) (by simpa using hcon)
        obtain ⟨s, h1, h2⟩ := slotK_nat T hhd h
        have hS1 : ∀ j, j < i → (fun j => if j = i then s else S j) j = S j := fun j hj => if_neg (by omega)
        have hsk1 : ∀ j, j < i → (fun j => if j = i then false else sk j) j = sk j := fun j hj => if_neg (by omega)
        have hbth : ∀ j, j < i → (fun j => if j = i then s else S j) j = S j ∧ (fun j => if j = i then false else sk j) j = sk j := fun j hj => ⟨hS1 j hj, hsk1 j hj⟩
        obtain ⟨S', sk', σ', q1, q2, q3, q4, q5, q6⟩ := ih h1 hc.2 (fun q hq => hi q (List.mem_cons_of_mem _ hq)) (by simp at hm; omega) (fun q hq => hh q (List.mem_cons_of_mem _ hq))
          (hw.put ho hd s (fun j => if j = i then s else S j) hS1 (if_pos rfl)) (sk := fun j => if j = i then false else sk j) (fun j hj hs => by
            by_cases hji : j = i
            · simp [hji] at hs
            · simp only [if_neg hji] at hs ⊢; exact hsk j (by omega) hs)
          (fun g hg => by
            have := (hact g hg).congr hbth
            exact ⟨by have := this.1; omega, this.2⟩)
        refine ⟨S', sk', σ', fun j hj => ⟨((q1 j (by omega)).1).trans (hS1 j hj), ((q1 j (by omega)).2).trans (hsk1 j hj)⟩, fun j p h3 h4 hp => ?_, ?_, fun j hj => q4 j (by simp at hj; omega), q5, fun t ht => ?_⟩
        · by_cases hji : j = i
          · subst hji
            rw [ho] at hp
            have := Option.some.inj hp
            subst this
            have hcert : CertAt P X D ops (fun k => if k = j then s else S k) (fun k => if k = j then false else sk k) σ0 j o.1 :=
              .inr ⟨if_pos rfl, fun j' w hg' => (hgs j' w hg').congr hbth, _, (hw.sees H him ho).congr hS1, fun E a w hr => by
                simp only [if_pos]
                exact slotK_ok T hT hF hhd (h2 _ _) hr⟩
            exact hcert.congr fun k hk => q1 k (by omega)
          · exact q2 j p (by omega) (by simp at h4; omega) hp
        · rw [List.length_cons, show i + (l.length + 1) = i + 1 + l.length by omega]; exact q3
        · rw [q6 t (fun q hq => ht q (List.mem_cons_of_mem _ hq)), hd]
          simp only [St.put]
          rw [List.getElem?_set_ne (fun e => ht o List.mem_cons_self (by rw [hd, e]))]
      · rename_i j w0 hg
        split at h
        · rename_i x1 x2 g d' c x y ty pos af pg i' r' hsp
          have hl := spanG_eq j _ hsp
          cases hb1 : ((decide (j < o.2) && dstOf ops j == some c) && g.all fun q => okG T o.snd j w0 c q.fst q.snd) && pgOk act pg with
          | false => rw [hb1] at h; simp at h
          | true =>
            rw [hb1] at h
            simp only [cond_true] at h
            simp only [Bool.and_eq_true, beq_iff_eq, List.all_eq_true, decide_eq_true_eq] at hb1
            obtain ⟨⟨⟨hji, hdst⟩, hall⟩, hpg⟩ := hb1
            rw [ho2] at hji hall
            cases hv : boolOf (σ.fr.getD c .no) with
            | none => rw [hv] at h; simp at h
            | some v =>
              rw [hv] at h
              simp only [Option.bind_eq_some_iff] at h
              obtain ⟨t, ht, hk⟩ := h
              -- what guards
              have hgd : Guards ops S sk σ0.fr.length i j v := by
                obtain ⟨ms, hm', e⟩ := boolOf_some hv
                rw [List.getD_eq_getElem?_getD] at e
                cases hz : σ.fr[c]? with
                | none => rw [hz] at e; cases e
                | some u =>
                  rw [hz] at e
                  simp only [Option.getD_some] at e
                  subst e
                  have hlt : c < σ0.fr.length := by rw [← hw.same.len]; exact (List.getElem?_eq_some_iff.1 hz).1
                  obtain ⟨pj, hpj, hpd⟩ : ∃ pj, ops[j]? = some pj ∧ pj.dst = some c := by
                    unfold dstOf at hdst
                    cases hp : ops[j]? with
                    | none => rw [hp] at hdst; cases hdst
                    | some pj => rw [hp] at hdst; exact ⟨pj, rfl, hdst⟩
                  have hSj : .val ⟨.bool, v, ms⟩ hm' = S j := by
                    rcases hw.slot c _ hz with h1 | ⟨h1, _⟩ | ⟨j', p', h1, h2, h3, h4⟩
                    · cases h1
                    · exact absurd hpd (h1 j pj hji hpj)
                    · have := H.inj j' p' j pj c (by have := H.le; omega) h2 (by have := H.le; omega) hpj h3 hpd
                      subst this
                      exact h4
                  refine ⟨hji, ?_, c, hdst, hlt, ms, hm', hSj.symm⟩
                  cases hs : sk j with
                  | false => rfl
                  | true => rw [hsk j hji hs] at hSj; cases hSj
              have hgc : ∀ q ∈ g, q.1.dst ≠ some c := fun q hq => by
                have := hall q hq
                simp only [okG, okH, Bool.and_eq_true, Bool.not_eq_true', beq_eq_false_iff_ne, ne_eq] at this
                exact this.1.2
              rw [hl] at hc hi hm hh ⊢
              obtain ⟨hc1, hc2⟩ := contig_append hc
              have hi'2 : i' = i + g.length := hc2.1
              have hmem : ∀ q ∈ g, q ∈ g ++ (⟨some d', .pick (.tmp c) x y, ty, pos, af, pg⟩, i') :: r' := fun q hq => List.mem_append_left _ hq
              have hmem2 : ∀ q ∈ r', q ∈ g ++ ((⟨some d', .pick (.tmp c) x y, ty, pos, af, pg⟩ : Oper), i') :: r' := fun q hq => List.mem_append_right _ (List.mem_cons_of_mem _ hq)
              have hpi : ops[i']? = some ⟨some d', .pick (.tmp c) x y, ty, pos, af, pg⟩ := hi _ (List.mem_append_right _ List.mem_cons_self)
              have hlen : (g ++ ((⟨some d', .pick (.tmp c) x y, ty, pos, af, pg⟩ : Oper), i') :: r').length = g.length + 1 + r'.length := by simp; omega
              rw [hlen] at hm ⊢
              have hgin := contig_has hc1 (fun q hq => hi q (hmem q hq))
              -- the group is done; the rest
              have fin : ∀ (S1 : Nat → Slot) (sk1 : Nat → Bool) (σ1 : St), (∀ k, k < i → S1 k = S k ∧ sk1 k = sk k) → (∀ k o, i ≤ k → k < i' → ops[k]? = some o → CertAt P X D ops S1 sk1 σ0 k o) → (∀ k, k < i' → sk1 k = true → S1 k = .no) → Walk ops S1 σ0 σ1 i' →
                  boolOf (σ1.fr.getD c .no) = some v → boolOf (opd σ1 (bif v then x else y)) = some t →
                  ∃ S' sk' σ', (∀ k, k < i → S' k = S k ∧ sk' k = sk k) ∧ (∀ k o, i ≤ k → k < i + (g.length + 1 + r'.length) → ops[k]? = some o → CertAt P X D ops S' sk' σ0 k o) ∧ Walk ops S' σ0 σ' (i + (g.length + 1 + r'.length)) ∧ (∀ k, k < i + (g.length + 1 + r'.length) → sk' k = true → S' k = .no) ∧ k σ' = some r ∧
                    ∀ t, (∀ q ∈ g ++ ((⟨some d', .pick (.tmp c) x y, ty, pos, af, pg⟩ : Oper), i') :: r', q.1.dst ≠ some t) → σ'.fr[t]? = σ.fr[t]? := by
                intro S1 sk1 σ1 e1 e2 e3 e4 e5 e6
                have hS2 : ∀ k, k < i' → (fun k => if k = i' then Slot.val ⟨.bool, t, []⟩ none else S1 k) k = S1 k := fun k hk => if_neg (by omega)
                have hsk2 : ∀ k, k < i' → (fun k => if k = i' then false else sk1 k) k = sk1 k := fun k hk => if_neg (by omega)
                have hb2 : ∀ k, k < i' → (fun k => if k = i' then Slot.val ⟨.bool, t, []⟩ none else S1 k) k = S1 k ∧ (fun k => if k = i' then false else sk1 k) k = sk1 k := fun k hk => ⟨hS2 k hk, hsk2 k hk⟩
                have hb3 : ∀ k, k < i → (fun k => if k = i' then Slot.val ⟨.bool, t, []⟩ none else S1 k) k = S k ∧ (fun k => if k = i' then false else sk1 k) k = sk k := fun k hk => ⟨(hS2 k (by omega)).trans (e1 k hk).1, (hsk2 k (by omega)).trans (e1 k hk).2⟩
                have hwk : Walk ops (fun k => if k = i' then Slot.val ⟨.bool, t, []⟩ none else S1 k) σ0 ((clearD g σ).put (some d') (.val ⟨.bool, t, []⟩ none)) (i' + 1) := by
                  have h1 := hw.clear (S' := S1) (n := i') (g := g) (fun k hk => (e1 k hk).1) (by omega) (fun j p h1 h2 hp => hgin j p h1 (by omega) hp)
                  exact h1.put hpi (d := d') rfl _ _ hS2 (if_pos rfl)
                have hact2 : ∀ q ∈ act, Guards ops (fun k => if k = i' then Slot.val ⟨.bool, t, []⟩ none else S1 k) (fun k => if k = i' then false else sk1 k) σ0.fr.length (i' + 1) q.1 q.2 := fun q hq => by
                  have h1 := (hact q hq).congr hb3
                  exact ⟨by have := h1.1; omega, h1.2⟩
                obtain ⟨S', sk', σ', q1, q2, q3, q4, q5, q6⟩ := ih hk (by have := hc2.2; rwa [← hi'2] at this) (fun q hq => hi q (hmem2 q hq)) (by omega) (fun q hq => hh q (hmem2 q hq)) hwk (sk := fun k => if k = i' then false else sk1 k) (fun k hk hs => by
                    by_cases hki : k = i'
                    · simp [hki] at hs
                    · simp only [if_neg hki] at hs ⊢; exact e3 k (by omega) hs) hact2
                have hlen2 : i + (g.length + 1 + r'.length) = i' + 1 + r'.length := by omega
                rw [hlen2]
                refine ⟨S', sk', σ', fun k hk => ⟨((q1 k (by omega)).1).trans (hb3 k hk).1, ((q1 k (by omega)).2).trans (hb3 k hk).2⟩, fun k p h1 h2 hp => ?_, q3, q4, q5, fun u hu => ?_⟩
                · rcases Nat.lt_or_ge k i' with hki | hki
                  · exact (e2 k p h1 hki hp).congr fun z hz => ⟨((q1 z (by omega)).1).trans (hS2 z (by omega)), ((q1 z (by omega)).2).trans (hsk2 z (by omega))⟩
                  · by_cases hk2 : k = i'
                    · subst hk2
                      rw [hpi] at hp
                      have := Option.some.inj hp
                      subst this
                      have hcert : CertAt P X D ops (fun z => if z = k then Slot.val ⟨.bool, t, []⟩ none else S1 z) (fun z => if z = k then false else sk1 z) σ0 k ⟨some d', .pick (.tmp c) x y, ty, pos, af, pg⟩ := by
                        refine .inr ⟨if_pos rfl, fun j' w hg' => ?_, _, (e4.sees H (by omega) hpi).congr hS2, fun E a w hr => ?_⟩
                        · have hg2 : pg = some (j', w) := hg'
                          subst hg2
                          have h1 := (hact (j', w) (by simpa [pgOk] using hpg)).congr hb3
                          exact ⟨by have := h1.1; omega, h1.2⟩
                        · simp only [if_pos]
                          have hlc : c ∈ Oper.looksAt ops ⟨some d', .pick (.tmp c) x y, ty, pos, af, pg⟩ := List.mem_append_left _ (List.mem_filterMap.2 ⟨.tmp c, by simp [Op.operands], rfl⟩)
                          refine pick_upon rfl (v := v) (t := t) ?_ ?_ hr
                          · rw [opd_hide (fun u hu => by cases hu; exact hlc)]; exact e5
                          · have hop : opd (hide D (Oper.looksAt ops ⟨some d', .pick (.tmp c) x y, ty, pos, af, pg⟩) σ1) (bif v then x else y) = opd σ1 (bif v then x else y) := opd_hide fun u hu => List.mem_append_left _ (List.mem_filterMap.2 ⟨.tmp u, by rw [← hu]; cases v <;> simp [Op.operands], rfl⟩)
                            rw [hop]; exact e6
                      exact hcert.congr fun z hz => q1 z (by omega)
                    · exact q2 k p (by omega) (by omega) hp
                · rw [q6 u (fun q hq => hu q (hmem2 q hq))]
                  simp only [St.put]
                  rw [List.getElem?_set_ne (fun e => hu _ (List.mem_append_right _ List.mem_cons_self) (by rw [e]))]
                  exact clear_at g σ (fun q hq => hu q (hmem q hq))
              cases hvw : (bif w0 then v else !v) with
              | true =>
                rw [hvw] at ht
                simp only [cond_true] at ht
                have hvw' : v = w0 := bool_yes hvw
                subst hvw'
                obtain ⟨S1, sk1, σ1, e1, e2, e3, e4, e5, e6⟩ := ih ht hc1 (fun q hq => hi q (hmem q hq)) (by omega) (fun q hq => hh q (hmem q hq)) hw hsk (by
                  intro q hq
                  rcases List.mem_cons.1 hq with rfl | hq
                  · exact hgd
                  · exact hact q hq)
                rw [← hi'2] at e2 e3 e4
                refine fin S1 sk1 σ1 e1 e2 e4 e3 ?_ e5
                rw [List.getD_eq_getElem?_getD, e6 c hgc, ← List.getD_eq_getElem?_getD]; exact hv
              | false =>
                rw [hvw] at ht
                simp only [cond_false] at ht
                have hvw' : v = !w0 := bool_no hvw
                have hwc : Walk ops (fun k => if i ≤ k then .no else S k) σ0 (clearD g σ) i' := hw.clear (fun k hk => if_neg (by omega)) (by omega) (fun j p h1 h2 hp => hgin j p h1 (by omega) hp)
                refine fin (fun k => if i ≤ k then .no else S k) (fun k => if i ≤ k then true else sk k) (clearD g σ) (fun k hk => ⟨if_neg (by omega), if_neg (by omega)⟩) (fun k p h1 h2 hp => ?_) (fun k hk hs => ?_) hwc ?_ ?_
                · have hin := hgin k p h1 (by omega) hp
                  have := hall _ hin
                  simp only [okG, okH, Bool.and_eq_true, Bool.not_eq_true', beq_eq_false_iff_ne, ne_eq] at this
                  refine .inl ⟨if_pos h1, if_pos h1, ?_⟩
                  cases hgu : p.guard with
                  | none => rw [hgu] at this; exact absurd this.1.1 (by simp)
                  | some z =>
                    obtain ⟨j', w'⟩ := z
                    rw [hgu] at this
                    simp only [Bool.or_eq_true, Bool.and_eq_true, beq_iff_eq, decide_eq_true_eq] at this
                    rcases this.1.1 with ⟨rfl, rfl⟩ | ⟨k1, k2⟩
                    · refine ⟨j', w', rfl, by omega, .inr ⟨v, by rw [hvw']; cases w' <;> simp, ?_⟩⟩
                      have h3 := hgd.congr (S' := fun k => if i ≤ k then .no else S k) (sk' := fun k => if i ≤ k then true else sk k) (fun k hk => ⟨if_neg (by omega), if_neg (by omega)⟩)
                      exact ⟨by omega, h3.2⟩
                    · exact ⟨j', w', rfl, k2, .inl (if_pos k1)⟩
                · by_cases hk2 : i ≤ k
                  · simp only [if_pos hk2]
                  · simp only [if_neg hk2] at hs ⊢; exact hsk k (by omega) hs
                · have h8 : (clearD g σ).fr[c]? = σ.fr[c]? := clear_at g σ hgc
                  rw [List.getD_eq_getElem?_getD, h8, ← List.getD_eq_getElem?_getD]; exact hv
                · have hxy : (bif v then x else y) = (bif w0 then y else x) := by rw [hvw']; cases w0 <;> rfl
                  rw [hxy]; exact ht
        · cases h
end
end Go.Proofs.Ytcdncdbghghnfaa.V
namespace Go.Proofs.Ytcdncdbghghnfaa.V
open Go
section
variable {P : Program} {X : Ctx} {E : Env} {σ0 : St} {a : Act} {w : World} {R : Type} {ops : Array Oper} {D : List Nat} {m n : Nat} {inf : Nat → Tmp × Array Value × TypeId} {S : Nat → Slot} {sk : Nat → Bool}
/-- Other slots, and temporaries that fit them. -/
theorem RelE.frames {A0 A1 : Array Value} {σ : St} (hr : RelE X E σ0 A0 w) (hs : SameB σ0 σ) (hl : A1.size = A0.size) (h : ∀ (i : Nat) s v, σ.fr[i]? = some s → A1[i]? = some v → SlotOk w (Fz X E σ0 w) E σ0 s v) : RelE X E σ A1 w := by
  rw [hs.eq]
  exact { hr with
    len := by show σ.fr.length = _; rw [hs.len, hr.len, hl]
    slot := fun i s v hs' hv => (h i s v hs' hv).fr hr.ge
    bx := fun b hb => (hr.bx b hb).fr (hr.idlt b hb) hr.ge }
theorem SlotOk.frs {A : Nat → Prop} {σ : St} {s : Slot} {v : Value} (hs : SameB σ0 σ) (hge : ∀ τ ∈ σ0.al, 2 ≤ τ ∧ τ ∉ σ0.fz) (h : SlotOk w A E σ s v) : SlotOk w A E σ0 s v := by
  have h2 : σ0 = { σ with fr := σ0.fr } := by
    obtain ⟨fr, bx, al, fz, ln, nt⟩ := σ0
    obtain ⟨h1, h2, h3, h4, h5, _⟩ := hs
    simp only at h1 h2 h3 h4 h5
    subst h1; subst h2; subst h3; subst h4; subst h5; rfl
  rw [h2]
  refine SlotOk.fr h (fun τ ht => ?_)
  rw [hs.al] at ht
  rw [hs.fz]
  exact hge τ ht
theorem fz_same {σ : St} (hs : SameB σ0 σ) : Fz X E σ w = Fz X E σ0 w := by
  funext b
  simp only [Fz, owned, hs.bx, hs.al]
theorem upon_same {σ : St} (hs : SameB σ0 σ) (hge : ∀ τ ∈ σ0.al, 2 ≤ τ ∧ τ ∉ σ0.fz) {s : Slot} {q : Result Next} (h : slotUpon P X E σ w s q) : slotUpon P X E σ0 w s q := by
  cases q with
  | halt x w2 => exact h
  | ok n w2 =>
    cases n with
    | value u => exact ⟨h.1, by have := h.2; rw [fz_same hs] at this; exact this.frs hs hge⟩
    | enter f args => exact ⟨h.1, h.2.mono fun e w3 ⟨v, h1, h2, h3⟩ => ⟨v, h1, h2, by rw [fz_same hs] at h3; exact h3.frs hs hge⟩⟩
    | _ => exact h
theorem keep_outs {A0 : Array Value} {l l' : List Nat} {w1 : World} (hr : RelE X (E.outs l) σ0 A0 w) (hx : Ext w w1) (hl : ∀ b ∈ l', b ∈ l ∨ w.heap.size ≤ b) : Keep w w1 (Fz X (E.outs l) σ0 w) (Fz X (E.outs l') σ0 w1) (E.outs l) (E.outs l') σ0 σ0 := by
  have K := hr.keepExt hx
  refine ⟨fun b hb => ⟨⟨hb.1, Nat.lt_of_lt_of_le hb.2.1 hx.size, fun ho => hb.2.2 ?_⟩, hx.block b hb.2.1⟩, K.nt, fun _ _ => rfl, fun _ _ => rfl, fun _ _ h => .inl h, K.al, K.ge, K.pin⟩
  simp only [owned, List.mem_append] at ho ⊢
  rcases ho with ho | ho | ho
  · exact .inl ho
  · exact .inr (.inl ho)
  · rcases hl b ho with h | h
    · exact .inr (.inr h)
    · have := hb.2.1; omega
/-- What holds while a head is drawn. -/
structure HInv (X : Ctx) (E : Env) (ops : Array Oper) (m n : Nat) (inf : Nat → Tmp × Array Value × TypeId) (S : Nat → Slot) (sk : Nat → Bool) (σ0 : St) (a : Act) (w : World) (bl : Nat → Nat) (l : List Nat) (listed : Array Bool) (a' : Act) (w' : World) : Prop where
  head : HeadInv .any ops n listed
  ext : Ext w w'
  dfr : a'.defers = a.defers
  siz : a'.tmps.size = a.tmps.size
  oth : ∀ t, (∀ i o, i < n → ops[i]? = some o → o.dst ≠ some t) → a'.tmps[t]? = a.tmps[t]?
  slt : ∀ i o d u, i < m → ops[i]? = some o → o.dst = some d → listed.getD i false = true → a'.tmps[d]? = some u → SlotOk w' (Fz X (E.outs (l ++ E.out)) σ0 w') (E.outs (l ++ E.out)) σ0 (S i) u
  skp : ∀ i o d u, i < m → ops[i]? = some o → o.dst = some d → listed.getD i false = true → sk i = true → a'.tmps[d]? = some u → u = undef
  new : ∀ i, m ≤ i → i < n → listed.getD i false = true → (∀ b : Act, b.tmps.size = a.tmps.size → a'.tmps[(inf i).1]? = (b.put (some (inf i).1) (.pointer (some ⟨bl i, 0, none⟩))).tmps[(inf i).1]?) ∧
    w.heap.size ≤ bl i ∧ bl i < w'.heap.size ∧ w'.heap[bl i]? = some (.cells (inf i).2.1 (inf i).2.2 (0, 0))
  inj : ∀ i j, m ≤ i → i < n → m ≤ j → j < n → listed.getD i false = true → listed.getD j false = true → bl i = bl j → i = j
  lnd : l.Nodup
  lfr : ∀ b ∈ l, w.heap.size ≤ b ∧ b < w'.heap.size
  lmem : ∀ i, m ≤ i → i < n → listed.getD i false = true → bl i ∈ l
theorem HInv.base {bl : Nat → Nat} {l : List Nat} {listed : Array Bool} {a' : Act} {w' : World} (inv : HInv X E ops m n inf S sk σ0 a w bl l listed a' w') (hr : RelE X E σ0 a.tmps w) : RelE X (E.outs (l ++ E.out)) σ0 a.tmps w' := by
  refine (hr.world (w1 := w') (l := l ++ E.out) (fun b hb _ => inv.ext.block b hb) (hr.fr.ext inv.ext) inv.ext.size ?_ (fun b hb => ?_)).1
  · have ho : E.out.Nodup := by
      have := hr.nodup
      simp only [owned] at this
      exact (List.nodup_append.1 (List.nodup_append.1 this).2.1).2.1
    refine List.nodup_append.2 ⟨inv.lnd, ho, fun b hb c hc he => ?_⟩
    have h1 := (inv.lfr b hb).1
    have h2 : c < w.heap.size := (hr.lt c (mem_out hr hc)).1
    omega
  · rcases List.mem_append.1 hb with h | h
    · exact ⟨.inr (inv.lfr b h).1, (inv.lfr b h).2⟩
    · exact ⟨.inl h, Nat.lt_of_lt_of_le (hr.lt b (mem_out hr h)).1 inv.ext.size⟩
theorem HInv.rel {bl : Nat → Nat} {l : List Nat} {listed : Array Bool} {a' : Act} {w' : World} (inv : HInv X E ops m n inf S sk σ0 a w bl l listed a' w') (hr : RelE X E σ0 a.tmps w) {σ : St} (hs : SameB σ0 σ)
    (h : ∀ t s, σ.fr[t]? = some s → s = .no ∨ ((∀ j p, j < n → ops[j]? = some p → p.dst ≠ some t) ∧ σ0.fr[t]? = some s) ∨ ∃ j p, j < m ∧ ops[j]? = some p ∧ p.dst = some t ∧ listed.getD j false = true ∧ s = S j) : RelE X (E.outs (l ++ E.out)) σ a'.tmps w' := by
  have hr' := inv.base hr
  refine hr'.frames hs inv.siz (fun t s v h1 h2 => ?_)
  rcases h t s h1 with h3 | ⟨h3, h4⟩ | ⟨j, p, q1, q2, q3, q4, q5⟩
  · subst h3; trivial
  · rw [inv.oth t h3] at h2
    exact hr'.slot t s v h4 h2
  · subst q5
    exact inv.slt j p t v q1 q2 q3 q4 h2
/-- What looks at no memory yields the same in every world. -/
theorem bare_upon {o : Oper} {s : Slot} {σ : St} (hb : bareOp o = true) (h : slotUpon P X E σ w s ((execOp a.eval o).run P w)) : ∃ v, (execOp a.eval o).run P w = .ok (.value v) w ∧ Yields P ops o v a := by
  simp only [bareOp, Bool.and_eq_true] at hb
  have hg : o.guard = none := by simpa using hb.1
  have hw : Region.wanted o (yielded ops a.tmps) = true := by simp [Region.wanted, hg]
  have h2 := hb.2
  split at h2
  · rename_i x i ho
    simp only [execOp, ho, Sem.run_bind] at h ⊢
    cases hx : a.eval x <;> simp [hx, Instr.extract, slotUpon] at h ⊢
    rename_i vs
    cases hi : vs[i]? with
    | none => rw [hi] at h; simp [slotUpon] at h
    | some u =>
      simp only [Sem.run_pure, Result.andThen_ok]
      exact ⟨u, rfl, .inl ⟨hw, fun w' => by simp [execOp, ho, hx, Instr.extract, hi]⟩⟩
  · rename_i x ho
    exact ⟨a.eval x, by simp [execOp, ho], .inl ⟨hw, fun w' => by simp [execOp, ho]⟩⟩
  · rename_i x ho
    exact ⟨a.eval x, by simp [execOp, ho], .inl ⟨hw, fun w' => by simp [execOp, ho]⟩⟩
  · cases h2
theorem head_any {Q : Exit → Act → World → Prop} (hQp : ∀ c a w, ¬ Q (.panic c) a w) (hB : mixB ops m n = true) (H : HeadOk ops D m n) (hr : RelE X E σ0 a.tmps w) (hcert : ∀ i o, i < m → ops[i]? = some o → CertAt P X D ops S sk σ0 i o)
    (hnew : ∀ i, m ≤ i → i < n → ∃ o, ops[i]? = some o ∧ NewAt P o (inf i).1 (inf i).2.1 (inf i).2.2)
    (hQ : ∀ (a' : Act) (w' : World) (bl : Nat → Nat) (l : List Nat) (listed : Array Bool), (∀ i, i < n → listed.getD i false = true) → HInv X E ops m n inf S sk σ0 a w bl l listed a' w' → wpOps P ops Q (List.range' n (ops.size - n)) a' w') :
    ∀ (k : Nat) (listed : Array Bool) (a' : Act) (w' : World) (bl : Nat → Nat) (l : List Nat), (List.range n).countP (fun i => !listed.getD i true) = k → HInv X E ops m n inf S sk σ0 a w bl l listed a' w' → wpAny P .any ops Q (k + (ops.size - n)) listed a' w' := by
  simp only [mixB, Bool.and_eq_true, decide_eq_true_eq, List.all_eq_true, List.mem_range] at hB
  obtain ⟨⟨⟨⟨⟨hsel, hmn⟩, hns⟩, hops⟩, htail⟩, hseq⟩ := hB
  have hop : ∀ i, i < n → ∃ o d, ops[i]? = some o ∧ o.dst = some d ∧ (∀ e ∈ o.after, Region.binds .any e = true → e.on < i) ∧ (∀ j p, j < n → j ≠ i → ops[j]? = some p → p.dst ≠ some d) ∧
      (i < m → ∀ j p t, j < n → ops[j]? = some p → p.dst = some t → t ∈ o.looksAt ops → j < i ∧ Region.waitsFor .any ops i j = true) ∧
      (n < ops.size → (lateB ops m n i = true → bareOp o = true ∧ ∀ j p, ops[j]? = some p → j ≠ i → Region.waitsFor .any ops j i = true ∨ Region.waitsFor .any ops i j = true ∨ o.apart ops p = true) ∧
        (lateB ops m n i = false → ∃ j, j ≤ n ∧ i < j ∧ Region.waitsFor .any ops j i = true ∧ (j = n ∨ lateB ops m n j = false))) := by
    intro i hi
    have h := hops i hi
    cases ho : ops[i]? with
    | none => rw [ho] at h; simp at h
    | some o =>
      rw [ho] at h
      simp only [Bool.and_eq_true, List.all_eq_true, List.mem_range] at h
      obtain ⟨⟨⟨⟨h1, h2⟩, h3⟩, h4⟩, h5⟩ := h
      cases hd : o.dst with
      | none => rw [hd] at h1; simp at h1
      | some d =>
        refine ⟨o, d, rfl, hd, fun e he hb => ?_, fun j p hj hne hp he => ?_, fun him j p t hj hp ht hl => ?_, fun hlt => ?_⟩
        · have := Array.all_eq_true_iff_forall_mem.1 h2 e he
          simp only [hb, Bool.not_true, Bool.false_or, decide_eq_true_eq] at this
          exact this
        · have := h3 j hj
          rw [hp] at this
          simp only [Bool.or_eq_true, beq_iff_eq, Bool.not_eq_true', beq_eq_false_iff_ne, ne_eq] at this
          rcases this with h | h
          · exact hne h
          · exact h (he.trans hd.symm)
        · simp only [Bool.or_eq_true, decide_eq_true_eq, List.all_eq_true, List.mem_range] at h4
          rcases h4 with h | h
          · omega
          · have := h j hj
            rw [hp] at this
            simp only [Option.bind_some, ht, Bool.or_eq_true, Bool.not_eq_true', Bool.and_eq_true, decide_eq_true_eq] at this
            rcases this with h | h
            · simp [List.contains_iff_mem, hl] at h
            · exact ⟨h.1.2, h.2⟩
        · have h6 : (bif lateB ops m n i then bareOp o && (List.range ops.size).all (fun j => j == i || Region.waitsFor .any ops j i || Region.waitsFor .any ops i j || (match ops[j]? with | some p => o.apart ops p | none => true))
              else (List.range (n + 1)).any (fun j => decide (i < j) && Region.waitsFor .any ops j i && (j == n || !lateB ops m n j))) = true := by
            rcases Bool.or_eq_true _ _ ▸ h5 with h | h
            · have : n = ops.size := by simpa using h
              omega
            · exact h
          refine ⟨fun hla => ?_, fun hla => ?_⟩
          · rw [hla] at h6
            simp only [cond_true, Bool.and_eq_true, List.all_eq_true, List.mem_range] at h6
            refine ⟨h6.1, fun j p hp hne => ?_⟩
            have := h6.2 j (Array.getElem?_eq_some_iff.1 hp).1
            rw [hp] at this
            simp only [Bool.or_eq_true, beq_iff_eq] at this
            rcases this with ((h | h) | h) | h
            · exact absurd h hne
            · exact .inl h
            · exact .inr (.inl h)
            · exact .inr (.inr h)
          · rw [hla] at h6
            simp only [cond_false, List.any_eq_true, List.mem_range, Bool.and_eq_true, decide_eq_true_eq, Bool.or_eq_true, beq_iff_eq, Bool.not_eq_true'] at h6
            obtain ⟨j, h7, ⟨h8, h9⟩, h10⟩ := h6
            exact ⟨j, by omega, h8, h9, h10⟩
  intro k
  induction k with
  | zero =>
    intro listed a' w' bl l hk inv
    have hall : ∀ i, i < n → listed.getD i false = true := by
      intro i hi
      refine listed_of_not (by rw [inv.head.size]; omega) (fun h => ?_)
      have := List.countP_eq_zero.1 hk i (List.mem_range.2 hi)
      simp [h] at this
    have hl : listed = (List.range n).foldl (fun l i => l.setIfInBounds i true) (Array.replicate ops.size false) := by
      obtain ⟨s1, _, _⟩ := fold_listed n 0 (Array.replicate ops.size false)
      apply Array.ext_getElem?
      intro i
      obtain ⟨_, s2, s3⟩ := fold_listed n i (Array.replicate ops.size false)
      by_cases hi : i < n
      · rw [s2 hi (by simp; omega)]
        have := hall i hi
        have hlt : i < listed.size := by rw [inv.head.size]; omega
        simpa [Array.getD_eq_getD_getElem?, Array.getElem?_eq_getElem hlt] using this
      · rw [s3 (by omega)]
        by_cases hs : i < ops.size
        · have := inv.head.tail i (by omega) hs
          have hlt : i < listed.size := by rw [inv.head.size]; omega
          simp [Array.getD_eq_getD_getElem?, Array.getElem?_eq_getElem hlt] at this
          rw [Array.getElem?_eq_getElem hlt, this]
          simp [hs]
        · rw [Array.getElem?_eq_none (by rw [inv.head.size]; omega), Array.getElem?_eq_none (by simp; omega)]
    rw [Nat.zero_add]
    exact any_of_seq _ _ _ _ _ (by rw [hl]; exact hseq) (hQ a' w' bl l listed hall inv)
  | succ k ih =>
    intro listed a' w' bl l hk inv
    rw [show k + 1 + (ops.size - n) = (k + (ops.size - n)) + 1 by omega]
    have hex : ∃ i, i < n ∧ listed.getD i true = false := by
      obtain ⟨i, hi, h⟩ := List.countP_pos_iff.1 (show 0 < (List.range n).countP (fun i => !listed.getD i true) by omega)
      exact ⟨i, List.mem_range.1 hi, by simpa using h⟩
    -- the least that is still to come waits for nothing
    have hmin : ∃ i, i < n ∧ listed.getD i true = false ∧ i ∈ Region.ready .any ops listed := by
      obtain ⟨i, hi, h⟩ := hex
      induction i using Nat.strongRecOn with
      | _ i ihi =>
        by_cases hlow : ∃ j, j < i ∧ listed.getD j true = false
        · obtain ⟨j, hj, hj2⟩ := hlow
          exact ihi j hj (by omega) hj2
        · obtain ⟨o, d, e1, _, e3, _⟩ := hop i hi
          refine ⟨i, hi, h, mem_ready.2 ⟨h, o, e1, fun e he hb => ?_⟩⟩
          have hlt := e3 e he hb
          exact listed_of_not (by rw [inv.head.size]; omega) (fun hn => hlow ⟨e.on, hlt, hn⟩)
    have hcount : ∀ i, i < n → listed.getD i true = false → (List.range n).countP (fun j => !(listed.setIfInBounds i true).getD j true) = k := by
      intro i hin hun
      have := countP_one (f := fun j => !listed.getD j true) (g := fun j => !(listed.setIfInBounds i true).getD j true) (i := i) (List.nodup_range) (List.mem_range.2 hin) (by simp only [hun]; rfl)
        (by
          have hlt : i < listed.size := by rw [inv.head.size]; omega
          simp [Array.getD_eq_getD_getElem?, hlt])
        (fun j _ hj => by
          have := getD_set_ne (listed := listed) true (Ne.symm hj)
          simp only [this])
      omega
    -- one more is done
    have hnext : ∀ i oi d v w2, i < m → ops[i]? = some oi → oi.dst = some d → i ∈ Region.ready .any ops listed → Ext w' w2 → SlotOk w2 (Fz X (E.outs (l ++ E.out)) σ0 w2) (E.outs (l ++ E.out)) σ0 (S i) v → (sk i = true → v = undef) → HInv X E ops m n inf S sk σ0 a w bl l (listed.setIfInBounds i true) (a'.put oi.dst v) w2 := by
      intro i oi d v w2 him hoi hd hi hw2 hv hs
      have hin : i < n := by have := H.le; omega
      obtain ⟨o', d', e1, e2, _, e4, _, _⟩ := hop i hin
      rw [hoi] at e1
      have := Option.some.inj e1
      subst this
      rw [hd] at e2
      have := Option.some.inj e2
      subst this
      have head' := inv.head.set hi hin
      have K := (inv.base hr).keepExt hw2
      have hput : ∀ t, t ≠ d → (a'.put oi.dst v).tmps[t]? = a'.tmps[t]? := fun t ht => put_other _ _ t (fun e => ht (by rw [hd] at e; exact Option.some.inj e))
      have hself : ∀ u, (a'.put oi.dst v).tmps[d]? = some u → u = v := by
        intro u hu
        rw [hd] at hu
        simp only [Act.put] at hu
        by_cases hlt : d < a'.tmps.size
        · rw [Array.getElem?_setIfInBounds_self_of_lt hlt] at hu; exact (Option.some.inj hu).symm
        · rw [Array.getElem?_eq_none (by rw [Array.size_setIfInBounds]; exact Nat.le_of_not_lt hlt)] at hu; cases hu
      refine ⟨head', inv.ext.trans hw2, (put_defers _ _).trans inv.dfr, (put_size _ _).trans inv.siz, fun t ht => ?_, fun j p t u hj hp hpt hlj hu => ?_, fun j p t u hj hp hpt hlj hsj hu => ?_, fun j h1 h2 hlj => ?_, fun j l h1 h2 h3 h4 h5 h6 => ?_, inv.lnd, fun b hb => ⟨(inv.lfr b hb).1, Nat.lt_of_lt_of_le (inv.lfr b hb).2 hw2.size⟩, fun j h1 h2 hlj => inv.lmem j h1 h2 (listed_set hlj (by omega))⟩
      · rw [hput t (fun e => ht i oi hin hoi (by rw [hd, e]))]
        exact inv.oth t ht
      · by_cases hji : j = i
        · subst hji
          rw [hoi] at hp
          have := Option.some.inj hp
          subst this
          rw [hd] at hpt
          have := Option.some.inj hpt
          subst this
          rw [hself u hu]; exact hv
        · rw [hput t (fun e => e4 j p (by have := H.le; omega) hji hp (by rw [hpt, e]))] at hu
          exact K.slot (inv.slt j p t u hj hp hpt (listed_set hlj hji) hu)
      · by_cases hji : j = i
        · subst hji
          rw [hoi] at hp
          have := Option.some.inj hp
          subst this
          rw [hd] at hpt
          have := Option.some.inj hpt
          subst this
          rw [hself u hu]; exact hs hsj
        · rw [hput t (fun e => e4 j p (by have := H.le; omega) hji hp (by rw [hpt, e]))] at hu
          exact inv.skp j p t u hj hp hpt (listed_set hlj hji) hsj hu
      · have hji : j ≠ i := by omega
        obtain ⟨n1, n2, n3, n4⟩ := inv.new j h1 h2 (listed_set hlj hji)
        obtain ⟨oj, hoj, hN⟩ := hnew j h1 h2
        refine ⟨fun b hb => ?_, n2, Nat.lt_of_lt_of_le n3 hw2.size, (hw2.block _ n3).trans n4⟩
        rw [hput _ (fun e => e4 j oj h2 hji hoj (by rw [hN.dst, e]))]
        exact n1 b hb
      · exact inv.inj j l h1 h2 h3 h4 (listed_set h5 (by omega)) (listed_set h6 (by omega))
    -- what one operation does here
    have hdo : ∀ i, i ∈ Region.ready .any ops listed → i < m → ∃ oi d, ops[i]? = some oi ∧ oi.dst = some d ∧ ((Region.wanted oi (yielded ops a'.tmps) = false ∧ sk i = true ∧ S i = .no) ∨ (Region.wanted oi (yielded ops a'.tmps) = true ∧ sk i = false ∧ slotUpon P X (E.outs (l ++ E.out)) σ0 w' (S i) ((execOp a'.eval oi).run P w'))) := by
      intro i hi hin
      obtain ⟨hun, o', ho', hwait⟩ := mem_ready.1 hi
      have hle := H.le
      obtain ⟨oi, d, hoi, hd, e3, e4, e5, _⟩ := hop i (by omega)
      rw [hoi] at ho'
      have := Option.some.inj ho'
      subst this
      refine ⟨oi, d, hoi, hd, ?_⟩
      have hlist : ∀ j p t, j < n → ops[j]? = some p → p.dst = some t → t ∈ oi.looksAt ops → listed.getD j false = true := by
        intro j p t hj hp hpt ht
        obtain ⟨_, hw⟩ := e5 hin j p t hj hp hpt ht
        obtain ⟨o2, ho2, e, he, hb, hon⟩ := Region.waitsFor_spec hw
        rw [hoi] at ho2
        have := Option.some.inj ho2
        subst this
        have := hwait e he hb
        rwa [hon] at this
      have hguard : ∀ j w, oi.guard = some (j, w) → j < i → ∀ c, dstOf ops j = some c → ∃ pj, ops[j]? = some pj ∧ pj.dst = some c ∧ listed.getD j false = true := by
        intro j w hg hji c hc
        have hc' := hc
        unfold dstOf at hc'
        cases hp : ops[j]? with
        | none => rw [hp] at hc'; cases hc'
        | some pj =>
          rw [hp] at hc'
          refine ⟨pj, rfl, hc', hlist j pj c (by omega) hp hc' ?_⟩
          refine List.mem_append_right _ ?_
          rw [hg]
          simp only [hp, Option.bind_some]
          rw [show pj.dst = some c from hc']
          simp
      have hyes : ∀ j w v, oi.guard = some (j, w) → Guards ops S sk σ0.fr.length i j v → yielded ops a'.tmps j = some v := by
        intro j w v hg hG
        obtain ⟨h1, h2, c, h3, h4, ms, hm', h5⟩ := hG
        obtain ⟨pj, q1, q2, q3⟩ := hguard j w hg h1 c h3
        have hlt : c < a'.tmps.size := by rw [inv.siz, ← hr.len]; exact h4
        have hs := inv.slt j pj c _ (by omega) q1 q2 q3 (Array.getElem?_eq_getElem hlt)
        rw [h5] at hs
        rw [yielded_dst h3, Array.getElem?_eq_getElem hlt, val_bool hs]
      rcases hcert i oi hin hoi with ⟨h1, h2, j, w, h3, h4, h5⟩ | ⟨h1, h2, σ, h3, h4⟩
      · refine .inl ⟨?_, h1, h2⟩
        unfold Region.wanted
        rw [h3]
        rcases h5 with h5 | ⟨v, h5, h6⟩
        · have : yielded ops a'.tmps j = none := by
            cases hc : dstOf ops j with
            | none => exact yielded_none hc
            | some c =>
              obtain ⟨pj, q1, q2, q3⟩ := hguard j w h3 h4 c hc
              rw [yielded_dst hc]
              cases hz : a'.tmps[c]? with
              | none => rfl
              | some u => rw [inv.skp j pj c u (by omega) q1 q2 q3 h5 hz]; rfl
          simp [this]
        · have := hyes j w v h3 h6
          simp [this, h5]
      · refine .inr ⟨?_, h1, ?_⟩
        · unfold Region.wanted
          cases hg : oi.guard with
          | none => rfl
          | some z =>
            obtain ⟨j, w⟩ := z
            have := hyes j w w hg (h2 j w hg)
            simp [this]
        · refine upon_same h3.same hr.ge (h4 _ a' w' (inv.rel hr h3.same fun t s ht => ?_))
          rcases h3.slot t s ht with q1 | ⟨q1, q2⟩ | ⟨j, p, q1, q2, q3, q4, q5⟩
          · exact .inl q1
          · refine .inr (.inl ⟨fun j p hj hp he => q1 ((H.mem t).2 ⟨j, p, hj, hp, he⟩), q2⟩)
          · exact .inr (.inr ⟨j, p, by omega, q2, q3, hlist j p t (by omega) q2 q3 q4, q5⟩)
    -- one that is late is taken first
    by_cases hlt : ∃ i, i ∈ Region.ready .any ops listed ∧ n < ops.size ∧ lateB ops m n i = true
    · obtain ⟨i, hi, hns', hla⟩ := hlt
      have him : i < m := by simp only [lateB, Bool.and_eq_true, decide_eq_true_eq] at hla; exact hla.1
      obtain ⟨hun, _, _, hwait⟩ := mem_ready.1 hi
      obtain ⟨oi, d, hoi, hd, hcase⟩ := hdo i hi him
      have hle := H.le
      obtain ⟨o, d', e1, e2, e3, e4, e5, e6⟩ := hop i (by omega)
      rw [hoi] at e1
      have := Option.some.inj e1
      subst this
      obtain ⟨hbare, hap⟩ := (e6 hns').1 hla
      have hgn : oi.guard = none := by simp only [bareOp, Bool.and_eq_true] at hbare; simpa using hbare.1
      rcases hcase with ⟨h1, _⟩ | ⟨_, h2, h3⟩
      · simp [Region.wanted, hgn] at h1
      · obtain ⟨v, hv, hy⟩ := bare_upon (ops := ops) hbare h3
        rw [hv] at h3
        refine wpAny_first hoi (fun j oj cs b hj => Region.noSelect_spec hsel j oj cs b hj) (fun c a w h => absurd h (hQp c _ w)) _ _ _ _ (fun j oj hj hji hju hno => ?_) hi hy (ih _ _ _ bl l (hcount i (by omega) hun) (hnext i oi d v w' him hoi hd hi (Ext.refl _) h3.2 (fun h => by rw [h2] at h; cases h)))
        rcases hap j oj hj hji with h | h | h
        · obtain ⟨o', ho', e, he, hb, hon⟩ := Region.waitsFor_spec h
          rw [hj] at ho'
          have := Option.some.inj ho'
          subst this
          exact absurd hon (hno e he hb)
        · obtain ⟨o', ho', e, he, hb, hon⟩ := Region.waitsFor_spec h
          obtain ⟨_, o2, ho2, hw2⟩ := mem_ready.1 hi
          rw [ho'] at ho2
          have := Option.some.inj ho2
          subst this
          have h1 := hw2 e he hb
          rw [hon, getD_both hju] at h1
          cases h1
        · exact h
    have hlow : ∀ i ∈ Region.ready .any ops listed, i < n := by
      intro i hi
      obtain ⟨hun, oi, hoi, _⟩ := mem_ready.1 hi
      have hlt' : i < ops.size := (Array.getElem?_eq_some_iff.1 hoi).1
      rcases Nat.lt_or_ge i n with h | h
      · exact h
      · exfalso
        simp only [Bool.or_eq_true, beq_iff_eq] at htail
        rcases htail with h' | h2
        · omega
        · obtain ⟨j, hj, hj2, hj3⟩ := hmin
          have hnl : lateB ops m n j = false := by
            cases hla : lateB ops m n j with
            | false => rfl
            | true => exact absurd ⟨j, hj3, by omega, hla⟩ hlt
          exact tail_waits2 (fun i hi hl => ((hop i hi).choose_spec.choose_spec.2.2.2.2.2 (by omega)).2 hl) h2 (by omega) inv.head _ j rfl hj hnl hj2 i h hi
    refine ⟨fun h => ?_, fun i hi => ?_⟩
    · obtain ⟨i, _, _, hi⟩ := hmin
      rw [h] at hi; cases hi
    · have hin := hlow i hi
      obtain ⟨hun, _, _, _⟩ := mem_ready.1 hi
      by_cases him : i < m
      · obtain ⟨oi, d, hoi, hd, hcase⟩ := hdo i hi him
        unfold wpOp
        simp only [hoi]
        rcases hcase with ⟨h1, h2, h3⟩ | ⟨h1, h2, h3⟩
        · simp only [h1, Bool.false_eq_true, if_false]
          exact ih _ _ _ bl l (hcount i hin hun) (hnext i oi d undef w' him hoi hd hi (Ext.refl _) (by rw [h3]; trivial) (fun _ => rfl))
        · simp only [h1, if_true]
          left
          unfold Oper.wp
          generalize (execOp a'.eval oi).run P w' = q at h3
          cases q with
          | halt x w2 => exact h3.elim
          | ok n w2 =>
            cases n with
            | value u => simp only [Oper.upon]; exact ih _ _ _ bl l (hcount i hin hun) (hnext i oi d u w2 him hoi hd hi h3.1 h3.2 (fun h => by rw [h2] at h; cases h))
            | enter f args =>
              obtain ⟨e1, hc⟩ := h3
              simp only [Oper.upon]
              rw [e1]
              exact hc.mono fun e w3 ⟨v, he, hx, hs⟩ => by
                subst he
                exact ih _ _ _ bl l (hcount i hin hun) (hnext i oi d v w3 him hoi hd hi hx hs (fun h => by rw [h2] at h; cases h))
            | _ => exact h3.elim
      · -- a new box
        obtain ⟨oi, d, hoi, e2, e3, e4, e5, _⟩ := hop i hin
        obtain ⟨oj, hoj, hN⟩ := hnew i (by omega) hin
        rw [hoi] at hoj
        have := Option.some.inj hoj
        subst this
        have head' := inv.head.set hi hin
        have hd : d = (inf i).1 := by have := hN.dst; rw [e2] at this; exact Option.some.inj this
        unfold wpOp
        simp only [hoi, Region.wanted, hN.guard, if_true]
        left
        unfold Oper.wp
        rw [hN.run a' w', Oper.upon_value]
        have hext := Ext.alloc w' (.cells (inf i).2.1 (inf i).2.2)
        have K := keep_outs (l' := (w'.heap.size :: l) ++ E.out) (inv.base hr) hext (fun b hb => by
          rcases List.mem_cons.1 hb with rfl | hb
          · exact .inr (Nat.le_refl _)
          · exact .inl hb)
        refine ih _ _ _ (fun j => if j = i then w'.heap.size else bl j) (w'.heap.size :: l) (hcount i hin hun) ?_
        have hput : ∀ t, t ≠ d → (a'.put oi.dst (.pointer (some ⟨w'.heap.size, 0, none⟩))).tmps[t]? = a'.tmps[t]? := fun t ht => put_other _ _ t (fun e => ht (by rw [e2] at e; exact Option.some.inj e))
        refine ⟨head', inv.ext.trans hext, (put_defers _ _).trans inv.dfr, (put_size _ _).trans inv.siz, fun t ht => ?_, fun j p t u hj hp hpt hlj hu => ?_, fun j p t u hj hp hpt hlj hsj hu => ?_, fun j h1 h2 hlj => ?_, fun j l h1 h2 h3 h4 h5 h6 h7 => ?_, ?_, fun b hb => ?_, fun j h1 h2 hlj => ?_⟩
        · rw [hput t (fun e => ht i oi hin hoi (by rw [e2, e]))]
          exact inv.oth t ht
        · have hji : j ≠ i := by omega
          rw [hput t (fun e => e4 j p (by omega) hji hp (by rw [hpt, e]))] at hu
          exact K.slot (inv.slt j p t u hj hp hpt (listed_set hlj hji) hu)
        · have hji : j ≠ i := by omega
          rw [hput t (fun e => e4 j p (by omega) hji hp (by rw [hpt, e]))] at hu
          exact inv.skp j p t u hj hp hpt (listed_set hlj hji) hsj hu
        · by_cases hji : j = i
          · subst hji
            simp only [if_true]
            refine ⟨fun b hb => ?_, inv.ext.size, by simp, heap_alloc_new w' _⟩
            rw [e2, ← hd]
            exact put_same (inv.siz.trans hb.symm)
          · simp only [if_neg hji]
            obtain ⟨n1, n2, n3, n4⟩ := inv.new j h1 h2 (listed_set hlj hji)
            obtain ⟨oj, hoj, hNj⟩ := hnew j h1 h2
            refine ⟨fun b hb => ?_, n2, Nat.lt_of_lt_of_le n3 hext.size, (hext.block _ n3).trans n4⟩
            rw [hput _ (fun e => e4 j oj h2 hji hoj (by rw [hNj.dst, e]))]
            exact n1 b hb
        · by_cases hji : j = i
          · by_cases hli : l = i
            · omega
            · simp only [hji, if_true, if_neg hli] at h7
              have := (inv.new l h3 h4 (listed_set h6 hli)).2.2.1
              omega
          · by_cases hli : l = i
            · simp only [hli, if_true, if_neg hji] at h7
              have := (inv.new j h1 h2 (listed_set h5 hji)).2.2.1
              omega
            · simp only [if_neg hji, if_neg hli] at h7
              exact inv.inj j l h1 h2 h3 h4 (listed_set h5 hji) (listed_set h6 hli) h7
        · refine List.nodup_cons.2 ⟨fun h => ?_, inv.lnd⟩
          have := (inv.lfr _ h).2
          omega
        · rcases List.mem_cons.1 hb with rfl | hb
          · exact ⟨inv.ext.size, by simp⟩
          · exact ⟨(inv.lfr b hb).1, Nat.lt_of_lt_of_le (inv.lfr b hb).2 hext.size⟩
        · by_cases hji : j = i
          · simp [hji]
          · simp only [if_neg hji]
            exact List.mem_cons_of_mem _ (inv.lmem j h1 h2 (listed_set hlj hji))
end
end Go.Proofs.Ytcdncdbghghnfaa.V
namespace Go.Proofs.Ytcdncdbghghnfaa.V
open Go
section
variable {P : Program} {X : Ctx} {E : Env} {σ : St} {A0 : Array Value} {a : Act} {w : World} {R : Type} {ops : Array Oper} {D : List Nat} {m n q : Nat} {inf : Nat → Tmp × Array Value × TypeId} {S : Nat → Slot} {sk : Nat → Bool} {ids : List Nat} {idf : Nat → Nat}
theorem poison_mem {b : Bx} (h : b ∈ (poison ids σ).bx) : (b.id ∈ ids ∧ b.x = ⟨.unit, (), []⟩ ∧ ∃ c ∈ σ.bx, c.id = b.id) ∨ (b ∈ σ.bx ∧ b.id ∉ ids) := by
  simp only [poison, List.mem_map] at h
  obtain ⟨c, hc, he⟩ := h
  cases hb : ids.contains c.id with
  | true =>
    rw [hb] at he
    simp only [cond_true] at he
    subst he
    exact .inl ⟨by simpa using hb, rfl, c, hc, rfl⟩
  | false =>
    rw [hb] at he
    simp only [cond_false] at he
    subst he
    exact .inr ⟨hc, by simpa using hb⟩
theorem mem_poison {c : Bx} (hc : c ∈ σ.bx) (hi : c.id ∈ ids) : ⟨c.id, ⟨.unit, (), []⟩⟩ ∈ (poison ids σ).bx := by
  simp only [poison, List.mem_map]
  exact ⟨c, hc, by simp [hi]⟩
theorem poison_ids : (poison ids σ).bx.map (·.id) = σ.bx.map (·.id) := by
  simp only [poison, List.map_map]
  apply List.map_congr_left
  intro b _
  simp only [Function.comp]
  cases ids.contains b.id <;> rfl
theorem owned_ids {σ1 σ2 : St} (h1 : σ1.bx.map (·.id) = σ2.bx.map (·.id)) (h2 : σ1.al = σ2.al) : owned E σ1 = owned E σ2 := by
  have h3 : ∀ l : List Bx, l.map (fun b => (E.ad b.id).1) = (l.map (·.id)).map (fun i => (E.ad i).1) := fun l => by simp
  simp only [owned, h3, h1, h2]
theorem fz_ids {σ1 σ2 : St} (h1 : σ1.bx.map (·.id) = σ2.bx.map (·.id)) (h2 : σ1.al = σ2.al) : Fz X E σ1 w = Fz X E σ2 w := by
  funext b
  simp only [Fz, owned_ids h1 h2]
/-- The same slots beside other boxes. -/
theorem keep_bx {σ1 σ2 : St} (h1 : σ2.bx.map (·.id) = σ1.bx.map (·.id)) (h2 : σ2.al = σ1.al) (h3 : σ2.fz = σ1.fz) (h4 : σ2.nt = σ1.nt) (hge : ∀ τ ∈ σ1.al, 2 ≤ τ ∧ τ ∉ σ1.fz) : Keep w w (Fz X E σ1 w) (Fz X E σ2 w) E E σ1 σ2 :=
  ⟨fun b hb => ⟨by rw [fz_ids h1 h2]; exact hb, rfl⟩, by rw [h4]; exact Nat.le_refl _, fun _ _ => rfl, fun _ _ => rfl, fun τ _ h => .inl (by rw [h3] at h; exact h), fun τ _ h => ⟨by rw [h2] at h; exact h, fun _ _ => rfl⟩, hge, fun _ h => ⟨h, rfl⟩⟩
theorem RelE.poison (hr : RelE X E σ A0 w) (ids : List Nat) : RelE X E (poison ids σ) A0 w := by
  have K : Keep w w (Fz X E σ w) (Fz X E (V.poison ids σ) w) E E σ (V.poison ids σ) := keep_bx poison_ids rfl rfl rfl hr.ge
  have ho : owned E (V.poison ids σ) = owned E σ := owned_ids poison_ids rfl
  refine { hr with
    slot := fun i s v hs hv => K.slot (hr.slot i s v hs hv)
    bx := fun b hb => ?_
    nodup := by rw [ho]; exact hr.nodup
    lt := fun b hb => hr.lt b (by rw [ho] at hb; exact hb)
    ids := by rw [poison_ids]; exact hr.ids
    idlt := fun b hb => ?_
    srcb := fun b hb => ?_
    pinlt := fun b hb => by rw [ho]; exact hr.pinlt b hb }
  · rcases poison_mem hb with ⟨_, h2, c, h3, h4⟩ | ⟨h1, _⟩
    · obtain ⟨cs, cc, e, _, _, k3, k4, _⟩ := hr.bx c h3
      rw [h4] at k3 k4
      refine ⟨[], cc, e, ?_, ?_, k3, by simp; omega, fun j v hv => by simp at hv⟩
      · rw [h2]; rfl
      · rw [h2]; rfl
    · exact K.bx (hr.bx b h1) (hr.idlt b h1) rfl
  · rcases poison_mem hb with ⟨_, _, c, h3, h4⟩ | ⟨h1, _⟩
    · rw [← h4]; exact hr.idlt c h3
    · exact hr.idlt b h1
  · rcases poison_mem hb with ⟨_, h2, c, h3, h4⟩ | ⟨h1, _⟩
    · have := hr.srcb c h3
      rw [h4] at this
      refine this.imp (fun ⟨s, h5, h6⟩ => ⟨s, ?_, h6⟩) id
      rw [h2]; exact Nat.zero_le _
    · exact hr.srcb b h1
/-- A box that isn't looked at is written. -/
theorem RelE.poke (hr : RelE X E σ A0 w) {id : Nat} (hmem : ⟨id, ⟨.unit, (), []⟩⟩ ∈ σ.bx) {cur : Array Value} {e : TypeId} {cs : List Value} (hb : w.heap[(E.ad id).1]? = some (.cells cur e (0, 0))) (hfit : (E.ad id).2 + cs.length ≤ cur.size)
    (hM : (∃ s, cs.length ≤ s ∧ (id, E.ad id, s) ∈ X.pbx) ∨ X.w0.heap.size ≤ (E.ad id).1) :
    RelE X E σ A0 (w.setRow (E.ad id).1 (splice cur (E.ad id).2 cs)) ∧ Keep w (w.setRow (E.ad id).1 (splice cur (E.ad id).2 cs)) (Fz X E σ w) (Fz X E σ (w.setRow (E.ad id).1 (splice cur (E.ad id).2 cs))) E E σ σ := by
  have hne : ∀ b, b ∈ σ.bx → b.id ≠ id → (E.ad b.id).1 ≠ (E.ad id).1 := by
    intro b hb' hbid he
    have hn := hr.nodup
    simp only [owned] at hn
    have hn1 := (List.nodup_append.1 hn).1
    have hinj := inj_of_nodup (f := fun b : Bx => (E.ad b.id).1) hn1 hb' hmem he
    exact hbid (by rw [hinj])
  have hal : ∀ τ ∈ σ.al, ∀ g, E.hd τ = some g → g ≠ (E.ad id).1 := by
    intro τ hτ g hg he
    have hn := hr.nodup
    simp only [owned] at hn
    exact (List.nodup_append.1 hn).2.2 _ (List.mem_map.2 ⟨_, hmem, rfl⟩) g (List.mem_append_left _ (List.mem_flatMap.2 ⟨τ, hτ, by simp [tokB, hg]⟩)) he.symm
  have hother : ∀ b, b ≠ (E.ad id).1 → (w.setRow (E.ad id).1 (splice cur (E.ad id).2 cs)).heap[b]? = w.heap[b]? := fun b hb' => setRow_other w _ b _ hb'
  have K : Keep w (w.setRow (E.ad id).1 (splice cur (E.ad id).2 cs)) (Fz X E σ w) (Fz X E σ (w.setRow (E.ad id).1 (splice cur (E.ad id).2 cs))) E E σ σ :=
    ⟨fun b hb' => ⟨⟨hb'.1, by simpa [World.setRow] using hb'.2.1, hb'.2.2⟩, hother b (fun he => hb'.2.2 (he ▸ mem_owned_bx hmem))⟩, Nat.le_refl _, fun _ _ => rfl, fun _ _ => rfl, fun _ _ h => .inl h, fun τ _ hτ => ⟨hτ, fun g hg => hother g (hal τ hτ g hg)⟩, hr.ge, fun b hb' => ⟨hb', hother b (fun he => (hr.pinlt b hb').2 (he ▸ mem_owned_bx hmem))⟩⟩
  refine ⟨{ hr with
    slot := fun i s u hs hu => K.slot (hr.slot i s u hs hu)
    bx := fun b hb' => ?_
    lt := fun b hb' => ⟨by simpa [World.setRow] using (hr.lt b hb').1, (hr.lt b hb').2⟩
    fr := hr.fr.setRow hb (splice_size hfit) (fun hlt o ho => ?_)
    pinlt := fun b hb' => ⟨by simpa [World.setRow] using (hr.pinlt b hb').1, (hr.pinlt b hb').2⟩ }, K⟩
  · by_cases hbi : b.id = id
    · obtain ⟨c1, c2, c3, h1, h2, h3, h4, h5⟩ := hr.bx b hb'
      have hx : b = ⟨id, ⟨.unit, (), []⟩⟩ := inj_of_nodup (f := fun b : Bx => b.id) hr.ids hb' hmem hbi
      subst hx
      refine ⟨[], _, e, rfl, rfl, setRow_heap w _ cur _ e _ hb, ?_, fun j v hv => by simp at hv⟩
      rw [splice_size hfit]
      simp only [List.length_nil]
      omega
    · exact K.bx (hr.bx b hb') (hr.idlt b hb') (hother _ (hne b hb' hbi))
  · rw [splice_get hfit]
    rcases hM with ⟨s, h0, h1⟩ | h1
    · split
      · rfl
      · split
        · exact absurd (hr.pbm _ h1 o (by dsimp only; omega) (by dsimp only; omega)) ho
        · rfl
    · omega
/-- A box that wasn't looked at is looked at again. -/
theorem RelE.fill (hr : RelE X E σ A0 w) {σ' : St} {id : Nat} {x : Val} {cs : List Value} {cur : Array Value} {e : TypeId} (h1 : σ'.bx.map (·.id) = σ.bx.map (·.id)) (h2 : σ'.al = σ.al) (h3 : σ'.fz = σ.fz) (h4 : σ'.nt = σ.nt) (h5 : σ'.ln = σ.ln) (h6 : σ'.fr = σ.fr)
    (hbx : ∀ b ∈ σ'.bx, b = ⟨id, x⟩ ∨ b ∈ σ.bx) (hid : id < σ.nt) (hv : Rv w (Fz X E σ w) E σ x.t x.v x.ms cs) (hms : x.ms.length = x.t.nl) (hb : w.heap[(E.ad id).1]? = some (.cells cur e (0, 0))) (hfit : (E.ad id).2 + cs.length ≤ cur.size) (hat : At w (E.ad id).1 (E.ad id).2 cs)
    (hM : (∃ s, x.t.size ≤ s ∧ (id, E.ad id, s) ∈ X.pbx) ∨ X.w0.heap.size ≤ (E.ad id).1) : RelE X E σ' A0 w := by
  have K : Keep w w (Fz X E σ w) (Fz X E σ' w) E E σ σ' := keep_bx h1 h2 h3 h4 hr.ge
  have ho : owned E σ' = owned E σ := owned_ids h1 h2
  exact { hr with
    len := by rw [h6]; exact hr.len
    slot := fun i s v hs hv => K.slot (hr.slot i s v (by rw [h6] at hs; exact hs) hv)
    bx := fun b hb' => by
      rcases hbx b hb' with rfl | hb'
      · exact ⟨cs, cur, e, K.rv hv, hms, hb, hfit, hat⟩
      · exact K.bx (hr.bx b hb') (hr.idlt b hb') rfl
    nodup := by rw [ho]; exact hr.nodup
    lt := fun b hb => hr.lt b (by rw [ho] at hb; exact hb)
    ids := by rw [h1]; exact hr.ids
    idlt := fun b hb' => by
      rw [h4]
      rcases hbx b hb' with rfl | hb'
      · exact hid
      · exact hr.idlt b hb'
    aln := by rw [h2]; exact hr.aln
    alr := fun τ hτ => by rw [h2] at hτ; rw [h3, h4]; exact hr.alr τ hτ
    fzr := fun τ hτ => by rw [h3] at hτ; rw [h4]; exact hr.fzr τ hτ
    nt2 := by rw [h4]; exact hr.nt2
    srct := fun τ hτ => hr.srct τ (by rw [h2] at hτ; exact hτ)
    srcb := fun b hb' => by
      rcases hbx b hb' with rfl | hb'
      · exact hM
      · exact hr.srcb b hb'
    lnr := fun p hp => hr.lnr p (by rw [h5] at hp; exact hp)
    lnlt := fun p hp => by rw [h5] at hp; rw [h4]; exact hr.lnlt p hp
    pinlt := fun b hb => by rw [ho]; exact hr.pinlt b hb
    adx := fun p hp => by rw [h4]; exact hr.adx p hp
    hdx := fun p hp => by rw [h4]; exact hr.hdx p hp }
/-- What is known of a store that may come early. -/
def StoreAt (T : Tabs) (σ σ1 : St) (D : List Nat) (o : Oper) (id : Nat) : Prop :=
  o.guard = none ∧ o.dst = none ∧ ∃ t p x tt r t' y v ms, o.op = .store t (.tmp p) x ∧ T.T t = some tt ∧ p ∉ D ∧ σ.fr[p]? = some (.ptr id r [] t') ∧ ⟨id, y⟩ ∈ σ.bx ∧ y.t = tt ∧ coe tt (opd σ1 x) = some (v, ms)
/-- What holds while such a region is drawn. -/
structure EInv (T : Tabs) (X : Ctx) (E : Env) (ops : Array Oper) (m n q : Nat) (inf : Nat → Tmp × Array Value × TypeId) (S : Nat → Slot) (sk : Nat → Bool) (σ : St) (ids : List Nat) (idf : Nat → Nat) (a : Act) (w : World) (bl : Nat → Nat) (l : List Nat) (listed : Array Bool) (a' : Act) (w' : World) : Prop where
  head : HeadInv .any ops q listed
  base : RelE X (E.outs (l ++ E.out)) (poison ids σ) a.tmps w'
  hsz : w.heap.size ≤ w'.heap.size
  dfr : a'.defers = a.defers
  siz : a'.tmps.size = a.tmps.size
  oth : ∀ t, (∀ i o, i < n → ops[i]? = some o → o.dst ≠ some t) → a'.tmps[t]? = a.tmps[t]?
  slt : ∀ i o d u, i < m → ops[i]? = some o → o.dst = some d → listed.getD i false = true → a'.tmps[d]? = some u → SlotOk w' (Fz X (E.outs (l ++ E.out)) (poison ids σ) w') (E.outs (l ++ E.out)) (poison ids σ) (S i) u
  skp : ∀ i o d u, i < m → ops[i]? = some o → o.dst = some d → listed.getD i false = true → sk i = true → a'.tmps[d]? = some u → u = undef
  new : ∀ i, m ≤ i → i < n → listed.getD i false = true → (∀ b : Act, b.tmps.size = a.tmps.size → a'.tmps[(inf i).1]? = (b.put (some (inf i).1) (.pointer (some ⟨bl i, 0, none⟩))).tmps[(inf i).1]?) ∧
    w.heap.size ≤ bl i ∧ bl i < w'.heap.size ∧ w'.heap[bl i]? = some (.cells (inf i).2.1 (inf i).2.2 (0, 0))
  inj : ∀ i j, m ≤ i → i < n → m ≤ j → j < n → listed.getD i false = true → listed.getD j false = true → bl i = bl j → i = j
  lfr : ∀ b ∈ l, w.heap.size ≤ b ∧ b < w'.heap.size
  lmem : ∀ i, m ≤ i → i < n → listed.getD i false = true → bl i ∈ l
  sto : ∀ i o t p x tt, n ≤ i → i < q → ops[i]? = some o → o.op = .store t (.tmp p) x → T.T t = some tt → ∃ cur e, w'.heap[(E.ad (idf i)).1]? = some (.cells cur e (0, 0)) ∧ (E.ad (idf i)).2 + tt.size ≤ cur.size ∧
    (listed.getD i false = true → ∀ (j : Nat) u, (a'.eval x).cells[j]? = some u → cur[(E.ad (idf i)).2 + j]? = some u)
theorem EInv.rel {T : Tabs} {bl : Nat → Nat} {l : List Nat} {listed : Array Bool} {a' : Act} {w' : World} (inv : EInv T X E ops m n q inf S sk σ ids idf a w bl l listed a' w') {σ2 : St} (hs : SameB (poison ids σ) σ2)
    (h : ∀ t s, σ2.fr[t]? = some s → s = .no ∨ ((∀ j p, j < n → ops[j]? = some p → p.dst ≠ some t) ∧ σ.fr[t]? = some s) ∨ ∃ j p, j < m ∧ ops[j]? = some p ∧ p.dst = some t ∧ listed.getD j false = true ∧ s = S j) : RelE X (E.outs (l ++ E.out)) σ2 a'.tmps w' := by
  refine inv.base.frames hs inv.siz (fun t s v h1 h2 => ?_)
  rcases h t s h1 with h3 | ⟨h3, h4⟩ | ⟨j, p, q1, q2, q3, q4, q5⟩
  · subst h3; trivial
  · rw [inv.oth t h3] at h2
    exact inv.base.slot t s v h4 h2
  · subst q5
    exact inv.slt j p t v q1 q2 q3 q4 h2
theorem early_any (T : Tabs) (hT : TabOk P T.T) {σ1 : St} {Q : Exit → Act → World → Prop} (hQp : ∀ c a w, ¬ Q (.panic c) a w) (hB : earlyB ops m n q = true) (H : HeadOk ops D m n) (hr : RelE X E σ a.tmps w) (hcert : ∀ i o, i < m → ops[i]? = some o → CertAt P X D ops S sk (poison ids σ) i o)
    (hw1 : Walk ops S (poison ids σ) σ1 m) (hst : ∀ i o, n ≤ i → i < q → ops[i]? = some o → StoreAt T σ σ1 D o (idf i) ∧ idf i ∈ ids) (hidf : ∀ i j, n ≤ i → i < q → n ≤ j → j < q → idf i = idf j → i = j)
    (hnew : ∀ i, m ≤ i → i < n → ∃ o, ops[i]? = some o ∧ NewAt P o (inf i).1 (inf i).2.1 (inf i).2.2)
    (hQ : ∀ (a' : Act) (w' : World) (bl : Nat → Nat) (l : List Nat) (listed : Array Bool), (∀ i, i < q → listed.getD i false = true) → EInv T X E ops m n q inf S sk σ ids idf a w bl l listed a' w' → wpOps P ops Q (List.range' q (ops.size - q)) a' w') :
    ∀ (k : Nat) (listed : Array Bool) (a' : Act) (w' : World) (bl : Nat → Nat) (l : List Nat), (List.range q).countP (fun i => !listed.getD i true) = k → EInv T X E ops m n q inf S sk σ ids idf a w bl l listed a' w' → wpAny P .any ops Q (k + (ops.size - q)) listed a' w' := by
  simp only [earlyB, Bool.and_eq_true, decide_eq_true_eq, List.all_eq_true, List.mem_range] at hB
  obtain ⟨⟨⟨⟨⟨⟨hsel, hmn⟩, hnq⟩, hns⟩, hops⟩, htail⟩, hseq⟩ := hB
  have hop : ∀ i, i < q → ∃ o, ops[i]? = some o ∧ (∀ e ∈ o.after, Region.binds .any e = true → e.on < i) ∧ (i < n → ∃ d, o.dst = some d ∧ ∀ j p, j < n → j ≠ i → ops[j]? = some p → p.dst ≠ some d) ∧
      ((i < m ∨ n ≤ i) → ∀ j p t, j < n → ops[j]? = some p → p.dst = some t → t ∈ o.looksAt ops → j < m ∧ j < i ∧ Region.waitsFor .any ops i j = true) ∧
      (q < ops.size → (lateB ops m q i = true → bareOp o = true ∧ ∀ j p, ops[j]? = some p → j ≠ i → Region.waitsFor .any ops j i = true ∨ Region.waitsFor .any ops i j = true ∨ o.apart ops p = true) ∧
        (lateB ops m q i = false → ∃ j, j ≤ q ∧ i < j ∧ Region.waitsFor .any ops j i = true ∧ (j = q ∨ lateB ops m q j = false))) := by
    intro i hi
    have h := hops i hi
    cases ho : ops[i]? with
    | none => rw [ho] at h; simp at h
    | some o =>
      rw [ho] at h
      simp only [Bool.and_eq_true, List.all_eq_true, List.mem_range] at h
      obtain ⟨⟨⟨h2, h13⟩, h4⟩, h5⟩ := h
      refine ⟨o, rfl, fun e he hb => ?_, fun hin => ?_, fun him j p t hj hp ht hl => ?_, fun hlt => ?_⟩
      · have := Array.all_eq_true_iff_forall_mem.1 h2 e he
        simp only [hb, Bool.not_true, Bool.false_or, decide_eq_true_eq] at this
        exact this
      · simp only [Bool.or_eq_true, decide_eq_true_eq, Bool.and_eq_true, List.all_eq_true, List.mem_range] at h13
        rcases h13 with h | ⟨h1, h3⟩
        · omega
        · cases hd : o.dst with
          | none => rw [hd] at h1; simp at h1
          | some d =>
            refine ⟨d, rfl, fun j p hj hne hp he => ?_⟩
            have := h3 j hj
            rw [hp] at this
            simp only [beq_iff_eq, Bool.not_eq_true', beq_eq_false_iff_ne, ne_eq] at this
            rcases this with h | h
            · exact hne h
            · exact h (he.trans hd.symm)
      · simp only [Bool.or_eq_true, Bool.and_eq_true, decide_eq_true_eq, List.all_eq_true, List.mem_range] at h4
        rcases h4 with h | h
        · omega
        · have := h j hj
          rw [hp] at this
          simp only [Option.bind_some, ht, Bool.or_eq_true, Bool.not_eq_true', Bool.and_eq_true, decide_eq_true_eq] at this
          rcases this with h | h
          · simp [List.contains_iff_mem, hl] at h
          · exact ⟨h.1.1, h.1.2, h.2⟩
      · have h6 : (bif lateB ops m q i then bareOp o && (List.range ops.size).all (fun j => j == i || Region.waitsFor .any ops j i || Region.waitsFor .any ops i j || (match ops[j]? with | some p => o.apart ops p | none => true))
            else (List.range (q + 1)).any (fun j => decide (i < j) && Region.waitsFor .any ops j i && (j == q || !lateB ops m q j))) = true := by
          rcases Bool.or_eq_true _ _ ▸ h5 with h | h
          · have : q = ops.size := by simpa using h
            omega
          · exact h
        refine ⟨fun hla => ?_, fun hla => ?_⟩
        · rw [hla] at h6
          simp only [cond_true, Bool.and_eq_true, List.all_eq_true, List.mem_range] at h6
          refine ⟨h6.1, fun j p hp hne => ?_⟩
          have := h6.2 j (Array.getElem?_eq_some_iff.1 hp).1
          rw [hp] at this
          simp only [Bool.or_eq_true, beq_iff_eq] at this
          rcases this with ((h | h) | h) | h
          · exact absurd h hne
          · exact .inl h
          · exact .inr (.inl h)
          · exact .inr (.inr h)
        · rw [hla] at h6
          simp only [cond_false, List.any_eq_true, List.mem_range, Bool.and_eq_true, decide_eq_true_eq, Bool.or_eq_true, beq_iff_eq, Bool.not_eq_true'] at h6
          obtain ⟨j, h7, ⟨h8, h9⟩, h10⟩ := h6
          exact ⟨j, by omega, h8, h9, h10⟩
  have hdD : ∀ t, t ∉ D → ∀ i o, i < n → ops[i]? = some o → o.dst ≠ some t := fun t ht i o hi ho he => ht ((H.mem t).2 ⟨i, o, hi, ho, he⟩)
  intro k
  induction k with
  | zero =>
    intro listed a' w' bl l hk inv
    have hall : ∀ i, i < q → listed.getD i false = true := by
      intro i hi
      refine listed_of_not (by rw [inv.head.size]; omega) (fun h => ?_)
      have := List.countP_eq_zero.1 hk i (List.mem_range.2 hi)
      simp [h] at this
    have hl : listed = (List.range q).foldl (fun l i => l.setIfInBounds i true) (Array.replicate ops.size false) := by
      obtain ⟨s1, _, _⟩ := fold_listed q 0 (Array.replicate ops.size false)
      apply Array.ext_getElem?
      intro i
      obtain ⟨_, s2, s3⟩ := fold_listed q i (Array.replicate ops.size false)
      by_cases hi : i < q
      · rw [s2 hi (by simp; omega)]
        have := hall i hi
        have hlt : i < listed.size := by rw [inv.head.size]; omega
        simpa [Array.getD_eq_getD_getElem?, Array.getElem?_eq_getElem hlt] using this
      · rw [s3 (by omega)]
        by_cases hs : i < ops.size
        · have := inv.head.tail i (by omega) hs
          have hlt : i < listed.size := by rw [inv.head.size]; omega
          simp [Array.getD_eq_getD_getElem?, Array.getElem?_eq_getElem hlt] at this
          rw [Array.getElem?_eq_getElem hlt, this]
          simp [hs]
        · rw [Array.getElem?_eq_none (by rw [inv.head.size]; omega), Array.getElem?_eq_none (by simp; omega)]
    rw [Nat.zero_add]
    exact any_of_seq _ _ _ _ _ (by rw [hl]; exact hseq) (hQ a' w' bl l listed hall inv)
  | succ k ih =>
    intro listed a' w' bl l hk inv
    rw [show k + 1 + (ops.size - q) = (k + (ops.size - q)) + 1 by omega]
    have hex : ∃ i, i < q ∧ listed.getD i true = false := by
      obtain ⟨i, hi, h⟩ := List.countP_pos_iff.1 (show 0 < (List.range q).countP (fun i => !listed.getD i true) by omega)
      exact ⟨i, List.mem_range.1 hi, by simpa using h⟩
    have hmin : ∃ i, i < q ∧ listed.getD i true = false ∧ i ∈ Region.ready .any ops listed := by
      obtain ⟨i, hi, h⟩ := hex
      induction i using Nat.strongRecOn with
      | _ i ihi =>
        by_cases hlow : ∃ j, j < i ∧ listed.getD j true = false
        · obtain ⟨j, hj, hj2⟩ := hlow
          exact ihi j hj (by omega) hj2
        · obtain ⟨o, e1, e3, _⟩ := hop i hi
          refine ⟨i, hi, h, mem_ready.2 ⟨h, o, e1, fun e he hb => ?_⟩⟩
          have hlt := e3 e he hb
          exact listed_of_not (by rw [inv.head.size]; omega) (fun hn => hlow ⟨e.on, hlt, hn⟩)
    have hcount : ∀ i, i < q → listed.getD i true = false → (List.range q).countP (fun j => !(listed.setIfInBounds i true).getD j true) = k := by
      intro i hin hun
      have := countP_one (f := fun j => !listed.getD j true) (g := fun j => !(listed.setIfInBounds i true).getD j true) (i := i) (List.nodup_range) (List.mem_range.2 hin) (by simp only [hun]; rfl)
        (by
          have hlt : i < listed.size := by rw [inv.head.size]; omega
          simp [Array.getD_eq_getD_getElem?, hlt])
        (fun j _ hj => by
          have := getD_set_ne (listed := listed) true (Ne.symm hj)
          simp only [this])
      omega
    -- what is looked at is there
    have hlist : ∀ i oi, i ∈ Region.ready .any ops listed → ops[i]? = some oi → i < q → (i < m ∨ n ≤ i) → ∀ j p t, j < n → ops[j]? = some p → p.dst = some t → t ∈ oi.looksAt ops → j < m ∧ listed.getD j false = true := by
      intro i oi hi hoi hiq him j p t hj hp hpt ht
      obtain ⟨hun, o', ho', hwait⟩ := mem_ready.1 hi
      rw [hoi] at ho'
      have := Option.some.inj ho'
      subst this
      obtain ⟨o2, e1, _, _, e5, _⟩ := hop i hiq
      rw [hoi] at e1
      have := Option.some.inj e1
      subst this
      obtain ⟨hjm, _, hw⟩ := e5 him j p t hj hp hpt ht
      obtain ⟨o2, ho2, e, he, hb, hon⟩ := Region.waitsFor_spec hw
      rw [hoi] at ho2
      have := Option.some.inj ho2
      subst this
      have := hwait e he hb
      rw [hon] at this
      exact ⟨hjm, this⟩
    -- a store that is done looks at what doesn't turn any more
    have hkeep : ∀ i oi t p x, n ≤ i → i < q → ops[i]? = some oi → oi.op = .store t (.tmp p) x → listed.getD i false = true → ∀ j pj d v, j < n → ops[j]? = some pj → pj.dst = some d → listed.getD j true = false → (a'.put (some d) v).eval x = a'.eval x := by
      intro i oi t p x hni hiq hoi hop' hli j pj d v hj hpj hpd hun
      cases x with
      | tmp u =>
        by_cases hu : u = d
        · exfalso
          subst hu
          obtain ⟨o2, e1, _, _, e5, _⟩ := hop i hiq
          rw [hoi] at e1
          have := Option.some.inj e1
          subst this
          obtain ⟨_, _, hw⟩ := e5 (.inr hni) j pj u hj hpj hpd (List.mem_append_left _ (List.mem_filterMap.2 ⟨.tmp u, by rw [hop']; simp [Op.operands], rfl⟩))
          obtain ⟨o2, ho2, e, he, hb, hon⟩ := Region.waitsFor_spec hw
          have h2 := inv.head.closed i o2 ho2 hli e he hb
          rw [hon, getD_both hun] at h2
          cases h2
        · show (a'.put (some d) v).tmps.getD u undef = a'.tmps.getD u undef
          rw [Array.getD_eq_getD_getElem?, Array.getD_eq_getD_getElem?, put_other _ _ u (fun e => hu (Option.some.inj e))]
      | _ => rfl
    -- one more is done
    have hnext : ∀ i oi d v w2, i < m → ops[i]? = some oi → oi.dst = some d → i ∈ Region.ready .any ops listed → Ext w' w2 → SlotOk w2 (Fz X (E.outs (l ++ E.out)) (poison ids σ) w2) (E.outs (l ++ E.out)) (poison ids σ) (S i) v → (sk i = true → v = undef) → EInv T X E ops m n q inf S sk σ ids idf a w bl l (listed.setIfInBounds i true) (a'.put oi.dst v) w2 := by
      intro i oi d v w2 him hoi hd hi hw2 hv hs
      have hin : i < n := by have := H.le; omega
      have hun := (mem_ready.1 hi).1
      obtain ⟨o', e1, _, e24, _, _⟩ := hop i (by omega)
      rw [hoi] at e1
      have := Option.some.inj e1
      subst this
      obtain ⟨d', e2, e4⟩ := e24 hin
      rw [hd] at e2
      have := Option.some.inj e2
      subst this
      have head' := inv.head.set hi (by omega)
      have K := inv.base.keepExt hw2
      have hput : ∀ t, t ≠ d → (a'.put oi.dst v).tmps[t]? = a'.tmps[t]? := fun t ht => put_other _ _ t (fun e => ht (by rw [hd] at e; exact Option.some.inj e))
      have hself : ∀ u, (a'.put oi.dst v).tmps[d]? = some u → u = v := by
        intro u hu
        rw [hd] at hu
        simp only [Act.put] at hu
        by_cases hlt : d < a'.tmps.size
        · rw [Array.getElem?_setIfInBounds_self_of_lt hlt] at hu; exact (Option.some.inj hu).symm
        · rw [Array.getElem?_eq_none (by rw [Array.size_setIfInBounds]; exact Nat.le_of_not_lt hlt)] at hu; cases hu
      refine ⟨head', inv.base.ext hw2, Nat.le_trans inv.hsz hw2.size, (put_defers _ _).trans inv.dfr, (put_size _ _).trans inv.siz, fun t ht => ?_, fun j p t u hj hp hpt hlj hu => ?_, fun j p t u hj hp hpt hlj hsj hu => ?_, fun j h1 h2 hlj => ?_, fun j l h1 h2 h3 h4 h5 h6 => ?_, fun b hb => ⟨(inv.lfr b hb).1, Nat.lt_of_lt_of_le (inv.lfr b hb).2 hw2.size⟩, fun j h1 h2 hlj => inv.lmem j h1 h2 (listed_set hlj (by omega)), fun j oj t p x tt h1 h2 hoj hop' hTt => ?_⟩
      · rw [hput t (fun e => ht i oi hin hoi (by rw [hd, e]))]
        exact inv.oth t ht
      · by_cases hji : j = i
        · subst hji
          rw [hoi] at hp
          have := Option.some.inj hp
          subst this
          rw [hd] at hpt
          have := Option.some.inj hpt
          subst this
          rw [hself u hu]; exact hv
        · rw [hput t (fun e => e4 j p (by omega) hji hp (by rw [hpt, e]))] at hu
          exact K.slot (inv.slt j p t u hj hp hpt (listed_set hlj hji) hu)
      · by_cases hji : j = i
        · subst hji
          rw [hoi] at hp
          have := Option.some.inj hp
          subst this
          rw [hd] at hpt
          have := Option.some.inj hpt
          subst this
          rw [hself u hu]; exact hs hsj
        · rw [hput t (fun e => e4 j p (by omega) hji hp (by rw [hpt, e]))] at hu
          exact inv.skp j p t u hj hp hpt (listed_set hlj hji) hsj hu
      · have hji : j ≠ i := by omega
        obtain ⟨n1, n2, n3, n4⟩ := inv.new j h1 h2 (listed_set hlj hji)
        obtain ⟨oj, hoj, hN⟩ := hnew j h1 h2
        refine ⟨fun b hb => ?_, n2, Nat.lt_of_lt_of_le n3 hw2.size, (hw2.block _ n3).trans n4⟩
        rw [hput _ (fun e => e4 j oj h2 hji hoj (by rw [hN.dst, e]))]
        exact n1 b hb
      · exact inv.inj j l h1 h2 h3 h4 (listed_set h5 (by omega)) (listed_set h6 (by omega))
      · obtain ⟨cur, e, s1, s2, s3⟩ := inv.sto j oj t p x tt h1 h2 hoj hop' hTt
        have hlt : (E.ad (idf j)).1 < w'.heap.size := (Array.getElem?_eq_some_iff.1 s1).1
        refine ⟨cur, e, (hw2.block _ hlt).trans s1, s2, fun hlj => ?_⟩
        have hlj' := listed_set hlj (show j ≠ i by omega)
        rw [hd, hkeep j oj t p x h1 h2 hoj hop' hlj' i oi d v hin hoi hd hun]
        exact s3 hlj'
    -- what one operation of the head does here
    have hdo : ∀ i, i ∈ Region.ready .any ops listed → i < m → ∃ oi d, ops[i]? = some oi ∧ oi.dst = some d ∧ ((Region.wanted oi (yielded ops a'.tmps) = false ∧ sk i = true ∧ S i = .no) ∨ (Region.wanted oi (yielded ops a'.tmps) = true ∧ sk i = false ∧ slotUpon P X (E.outs (l ++ E.out)) (poison ids σ) w' (S i) ((execOp a'.eval oi).run P w'))) := by
      intro i hi hin
      have hle := H.le
      obtain ⟨oi, hoi, e3, e24, e5, _⟩ := hop i (by omega)
      obtain ⟨d, hd, e4⟩ := e24 (by omega)
      refine ⟨oi, d, hoi, hd, ?_⟩
      have hlist' : ∀ j p t, j < n → ops[j]? = some p → p.dst = some t → t ∈ oi.looksAt ops → listed.getD j false = true := fun j p t hj hp hpt ht => (hlist i oi hi hoi (by omega) (.inl hin) j p t hj hp hpt ht).2
      have hguard : ∀ j w, oi.guard = some (j, w) → j < i → ∀ c, dstOf ops j = some c → ∃ pj, ops[j]? = some pj ∧ pj.dst = some c ∧ listed.getD j false = true := by
        intro j w hg hji c hc
        have hc' := hc
        unfold dstOf at hc'
        cases hp : ops[j]? with
        | none => rw [hp] at hc'; cases hc'
        | some pj =>
          rw [hp] at hc'
          refine ⟨pj, rfl, hc', hlist' j pj c (by omega) hp hc' ?_⟩
          refine List.mem_append_right _ ?_
          rw [hg]
          simp only [hp, Option.bind_some]
          rw [show pj.dst = some c from hc']
          simp
      have hyes : ∀ j w v, oi.guard = some (j, w) → Guards ops S sk (poison ids σ).fr.length i j v → yielded ops a'.tmps j = some v := by
        intro j w v hg hG
        obtain ⟨h1, h2, c, h3, h4, ms, hm', h5⟩ := hG
        obtain ⟨pj, q1, q2, q3⟩ := hguard j w hg h1 c h3
        have hlt : c < a'.tmps.size := by rw [inv.siz, ← hr.len]; exact h4
        have hs := inv.slt j pj c _ (by omega) q1 q2 q3 (Array.getElem?_eq_getElem hlt)
        rw [h5] at hs
        rw [yielded_dst h3, Array.getElem?_eq_getElem hlt, val_bool hs]
      rcases hcert i oi hin hoi with ⟨h1, h2, j, w, h3, h4, h5⟩ | ⟨h1, h2, σs, h3, h4⟩
      · refine .inl ⟨?_, h1, h2⟩
        unfold Region.wanted
        rw [h3]
        rcases h5 with h5 | ⟨v, h5, h6⟩
        · have : yielded ops a'.tmps j = none := by
            cases hc : dstOf ops j with
            | none => exact yielded_none hc
            | some c =>
              obtain ⟨pj, q1, q2, q3⟩ := hguard j w h3 h4 c hc
              rw [yielded_dst hc]
              cases hz : a'.tmps[c]? with
              | none => rfl
              | some u => rw [inv.skp j pj c u (by omega) q1 q2 q3 h5 hz]; rfl
          simp [this]
        · have := hyes j w v h3 h6
          simp [this, h5]
      · refine .inr ⟨?_, h1, ?_⟩
        · unfold Region.wanted
          cases hg : oi.guard with
          | none => rfl
          | some z =>
            obtain ⟨j, w⟩ := z
            have := hyes j w w hg (h2 j w hg)
            simp [this]
        · refine upon_same h3.same inv.base.ge (h4 _ a' w' (inv.rel h3.same fun t s ht => ?_))
          rcases h3.slot t s ht with q1 | ⟨q1, q2⟩ | ⟨j, p, q1, q2, q3, q4, q5⟩
          · exact .inl q1
          · exact .inr (.inl ⟨hdD t q1, q2⟩)
          · exact .inr (.inr ⟨j, p, by omega, q2, q3, hlist' j p t (by omega) q2 q3 q4, q5⟩)
    -- one that is late is taken first
    by_cases hlt : ∃ i, i ∈ Region.ready .any ops listed ∧ q < ops.size ∧ lateB ops m q i = true
    · obtain ⟨i, hi, hns', hla⟩ := hlt
      have him : i < m := by simp only [lateB, Bool.and_eq_true, decide_eq_true_eq] at hla; exact hla.1
      obtain ⟨hun, _, _, hwait⟩ := mem_ready.1 hi
      obtain ⟨oi, d, hoi, hd, hcase⟩ := hdo i hi him
      have hle := H.le
      obtain ⟨o, e1, e3, _, _, e6⟩ := hop i (by omega)
      rw [hoi] at e1
      have := Option.some.inj e1
      subst this
      obtain ⟨hbare, hap⟩ := (e6 hns').1 hla
      have hgn : oi.guard = none := by simp only [bareOp, Bool.and_eq_true] at hbare; simpa using hbare.1
      rcases hcase with ⟨h1, _⟩ | ⟨_, h2, h3⟩
      · simp [Region.wanted, hgn] at h1
      · obtain ⟨v, hv, hy⟩ := bare_upon (ops := ops) hbare h3
        rw [hv] at h3
        refine wpAny_first hoi (fun j oj cs b hj => Region.noSelect_spec hsel j oj cs b hj) (fun c a w h => absurd h (hQp c _ w)) _ _ _ _ (fun j oj hj hji hju hno => ?_) hi hy (ih _ _ _ bl l (hcount i (by omega) hun) (hnext i oi d v w' him hoi hd hi (Ext.refl _) h3.2 (fun h => by rw [h2] at h; cases h)))
        rcases hap j oj hj hji with h | h | h
        · obtain ⟨o', ho', e, he, hb, hon⟩ := Region.waitsFor_spec h
          rw [hj] at ho'
          have := Option.some.inj ho'
          subst this
          exact absurd hon (hno e he hb)
        · obtain ⟨o', ho', e, he, hb, hon⟩ := Region.waitsFor_spec h
          obtain ⟨_, o2, ho2, hw2⟩ := mem_ready.1 hi
          rw [ho'] at ho2
          have := Option.some.inj ho2
          subst this
          have h1 := hw2 e he hb
          rw [hon, getD_both hju] at h1
          cases h1
        · exact h
    have hlow : ∀ i ∈ Region.ready .any ops listed, i < q := by
      intro i hi
      obtain ⟨hun, oi, hoi, _⟩ := mem_ready.1 hi
      have hlt' : i < ops.size := (Array.getElem?_eq_some_iff.1 hoi).1
      rcases Nat.lt_or_ge i q with h | h
      · exact h
      · exfalso
        simp only [Bool.or_eq_true, beq_iff_eq] at htail
        rcases htail with h' | h2
        · omega
        · obtain ⟨j, hj, hj2, hj3⟩ := hmin
          have hnl : lateB ops m q j = false := by
            cases hla : lateB ops m q j with
            | false => rfl
            | true => exact absurd ⟨j, hj3, by omega, hla⟩ hlt
          exact tail_waits2 (fun i hi hl => ((hop i hi).choose_spec.2.2.2.2 (by omega)).2 hl) h2 (by omega) inv.head _ j rfl hj hnl hj2 i h hi
    refine ⟨fun h => ?_, fun i hi => ?_⟩
    · obtain ⟨i, _, _, hi⟩ := hmin
      rw [h] at hi; cases hi
    · have hiq := hlow i hi
      obtain ⟨hun, _, _, _⟩ := mem_ready.1 hi
      by_cases him : i < m
      · obtain ⟨oi, d, hoi, hd, hcase⟩ := hdo i hi him
        unfold wpOp
        simp only [hoi]
        rcases hcase with ⟨h1, h2, h3⟩ | ⟨h1, h2, h3⟩
        · simp only [h1, Bool.false_eq_true, if_false]
          exact ih _ _ _ bl l (hcount i hiq hun) (hnext i oi d undef w' him hoi hd hi (Ext.refl _) (by rw [h3]; trivial) (fun _ => rfl))
        · simp only [h1, if_true]
          left
          unfold Oper.wp
          generalize (execOp a'.eval oi).run P w' = r at h3
          cases r with
          | halt x w2 => exact h3.elim
          | ok nx w2 =>
            cases nx with
            | value u => simp only [Oper.upon]; exact ih _ _ _ bl l (hcount i hiq hun) (hnext i oi d u w2 him hoi hd hi h3.1 h3.2 (fun h => by rw [h2] at h; cases h))
            | enter f args =>
              obtain ⟨e1, hc⟩ := h3
              simp only [Oper.upon]
              rw [e1]
              exact hc.mono fun e w3 ⟨v, he, hx, hs⟩ => by
                subst he
                exact ih _ _ _ bl l (hcount i hiq hun) (hnext i oi d v w3 him hoi hd hi hx hs (fun h => by rw [h2] at h; cases h))
            | _ => exact h3.elim
      · by_cases hin : i < n
        · -- a new box
          obtain ⟨oi, hoi, e3, e24, e5, _⟩ := hop i hiq
          obtain ⟨d, e2, e4⟩ := e24 hin
          obtain ⟨oj, hoj, hN⟩ := hnew i (by omega) hin
          rw [hoi] at hoj
          have := Option.some.inj hoj
          subst this
          have head' := inv.head.set hi hiq
          have hd : d = (inf i).1 := by have := hN.dst; rw [e2] at this; exact Option.some.inj this
          unfold wpOp
          simp only [hoi, Region.wanted, hN.guard, if_true]
          left
          unfold Oper.wp
          rw [hN.run a' w', Oper.upon_value]
          have hext := Ext.alloc w' (.cells (inf i).2.1 (inf i).2.2)
          have K := keep_outs (l' := (w'.heap.size :: l) ++ E.out) inv.base hext (fun b hb => by
            rcases List.mem_cons.1 hb with rfl | hb
            · exact .inr (Nat.le_refl _)
            · exact .inl hb)
          have hnd : (l ++ E.out).Nodup := by
            have := inv.base.nodup
            simp only [owned] at this
            exact (List.nodup_append.1 (List.nodup_append.1 this).2.1).2.1
          have hltE : ∀ b ∈ l ++ E.out, b < w'.heap.size := fun b hb => (inv.base.lt b (mem_out inv.base hb)).1
          have hbase : RelE X (E.outs ((w'.heap.size :: l) ++ E.out)) (poison ids σ) a.tmps (w'.alloc (.cells (inf i).2.1 (inf i).2.2)) :=
            (inv.base.world (w1 := w'.alloc (.cells (inf i).2.1 (inf i).2.2)) (l := (w'.heap.size :: l) ++ E.out) (fun b hb _ => hext.block b hb) (inv.base.fr.ext hext) hext.size (by
              rw [List.cons_append]
              exact List.nodup_cons.2 ⟨fun h => by have := hltE _ h; omega, hnd⟩) (fun b hb => by
              rw [List.cons_append] at hb
              rcases List.mem_cons.1 hb with rfl | hb
              · exact ⟨.inr (Nat.le_refl _), by simp⟩
              · exact ⟨.inl hb, Nat.lt_of_lt_of_le (hltE b hb) hext.size⟩)).1
          refine ih _ _ _ (fun j => if j = i then w'.heap.size else bl j) (w'.heap.size :: l) (hcount i hiq hun) ?_
          have hput : ∀ t, t ≠ d → (a'.put oi.dst (.pointer (some ⟨w'.heap.size, 0, none⟩))).tmps[t]? = a'.tmps[t]? := fun t ht => put_other _ _ t (fun e => ht (by rw [e2] at e; exact Option.some.inj e))
          refine ⟨head', hbase, Nat.le_trans inv.hsz hext.size, (put_defers _ _).trans inv.dfr, (put_size _ _).trans inv.siz, fun t ht => ?_, fun j p t u hj hp hpt hlj hu => ?_, fun j p t u hj hp hpt hlj hsj hu => ?_, fun j h1 h2 hlj => ?_, fun j l h1 h2 h3 h4 h5 h6 h7 => ?_, fun b hb => ?_, fun j h1 h2 hlj => ?_, fun j oj t p x tt h1 h2 hoj hop' hTt => ?_⟩
          · rw [hput t (fun e => ht i oi hin hoi (by rw [e2, e]))]
            exact inv.oth t ht
          · have hji : j ≠ i := by omega
            rw [hput t (fun e => e4 j p (by omega) hji hp (by rw [hpt, e]))] at hu
            exact K.slot (inv.slt j p t u hj hp hpt (listed_set hlj hji) hu)
          · have hji : j ≠ i := by omega
            rw [hput t (fun e => e4 j p (by omega) hji hp (by rw [hpt, e]))] at hu
            exact inv.skp j p t u hj hp hpt (listed_set hlj hji) hsj hu
          · by_cases hji : j = i
            · subst hji
              simp only [if_true]
              refine ⟨fun b hb => ?_, inv.hsz, by simp, heap_alloc_new w' _⟩
              rw [e2, ← hd]
              exact put_same (inv.siz.trans hb.symm)
            · simp only [if_neg hji]
              obtain ⟨n1, n2, n3, n4⟩ := inv.new j h1 h2 (listed_set hlj hji)
              obtain ⟨oj, hoj, hNj⟩ := hnew j h1 h2
              refine ⟨fun b hb => ?_, n2, Nat.lt_of_lt_of_le n3 hext.size, (hext.block _ n3).trans n4⟩
              rw [hput _ (fun e => e4 j oj h2 hji hoj (by rw [hNj.dst, e]))]
              exact n1 b hb
          · by_cases hji : j = i
            · by_cases hli : l = i
              · omega
              · simp only [hji, if_true, if_neg hli] at h7
                have := (inv.new l h3 h4 (listed_set h6 hli)).2.2.1
                omega
            · by_cases hli : l = i
              · simp only [hli, if_true, if_neg hji] at h7
                have := (inv.new j h1 h2 (listed_set h5 hji)).2.2.1
                omega
              · simp only [if_neg hji, if_neg hli] at h7
                exact inv.inj j l h1 h2 h3 h4 (listed_set h5 hji) (listed_set h6 hli) h7
          · rcases List.mem_cons.1 hb with rfl | hb
            · exact ⟨inv.hsz, by simp⟩
            · exact ⟨(inv.lfr b hb).1, Nat.lt_of_lt_of_le (inv.lfr b hb).2 hext.size⟩
          · by_cases hji : j = i
            · simp [hji]
            · simp only [if_neg hji]
              exact List.mem_cons_of_mem _ (inv.lmem j h1 h2 (listed_set hlj hji))
          · obtain ⟨cur, e, s1, s2, s3⟩ := inv.sto j oj t p x tt h1 h2 hoj hop' hTt
            have hlt : (E.ad (idf j)).1 < w'.heap.size := (Array.getElem?_eq_some_iff.1 s1).1
            refine ⟨cur, e, (hext.block _ hlt).trans s1, s2, fun hlj => ?_⟩
            have hlj' := listed_set hlj (show j ≠ i by omega)
            rw [e2, hkeep j oj t p x h1 h2 hoj hop' hlj' i oi d _ hin hoi e2 hun]
            exact s3 hlj'
        · -- a store
          obtain ⟨oi, hoi, e3, _, e5, _⟩ := hop i hiq
          have hni : n ≤ i := by omega
          obtain ⟨⟨hg, hdn, t, p, x, tt, r, t', y, v, ms, hop', hTt, hpD, hptr, hy, hyt, hco⟩, hidm⟩ := hst i oi hni hiq hoi
          have head' := inv.head.set hi hiq
          obtain ⟨cur, e, s1, s2, _⟩ := inv.sto i oi t p x tt hni hiq hoi hop' hTt
          obtain ⟨tn, htt⟩ := hT.ty t _ hTt
          -- the pointer
          have hlp : p < a.tmps.size := by rw [← hr.len]; exact (List.getElem?_eq_some_iff.1 hptr).1
          have hpe : a'.eval (.tmp p) = .pointer (some ⟨(E.ad (idf i)).1, (E.ad (idf i)).2, none⟩) := by
            show a'.tmps.getD p undef = _
            rw [Array.getD_eq_getD_getElem?, inv.oth p (hdD p hpD), Array.getElem?_eq_getElem hlp]
            obtain ⟨_, b, o', h1, h2⟩ := hr.slot p _ _ hptr (Array.getElem?_eq_getElem hlp)
            rw [Option.getD_some, h1]
            cases hr' : r <;> rw [hr'] at h2 <;> simp [addr] at h2 <;> obtain ⟨_, h2⟩ := h2 <;> rw [h2]
          -- the value
          have hrel : RelE X (E.outs (l ++ E.out)) (hide D (oi.looksAt ops) σ1) a'.tmps w' := inv.rel (hw1.same.hide _) fun u s hu => by
            rcases hide_at hu with h1 | ⟨h1, h2⟩
            · exact .inl h1
            · rcases hw1.slot u s h1 with h3 | ⟨h3, h4⟩ | ⟨j, pj, h3, h4, h5, h6⟩
              · exact .inl h3
              · refine .inr (.inl ⟨hdD u fun hD => ?_, h4⟩)
                obtain ⟨j, pj, q1, q2, q3⟩ := (H.mem u).1 hD
                exact h3 j pj (hlist i oi hi hoi hiq (.inr hni) j pj u q1 q2 q3 (h2 hD)).1 q2 q3
              · exact .inr (.inr ⟨j, pj, h3, h4, h5, (hlist i oi hi hoi hiq (.inr hni) j pj u (by have := H.le; omega) h4 h5 (h2 ((H.mem u).2 ⟨j, pj, by have := H.le; omega, h4, h5⟩))).2, h6⟩)
          have hlx : ∀ u, x = .tmp u → u ∈ oi.looksAt ops := fun u hu => List.mem_append_left _ (List.mem_filterMap.2 ⟨.tmp u, by rw [hop', ← hu]; simp [Op.operands], rfl⟩)
          obtain ⟨cs, c1, c2, c3⟩ := hrel.coe (show V.coe tt (opd (hide D (oi.looksAt ops) σ1) x) = some (v, ms) by rw [opd_hide hlx]; exact hco)
          have hcl : (a'.eval x).cells = cs.toArray := by rw [c2]; exact cells_toVal c1 (tyB_scalar htt)
          have hfit : (E.ad (idf i)).2 + cs.length ≤ cur.size := by rw [c1.length]; exact s2
          have hrun : (execOp a'.eval oi).run P w' = .ok .skip (w'.setRow (E.ad (idf i)).1 (splice cur (E.ad (idf i)).2 cs)) := by
            simp only [execOp, hop', hpe, Sem.run_bind, run_storeAt_ty htt hcl c1.length c1.one s1 hfit, Result.andThen_ok, Sem.run_pure]
          unfold wpOp
          simp only [hoi, Region.wanted, hg, if_true]
          left
          unfold Oper.wp
          rw [hrun]
          simp only [Oper.upon, hdn]
          have hM : (∃ s, cs.length ≤ s ∧ (idf i, E.ad (idf i), s) ∈ X.pbx) ∨ X.w0.heap.size ≤ (E.ad (idf i)).1 := by
            have := hr.srcb _ hy
            dsimp only at this
            rw [hyt, ← c1.length] at this
            exact this
          obtain ⟨hbase, K⟩ := inv.base.poke (id := idf i) (cs := cs) (mem_poison hy hidm) s1 hfit hM
          have hsize : (w'.setRow (E.ad (idf i)).1 (splice cur (E.ad (idf i)).2 cs)).heap.size = w'.heap.size := by simp [World.setRow]
          have hbw : (E.ad (idf i)).1 < w.heap.size := (hr.lt _ (mem_owned_bx hy)).1
          refine ih _ _ _ bl l (hcount i hiq hun) ?_
          show EInv T X E ops m n q inf S sk σ ids idf a w bl l _ a' _
          refine ⟨head', hbase, by rw [hsize]; exact inv.hsz, inv.dfr, inv.siz, inv.oth, fun j pj d u hj hp hpt hlj hu => K.slot (inv.slt j pj d u hj hp hpt (listed_set hlj (by omega)) hu), fun j pj d u hj hp hpt hlj => inv.skp j pj d u hj hp hpt (listed_set hlj (by omega)),
            fun j h1 h2 hlj => ?_, fun j z h1 h2 h3 h4 h5 h6 => inv.inj j z h1 h2 h3 h4 (listed_set h5 (by omega)) (listed_set h6 (by omega)), fun b hb => by rw [hsize]; exact inv.lfr b hb, fun j h1 h2 hlj => inv.lmem j h1 h2 (listed_set hlj (by omega)), fun j oj t2 p2 x2 tt2 h1 h2 hoj hop2 hTt2 => ?_⟩
          · obtain ⟨n1, n2, n3, n4⟩ := inv.new j h1 h2 (listed_set hlj (by omega))
            refine ⟨n1, n2, by rw [hsize]; exact n3, ?_⟩
            rw [setRow_other w' _ _ _ (by omega)]
            exact n4
          · by_cases hji : j = i
            · subst hji
              rw [hoi] at hoj
              have := Option.some.inj hoj
              subst this
              rw [hop'] at hop2
              simp only [Op.store.injEq, Operand.tmp.injEq] at hop2
              obtain ⟨rfl, rfl, rfl⟩ := hop2
              rw [hTt] at hTt2
              have := Option.some.inj hTt2
              subst this
              refine ⟨_, e, setRow_heap w' _ cur _ e _ s1, by rw [splice_size hfit]; exact s2, fun _ z u hz => ?_⟩
              rw [hcl] at hz
              have hz' : cs[z]? = some u := by simpa using hz
              have hzl := (List.getElem?_eq_some_iff.1 hz').1
              rw [splice_get hfit, if_neg (by omega), if_pos (by omega), show (E.ad (idf j)).2 + z - (E.ad (idf j)).2 = z by omega]
              exact hz'
            · obtain ⟨cur2, ec2, z1, z2, z3⟩ := inv.sto j oj t2 p2 x2 tt2 h1 h2 hoj hop2 hTt2
              obtain ⟨⟨_, _, _, _, _, _, _, _, y2, _, _, _, _, _, _, hy2, _, _⟩, _⟩ := hst j oj h1 h2 hoj
              have hne : (E.ad (idf j)).1 ≠ (E.ad (idf i)).1 := fun he => by
                have hn := hr.nodup
                simp only [owned] at hn
                have hn1 := (List.nodup_append.1 hn).1
                have hinj := inj_of_nodup (f := fun b : Bx => (E.ad b.id).1) hn1 hy2 hy he
                have : idf j = idf i := congrArg Bx.id hinj
                exact hji (hidf j i h1 h2 hni hiq this)
              refine ⟨cur2, ec2, ?_, z2, fun hlj => z3 (listed_set hlj hji)⟩
              rw [setRow_other w' _ _ _ hne]
              exact z1
end
end Go.Proofs.Ytcdncdbghghnfaa.V
namespace Go.Proofs.Ytcdncdbghghnfaa.V
open Go
section
variable {P : Program} {X : Ctx} {E : Env} {σ : St} {A0 : Array Value} {a : Act} {w : World} {o : Oper} {R : Type}
/-- So does a place whose slices are frozen. -/
theorem gather_mu : ∀ {ks : List AK} {ss : List Slot} {k : Tup (tysOf ks) → St → Option R} {r : R}, muOnly ks = true → gatherK ks ss σ k = some r →
    ∃ x, k x σ = some r ∧ ∀ (R' : Type) (k' : Tup (tysOf ks) → St → Option R'), gatherK ks ss σ k' = k' x σ := by
  intro ks
  induction ks with
  | nil =>
    intro ss k r _ h
    cases ss with
    | nil => exact ⟨(), h, fun _ _ => rfl⟩
    | cons s ss => simp [gatherK] at h
  | cons c ks ih =>
    intro ss k r hro h
    cases ss with
    | nil => simp [gatherK] at h
    | cons s ss =>
      simp only [gatherK] at h
      cases c with
      | ro t =>
        simp only [muOnly] at hro
        simp only [oneK] at h
        cases hc : coe t s with
        | none => rw [hc] at h; simp at h
        | some q =>
          obtain ⟨v, ms⟩ := q
          rw [hc] at h
          simp only at h
          cases hu : allUs σ ms with
          | false => rw [hu] at h; simp at h
          | true =>
            rw [hu] at h
            simp only [cond_true] at h
            obtain ⟨x, h1, h2⟩ := ih hro h
            refine ⟨Tup.cons (t := t) (r := tysOf ks) v x, h1, fun R' k' => ?_⟩
            simp only [gatherK, oneK, hc, hu, cond_true]
            exact h2 R' _
      | pin t =>
        simp only [muOnly] at hro
        simp only [oneK] at h
        obtain ⟨x0, hm, h1, h2, _⟩ := readK_nat h
        cases hc : cast? t x0 with
        | none => rw [hc] at h1; simp at h1
        | some q =>
          obtain ⟨v, ms⟩ := q
          rw [hc] at h1
          simp only at h1
          cases hu : allUs σ ms with
          | false => rw [hu] at h1; simp at h1
          | true =>
            rw [hu] at h1
            simp only [cond_true] at h1
            obtain ⟨x, h3, h4⟩ := ih hro h1
            refine ⟨Tup.cons (t := t) (r := tysOf ks) v x, h3, fun R' k' => ?_⟩
            simp only [gatherK, oneK]
            rw [h2]
            simp only [hc, hu, cond_true]
            exact h4 R' _
      | own t => simp [muOnly] at hro
      | mu t =>
        simp only [muOnly] at hro
        have h' : (readK σ s fun x _ => match cast? t x with
            | some (v, ms) => bif allUs σ ms && noneAl σ ms then gatherK ks ss σ fun x σ => k (Tup.cons v x) σ else none
            | none => none) = some r := by
          cases s with
          | rptr τ x => simp [oneK] at h
          | _ => exact h
        have hone : ∀ {R' : Type} (k' : t.den → St → Option R'), oneK (.mu t) s σ k' = readK σ s fun x _ => match cast? t x with
            | some (v, ms) => bif allUs σ ms && noneAl σ ms then k' v σ else none
            | none => none := by
          intro R' k'
          cases s with
          | rptr τ x => simp [oneK] at h
          | _ => rfl
        obtain ⟨x0, hm, h1, h2, _⟩ := readK_nat h'
        cases hc : cast? t x0 with
        | none => rw [hc] at h1; simp at h1
        | some q =>
          obtain ⟨v, ms⟩ := q
          rw [hc] at h1
          simp only at h1
          cases hu : allUs σ ms && noneAl σ ms with
          | false => rw [hu] at h1; simp at h1
          | true =>
            rw [hu] at h1
            simp only [cond_true] at h1
            obtain ⟨x, h3, h4⟩ := ih hro h1
            refine ⟨Tup.cons (t := t) (r := tysOf ks) v x, h3, fun R' k' => ?_⟩
            simp only [gatherK]
            refine (hone _).trans ?_
            refine (h2 R' _).trans ?_
            simp only [hc, hu, cond_true]
            exact h4 R' _
      | pio t => simp [muOnly] at hro
theorem lend_mnat {aks : List AK} {sh : Bool} {ss : List Slot} {k : Tup (tysOf aks) → St → Option R} {r : R} (hro : muOnly aks = true) (hno : sh = true → noneAl σ (roToks σ aks ss) = true) (h : lendK aks sh ss σ k = some r) :
    ∃ x, k x σ = some r ∧ ∀ (R' : Type) (k' : Tup (tysOf aks) → St → Option R'), lendK aks sh ss σ k' = k' x σ := by
  unfold lendK at h
  cases hg : !sh || noPins aks with
  | false => rw [hg] at h; simp at h
  | true =>
    rw [hg] at h
    simp only [cond_true] at h
    have hf : (bif sh then σ.freeze (roToks σ aks ss) else σ) = σ := by
      cases sh with
      | false => rfl
      | true => exact freeze_noop (hno rfl)
    rw [hf] at h
    obtain ⟨x, h1, h2⟩ := gather_mu hro h
    cases hc : noDup (exclOf σ aks ss) && lentOk σ (exclOf σ aks ss) aks ss with
    | false => rw [hc] at h1; simp at h1
    | true =>
      rw [hc] at h1
      simp only [Bool.not_true, cond_false] at h1
      refine ⟨x, h1, fun R' k' => ?_⟩
      unfold lendK
      rw [hg, hf]
      simp only [cond_true]
      rw [h2]
      simp only [hc, Bool.not_true, cond_false]
theorem rows_mu {A pin : Nat → Prop} : ∀ {ks : List AK} {x : Tup (tysOf ks)} {us : List Value} {fs : List Foot}, muOnly ks = true → ArgsOk w A pin ks x us fs → rowsOf fs = [] := by
  intro ks
  induction ks with
  | nil => intro x us fs _ h; cases us <;> cases fs <;> first | rfl | exact h.elim
  | cons c r ih =>
    intro x us fs hro h
    cases us with
    | nil => cases fs <;> exact h.elim
    | cons u us =>
      cases fs with
      | nil => exact h.elim
      | cons f fs =>
        have hf : f.rows = [] := by
          have h1 := h.1
          cases c with
          | ro t => rw [h1.2]
          | pin t => rw [h1.2]
          | mu t => obtain ⟨_, _, _, _, _, _, _, _, _, _, h1⟩ := h1; rw [h1]
          | _ => simp [muOnly] at hro
        have hro' : muOnly r = true := by cases c <;> simp [muOnly] at hro <;> exact hro
        show f.rows.filterMap id ++ rowsOf fs = []
        rw [hf, ih hro' h.2]; rfl
theorem lent_mu {aks : List AK} {sh : Bool} {ss : List Slot} {us : List Value} {x : Tup (tysOf aks)} (hro : muOnly aks = true) (hno : sh = true → noneAl σ (roToks σ aks ss) = true) (hr : RelE X E σ A0 w) (hlen : ss.length = us.length)
    (hsl : ∀ (i : Nat) s u, ss[i]? = some s → us[i]? = some u → SlotOk w (Fz X E σ w) E σ s u) (h : lendK aks sh ss σ (fun x σ' => some (x, σ')) = some (x, σ)) :
    ∃ fs A pin, Pre aks x w A pin us fs ∧ (sh = true → ∀ b, A b → Fz X E σ w b) ∧ lentOk σ (exclOf σ aks ss) aks ss = true := by
  have h0 := h
  unfold lendK at h
  cases hg : !sh || noPins aks with
  | false => rw [hg] at h; simp at h
  | true =>
    rw [hg] at h
    simp only [cond_true] at h
    have hf : (bif sh then σ.freeze (roToks σ aks ss) else σ) = σ := by
      cases sh with
      | false => rfl
      | true => exact freeze_noop (hno rfl)
    rw [hf] at h
    obtain ⟨x', σ1, E1, fs, q1, q2, q3, q4, q5⟩ := gather_ok hr hlen hsl h
    cases hc : noDup (exclOf σ1 aks ss) && lentOk σ1 (exclOf σ1 aks ss) aks ss with
    | false => rw [hc] at q1; simp at q1
    | true =>
      rw [hc] at q1
      simp only [Bool.not_true, cond_false, Option.some.injEq, Prod.mk.injEq] at q1
      obtain ⟨e1, e2⟩ := q1
      subst e1; subst e2
      simp only [Bool.and_eq_true] at hc
      have hsl1 : ∀ (i : Nat) s u, ss[i]? = some s → us[i]? = some u → SlotOk w (Fz X E1 σ1 w) E1 σ1 s u := fun i s u h1 h2 => q3.K.slot (hsl i s u h1 h2)
      have hsh : ShOks σ1 sh aks ss := shOks_of (ks0 := aks) (ss0 := ss) (σ := σ1) (fun hs τ hτ hal => noneAl_iff.1 (hno hs) τ hτ hal)
        (fun hs => by rw [hs] at hg; simpa using hg) (fun _ h => h) id
      obtain ⟨w1, w2, w3⟩ := lend_all q2 hsl1 q5 hc.2 hsh
      obtain ⟨w4, w5⟩ := lend_apart (sh := sh) q2 q4 w2 w3 hc.1
      have hrow := rows_mu hro w1
      refine ⟨fs, _, _, ⟨w1, w4, w5, fun b hb => ?_, fun b hb => ?_⟩, fun hs b hb => ?_, hc.2⟩
      · rcases hb with h | ⟨_, τ, h1, _, h2⟩
        · exact h.2.1
        · exact (q2.lt b (mem_owned_al h1 h2)).1
      · rcases hb with h | ⟨q, h1, _, rfl⟩ | h | ⟨τ, h1, _, h2⟩
        · exact (q2.pinlt b h).1
        · exact (q2.lt _ (mem_owned_bx h1)).1
        · exact h.2.1
        · exact (q2.lt b (mem_owned_al h1 h2)).1
      · rcases hb with h | ⟨h, _⟩
        · refine ⟨h.1, h.2.1, fun ho => h.2.2 ?_⟩
          rw [hrow, List.nil_append] at q4
          simp only [owned, List.mem_append] at ho ⊢
          rcases ho with ho | ho | ho
          · left
            obtain ⟨q, hq, he⟩ := List.mem_map.1 ho
            exact List.mem_map.2 ⟨q, hq, by rw [q3.ad]; exact he⟩
          · right; left
            obtain ⟨τ, hτ, he⟩ := List.mem_flatMap.1 ho
            exact List.mem_flatMap.2 ⟨τ, hτ, by simpa [tokB, q3.hd] using he⟩
          · right; right; exact q4.mem_iff.2 ho
        · rw [hs] at h; cases h
theorem lent_none {ex : List (Nat × Nat)} : ∀ {ks : List AK} {ss : List Slot}, muOnly ks = true → lentOk σ ex ks ss = true → ks.length = ss.length → exclOf σ ks ss = [] → roOnly ks = true := by
  intro ks
  induction ks with
  | nil => intro ss _ _ _ _; rfl
  | cons c ks ih =>
    intro ss hm hl hlen he
    cases ss with
    | nil => simp at hlen
    | cons s ss =>
      simp only [lentOk, Bool.and_eq_true] at hl
      cases c with
      | ro t => exact ih (by simpa [muOnly] using hm) hl.2 (by simpa using hlen) (by simpa [exclOf] using he)
      | pin t => exact ih (by simpa [muOnly] using hm) hl.2 (by simpa using hlen) (by simpa [exclOf] using he)
      | mu t =>
        exfalso
        have h1 := hl.1
        cases s <;> simp [lendAt] at h1
        simp [exclOf] at he
      | _ => simp [muOnly] at hm
/-- The one place. -/
theorem one_place {w' : World} {AF A pin : Nat → Prop} {ex : List (Nat × Nat)} : ∀ {ks : List AK} {ss : List Slot} {us : List Value} {x : Tup (tysOf ks)} {fs : List Foot} {bo : List (List (Option Nat))} {y : Tup (outsOf ks)}, muOnly ks = true → (exclOf σ ks ss).length = 1 → lentOk σ ex ks ss = true → ss.length = us.length →
    ArgsOk w A pin ks x us fs → OutsOk w' AF ks y us fs bo → flatB bo = [] ∧ ∃ t v s b of cs, muSlot ks ss = some s ∧ muVal ks y = some ⟨t, v, List.replicate t.nl 0⟩ ∧ (∃ i : Nat, ss[i]? = some s ∧ us[i]? = some (Value.pointer (some ⟨b, of, none⟩))) ∧ Rf w' AF t v cs ∧ At w' b of cs ∧
      (∀ c j, footM ks fs c j → c = b ∧ of ≤ j ∧ j < of + t.size) ∧ (∃ c e, w.heap[b]? = some (.cells c e (0, 0)) ∧ of + t.size ≤ c.size) ∧ (t.nl = 0 ∨ sharesO ks = true) ∧ b ∈ (placesOf fs).map (·.1) := by
  intro ks
  induction ks with
  | nil => intro ss us x fs bo y _ h; simp [exclOf] at h
  | cons c ks ih =>
    intro ss us x fs bo y hm hex hl hlen hargs hout
    cases us with
    | nil => cases fs <;> exact hargs.elim
    | cons u us =>
    cases fs with
    | nil => exact hargs.elim
    | cons f fs =>
    cases bo with
    | nil => exact hout.elim
    | cons bs bo =>
    cases ss with
    | nil => simp at hlen
    | cons s ss =>
      obtain ⟨a1, a2⟩ := hargs
      obtain ⟨o1, o2⟩ := hout
      simp only [lentOk, Bool.and_eq_true] at hl
      have skip : muOnly ks = true → f = ⟨[], none⟩ → bs = [] → (exclOf σ ks ss).length = 1 → muSlot (c :: ks) (s :: ss) = muSlot ks ss → muVal (c :: ks) y = muVal ks (Tup.snd (a := c.outs) (b := outsOf ks) y) → (sharesO ks = true → sharesO (c :: ks) = true) → flatB (bs :: bo) = [] ∧ ∃ t v s' b of cs, muSlot (c :: ks) (s :: ss) = some s' ∧ muVal (c :: ks) y = some ⟨t, v, List.replicate t.nl 0⟩ ∧ (∃ i : Nat, (s :: ss)[i]? = some s' ∧ (u :: us)[i]? = some (.pointer (some ⟨b, of, none⟩))) ∧ Rf w' AF t v cs ∧ At w' b of cs ∧
          (∀ d j, footM (c :: ks) (f :: fs) d j → d = b ∧ of ≤ j ∧ j < of + t.size) ∧ (∃ c e, w.heap[b]? = some (.cells c e (0, 0)) ∧ of + t.size ≤ c.size) ∧ (t.nl = 0 ∨ sharesO (c :: ks) = true) ∧ b ∈ (placesOf (f :: fs)).map (·.1) := by
        intro hm' hf hb he e1 e2 e3
        subst hf; subst hb
        obtain ⟨h0, t, v, s', b, of, cs, h1, h2, ⟨i, h3, h4⟩, h5, h6, h7, h8, h9, h10⟩ := ih hm' he hl.2 (by simpa using hlen) a2 o2
        refine ⟨by rw [flatB_cons]; exact h0, t, v, s', b, of, cs, e1.trans h1, e2.trans h2, ⟨i + 1, by simpa using h3, by simpa using h4⟩, h5, h6, fun d j h => ?_, h8, h9.imp id e3, by simpa [placesOf] using h10⟩
        rcases h with h | ⟨p, h, _⟩ | h
        · cases h
        · cases h
        · exact h7 d j h
      cases c with
      | ro t => exact skip (by simpa [muOnly] using hm) a1.2 o1 (by simpa [exclOf] using hex) rfl rfl (fun h => by simp [sharesO, AK.outs, h])
      | pin t => exact skip (by simpa [muOnly] using hm) a1.2 o1 (by simpa [exclOf] using hex) rfl rfl (fun h => by simp [sharesO, AK.outs, h])
      | mu t =>
        obtain ⟨b, of, cs0, c0, e0, g1, g2, g3, g4, g5, g6⟩ := a1
        subst g6
        obtain ⟨rfl, b', of', cs, k1, k2, k3⟩ := o1
        rw [g1] at k1
        simp only [Value.pointer.injEq, Option.some.injEq, Addr.mk.injEq, and_true] at k1
        obtain ⟨rfl, rfl⟩ := k1
        have h1 := hl.1
        cases s <;> simp [lendAt] at h1
        rename_i id r0 p0 t0
        have hex2 : exclOf σ ks ss = [] := by
          simp only [exclOf, List.length_cons, Nat.add_eq_right, List.length_eq_zero_iff] at hex
          exact hex
        have klen : ∀ {ks : List AK} {x : Tup (tysOf ks)} {us : List Value} {fs : List Foot}, ArgsOk w A pin ks x us fs → ks.length = us.length := by
          intro ks
          induction ks with
          | nil => intro x us fs h; cases us <;> cases fs <;> first | rfl | exact h.elim
          | cons k ks ih =>
            intro x us fs h
            cases us with
            | nil => cases fs <;> exact h.elim
            | cons u us => cases fs with
              | nil => exact h.elim
              | cons f fs => simp [ih h.2]
        have hro := lent_none (by simpa [muOnly] using hm) hl.2 (by rw [klen a2]; simpa using hlen.symm) hex2
        have hlen0 := (show Rf w A t _ cs0 from g2).length
        refine ⟨by rw [flatB_cons]; exact outs_ro hro o2, t, _, _, b, of, cs, rfl, rfl, ⟨0, rfl, by rw [g1]; rfl⟩, k2, k3, fun d j h => ?_, ⟨c0, e0, g4, by rw [← hlen0]; exact g5⟩, ?_, by simp [placesOf]⟩
        · rcases h with h | ⟨p, h, h2, h3⟩ | h
          · cases h
          · cases h
            exact ⟨h2.symm, h3⟩
          · exact absurd h (foot_ro hro a2 d j)
        · by_cases hn : t.nl = 0
          · exact .inl hn
          · right
            simp only [sharesO, Bool.or_eq_true]
            left; left
            simpa using hn
      | _ => simp [muOnly] at hm
theorem Fr.compose2 {M M' : Nat → Nat → Prop} {w0 w w' : World} (h : Fr M w0 w) (k : Fr M' w w') (hm : ∀ b o, b < w0.heap.size → M' b o → M b o) : Fr M w0 w' := by
  refine ⟨k.os.trans h.os, k.tape.trans h.tape, k.output.trans h.output, Nat.le_trans h.size k.size, fun b hb => ?_⟩
  rcases k.block b (Nat.lt_of_lt_of_le hb h.size) with h1 | ⟨c, c', e, h1, h2, h3, h4⟩
  · rw [h1]; exact h.block b hb
  · rcases h.block b hb with q1 | ⟨d, d', e', q1, q2, q3, q4⟩
    · exact .inr ⟨c, c', e, by rw [← q1]; exact h1, h2, h3, fun o ho => h4 o fun hm' => ho (hm b o hb hm')⟩
    · rw [h1] at q2
      simp only [Option.some.injEq, Obj.cells.injEq, and_true] at q2
      obtain ⟨rfl, rfl⟩ := q2
      exact .inr ⟨d, c', e, q1, h2, h3.trans q3, fun o ho => (h4 o fun hm' => ho (hm b o hb hm')).trans (q4 o ho)⟩
/-- Cells of boxes that aren't looked at have turned. -/
theorem RelE.pokes (hr : RelE X E σ A0 w) {w3 : World} {M : Nat → Nat → Prop} (hfr : Fr M w w3) {id : Nat} (hmem : ⟨id, ⟨.unit, (), []⟩⟩ ∈ σ.bx) {n : Nat} (hM : ∀ b j, M b j → b = (E.ad id).1 ∧ (E.ad id).2 ≤ j ∧ j < (E.ad id).2 + n) (hX : (∃ s, n ≤ s ∧ (id, E.ad id, s) ∈ X.pbx) ∨ X.w0.heap.size ≤ (E.ad id).1) :
    RelE X E σ A0 w3 ∧ Keep w w3 (Fz X E σ w) (Fz X E σ w3) E E σ σ ∧ (∀ b, b < w.heap.size → b ≠ (E.ad id).1 → w3.heap[b]? = w.heap[b]?) := by
  have hother : ∀ b, b < w.heap.size → b ≠ (E.ad id).1 → w3.heap[b]? = w.heap[b]? := by
    intro b hb hne
    rcases hfr.block b hb with h1 | ⟨c, c', e, h1, h2, _, h4⟩
    · exact h1
    · have : c' = c := Array.ext_getElem? fun o => h4 o (fun hm => hne (hM b o hm).1)
      rw [h2, this, h1]
  have hne : ∀ b, b ∈ σ.bx → b.id ≠ id → (E.ad b.id).1 ≠ (E.ad id).1 := by
    intro b hb' hbid he
    have hn := hr.nodup
    simp only [owned] at hn
    have hn1 := (List.nodup_append.1 hn).1
    have hinj := inj_of_nodup (f := fun b : Bx => (E.ad b.id).1) hn1 hb' hmem he
    exact hbid (by rw [hinj])
  have hal : ∀ τ ∈ σ.al, ∀ g, E.hd τ = some g → g ≠ (E.ad id).1 := by
    intro τ hτ g hg he
    have hn := hr.nodup
    simp only [owned] at hn
    exact (List.nodup_append.1 hn).2.2 _ (List.mem_map.2 ⟨_, hmem, rfl⟩) g (List.mem_append_left _ (List.mem_flatMap.2 ⟨τ, hτ, by simp [tokB, hg]⟩)) he.symm
  have K : Keep w w3 (Fz X E σ w) (Fz X E σ w3) E E σ σ :=
    ⟨fun b hb' => ⟨⟨hb'.1, Nat.lt_of_lt_of_le hb'.2.1 hfr.size, hb'.2.2⟩, hother b hb'.2.1 (fun he => hb'.2.2 (he ▸ mem_owned_bx hmem))⟩, Nat.le_refl _, fun _ _ => rfl, fun _ _ => rfl, fun _ _ h => .inl h, fun τ _ hτ => ⟨hτ, fun g hg => hother g (hr.lt g (mem_owned_al hτ hg)).1 (hal τ hτ g hg)⟩, hr.ge, fun b hb' => ⟨hb', hother b (hr.pinlt b hb').1 (fun he => (hr.pinlt b hb').2 (he ▸ mem_owned_bx hmem))⟩⟩
  refine ⟨{ hr with
    slot := fun i s u hs hu => K.slot (hr.slot i s u hs hu)
    bx := fun b hb' => ?_
    lt := fun b hb' => ⟨Nat.lt_of_lt_of_le (hr.lt b hb').1 hfr.size, (hr.lt b hb').2⟩
    fr := ?_
    pinlt := fun b hb' => ⟨Nat.lt_of_lt_of_le (hr.pinlt b hb').1 hfr.size, (hr.pinlt b hb').2⟩ }, K, hother⟩
  · by_cases hbi : b.id = id
    · obtain ⟨c1, c2, c3, h1, h2, h3, h4, h5⟩ := hr.bx b hb'
      have hx : b = ⟨id, ⟨.unit, (), []⟩⟩ := inj_of_nodup (f := fun b : Bx => b.id) hr.ids hb' hmem hbi
      subst hx
      dsimp only at h3 h4
      rcases hfr.block _ (Array.getElem?_eq_some_iff.1 h3).1 with h6 | ⟨d, d', e', k1, k2, k3, _⟩
      · exact ⟨[], c2, c3, rfl, rfl, h6.trans h3, by simp only [List.length_nil]; omega, fun j v hv => by simp at hv⟩
      · rw [h3] at k1
        simp only [Option.some.injEq, Obj.cells.injEq, and_true] at k1
        obtain ⟨rfl, rfl⟩ := k1
        exact ⟨[], d', c3, rfl, rfl, k2, by simp only [List.length_nil]; omega, fun j v hv => by simp at hv⟩
    · exact K.bx (hr.bx b hb') (hr.idlt b hb') (hother _ (hr.lt _ (mem_owned_bx hb')).1 (hne b hb' hbi))
  · refine hr.fr.compose2 hfr (fun b o hb hm => ?_)
    obtain ⟨rfl, h1, h2⟩ := hM b o hm
    rcases hX with ⟨s, h3, h4⟩ | h3
    · exact hr.pbm _ h4 o h1 (by dsimp only; omega)
    · omega
theorem fillK_nat {s : Slot} {x : Val} {k : Nat → Option R} {r : R} (h : fillK σ s x k = some r) : ∃ id r0 t' y, s = .ptr id r0 [] t' ∧ σ.find id = some y ∧ y.t = r0 ∧ y.t = x.t ∧ k id = some r ∧
    ∀ (R' : Type) (k' : Nat → Option R'), fillK σ s x k' = k' id := by
  unfold fillK at h
  split at h
  · rename_i id r0 t'
    cases hf : σ.find id with
    | none => rw [hf] at h; cases h
    | some y =>
      rw [hf] at h
      simp only at h
      cases hb : Ty.beq y.t r0 && Ty.beq y.t x.t with
      | false => rw [hb] at h; cases h
      | true =>
        rw [hb] at h
        have hb2 := hb
        simp only [Bool.and_eq_true] at hb2
        exact ⟨id, r0, t', y, rfl, hf, Ty.eq_of_beq hb2.1, Ty.eq_of_beq hb2.2, h, fun R' k' => by simp only [fillK, hf, hb, cond_true]⟩
  · cases h
theorem effK_nat (T : Tabs) {k : Nat → Val → Slot → Option R} {r : R} (h : effK T o σ k = some r) : ∃ id x s, k id x s = some r ∧ ∀ (R' : Type) (k' : Nat → Val → Slot → Option R'), effK T o σ k' = k' id x s := by
  unfold effK at h
  split at h
  · rename_i f args ats ho
    cases hf : T.F f with
    | none => rw [hf] at h; cases h
    | some fn =>
      rw [hf] at h
      simp only at h
      cases hb : !fn.s.bx && muOnly fn.s.args && (exclOf σ fn.s.args (args.toList.map (opd σ))).length == 1 && (!shares fn.s || noneAl σ (roToks σ fn.s.args (args.toList.map (opd σ)))) with
      | false => rw [hb] at h; cases h
      | true =>
        rw [hb] at h
        simp only [cond_true] at h
        have hb2 := hb
        simp only [Bool.and_eq_true, Bool.or_eq_true, Bool.not_eq_true', beq_iff_eq] at hb2
        obtain ⟨x, h1, h2⟩ := lend_mnat hb2.1.1.2 (fun hs => hb2.2.resolve_left (by rw [hs]; simp)) h
        cases hy : fn.f x with
        | none => rw [hy] at h1; cases h1
        | some y =>
          rw [hy] at h1
          simp only [Option.bind_some] at h1
          split at h1
          · rename_i s v e1 e2
            obtain ⟨id, r0, t2, yb, g1, g2, g3, g4, g5, g6⟩ := fillK_nat h1
            exact ⟨id, v, _, g5, fun R' k' => by simp only [effK, ho, hf, hb, cond_true]; rw [h2, hy]; simp only [Option.bind_some, e1, e2]; exact g6 R' _⟩
          · cases h1
  · cases h
/-- What such a call does: one box holds another value. -/
def effUpon (P : Program) (X : Ctx) (E : Env) (σ σ' : St) (A0 : Array Value) (w : World) (s : Slot) : Result Next → Prop
  | .ok (.enter f args) w2 => w2 = w ∧ Calls P f args w (fun e w3 => ∃ v, e = .returned v ∧ RelE X E σ' A0 w3 ∧ Keep w w3 (Fz X E σ w) (Fz X E σ' w3) E E σ σ' ∧ w.heap.size ≤ w3.heap.size ∧ (∀ b ∈ E.out, w3.heap[b]? = w.heap[b]?) ∧ SlotOk w3 (Fz X E σ' w3) E σ' s v)
  | _ => False
theorem eff_ok (T : Tabs) (hT : TabOk P T.T) (hF : FOk P T.F) {id : Nat} {v : Val} {s : Slot} (h : effK T o σ (fun id x s => some (id, x, s)) = some (id, v, s)) (hr : RelE X E σ a.tmps w) :
    effUpon P X E σ { σ with bx := setBx id v σ.bx } a.tmps w s ((execOp a.eval o).run P w) := by
  unfold effK at h
  split at h
  · rename_i f args ats ho
    cases hf : T.F f with
    | none => rw [hf] at h; cases h
    | some fn =>
      rw [hf] at h
      simp only at h
      cases hb : !fn.s.bx && muOnly fn.s.args && (exclOf σ fn.s.args (args.toList.map (opd σ))).length == 1 && (!shares fn.s || noneAl σ (roToks σ fn.s.args (args.toList.map (opd σ)))) with
      | false => rw [hb] at h; cases h
      | true =>
        rw [hb] at h
        simp only [cond_true] at h
        simp only [Bool.and_eq_true, Bool.or_eq_true, Bool.not_eq_true', beq_iff_eq] at hb
        obtain ⟨⟨⟨hbx, hmu⟩, hex⟩, hno0⟩ := hb
        have hno : shares fn.s = true → noneAl σ (roToks σ fn.s.args (args.toList.map (opd σ))) = true := fun hs => hno0.resolve_left (by rw [hs]; simp)
        obtain ⟨x, h1, h2⟩ := lend_mnat hmu hno h
        cases hy : fn.f x with
        | none => rw [hy] at h1; cases h1
        | some y =>
          rw [hy] at h1
          simp only [Option.bind_some] at h1
          split at h1
          · rename_i s0 v0 e1 e2
            obtain ⟨id0, r0, t2, yb, g1, g2, g3, g4, g5, _⟩ := fillK_nat h1
            simp only [Option.some.injEq, Prod.mk.injEq] at g5
            obtain ⟨g5, g6, g7⟩ := g5
            subst g5; subst g6; subst g7; subst g1
            obtain ⟨hm, g, p1, p2, p3⟩ := hF f fn hf
            have hrun : (execOp a.eval o).run P w = .ok (.enter f (args.toList.map a.eval).toArray) w := by
              have q1 : a.eval (.func f) = .func (.func f) #[] #[] := rfl
              have hb : ¬ g.body = none := by intro h; rw [h] at p2; cases p2
              have hn : ¬ g.name = "runtime.NumGoroutine" := by simpa using p3
              simp [execOp, ho, resolve, q1, Deferred.ofValue, invoke, callFunc, p1]
              rw [if_neg hn, if_neg hb, ← Array.toList_map]
            rw [hrun]
            refine ⟨rfl, ?_⟩
            have hlen : (args.toList.map (opd σ)).length = (args.toList.map a.eval).length := by simp
            have hsl : ∀ (i : Nat) s u, (args.toList.map (opd σ))[i]? = some s → (args.toList.map a.eval)[i]? = some u → SlotOk w (Fz X E σ w) E σ s u := fun i s u q1 q2 => by
              rw [List.getElem?_map] at q1 q2
              cases hz : args.toList[i]? with
              | none => rw [hz] at q1; simp at q1
              | some z =>
                rw [hz] at q1 q2
                simp only [Option.map_some, Option.some.injEq] at q1 q2
                subst q1; subst q2
                exact slot_opd hr z
            obtain ⟨fs, A, pin, hpre, hA, hlent⟩ := lent_mu hmu hno hr hlen hsl (h2 _ _)
            refine (hm x y hy w A pin _ fs hpre).mono fun e w3 he => ?_
            cases e with
            | panicked c => exact he.elim
            | outgrown => exact he.elim
            | returned u =>
              obtain ⟨vs, rfl, hp⟩ := he.1 hbx
              obtain ⟨bo, br, hnd, hrets, hres, houts⟩ := hp.ex
              obtain ⟨hbo, t, vv, s1, b, of, cs, m1, m2, ⟨i, m3, m4⟩, m5, m6, m7, ⟨c0, ec, m8, m8'⟩, m9, _⟩ := one_place hmu hex hlent hlen hpre.args houts
              rw [e1] at m1
              rw [e2] at m2
              have m1' := Option.some.inj m1
              have m2' := Option.some.inj m2
              subst m1'; subst m2'
              dsimp only at g4
              -- the place
              have hpl : (E.ad id0) = (b, of) := by
                obtain ⟨_, b', o', k1, k2⟩ := hsl i _ _ m3 m4
                simp only [Value.pointer.injEq, Option.some.injEq, Addr.mk.injEq, and_true] at k1
                obtain ⟨k1, k3⟩ := k1
                subst k1; subst k3
                cases hr' : r0 <;> rw [hr'] at k2 <;> simp [addr] at k2 <;> exact k2.2
              have hb1 : (E.ad id0).1 = b := by rw [hpl]
              have hb2 : (E.ad id0).2 = of := by rw [hpl]
              have hmem := find_mem g2
              have hX : (∃ s, t.size ≤ s ∧ (id0, E.ad id0, s) ∈ X.pbx) ∨ X.w0.heap.size ≤ (E.ad id0).1 := by
                have := hr.srcb _ hmem
                dsimp only at this
                rw [g4] at this
                exact this
              obtain ⟨hr3, K1, hoth⟩ := (hr.poison [id0]).pokes hp.fr (mem_poison (c := ⟨id0, yb⟩) hmem List.mem_cons_self) (n := t.size) (fun c j hj => by rw [hb1, hb2]; exact m7 c j hj) hX
              have hKa : Keep w w (Fz X E σ w) (Fz X E (poison [id0] σ) w) E E σ (poison [id0] σ) := keep_bx poison_ids rfl rfl rfl hr.ge
              have hKc : Keep w3 w3 (Fz X E (poison [id0] σ) w3) (Fz X E ({ σ with bx := setBx id0 ⟨t, vv, List.replicate t.nl 0⟩ σ.bx } : St) w3) E E (poison [id0] σ) ({ σ with bx := setBx id0 ⟨t, vv, List.replicate t.nl 0⟩ σ.bx } : St) :=
                keep_bx (by rw [poison_ids]; exact setBx_ids σ.bx) rfl rfl rfl hr3.ge
              have K := (hKa.trans K1).trans hKc
              have hrow := rows_mu hmu hpre.args
              have hw0 : X.w0.heap.size ≤ w.heap.size := hr.fr.size
              have hfresh : ∀ c, w.heap.size ≤ c → c < w3.heap.size → Fz X E (poison [id0] σ) w3 c := fun c q1 q2 =>
                ⟨hr.new c (Nat.le_trans hw0 q1), q2, fun hn => by have := ((hr.poison [id0]).lt c hn).1; omega⟩
              have hAF : shares fn.s = true → ∀ c, After w w3 A fs (flatB bo ++ flatB br) c → Fz X E (poison [id0] σ) w3 c := fun hs c hc => by
                obtain ⟨q1, q2, _⟩ := hc
                rcases q1 with q1 | q1 | q1
                · exact ((hKa.trans K1).A c (hA hs c q1)).1
                · rw [hrow] at q1; cases q1
                · exact hfresh c q1 q2
              have hrf : Rf w3 (Fz X E (poison [id0] σ) w3) t vv cs := by
                rcases m9 with m9 | m9
                · exact rf_any m9 m5
                · exact m5.mono (hAF (by simp only [shares, Bool.or_eq_true]; exact .inr m9)) (fun _ _ => rfl)
              obtain ⟨cur, hcur, hcsz⟩ : ∃ cur, w3.heap[b]? = some (.cells cur ec (0, 0)) ∧ cur.size = c0.size := by
                rcases hp.fr.block b (Array.getElem?_eq_some_iff.1 m8).1 with q1 | ⟨d, d', e', q1, q2, q3, _⟩
                · exact ⟨c0, q1.trans m8, rfl⟩
                · rw [m8] at q1
                  simp only [Option.some.injEq, Obj.cells.injEq, and_true] at q1
                  obtain ⟨rfl, rfl⟩ := q1
                  exact ⟨d', q2, q3⟩
              have hnt : 0 < (poison [id0] σ).nt := by have := hr.nt2; show 0 < σ.nt; omega
              have hz : 0 ∉ (poison [id0] σ).al := fun hn => by have := (hr.alr 0 hn).1; omega
              have hr4 : RelE X E ({ σ with bx := setBx id0 ⟨t, vv, List.replicate t.nl 0⟩ σ.bx } : St) a.tmps w3 :=
                hr3.fill (id := id0) (x := ⟨t, vv, List.replicate t.nl 0⟩) (cs := cs) (cur := cur) (e := ec) (by rw [poison_ids]; exact setBx_ids σ.bx) rfl rfl rfl rfl rfl (fun b' hb' => by
                  rcases setBx_mem hr.ids hb' with rfl | ⟨q1, q2⟩
                  · exact .inl rfl
                  · right
                    simp only [poison, List.mem_map]
                    exact ⟨b', q1, by simp [q2]⟩) (hr.idlt _ hmem) (rv_of_rf hnt hz hrf) (by simp) (by rw [hb1]; exact hcur) (by rw [hb2, hrf.length, hcsz]; exact m8') (by rw [hb1, hb2]; exact m6) hX
              refine ⟨_, rfl, hr4, K, hp.fr.size, fun c hc => ?_, ?_⟩
              · refine hoth c (hr.lt c (mem_out hr hc)).1 (fun he => ?_)
                have hn := hr.nodup
                simp only [owned] at hn
                exact (List.nodup_append.1 hn).2.2 _ (List.mem_map.2 ⟨_, hmem, rfl⟩) c (List.mem_append_right _ hc) he.symm
              · obtain ⟨k1, k2⟩ := res0_ok (w := w3) (E := E) (σ := poison [id0] σ) (B := Fz X E (poison [id0] σ) w3) hnt hz hres (fun b' hb' => by
                  obtain ⟨q1, q2⟩ := hrets b' (List.mem_append_right _ hb')
                  rcases q1 with q1 | q1
                  · rw [hrow] at q1; cases q1
                  · exact hfresh b' q1 q2) (by
                  cases hs : shares fn.s with
                  | false => left; simp only [shares, Bool.or_eq_false_iff] at hs; exact hs.1
                  | true => right; exact hAF hs)
                exact hKc.slot (resVal_slot k1 k2)
          · cases h1
  · cases h
end
end Go.Proofs.Ytcdncdbghghnfaa.V
namespace Go.Proofs.Ytcdncdbghghnfaa.V
open Go
section
variable {P : Program} {X : Ctx} {E : Env} {σ : St} {a : Act} {w : World} {R : Type} {ops : Array Oper} {D : List Nat} {m n : Nat} {inf : Nat → Tmp × Array Value × TypeId} {S : Nat → Slot} {ids : List Nat} {B : Nat → List Bx}
def efB (T : Tabs) (ops : Array Oper) (i : Nat) : Bool := match ops[i]? with
  | some o => isEff T o.op
  | none => false
/-- What is known of one operation of such a head. -/
def GCert (P : Program) (T : Tabs) (X : Ctx) (D : List Nat) (ops : Array Oper) (ids : List Nat) (S : Nat → Slot) (B : Nat → List Bx) (σ : St) (i : Nat) (o : Oper) : Prop :=
  o.guard = none ∧ ((efB T ops i = true ∧ ∃ σ2, Sees D ops S { σ with bx := B i } σ2 i o ∧ ∀ (E : Env) (a : Act) (w : World), RelE X E σ2 a.tmps w → effUpon P X E σ2 { σ2 with bx := B (i + 1) } a.tmps w (S i) ((execOp a.eval o).run P w)) ∨
    (efB T ops i = false ∧ B (i + 1) = B i ∧ ∃ σ2, Sees D ops S (poison ids σ) σ2 i o ∧ ∀ (E : Env) (a : Act) (w : World), RelE X E σ2 a.tmps w → slotUpon P X E σ2 w (S i) ((execOp a.eval o).run P w)))
theorem GCert.congr {T : Tabs} {S' : Nat → Slot} {B' : Nat → List Bx} {i : Nat} {o : Oper} (h : GCert P T X D ops ids S B σ i o) (hs : ∀ k, k < i + 1 → S' k = S k) (hb : ∀ k, k ≤ i + 1 → B' k = B k) : GCert P T X D ops ids S' B' σ i o := by
  obtain ⟨h0, h⟩ := h
  refine ⟨h0, ?_⟩
  rw [hb (i + 1) (by omega), hb i (by omega), hs i (by omega)]
  rcases h with ⟨h1, σ2, h2, h3⟩ | ⟨h1, h2, σ2, h3, h4⟩
  · exact .inl ⟨h1, σ2, h2.congr (fun k hk => hs k (by omega)), h3⟩
  · exact .inr ⟨h1, h2, σ2, h3.congr (fun k hk => hs k (by omega)), h4⟩
theorem Walk.rebx {i : Nat} {σi : St} (h : Walk ops S σ σi i) (b : List Bx) : Walk ops S { σ with bx := b } { σi with bx := b } i := ⟨⟨rfl, h.same.al, h.same.fz, h.same.ln, h.same.nt, h.same.len⟩, h.slot⟩
theorem poison_set {id : Nat} {x : Val} (hid : ids.contains id = true) : ∀ (l : List Bx), (setBx id x l).map (fun b => bif ids.contains b.id then (⟨b.id, ⟨.unit, (), []⟩⟩ : Bx) else b) = l.map (fun b => bif ids.contains b.id then (⟨b.id, ⟨.unit, (), []⟩⟩ : Bx) else b) := by
  intro l
  induction l with
  | nil => rfl
  | cons b l ih =>
    simp only [setBx]
    by_cases hb : b.id = id
    · rw [if_pos hb, List.map_cons, List.map_cons]
      congr 1
      rw [hb]
      simp only [hid, cond_true]
    · rw [if_neg hb, List.map_cons, List.map_cons, ih]
theorem g_cert (T : Tabs) (hT : TabOk P T.T) (hF : FOk P T.F) (H : HeadOk ops D m n) : ∀ {l : List (Oper × Nat)} {i : Nat} {σi : St} {k : St → Option R} {r : R} {S : Nat → Slot} {B : Nat → List Bx},
    gK T D ops ids l σi k = some r → Contig i l → (∀ q ∈ l, ops[q.2]? = some q.1) → i + l.length ≤ m → (∀ q ∈ l, ∃ d, q.1.dst = some d) → Walk ops S { σ with bx := B i } σi i → (∀ j, j ≤ i → poison ids { σ with bx := B j } = poison ids σ) →
    ∃ S' B' σ', (∀ j, j < i → S' j = S j) ∧ (∀ j, j ≤ i → B' j = B j) ∧ (∀ j o, i ≤ j → j < i + l.length → ops[j]? = some o → GCert P T X D ops ids S' B' σ j o) ∧ Walk ops S' { σ with bx := B' (i + l.length) } σ' (i + l.length) ∧
      (∀ j, j ≤ i + l.length → poison ids { σ with bx := B' j } = poison ids σ) ∧ k σ' = some r := by
  intro l
  induction l with
  | nil => intro i σi k r S B h hc hi hm hh hw hp; exact ⟨S, B, σi, fun _ _ => rfl, fun _ _ => rfl, fun j o h1 h2 => by simp at h2; omega, hw, hp, h⟩
  | cons o l ih =>
    intro i σi k r S B h hc hi hm hh hw hp
    have ho := hi o List.mem_cons_self
    have ho2 : o.2 = i := hc.1
    rw [ho2] at ho
    have him : i < m := by simp at hm; omega
    obtain ⟨d, hd⟩ := hh o List.mem_cons_self
    have hbi : σi.bx = B i := hw.same.bx
    -- the rest
    have fin : ∀ (s : Slot) (bn : List Bx) (σn : St), σn = ({ σi with bx := bn } : St).put o.1.dst s → poison ids { σ with bx := bn } = poison ids σ → gK T D ops ids l σn k = some r → (∀ (S' : Nat → Slot) (B' : Nat → List Bx), (∀ j, j < i → S' j = S j) → S' i = s → (∀ j, j ≤ i → B' j = B j) → B' (i + 1) = bn → GCert P T X D ops ids S' B' σ i o.1) →
        ∃ S' B' σ', (∀ j, j < i → S' j = S j) ∧ (∀ j, j ≤ i → B' j = B j) ∧ (∀ j p, i ≤ j → j < i + (o :: l).length → ops[j]? = some p → GCert P T X D ops ids S' B' σ j p) ∧ Walk ops S' { σ with bx := B' (i + (o :: l).length) } σ' (i + (o :: l).length) ∧
          (∀ j, j ≤ i + (o :: l).length → poison ids { σ with bx := B' j } = poison ids σ) ∧ k σ' = some r := by
      intro s bn σn hσ hpn hg hcert
      have hS1 : ∀ j, j < i → (fun j => if j = i then s else S j) j = S j := fun j hj => if_neg (by omega)
      have hB1 : ∀ j, j ≤ i → (fun j => if j = i + 1 then bn else B j) j = B j := fun j hj => if_neg (by omega)
      have hw1 : Walk ops (fun j => if j = i then s else S j) { σ with bx := (fun j => if j = i + 1 then bn else B j) (i + 1) } σn (i + 1) := by
        rw [hσ]
        have := (hw.rebx bn).put (S' := fun j => if j = i then s else S j) ho hd s hS1 (if_pos rfl)
        simpa using this
      obtain ⟨S', B', σ', q1, q2, q3, q4, q5, q6⟩ := ih (S := fun j => if j = i then s else S j) (B := fun j => if j = i + 1 then bn else B j) hg hc.2 (fun q hq => hi q (List.mem_cons_of_mem _ hq)) (by simp at hm; omega) (fun q hq => hh q (List.mem_cons_of_mem _ hq)) hw1 (fun j hj => by
        by_cases hji : j = i + 1
        · simp only [hji, if_true]; exact hpn
        · simp only [if_neg hji]; exact hp j (by omega))
      have hlen : i + (o :: l).length = i + 1 + l.length := by simp; omega
      rw [hlen]
      refine ⟨S', B', σ', fun j hj => (q1 j (by omega)).trans (hS1 j hj), fun j hj => (q2 j (by omega)).trans (hB1 j hj), fun j p h3 h4 hp' => ?_, q4, q5, q6⟩
      by_cases hji : j = i
      · subst hji
        rw [ho] at hp'
        have := Option.some.inj hp'
        subst this
        exact hcert S' B' (fun k hk => (q1 k (by omega)).trans (hS1 k hk)) ((q1 j (by omega)).trans (if_pos rfl)) (fun k hk => (q2 k (by omega)).trans (hB1 k hk)) ((q2 (j + 1) (by omega)).trans (if_pos rfl))
      · exact q3 j p (by omega) h4 hp'
    simp only [gK] at h
    cases he : isEff T o.1.op with
    | true =>
      rw [he] at h
      simp only [cond_true] at h
      have hef : efB T ops i = true := by simp only [efB, ho, he]
      cases hgu : o.1.guard.isNone with
      | false => rw [hgu] at h; simp at h
      | true =>
        rw [hgu] at h
        simp only [cond_true] at h
        have hg0 : o.1.guard = none := by simpa using hgu
        obtain ⟨id, x, s, h1, h2⟩ := effK_nat T h
        cases hid : ids.contains id with
        | false => rw [hid] at h1; simp at h1
        | true =>
          rw [hid] at h1
          simp only [cond_true] at h1
          refine fin s (setBx id x σi.bx) _ rfl ?_ h1 (fun S' B' e1 e2 e3 e4 => ⟨hg0, .inl ⟨hef, hide D (o.1.looksAt ops) σi, ?_, fun E a w hr => ?_⟩⟩)
          · rw [hbi]
            have := hp i (Nat.le_refl i)
            simp only [poison] at this ⊢
            rw [poison_set hid]
            exact this
          · have := (hw.sees H him ho).congr e1
            rw [e3 i (Nat.le_refl i)]; exact this
          · rw [e2, e4]
            exact eff_ok T hT hF (h2 _ _) hr
    | false =>
      rw [he] at h
      simp only [cond_false] at h
      have hef : efB T ops i = false := by simp only [efB, ho, he]
      cases hgu : o.1.guard.isNone && headOp T o.1.op with
      | false => rw [hgu] at h; simp at h
      | true =>
        rw [hgu] at h
        simp only [cond_true] at h
        simp only [Bool.and_eq_true] at hgu
        have hg0 : o.1.guard = none := by simpa using hgu.1
        obtain ⟨s, h1, h2⟩ := slotK_nat T hgu.2 h
        refine fin s (B i) _ (by rw [← hbi]) (hp i (Nat.le_refl i)) h1 (fun S' B' e1 e2 e3 e4 => ⟨hg0, .inr ⟨hef, by rw [e4, e3 i (Nat.le_refl i)], hide D (o.1.looksAt ops) (poison ids σi), ?_, fun E a w hr => ?_⟩⟩)
        · have hwp : Walk ops S (poison ids σ) (poison ids σi) i := by
            have h3 := hp i (Nat.le_refl i)
            have h4 : (poison ids σi).bx = (poison ids σ).bx := by rw [← h3]; simp only [poison, hbi]
            exact ⟨⟨h4, hw.same.al, hw.same.fz, hw.same.ln, hw.same.nt, hw.same.len⟩, hw.slot⟩
          exact (hwp.sees H him ho).congr e1
        · rw [e2]
          exact slotK_ok T hT hF hgu.2 (h2 _ _) hr
/-- What holds while such a head is drawn. -/
structure GInv (T : Tabs) (X : Ctx) (E : Env) (ops : Array Oper) (m n : Nat) (inf : Nat → Tmp × Array Value × TypeId) (S : Nat → Slot) (B : Nat → List Bx) (σ : St) (ids : List Nat) (a : Act) (w : World) (bl : Nat → Nat) (l : List Nat) (listed : Array Bool) (a' : Act) (w' : World) : Prop where
  head : HeadInv .any ops n listed
  full : ∃ c, c ≤ m ∧ RelE X (E.outs (l ++ E.out)) { σ with bx := B c } a.tmps w' ∧ ∀ i, i < m → efB T ops i = true → (listed.getD i false = true ↔ i < c)
  hsz : w.heap.size ≤ w'.heap.size
  dfr : a'.defers = a.defers
  siz : a'.tmps.size = a.tmps.size
  oth : ∀ t, (∀ i o, i < n → ops[i]? = some o → o.dst ≠ some t) → a'.tmps[t]? = a.tmps[t]?
  slt : ∀ i o d u, i < m → ops[i]? = some o → o.dst = some d → listed.getD i false = true → a'.tmps[d]? = some u → SlotOk w' (Fz X (E.outs (l ++ E.out)) (poison ids σ) w') (E.outs (l ++ E.out)) (poison ids σ) (S i) u
  new : ∀ i, m ≤ i → i < n → listed.getD i false = true → (∀ b : Act, b.tmps.size = a.tmps.size → a'.tmps[(inf i).1]? = (b.put (some (inf i).1) (.pointer (some ⟨bl i, 0, none⟩))).tmps[(inf i).1]?) ∧
    w.heap.size ≤ bl i ∧ bl i < w'.heap.size ∧ w'.heap[bl i]? = some (.cells (inf i).2.1 (inf i).2.2 (0, 0))
  inj : ∀ i j, m ≤ i → i < n → m ≤ j → j < n → listed.getD i false = true → listed.getD j false = true → bl i = bl j → i = j
  lfr : ∀ b ∈ l, w.heap.size ≤ b ∧ b < w'.heap.size
  lmem : ∀ i, m ≤ i → i < n → listed.getD i false = true → bl i ∈ l
section
variable {T : Tabs} {bl : Nat → Nat} {l : List Nat} {listed : Array Bool} {a' : Act} {w' : World}
theorem GInv.base (inv : GInv T X E ops m n inf S B σ ids a w bl l listed a' w') (hP : ∀ c, c ≤ m → poison ids { σ with bx := B c } = poison ids σ) : RelE X (E.outs (l ++ E.out)) (poison ids σ) a.tmps w' := by
  obtain ⟨c, hc, hr, _⟩ := inv.full
  have := hr.poison ids
  rwa [hP c hc] at this
theorem GInv.rel (inv : GInv T X E ops m n inf S B σ ids a w bl l listed a' w') {σ0 σ2 : St} (hr : RelE X (E.outs (l ++ E.out)) σ0 a.tmps w') (hK : Keep w' w' (Fz X (E.outs (l ++ E.out)) (poison ids σ) w') (Fz X (E.outs (l ++ E.out)) σ0 w') (E.outs (l ++ E.out)) (E.outs (l ++ E.out)) (poison ids σ) σ0) (hs : SameB σ0 σ2)
    (h : ∀ t s, σ2.fr[t]? = some s → s = .no ∨ ((∀ j p, j < n → ops[j]? = some p → p.dst ≠ some t) ∧ σ0.fr[t]? = some s) ∨ ∃ j p, j < m ∧ ops[j]? = some p ∧ p.dst = some t ∧ listed.getD j false = true ∧ s = S j) : RelE X (E.outs (l ++ E.out)) σ2 a'.tmps w' := by
  refine hr.frames hs inv.siz (fun t s v h1 h2 => ?_)
  rcases h t s h1 with h3 | ⟨h3, h4⟩ | ⟨j, p, q1, q2, q3, q4, q5⟩
  · subst h3; trivial
  · rw [inv.oth t h3] at h2
    exact hr.slot t s v h4 h2
  · subst q5
    exact hK.slot (inv.slt j p t v q1 q2 q3 q4 h2)
end
theorem Keep.self {σ0 : St} {A0 : Array Value} (hr : RelE X E σ0 A0 w) : Keep w w (Fz X E σ0 w) (Fz X E σ0 w) E E σ0 σ0 := keep_bx rfl rfl rfl rfl hr.ge
/-- One more block is set aside. -/
theorem alloc_out {l : List Nat} {σ0 : St} {A0 : Array Value} (hr : RelE X (E.outs (l ++ E.out)) σ0 A0 w) (ob : Obj) : RelE X (E.outs ((w.heap.size :: l) ++ E.out)) σ0 A0 (w.alloc ob) := by
  have hext := Ext.alloc w ob
  have hnd : (l ++ E.out).Nodup := by
    have := hr.nodup
    simp only [owned] at this
    exact (List.nodup_append.1 (List.nodup_append.1 this).2.1).2.1
  have hltE : ∀ b ∈ l ++ E.out, b < w.heap.size := fun b hb => (hr.lt b (mem_out hr hb)).1
  exact (hr.world (w1 := w.alloc ob) (l := (w.heap.size :: l) ++ E.out) (fun b hb _ => hext.block b hb) (hr.fr.ext hext) hext.size (by
    rw [List.cons_append]
    exact List.nodup_cons.2 ⟨fun h => by have := hltE _ h; omega, hnd⟩) (fun b hb => by
    rw [List.cons_append] at hb
    rcases List.mem_cons.1 hb with rfl | hb
    · exact ⟨.inr (Nat.le_refl _), by simp⟩
    · exact ⟨.inl hb, Nat.lt_of_lt_of_le (hltE b hb) hext.size⟩)).1
theorem g_any (T : Tabs) {Q : Exit → Act → World → Prop} (hQp : ∀ c a w, ¬ Q (.panic c) a w) (hB : mixB ops m n = true) (H : HeadOk ops D m n) (hr : RelE X E σ a.tmps w) (hcert : ∀ i o, i < m → ops[i]? = some o → GCert P T X D ops ids S B σ i o)
    (hP : ∀ c, c ≤ m → poison ids { σ with bx := B c } = poison ids σ) (hch : ∀ i j, i < m → j < i → efB T ops i = true → efB T ops j = true → Region.waitsFor .any ops i j = true)
    (hnew : ∀ i, m ≤ i → i < n → ∃ o, ops[i]? = some o ∧ NewAt P o (inf i).1 (inf i).2.1 (inf i).2.2)
    (hQ : ∀ (a' : Act) (w' : World) (bl : Nat → Nat) (l : List Nat) (listed : Array Bool), (∀ i, i < n → listed.getD i false = true) → GInv T X E ops m n inf S B σ ids a w bl l listed a' w' → wpOps P ops Q (List.range' n (ops.size - n)) a' w') :
    ∀ (k : Nat) (listed : Array Bool) (a' : Act) (w' : World) (bl : Nat → Nat) (l : List Nat), (List.range n).countP (fun i => !listed.getD i true) = k → GInv T X E ops m n inf S B σ ids a w bl l listed a' w' → wpAny P .any ops Q (k + (ops.size - n)) listed a' w' := by
  simp only [mixB, Bool.and_eq_true, decide_eq_true_eq, List.all_eq_true, List.mem_range] at hB
  obtain ⟨⟨⟨⟨⟨hsel, hmn⟩, hns⟩, hops⟩, htail⟩, hseq⟩ := hB
  have hop : ∀ i, i < n → ∃ o d, ops[i]? = some o ∧ o.dst = some d ∧ (∀ e ∈ o.after, Region.binds .any e = true → e.on < i) ∧ (∀ j p, j < n → j ≠ i → ops[j]? = some p → p.dst ≠ some d) ∧
      (i < m → ∀ j p t, j < n → ops[j]? = some p → p.dst = some t → t ∈ o.looksAt ops → j < i ∧ Region.waitsFor .any ops i j = true) ∧
      (n < ops.size → (lateB ops m n i = true → bareOp o = true ∧ ∀ j p, ops[j]? = some p → j ≠ i → Region.waitsFor .any ops j i = true ∨ Region.waitsFor .any ops i j = true ∨ o.apart ops p = true) ∧
        (lateB ops m n i = false → ∃ j, j ≤ n ∧ i < j ∧ Region.waitsFor .any ops j i = true ∧ (j = n ∨ lateB ops m n j = false))) := by
    intro i hi
    have h := hops i hi
    cases ho : ops[i]? with
    | none => rw [ho] at h; simp at h
    | some o =>
      rw [ho] at h
      simp only [Bool.and_eq_true, List.all_eq_true, List.mem_range] at h
      obtain ⟨⟨⟨⟨h1, h2⟩, h3⟩, h4⟩, h5⟩ := h
      cases hd : o.dst with
      | none => rw [hd] at h1; simp at h1
      | some d =>
        refine ⟨o, d, rfl, hd, fun e he hb => ?_, fun j p hj hne hp he => ?_, fun him j p t hj hp ht hl => ?_, fun hlt => ?_⟩
        · have := Array.all_eq_true_iff_forall_mem.1 h2 e he
          simp only [hb, Bool.not_true, Bool.false_or, decide_eq_true_eq] at this
          exact this
        · have := h3 j hj
          rw [hp] at this
          simp only [Bool.or_eq_true, beq_iff_eq, Bool.not_eq_true', beq_eq_false_iff_ne, ne_eq] at this
          rcases this with h | h
          · exact hne h
          · exact h (he.trans hd.symm)
        · simp only [Bool.or_eq_true, decide_eq_true_eq, List.all_eq_true, List.mem_range] at h4
          rcases h4 with h | h
          · omega
          · have := h j hj
            rw [hp] at this
            simp only [Option.bind_some, ht, Bool.or_eq_true, Bool.not_eq_true', Bool.and_eq_true, decide_eq_true_eq] at this
            rcases this with h | h
            · simp [List.contains_iff_mem, hl] at h
            · exact ⟨h.1.2, h.2⟩
        · have h6 : (bif lateB ops m n i then bareOp o && (List.range ops.size).all (fun j => j == i || Region.waitsFor .any ops j i || Region.waitsFor .any ops i j || (match ops[j]? with | some p => o.apart ops p | none => true))
              else (List.range (n + 1)).any (fun j => decide (i < j) && Region.waitsFor .any ops j i && (j == n || !lateB ops m n j))) = true := by
            rcases Bool.or_eq_true _ _ ▸ h5 with h | h
            · have : n = ops.size := by simpa using h
              omega
            · exact h
          refine ⟨fun hla => ?_, fun hla => ?_⟩
          · rw [hla] at h6
            simp only [cond_true, Bool.and_eq_true, List.all_eq_true, List.mem_range] at h6
            refine ⟨h6.1, fun j p hp hne => ?_⟩
            have := h6.2 j (Array.getElem?_eq_some_iff.1 hp).1
            rw [hp] at this
            simp only [Bool.or_eq_true, beq_iff_eq] at this
            rcases this with ((h | h) | h) | h
            · exact absurd h hne
            · exact .inl h
            · exact .inr (.inl h)
            · exact .inr (.inr h)
          · rw [hla] at h6
            simp only [cond_false, List.any_eq_true, List.mem_range, Bool.and_eq_true, decide_eq_true_eq, Bool.or_eq_true, beq_iff_eq, Bool.not_eq_true'] at h6
            obtain ⟨j, h7, ⟨h8, h9⟩, h10⟩ := h6
            exact ⟨j, by omega, h8, h9, h10⟩
  have hsame : ∀ c i, c ≤ i → i ≤ m → (∀ j, c ≤ j → j < i → efB T ops j = false) → B i = B c := by
    intro c i hci him h
    induction i with
    | zero => have : c = 0 := by omega
              rw [this]
    | succ i ihi =>
      by_cases hc : c = i + 1
      · rw [hc]
      · have hlt : i < ops.size := by have := H.le; omega
        rcases hcert i _ (by omega) (Array.getElem?_eq_getElem hlt) with ⟨_, ⟨h1, _⟩ | ⟨_, h2, _⟩⟩
        · rw [h i (by omega) (by omega)] at h1; cases h1
        · rw [h2]; exact ihi (by omega) (by omega) (fun j h3 h4 => h j h3 (by omega))
  intro k
  induction k with
  | zero =>
    intro listed a' w' bl l hk inv
    have hall : ∀ i, i < n → listed.getD i false = true := by
      intro i hi
      refine listed_of_not (by rw [inv.head.size]; omega) (fun h => ?_)
      have := List.countP_eq_zero.1 hk i (List.mem_range.2 hi)
      simp [h] at this
    have hl : listed = (List.range n).foldl (fun l i => l.setIfInBounds i true) (Array.replicate ops.size false) := by
      obtain ⟨s1, _, _⟩ := fold_listed n 0 (Array.replicate ops.size false)
      apply Array.ext_getElem?
      intro i
      obtain ⟨_, s2, s3⟩ := fold_listed n i (Array.replicate ops.size false)
      by_cases hi : i < n
      · rw [s2 hi (by simp; omega)]
        have := hall i hi
        have hlt : i < listed.size := by rw [inv.head.size]; omega
        simpa [Array.getD_eq_getD_getElem?, Array.getElem?_eq_getElem hlt] using this
      · rw [s3 (by omega)]
        by_cases hs : i < ops.size
        · have := inv.head.tail i (by omega) hs
          have hlt : i < listed.size := by rw [inv.head.size]; omega
          simp [Array.getD_eq_getD_getElem?, Array.getElem?_eq_getElem hlt] at this
          rw [Array.getElem?_eq_getElem hlt, this]
          simp [hs]
        · rw [Array.getElem?_eq_none (by rw [inv.head.size]; omega), Array.getElem?_eq_none (by simp; omega)]
    rw [Nat.zero_add]
    exact any_of_seq _ _ _ _ _ (by rw [hl]; exact hseq) (hQ a' w' bl l listed hall inv)
  | succ k ih =>
    intro listed a' w' bl l hk inv
    rw [show k + 1 + (ops.size - n) = (k + (ops.size - n)) + 1 by omega]
    have hex : ∃ i, i < n ∧ listed.getD i true = false := by
      obtain ⟨i, hi, h⟩ := List.countP_pos_iff.1 (show 0 < (List.range n).countP (fun i => !listed.getD i true) by omega)
      exact ⟨i, List.mem_range.1 hi, by simpa using h⟩
    -- the least that is still to come waits for nothing
    have hmin : ∃ i, i < n ∧ listed.getD i true = false ∧ i ∈ Region.ready .any ops listed := by
      obtain ⟨i, hi, h⟩ := hex
      induction i using Nat.strongRecOn with
      | _ i ihi =>
        by_cases hlow : ∃ j, j < i ∧ listed.getD j true = false
        · obtain ⟨j, hj, hj2⟩ := hlow
          exact ihi j hj (by omega) hj2
        · obtain ⟨o, d, e1, _, e3, _⟩ := hop i hi
          refine ⟨i, hi, h, mem_ready.2 ⟨h, o, e1, fun e he hb => ?_⟩⟩
          have hlt := e3 e he hb
          exact listed_of_not (by rw [inv.head.size]; omega) (fun hn => hlow ⟨e.on, hlt, hn⟩)
    have hcount : ∀ i, i < n → listed.getD i true = false → (List.range n).countP (fun j => !(listed.setIfInBounds i true).getD j true) = k := by
      intro i hin hun
      have := countP_one (f := fun j => !listed.getD j true) (g := fun j => !(listed.setIfInBounds i true).getD j true) (i := i) (List.nodup_range) (List.mem_range.2 hin) (by simp only [hun]; rfl)
        (by
          have hlt : i < listed.size := by rw [inv.head.size]; omega
          simp [Array.getD_eq_getD_getElem?, hlt])
        (fun j _ hj => by
          have := getD_set_ne (listed := listed) true (Ne.symm hj)
          simp only [this])
      omega
    have hle := H.le
    have hbase := inv.base hP
    have hset : ∀ i, i < n → listed.getD i true = false → (listed.setIfInBounds i true).getD i false = true := by
      intro i hin _
      have hlt : i < listed.size := by rw [inv.head.size]; omega
      simp [Array.getD_eq_getD_getElem?, hlt]
    have hselfG : ∀ (d : Tmp) (v u : Value), (a'.put (some d) v).tmps[d]? = some u → u = v := by
      intro d v u hu
      simp only [Act.put] at hu
      by_cases hlt : d < a'.tmps.size
      · rw [Array.getElem?_setIfInBounds_self_of_lt hlt] at hu; exact (Option.some.inj hu).symm
      · rw [Array.getElem?_eq_none (by rw [Array.size_setIfInBounds]; exact Nat.le_of_not_lt hlt)] at hu; cases hu
    -- one more is done
    have hnext : ∀ i oi d v w2, i < m → ops[i]? = some oi → oi.dst = some d → i ∈ Region.ready .any ops listed → w'.heap.size ≤ w2.heap.size → (∀ b ∈ l, w2.heap[b]? = w'.heap[b]?) →
        Keep w' w2 (Fz X (E.outs (l ++ E.out)) (poison ids σ) w') (Fz X (E.outs (l ++ E.out)) (poison ids σ) w2) (E.outs (l ++ E.out)) (E.outs (l ++ E.out)) (poison ids σ) (poison ids σ) →
        (∃ c, c ≤ m ∧ RelE X (E.outs (l ++ E.out)) { σ with bx := B c } a.tmps w2 ∧ ∀ j, j < m → efB T ops j = true → ((listed.setIfInBounds i true).getD j false = true ↔ j < c)) →
        SlotOk w2 (Fz X (E.outs (l ++ E.out)) (poison ids σ) w2) (E.outs (l ++ E.out)) (poison ids σ) (S i) v → GInv T X E ops m n inf S B σ ids a w bl l (listed.setIfInBounds i true) (a'.put oi.dst v) w2 := by
      intro i oi d v w2 him hoi hd hi hsz hout K hfull hv
      have hin : i < n := by omega
      obtain ⟨o', d', e1, e2, _, e4, _, _⟩ := hop i hin
      rw [hoi] at e1
      have := Option.some.inj e1
      subst this
      rw [hd] at e2
      have := Option.some.inj e2
      subst this
      have head' := inv.head.set hi hin
      have hput : ∀ t, t ≠ d → (a'.put oi.dst v).tmps[t]? = a'.tmps[t]? := fun t ht => put_other _ _ t (fun e => ht (by rw [hd] at e; exact Option.some.inj e))
      refine ⟨head', hfull, Nat.le_trans inv.hsz hsz, (put_defers _ _).trans inv.dfr, (put_size _ _).trans inv.siz, fun t ht => ?_, fun j p t u hj hp hpt hlj hu => ?_, fun j h1 h2 hlj => ?_, fun j l h1 h2 h3 h4 h5 h6 => ?_, fun b hb => ⟨(inv.lfr b hb).1, Nat.lt_of_lt_of_le (inv.lfr b hb).2 hsz⟩, fun j h1 h2 hlj => inv.lmem j h1 h2 (listed_set hlj (by omega))⟩
      · rw [hput t (fun e => ht i oi hin hoi (by rw [hd, e]))]
        exact inv.oth t ht
      · by_cases hji : j = i
        · subst hji
          rw [hoi] at hp
          have := Option.some.inj hp
          subst this
          rw [hd] at hpt
          have := Option.some.inj hpt
          subst this
          rw [hd] at hu
          rw [hselfG d v u hu]; exact hv
        · rw [hput t (fun e => e4 j p (by omega) hji hp (by rw [hpt, e]))] at hu
          exact K.slot (inv.slt j p t u hj hp hpt (listed_set hlj hji) hu)
      · have hji : j ≠ i := by omega
        have hlj' := listed_set hlj hji
        obtain ⟨n1, n2, n3, n4⟩ := inv.new j h1 h2 hlj'
        obtain ⟨oj, hoj, hN⟩ := hnew j h1 h2
        refine ⟨fun b hb => ?_, n2, Nat.lt_of_lt_of_le n3 hsz, (hout _ (inv.lmem j h1 h2 hlj')).trans n4⟩
        rw [hput _ (fun e => e4 j oj h2 hji hoj (by rw [hN.dst, e]))]
        exact n1 b hb
      · exact inv.inj j l h1 h2 h3 h4 (listed_set h5 (by omega)) (listed_set h6 (by omega))
    -- that looks alone
    have hstep : ∀ i oi d v w2, i < m → ops[i]? = some oi → oi.dst = some d → i ∈ Region.ready .any ops listed → efB T ops i = false → Ext w' w2 → SlotOk w2 (Fz X (E.outs (l ++ E.out)) (poison ids σ) w2) (E.outs (l ++ E.out)) (poison ids σ) (S i) v → GInv T X E ops m n inf S B σ ids a w bl l (listed.setIfInBounds i true) (a'.put oi.dst v) w2 := by
      intro i oi d v w2 him hoi hd hi hef hx hv
      refine hnext i oi d v w2 him hoi hd hi hx.size (fun b hb => hx.block b (inv.lfr b hb).2) (hbase.keepExt hx) ?_ hv
      obtain ⟨c, hc, hrc, hlc⟩ := inv.full
      refine ⟨c, hc, hrc.ext hx, fun j hj hej => ?_⟩
      have hji : j ≠ i := fun e => by rw [e, hef] at hej; cases hej
      have hg : (listed.setIfInBounds i true).getD j false = listed.getD j false := getD_set_ne (listed := listed) false (Ne.symm hji)
      rw [hg]
      exact hlc j hj hej
    have hlistG : ∀ i oi, i ∈ Region.ready .any ops listed → ops[i]? = some oi → i < m → ∀ j p t, j < n → ops[j]? = some p → p.dst = some t → t ∈ oi.looksAt ops → listed.getD j false = true := by
      intro i oi hi hoi him j p t hj hp hpt ht
      obtain ⟨_, o', ho', hwait⟩ := mem_ready.1 hi
      rw [hoi] at ho'
      have := Option.some.inj ho'
      subst this
      obtain ⟨o1, d1, f1, _, _, _, f5, _⟩ := hop i (by omega)
      rw [hoi] at f1
      have := Option.some.inj f1
      subst this
      obtain ⟨_, hw⟩ := f5 him j p t hj hp hpt ht
      obtain ⟨o2, ho2, e, he, hb, hon⟩ := Region.waitsFor_spec hw
      rw [hoi] at ho2
      have := Option.some.inj ho2
      subst this
      have := hwait e he hb
      rwa [hon] at this
    -- what one operation does here
    have hdo : ∀ i, i ∈ Region.ready .any ops listed → i < m → ∃ oi d, ops[i]? = some oi ∧ oi.dst = some d ∧ oi.guard = none ∧ ((efB T ops i = false ∧ slotUpon P X (E.outs (l ++ E.out)) (poison ids σ) w' (S i) ((execOp a'.eval oi).run P w')) ∨
        (efB T ops i = true ∧ ∃ σ2, SameB { σ with bx := B i } σ2 ∧ RelE X (E.outs (l ++ E.out)) { σ with bx := B i } a.tmps w' ∧ effUpon P X (E.outs (l ++ E.out)) σ2 { σ2 with bx := B (i + 1) } a'.tmps w' (S i) ((execOp a'.eval oi).run P w') ∧ (∀ j, j < m → efB T ops j = true → (listed.getD j false = true ↔ j < i)))) := by
      intro i hi hin
      obtain ⟨hun, o', ho', hwait⟩ := mem_ready.1 hi
      obtain ⟨oi, d, hoi, hd, e3, e4, e5, _⟩ := hop i (by omega)
      rw [hoi] at ho'
      have := Option.some.inj ho'
      subst this
      obtain ⟨hg, hc⟩ := hcert i oi hin hoi
      refine ⟨oi, d, hoi, hd, hg, ?_⟩
      have hlist := hlistG i oi hi hoi hin
      rcases hc with ⟨hef, σ2, h3, h4⟩ | ⟨hef, _, σ2, h3, h4⟩
      · right
        obtain ⟨c, hc, hrc, hlc⟩ := inv.full
        have hunf : listed.getD i false ≠ true := fun h => by rw [getD_both hun] at h; cases h
        have hci : c ≤ i := Nat.le_of_not_lt fun h => hunf ((hlc i hin hef).2 h)
        have hnone : ∀ j, c ≤ j → j < i → efB T ops j = false := by
          intro j h1 h2
          cases hej : efB T ops j with
          | false => rfl
          | true =>
            obtain ⟨o2, ho2, e, he, hb, hon⟩ := Region.waitsFor_spec (hch i j hin h2 hef hej)
            rw [hoi] at ho2
            have := Option.some.inj ho2
            subst this
            have h5 := hwait e he hb
            rw [hon] at h5
            have := (hlc j (by omega) hej).1 h5
            omega
        have hBe := hsame c i hci (by omega) hnone
        have hrc' : RelE X (E.outs (l ++ E.out)) { σ with bx := B i } a.tmps w' := by rw [hBe]; exact hrc
        have hK : Keep w' w' (Fz X (E.outs (l ++ E.out)) (poison ids σ) w') (Fz X (E.outs (l ++ E.out)) { σ with bx := B i } w') (E.outs (l ++ E.out)) (E.outs (l ++ E.out)) (poison ids σ) { σ with bx := B i } :=
          keep_bx (by rw [← hP i (by omega), poison_ids]) rfl rfl rfl hbase.ge
        refine ⟨hef, σ2, h3.same, hrc', h4 _ a' w' (inv.rel hrc' hK h3.same fun t s ht => ?_), fun j hj hej => ?_⟩
        · rcases h3.slot t s ht with q1 | ⟨q1, q2⟩ | ⟨j, p, q1, q2, q3, q4, q5⟩
          · exact .inl q1
          · exact .inr (.inl ⟨fun j p hj hp he => q1 ((H.mem t).2 ⟨j, p, hj, hp, he⟩), q2⟩)
          · exact .inr (.inr ⟨j, p, by omega, q2, q3, hlist j p t (by omega) q2 q3 q4, q5⟩)
        · rw [hlc j hj hej]
          refine ⟨fun h => by omega, fun h => ?_⟩
          rcases Nat.lt_or_ge j c with h1 | h1
          · exact h1
          · rw [hnone j h1 h] at hej; cases hej
      · left
        refine ⟨hef, ?_⟩
        have hrel := inv.rel hbase (Keep.self hbase) h3.same fun t s ht => ?_
        · exact upon_same h3.same hbase.ge (h4 _ a' w' hrel)
        · rcases h3.slot t s ht with q1 | ⟨q1, q2⟩ | ⟨j, p, q1, q2, q3, q4, q5⟩
          · exact .inl q1
          · exact .inr (.inl ⟨fun j p hj hp he => q1 ((H.mem t).2 ⟨j, p, hj, hp, he⟩), q2⟩)
          · exact .inr (.inr ⟨j, p, by omega, q2, q3, hlist j p t (by omega) q2 q3 q4, q5⟩)
    -- one that is late is taken first
    by_cases hlt : ∃ i, i ∈ Region.ready .any ops listed ∧ n < ops.size ∧ lateB ops m n i = true
    · obtain ⟨i, hi, hns', hla⟩ := hlt
      have him : i < m := by simp only [lateB, Bool.and_eq_true, decide_eq_true_eq] at hla; exact hla.1
      obtain ⟨hun, _, _, hwait⟩ := mem_ready.1 hi
      obtain ⟨oi, d, hoi, hd, _, hcase⟩ := hdo i hi him
      obtain ⟨o, d', e1, e2, e3, e4, e5, e6⟩ := hop i (by omega)
      rw [hoi] at e1
      have := Option.some.inj e1
      subst this
      obtain ⟨hbare, hap⟩ := (e6 hns').1 hla
      rcases hcase with ⟨hef, h3⟩ | ⟨hef, _⟩
      · obtain ⟨v, hv, hy⟩ := bare_upon (ops := ops) hbare h3
        rw [hv] at h3
        refine wpAny_first hoi (fun j oj cs b hj => Region.noSelect_spec hsel j oj cs b hj) (fun c a w h => absurd h (hQp c _ w)) _ _ _ _ (fun j oj hj hji hju hno => ?_) hi hy (ih _ _ _ bl l (hcount i (by omega) hun) (hstep i oi d v w' him hoi hd hi hef (Ext.refl _) h3.2))
        rcases hap j oj hj hji with h | h | h
        · obtain ⟨o', ho', e, he, hb, hon⟩ := Region.waitsFor_spec h
          rw [hj] at ho'
          have := Option.some.inj ho'
          subst this
          exact absurd hon (hno e he hb)
        · obtain ⟨o', ho', e, he, hb, hon⟩ := Region.waitsFor_spec h
          obtain ⟨_, o2, ho2, hw2⟩ := mem_ready.1 hi
          rw [ho'] at ho2
          have := Option.some.inj ho2
          subst this
          have h1 := hw2 e he hb
          rw [hon, getD_both hju] at h1
          cases h1
        · exact h
      · exfalso
        simp only [efB, hoi] at hef
        simp only [bareOp, Bool.and_eq_true] at hbare
        have h2 := hbare.2
        split at h2
        · rename_i ho; rw [ho] at hef; simp [isEff] at hef
        · rename_i ho; rw [ho] at hef; simp [isEff] at hef
        · rename_i ho; rw [ho] at hef; simp [isEff] at hef
        · cases h2
    have hlow : ∀ i ∈ Region.ready .any ops listed, i < n := by
      intro i hi
      obtain ⟨hun, oi, hoi, _⟩ := mem_ready.1 hi
      have hlt' : i < ops.size := (Array.getElem?_eq_some_iff.1 hoi).1
      rcases Nat.lt_or_ge i n with h | h
      · exact h
      · exfalso
        simp only [Bool.or_eq_true, beq_iff_eq] at htail
        rcases htail with h' | h2
        · omega
        · obtain ⟨j, hj, hj2, hj3⟩ := hmin
          have hnl : lateB ops m n j = false := by
            cases hla : lateB ops m n j with
            | false => rfl
            | true => exact absurd ⟨j, hj3, by omega, hla⟩ hlt
          exact tail_waits2 (fun i hi hl => ((hop i hi).choose_spec.choose_spec.2.2.2.2.2 (by omega)).2 hl) h2 (by omega) inv.head _ j rfl hj hnl hj2 i h hi
    refine ⟨fun h => ?_, fun i hi => ?_⟩
    · obtain ⟨i, _, _, hi⟩ := hmin
      rw [h] at hi; cases hi
    · have hin := hlow i hi
      obtain ⟨hun, _, _, _⟩ := mem_ready.1 hi
      by_cases him : i < m
      · obtain ⟨oi, d, hoi, hd, hg, hcase⟩ := hdo i hi him
        unfold wpOp
        simp only [hoi, Region.wanted, hg, if_true]
        left
        unfold Oper.wp
        rcases hcase with ⟨hef, h3⟩ | ⟨hef, σ2, hs2, hrc, h3, hlc⟩
        · generalize (execOp a'.eval oi).run P w' = q at h3
          cases q with
          | halt x w2 => exact h3.elim
          | ok n w2 =>
            cases n with
            | value u => simp only [Oper.upon]; exact ih _ _ _ bl l (hcount i hin hun) (hstep i oi d u w2 him hoi hd hi hef h3.1 h3.2)
            | enter f args =>
              obtain ⟨e1, hc⟩ := h3
              simp only [Oper.upon]
              rw [e1]
              exact hc.mono fun e w3 ⟨v, he, hx, hs⟩ => by
                subst he
                exact ih _ _ _ bl l (hcount i hin hun) (hstep i oi d v w3 him hoi hd hi hef hx hs)
            | _ => exact h3.elim
        · generalize (execOp a'.eval oi).run P w' = q at h3
          cases q with
          | halt x w2 => exact h3.elim
          | ok n w2 =>
            cases n with
            | enter f args =>
              obtain ⟨e1, hc⟩ := h3
              simp only [Oper.upon]
              rw [e1]
              exact hc.mono fun e w3 ⟨v, he, hr3, hK, hsz3, hout3, hs⟩ => by
                subst he
                have hid2 : σ2.bx.map (·.id) = (poison ids σ).bx.map (·.id) := by rw [hs2.bx, ← hP i (by omega), poison_ids]
                have hge2 : ∀ τ ∈ σ2.al, 2 ≤ τ ∧ τ ∉ σ2.fz := fun τ hτ => by
                  rw [hs2.al] at hτ
                  rw [hs2.fz]
                  exact hbase.ge τ hτ
                have K0 : Keep w' w' (Fz X (E.outs (l ++ E.out)) (poison ids σ) w') (Fz X (E.outs (l ++ E.out)) σ2 w') (E.outs (l ++ E.out)) (E.outs (l ++ E.out)) (poison ids σ) σ2 := keep_bx hid2 hs2.al hs2.fz hs2.nt hbase.ge
                have hidn : (poison ids σ).bx.map (·.id) = (B (i + 1)).map (·.id) := by rw [← hP (i + 1) (by omega), poison_ids]
                have K1 : Keep w3 w3 (Fz X (E.outs (l ++ E.out)) ({ σ2 with bx := B (i + 1) } : St) w3) (Fz X (E.outs (l ++ E.out)) (poison ids σ) w3) (E.outs (l ++ E.out)) (E.outs (l ++ E.out)) ({ σ2 with bx := B (i + 1) } : St) (poison ids σ) := keep_bx hidn hs2.al.symm hs2.fz.symm hs2.nt.symm hge2
                have Kc : Keep w' w' (Fz X (E.outs (l ++ E.out)) ({ σ with bx := B i } : St) w') (Fz X (E.outs (l ++ E.out)) σ2 w') (E.outs (l ++ E.out)) (E.outs (l ++ E.out)) ({ σ with bx := B i } : St) σ2 := keep_bx (by rw [hs2.bx]) hs2.al hs2.fz hs2.nt hrc.ge
                refine ih _ _ _ bl l (hcount i hin hun) (hnext i oi d v w3 him hoi hd hi hsz3 (fun b hb => hout3 b (List.mem_append_left _ hb)) ((K0.trans hK).trans K1) ⟨i + 1, by omega, ?_, fun j hj hej => ?_⟩ (K1.slot hs))
                · refine hr3.frames (σ := { σ with bx := B (i + 1) }) ⟨rfl, hs2.al.symm, hs2.fz.symm, hs2.ln.symm, hs2.nt.symm, hs2.len.symm⟩ inv.siz.symm (fun t s u h1 h2 => ?_)
                  exact (Kc.trans hK).slot (hrc.slot t s u h1 h2)
                · by_cases hji : j = i
                  · subst hji
                    exact ⟨fun _ => by omega, fun _ => hset j hin hun⟩
                  · have hg2 : (listed.setIfInBounds i true).getD j false = listed.getD j false := getD_set_ne (listed := listed) false (Ne.symm hji)
                    rw [hg2, hlc j hj hej]
                    omega
            | _ => exact h3.elim
      · -- a new box
        obtain ⟨oi, d, hoi, e2, e3, e4, e5, _⟩ := hop i hin
        obtain ⟨oj, hoj, hN⟩ := hnew i (by omega) hin
        rw [hoi] at hoj
        have := Option.some.inj hoj
        subst this
        have head' := inv.head.set hi hin
        have hd : d = (inf i).1 := by have := hN.dst; rw [e2] at this; exact Option.some.inj this
        unfold wpOp
        simp only [hoi, Region.wanted, hN.guard, if_true]
        left
        unfold Oper.wp
        rw [hN.run a' w', Oper.upon_value]
        have hext := Ext.alloc w' (.cells (inf i).2.1 (inf i).2.2)
        have K := keep_outs (l' := (w'.heap.size :: l) ++ E.out) hbase hext (fun b hb => by
          rcases List.mem_cons.1 hb with rfl | hb
          · exact .inr (Nat.le_refl _)
          · exact .inl hb)
        refine ih _ _ _ (fun j => if j = i then w'.heap.size else bl j) (w'.heap.size :: l) (hcount i hin hun) ?_
        have hput : ∀ t, t ≠ d → (a'.put oi.dst (.pointer (some ⟨w'.heap.size, 0, none⟩))).tmps[t]? = a'.tmps[t]? := fun t ht => put_other _ _ t (fun e => ht (by rw [e2] at e; exact Option.some.inj e))
        refine ⟨head', ?_, Nat.le_trans inv.hsz hext.size, (put_defers _ _).trans inv.dfr, (put_size _ _).trans inv.siz, fun t ht => ?_, fun j p t u hj hp hpt hlj hu => ?_, fun j h1 h2 hlj => ?_, fun j l h1 h2 h3 h4 h5 h6 h7 => ?_, fun b hb => ?_, fun j h1 h2 hlj => ?_⟩
        · obtain ⟨c, hc, hrc, hlc⟩ := inv.full
          refine ⟨c, hc, alloc_out hrc _, fun j hj hej => ?_⟩
          have hji : j ≠ i := by omega
          have hg : (listed.setIfInBounds i true).getD j false = listed.getD j false := getD_set_ne (listed := listed) false (Ne.symm hji)
          rw [hg]
          exact hlc j hj hej
        · rw [hput t (fun e => ht i oi hin hoi (by rw [e2, e]))]
          exact inv.oth t ht
        · have hji : j ≠ i := by omega
          rw [hput t (fun e => e4 j p (by omega) hji hp (by rw [hpt, e]))] at hu
          exact K.slot (inv.slt j p t u hj hp hpt (listed_set hlj hji) hu)
        · by_cases hji : j = i
          · subst hji
            simp only [if_true]
            refine ⟨fun b hb => ?_, inv.hsz, by simp, heap_alloc_new w' _⟩
            rw [e2, ← hd]
            exact put_same (inv.siz.trans hb.symm)
          · simp only [if_neg hji]
            obtain ⟨n1, n2, n3, n4⟩ := inv.new j h1 h2 (listed_set hlj hji)
            obtain ⟨oj, hoj, hNj⟩ := hnew j h1 h2
            refine ⟨fun b hb => ?_, n2, Nat.lt_of_lt_of_le n3 hext.size, (hext.block _ n3).trans n4⟩
            rw [hput _ (fun e => e4 j oj h2 hji hoj (by rw [hNj.dst, e]))]
            exact n1 b hb
        · by_cases hji : j = i
          · by_cases hli : l = i
            · omega
            · simp only [hji, if_true, if_neg hli] at h7
              have := (inv.new l h3 h4 (listed_set h6 hli)).2.2.1
              omega
          · by_cases hli : l = i
            · simp only [hli, if_true, if_neg hji] at h7
              have := (inv.new j h1 h2 (listed_set h5 hji)).2.2.1
              omega
            · simp only [if_neg hji, if_neg hli] at h7
              exact inv.inj j l h1 h2 h3 h4 (listed_set h5 hji) (listed_set h6 hli) h7
        · rcases List.mem_cons.1 hb with rfl | hb
          · exact ⟨inv.hsz, by simp⟩
          · exact ⟨(inv.lfr b hb).1, Nat.lt_of_lt_of_le (inv.lfr b hb).2 hext.size⟩
        · by_cases hji : j = i
          · simp [hji]
          · simp only [if_neg hji]
            exact List.mem_cons_of_mem _ (inv.lmem j h1 h2 (listed_set hlj hji))
end
end Go.Proofs.Ytcdncdbghghnfaa.V
namespace Go.Proofs.Ytcdncdbghghnfaa.V
open Go
section
variable {P : Program} {X : Ctx} {E : Env} {σ : St} {A0 : Array Value} {a : Act} {w : World} {R : Type}
theorem contig_zipIdx : ∀ (l : List Oper) (i : Nat), Contig i (l.zipIdx i) := by
  intro l
  induction l with
  | nil => intro i; trivial
  | cons o l ih => intro i; exact ⟨rfl, ih (i + 1)⟩
theorem zipIdx_at {ops : Array Oper} : ∀ q ∈ ops.toList.zipIdx, ops[q.2]? = some q.1 := by
  intro q hq
  have := List.mem_zipIdx_iff_getElem?.1 hq
  simpa using this
theorem zipIdx_snd (l : List Oper) : l.zipIdx.map (·.2) = List.range l.length := by
  rw [List.range_eq_range']
  exact List.zipIdx_map_snd 0 l
theorem mem_opsWrites {l : List Oper} {i : Nat} (h : i ∉ opsWrites l) : ∀ o ∈ l, o.dst ≠ some i := by
  intro o ho he
  exact h (List.mem_filterMap.2 ⟨o, ho, he⟩)
/-- An exit, told two ways. -/
def XK.mt : XK → Exit → Prop
  | .nor, .normal => True
  | .ex i, .exit j => i = j
  | .ret, .ret => True
  | _, _ => False
/-- How code ends. -/
def Ends (X : Ctx) (c : Code) (a : Act) (G : XK → St → Prop) (e : Exit) (a' : Act) (w' : World) : Prop :=
  ∃ x : XK, x.mt e ∧ a'.defers = a.defers ∧ a'.tmps.size = a.tmps.size ∧ (∀ i, i ∉ writes c → a'.tmps[i]? = a.tmps[i]?) ∧ ∃ σ', G x σ' ∧ Rel X σ' a'.tmps w'
theorem region_ok (T : Tabs) (hT : TabOk P T.T) (hF : FOk P T.F) {id : Nat} {ops : Array Oper} {k : XK → St → Option R} {r : R}
    (h : opsK T ops (ops.size + 1) [] R ops.toList.zipIdx σ (k .nor) = some r) (hr : RelE X E σ a.tmps w) :
    (Code.region id ops false).wp P (Ends X (.region id ops false) a (fun x σ' => k x σ' = some r)) a w := by
  refine wp_region ?_
  have := ops_ok T hT hF (ops.size + 1) h hr (contig_zipIdx _ 0) zipIdx_at (fun g hg => by cases hg)
    (Ends X (.region id ops false) a (fun x σ' => k x σ' = some r)) [] (fun a' w' he => ?_)
  · rw [List.append_nil, zipIdx_snd, Array.length_toList] at this
    exact this
  · obtain ⟨e1, e2, e3, _, σ', e4, e5⟩ := he
    refine ⟨.nor, trivial, e1, e2, fun i hi => e3 i fun q hq => ?_, σ', e4, e5⟩
    exact mem_opsWrites hi q.1 (by
      have := List.mem_zipIdx_iff_getElem?.1 hq
      exact List.mem_of_getElem? this)
/-- What a new box is: its slot, its zeros. -/
def newInf (T : Tabs) (o : Oper) : Tmp × Array Value × TypeId := (o.dst.getD 0, (match o.op with | .alloc e => (match T.T e with | some t => (zc t).toArray | none => #[]) | _ => #[]), (match o.op with | .alloc e => e | _ => 0))
theorem new_at (T : Tabs) (hT : TabOk P T.T) {o : Oper} (h : isNew T o = true) : NewAt P o (newInf T o).1 (newInf T o).2.1 (newInf T o).2.2 := by
  simp only [isNew, Bool.and_eq_true] at h
  obtain ⟨⟨h1, h2⟩, h3⟩ := h
  refine ⟨?_, by simpa using h2, fun a w => ?_⟩
  · cases hd : o.dst with
    | none => rw [hd] at h3; simp at h3
    | some d => simp [newInf, hd]
  · split at h1
    · rename_i e ho
      cases hTt : T.T e with
      | none => rw [hTt] at h1; simp at h1
      | some t =>
        obtain ⟨n, ht⟩ := hT.ty e _ hTt
        obtain ⟨z, hz, hzc⟩ := run_zeroValue_ty ht w
        have hc : z.cells = (zc t).toArray := by rw [← hzc]
        simp only [newInf, ho, hTt, execOp, Instr.alloc, Sem.run_bind, hz, Result.andThen_ok, newVar, newRow, hc, run_newObj, Sem.run_pure, World.alloc_eq]
    · cases h1
theorem boxes_ok (T : Tabs) (hT : TabOk P T.T) {ops : Array Oper} {bl : Nat → Nat} {rest : List (Oper × Nat)} {k : St → Option R} {r : R} : ∀ {l : List (Oper × Nat)} {n : Nat} {σ : St} {E : Env} {A0 : Array Value} {out : List Nat}, (∀ q ∈ l, isNew T q.1 = true) →
    opsK T ops n [] R (l ++ rest) σ k = some r → RelE X E σ A0 w → E.out = l.map (fun q => bl q.2) ++ out → (∀ q ∈ l, X.w0.heap.size ≤ bl q.2 ∧ w.heap[bl q.2]? = some (.cells (newInf T q.1).2.1 (newInf T q.1).2.2 (0, 0))) →
    ∃ n' σ' E', opsK T ops n' [] R rest σ' k = some r ∧ RelE X E' σ' (l.foldl (fun A q => A.setIfInBounds (newInf T q.1).1 (.pointer (some ⟨bl q.2, 0, none⟩))) A0) w := by
  intro l
  induction l with
  | nil => intro n σ E A0 out _ h hr _ _; exact ⟨n, σ, E, h, hr⟩
  | cons q l ih =>
    intro n σ E A0 out hn h hr ho hb
    cases n with
    | zero => simp [opsK] at h
    | succ n =>
      have hq := hn q List.mem_cons_self
      have hq2 := hq
      simp only [isNew, Bool.and_eq_true] at hq2
      obtain ⟨⟨h1, h2⟩, h3⟩ := hq2
      have hg : q.1.guard = none := by simpa using h2
      simp only [List.cons_append, opsK, openG, hg] at h
      split at h1
      · rename_i e hop
        cases hTt : T.T e with
        | none => rw [hTt] at h1; simp at h1
        | some t =>
          cases hd : q.1.dst with
          | none => rw [hd] at h3; simp at h3
          | some d =>
            simp only [stepK, hop, hTt, hd] at h
            obtain ⟨hb1, hb2⟩ := hb q List.mem_cons_self
            have hinf : newInf T q.1 = (d, (zc t).toArray, e) := by simp [newInf, hop, hTt, hd]
            rw [hinf] at hb2
            obtain ⟨m, ht⟩ := hT.ty e _ hTt
            have hz := rv_zero (w := w) (A := Fz X E σ w) (E := E) hr.nt2 hr.no1.1 hr.no1.2 (tyB_ok ht)
            obtain ⟨E', r1, r2, r3, _⟩ := hr.outBox (of := 0) (t := t) (v := t.zero) (l := l.map (fun q => bl q.2) ++ out) ho hb1 hz (by simp) hb2 (by simp) (by
              intro j u hu
              rw [Nat.zero_add]
              unfold World.cell?
              rw [hb2]
              simpa using hu)
            have r4 := r1.set d r3
            obtain ⟨n', σ', E2, g1, g2⟩ := ih (fun p hp => hn p (List.mem_cons_of_mem _ hp)) h r4 r2 (fun p hp => hb p (List.mem_cons_of_mem _ hp))
            refine ⟨n', σ', E2, g1, ?_⟩
            rw [List.foldl_cons, hinf]
            exact g2
      · cases h1
theorem lead_all {p : Oper → Bool} : ∀ {l : List Oper} {i : Nat} {o : Oper}, i < lead p l → l[i]? = some o → p o = true := by
  intro l
  induction l with
  | nil => intro i o h; simp [lead] at h
  | cons x l ih =>
    intro i o h ho
    simp only [lead] at h
    cases hx : p x with
    | false => rw [hx] at h; simp at h
    | true =>
      rw [hx] at h
      simp only [cond_true] at h
      cases i with
      | zero => simp at ho; subst ho; exact hx
      | succ i => exact ih (i := i) (by omega) (by simpa using ho)
theorem lead_le {p : Oper → Bool} : ∀ {l : List Oper}, lead p l ≤ l.length := by
  intro l
  induction l with
  | nil => simp [lead]
  | cons x l ih =>
    simp only [lead, List.length_cons]
    cases p x <;> simp <;> omega
theorem zip_at {ops : Array Oper} {i : Nat} {q : Oper × Nat} (h : ops.toList.zipIdx[i]? = some q) : q.2 = i ∧ ops[i]? = some q.1 := by
  rw [List.getElem?_zipIdx] at h
  cases ho : ops.toList[i]? with
  | none => rw [ho] at h; simp at h
  | some o =>
    rw [ho] at h
    simp at h
    subst h
    exact ⟨by simp, by simpa using ho⟩
theorem contig_drop : ∀ {l : List (Oper × Nat)} {i m : Nat}, Contig i l → Contig (i + m) (l.drop m) := by
  intro l
  induction l with
  | nil => intro i m _; cases m <;> exact trivial
  | cons q l ih =>
    intro i m h
    cases m with
    | zero => exact h
    | succ m => have := ih (m := m) h.2; rwa [show i + 1 + m = i + (m + 1) by omega] at this
theorem contig_take : ∀ {l : List (Oper × Nat)} {i m : Nat}, Contig i l → Contig i (l.take m) := by
  intro l
  induction l with
  | nil => intro i m _; cases m <;> exact trivial
  | cons q l ih =>
    intro i m h
    cases m with
    | zero => exact trivial
    | succ m => exact ⟨h.1, ih h.2⟩
theorem contig_snd : ∀ {l : List (Oper × Nat)} {i : Nat}, Contig i l → l.map (·.2) = List.range' i l.length := by
  intro l
  induction l with
  | nil => intro i _; rfl
  | cons q l ih => intro i h; rw [List.map_cons, List.length_cons, List.range'_succ, h.1, ih h.2]
theorem fold_at {f : Oper × Nat → Tmp} {g : Oper × Nat → Value} : ∀ {l : List (Oper × Nat)} {A0 : Array Value}, (∀ (i j : Nat) p q, l[i]? = some p → l[j]? = some q → i ≠ j → f p ≠ f q) →
    (l.foldl (fun A q => A.setIfInBounds (f q) (g q)) A0).size = A0.size ∧ (∀ t, (∀ q ∈ l, f q ≠ t) → (l.foldl (fun A q => A.setIfInBounds (f q) (g q)) A0)[t]? = A0[t]?) ∧
    ∀ q ∈ l, (l.foldl (fun A q => A.setIfInBounds (f q) (g q)) A0)[f q]? = (A0.setIfInBounds (f q) (g q))[f q]? := by
  intro l
  induction l with
  | nil => intro A0 _; exact ⟨rfl, fun _ _ => rfl, fun q hq => by cases hq⟩
  | cons x l ih =>
    intro A0 hne
    obtain ⟨h1, h2, h3⟩ := ih (A0 := A0.setIfInBounds (f x) (g x)) (fun i j p q hp hq hij => hne (i + 1) (j + 1) p q (by simpa using hp) (by simpa using hq) (by omega))
    refine ⟨by rw [List.foldl_cons, h1]; simp, fun t ht => ?_, fun q hq => ?_⟩
    · rw [List.foldl_cons, h2 t (fun q hq => ht q (List.mem_cons_of_mem _ hq)), Array.getElem?_setIfInBounds_ne (ht x List.mem_cons_self)]
    · rw [List.foldl_cons]
      rcases List.mem_cons.1 hq with rfl | hq
      · exact h2 _ (fun p hp he => by
          obtain ⟨j, hj⟩ := List.getElem?_of_mem hp
          exact hne (j + 1) 0 p q (by simpa using hj) rfl (by omega) he)
      · obtain ⟨j, hj⟩ := List.getElem?_of_mem hq
        have hx : f x ≠ f q := hne 0 (j + 1) x q rfl (by simpa using hj) (by omega)
        rw [h3 q hq]
        by_cases hlt : f q < A0.size
        · rw [Array.getElem?_setIfInBounds_self_of_lt (by simpa using hlt), Array.getElem?_setIfInBounds_self_of_lt hlt]
        · rw [Array.getElem?_eq_none (by simpa using Nat.le_of_not_lt hlt), Array.getElem?_eq_none (by simpa using Nat.le_of_not_lt hlt)]
theorem head_ok {ops : Array Oper} {m n : Nat} (hB : mixB ops m n = true) : HeadOk ops (headD ops n) m n := by
  simp only [mixB, Bool.and_eq_true, decide_eq_true_eq, List.all_eq_true, List.mem_range] at hB
  obtain ⟨⟨⟨⟨⟨_, hmn⟩, hns⟩, hops⟩, _⟩, _⟩ := hB
  refine ⟨hmn, fun t => ⟨fun h => ?_, fun ⟨j, p, hj, hp, ht⟩ => ?_⟩, fun i o j p t hi ho hj hp ht hl => ?_, fun i o j p t hi ho hj hp hd ht => ?_⟩
  · obtain ⟨o, ho, hd⟩ := List.mem_filterMap.1 h
    obtain ⟨j, hj⟩ := List.getElem?_of_mem ho
    rw [List.getElem?_take] at hj
    split at hj
    · exact ⟨j, o, by assumption, by simpa using hj, hd⟩
    · cases hj
  · refine List.mem_filterMap.2 ⟨p, ?_, ht⟩
    refine List.mem_of_getElem? (i := j) ?_
    rw [List.getElem?_take, if_pos hj]
    simpa using hp
  · have h := hops i (by omega)
    rw [ho] at h
    simp only [Bool.and_eq_true, List.all_eq_true, List.mem_range] at h
    obtain ⟨⟨_, h4⟩, _⟩ := h
    simp only [Bool.or_eq_true, decide_eq_true_eq, List.all_eq_true, List.mem_range] at h4
    rcases h4 with h | h
    · omega
    · have := h j hj
      rw [hp] at this
      simp only [Option.bind_some, ht, Bool.or_eq_true, Bool.not_eq_true', Bool.and_eq_true, decide_eq_true_eq] at this
      rcases this with h | h
      · simp [List.contains_iff_mem, hl] at h
      · exact h.1.2
  · have h := hops i hi
    rw [ho] at h
    simp only [Bool.and_eq_true, List.all_eq_true, List.mem_range] at h
    obtain ⟨⟨⟨_, h3⟩, _⟩, _⟩ := h
    have := h3 j hj
    rw [hp] at this
    simp only [Bool.or_eq_true, beq_iff_eq, Bool.not_eq_true', beq_eq_false_iff_ne, ne_eq] at this
    rcases this with h | h
    · exact h.symm
    · exact absurd (ht.trans hd.symm) h
theorem draw_head (hmix : P.follows .mixedOrders = true) (T : Tabs) (hT : TabOk P T.T) (hF : FOk P T.F) {id : Nat} {ops : Array Oper} {m n : Nat} {k : XK → St → Option R} {r : R} (hB : mixB ops m n = true) (hm1 : m ≤ ops.size) (hmn : m ≤ n) (hn1 : n ≤ ops.size)
    (hall : ∀ i o, i < m → ops[i]? = some o → headOp T o.op = true) (hnews : ∀ i o, m ≤ i → i < n → ops[i]? = some o → isNew T o = true)
    (h : headK T (headD ops n) ops (ops.size + 1) [] R (ops.toList.zipIdx.take m) σ (fun σ => opsK T ops (ops.size + 1) [] R (ops.toList.zipIdx.drop m) σ (k .nor)) = some r) (hr : RelE X E σ a.tmps w) :
    (Code.region id ops true).wp P (Ends X (.region id ops true) a (fun x σ' => k x σ' = some r)) a w := by
  have H := head_ok hB
  have hdst : ∀ i o, i < m → ops[i]? = some o → ∃ d, o.dst = some d := by
    intro i o hi ho
    simp only [mixB, Bool.and_eq_true, decide_eq_true_eq, List.all_eq_true, List.mem_range] at hB
    have h := hB.1.1.2 i (by omega)
    rw [ho] at h
    simp only [Bool.and_eq_true] at h
    cases hd : o.dst with
    | none => rw [hd] at h; simp at h
    | some d => exact ⟨d, rfl⟩
  have hext : Ext w { w with drawn := w.drawn + 1 } := ⟨rfl, rfl, rfl, Nat.le_refl _, fun _ _ => rfl⟩
  have hr0 := hr.ext hext
  have hc0 := contig_zipIdx ops.toList 0
  have hzl : ops.toList.zipIdx.length = ops.size := by simp
  have hlen : (ops.toList.zipIdx.take m).length = m := by simp; omega
  obtain ⟨S, sk, σ1, _, g2, g3, _, g5, _⟩ := head_cert (P := P) (X := X) (σ0 := σ) T hT hF H (ops.size + 1) (S := fun _ => .no) (sk := fun _ => false) h (contig_take hc0) (fun q hq => zipIdx_at q (List.mem_of_mem_take hq)) (by rw [hlen]; omega) (fun q hq => by
      obtain ⟨j, hj⟩ := List.getElem?_of_mem hq
      rw [List.getElem?_take] at hj
      split at hj
      · obtain ⟨e1, e2⟩ := zip_at hj
        exact ⟨hall j q.1 (by assumption) e2, hdst j q.1 (by assumption) e2⟩
      · cases hj) ⟨SameB.refl σ, fun t s ht => .inr (.inl ⟨fun j p hj => by omega, ht⟩)⟩ (fun j hj => by omega) (fun g hg => by cases hg)
  rw [hlen, Nat.zero_add] at g2 g3
  refine wp_region_any hmix ?_
  have hinfo : ∀ i, m ≤ i → i < n → ∃ o, ops[i]? = some o ∧ NewAt P o (newInf T (ops[i]?.getD default)).1 (newInf T (ops[i]?.getD default)).2.1 (newInf T (ops[i]?.getD default)).2.2 := by
    intro i h1 h2
    have hlt : i < ops.size := by omega
    have ho : ops[i]? = some ops[i] := Array.getElem?_eq_getElem hlt
    refine ⟨_, ho, ?_⟩
    rw [ho, Option.getD_some]
    exact new_at T hT (hnews i _ h1 h2 ho)
  have hfin := head_any (inf := fun i => newInf T (ops[i]?.getD default)) (Q := Ends X (.region id ops true) a (fun x σ' => k x σ' = some r)) (fun c a w h => by obtain ⟨x, hx, _⟩ := h; cases x <;> exact hx) hB H hr0 (fun i o hi ho => g2 i o (by omega) hi ho) hinfo (fun a' w' bl lb listed hl inv => by
      have hlen2 : ((ops.toList.zipIdx.drop m).take (n - m)).length = n - m := by simp; omega
      have hsplit : (ops.toList.zipIdx.drop m) = (ops.toList.zipIdx.drop m).take (n - m) ++ ops.toList.zipIdx.drop n := by
        conv => lhs; rw [← List.take_append_drop (n - m) (ops.toList.zipIdx.drop m)]
        rw [List.drop_drop, show m + (n - m) = n by omega]
      rw [hsplit] at g5
      have hnew : ∀ (j : Nat) q, ((ops.toList.zipIdx.drop m).take (n - m))[j]? = some q → j < n - m ∧ q.2 = m + j ∧ ops[m + j]? = some q.1 := by
        intro j q hj
        rw [List.getElem?_take] at hj
        split at hj
        · rename_i hjl
          rw [List.getElem?_drop] at hj
          obtain ⟨e1, e2⟩ := zip_at hj
          exact ⟨hjl, e1, e2⟩
        · cases hj
      have hq : ∀ q ∈ (ops.toList.zipIdx.drop m).take (n - m), m ≤ q.2 ∧ q.2 < n ∧ ops[q.2]? = some q.1 := by
        intro q hq
        obtain ⟨j, hj⟩ := List.getElem?_of_mem hq
        obtain ⟨j1, j2, j3⟩ := hnew j q hj
        exact ⟨by omega, by omega, by rw [j2]; exact j3⟩
      have hinf : ∀ q ∈ (ops.toList.zipIdx.drop m).take (n - m), newInf T (ops[q.2]?.getD default) = newInf T q.1 := fun q h => by rw [(hq q h).2.2, Option.getD_some]
      have d4 : ∀ i, m ≤ i → i < n → _ := fun i h1 h2 => inv.new i h1 h2 (hl i h2)
      have d5 : ∀ i j, m ≤ i → i < n → m ≤ j → j < n → bl i = bl j → i = j := fun i j h1 h2 h3 h4 => inv.inj i j h1 h2 h3 h4 (hl i h2) (hl j h4)
      have hbl : (((ops.toList.zipIdx.drop m).take (n - m)).map (fun q => bl q.2)).Nodup := by
        refine List.pairwise_iff_getElem.2 fun i j hi hj hij he => ?_
        have hi' : i < ((ops.toList.zipIdx.drop m).take (n - m)).length := by simpa using hi
        have hj' : j < ((ops.toList.zipIdx.drop m).take (n - m)).length := by simpa using hj
        simp only [List.getElem_map] at he
        obtain ⟨i1, i2, _⟩ := hnew i _ (List.getElem?_eq_getElem hi')
        obtain ⟨j1, j2, _⟩ := hnew j _ (List.getElem?_eq_getElem hj')
        have := d5 _ _ (by omega) (by omega) (by omega) (by omega) he
        omega
      have hwhs : X.w0.heap.size ≤ w.heap.size := hr.fr.size
      have hfresh : ∀ q ∈ (ops.toList.zipIdx.drop m).take (n - m), w.heap.size ≤ bl q.2 ∧ bl q.2 < w'.heap.size := fun q h => ⟨(d4 q.2 (hq q h).1 (hq q h).2.1).2.1, (d4 q.2 (hq q h).1 (hq q h).2.1).2.2.1⟩
      have hdist : ∀ (i j : Nat) p q, ((ops.toList.zipIdx.drop m).take (n - m))[i]? = some p → ((ops.toList.zipIdx.drop m).take (n - m))[j]? = some q → i ≠ j → (newInf T p.1).1 ≠ (newInf T q.1).1 := by
        intro i j p q hp hq' hij he
        obtain ⟨i1, i2, i3⟩ := hnew i p hp
        obtain ⟨j1, j2, j3⟩ := hnew j q hq'
        have e1 := (new_at (P := P) T hT (hnews (m + i) p.1 (by omega) (by omega) i3)).dst
        have e2 := (new_at (P := P) T hT (hnews (m + j) q.1 (by omega) (by omega) j3)).dst
        rw [he] at e1
        have := H.inj (m + i) p.1 (m + j) q.1 _ (by omega) i3 (by omega) j3 e1 e2
        omega
      have hnd : ∀ q ∈ (ops.toList.zipIdx.drop m).take (n - m), q.1.dst = some (newInf T q.1).1 := fun q h => (new_at (P := P) T hT (hnews q.2 q.1 (hq q h).1 (hq q h).2.1 (hq q h).2.2)).dst
      -- the boxes' pointers as they were ahead
      obtain ⟨y1, y2, y3⟩ := fold_at (f := fun q => (newInf T q.1).1) (g := fun q => a.tmps.getD (newInf T q.1).1 undef) (A0 := a'.tmps) hdist
      generalize hA0 : ((ops.toList.zipIdx.drop m).take (n - m)).foldl (fun A q => A.setIfInBounds (newInf T q.1).1 (a.tmps.getD (newInf T q.1).1 undef)) a'.tmps = A0 at y1 y2 y3
      have hsz : a'.tmps.size = a.tmps.size := inv.siz
      have hold : ∀ q ∈ (ops.toList.zipIdx.drop m).take (n - m), A0[(newInf T q.1).1]? = a.tmps[(newInf T q.1).1]? := by
        intro q h
        rw [y3 q h]
        by_cases hlt : (newInf T q.1).1 < a.tmps.size
        · rw [Array.getElem?_setIfInBounds_self_of_lt (by rw [hsz]; exact hlt), Array.getElem?_eq_getElem hlt, Array.getD_eq_getD_getElem?, Array.getElem?_eq_getElem hlt, Option.getD_some]
        · rw [Array.getElem?_eq_none (by rw [Array.size_setIfInBounds, hsz]; exact Nat.le_of_not_lt hlt), Array.getElem?_eq_none (Nat.le_of_not_lt hlt)]
      have hr' := inv.base hr0
      have hr1 : RelE X (E.outs (lb ++ E.out)) σ1 A0 w' := by
        refine hr'.frames g3.same (by rw [y1]; exact hsz) (fun t s v h1 h2 => ?_)
        by_cases ht : ∃ q ∈ (ops.toList.zipIdx.drop m).take (n - m), (newInf T q.1).1 = t
        · obtain ⟨q, hq', rfl⟩ := ht
          rw [hold q hq'] at h2
          rcases g3.slot _ s h1 with q1 | ⟨q1, q2⟩ | ⟨j, p, q1, q2, q3, q4⟩
          · subst q1; trivial
          · exact hr'.slot _ s v q2 h2
          · have := H.inj j p q.2 q.1 _ (by omega) q2 (hq q hq').2.1 (hq q hq').2.2 q3 (hnd q hq')
            have := (hq q hq').1
            omega
        · rw [y2 t (fun q h e => ht ⟨q, h, e⟩)] at h2
          rcases g3.slot t s h1 with q1 | ⟨q1, q2⟩ | ⟨j, p, q1, q2, q3, q4⟩
          · subst q1; trivial
          · have : a'.tmps[t]? = a.tmps[t]? := inv.oth t fun i o hi ho he => by
              rcases Nat.lt_or_ge i m with him | him
              · exact q1 i o him ho he
              · have hlt : i - m < ((ops.toList.zipIdx.drop m).take (n - m)).length := by rw [hlen2]; omega
                obtain ⟨k1, k2, k3⟩ := hnew (i - m) _ (List.getElem?_eq_getElem hlt)
                rw [show m + (i - m) = i by omega, ho] at k3
                refine ht ⟨_, List.getElem_mem hlt, ?_⟩
                have := hnd _ (List.getElem_mem hlt)
                rw [← Option.some.inj k3, he] at this
                exact (Option.some.inj (Option.some.inj k3 ▸ this)).symm
            rw [this] at h2
            exact hr'.slot t s v q2 h2
          · subst q4
            exact inv.slt j p t v q1 q2 q3 (hl j (by omega)) h2
      have hnodup : (((ops.toList.zipIdx.drop m).take (n - m)).map (fun q => bl q.2) ++ E.out).Nodup := by
        have ho : E.out.Nodup := by
          have := hr.nodup
          simp only [owned] at this
          exact (List.nodup_append.1 (List.nodup_append.1 this).2.1).2.1
        refine List.nodup_append.2 ⟨hbl, ho, fun b hb c hc he => ?_⟩
        obtain ⟨q, hq', rfl⟩ := List.mem_map.1 hb
        have h1 := (hfresh q hq').1
        have h2 : c < w.heap.size := (hr.lt c (mem_out hr hc)).1
        omega
      have hw := hr1.world (w1 := w') (l := ((ops.toList.zipIdx.drop m).take (n - m)).map (fun q => bl q.2) ++ E.out) (fun b hb _ => rfl) hr1.fr (Nat.le_refl _) hnodup (fun b hb => by
        rcases List.mem_append.1 hb with h | h
        · obtain ⟨q, hq', rfl⟩ := List.mem_map.1 h
          exact ⟨.inl (List.mem_append_left _ (inv.lmem q.2 (hq q hq').1 (hq q hq').2.1 (hl q.2 (hq q hq').2.1))), (hfresh q hq').2⟩
        · exact ⟨.inl (List.mem_append_right _ h), Nat.lt_of_lt_of_le (hr0.lt b (mem_out hr0 h)).1 inv.ext.size⟩)
      obtain ⟨n', σ2, E2, f1, f2⟩ := boxes_ok T hT (bl := bl) (fun q h => hnews q.2 q.1 (hq q h).1 (hq q h).2.1 (hq q h).2.2) g5 hw.1 rfl (fun q h => ⟨Nat.le_trans hwhs (hfresh q h).1, by
        have := (d4 q.2 (hq q h).1 (hq q h).2.1).2.2.2
        rw [hinf q h] at this
        exact this⟩)
      obtain ⟨z1, z2, z3⟩ := fold_at (f := fun q => (newInf T q.1).1) (g := fun q => Value.pointer (some ⟨bl q.2, 0, none⟩)) (A0 := A0) hdist
      have hA : ((ops.toList.zipIdx.drop m).take (n - m)).foldl (fun A q => A.setIfInBounds (newInf T q.1).1 (.pointer (some ⟨bl q.2, 0, none⟩))) A0 = a'.tmps := by
        apply Array.ext_getElem?
        intro t
        by_cases ht : ∃ q ∈ (ops.toList.zipIdx.drop m).take (n - m), (newInf T q.1).1 = t
        · obtain ⟨q, hq', rfl⟩ := ht
          rw [z3 q hq']
          have := (d4 q.2 (hq q hq').1 (hq q hq').2.1).1 ⟨A0, a.defers⟩ (by rw [y1]; exact hsz)
          rw [hinf q hq'] at this
          exact this.symm
        · rw [z2 t (fun q hq' he => ht ⟨q, hq', he⟩), y2 t (fun q hq' he => ht ⟨q, hq', he⟩)]
      rw [hA] at f2
      have htail := ops_ok T hT hF n' (l := ops.toList.zipIdx.drop n) (i := 0 + n) (a := a') f1 f2 (contig_drop hc0) (fun q hq => zipIdx_at q (List.mem_of_mem_drop hq)) (fun g hg => by cases hg) (Ends X (.region id ops true) a (fun x σ' => k x σ' = some r)) [] (fun a2 w2 he => ?_)
      · rw [List.append_nil, contig_snd (contig_drop (m := n) hc0)] at htail
        simpa using htail
      · obtain ⟨e1, e2, e3, _, σ3, e4, e5⟩ := he
        refine ⟨.nor, trivial, e1.trans inv.dfr, e2.trans inv.siz, fun i hi => ?_, σ3, e4, e5⟩
        have hw : ∀ q ∈ ops.toList.zipIdx, q.1.dst ≠ some i := fun q hq => mem_opsWrites hi q.1 (by
          have := List.mem_zipIdx_iff_getElem?.1 hq
          exact List.mem_of_getElem? this)
        rw [e3 i (fun q hq => hw q (List.mem_of_mem_drop hq))]
        exact inv.oth i fun j o hj ho => hw (o, j) (by
          rw [List.mem_zipIdx_iff_getElem?]
          simpa using ho))
    n (Array.replicate ops.size false) a { w with drawn := w.drawn + 1 } (fun _ => 0) [] (by
      rw [List.countP_eq_length.2 (fun i hi => by
        have : i < n := List.mem_range.1 hi
        have hlt : i < ops.size := by omega
        simp [Array.getD_eq_getD_getElem?, hlt])]
      simp)
    ⟨⟨by simp, fun j oj _ hl => (by rw [getD_replicate_false] at hl; cases hl), fun t _ ht => getD_in (by simpa using ht) (getD_replicate_false _ _)⟩, Ext.refl _, rfl, rfl, fun _ _ => rfl,
      fun i o d u _ _ _ hl => (by rw [getD_replicate_false] at hl; cases hl), fun i o d u _ _ _ hl => (by rw [getD_replicate_false] at hl; cases hl), fun i _ _ hl => (by rw [getD_replicate_false] at hl; cases hl), fun i j _ _ _ _ hl => (by rw [getD_replicate_false] at hl; cases hl),
      List.nodup_nil, fun b hb => (by cases hb), fun i _ _ hl => (by rw [getD_replicate_false] at hl; cases hl)⟩
  rwa [show n + (ops.size - n) = ops.size by omega] at hfin
theorem draw_g (hmix : P.follows .mixedOrders = true) (T : Tabs) (hT : TabOk P T.T) (hF : FOk P T.F) {id : Nat} {ops : Array Oper} {m n : Nat} {k : XK → St → Option R} {r : R} (hB : mixB ops m n = true) (hm1 : m ≤ ops.size) (hmn : m ≤ n) (hn1 : n ≤ ops.size)
    (hchn : gChain T ops m = true) {ids : List Nat} (hnews : ∀ i o, m ≤ i → i < n → ops[i]? = some o → isNew T o = true)
    (h : gK T (headD ops n) ops ids (ops.toList.zipIdx.take m) σ (fun σ => opsK T ops (ops.size + 1) [] R (ops.toList.zipIdx.drop m) σ (k .nor)) = some r) (hr : RelE X E σ a.tmps w) :
    (Code.region id ops true).wp P (Ends X (.region id ops true) a (fun x σ' => k x σ' = some r)) a w := by
  have H := head_ok hB
  have hdst : ∀ i o, i < m → ops[i]? = some o → ∃ d, o.dst = some d := by
    intro i o hi ho
    simp only [mixB, Bool.and_eq_true, decide_eq_true_eq, List.all_eq_true, List.mem_range] at hB
    have h := hB.1.1.2 i (by omega)
    rw [ho] at h
    simp only [Bool.and_eq_true] at h
    cases hd : o.dst with
    | none => rw [hd] at h; simp at h
    | some d => exact ⟨d, rfl⟩
  have hext : Ext w { w with drawn := w.drawn + 1 } := ⟨rfl, rfl, rfl, Nat.le_refl _, fun _ _ => rfl⟩
  have hr0 := hr.ext hext
  have hc0 := contig_zipIdx ops.toList 0
  have hzl : ops.toList.zipIdx.length = ops.size := by simp
  have hlen : (ops.toList.zipIdx.take m).length = m := by simp; omega
  obtain ⟨S, B, σ1, _, g1, g2, g3, g4, g5⟩ := g_cert (P := P) (X := X) (σ := σ) T hT hF H (S := fun _ => .no) (B := fun _ => σ.bx) h (contig_take hc0) (fun q hq => zipIdx_at q (List.mem_of_mem_take hq)) (by rw [hlen]; omega) (fun q hq => by
      obtain ⟨j, hj⟩ := List.getElem?_of_mem hq
      rw [List.getElem?_take] at hj
      split at hj
      · obtain ⟨e1, e2⟩ := zip_at hj
        exact hdst j q.1 (by assumption) e2
      · cases hj) ⟨SameB.refl σ, fun t s ht => .inr (.inl ⟨fun j p hj => by omega, ht⟩)⟩ (fun j _ => rfl)
  rw [hlen, Nat.zero_add] at g2 g3 g4
  have hch : ∀ i j, i < m → j < i → efB T ops i = true → efB T ops j = true → Region.waitsFor .any ops i j = true := by
    intro i j hi hj h1 h2
    simp only [gChain, List.all_eq_true, List.mem_range] at hchn
    have := hchn i hi j hj
    unfold efB at h1 h2
    cases hoi : ops[i]? with
    | none => rw [hoi] at h1; cases h1
    | some oi =>
      cases hoj : ops[j]? with
      | none => rw [hoj] at h2; cases h2
      | some oj =>
        rw [hoi] at h1
        rw [hoj] at h2
        rw [hoi, hoj] at this
        simp only [h1, h2, Bool.and_self, Bool.not_true, Bool.false_or] at this
        exact this
  refine wp_region_any hmix ?_
  have hinfo : ∀ i, m ≤ i → i < n → ∃ o, ops[i]? = some o ∧ NewAt P o (newInf T (ops[i]?.getD default)).1 (newInf T (ops[i]?.getD default)).2.1 (newInf T (ops[i]?.getD default)).2.2 := by
    intro i h1 h2
    have hlt : i < ops.size := by omega
    have ho : ops[i]? = some ops[i] := Array.getElem?_eq_getElem hlt
    refine ⟨_, ho, ?_⟩
    rw [ho, Option.getD_some]
    exact new_at T hT (hnews i _ h1 h2 ho)
  have hfin := g_any T (inf := fun i => newInf T (ops[i]?.getD default)) (Q := Ends X (.region id ops true) a (fun x σ' => k x σ' = some r)) (fun c a w h => by obtain ⟨x, hx, _⟩ := h; cases x <;> exact hx) hB H hr0 (fun i o hi ho => g2 i o (by omega) hi ho) g4 hch hinfo (fun a' w' bl lb listed hl inv => by
      have hlen2 : ((ops.toList.zipIdx.drop m).take (n - m)).length = n - m := by simp; omega
      have hsplit : (ops.toList.zipIdx.drop m) = (ops.toList.zipIdx.drop m).take (n - m) ++ ops.toList.zipIdx.drop n := by
        conv => lhs; rw [← List.take_append_drop (n - m) (ops.toList.zipIdx.drop m)]
        rw [List.drop_drop, show m + (n - m) = n by omega]
      rw [hsplit] at g5
      have hnew : ∀ (j : Nat) q, ((ops.toList.zipIdx.drop m).take (n - m))[j]? = some q → j < n - m ∧ q.2 = m + j ∧ ops[m + j]? = some q.1 := by
        intro j q hj
        rw [List.getElem?_take] at hj
        split at hj
        · rename_i hjl
          rw [List.getElem?_drop] at hj
          obtain ⟨e1, e2⟩ := zip_at hj
          exact ⟨hjl, e1, e2⟩
        · cases hj
      have hq : ∀ q ∈ (ops.toList.zipIdx.drop m).take (n - m), m ≤ q.2 ∧ q.2 < n ∧ ops[q.2]? = some q.1 := by
        intro q hq
        obtain ⟨j, hj⟩ := List.getElem?_of_mem hq
        obtain ⟨j1, j2, j3⟩ := hnew j q hj
        exact ⟨by omega, by omega, by rw [j2]; exact j3⟩
      have hinf : ∀ q ∈ (ops.toList.zipIdx.drop m).take (n - m), newInf T (ops[q.2]?.getD default) = newInf T q.1 := fun q h => by rw [(hq q h).2.2, Option.getD_some]
      have d4 : ∀ i, m ≤ i → i < n → _ := fun i h1 h2 => inv.new i h1 h2 (hl i h2)
      have d5 : ∀ i j, m ≤ i → i < n → m ≤ j → j < n → bl i = bl j → i = j := fun i j h1 h2 h3 h4 => inv.inj i j h1 h2 h3 h4 (hl i h2) (hl j h4)
      have hbl : (((ops.toList.zipIdx.drop m).take (n - m)).map (fun q => bl q.2)).Nodup := by
        refine List.pairwise_iff_getElem.2 fun i j hi hj hij he => ?_
        have hi' : i < ((ops.toList.zipIdx.drop m).take (n - m)).length := by simpa using hi
        have hj' : j < ((ops.toList.zipIdx.drop m).take (n - m)).length := by simpa using hj
        simp only [List.getElem_map] at he
        obtain ⟨i1, i2, _⟩ := hnew i _ (List.getElem?_eq_getElem hi')
        obtain ⟨j1, j2, _⟩ := hnew j _ (List.getElem?_eq_getElem hj')
        have := d5 _ _ (by omega) (by omega) (by omega) (by omega) he
        omega
      have hwhs : X.w0.heap.size ≤ w.heap.size := hr.fr.size
      have hfresh : ∀ q ∈ (ops.toList.zipIdx.drop m).take (n - m), w.heap.size ≤ bl q.2 ∧ bl q.2 < w'.heap.size := fun q h => ⟨(d4 q.2 (hq q h).1 (hq q h).2.1).2.1, (d4 q.2 (hq q h).1 (hq q h).2.1).2.2.1⟩
      have hdist : ∀ (i j : Nat) p q, ((ops.toList.zipIdx.drop m).take (n - m))[i]? = some p → ((ops.toList.zipIdx.drop m).take (n - m))[j]? = some q → i ≠ j → (newInf T p.1).1 ≠ (newInf T q.1).1 := by
        intro i j p q hp hq' hij he
        obtain ⟨i1, i2, i3⟩ := hnew i p hp
        obtain ⟨j1, j2, j3⟩ := hnew j q hq'
        have e1 := (new_at (P := P) T hT (hnews (m + i) p.1 (by omega) (by omega) i3)).dst
        have e2 := (new_at (P := P) T hT (hnews (m + j) q.1 (by omega) (by omega) j3)).dst
        rw [he] at e1
        have := H.inj (m + i) p.1 (m + j) q.1 _ (by omega) i3 (by omega) j3 e1 e2
        omega
      have hnd : ∀ q ∈ (ops.toList.zipIdx.drop m).take (n - m), q.1.dst = some (newInf T q.1).1 := fun q h => (new_at (P := P) T hT (hnews q.2 q.1 (hq q h).1 (hq q h).2.1 (hq q h).2.2)).dst
      -- the boxes' pointers as they were ahead
      obtain ⟨y1, y2, y3⟩ := fold_at (f := fun q => (newInf T q.1).1) (g := fun q => a.tmps.getD (newInf T q.1).1 undef) (A0 := a'.tmps) hdist
      generalize hA0 : ((ops.toList.zipIdx.drop m).take (n - m)).foldl (fun A q => A.setIfInBounds (newInf T q.1).1 (a.tmps.getD (newInf T q.1).1 undef)) a'.tmps = A0 at y1 y2 y3
      have hsz : a'.tmps.size = a.tmps.size := inv.siz
      have hold : ∀ q ∈ (ops.toList.zipIdx.drop m).take (n - m), A0[(newInf T q.1).1]? = a.tmps[(newInf T q.1).1]? := by
        intro q h
        rw [y3 q h]
        by_cases hlt : (newInf T q.1).1 < a.tmps.size
        · rw [Array.getElem?_setIfInBounds_self_of_lt (by rw [hsz]; exact hlt), Array.getElem?_eq_getElem hlt, Array.getD_eq_getD_getElem?, Array.getElem?_eq_getElem hlt, Option.getD_some]
        · rw [Array.getElem?_eq_none (by rw [Array.size_setIfInBounds, hsz]; exact Nat.le_of_not_lt hlt), Array.getElem?_eq_none (Nat.le_of_not_lt hlt)]
      have hr' : RelE X (E.outs (lb ++ E.out)) { σ with bx := B m } a.tmps w' := by
        obtain ⟨c, hc, hrc, hlc⟩ := inv.full
        have hnone : ∀ j, c ≤ j → j < m → efB T ops j = false := by
          intro j h1 h2
          cases hej : efB T ops j with
          | false => rfl
          | true => have := (hlc j h2 hej).1 (hl j (by omega)); omega
        have hBe : B m = B c := by
          have key : ∀ i, c ≤ i → i ≤ m → B i = B c := by
            intro i
            induction i with
            | zero => intro h1 _; rw [show c = 0 by omega]
            | succ i ihi =>
              intro h1 h2
              by_cases hce : c = i + 1
              · rw [hce]
              · rcases g2 i _ (by omega) (by omega) (Array.getElem?_eq_getElem (show i < ops.size by omega)) with ⟨_, ⟨q1, _⟩ | ⟨_, q2, _⟩⟩
                · rw [hnone i (by omega) (by omega)] at q1; cases q1
                · rw [q2]; exact ihi (by omega) (by omega)
          exact key m hc (Nat.le_refl m)
        rw [hBe]; exact hrc
      have hKp : Keep w' w' (Fz X (E.outs (lb ++ E.out)) (poison ids σ) w') (Fz X (E.outs (lb ++ E.out)) ({ σ with bx := B m } : St) w') (E.outs (lb ++ E.out)) (E.outs (lb ++ E.out)) (poison ids σ) ({ σ with bx := B m } : St) :=
        keep_bx (by rw [← g4 m (Nat.le_refl m), poison_ids]) rfl rfl rfl hr'.ge
      have hr1 : RelE X (E.outs (lb ++ E.out)) σ1 A0 w' := by
        refine hr'.frames g3.same (by rw [y1]; exact hsz) (fun t s v h1 h2 => ?_)
        by_cases ht : ∃ q ∈ (ops.toList.zipIdx.drop m).take (n - m), (newInf T q.1).1 = t
        · obtain ⟨q, hq', rfl⟩ := ht
          rw [hold q hq'] at h2
          rcases g3.slot _ s h1 with q1 | ⟨q1, q2⟩ | ⟨j, p, q1, q2, q3, q4⟩
          · subst q1; trivial
          · exact hr'.slot _ s v q2 h2
          · have := H.inj j p q.2 q.1 _ (by omega) q2 (hq q hq').2.1 (hq q hq').2.2 q3 (hnd q hq')
            have := (hq q hq').1
            omega
        · rw [y2 t (fun q h e => ht ⟨q, h, e⟩)] at h2
          rcases g3.slot t s h1 with q1 | ⟨q1, q2⟩ | ⟨j, p, q1, q2, q3, q4⟩
          · subst q1; trivial
          · have : a'.tmps[t]? = a.tmps[t]? := inv.oth t fun i o hi ho he => by
              rcases Nat.lt_or_ge i m with him | him
              · exact q1 i o him ho he
              · have hlt : i - m < ((ops.toList.zipIdx.drop m).take (n - m)).length := by rw [hlen2]; omega
                obtain ⟨k1, k2, k3⟩ := hnew (i - m) _ (List.getElem?_eq_getElem hlt)
                rw [show m + (i - m) = i by omega, ho] at k3
                refine ht ⟨_, List.getElem_mem hlt, ?_⟩
                have := hnd _ (List.getElem_mem hlt)
                rw [← Option.some.inj k3, he] at this
                exact (Option.some.inj (Option.some.inj k3 ▸ this)).symm
            rw [this] at h2
            exact hr'.slot t s v q2 h2
          · subst q4
            exact hKp.slot (inv.slt j p t v q1 q2 q3 (hl j (by omega)) h2)
      have hnodup : (((ops.toList.zipIdx.drop m).take (n - m)).map (fun q => bl q.2) ++ E.out).Nodup := by
        have ho : E.out.Nodup := by
          have := hr.nodup
          simp only [owned] at this
          exact (List.nodup_append.1 (List.nodup_append.1 this).2.1).2.1
        refine List.nodup_append.2 ⟨hbl, ho, fun b hb c hc he => ?_⟩
        obtain ⟨q, hq', rfl⟩ := List.mem_map.1 hb
        have h1 := (hfresh q hq').1
        have h2 : c < w.heap.size := (hr.lt c (mem_out hr hc)).1
        omega
      have hw := hr1.world (w1 := w') (l := ((ops.toList.zipIdx.drop m).take (n - m)).map (fun q => bl q.2) ++ E.out) (fun b hb _ => rfl) hr1.fr (Nat.le_refl _) hnodup (fun b hb => by
        rcases List.mem_append.1 hb with h | h
        · obtain ⟨q, hq', rfl⟩ := List.mem_map.1 h
          exact ⟨.inl (List.mem_append_left _ (inv.lmem q.2 (hq q hq').1 (hq q hq').2.1 (hl q.2 (hq q hq').2.1))), (hfresh q hq').2⟩
        · exact ⟨.inl (List.mem_append_right _ h), Nat.lt_of_lt_of_le (hr0.lt b (mem_out hr0 h)).1 inv.hsz⟩)
      obtain ⟨n', σ2, E2, f1, f2⟩ := boxes_ok T hT (bl := bl) (fun q h => hnews q.2 q.1 (hq q h).1 (hq q h).2.1 (hq q h).2.2) g5 hw.1 rfl (fun q h => ⟨Nat.le_trans hwhs (hfresh q h).1, by
        have := (d4 q.2 (hq q h).1 (hq q h).2.1).2.2.2
        rw [hinf q h] at this
        exact this⟩)
      obtain ⟨z1, z2, z3⟩ := fold_at (f := fun q => (newInf T q.1).1) (g := fun q => Value.pointer (some ⟨bl q.2, 0, none⟩)) (A0 := A0) hdist
      have hA : ((ops.toList.zipIdx.drop m).take (n - m)).foldl (fun A q => A.setIfInBounds (newInf T q.1).1 (.pointer (some ⟨bl q.2, 0, none⟩))) A0 = a'.tmps := by
        apply Array.ext_getElem?
        intro t
        by_cases ht : ∃ q ∈ (ops.toList.zipIdx.drop m).take (n - m), (newInf T q.1).1 = t
        · obtain ⟨q, hq', rfl⟩ := ht
          rw [z3 q hq']
          have := (d4 q.2 (hq q hq').1 (hq q hq').2.1).1 ⟨A0, a.defers⟩ (by rw [y1]; exact hsz)
          rw [hinf q hq'] at this
          exact this.symm
        · rw [z2 t (fun q hq' he => ht ⟨q, hq', he⟩), y2 t (fun q hq' he => ht ⟨q, hq', he⟩)]
      rw [hA] at f2
      have htail := ops_ok T hT hF n' (l := ops.toList.zipIdx.drop n) (i := 0 + n) (a := a') f1 f2 (contig_drop hc0) (fun q hq => zipIdx_at q (List.mem_of_mem_drop hq)) (fun g hg => by cases hg) (Ends X (.region id ops true) a (fun x σ' => k x σ' = some r)) [] (fun a2 w2 he => ?_)
      · rw [List.append_nil, contig_snd (contig_drop (m := n) hc0)] at htail
        simpa using htail
      · obtain ⟨e1, e2, e3, _, σ3, e4, e5⟩ := he
        refine ⟨.nor, trivial, e1.trans inv.dfr, e2.trans inv.siz, fun i hi => ?_, σ3, e4, e5⟩
        have hw : ∀ q ∈ ops.toList.zipIdx, q.1.dst ≠ some i := fun q hq => mem_opsWrites hi q.1 (by
          have := List.mem_zipIdx_iff_getElem?.1 hq
          exact List.mem_of_getElem? this)
        rw [e3 i (fun q hq => hw q (List.mem_of_mem_drop hq))]
        exact inv.oth i fun j o hj ho => hw (o, j) (by
          rw [List.mem_zipIdx_iff_getElem?]
          simpa using ho))
    n (Array.replicate ops.size false) a { w with drawn := w.drawn + 1 } (fun _ => 0) [] (by
      rw [List.countP_eq_length.2 (fun i hi => by
        have : i < n := List.mem_range.1 hi
        have hlt : i < ops.size := by omega
        simp [Array.getD_eq_getD_getElem?, hlt])]
      simp)
    ⟨⟨by simp, fun j oj _ hl => (by rw [getD_replicate_false] at hl; cases hl), fun t _ ht => getD_in (by simpa using ht) (getD_replicate_false _ _)⟩, ⟨0, Nat.zero_le _, (by rw [g1 0 (Nat.le_refl 0)]; exact hr0), fun i _ _ => ⟨fun hl => (by rw [getD_replicate_false] at hl; cases hl), fun h => by omega⟩⟩, Nat.le_refl _, rfl, rfl, fun _ _ => rfl,
      fun i o d u _ _ _ hl => (by rw [getD_replicate_false] at hl; cases hl), fun i _ _ hl => (by rw [getD_replicate_false] at hl; cases hl), fun i j _ _ _ _ hl => (by rw [getD_replicate_false] at hl; cases hl),
      fun b hb => (by cases hb), fun i _ _ hl => (by rw [getD_replicate_false] at hl; cases hl)⟩
  rwa [show n + (ops.size - n) = ops.size by omega] at hfin
theorem poison_new {ids : List Nat} {nb : Bx} {N : Nat} {fr : List Slot} (h : nb.id ∉ ids) : poison ids { σ with bx := nb :: σ.bx, nt := N, fr := fr } = { poison ids σ with bx := nb :: (poison ids σ).bx, nt := N, fr := fr } := by
  simp [poison, h]
theorem poison_nil (σ : St) : poison [] σ = σ := by
  obtain ⟨fr, bx, al, fz, ln, nt⟩ := σ
  simp [poison]
theorem opd_poison (ids : List Nat) (σ : St) (x : Operand) : opd (poison ids σ) x = opd σ x := by
  cases x with
  | const v =>
    cases v with
    | slice a n c => cases a <;> cases n <;> cases c <;> rfl
    | _ => rfl
  | _ => rfl
/-- New boxes beside some that aren't looked at. -/
theorem boxes2_ok (T : Tabs) (hT : TabOk P T.T) {ops : Array Oper} {bl : Nat → Nat} {rest : List (Oper × Nat)} {k : St → Option R} {r : R} {ids : List Nat} : ∀ {l : List (Oper × Nat)} {n : Nat} {σ : St} {E : Env} {A0 : Array Value} {out : List Nat}, (∀ q ∈ l, isNew T q.1 = true) → (∀ id ∈ ids, id < σ.nt) →
    opsK T ops n [] R (l ++ rest) σ k = some r → RelE X E (poison ids σ) A0 w → E.out = l.map (fun q => bl q.2) ++ out → (∀ q ∈ l, X.w0.heap.size ≤ bl q.2 ∧ w.heap[bl q.2]? = some (.cells (newInf T q.1).2.1 (newInf T q.1).2.2 (0, 0))) →
    ∃ n' σ' E', opsK T ops n' [] R rest σ' k = some r ∧ RelE X E' (poison ids σ') (l.foldl (fun A q => A.setIfInBounds (newInf T q.1).1 (.pointer (some ⟨bl q.2, 0, none⟩))) A0) w ∧ (∀ i, i < σ.nt → E'.ad i = E.ad i) ∧ (∀ t, (∀ q ∈ l, q.1.dst ≠ some t) → σ'.fr[t]? = σ.fr[t]?) ∧ ∀ b ∈ σ.bx, b ∈ σ'.bx := by
  intro l
  induction l with
  | nil => intro n σ E A0 out _ _ h hr _ _; exact ⟨n, σ, E, h, hr, fun _ _ => rfl, fun _ _ => rfl, fun _ h => h⟩
  | cons q l ih =>
    intro n σ E A0 out hn hids h hr ho hb
    cases n with
    | zero => simp [opsK] at h
    | succ n =>
      have hq := hn q List.mem_cons_self
      have hq2 := hq
      simp only [isNew, Bool.and_eq_true] at hq2
      obtain ⟨⟨h1, h2⟩, h3⟩ := hq2
      have hg : q.1.guard = none := by simpa using h2
      simp only [List.cons_append, opsK, openG, hg] at h
      split at h1
      · rename_i e hop
        cases hTt : T.T e with
        | none => rw [hTt] at h1; simp at h1
        | some t =>
          cases hd : q.1.dst with
          | none => rw [hd] at h3; simp at h3
          | some d =>
            simp only [stepK, hop, hTt, hd] at h
            obtain ⟨hb1, hb2⟩ := hb q List.mem_cons_self
            have hinf : newInf T q.1 = (d, (zc t).toArray, e) := by simp [newInf, hop, hTt, hd]
            rw [hinf] at hb2
            obtain ⟨m, ht⟩ := hT.ty e _ hTt
            have hz := rv_zero (w := w) (A := Fz X E (poison ids σ) w) (E := E) hr.nt2 hr.no1.1 hr.no1.2 (tyB_ok ht)
            obtain ⟨E', r1, r2, r3, r4⟩ := hr.outBox (of := 0) (t := t) (v := t.zero) (l := l.map (fun q => bl q.2) ++ out) ho hb1 hz (by simp) hb2 (by simp) (by
              intro j u hu
              rw [Nat.zero_add]
              unfold World.cell?
              rw [hb2]
              simpa using hu)
            have r5 := r1.set d r3
            have hni : σ.nt ∉ ids := fun h => Nat.lt_irrefl _ (hids _ h)
            have he : poison ids ({ σ with bx := ⟨σ.nt, ⟨t, t.zero, List.replicate t.nl 1⟩⟩ :: σ.bx, nt := σ.nt + 1 }.put (some d) (.ptr σ.nt t [] t)) = { { poison ids σ with bx := ⟨(poison ids σ).nt, ⟨t, t.zero, List.replicate t.nl 1⟩⟩ :: (poison ids σ).bx, nt := (poison ids σ).nt + 1 } with fr := (poison ids σ).fr.set d (.ptr (poison ids σ).nt t [] t) } := by
              simp [poison, St.put, hni]
            obtain ⟨n', σ', E2, g1, g2, g3, g4, g5⟩ := ih (fun p hp => hn p (List.mem_cons_of_mem _ hp)) (fun id hid => Nat.lt_succ_of_lt (hids id hid)) h (by rw [he]; exact r5) r2 (fun p hp => hb p (List.mem_cons_of_mem _ hp))
            refine ⟨n', σ', E2, g1, ?_, fun i hi => (g3 i (Nat.lt_succ_of_lt hi)).trans (r4 i hi), fun u hu => ?_, fun b hb => g5 b (List.mem_cons_of_mem _ hb)⟩
            · rw [List.foldl_cons, hinf]
              exact g2
            · rw [g4 u (fun p hp => hu p (List.mem_cons_of_mem _ hp))]
              simp only [St.put]
              rw [List.getElem?_set_ne (fun e => hu q List.mem_cons_self (by rw [hd, e]))]
      · cases h1
theorem setK_nil {t : Ty} {v : t.den} {ms : List Nat} {x : Val} {k : t.den → List Nat → Option R} : setK t v ms [] x k = (match cast? t x with
    | some (v, ms) => k v ms
    | none => none) := by cases t <;> rfl
/-- The stores that may have come early, told in the text's order. -/
theorem stores_ok (T : Tabs) {ops : Array Oper} {rest : List (Oper × Nat)} {k : St → Option R} {r : R} : ∀ {L : List (Oper × Nat)} {ids : List Nat} {n : Nat} {σ : St}, opsK T ops n [] R (L ++ rest) σ k = some r → RelE X E (poison ids σ) a.tmps w → L.length = ids.length → ids.Nodup →
    (∀ (j : Nat) q id, L[j]? = some q → ids[j]? = some id → q.1.guard = none ∧ q.1.dst = none ∧ ∃ t p x tt r0 t' cur e, q.1.op = .store t (.tmp p) x ∧ T.T t = some tt ∧ (σ.fr[p]? = some .no ∨ σ.fr[p]? = some (.ptr id r0 [] t')) ∧ (∃ b ∈ σ.bx, b.id = id) ∧
      w.heap[(E.ad id).1]? = some (.cells cur e (0, 0)) ∧ (E.ad id).2 + tt.size ≤ cur.size ∧ (∀ (j : Nat) u, (a.eval x).cells[j]? = some u → cur[(E.ad id).2 + j]? = some u) ∧ (tt.agg = false → tt.size = 1) ∧ ((∃ s, tt.size ≤ s ∧ (id, E.ad id, s) ∈ X.pbx) ∨ X.w0.heap.size ≤ (E.ad id).1)) →
    ∃ n' σ', opsK T ops n' [] R rest σ' k = some r ∧ RelE X E σ' a.tmps w := by
  intro L
  induction L with
  | nil =>
    intro ids n σ h hr hl _ _
    cases ids with
    | nil => rw [poison_nil] at hr; exact ⟨n, σ, h, hr⟩
    | cons _ _ => simp at hl
  | cons q L ih =>
    intro ids n σ h hr hl hnd hf
    cases ids with
    | nil => simp at hl
    | cons id ids =>
      cases n with
      | zero => simp [opsK] at h
      | succ n =>
        obtain ⟨hg, hd, t, p, x, tt, r0, t', cur, e, hop, hTt, hfr, ⟨b0, hb0, hb0i⟩, hb, hfit, hcell, hag, hM⟩ := hf 0 q id rfl rfl
        rw [List.nodup_cons] at hnd
        simp only [List.cons_append, opsK, openG, hg, stepK, hop, hTt, hd] at h
        cases hc : coe tt (opd σ x) with
        | none => rw [hc] at h; cases h
        | some z =>
          obtain ⟨v, ms⟩ := z
          simp only [hc] at h
          have hptr : opd σ (.tmp p) = .ptr id r0 [] t' := by
            rcases hfr with h1 | h1
            · exfalso
              have : opd σ (.tmp p) = .no := by simp [opd, List.getD_eq_getElem?_getD, h1]
              rw [this] at h
              cases h
            · simp [opd, List.getD_eq_getElem?_getD, h1]
          rw [hptr] at h
          simp only [writeK] at h
          cases hfi : σ.find id with
          | none => rw [hfi] at h; cases h
          | some y =>
            simp only [hfi] at h
            cases hbq : Ty.beq y.t r0 with
            | false => rw [hbq] at h; cases h
            | true =>
              rw [hbq] at h
              simp only [cond_true, setK_nil] at h
              cases hca : cast? y.t ⟨tt, v, ms⟩ with
              | none => rw [hca] at h; cases h
              | some z =>
                obtain ⟨v', ms'⟩ := z
                rw [hca] at h
                simp only at h
                have hval := cast?_some hca
                rw [← hval] at h
                obtain ⟨cs, c1, c2, c3⟩ := hr.coe (show V.coe tt (opd (poison (id :: ids) σ) x) = some (v, ms) by rw [opd_poison]; exact hc)
                have hcl : (a.eval x).cells = cs.toArray := by rw [c2]; exact cells_toVal c1 hag
                have hids2 : (σ.bx.map (·.id)).Nodup := by have := hr.ids; rwa [poison_ids] at this
                have hmem : ⟨id, y⟩ ∈ σ.bx := find_mem hfi
                have hr2 : RelE X E (poison ids { σ with bx := setBx id ⟨tt, v, ms⟩ σ.bx }) a.tmps w := by
                  refine hr.fill (id := id) (x := ⟨tt, v, ms⟩) (cs := cs) (cur := cur) (e := e) (by rw [poison_ids, poison_ids]; exact setBx_ids σ.bx) rfl rfl rfl rfl rfl (fun b hb' => ?_) (hr.idlt _ (mem_poison (c := ⟨id, y⟩) hmem List.mem_cons_self)) c1 c3 hb (by rw [c1.length]; exact hfit) (fun j u hu => ?_) hM
                  · rcases poison_mem hb' with ⟨h1, h2, c, h3, h4⟩ | ⟨h1, h2⟩
                    · right
                      rcases setBx_mem hids2 h3 with rfl | ⟨h5, _⟩
                      · exact absurd (by have h4' : id = b.id := h4; rw [h4']; exact h1) hnd.1
                      · have := mem_poison (σ := σ) (ids := id :: ids) h5 (by rw [h4]; exact List.mem_cons_of_mem _ h1)
                        rw [h4] at this
                        obtain ⟨bi, bx⟩ := b
                        dsimp only at h2
                        subst h2
                        exact this
                    · rcases setBx_mem hids2 h1 with rfl | ⟨h5, h6⟩
                      · exact .inl rfl
                      · right
                        simp only [poison, List.mem_map]
                        refine ⟨b, h5, ?_⟩
                        have : (id :: ids).contains b.id = false := by
                          simp only [List.contains_eq_mem, decide_eq_false_iff_not, List.mem_cons]
                          exact fun h => h.elim h6 h2
                        rw [this]; rfl
                  · rw [cell_of_row w _ _ cur e (0, 0) hb]
                    exact hcell j u (by rw [hcl]; simpa using hu)
                refine ih h hr2 (by simpa using hl) hnd.2 (fun j q' id' h1 h2 => ?_)
                obtain ⟨k1, k2, t2, p2, x2, tt2, r2, t2', cur2, e2, k3, k4, k5, ⟨b2, k6, k7⟩, k8⟩ := hf (j + 1) q' id' (by simpa using h1) (by simpa using h2)
                refine ⟨k1, k2, t2, p2, x2, tt2, r2, t2', cur2, e2, k3, k4, k5, ?_, k8⟩
                have hm : id' ∈ (setBx id ⟨tt, v, ms⟩ σ.bx).map (·.id) := by rw [setBx_ids]; exact List.mem_map.2 ⟨b2, k6, k7⟩
                obtain ⟨b3, h3, h4⟩ := List.mem_map.1 hm
                exact ⟨b3, h3, h4⟩
theorem storeIds_spec (T : Tabs) : ∀ {l : List Oper} {ids : List Nat}, storeIds T σ l = some ids → ids.length = l.length ∧ ids.Nodup ∧ ∀ (j : Nat) o id, l[j]? = some o → ids[j]? = some id → storeId T σ o = some id := by
  intro l
  induction l with
  | nil => intro ids h; simp [storeIds] at h; subst h; exact ⟨rfl, List.nodup_nil, fun j o id h => by simp at h⟩
  | cons o l ih =>
    intro ids h
    simp only [storeIds] at h
    cases h1 : storeId T σ o with
    | none => rw [h1] at h; simp at h
    | some id =>
      cases h2 : storeIds T σ l with
      | none => rw [h1, h2] at h; simp at h
      | some l' =>
        rw [h1, h2] at h
        simp only at h
        cases hc : l'.contains id with
        | true => rw [hc] at h; simp at h
        | false =>
          rw [hc] at h
          simp only [cond_false, Option.some.injEq] at h
          subst h
          obtain ⟨k1, k2, k3⟩ := ih h2
          refine ⟨by simp [k1], List.nodup_cons.2 ⟨by simpa using hc, k2⟩, fun j o' id' hj hi => ?_⟩
          cases j with
          | zero => simp at hj hi; subst hj; subst hi; exact h1
          | succ j => exact k3 j o' id' (by simpa using hj) (by simpa using hi)
theorem draw_early (hmix : P.follows .mixedOrders = true) (T : Tabs) (hT : TabOk P T.T) (hF : FOk P T.F) {id : Nat} {ops : Array Oper} {m n q0 : Nat} {k : XK → St → Option R} {r : R} (hB : earlyB ops m n q0 = true) (hm1 : m ≤ ops.size) (hmn : m ≤ n) (hnq : n ≤ q0) (hq1 : q0 ≤ ops.size)
    (hall : ∀ i o, i < m → ops[i]? = some o → headOp T o.op = true) (hnews : ∀ i o, m ≤ i → i < n → ops[i]? = some o → isNew T o = true) (hstores : ∀ i o, n ≤ i → i < q0 → ops[i]? = some o → isStore o = true)
    (h : earlyK T ops m n q0 σ (k .nor) = some r) (hr : RelE X E σ a.tmps w) :
    (Code.region id ops true).wp P (Ends X (.region id ops true) a (fun x σ' => k x σ' = some r)) a w := by
  have hn1 : n ≤ ops.size := by omega
  have hB0 := hB
  simp only [earlyB, Bool.and_eq_true, decide_eq_true_eq, List.all_eq_true, List.mem_range] at hB
  obtain ⟨⟨⟨⟨⟨⟨_, _⟩, _⟩, _⟩, hops⟩, _⟩, _⟩ := hB
  have hrow : ∀ i o, i < q0 → ops[i]? = some o → (decide (n ≤ i) || (o.dst.isSome && (List.range n).all (fun j => j == i || (match ops[j]? with | some p => !(p.dst == o.dst) | none => true)))) = true ∧
      ((decide (m ≤ i) && decide (i < n)) || (List.range n).all (fun j => match (ops[j]?).bind (·.dst) with
        | some t => !(o.looksAt ops).contains t || (decide (j < m) && decide (j < i) && Region.waitsFor .any ops i j)
        | none => true)) = true := by
    intro i o hi ho
    have h := hops i hi
    rw [ho] at h
    simp only [Bool.and_eq_true] at h
    exact ⟨h.1.1.2, h.1.2⟩
  have H : HeadOk ops (headD ops n) m n := by
    refine ⟨hmn, fun t => ⟨fun h => ?_, fun ⟨j, p, hj, hp, ht⟩ => ?_⟩, fun i o j p t hi ho hj hp ht hl => ?_, fun i o j p t hi ho hj hp hd ht => ?_⟩
    · obtain ⟨o, ho, hd⟩ := List.mem_filterMap.1 h
      obtain ⟨j, hj⟩ := List.getElem?_of_mem ho
      rw [List.getElem?_take] at hj
      split at hj
      · exact ⟨j, o, by assumption, by simpa using hj, hd⟩
      · cases hj
    · refine List.mem_filterMap.2 ⟨p, ?_, ht⟩
      refine List.mem_of_getElem? (i := j) ?_
      rw [List.getElem?_take, if_pos hj]
      simpa using hp
    · have h4 := (hrow i o (by omega) ho).2
      simp only [Bool.or_eq_true, Bool.and_eq_true, decide_eq_true_eq, List.all_eq_true, List.mem_range] at h4
      rcases h4 with h | h
      · omega
      · have := h j hj
        rw [hp] at this
        simp only [Option.bind_some, ht, Bool.or_eq_true, Bool.not_eq_true', Bool.and_eq_true, decide_eq_true_eq] at this
        rcases this with h | h
        · simp [List.contains_iff_mem, hl] at h
        · exact h.1.2
    · have h3 := (hrow i o (by omega) ho).1
      simp only [Bool.or_eq_true, decide_eq_true_eq, Bool.and_eq_true, List.all_eq_true, List.mem_range] at h3
      rcases h3 with h | ⟨_, h3⟩
      · omega
      · have := h3 j hj
        rw [hp] at this
        simp only [beq_iff_eq, Bool.not_eq_true', beq_eq_false_iff_ne, ne_eq] at this
        rcases this with h | h
        · exact h.symm
        · exact absurd (ht.trans hd.symm) h
  have hdst : ∀ i o, i < m → ops[i]? = some o → ∃ d, o.dst = some d := by
    intro i o hi ho
    have h3 := (hrow i o (by omega) ho).1
    simp only [Bool.or_eq_true, decide_eq_true_eq, Bool.and_eq_true] at h3
    rcases h3 with h | ⟨h, _⟩
    · omega
    · cases hd : o.dst with
      | none => rw [hd] at h; simp at h
      | some d => exact ⟨d, rfl⟩
  -- the stores
  unfold earlyK at h
  cases hout : ((ops.toList.drop n).take (q0 - n)).all (outPtr (headD ops n)) with
  | false => rw [hout] at h; simp at h
  | true =>
  rw [hout] at h
  simp only [Bool.not_true, cond_false] at h
  cases hids : storeIds T σ ((ops.toList.drop n).take (q0 - n)) with
  | none => rw [hids] at h; cases h
  | some ids =>
  rw [hids] at h
  simp only at h
  obtain ⟨hil, hind, his⟩ := storeIds_spec T hids
  have hsl : ((ops.toList.drop n).take (q0 - n)).length = q0 - n := by simp; omega
  have hsat : ∀ i o, n ≤ i → i < q0 → ops[i]? = some o → ((ops.toList.drop n).take (q0 - n))[i - n]? = some o := by
    intro i o h1 h2 ho
    rw [List.getElem?_take, if_pos (by omega), List.getElem?_drop, show n + (i - n) = i by omega]
    simpa using ho
  have hext : Ext w { w with drawn := w.drawn + 1 } := ⟨rfl, rfl, rfl, Nat.le_refl _, fun _ _ => rfl⟩
  have hr0 := hr.ext hext
  have hc0 := contig_zipIdx ops.toList 0
  have hzl : ops.toList.zipIdx.length = ops.size := by simp
  have hlen : (ops.toList.zipIdx.take m).length = m := by simp; omega
  obtain ⟨S, sk, σ1, _, g2, g3, _, g5, _⟩ := head_cert (P := P) (X := X) (σ0 := poison ids σ) T hT hF H (ops.size + 1) (S := fun _ => .no) (sk := fun _ => false) h (contig_take hc0) (fun q hq => zipIdx_at q (List.mem_of_mem_take hq)) (by rw [hlen]; omega) (fun q hq => by
      obtain ⟨j, hj⟩ := List.getElem?_of_mem hq
      rw [List.getElem?_take] at hj
      split at hj
      · obtain ⟨e1, e2⟩ := zip_at hj
        exact ⟨hall j q.1 (by assumption) e2, hdst j q.1 (by assumption) e2⟩
      · cases hj) ⟨SameB.refl _, fun t s ht => .inr (.inl ⟨fun j p hj => by omega, ht⟩)⟩ (fun j hj => by omega) (fun g hg => by cases hg)
  rw [hlen, Nat.zero_add] at g2 g3
  cases hall2 : ((ops.toList.drop n).take (q0 - n)).all (storeOk T σ1) with
  | false => rw [hall2] at g5; simp at g5
  | true =>
  rw [hall2] at g5
  simp only [cond_true] at g5
  have hst : ∀ i o, n ≤ i → i < q0 → ops[i]? = some o → StoreAt T σ σ1 (headD ops n) o (ids.getD (i - n) 0) ∧ ids.getD (i - n) 0 ∈ ids := by
    intro i o h1 h2 ho
    have hat := hsat i o h1 h2 ho
    have hlt : i - n < ids.length := by rw [hil, hsl]; omega
    have hid : ids[i - n]? = some (ids.getD (i - n) 0) := by rw [List.getD_eq_getElem?_getD, List.getElem?_eq_getElem hlt, Option.getD_some]
    have hs := his (i - n) o _ hat hid
    have hmem : o ∈ (ops.toList.drop n).take (q0 - n) := List.mem_of_getElem? hat
    have ho1 := List.all_eq_true.1 hout o hmem
    have ho2 := List.all_eq_true.1 hall2 o hmem
    have ho3 := hstores i o h1 h2 ho
    refine ⟨?_, List.mem_of_getElem? hid⟩
    generalize ids.getD (i - n) 0 = id' at hs
    simp only [isStore, Bool.and_eq_true] at ho3
    refine ⟨by simpa using ho3.1.2, by simpa using ho3.2, ?_⟩
    unfold outPtr at ho1
    split at ho1
    · rename_i t p x hop
      simp only [storeId, hop] at hs
      simp only [storeOk, hop] at ho2
      cases hTt : T.T t with
      | none => rw [hTt] at hs; simp at hs
      | some tt =>
        rw [hTt] at hs ho2
        simp only at ho2
        split at hs
        · rename_i tt' id0 r0 t' e1 e2
          cases hfi : σ.find id0 with
          | none => rw [hfi] at hs; cases hs
          | some y =>
            rw [hfi] at hs
            simp only at hs
            cases hbq : Ty.beq y.t tt' with
            | false => rw [hbq] at hs; cases hs
            | true =>
              rw [hbq] at hs
              simp only [cond_true, Option.some.injEq] at hs
              subst hs
              obtain ⟨z, hz⟩ := Option.isSome_iff_exists.1 ho2
              obtain ⟨v, ms⟩ := z
              have hfr : σ.fr[p]? = some (.ptr id0 r0 [] t') := by
                simp only [opd, List.getD_eq_getElem?_getD] at e2
                cases hq : σ.fr[p]? with
                | none => rw [hq] at e2; cases e2
                | some s => rw [hq] at e2; simp only [Option.getD_some] at e2; rw [e2]
              exact ⟨t, p, x, tt, r0, t', y, v, ms, hop, hTt, by simpa using ho1, hfr, find_mem hfi, (Ty.eq_of_beq hbq).trans (Option.some.inj e1).symm, hz⟩
        · cases hs
    · cases ho1
  have hidf : ∀ i j, n ≤ i → i < q0 → n ≤ j → j < q0 → ids.getD (i - n) 0 = ids.getD (j - n) 0 → i = j := by
    intro i j h1 h2 h3 h4 he
    have hi : i - n < ids.length := by rw [hil, hsl]; omega
    have hj : j - n < ids.length := by rw [hil, hsl]; omega
    rw [List.getD_eq_getElem?_getD, List.getD_eq_getElem?_getD, List.getElem?_eq_getElem hi, List.getElem?_eq_getElem hj, Option.getD_some, Option.getD_some] at he
    have hpw := List.pairwise_iff_getElem.1 hind
    rcases Nat.lt_trichotomy (i - n) (j - n) with h | h | h
    · exact absurd he (hpw _ _ hi hj h)
    · omega
    · exact absurd he.symm (hpw _ _ hj hi h)
  refine wp_region_any hmix ?_
  have hinfo : ∀ i, m ≤ i → i < n → ∃ o, ops[i]? = some o ∧ NewAt P o (newInf T (ops[i]?.getD default)).1 (newInf T (ops[i]?.getD default)).2.1 (newInf T (ops[i]?.getD default)).2.2 := by
    intro i h1 h2
    have hlt : i < ops.size := by omega
    have ho : ops[i]? = some ops[i] := Array.getElem?_eq_getElem hlt
    refine ⟨_, ho, ?_⟩
    rw [ho, Option.getD_some]
    exact new_at T hT (hnews i _ h1 h2 ho)
  have hfin := early_any T hT (D := headD ops n) (ids := ids) (idf := fun i => ids.getD (i - n) 0) (inf := fun i => newInf T (ops[i]?.getD default)) (Q := Ends X (.region id ops true) a (fun x σ' => k x σ' = some r)) (fun c a w h => by obtain ⟨x, hx, _⟩ := h; cases x <;> exact hx) hB0 H hr0 (fun i o hi ho => g2 i o (by omega) hi ho) g3 hst hidf hinfo (fun a' w' bl lb listed hl inv => by
      have hlen2 : ((ops.toList.zipIdx.drop m).take (n - m)).length = n - m := by simp; omega
      have hsplit : (ops.toList.zipIdx.drop m) = (ops.toList.zipIdx.drop m).take (n - m) ++ ops.toList.zipIdx.drop n := by
        conv => lhs; rw [← List.take_append_drop (n - m) (ops.toList.zipIdx.drop m)]
        rw [List.drop_drop, show m + (n - m) = n by omega]
      have hsplit2 : (ops.toList.zipIdx.drop n) = (ops.toList.zipIdx.drop n).take (q0 - n) ++ ops.toList.zipIdx.drop q0 := by
        conv => lhs; rw [← List.take_append_drop (q0 - n) (ops.toList.zipIdx.drop n)]
        rw [List.drop_drop, show n + (q0 - n) = q0 by omega]
      rw [hsplit] at g5
      have hnew : ∀ (j : Nat) q, ((ops.toList.zipIdx.drop m).take (n - m))[j]? = some q → j < n - m ∧ q.2 = m + j ∧ ops[m + j]? = some q.1 := by
        intro j q hj
        rw [List.getElem?_take] at hj
        split at hj
        · rename_i hjl
          rw [List.getElem?_drop] at hj
          obtain ⟨e1, e2⟩ := zip_at hj
          exact ⟨hjl, e1, e2⟩
        · cases hj
      have hq : ∀ q ∈ (ops.toList.zipIdx.drop m).take (n - m), m ≤ q.2 ∧ q.2 < n ∧ ops[q.2]? = some q.1 := by
        intro q hq
        obtain ⟨j, hj⟩ := List.getElem?_of_mem hq
        obtain ⟨j1, j2, j3⟩ := hnew j q hj
        exact ⟨by omega, by omega, by rw [j2]; exact j3⟩
      have hinf : ∀ q ∈ (ops.toList.zipIdx.drop m).take (n - m), newInf T (ops[q.2]?.getD default) = newInf T q.1 := fun q h => by rw [(hq q h).2.2, Option.getD_some]
      have d4 : ∀ i, m ≤ i → i < n → _ := fun i h1 h2 => inv.new i h1 h2 (hl i (by omega))
      have d5 : ∀ i j, m ≤ i → i < n → m ≤ j → j < n → bl i = bl j → i = j := fun i j h1 h2 h3 h4 => inv.inj i j h1 h2 h3 h4 (hl i (by omega)) (hl j (by omega))
      have hbl : (((ops.toList.zipIdx.drop m).take (n - m)).map (fun q => bl q.2)).Nodup := by
        refine List.pairwise_iff_getElem.2 fun i j hi hj hij he => ?_
        have hi' : i < ((ops.toList.zipIdx.drop m).take (n - m)).length := by simpa using hi
        have hj' : j < ((ops.toList.zipIdx.drop m).take (n - m)).length := by simpa using hj
        simp only [List.getElem_map] at he
        obtain ⟨i1, i2, _⟩ := hnew i _ (List.getElem?_eq_getElem hi')
        obtain ⟨j1, j2, _⟩ := hnew j _ (List.getElem?_eq_getElem hj')
        have := d5 _ _ (by omega) (by omega) (by omega) (by omega) he
        omega
      have hwhs : X.w0.heap.size ≤ w.heap.size := hr.fr.size
      have hfresh : ∀ q ∈ (ops.toList.zipIdx.drop m).take (n - m), w.heap.size ≤ bl q.2 ∧ bl q.2 < w'.heap.size := fun q h => ⟨(d4 q.2 (hq q h).1 (hq q h).2.1).2.1, (d4 q.2 (hq q h).1 (hq q h).2.1).2.2.1⟩
      have hdist : ∀ (i j : Nat) p q, ((ops.toList.zipIdx.drop m).take (n - m))[i]? = some p → ((ops.toList.zipIdx.drop m).take (n - m))[j]? = some q → i ≠ j → (newInf T p.1).1 ≠ (newInf T q.1).1 := by
        intro i j p q hp hq' hij he
        obtain ⟨i1, i2, i3⟩ := hnew i p hp
        obtain ⟨j1, j2, j3⟩ := hnew j q hq'
        have e1 := (new_at (P := P) T hT (hnews (m + i) p.1 (by omega) (by omega) i3)).dst
        have e2 := (new_at (P := P) T hT (hnews (m + j) q.1 (by omega) (by omega) j3)).dst
        rw [he] at e1
        have := H.inj (m + i) p.1 (m + j) q.1 _ (by omega) i3 (by omega) j3 e1 e2
        omega
      have hnd : ∀ q ∈ (ops.toList.zipIdx.drop m).take (n - m), q.1.dst = some (newInf T q.1).1 := fun q h => (new_at (P := P) T hT (hnews q.2 q.1 (hq q h).1 (hq q h).2.1 (hq q h).2.2)).dst
      -- the boxes' pointers as they were ahead
      obtain ⟨y1, y2, y3⟩ := fold_at (f := fun q => (newInf T q.1).1) (g := fun q => a.tmps.getD (newInf T q.1).1 undef) (A0 := a'.tmps) hdist
      generalize hA0 : ((ops.toList.zipIdx.drop m).take (n - m)).foldl (fun A q => A.setIfInBounds (newInf T q.1).1 (a.tmps.getD (newInf T q.1).1 undef)) a'.tmps = A0 at y1 y2 y3
      have hsz : a'.tmps.size = a.tmps.size := inv.siz
      have hold : ∀ q ∈ (ops.toList.zipIdx.drop m).take (n - m), A0[(newInf T q.1).1]? = a.tmps[(newInf T q.1).1]? := by
        intro q h
        rw [y3 q h]
        by_cases hlt : (newInf T q.1).1 < a.tmps.size
        · rw [Array.getElem?_setIfInBounds_self_of_lt (by rw [hsz]; exact hlt), Array.getElem?_eq_getElem hlt, Array.getD_eq_getD_getElem?, Array.getElem?_eq_getElem hlt, Option.getD_some]
        · rw [Array.getElem?_eq_none (by rw [Array.size_setIfInBounds, hsz]; exact Nat.le_of_not_lt hlt), Array.getElem?_eq_none (Nat.le_of_not_lt hlt)]
      have hr' := inv.base
      have hr1 : RelE X (E.outs (lb ++ E.out)) σ1 A0 w' := by
        refine hr'.frames g3.same (by rw [y1]; exact hsz) (fun t s v h1 h2 => ?_)
        by_cases ht : ∃ q ∈ (ops.toList.zipIdx.drop m).take (n - m), (newInf T q.1).1 = t
        · obtain ⟨q, hq', rfl⟩ := ht
          rw [hold q hq'] at h2
          rcases g3.slot _ s h1 with q1 | ⟨q1, q2⟩ | ⟨j, p, q1, q2, q3, q4⟩
          · subst q1; trivial
          · exact hr'.slot _ s v q2 h2
          · have := H.inj j p q.2 q.1 _ (by omega) q2 (hq q hq').2.1 (hq q hq').2.2 q3 (hnd q hq')
            have := (hq q hq').1
            omega
        · rw [y2 t (fun q h e => ht ⟨q, h, e⟩)] at h2
          rcases g3.slot t s h1 with q1 | ⟨q1, q2⟩ | ⟨j, p, q1, q2, q3, q4⟩
          · subst q1; trivial
          · have : a'.tmps[t]? = a.tmps[t]? := inv.oth t fun i o hi ho he => by
              rcases Nat.lt_or_ge i m with him | him
              · exact q1 i o him ho he
              · have hlt : i - m < ((ops.toList.zipIdx.drop m).take (n - m)).length := by rw [hlen2]; omega
                obtain ⟨k1, k2, k3⟩ := hnew (i - m) _ (List.getElem?_eq_getElem hlt)
                rw [show m + (i - m) = i by omega, ho] at k3
                refine ht ⟨_, List.getElem_mem hlt, ?_⟩
                have := hnd _ (List.getElem_mem hlt)
                rw [← Option.some.inj k3, he] at this
                exact (Option.some.inj (Option.some.inj k3 ▸ this)).symm
            rw [this] at h2
            exact hr'.slot t s v q2 h2
          · subst q4
            exact inv.slt j p t v q1 q2 q3 (hl j (by omega)) h2
      have hnodup : (((ops.toList.zipIdx.drop m).take (n - m)).map (fun q => bl q.2) ++ E.out).Nodup := by
        have ho : E.out.Nodup := by
          have := hr.nodup
          simp only [owned] at this
          exact (List.nodup_append.1 (List.nodup_append.1 this).2.1).2.1
        refine List.nodup_append.2 ⟨hbl, ho, fun b hb c hc he => ?_⟩
        obtain ⟨q, hq', rfl⟩ := List.mem_map.1 hb
        have h1 := (hfresh q hq').1
        have h2 : c < w.heap.size := (hr.lt c (mem_out hr hc)).1
        omega
      have hw := hr1.world (w1 := w') (l := ((ops.toList.zipIdx.drop m).take (n - m)).map (fun q => bl q.2) ++ E.out) (fun b hb _ => rfl) hr1.fr (Nat.le_refl _) hnodup (fun b hb => by
        rcases List.mem_append.1 hb with h | h
        · obtain ⟨q, hq', rfl⟩ := List.mem_map.1 h
          exact ⟨.inl (List.mem_append_left _ (inv.lmem q.2 (hq q hq').1 (hq q hq').2.1 (hl q.2 (by have := (hq q hq').2.1; omega)))), (hfresh q hq').2⟩
        · exact ⟨.inl (List.mem_append_right _ h), Nat.lt_of_lt_of_le (hr0.lt b (mem_out hr0 h)).1 inv.hsz⟩)
      have hpz : poison ids { σ1 with bx := σ.bx } = σ1 := by
        have h1 := g3.same.bx
        obtain ⟨fr, bx, al, fz, ln, nt⟩ := σ1
        simp only [poison] at h1 ⊢
        rw [h1]
      obtain ⟨n', σ2, E2, f1, f2, f3, f4, f7⟩ := boxes2_ok T hT (bl := bl) (ids := ids) (fun q h => hnews q.2 q.1 (hq q h).1 (hq q h).2.1 (hq q h).2.2) (fun id' hid' => by
          obtain ⟨j, hj⟩ := List.getElem?_of_mem hid'
          have hjl := (List.getElem?_eq_some_iff.1 hj).1
          rw [hil, hsl] at hjl
          have hlt : n + j < ops.size := by omega
          obtain ⟨⟨_, _, _, _, _, _, _, _, y, _, _, _, _, _, _, hy, _, _⟩, _⟩ := hst (n + j) _ (by omega) (by omega) (Array.getElem?_eq_getElem hlt)
          have h1 := hr.idlt _ hy
          rw [show n + j - n = j by omega, List.getD_eq_getElem?_getD, hj, Option.getD_some] at h1
          show id' < σ1.nt
          rw [g3.same.nt]
          exact h1) g5 (by rw [hpz]; exact hw.1) rfl (fun q h => ⟨Nat.le_trans hwhs (hfresh q h).1, by
        have := (d4 q.2 (hq q h).1 (hq q h).2.1).2.2.2
        rw [hinf q h] at this
        exact this⟩)
      obtain ⟨z1, z2, z3⟩ := fold_at (f := fun q => (newInf T q.1).1) (g := fun q => Value.pointer (some ⟨bl q.2, 0, none⟩)) (A0 := A0) hdist
      have hA : ((ops.toList.zipIdx.drop m).take (n - m)).foldl (fun A q => A.setIfInBounds (newInf T q.1).1 (.pointer (some ⟨bl q.2, 0, none⟩))) A0 = a'.tmps := by
        apply Array.ext_getElem?
        intro t
        by_cases ht : ∃ q ∈ (ops.toList.zipIdx.drop m).take (n - m), (newInf T q.1).1 = t
        · obtain ⟨q, hq', rfl⟩ := ht
          rw [z3 q hq']
          have := (d4 q.2 (hq q hq').1 (hq q hq').2.1).1 ⟨A0, a.defers⟩ (by rw [y1]; exact hsz)
          rw [hinf q hq'] at this
          exact this.symm
        · rw [z2 t (fun q hq' he => ht ⟨q, hq', he⟩), y2 t (fun q hq' he => ht ⟨q, hq', he⟩)]
      rw [hA] at f2
      rw [hsplit2] at f1
      have hslen : ((ops.toList.zipIdx.drop n).take (q0 - n)).length = ids.length := by rw [hil, hsl]; simp; omega
      obtain ⟨n2, σ4, f5, f6⟩ := stores_ok (a := a') T f1 f2 hslen hind (fun j q' id' h1 h2 => by
        rw [List.getElem?_take] at h1
        split at h1
        · rename_i hjl
          rw [List.getElem?_drop] at h1
          obtain ⟨e1, e2⟩ := zip_at h1
          obtain ⟨⟨k1, k2, t, p, x, tt, r0, t', y, v, ms, k3, k4, k5, k6, k7, k8, k9⟩, _⟩ := hst (n + j) q'.1 (by omega) (by omega) e2
          have hidj : ids.getD (n + j - n) 0 = id' := by rw [show n + j - n = j by omega, List.getD_eq_getElem?_getD, h2, Option.getD_some]
          rw [hidj] at k6 k7
          obtain ⟨cur, e, s1, s2, s3⟩ := inv.sto (n + j) q'.1 t p x tt (by omega) (by omega) e2 k3 k4
          simp only [hidj] at s1 s2 s3
          have hidl : id' < σ.nt := hr.idlt _ k7
          have had : E2.ad id' = E.ad id' := f3 id' (by show id' < σ1.nt; rw [g3.same.nt]; exact hidl)
          obtain ⟨tn, htt⟩ := hT.ty t _ k4
          refine ⟨k1, k2, t, p, x, tt, r0, t', cur, e, k3, k4, ?_, ?_, by rw [had]; exact s1, by rw [had]; exact s2, by rw [had]; exact s3 (hl _ (by omega)), tyB_scalar htt, ?_⟩
          · rw [f4 p (fun q hq' he => k5 ((H.mem p).2 ⟨q.2, q.1, (hq q hq').2.1, (hq q hq').2.2, he⟩))]
            show σ1.fr[p]? = _ ∨ σ1.fr[p]? = _
            have hlt : p < σ1.fr.length := by rw [g3.same.len]; exact (List.getElem?_eq_some_iff.1 k6).1
            rcases g3.slot p _ (List.getElem?_eq_getElem hlt) with q1 | ⟨q1, q2⟩ | ⟨j', p', q1, q2, q3, q4⟩
            · left; rw [List.getElem?_eq_getElem hlt, q1]
            · right
              have q2' : σ.fr[p]? = some σ1.fr[p] := q2
              rw [List.getElem?_eq_getElem hlt, ← k6, q2']
            · exact absurd ((H.mem p).2 ⟨j', p', by omega, q2, q3⟩) k5
          · exact ⟨⟨id', y⟩, f7 _ k7, rfl⟩
          · have := hr.srcb _ k7
            dsimp only at this
            rw [k8] at this
            rw [had]
            exact this
        · cases h1)
      have htail := ops_ok T hT hF n2 (l := ops.toList.zipIdx.drop q0) (i := 0 + q0) (a := a') f5 f6 (contig_drop hc0) (fun q hq => zipIdx_at q (List.mem_of_mem_drop hq)) (fun g hg => by cases hg) (Ends X (.region id ops true) a (fun x σ' => k x σ' = some r)) [] (fun a2 w2 he => ?_)
      · rw [List.append_nil, contig_snd (contig_drop (m := q0) hc0)] at htail
        simpa using htail
      · obtain ⟨e1, e2, e3, _, σ3, e4, e5⟩ := he
        refine ⟨.nor, trivial, e1.trans inv.dfr, e2.trans inv.siz, fun i hi => ?_, σ3, e4, e5⟩
        have hw : ∀ q ∈ ops.toList.zipIdx, q.1.dst ≠ some i := fun q hq => mem_opsWrites hi q.1 (by
          have := List.mem_zipIdx_iff_getElem?.1 hq
          exact List.mem_of_getElem? this)
        rw [e3 i (fun q hq => hw q (List.mem_of_mem_drop hq))]
        exact inv.oth i fun j o hj ho => hw (o, j) (by
          rw [List.mem_zipIdx_iff_getElem?]
          simpa using ho))
    q0 (Array.replicate ops.size false) a { w with drawn := w.drawn + 1 } (fun _ => 0) [] (by
      rw [List.countP_eq_length.2 (fun i hi => by
        have : i < q0 := List.mem_range.1 hi
        have hlt : i < ops.size := by omega
        simp [Array.getD_eq_getD_getElem?, hlt])]
      simp)
    ⟨⟨by simp, fun j oj _ hl => (by rw [getD_replicate_false] at hl; cases hl), fun t _ ht => getD_in (by simpa using ht) (getD_replicate_false _ _)⟩, by have := hr0.poison ids; exact this, Nat.le_refl _, rfl, rfl, fun _ _ => rfl,
      fun i o d u _ _ _ hl => (by rw [getD_replicate_false] at hl; cases hl), fun i o d u _ _ _ hl => (by rw [getD_replicate_false] at hl; cases hl), fun i _ _ hl => (by rw [getD_replicate_false] at hl; cases hl), fun i j _ _ _ _ hl => (by rw [getD_replicate_false] at hl; cases hl),
      fun b hb => (by cases hb), fun i _ _ hl => (by rw [getD_replicate_false] at hl; cases hl), fun i o t p x tt h1 h2 ho hop hTt => by
        obtain ⟨⟨_, _, t2, p2, x2, tt2, r0, t', y, v, ms, k3, k4, k5, k6, k7, k8, k9⟩, _⟩ := hst i o h1 h2 ho
        rw [hop] at k3
        simp only [Op.store.injEq, Operand.tmp.injEq] at k3
        obtain ⟨rfl, rfl, rfl⟩ := k3
        rw [hTt] at k4
        have := Option.some.inj k4
        subst this
        obtain ⟨cs, c, e, b1, b2, b3, b4, b5⟩ := hr0.bx _ k7
        dsimp only at b1 b3 b4
        have hl := b1.length
        rw [k8] at hl
        exact ⟨c, e, b3, by rw [← hl]; exact b4, fun hli => (by rw [getD_replicate_false] at hli; cases hli)⟩⟩
  rwa [show q0 + (ops.size - q0) = ops.size by omega] at hfin
theorem draw_ok (hmix : P.follows .mixedOrders = true) (T : Tabs) (hT : TabOk P T.T) (hF : FOk P T.F) {id : Nat} {ops : Array Oper} {k : XK → St → Option R} {r : R}
    (h : drawK T ops σ (k .nor) = some r) (hr : RelE X E σ a.tmps w) :
    (Code.region id ops true).wp P (Ends X (.region id ops true) a (fun x σ' => k x σ' = some r)) a w := by
  unfold drawK at h
  cases hB : mixB ops (drawM T ops) (drawN T ops) with
  | false =>
    rw [hB] at h
    simp only [cond_false] at h
    cases hB2 : mixB ops (drawH T ops) (drawHN T ops) with
    | false =>
      rw [hB2] at h
      simp only [cond_false] at h
      cases hB3 : earlyB ops (drawH T ops) (drawHN T ops) (drawQ T ops) with
      | false =>
        rw [hB3] at h
        simp only [cond_false] at h
        cases hB4 : mixB ops (gOfs T ops) (gN T ops (gOfs T ops)) && gChain T ops (gOfs T ops) with
        | false => rw [hB4] at h; simp at h
        | true =>
          rw [hB4] at h
          simp only [cond_true] at h
          simp only [Bool.and_eq_true] at hB4
          have hg1 : gOfs T ops ≤ gM T ops := by unfold gOfs; cases mixB ops (gM T ops) (gN T ops (gM T ops)) <;> simp
          have hg2 : gM T ops ≤ ops.size := by have := lead_le (p := fun o => isEff T o.op || headOp T o.op) (l := ops.toList); simpa [gM] using this
          have hmn : gOfs T ops ≤ gN T ops (gOfs T ops) := by unfold gN; omega
          have hn1 : gN T ops (gOfs T ops) ≤ ops.size := by have := lead_le (p := isNew T) (l := ops.toList.drop (gOfs T ops)); simp at this; unfold gN; omega
          exact draw_g hmix T hT hF hB4.1 (by omega) hmn hn1 hB4.2 (fun i o h1 h2 ho => lead_all (p := isNew T) (l := ops.toList.drop (gOfs T ops)) (i := i - gOfs T ops) (by unfold gN at h2; omega) (by
            rw [List.getElem?_drop, show gOfs T ops + (i - gOfs T ops) = i by omega]; simpa using ho)) h hr
      | true =>
        rw [hB3] at h
        simp only [cond_true] at h
        have hm1 : drawH T ops ≤ ops.size := by have := lead_le (p := fun o => headOp T o.op) (l := ops.toList); simpa [drawH] using this
        have hmn : drawH T ops ≤ drawHN T ops := by unfold drawHN; omega
        have hn1 : drawHN T ops ≤ ops.size := by have := lead_le (p := isNew T) (l := ops.toList.drop (drawH T ops)); simp at this; unfold drawHN; omega
        have hnq : drawHN T ops ≤ drawQ T ops := by unfold drawQ; omega
        have hq1 : drawQ T ops ≤ ops.size := by have := lead_le (p := isStore) (l := ops.toList.drop (drawHN T ops)); simp at this; unfold drawQ; omega
        exact draw_early hmix T hT hF hB3 hm1 hmn hnq hq1 (fun i o hi ho => lead_all (p := fun o => headOp T o.op) hi (by simpa using ho))
          (fun i o h1 h2 ho => lead_all (p := isNew T) (l := ops.toList.drop (drawH T ops)) (i := i - drawH T ops) (by unfold drawHN at h2; omega) (by
            rw [List.getElem?_drop, show drawH T ops + (i - drawH T ops) = i by omega]; simpa using ho))
          (fun i o h1 h2 ho => lead_all (p := isStore) (l := ops.toList.drop (drawHN T ops)) (i := i - drawHN T ops) (by unfold drawQ at h2; omega) (by
            rw [List.getElem?_drop, show drawHN T ops + (i - drawHN T ops) = i by omega]; simpa using ho)) h hr
    | true =>
      rw [hB2] at h
      simp only [cond_true] at h
      have hm1 : drawH T ops ≤ ops.size := by have := lead_le (p := fun o => headOp T o.op) (l := ops.toList); simpa [drawH] using this
      have hmn : drawH T ops ≤ drawHN T ops := by unfold drawHN; omega
      have hn1 : drawHN T ops ≤ ops.size := by have := lead_le (p := isNew T) (l := ops.toList.drop (drawH T ops)); simp at this; unfold drawHN; omega
      exact draw_head hmix T hT hF hB2 hm1 hmn hn1 (fun i o hi ho => lead_all (p := fun o => headOp T o.op) hi (by simpa using ho))
        (fun i o h1 h2 ho => lead_all (p := isNew T) (l := ops.toList.drop (drawH T ops)) (i := i - drawH T ops) (by unfold drawHN at h2; omega) (by
          rw [List.getElem?_drop, show drawH T ops + (i - drawH T ops) = i by omega]; simpa using ho)) h hr
  | true =>
    rw [hB] at h
    simp only [cond_true] at h
    have hm1 : drawM T ops ≤ ops.size := by have := lead_le (p := fun o => fixK T o.op) (l := ops.toList); simpa [drawM] using this
    have hmn : drawM T ops ≤ drawN T ops := by unfold drawN; omega
    have hn1 : drawN T ops ≤ ops.size := by have := lead_le (p := isNew T) (l := ops.toList.drop (drawM T ops)); simp at this; unfold drawN; omega
    have hfixed : ∀ i o, i < drawM T ops → ops[i]? = some o → fixK T o.op = true := fun i o hi ho => lead_all (p := fun o => fixK T o.op) hi (by simpa using ho)
    have hnews : ∀ i o, drawM T ops ≤ i → i < drawN T ops → ops[i]? = some o → isNew T o = true := fun i o h1 h2 ho => lead_all (p := isNew T) (l := ops.toList.drop (drawM T ops)) (i := i - drawM T ops) (by unfold drawN at h2; omega) (by
      rw [List.getElem?_drop, show drawM T ops + (i - drawM T ops) = i by omega]; simpa using ho)
    generalize drawM T ops = m at *
    generalize drawN T ops = n at *
    have hext : Ext w { w with drawn := w.drawn + 1 } := ⟨rfl, rfl, rfl, Nat.le_refl _, fun _ _ => rfl⟩
    have hr0 := hr.ext hext
    have hzl : ops.toList.zipIdx.length = ops.size := by simp
    have hc0 := contig_zipIdx ops.toList 0
    obtain ⟨aL, g1, g2, g3, g4, σ1, g5, E1, g6⟩ := fixops_ok T hT hF (ops := ops) (ops.size + 1) (l := ops.toList.zipIdx.take m) h hr0 (contig_take hc0) (fun q hq => zipIdx_at q (List.mem_of_mem_take hq)) (fun g hg => by cases hg) (fun q hq => by
      obtain ⟨j, hj⟩ := List.getElem?_of_mem hq
      rw [List.getElem?_take] at hj
      split at hj
      · exact hfixed j q.1 (by assumption) (zip_at hj).2
      · cases hj)
    have hmap : (ops.toList.zipIdx.take m).map (·.1) = ops.toList.take m := by rw [List.map_take, List.zipIdx_map_fst]
    rw [hmap] at g1
    refine wp_region_any hmix ?_
    have hinfo : ∀ i, m ≤ i → i < n → ∃ o, ops[i]? = some o ∧ NewAt P o (newInf T (ops[i]?.getD default)).1 (newInf T (ops[i]?.getD default)).2.1 (newInf T (ops[i]?.getD default)).2.2 := by
      intro i h1 h2
      have hlt : i < ops.size := by omega
      refine ⟨ops[i], Array.getElem?_eq_getElem hlt, ?_⟩
      rw [Array.getElem?_eq_getElem hlt, Option.getD_some]
      exact new_at T hT (hnews i _ h1 h2 (Array.getElem?_eq_getElem hlt))
    have hfin := mix_any (P := P) (ops := ops) (a := a) (w := { w with drawn := w.drawn + 1 }) (Q := Ends X (.region id ops true) a (fun x σ' => k x σ' = some r)) (m := m) (n := n) (aL := aL) (inf := fun i => newInf T (ops[i]?.getD default)) (fun c a w h => by obtain ⟨x, hx, _⟩ := h; cases x <;> exact hx) hB g1 hinfo (fun a' w' bl d1 d2 d3 d4 d5 d6 => by
        -- behind the boxes
        have hl : ops.toList.zipIdx.drop m = (ops.toList.zipIdx.drop m).take (n - m) ++ ops.toList.zipIdx.drop n := by
          have := (List.take_append_drop (n - m) (ops.toList.zipIdx.drop m)).symm
          rwa [List.drop_drop, show m + (n - m) = n by omega] at this
        rw [hl] at g5
        have hnew : ∀ (j : Nat) q, ((ops.toList.zipIdx.drop m).take (n - m))[j]? = some q → j < n - m ∧ q.2 = m + j ∧ ops[m + j]? = some q.1 := by
          intro j q hq
          rw [List.getElem?_take] at hq
          split at hq
          · rw [List.getElem?_drop] at hq
            exact ⟨by assumption, zip_at hq⟩
          · cases hq
        have hq : ∀ q ∈ (ops.toList.zipIdx.drop m).take (n - m), m ≤ q.2 ∧ q.2 < n ∧ ops[q.2]? = some q.1 := by
          intro q hq
          obtain ⟨j, hj⟩ := List.getElem?_of_mem hq
          obtain ⟨j1, j2, j3⟩ := hnew j q hj
          exact ⟨by omega, by omega, by rw [j2]; exact j3⟩
        have hinf : ∀ q ∈ (ops.toList.zipIdx.drop m).take (n - m), newInf T (ops[q.2]?.getD default) = newInf T q.1 := fun q h => by rw [(hq q h).2.2, Option.getD_some]
        have hbl : (((ops.toList.zipIdx.drop m).take (n - m)).map (fun q => bl q.2)).Nodup := by
          refine List.pairwise_iff_getElem.2 fun i j hi hj hij he => ?_
          have hi' : i < ((ops.toList.zipIdx.drop m).take (n - m)).length := by simpa using hi
          have hj' : j < ((ops.toList.zipIdx.drop m).take (n - m)).length := by simpa using hj
          simp only [List.getElem_map] at he
          obtain ⟨i1, i2, _⟩ := hnew i _ (List.getElem?_eq_getElem hi')
          obtain ⟨j1, j2, _⟩ := hnew j _ (List.getElem?_eq_getElem hj')
          have := d5 _ _ (by omega) (by omega) (by omega) (by omega) he
          omega
        have hwhs : X.w0.heap.size ≤ w.heap.size := hr.fr.size
        have hfresh : ∀ q ∈ (ops.toList.zipIdx.drop m).take (n - m), w.heap.size ≤ bl q.2 ∧ bl q.2 < w'.heap.size := fun q h => ⟨(d4 q.2 (hq q h).1 (hq q h).2.1).2.1, (d4 q.2 (hq q h).1 (hq q h).2.1).2.2.1⟩
        have hnodup : (((ops.toList.zipIdx.drop m).take (n - m)).map (fun q => bl q.2) ++ E1.out).Nodup := by
          have ho : E1.out.Nodup := by
            have := g6.nodup
            simp only [owned] at this
            exact (List.nodup_append.1 (List.nodup_append.1 this).2.1).2.1
          refine List.nodup_append.2 ⟨hbl, ho, fun b hb c hc he => ?_⟩
          obtain ⟨q, hq', rfl⟩ := List.mem_map.1 hb
          have h1 := (hfresh q hq').1
          have h2 : c < w.heap.size := (g6.lt c (mem_out g6 hc)).1
          omega
        have hw := g6.world (w1 := w') (l := ((ops.toList.zipIdx.drop m).take (n - m)).map (fun q => bl q.2) ++ E1.out) (fun b hb _ => d6.block b hb) (g6.fr.ext d6) d6.size hnodup (fun b hb => by
          rcases List.mem_append.1 hb with h | h
          · obtain ⟨q, hq', rfl⟩ := List.mem_map.1 h
            exact ⟨.inr (hfresh q hq').1, (hfresh q hq').2⟩
          · exact ⟨.inl h, Nat.lt_of_lt_of_le (g6.lt b (mem_out g6 h)).1 d6.size⟩)
        obtain ⟨n', σ2, E2, f1, f2⟩ := boxes_ok T hT (bl := bl) (fun q h => hnews q.2 q.1 (hq q h).1 (hq q h).2.1 (hq q h).2.2) g5 hw.1 rfl (fun q h => ⟨Nat.le_trans hwhs (hfresh q h).1, by
          have := (d4 q.2 (hq q h).1 (hq q h).2.1).2.2.2
          rw [hinf q h] at this
          exact this⟩)
        have hdist : ∀ (i j : Nat) p q, ((ops.toList.zipIdx.drop m).take (n - m))[i]? = some p → ((ops.toList.zipIdx.drop m).take (n - m))[j]? = some q → i ≠ j → (newInf T p.1).1 ≠ (newInf T q.1).1 := by
          intro i j p q hp hq' hij he
          obtain ⟨i1, i2, i3⟩ := hnew i p hp
          obtain ⟨j1, j2, j3⟩ := hnew j q hq'
          have hb := hB
          simp only [mixB, Bool.and_eq_true, List.all_eq_true, List.mem_range] at hb
          have h1 := hb.1.1.2 (m + i) (by omega)
          rw [i3] at h1
          simp only [Bool.and_eq_true, List.all_eq_true, List.mem_range] at h1
          have h2 := h1.1.1.2 (m + j) (by omega)
          rw [j3] at h2
          have e1 := (new_at (P := P) T hT (hnews (m + i) p.1 (by omega) (by omega) i3)).dst
          have e2 := (new_at (P := P) T hT (hnews (m + j) q.1 (by omega) (by omega) j3)).dst
          simp only [e1, e2, he] at h2
          simp at h2
          omega
        obtain ⟨z1, z2, z3⟩ := fold_at (f := fun q => (newInf T q.1).1) (g := fun q => Value.pointer (some ⟨bl q.2, 0, none⟩)) (A0 := aL.tmps) hdist
        have hA : ((ops.toList.zipIdx.drop m).take (n - m)).foldl (fun A q => A.setIfInBounds (newInf T q.1).1 (.pointer (some ⟨bl q.2, 0, none⟩))) aL.tmps = a'.tmps := by
          apply Array.ext_getElem?
          intro t
          by_cases ht : ∃ q ∈ (ops.toList.zipIdx.drop m).take (n - m), (newInf T q.1).1 = t
          · obtain ⟨q, hq', rfl⟩ := ht
            rw [z3 q hq']
            have := (d4 q.2 (hq q hq').1 (hq q hq').2.1).1 aL g3
            rw [hinf q hq'] at this
            exact this.symm
          · rw [z2 t (fun q hq' he => ht ⟨q, hq', he⟩)]
            exact (d3 t (fun i h1 h2 he => ht (by
              have hlt : i - m < ((ops.toList.zipIdx.drop m).take (n - m)).length := by simp; omega
              refine ⟨_, List.getElem_mem hlt, ?_⟩
              obtain ⟨k1, k2, k3⟩ := hnew (i - m) _ (List.getElem?_eq_getElem hlt)
              rw [← he, ← hinf _ (List.getElem_mem hlt), k2, show m + (i - m) = i by omega]))).symm
        rw [hA] at f2
        have htail := ops_ok T hT hF n' (l := ops.toList.zipIdx.drop n) (i := 0 + n) (a := a') f1 f2 (contig_drop hc0) (fun q hq => zipIdx_at q (List.mem_of_mem_drop hq)) (fun g hg => by cases hg) (Ends X (.region id ops true) a (fun x σ' => k x σ' = some r)) [] (fun a2 w2 he => ?_)
        · rw [List.append_nil, contig_snd (contig_drop (m := n) hc0)] at htail
          simpa using htail
        · obtain ⟨e1, e2, e3, _, σ3, e4, e5⟩ := he
          refine ⟨.nor, trivial, e1.trans d1, e2.trans d2, fun i hi => ?_, σ3, e4, e5⟩
          have hw : ∀ q ∈ ops.toList.zipIdx, q.1.dst ≠ some i := fun q hq => mem_opsWrites hi q.1 (by
            have := List.mem_zipIdx_iff_getElem?.1 hq
            exact List.mem_of_getElem? this)
          rw [e3 i (fun q hq => hw q (List.mem_of_mem_drop hq)), d3 i (fun j h1 h2 he => by
            have hlt : j < ops.size := by omega
            have hN := (new_at (P := P) T hT (hnews j _ h1 h2 (Array.getElem?_eq_getElem hlt))).dst
            rw [Array.getElem?_eq_getElem hlt, Option.getD_some] at he
            rw [he] at hN
            exact hw (ops[j], j) (by
              rw [List.mem_zipIdx_iff_getElem?]
              simp) hN)]
          exact g4 i (fun q hq => hw q (List.mem_of_mem_take hq)))
      n (Array.replicate ops.size false) a { w with drawn := w.drawn + 1 } (fun _ => 0) (by
        rw [List.countP_eq_length.2 (fun i hi => by
          have : i < n := List.mem_range.1 hi
          have hlt : i < ops.size := by omega
          simp [Array.getD_eq_getD_getElem?, hlt])]
        simp)
      ⟨⟨by simp, fun j oj _ hl => (by rw [getD_replicate_false] at hl; cases hl), fun t _ ht => getD_in (by simpa using ht) (getD_replicate_false _ _)⟩, Ext.refl _, rfl, rfl, fun _ _ => rfl,
        fun i o d _ _ _ hl => (by rw [getD_replicate_false] at hl; cases hl), fun i _ _ hl => (by rw [getD_replicate_false] at hl; cases hl), fun i j _ _ _ _ hl => (by rw [getD_replicate_false] at hl; cases hl)⟩
    rwa [show n + (ops.size - n) = ops.size by omega] at hfin
end
end Go.Proofs.Ytcdncdbghghnfaa.V
