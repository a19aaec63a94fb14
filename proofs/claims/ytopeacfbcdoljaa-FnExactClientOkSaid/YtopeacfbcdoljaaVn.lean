/- Soundness of single operations, tenth part: cuts of strings and slices; conversions. -/
import Derived.Test.YtopeacfbcdoljaaVm
namespace Go.Proofs.Ytopeacfbcdoljaa.V
open Go
section
variable {P : Program} {X : Ctx} {E : Env} {σ : St} {A0 : Array Value} {a : Act} {w : World} {o : Oper} {R : Type}
theorem int_opd (hr : RelE X E σ a.tmps w) {x : Operand} {q : IntKind} {n : Int} {ms : List Nat} {hm : Option Home} (h : opd σ x = .val ⟨.int q, n, ms⟩ hm) : a.eval x = .int q n := val_int (slot_of_opd hr h)
theorem boundK_ok {n : Nat} {lo hi : Option Operand} {k : Nat → Nat → Option R} {r : R} (hr : RelE X E σ a.tmps w) (h : boundK n (lo.map (opd σ)) (hi.map (opd σ)) k = some r) :
    ∃ l m, k l m = some r ∧ l ≤ m ∧ m ≤ n ∧ (∀ (α : Type) (xs : List α), xs.length = n → cutList xs (lo.map (opd σ)) (hi.map (opd σ)) l m = (xs.take m).drop l) ∧ (lo = none → l = 0) ∧
      ∀ b cap, n ≤ cap → (Instr.sliceBounds b n cap (lo.map a.eval) (hi.map a.eval) none).run P w = .ok (l, m, cap) w := by
  cases lo with
  | none =>
    cases hi with
    | none =>
      refine ⟨0, n, h, Nat.zero_le _, Nat.le_refl _, fun α xs hx => ?_, fun _ => rfl, fun b cap hc => ?_⟩
      · simp [cutList, ← hx]
      · simp [Instr.sliceBounds]
    | some y =>
      simp only [Option.map_none, Option.map_some, boundK] at h
      split at h
      · first | exact absurd ‹some _ = none› (by simp) | exact absurd ‹none = some _› (by simp)
      · rename_i q z ms hm e1 e2
        simp only [Option.some.injEq] at e2
        obtain ⟨h1, h2⟩ := guardK_some h
        simp only [Bool.and_eq_true, decide_eq_true_eq] at h1
        have hz := int_opd hr e2
        refine ⟨0, (z : Int).toNat, h2, Nat.zero_le _, ?_, fun α xs hx => by simp [cutList], fun _ => rfl, fun b cap hc => ?_⟩
        · exact (fun (z : Int) (h4 : 0 ≤ z) (h5 : z ≤ (n : Int)) => (by omega : z.toNat ≤ n)) z h1.1 h1.2
        · have hle : (z : Int) ≤ cap := Int.le_trans h1.2 (by omega)
          have h0 : (0 : Int) ≤ z := h1.1
          simp [Instr.sliceBounds, hz, run_sliceBound, h0, hle]
      · first | exact absurd ‹some _ = none› (by simp) | exact absurd ‹none = some _› (by simp)
      · first | exact absurd ‹some _ = none› (by simp) | exact absurd ‹none = some _› (by simp)
      · cases h
  | some x =>
    cases hi with
    | none =>
      simp only [Option.map_none, Option.map_some, boundK] at h
      split at h
      · first | exact absurd ‹some _ = none› (by simp) | exact absurd ‹none = some _› (by simp)
      · first | exact absurd ‹some _ = none› (by simp) | exact absurd ‹none = some _› (by simp)
      · rename_i q z ms hm e1 e2
        simp only [Option.some.injEq] at e1
        obtain ⟨h1, h2⟩ := guardK_some h
        simp only [Bool.and_eq_true, decide_eq_true_eq] at h1
        have hz := int_opd hr e1
        have hle : (z : Int) ≤ n := h1.2
        have h0 : (0 : Int) ≤ z := h1.1
        refine ⟨(z : Int).toNat, n, h2, ?_, Nat.le_refl _, fun α xs hx => by simp [cutList, ← hx], (fun h => nomatch h), fun b cap hc => ?_⟩
        · exact (fun (z : Int) (h4 : 0 ≤ z) (h5 : z ≤ (n : Int)) => (by omega : z.toNat ≤ n)) z h1.1 h1.2
        · simp [Instr.sliceBounds, hz, run_sliceBound, h0, hle]
      · first | exact absurd ‹some _ = none› (by simp) | exact absurd ‹none = some _› (by simp)
      · cases h
    | some y =>
      simp only [Option.map_some, boundK] at h
      split at h
      · first | exact absurd ‹some _ = none› (by simp) | exact absurd ‹none = some _› (by simp)
      · first | exact absurd ‹some _ = none› (by simp) | exact absurd ‹none = some _› (by simp)
      · first | exact absurd ‹some _ = none› (by simp) | exact absurd ‹none = some _› (by simp)
      · rename_i q1 z1 ms1 hm1 q2 z2 ms2 hm2 e1 e2
        simp only [Option.some.injEq] at e1 e2
        obtain ⟨h1, h2⟩ := guardK_some h
        simp only [Bool.and_eq_true, decide_eq_true_eq] at h1
        have hz1 := int_opd hr e1
        have hz2 := int_opd hr e2
        have a1 : (0 : Int) ≤ z1 := h1.1.1.1
        have a2 : (z1 : Int) ≤ z2 := h1.1.1.2
        have a3 : (0 : Int) ≤ z2 := h1.1.2
        have a4 : (z2 : Int) ≤ n := h1.2
        have key : ∀ z1 z2 : Int, 0 ≤ z1 → z1 ≤ z2 → 0 ≤ z2 → z2 ≤ (n : Int) → z1.toNat ≤ z2.toNat ∧ z2.toNat ≤ n ∧ z1 ≤ (z2.toNat : Nat) := fun z1 z2 _ _ _ _ => by omega
        obtain ⟨k1, k2, k3⟩ := key z1 z2 a1 a2 a3 a4
        refine ⟨(z1 : Int).toNat, (z2 : Int).toNat, h2, k1, k2, fun α xs hx => by simp [cutList], (fun h => nomatch h), fun b cap hc => ?_⟩
        have hle : (z2 : Int) ≤ cap := Int.le_trans a4 (by omega)
        simp only [Instr.sliceBounds, hz1, hz2, Option.map_some, Sem.run_bind, Sem.run_pure, Result.andThen_ok, run_sliceBound _ _ _ _ _ a3 hle, run_sliceBound _ _ _ _ _ a1 k3]
      · cases h
/-- A slice's beginning. -/
theorem Leaf.take {A : Nat → Prop} {e : TypeId} {t : Ty} {τ : Nat} {xs : List t.den} {ad : Option Addr} {cap m : Nat} (h : Leaf w A E σ e t τ xs (.slice ad xs.length cap)) (hm : m ≤ xs.length) :
    Leaf w A E σ e t τ (xs.take m) (.slice ad m cap) := by
  have hl : (xs.take m).length = m := by simp; omega
  obtain ⟨h1, ad', cap', e1, h2, h3, h4, h5⟩ := h
  simp only [Value.slice.injEq, true_and] at e1
  obtain ⟨rfl, rfl⟩ := e1
  have hseg : ∀ (css : List Value) i, i < m → seg (css.take (m * t.size)) t.size i = seg css t.size i := by
    intro css i hi
    have h6 : (i + 1) * t.size ≤ m * t.size := Nat.mul_le_mul_right _ hi
    rw [Nat.add_mul] at h6
    simp only [V.seg]
    rw [List.drop_take, List.take_take, Nat.min_eq_left (by omega)]
  have hle : m * t.size ≤ xs.length * t.size := Nat.mul_le_mul_right _ hm
  refine ⟨h1, ad, cap, by rw [hl], fun hz => ?_, fun h => ?_, h4, fun hal => ?_⟩
  · obtain ⟨ad', cap', css, e1, e2, e3, e4, e5⟩ := h2 hz
    simp only [List.cons.injEq, Value.slice.injEq, and_true, true_and] at e1
    obtain ⟨rfl, rfl⟩ := e1
    refine ⟨ad, cap, css.take (m * t.size), by rw [hl], ?_, fun i x hx => ?_, fun hn => ?_, ?_⟩
    · show (css.take (m * t.size)).length = (xs.take m).length * t.size
      rw [hl, List.length_take]; omega
    · have hi : i < m := by have := (List.getElem?_eq_some_iff.1 hx).1; rw [hl] at this; exact this
      rw [hseg _ _ hi]
      exact e3 i x (by rw [List.getElem?_take, if_pos hi] at hx; exact hx)
    · obtain ⟨b, f, q1, q2, q3⟩ := e4 (fun h => hn (by rw [h]; simp))
      refine ⟨b, f, q1, q2, fun j v hv => q3 j v ?_⟩
      rw [List.getElem?_take] at hv
      split at hv
      · exact hv
      · cases hv
    · show (xs.take m).length ≤ cap
      rw [hl]; omega
  · obtain ⟨q1, q2, q3⟩ := h3 h
    exact ⟨q1, q2, by rw [q3]; simp⟩
  · obtain ⟨css, hown, hrs⟩ := h5 hal
    refine ⟨css.take (m * t.size), ⟨?_, ?_⟩, fun i x hx => ?_⟩
    · rw [hl, List.length_take, hown.1]; omega
    · rcases hown.2 with ⟨e1, e2⟩ | ⟨g, cap', cur, e1, q2, q3, q4, q5, q6, q7⟩
      · simp only [Value.slice.injEq] at e1
        left
        refine ⟨?_, by rw [hl]; omega⟩
        rw [e1.1, e1.2.2, show m = 0 by omega]
      · simp only [Value.slice.injEq] at e1
        right
        simp only [true_and] at e1
        refine ⟨g, cap, cur, by rw [hl, e1.1], q2, q3, by rw [hl]; have := e1.2; omega, by rw [e1.2]; exact q5, by rw [e1.2]; exact q6, ?_⟩
        rw [hl, ← q7, List.take_take, Nat.min_eq_left (by omega)]
    · have hi : i < m := by have := (List.getElem?_eq_some_iff.1 hx).1; rw [hl] at this; exact this
      rw [hseg _ _ hi]
      exact hrs i x (by rw [List.getElem?_take, if_pos hi] at hx; exact hx)
theorem freeze_us (σ : St) (τ υ : Nat) (h : σ.us υ = true) : (σ.freeze [τ]).us υ = true := by
  simp only [St.freeze]
  cases hc : σ.al.contains τ with
  | false => exact h
  | true =>
    simp only [cond_true]
    rw [us_iff] at h ⊢
    rcases h with h | h | h | h
    · exact .inl h
    · exact .inr (.inl h)
    · by_cases he : υ = τ
      · subst he; exact .inr (.inr (.inr List.mem_cons_self))
      · exact .inr (.inr (.inl ((List.mem_erase_of_ne he).2 h)))
    · exact .inr (.inr (.inr (List.mem_cons_of_mem _ h)))
theorem freeze_not (hn : σ.al.Nodup) (τ : Nat) : τ ∉ (σ.freeze [τ]).al := by
  simp only [St.freeze]
  cases hc : σ.al.contains τ with
  | false => intro h; simp at hc; exact hc h
  | true => intro h; exact (hn.mem_erase_iff.1 h).1 rfl
theorem opd_freeze (σ : St) (l : List Nat) (x : Operand) : opd (σ.freeze l) x = opd σ x := by
  cases x with
  | tmp t => simp [opd, (freeze_fr σ l).1]
  | const v =>
    cases v with
    | slice a n c => cases a <;> cases n <;> cases c <;> rfl
    | _ => rfl
  | _ => rfl
theorem addr_add {b f j : Nat} : (⟨b, f, none⟩ : Addr).add j = ⟨b, f + j, none⟩ := add_addr b f j
/-- A part of a slice, from now on read only. -/
theorem leaf_cut (hr : RelE X E σ a.tmps w) {e : TypeId} {t : Ty} {τ : Nat} {xs : List t.den} {ad : Option Addr} {cap : Nat} (h : Leaf w (Fz X E σ w) E σ e t τ xs (.slice ad xs.length cap)) (hu : σ.us τ = true) (hn : τ ∉ σ.al)
    {l m : Nat} (hlm : l ≤ m) (hm : m ≤ xs.length) (hpos : 0 < t.size) :
    Leaf w (Fz X E σ w) E σ e t 0 ((xs.take m).drop l) (.slice (if cap = l then ad else ad.map (·.add (l * t.size))) (m - l) (cap - l)) := by
  have hnt := hr.nt2
  have hl : ((xs.take m).drop l).length = m - l := by simp; omega
  obtain ⟨ad', cap', css, e1, e2, e3, e4, e5⟩ := leaf_row hr h hu
  simp only [Value.slice.injEq, true_and] at e1
  obtain ⟨rfl, rfl⟩ := e1
  refine ⟨by omega, _, _, by rw [hl], fun _ => ?_, fun h => by omega, fun h => by omega, fun h => absurd h hr.z⟩
  have hle : m * t.size ≤ xs.length * t.size := Nat.mul_le_mul_right _ hm
  have hle2 : l * t.size ≤ m * t.size := Nat.mul_le_mul_right _ hlm
  refine ⟨_, _, (css.take (m * t.size)).drop (l * t.size), by rw [hl], ?_, fun i x hx => ?_, fun hcn => ?_, ?_⟩
  · show _ = ((xs.take m).drop l).length * t.size
    rw [hl, List.length_drop, List.length_take, Nat.sub_mul]; omega
  · have hx' : ((xs.take m).drop l)[i]? = some x := hx
    have hi : i < m - l := by have := (List.getElem?_eq_some_iff.1 hx').1; rw [hl] at this; exact this
    rw [List.getElem?_drop, List.getElem?_take, if_pos (by omega)] at hx'
    have := e3 _ x hx'
    have hs : seg ((css.take (m * t.size)).drop (l * t.size)) t.size i = seg css t.size (l + i) := by
      have h6 : (l + i + 1) * t.size ≤ m * t.size := Nat.mul_le_mul_right _ (by omega)
      simp only [Nat.add_mul, Nat.one_mul] at h6
      simp only [V.seg, Nat.add_mul]
      rw [List.drop_drop, List.drop_take, List.take_take, Nat.min_eq_left (by omega)]
    rw [hs]; exact this
  · have hcn' : css ≠ [] := fun h => hcn (by rw [h]; simp)
    obtain ⟨b, f, rfl, hat, hfz, _⟩ := e4 hcn'
    have hne : cap ≠ l := by
      intro he
      apply hcn
      have : m = l := by omega
      rw [this]
      exact List.drop_eq_nil_of_le (by rw [List.length_take]; omega)
    refine ⟨b, f + l * t.size, by simp [hne, addr_add], hfz hn, fun j v hv => ?_⟩
    rw [List.getElem?_drop, List.getElem?_take] at hv
    split at hv
    · rw [Nat.add_assoc]; exact hat _ _ hv
    · cases hv
  · show ((xs.take m).drop l).length ≤ cap - l
    rw [hl]; omega
theorem step_slice (T : Tabs) (hT : TabOk P T.T) {s : TypeId} {x : Operand} {lo hi : Option Operand} (ho : o.op = .slice s x lo hi none) {k : St → Option R} {r : R} (h : stepK T o σ k = some r) (hr : RelE X E σ a.tmps w) : StepOk P X T o a w (fun σ' => k σ' = some r) := by
  simp only [stepK, ho] at h
  have hnt : 0 < σ.nt := by have := hr.nt2; omega
  split at h
  · rename_i hTs
    obtain ⟨m, ht⟩ := hT.ty s _ hTs
    split at h
    · rename_i l ms hm ex
      obtain ⟨i, j, h2, hij, hjn, hcut, _, hb⟩ := boundK_ok (P := P) hr h
      have hv := val_str (slot_of_opd hr ex)
      rw [hcut _ _ rfl] at h2
      refine stepOk_value (v := .string ⟨(((l : List UInt8).take j).drop i).toArray⟩) (w' := w) ?_ ⟨E, hr.put (s := .val ⟨.str, ((l : List UInt8).take j).drop i, []⟩ none) o.dst (slot_str _ none)⟩ h2
      have hb' := hb false _ (Nat.le_refl _)
      simp only [execOp, ho, hv, Sem.run_bind, Option.map_none]
      rw [run_sliceAt_string _ _ _ _ _ _ (tyB_str ht)]
      have hsize : (⟨(l : List UInt8).toArray⟩ : ByteArray).size = (l : List UInt8).length := rfl
      simp only [Instr.slice, Sem.run_bind, run_underlying (tyB_str ht), Result.andThen_ok, hsize, hb', Sem.run_pure, Option.isSome_none, Bool.false_eq_true, if_false]
      rw [ByteArray.extract_mk, List.drop_take]
    · cases h
  · rename_i e t hTs
    obtain ⟨m, ht⟩ := hT.ty s _ hTs
    obtain ⟨m2, hu, he⟩ := tyB_sl ht
    have hel : P.elem s = e := by simp [Program.elem, hu]
    have hsz : (sizeOf e).run P w = .ok t.size w := run_sizeOf_ty he w
    have hpos : 0 < t.size := by have := tyB_ok ht; simp [Ty.ok] at this; exact this.2
    have hs := slot_opd hr x
    revert hs h
    cases ex : opd σ x with
    | val y hm =>
      intro h hs
      cases hc : cast? (.sl e t) y with
      | none => simp only [hc] at h; cases h
      | some q =>
        obtain ⟨v, ms⟩ := q
        simp only [hc] at h
        have e' := cast?_some hc
        subst e'
        obtain ⟨i, j, h2, hij, hjn, hcut, hlo, hb⟩ := boundK_ok (P := P) hr h
        obtain ⟨cs, ⟨c, ec, hleaf⟩, hv, hms⟩ := hs
        subst ec
        obtain ⟨ad, cap, hcc⟩ : ∃ ad cap, c = .slice ad (v : List t.den).length cap := by obtain ⟨_, ad, cap, hcc, _⟩ := hleaf; exact ⟨ad, cap, hcc⟩
        subst hcc
        have hcap : (v : List t.den).length ≤ cap → (execOp a.eval o).run P w = .ok (.value (.slice (if cap = i then ad else ad.map (·.add (i * t.size))) (j - i) (cap - i))) w := by
          intro hcap
          have hb' := hb true cap hcap
          simp only [execOp, ho, hv, toVal, Ty.agg, Bool.false_eq_true, if_false, List.headD_cons, Sem.run_bind, Option.map_none]
          rw [run_sliceAt_slice _ _ _ _ _ _ (by rw [hel]; exact hu)]
          simp only [Instr.slice, Sem.run_bind, run_underlying hu, Result.andThen_ok, hb', hsz, Sem.run_pure]
        cases lo with
        | none =>
          have hi0 := hlo rfl
          subst hi0
          simp only at h2
          cases hus : σ.us (ms.headD 0) with
          | false => rw [hus] at h2; simp only [cond_false] at h2; cases h2
          | true =>
          rw [hus] at h2
          simp only [cond_true] at h2
          have hct := hcut t.den (v : List t.den) rfl
          simp only [Option.map_none, List.drop_zero] at hct
          rw [hct] at h2
          have hle : (v : List t.den).length ≤ cap := by
            obtain ⟨_, _, _, q1, _, _, _, q5⟩ := leaf_row hr hleaf hus
            simp only [Value.slice.injEq, true_and] at q1
            rw [q1.2]; exact q5
          refine stepOk_value (hcap hle) ⟨E, hr.put (s := .val ⟨.sl e t, (v : List t.den).take j, ms⟩ hm) o.dst ⟨_, ⟨_, rfl, hleaf.take hjn⟩, ?_, hms⟩⟩ h2
          have hadd : ad.map (·.add (0 * t.size)) = ad := by cases ad <;> simp [Addr.add]
          rw [hadd]
          simp [toVal, Ty.agg]
        | some lo' =>
          simp only at h2
          cases hus : σ.us (ms.headD 0) with
          | false => rw [hus] at h2; simp only [cond_false] at h2; cases h2
          | true =>
            rw [hus] at h2
            simp only [cond_true] at h2
            have hms1 : ms = [ms.headD 0] := by
              have : ms.length = 1 := hms
              match ms, this with
              | [τ], _ => rfl
            have hr' := hr.freeze ms
            have hleaf' : Leaf w (Fz X E (σ.freeze ms) w) E (σ.freeze ms) e t (ms.headD 0) (v : List t.den) (.slice ad (v : List t.den).length cap) := by
              have hs2 := slot_opd hr' x
              rw [opd_freeze, ex] at hs2
              obtain ⟨cs, ⟨c, ec, hleaf2⟩, hv2, _⟩ := hs2
              subst ec
              rw [hv] at hv2
              simp only [toVal, Ty.agg, Bool.false_eq_true, if_false, List.headD_cons] at hv2
              rw [hv2]; exact hleaf2
            have hus' : (σ.freeze ms).us (ms.headD 0) = true := by rw [hms1]; exact freeze_us σ _ _ (by simpa using hus)
            have hnal : ms.headD 0 ∉ (σ.freeze ms).al := by rw [hms1]; exact freeze_not hr.aln _
            obtain ⟨_, _, _, q1, _, _, _, q5⟩ := leaf_row hr' hleaf' hus'
            simp only [Value.slice.injEq, true_and] at q1
            have hle : (v : List t.den).length ≤ cap := by rw [q1.2]; exact q5
            rw [hcut t.den (v : List t.den) rfl] at h2
            exact stepOk_value (hcap hle) ⟨E, hr'.put (s := .val ⟨.sl e t, ((v : List t.den).take j).drop i, [0]⟩ none) o.dst ⟨_, ⟨_, rfl, leaf_cut hr' hleaf' hus' hnal hij hjn hpos⟩, rfl, rfl⟩⟩ h2
    | _ => intro h; simp at h
  · cases h
end
end Go.Proofs.Ytopeacfbcdoljaa.V
