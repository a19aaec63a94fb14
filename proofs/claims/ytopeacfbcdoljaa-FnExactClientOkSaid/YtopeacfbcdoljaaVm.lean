/- Soundness of single operations, ninth part: elements, cuts of strings and slices. -/
import Derived.Test.YtopeacfbcdoljaaVl
namespace Go.Proofs.Ytopeacfbcdoljaa.V
open Go
section
variable {P : Program} {X : Ctx} {E : Env} {σ : St} {A0 : Array Value} {a : Act} {w : World} {o : Oper} {R : Type}
theorem idxK_ok {α : Type} {xs : List α} {i : Operand} {k : Nat → α → Option R} {r : R} (hr : RelE X E σ a.tmps w) (h : idxK xs (opd σ i) k = some r) :
    ∃ q n x, a.eval i = .int q n ∧ 0 ≤ n ∧ xs[n.toNat]? = some x ∧ k n.toNat x = some r := by
  unfold idxK at h
  split at h
  · rename_i q n ms hm e
    obtain ⟨h1, h2⟩ := guardK_some h
    cases hx : xs[n.toNat]? with
    | none => rw [hx] at h2; simp at h2
    | some x => rw [hx] at h2; exact ⟨q, n, x, val_int (slot_of_opd hr e), by simpa using h1, hx, h2⟩
  · cases h
theorem atHome_al {e : TypeId} {u : Ty} {τ : Nat} {h : Option Home} {h' : Home} (hh : atHome σ e u τ h = some h') : τ ∈ σ.al := by
  unfold atHome at hh
  cases h with
  | none => cases hh
  | some h =>
    cases hc : σ.al.contains τ with
    | false => simp only [hc, cond_false] at hh; cases hh
    | true => simpa using hc
theorem step_indexAddr (T : Tabs) (hT : TabOk P T.T) {s : TypeId} {x i : Operand} (ho : o.op = .indexAddr s x i) {k : St → Option R} {r : R} (h : stepK T o σ k = some r) (hr : RelE X E σ a.tmps w) : StepOk P X T o a w (fun σ' => k σ' = some r) := by
  simp only [stepK, ho] at h
  have hnt : 0 < σ.nt := by have := hr.nt2; omega
  split at h
  · -- an array
    rename_i n u hTs
    obtain ⟨m, ht⟩ := hT.ty s _ hTs
    obtain ⟨m2, e, hu, he⟩ := tyB_arr ht
    have hel : P.elem s = e ∧ P.arrayLen s = n := by simp [Program.elem, Program.arrayLen, hu]
    have hsz : (sizeOf e).run P w = .ok u.size w := run_sizeOf_ty he w
    have hrun : ∀ b f q (j : Int), 0 ≤ j → j < n → (Instr.indexAt s (.pointer (some ⟨b, f, none⟩)) (.int q j)).run P w = .ok (.pointer (some ⟨b, f + j.toNat * u.size, none⟩)) w := by
      intro b f q j h0 h1
      rw [run_indexAt_array _ _ _ _ _ (by rw [hel.1, hel.2]; exact hu), hel.1, hel.2, if_pos ⟨h0, h1⟩, hsz, Result.andThen_ok, add_addr]
    have hs := slot_opd hr x
    revert hs h
    cases ex : opd σ x with
    | ptr id r' q t =>
      intro h hs
      cases hb : Ty.beq t (.arr n u) with
      | false => simp only [hb, cond_false] at h; cases h
      | true =>
        simp only [hb, cond_true] at h
        have e' := Ty.eq_of_beq hb
        subst e'
        split at h
        · rename_i q' j ms hm ei
          obtain ⟨h1, h2⟩ := guardK_some h
          simp only [Bool.and_eq_true, decide_eq_true_eq] at h1
          obtain ⟨hid, b, f, hv, ha⟩ := hs
          have hi := val_int (slot_of_opd hr ei)
          refine stepOk_value (v := .pointer (some ⟨b, f + (j : Int).toNat * u.size, none⟩)) (w' := w) ?_ ⟨E, hr.put (s := .ptr id r' (q ++ [.ix (j : Int).toNat]) u) o.dst ⟨hid, b, _, rfl, ?_⟩⟩ h2
          · simp only [execOp, ho, hv, hi, hrun b f q' j h1.1 h1.2, Sem.run_bind, Result.andThen_ok, Sem.run_pure]
          · rw [addr_append ha]
            have h3 : (j : Int).toNat < n := (fun (z : Int) (h4 : 0 ≤ z) (h5 : z < (n : Int)) => (by omega : z.toNat < n)) j h1.1 h1.2
            simp [addr, h3]
        · cases h
    | rptr τ y =>
      intro h hs
      cases hc : cast? (.arr n u) y with
      | none => simp only [hc] at h; cases h
      | some q =>
        obtain ⟨v, ms⟩ := q
        simp only [hc] at h
        have e' := cast?_some hc
        subst e'
        cases hcc : σ.us τ && !(τ == 1) with
        | false => simp only [hcc, cond_false] at h; cases h
        | true =>
          simp only [hcc, cond_true] at h
          simp only [Bool.and_eq_true, Bool.not_eq_true', beq_eq_false_iff_ne, ne_eq] at hcc
          obtain ⟨q, j, z, hi, h0, hz, h2⟩ := idxK_ok hr h
          obtain ⟨hid, b, f, hv, ha⟩ := hs
          have hus : frz σ τ ∨ τ ∈ σ.al := by
            rcases us_iff.1 hcc.1 with h | h | h | h
            · exact .inl (.inl h)
            · exact absurd h hcc.2
            · exact .inr h
            · exact .inl (.inr h)
          obtain ⟨cs, ⟨l1, l2, l3, l4⟩, a2, a3, a4, a5⟩ := ha hus
          have hj : j < n := by have := (List.getElem?_eq_some_iff.1 hz).1; rw [l1] at this; omega
          refine stepOk_value (v := .pointer (some ⟨b, f + j.toNat * u.size, none⟩)) (w' := w) ?_ ⟨E, hr.put (s := .rptr τ ⟨u, z, []⟩) o.dst ⟨hid, b, _, rfl, fun _ => ⟨_, ?_, by rw [l4]; rfl, a3.seg, a4, a5⟩⟩⟩ h2
          · simp only [execOp, ho, hv, hi, hrun b f q j h0 hj, Sem.run_bind, Result.andThen_ok, Sem.run_pure]
          · have := rv_of_rf (E := E) hnt hr.z (l3 _ _ hz)
            rw [l4] at this
            exact this
    | _ => intro h; simp at h
  · -- a slice
    rename_i e u hTs
    obtain ⟨m, ht⟩ := hT.ty s _ hTs
    obtain ⟨m2, hu, he⟩ := tyB_sl ht
    have hel : P.elem s = e := by simp [Program.elem, hu]
    have hsz : (sizeOf e).run P w = .ok u.size w := run_sizeOf_ty he w
    have hpos : 0 < u.size := by have := tyB_ok ht; simp [Ty.ok] at this; exact this.2
    have hs := slot_opd hr x
    revert hs h
    cases ex : opd σ x with
    | val y hm =>
      intro h hs
      cases hc : cast? (.sl e u) y with
      | none => simp only [hc] at h; cases h
      | some q =>
        obtain ⟨v, ms⟩ := q
        simp only [hc] at h
        have e' := cast?_some hc
        subst e'
        obtain ⟨q, j, z, hi, h0, hz, h2⟩ := idxK_ok hr h
        obtain ⟨cs, ⟨c, ec, hleaf⟩, hv, _⟩ := hs
        subst ec
        have hlt := hleaf.1
        have hus : σ.us (ms.headD 0) = true := by
          split at h2
          · rename_i h' hh
            exact us_iff.2 (.inr (.inr (.inl (atHome_al hh))))
          · cases hb : σ.us (ms.headD 0) with
            | true => rfl
            | false => simp only [hb, cond_false] at h2; cases h2
        obtain ⟨ad, cap, css, rfl, hl, hrs, hne, _⟩ := leaf_row hr hleaf hus
        have hjl : j.toNat < (v : List u.den).length := (List.getElem?_eq_some_iff.1 hz).1
        have hcn : css ≠ [] := by
          intro h0'
          have h3 : (v : List u.den).length * u.size = 0 := by rw [← hl, h0']; rfl
          rcases Nat.mul_eq_zero.1 h3 with h4 | h4 <;> omega
        obtain ⟨b, f, rfl, hat, hnal, htwo⟩ := hne hcn
        have hrun : (execOp a.eval o).run P w = .ok (.value (.pointer (some ⟨b, f + j.toNat * u.size, none⟩))) w := by
          have hj : j < ((v : List u.den).length : Nat) := by omega
          simp only [execOp, ho, hv, hi, toVal, Ty.agg, Bool.false_eq_true, if_false, List.headD_cons, Sem.run_bind]
          rw [run_indexAt_slice _ _ _ _ _ _ _ (by rw [hel]; exact hu), hel, if_pos ⟨h0, hj⟩, hsz]
          simp only [Result.andThen_ok, add_addr, Sem.run_pure]
        split at h2
        · rename_i h' hh
          have hal := atHome_al hh
          have h2' := (hr.alr _ hal).1
          obtain ⟨rfl, hhd⟩ := htwo h2'
          exact stepOk_value hrun ⟨E, hr.put (s := .eptr h' (ms.headD 0) j.toNat u [] u) o.dst ⟨⟨h2', hlt⟩, b, b, _, hhd, rfl, by simp [addr]⟩⟩ h2
        · rw [hus] at h2
          simp only [cond_true] at h2
          refine stepOk_value hrun ⟨E, hr.put (s := .rptr (ms.headD 0) ⟨u, z, List.replicate u.nl 0⟩) o.dst ⟨hlt, b, _, rfl, fun _ => ⟨_, rv_of_rf hnt hr.z (hrs _ _ hz), by simp, hat.seg, fun hal => (htwo (hr.alr _ hal).1).2, fun h => .inl (hnal h)⟩⟩⟩ h2
    | _ => intro h; simp at h
  · cases h
theorem step_index (T : Tabs) (hT : TabOk P T.T) {s : TypeId} {x i : Operand} (ho : o.op = .index s x i) {k : St → Option R} {r : R} (h : stepK T o σ k = some r) (hr : RelE X E σ a.tmps w) : StepOk P X T o a w (fun σ' => k σ' = some r) := by
  simp only [stepK, ho] at h
  split at h
  · rename_i hTs
    obtain ⟨m, ht⟩ := hT.ty s _ hTs
    split at h
    · rename_i l ms hm ex
      obtain ⟨q, j, z, hi, h0, hz, h2⟩ := idxK_ok hr h
      have hv := val_str (slot_of_opd hr ex)
      have hjl : j.toNat < (l : List UInt8).length := (List.getElem?_eq_some_iff.1 hz).1
      refine stepOk_value (v := .int .u8 ((z.toNat : Nat) : Int)) (w' := w) ?_ ⟨E, hr.put (s := .val ⟨.int .u8, ((z.toNat : Nat) : Int), []⟩ none) o.dst (slot_int _ _ none)⟩ h2
      have hsize : (⟨(l : List UInt8).toArray⟩ : ByteArray).size = (l : List UInt8).length := rfl
      simp only [execOp, ho, hv, hi, Sem.run_bind]
      rw [run_index_string _ _ _ _ _ (tyB_str ht), dif_pos ⟨h0, by rw [hsize]; omega⟩]
      simp only [Result.andThen_ok, Sem.run_pure]
      have hz' : (l : List UInt8)[j.toNat] = z := by
        rw [List.getElem?_eq_getElem hjl] at hz
        exact Option.some.inj hz
      rw [← hz']
      rfl
    · cases h
  · rename_i n u hTs
    obtain ⟨m, ht⟩ := hT.ty s _ hTs
    obtain ⟨m2, e, hu, he⟩ := tyB_arr ht
    have hsz : (sizeOf e).run P w = .ok u.size w := run_sizeOf_ty he w
    have hs := slot_opd hr x
    revert hs h
    cases ex : opd σ x with
    | val y hm =>
      intro h hs
      cases hc : cast? (.arr n u) y with
      | none => simp only [hc] at h; cases h
      | some q =>
        obtain ⟨v, ms⟩ := q
        simp only [hc] at h
        have e' := cast?_some hc
        subst e'
        cases hnl : u.nl == 0 with
        | false => simp only [hnl, cond_false] at h; cases h
        | true =>
          simp only [hnl, cond_true] at h
          obtain ⟨q, j, z, hi, h0, hz, h2⟩ := idxK_ok hr h
          obtain ⟨cs, ⟨l1, l2, l3, l4⟩, hv, _⟩ := hs
          have hjl : j.toNat < n := by rw [← l1]; exact (List.getElem?_eq_some_iff.1 hz).1
          have hrf := l3 _ _ hz
          have hrv : Rv w (Fz X E σ w) E σ u z [] (seg cs u.size j.toNat) := by
            have := rv_of_rf (E := E) (by have := hr.nt2; omega) hr.z hrf
            rwa [l4] at this
          refine stepOk_value (v := toVal u (seg cs u.size j.toNat)) (w' := w) ?_ ⟨E, hr.put (s := .val ⟨u, z, []⟩ none) o.dst ⟨_, hrv, rfl, by rw [l4]; rfl⟩⟩ h2
          have hp := run_part (w := w) he (xs := cs.toArray) (off := j.toNat * u.size) (c := seg cs u.size j.toNat) (by simp [V.seg]) hrf.length
          have hj : j < (n : Nat) := by omega
          simp only [execOp, ho, hv, hi, toVal, Ty.agg, if_true, Instr.index, asIntOf, Sem.run_bind, Sem.run_pure, run_underlying hu, Result.andThen_ok]
          simp only [h0, hj, and_self, if_true, Sem.run_bind, hsz, Result.andThen_ok]
          rw [hp]; rfl
    | _ => intro h; simp at h
  · cases h
end
end Go.Proofs.Ytopeacfbcdoljaa.V
