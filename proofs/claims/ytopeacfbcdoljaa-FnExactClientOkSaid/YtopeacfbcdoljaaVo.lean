/- Soundness of single operations, eleventh part: conversions; rows that are made and grow. -/
import Derived.Test.YtopeacfbcdoljaaVn
namespace Go.Proofs.Ytopeacfbcdoljaa.V
open Go
section
variable {P : Program} {X : Ctx} {E : Env} {σ : St} {A0 : Array Value} {a : Act} {w : World} {o : Oper} {R : Type}
theorem step_convert (T : Tabs) (hT : TabOk P T.T) {s d : TypeId} {x : Operand} (ho : o.op = .convert s d x) {k : St → Option R} {r : R} (h : stepK T o σ k = some r) (hr : RelE X E σ a.tmps w) : StepOk P X T o a w (fun σ' => k σ' = some r) := by
  simp only [stepK, ho] at h
  split at h
  · rename_i q0 q q1 n m hm hs hd ex
    obtain ⟨_, hs'⟩ := hT.ty s _ hs
    obtain ⟨_, hd'⟩ := hT.ty d _ hd
    have hv := int_opd hr ex
    have hu := tyB_int hd'
    have hk : P.intKind d = q := by simp [Program.intKind, hu]
    refine stepOk_value (v := .int q (q.wrap n)) (w' := w) ?_ ⟨E, hr.put (s := .val ⟨.int q, q.wrap n, []⟩ none) o.dst (slot_int _ _ none)⟩ h
    simp only [execOp, ho, hv, Sem.run_bind]
    rw [run_convert_int _ _ _ _ _ (by rw [tyB_int hs']; rfl) (by rw [hk]; exact hu), hk]
    simp only [Result.andThen_ok, Sem.run_pure]
  · rename_i n m hm hs hd ex
    obtain ⟨_, hs'⟩ := hT.ty s _ hs
    obtain ⟨_, hd'⟩ := hT.ty d _ hd
    have hv := val_str (slot_of_opd hr ex)
    refine stepOk_value (v := .string ⟨(n : List UInt8).toArray⟩) (w' := w) ?_ ⟨E, hr.put (s := .val ⟨.str, n, []⟩ none) o.dst (slot_str _ none)⟩ h
    simp only [execOp, ho, hv, Sem.run_bind, convert, run_underlying (tyB_str hs'), run_underlying (tyB_str hd'), Result.andThen_ok, Sem.run_pure]
  · rename_i e hs hd
    obtain ⟨_, hs'⟩ := hT.ty s _ hs
    obtain ⟨_, hd'⟩ := hT.ty d _ hd
    obtain ⟨_, hu, he⟩ := tyB_sl hs'
    have he' := tyB_int he
    have hud := tyB_str hd'
    split at h
    · rename_i _ n ms hm ex
      cases hus : σ.us (ms.headD 0) with
      | false => rw [hus] at h; simp only [cond_false] at h; cases h
      | true =>
        rw [hus] at h
        simp only [cond_true] at h
        obtain ⟨cs, ⟨c, ec, hleaf⟩, hv, _⟩ := slot_of_opd hr ex
        subst ec
        simp only [toVal, Ty.agg, Bool.false_eq_true, if_false, List.headD_cons] at hv
        obtain ⟨ad, cap, css, rfl, hl, hrs, hne, hcap⟩ := leaf_row hr hleaf hus
        refine stepOk_value (v := .string (strOfNums n)) (w' := w) ?_ ⟨E, hr.put (s := .val ⟨.str, (n : List Int).map fun (b : Int) => UInt8.ofNat b.toNat, []⟩ none) o.dst (slot_str _ none)⟩ h
        simp only [execOp, ho, hv, Sem.run_bind]
        by_cases hc : css = []
        · have hn : (n : List Int) = [] := by
            have : (n : List Int).length * 1 = 0 := by have := hl; rw [hc] at this; exact this.symm
            exact List.eq_nil_of_length_eq_zero (by omega)
          have : (convert s d (.slice ad (n : List Int).length cap)).run P w = .ok (.string (strOfNums n)) w := by
            rw [hn]
            cases ad with
            | none => exact run_convert_bytes_nil w s _ hu he' 0 cap d hud
            | some ad => exact run_convert_bytes_back w s d _ ad cap [] hu he' hud (fun j hj => by simp at hj)
          rw [this]; simp only [Result.andThen_ok, Sem.run_pure]
        · obtain ⟨b, f, rfl, hat, _⟩ := hne hc
          rw [run_convert_bytes_arg w s _ hu he' b f _ cap n rfl (fun i hi => hat i _ (by
            have hz : (n : List Int)[i]? = some (n : List Int)[i] := List.getElem?_eq_getElem hi
            have h1 := hrs i _ hz
            have h2 : seg css 1 i = [.int .u8 ((n : List Int)[i])] := h1
            have h3 : css[i]? = some (.int .u8 ((n : List Int)[i])) := by
              have : (seg css 1 i)[0]? = some (.int .u8 ((n : List Int)[i])) := by rw [h2]; rfl
              simpa [V.seg] using this
            rw [h3, List.getD, hz]; rfl)) d hud]
          simp only [Result.andThen_ok, Sem.run_pure]
    · rename_i ex
      have hv : a.eval x = .slice none 0 0 := opd_nil hr ex
      refine stepOk_value (v := .string ⟨([] : List UInt8).toArray⟩) (w' := w) ?_ ⟨E, hr.put (s := .val ⟨.str, ([] : List UInt8), []⟩ none) o.dst (slot_str _ none)⟩ h
      simp only [execOp, ho, hv, Sem.run_bind]
      rw [run_convert_bytes_nil w s _ hu he' 0 0 d hud]
      simp only [Result.andThen_ok, Sem.run_pure]; rfl
    · cases h
  · cases h
/-- A new row, with a token of its own. -/
theorem RelE.fresh (hr : RelE X E σ A0 w) {w1 : World} (hx : Ext w w1) {g : Nat} (hg : w.heap.size ≤ g ∧ g < w1.heap.size) :
    RelE X (E.tok σ.nt (some g)) (σ.more 1) A0 w1 ∧
      Keep w w1 (Fz X E σ w) (Fz X (E.tok σ.nt (some g)) (σ.more 1) w1) E (E.tok σ.nt (some g)) σ (σ.more 1) := by
  have hn : σ.nt ∉ σ.al := fun h => by have := (hr.alr _ h).2.1; omega
  have := hr.renew (w1 := w1) σ.nt σ.ln (some g) (fun p hp => .inr hp) (fun b hb _ => hx.block b hb) (hr.fr.ext hx) hx.size (fun b hb => by injection hb with hb; subst hb; exact ⟨.inr hg.1, hg.2⟩)
  rw [List.erase_of_not_mem hn] at this
  exact this
/-- A new slice's leaf. -/
theorem leaf_new {E' : Env} {σ' : St} {A : Nat → Prop} {e : TypeId} {t : Ty} {τ g cap : Nat} {xs : List t.den} {css : List Value} (h2 : 2 ≤ τ) (hlt : τ < σ'.nt) (hfz : τ ∉ σ'.fz) (hhd : E'.hd τ = some g)
    (hown : w.ownsRow 0 e t.size (.slice (some ⟨g, 0, none⟩) xs.length cap) xs.length css) (hrs : ∀ (i : Nat) (x : t.den), xs[i]? = some x → Rf w A t x (seg css t.size i)) :
    Leaf w A E' σ' e t τ xs (.slice (some ⟨g, 0, none⟩) xs.length cap) := by
  refine ⟨hlt, _, _, rfl, fun hz => ?_, fun h => by omega, fun _ => by rw [hhd]; rfl, fun _ => ⟨css, hown, hrs⟩⟩
  rcases hz with h | h
  · omega
  · exact absurd h hfz
theorem more_val {e : TypeId} {t : Ty} {A : Nat → Prop} {E' : Env} {xs : List t.den} {g cap : Nat} {css : List Value} {w1 : World} (hr : RelE X E σ A0 w) (hhd : E'.hd σ.nt = some g)
    (hown : w1.ownsRow 0 e t.size (.slice (some ⟨g, 0, none⟩) xs.length cap) xs.length css) (hrs : ∀ (i : Nat) (x : t.den), xs[i]? = some x → Rf w1 A t x (seg css t.size i)) :
    SlotOk w1 A E' (σ.more 1) (.val ⟨.sl e t, xs, [σ.nt]⟩ none) (.slice (some ⟨g, 0, none⟩) xs.length cap) :=
  ⟨_, ⟨_, rfl, leaf_new (τ := σ.nt) hr.nt2 (Nat.lt_succ_self _) (fun h => by have := (hr.fzr _ h).2; omega) hhd hown hrs⟩, rfl, rfl⟩
theorem seg_made {t : Ty} {z : Array Value} {n i : Nat} (hz : z.toList = zc t) (hl : (zc t).length = t.size) (hpos : 0 < t.size) (hi : i < n) : seg (madeCells z (n * t.size)).toList t.size i = zc t := by
  have hi1 : (i + 1) * t.size ≤ n * t.size := Nat.mul_le_mul_right _ hi
  rw [Nat.add_mul] at hi1
  have hzs : z.size = t.size := by rw [← Array.length_toList, hz, hl]
  apply List.ext_getElem?
  intro q
  simp only [V.seg, List.getElem?_take, List.getElem?_drop]
  by_cases hq : q < t.size
  · rw [if_pos hq]
    have h1 : i * t.size + q < n * t.size := by omega
    have h2 : (madeCells z (n * t.size)).toList[i * t.size + q]? = some (z[(i * t.size + q) % z.size]!) := by
      simp [madeCells, h1]
    rw [h2, hzs]
    have h3 : (i * t.size + q) % t.size = q := by rw [Nat.add_comm, Nat.add_mul_mod_self_right, Nat.mod_eq_of_lt hq]
    rw [h3, ← hz]
    have h4 : q < z.size := by omega
    simp [h4]
  · rw [if_neg hq, List.getElem?_eq_none (by omega)]
theorem step_makeSlice (T : Tabs) (hT : TabOk P T.T) {s : TypeId} {x y : Operand} (ho : o.op = .makeSlice s x y) {k : St → Option R} {r : R} (h : stepK T o σ k = some r) (hr : RelE X E σ a.tmps w) : StepOk P X T o a w (fun σ' => k σ' = some r) := by
  simp only [stepK, ho] at h
  split at h
  · rename_i e t q1 n m1 h1 q2 c m2 h2 hs ex ey
    obtain ⟨_, hs'⟩ := hT.ty s _ hs
    obtain ⟨_, hu, he⟩ := tyB_sl hs'
    have hpos : 0 < t.size := by have := tyB_ok hs'; simp [Ty.ok] at this; exact this.2
    obtain ⟨g1, g2⟩ := guardK_some h
    simp only [Bool.and_eq_true, decide_eq_true_eq] at g1
    obtain ⟨fi, z, i1, i2, i3, i4, i5⟩ := tyB_info he
    have v1 := int_opd hr ex
    have v2 := int_opd hr ey
    have a1 : (0 : Int) ≤ n := g1.1.1
    have a2 : (n : Int) ≤ c := g1.1.2
    have a3 : (c : Int) ≤ 4294967296 := g1.2
    have hb : (fi.bytes : Int) * c ≤ 281474976710656 := by
      have h5 : (fi.bytes : Int) ≤ 32768 := by omega
      have h6 : (0 : Int) ≤ c := Int.le_trans a1 a2
      calc (fi.bytes : Int) * c ≤ 32768 * c := Int.mul_le_mul_of_nonneg_right h5 h6
        _ ≤ 32768 * 4294967296 := Int.mul_le_mul_of_nonneg_left a3 (by decide)
        _ ≤ 281474976710656 := by decide
    have hrun := run_make (P := P) w s e fi z hu i1 i4 q1 q2 n c a1 a2 hb (Int.le_trans a3 (show (4294967296 : Int) ≤ 9223372036854775807 by decide))
    have hzl : (zc t).length = t.size := (rf_zero (w := w) (A := fun _ => False) (tyB_ok he)).length
    have hx := Ext.alloc w (.cells (madeCells z.cells ((c : Int).toNat * fi.size)) e)
    obtain ⟨hr1, K1⟩ := hr.fresh hx (g := w.heap.size) ⟨Nat.le_refl _, by simp⟩
    have key : ∀ n c : Int, 0 ≤ n → n ≤ c → c ≤ 4294967296 → n.toNat ≤ c.toNat ∧ c.toNat ≤ maxLen := fun n c _ _ _ => by simp only [maxLen]; omega
    obtain ⟨k1, k2⟩ := key n c a1 a2 a3
    have hln : (List.replicate (n : Int).toNat t.zero).length = (n : Int).toNat := by simp
    have hle : (n : Int).toNat * t.size ≤ (c : Int).toNat * t.size := Nat.mul_le_mul_right _ k1
    refine stepOk_value (v := .slice (some ⟨w.heap.size, 0, none⟩) (List.replicate (n : Int).toNat t.zero).length (c : Int).toNat) ?_ ⟨_, hr1.put (s := .val ⟨.sl e t, List.replicate (n : Int).toNat t.zero, [σ.nt]⟩ none) o.dst
      (more_val (css := (madeCells z.cells ((c : Int).toNat * fi.size)).toList.take ((n : Int).toNat * t.size)) hr (if_pos rfl) ?_ ?_)⟩ g2
    · simp only [execOp, ho, v1, v2, hrun, Sem.run_bind, Result.andThen_ok, Sem.run_pure, hln]
    · rw [hln]
      refine ⟨by rw [List.length_take, Array.length_toList, size_madeCells, i2]; omega, .inr ⟨_, _, _, rfl, Nat.zero_le _, heap_alloc_new w _, k1, k2, by rw [size_madeCells, i2], rfl⟩⟩
    · intro i v hv
      rw [List.getElem?_replicate] at hv
      split at hv
      · rename_i hi
        injection hv with hv; subst hv
        have h6 : (i + 1) * t.size ≤ (n : Int).toNat * t.size := Nat.mul_le_mul_right _ hi
        rw [Nat.add_mul] at h6
        have : seg ((madeCells z.cells ((c : Int).toNat * fi.size)).toList.take ((n : Int).toNat * t.size)) t.size i = zc t := by
          rw [← seg_made (z := z.cells) (n := (c : Int).toNat) i5 hzl hpos (Nat.lt_of_lt_of_le hi k1), i2]
          simp only [V.seg]
          rw [List.drop_take, List.take_take, Nat.min_eq_left (by omega)]
        rw [this]
        exact rf_zero (tyB_ok he)
      · cases hv
  · cases h
end
end Go.Proofs.Ytopeacfbcdoljaa.V
