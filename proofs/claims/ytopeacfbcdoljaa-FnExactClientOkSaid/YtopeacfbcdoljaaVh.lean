/- Soundness of single operations, fifth part: computing, loads, boxes, stores, fields, elements. -/
import Derived.Test.YtopeacfbcdoljaaVg
namespace Go.Proofs.Ytopeacfbcdoljaa.V
open Go
section
variable {P : Program} {X : Ctx} {E : Env} {σ : St} {a : Act} {w : World} {o : Oper} {R : Type}
theorem guardK_some {b : Bool} {k : Option R} {r : R} (h : guardK b k = some r) : b = true ∧ k = some r := by
  cases b <;> simp [guardK] at h; exact ⟨rfl, h⟩
/-- A value without slices. -/
def Plain (w : World) (t : Ty) (v : t.den) (u : Value) : Prop := ∀ A E σ, SlotOk w A E σ (.val ⟨t, v, []⟩ none) u
theorem plain_int (k : IntKind) (n : Int) : Plain w (.int k) n (.int k n) := fun _ _ _ => slot_int k n none
theorem plain_bool (b : Bool) : Plain w .bool b (.bool b) := fun _ _ _ => slot_bool b none
theorem plain_str (s : List UInt8) : Plain w .str s (.string ⟨s.toArray⟩) := fun _ _ _ => slot_str s none
theorem int_bin {op : BinOp} {k : IntKind} {x y : Int} {kk : (t : Ty) → t.den → Option R} {r : R} (xt : TypeId) (h : intBin op k x y kk = some r) (h1 : op ≠ .shl) (h2 : op ≠ .shr) :
    ∃ t v u, kk t v = some r ∧ (binOp op xt (.int k x) (.int k y)).run P w = .ok u w ∧ Plain w t v u := by
  cases op <;> simp only [intBin] at h
  case add => exact ⟨_, _, _, h, by simp [binOp, Op.intArith], plain_int _ _⟩
  case sub => exact ⟨_, _, _, h, by simp [binOp, Op.intArith], plain_int _ _⟩
  case mul => exact ⟨_, _, _, h, by simp [binOp, Op.intArith], plain_int _ _⟩
  case quo =>
    obtain ⟨hb, h⟩ := guardK_some h
    have hy : y ≠ 0 := by simpa using hb
    exact ⟨_, _, _, h, by simp [binOp, Op.intDiv, hy], plain_int _ _⟩
  case rem =>
    obtain ⟨hb, h⟩ := guardK_some h
    have hy : y ≠ 0 := by simpa using hb
    exact ⟨_, _, _, h, by simp [binOp, Op.intDiv, hy], plain_int _ _⟩
  case and => exact ⟨_, _, _, h, by simp [binOp, Op.intBits], plain_int _ _⟩
  case or => exact ⟨_, _, _, h, by simp [binOp, Op.intBits], plain_int _ _⟩
  case xor => exact ⟨_, _, _, h, by simp [binOp, Op.intBits], plain_int _ _⟩
  case andNot => exact ⟨_, _, _, h, by simp [binOp, Op.intBits], plain_int _ _⟩
  case shl => exact absurd rfl h1
  case shr => exact absurd rfl h2
  case eql => exact ⟨_, _, _, h, by simp [binOp, Op.intCmp]; rfl, plain_bool _⟩
  case neq => exact ⟨_, _, _, h, by simp [binOp, Op.intCmp]; rfl, plain_bool _⟩
  case lss => exact ⟨_, _, _, h, by simp [binOp, Op.intCmp], plain_bool _⟩
  case leq => exact ⟨_, _, _, h, by simp [binOp, Op.intCmp], plain_bool _⟩
  case gtr => exact ⟨_, _, _, h, by simp [binOp, Op.intCmp], plain_bool _⟩
  case geq => exact ⟨_, _, _, h, by simp [binOp, Op.intCmp], plain_bool _⟩
theorem sh_bin {op : BinOp} {k k' : IntKind} {x y : Int} {kk : (t : Ty) → t.den → Option R} {r : R} (xt : TypeId) (h : shBin op k x y kk = some r) :
    ∃ t v u, kk t v = some r ∧ (binOp op xt (.int k x) (.int k' y)).run P w = .ok u w ∧ Plain w t v u := by
  unfold shBin at h
  obtain ⟨hb, h⟩ := guardK_some h
  have hy : ¬ y < 0 := by have : 0 ≤ y := by simpa using hb
                          omega
  cases op <;> simp only at h <;> first | cases h | skip
  case shl => exact ⟨_, _, _, h, by simp [binOp, Op.shift, hy], plain_int _ _⟩
  case shr => exact ⟨_, _, _, h, by simp [binOp, Op.shift, hy], plain_int _ _⟩
theorem bytes_append (x y : List UInt8) : (⟨x.toArray⟩ : ByteArray) ++ ⟨y.toArray⟩ = ⟨(x ++ y).toArray⟩ := by
  apply ByteArray.ext
  simp
theorem str_bin {op : BinOp} {x y : List UInt8} {kk : (t : Ty) → t.den → Option R} {r : R} (xt : TypeId) (h : strBin op x y kk = some r) :
    ∃ t v u, kk t v = some r ∧ (binOp op xt (.string ⟨x.toArray⟩) (.string ⟨y.toArray⟩)).run P w = .ok u w ∧ Plain w t v u := by
  have e1 : (x == y) = decide (x = y) := Bool.eq_iff_iff.2 (by simp)
  cases op <;> simp only [strBin] at h <;> first | cases h | skip
  case add =>
    obtain ⟨hb, h⟩ := guardK_some h
    have hl : x.length + y.length ≤ SLIM := by simpa using hb
    refine ⟨_, _, _, h, ?_, plain_str _⟩
    have : ¬ (((⟨x.toArray⟩ : ByteArray).size + (⟨y.toArray⟩ : ByteArray).size : Nat) : Int) > IntKind.i64.max := by
      show ¬ ((x.toArray.size + y.toArray.size : Nat) : Int) > IntKind.i64.max
      simp only [List.size_toArray, SLIM, IntKind.max_i64] at *
      omega
    simp only [binOp, Op.stringOp, if_neg this, Sem.run_pure, bytes_append]
  case eql => exact ⟨_, _, _, h, by simp only [binOp, Op.stringOp, Sem.run_pure, bytes_toList, e1], plain_bool _⟩
  case neq => exact ⟨_, _, _, h, by simp only [binOp, Op.stringOp, Sem.run_pure, bytes_toList, e1], plain_bool _⟩
  case lss => exact ⟨_, _, _, h, by simp only [binOp, Op.stringOp, Sem.run_pure, bytes_toList], plain_bool _⟩
  case leq => exact ⟨_, _, _, h, by simp only [binOp, Op.stringOp, Sem.run_pure, bytes_toList, e1], plain_bool _⟩
  case gtr => exact ⟨_, _, _, h, by simp only [binOp, Op.stringOp, Sem.run_pure, bytes_toList, e1], plain_bool _⟩
  case geq => exact ⟨_, _, _, h, by simp only [binOp, Op.stringOp, Sem.run_pure, bytes_toList], plain_bool _⟩
/-- What the tables must be. -/
structure TabOk (P : Program) (T : TypeId → Option Ty) : Prop where
  ty : TOk P T
  eq : ∀ i u, T i = some (.st u) → (Ty.st u).comparable = true → P.eqGuardType P.depth i = false
  small : ∀ i t n, T i = some t → tyB P n i t = true → ∃ m, m ≤ 10000 ∧ tyB P m i t = true
theorem run_eqGuard_scalar (op : BinOp) (t : TypeId) (x y : Operand) (u v : Value) (hu : u.oneCell' = true) (hn : u ≠ .nilIface) : (eqGuard op t x y u v).run P w = .ok () w := by
  cases u <;> first | (simp [Value.oneCell'] at hu; done) | exact absurd rfl hn | (cases op <;> simp [eqGuard])
theorem plain_put (hr : RelE X E σ a.tmps w) {t : Ty} {v : t.den} {u : Value} (h : Plain w t v u) : RelE X E (σ.putv o.dst t v) (a.put o.dst u).tmps w := hr.put o.dst (h _ _ _)
theorem tyB_kind {n : Nat} {i : TypeId} {t : Ty} (h : tyB P n i t = true) : (∀ a b, t ≠ .pair a b) ∧ t ≠ .unit := by
  cases n with
  | zero => simp [tyB] at h
  | succ n =>
    simp only [tyB, Bool.and_eq_true] at h
    have h1 := h.2
    cases t <;> simp at h1 ⊢
theorem toVal_scalar {A : Nat → Prop} {n : Nat} {i : TypeId} {t : Ty} (ht : tyB P n i t = true) {v : t.den} {ms : List Nat} {c : List Value} (h : Rv w A E σ t v ms c) (ha : t.agg = false) : (toVal t c).oneCell' = true ∧ toVal t c ≠ .nilIface := by
  have hk := tyB_kind ht
  cases t with
  | int k => have e : c = [.int k v] := h; subst e; exact ⟨rfl, by simp [toVal, Ty.agg]⟩
  | bool => have e : c = [.bool v] := h; subst e; exact ⟨rfl, by simp [toVal, Ty.agg]⟩
  | str => have e : c = [.string ⟨List.toArray v⟩] := h; subst e; exact ⟨rfl, by simp [toVal, Ty.agg]⟩
  | unit => exact absurd rfl hk.2
  | pair p q => exact absurd rfl (hk.1 p q)
  | st t => simp [Ty.agg] at ha
  | arr n t => simp [Ty.agg] at ha
  | sl e t => obtain ⟨c, rfl, _, ad, cap, rfl, _⟩ := h; exact ⟨rfl, by simp [toVal, Ty.agg]⟩
def BoolAgg (u : Value) : Prop := (∃ b, u = .bool b) ∨ ∃ c, u = .agg c
theorem binOp_eql (t : TypeId) (u v : Value) (h : BoolAgg u) : binOp .eql t u v = (do pure (.bool (← Op.equal t u v))) := by
  rcases h with ⟨b, rfl⟩ | ⟨c, rfl⟩ <;> cases v <;> rfl
theorem binOp_neq (t : TypeId) (u v : Value) (h : BoolAgg u) : binOp .neq t u v = (do pure (.bool (!(← Op.equal t u v)))) := by
  rcases h with ⟨b, rfl⟩ | ⟨c, rfl⟩ <;> cases v <;> rfl
theorem step_binOp (T : Tabs) (hT : TabOk P T.T) {op : BinOp} {tt yt : TypeId} {x y : Operand} (ho : o.op = .binOp op tt x y yt) {k : St → Option R} {r : R} (h : stepK T o σ k = some r) (hr : RelE X E σ a.tmps w) : StepOk P X T o a w (fun σ' => k σ' = some r) := by
  simp only [stepK, ho] at h
  have fin : ∀ {t : Ty} {v : t.den} {u : Value}, k (σ.putv o.dst t v) = some r → (eqGuard op tt x y (a.eval x) (a.eval y)).run P w = .ok () w → (binOp op tt (a.eval x) (a.eval y)).run P w = .ok u w → Plain w t v u → StepOk P X T o a w (fun σ' => k σ' = some r) := by
    intro t v u hk hg hb hp
    refine stepOk_value (v := u) (w' := w) ?_ ⟨E, plain_put hr hp⟩ hk
    simp only [execOp, ho, Sem.run_bind, hg, hb, Result.andThen_ok, Sem.run_pure]
  unfold binK at h
  split at h
  · rename_i k1 a1 m1 h1 k2 a2 m2 h2 e1 e2
    have v1 := val_int (slot_of_opd hr e1)
    have v2 := val_int (slot_of_opd hr e2)
    have hg : (eqGuard op tt x y (a.eval x) (a.eval y)).run P w = .ok () w := run_eqGuard_scalar op tt x y _ _ (by rw [v1]; rfl) (by rw [v1]; simp)
    split at h
    · obtain ⟨t, v, u, h3, h4, h5⟩ := sh_bin (P := P) (w := w) (k' := k2) tt h
      exact fin h3 hg (by rw [v1, v2]; exact h4) h5
    · obtain ⟨t, v, u, h3, h4, h5⟩ := sh_bin (P := P) (w := w) (k' := k2) tt h
      exact fin h3 hg (by rw [v1, v2]; exact h4) h5
    · rename_i hs1 hs2
      cases hk : (k1 == k2) with
      | false => rw [hk] at h; cases h
      | true =>
        rw [hk, cond_true] at h
        have : k1 = k2 := by simpa using hk
        subst this
        obtain ⟨t, v, u, h3, h4, h5⟩ := int_bin (P := P) (w := w) tt h (by intro e; exact hs1 e) (by intro e; exact hs2 e)
        exact fin h3 hg (by rw [v1, v2]; exact h4) h5
  · rename_i s1 m1 h1 s2 m2 h2 e1 e2
    have v1 := val_str (slot_of_opd hr e1)
    have v2 := val_str (slot_of_opd hr e2)
    have hg : (eqGuard op tt x y (a.eval x) (a.eval y)).run P w = .ok () w := run_eqGuard_scalar op tt x y _ _ (by rw [v1]; rfl) (by rw [v1]; simp)
    obtain ⟨t, v, u, h3, h4, h5⟩ := str_bin (P := P) (w := w) tt h
    exact fin h3 hg (by rw [v1, v2]; exact h4) h5
  · rename_i x' h1 y' h2 n1 n2 e1 e2
    cases hTt : T.T tt with
    | none => simp [hTt] at h
    | some t =>
      simp only [hTt] at h
      cases hc1 : cast? t x' with
      | none => simp [hc1] at h
      | some p1 =>
        cases hc2 : cast? t y' with
        | none => simp [hc1, hc2] at h
        | some p2 =>
          obtain ⟨v1, m1⟩ := p1
          obtain ⟨v2, m2⟩ := p2
          simp only [hc1, hc2] at h
          have q1 := cast?_some hc1
          have q2 := cast?_some hc2
          subst q1; subst q2
          cases hcmp : t.comparable with
          | false => rw [hcmp] at h; cases h
          | true =>
            rw [hcmp] at h
            simp only [cond_true] at h
            obtain ⟨c1, r1, e3, _⟩ := slot_of_opd hr e1
            obtain ⟨c2, r2, e4, _⟩ := slot_of_opd hr e2
            obtain ⟨n0, ht0⟩ := hT.ty tt t hTt
            obtain ⟨n, hn, ht⟩ := hT.small tt t n0 hTt ht0
            have heq : (Op.equal tt (a.eval x) (a.eval y)).run P w = .ok (Ty.eqb t v1 v2) w := by
              rw [e3, e4]
              exact equal_ok n ht hcmp r1 r2 10000 hn
            have hg : (eqGuard op tt x y (a.eval x) (a.eval y)).run P w = .ok () w := by
              by_cases ha : t.agg = true
              · cases t with
                | st u => rw [e3, e4]; exact run_eqGuard_agg w op tt x y _ _ (hT.eq tt u hTt hcmp)
                | arr n t => simp [Ty.comparable] at hcmp
                | _ => simp [Ty.agg] at ha
              · have := toVal_scalar ht r1 (by simpa using ha)
                exact run_eqGuard_scalar op tt x y _ _ (by rw [e3]; exact this.1) (by rw [e3]; exact this.2)
            have hba : BoolAgg (a.eval x) := by
              rw [e3]
              cases t with
              | bool => have e5 : c1 = [.bool v1] := r1; subst e5; exact .inl ⟨v1, rfl⟩
              | st u => exact .inr ⟨_, rfl⟩
              | arr n u => exact .inr ⟨_, rfl⟩
              | int k => exact (n1 _ _ _ _ _ _ rfl rfl).elim
              | str => exact (n2 _ _ _ _ rfl rfl).elim
              | sl e u => simp [Ty.comparable] at hcmp
              | unit => exact absurd rfl (tyB_kind ht).2
              | pair p q => exact absurd rfl ((tyB_kind ht).1 p q)
            split at h
            · exact fin (u := .bool (Ty.eqb t v1 v2)) h hg (by rw [binOp_eql tt _ _ hba]; simp [heq]) (plain_bool _)
            · exact fin (u := .bool (!Ty.eqb t v1 v2)) h hg (by rw [binOp_neq tt _ _ hba]; simp [heq]) (plain_bool _)
            · cases h
  · cases h
theorem step_unOp (T : Tabs) {op : UnOp} {tt : TypeId} {x : Operand} (ho : o.op = .unOp op tt x) {k : St → Option R} {r : R} (h : stepK T o σ k = some r) (hr : RelE X E σ a.tmps w) : StepOk P X T o a w (fun σ' => k σ' = some r) := by
  simp only [stepK, ho] at h
  unfold unK at h
  split at h
  · rename_i b m hh e1
    have v1 := val_bool (slot_of_opd hr e1)
    exact stepOk_value (v := .bool (!b)) (w' := w) (by simp [execOp, ho, v1, Op.unary]) ⟨E, plain_put hr (plain_bool _)⟩ h
  · rename_i q n m hh e1
    have v1 := val_int (slot_of_opd hr e1)
    exact stepOk_value (v := .int q (q.wrap (0 - n))) (w' := w) (by simp [execOp, ho, v1, Op.unary, Op.intArith]) ⟨E, plain_put hr (plain_int _ _)⟩ h
  · rename_i q n m hh e1
    have v1 := val_int (slot_of_opd hr e1)
    exact stepOk_value (v := .int q (q.wrap (BitVec.ofInt q.bits (if q.signed then -1 else q.max) ^^^ BitVec.ofInt q.bits n).toNat)) (w' := w) (by simp [execOp, ho, v1, Op.unary, Op.intBits]) ⟨E, plain_put hr (plain_int _ _)⟩ h
  · cases h
end
end Go.Proofs.Ytopeacfbcdoljaa.V
