/- Soundness of single operations, fourth part: the operations one by one (no calls, no slices of one's own). -/
import Derived.Test.YtopeacfbcdoljaaVf
namespace Go.Proofs.Ytopeacfbcdoljaa.V
open Go
/-- The operation goes through, to a state that fits and of which G holds. -/
def StepOk (P : Program) (X : Ctx) (T : Tabs) (o : Oper) (a : Act) (w : World) (G : St → Prop) : Prop :=
  ∀ Q, o.wp P a w (fun a' w' => a'.defers = a.defers ∧ (∀ i, some i ≠ o.dst → a'.tmps[i]? = a.tmps[i]?) ∧ a'.tmps.size = a.tmps.size ∧ (quiet T o.op = true → Ext w w') ∧ ∃ σ', G σ' ∧ Rel X σ' a'.tmps w') Q
section
variable {P : Program} {X : Ctx} {E : Env} {σ : St} {a : Act} {w : World} {o : Oper} {R : Type}
theorem put_other (d : Option Tmp) (v : Value) (i : Nat) (h : some i ≠ d) : (a.put d v).tmps[i]? = a.tmps[i]? := by
  cases d with
  | none => rfl
  | some d => exact Array.getElem?_setIfInBounds_ne (fun e => h (by rw [e]))
theorem put_size (d : Option Tmp) (v : Value) : (a.put d v).tmps.size = a.tmps.size := by
  cases d with
  | none => rfl
  | some d => exact Array.size_setIfInBounds
theorem put_defers (d : Option Tmp) (v : Value) : (a.put d v).defers = a.defers := by cases d <;> rfl
theorem stepOk_value {T : Tabs} {G : St → Prop} {v : Value} {w' : World} {σ' : St} (h : (execOp a.eval o).run P w = .ok (.value v) w') (hr : Rel X σ' (a.put o.dst v).tmps w') (hg : G σ') (hx : quiet T o.op = true → Ext w w' := by first | exact fun _ => Ext.refl _ | exact fun _ => Ext.alloc _ _ | (intro hq; simp [quiet, *] at hq)) : StepOk P X T o a w G := by
  intro Q
  unfold Oper.wp
  rw [h]
  exact ⟨put_defers _ _, fun i hi => put_other _ _ i hi, put_size _ _, hx, σ', hg, hr⟩
theorem stepOk_skip {T : Tabs} {G : St → Prop} {w' : World} {σ' : St} (h : (execOp a.eval o).run P w = .ok .skip w') (hr : Rel X σ' (a.put o.dst undef).tmps w') (hg : G σ') (hx : quiet T o.op = true → Ext w w' := by first | exact fun _ => Ext.refl _ | exact fun _ => Ext.alloc _ _ | (intro hq; simp [quiet, *] at hq)) : StepOk P X T o a w G := by
  intro Q
  unfold Oper.wp
  rw [h]
  exact ⟨put_defers _ _, fun i hi => put_other _ _ i hi, put_size _ _, hx, σ', hg, hr⟩
theorem slot_val_home {A : Nat → Prop} {x : Val} {h h' : Option Home} {v : Value} (hs : SlotOk w A E σ (.val x h) v) : SlotOk w A E σ (.val x h') v := hs
theorem slot_nil {A : Nat → Prop} (hr : RelE X E σ a.tmps w) {e : TypeId} {t : Ty} : SlotOk w A E σ (.val ⟨.sl e t, ([] : List t.den), [1]⟩ none) (.slice none 0 0) :=
  ⟨_, ⟨_, rfl, nil_leaf hr.nt2 hr.no1.1 hr.no1.2⟩, rfl, rfl⟩
theorem slot_of_opd (hr : RelE X E σ a.tmps w) {x : Operand} {s : Slot} (h : opd σ x = s) : SlotOk w (Fz X E σ w) E σ s (a.eval x) := h ▸ slot_opd hr x
theorem opd_nil (hr : RelE X E σ a.tmps w) {x : Operand} (h : opd σ x = .nilsl) : a.eval x = .slice none 0 0 := slot_of_opd hr h

theorem step_move (T : Tabs) {x : Operand} (ho : o.op = .move x) {k : St → Option R} {r : R} (h : stepK T o σ k = some r) (hr : RelE X E σ a.tmps w) : StepOk P X T o a w (fun σ' => k σ' = some r) := by
  simp only [stepK, ho] at h
  have hs := slot_opd hr x
  have hx : (execOp a.eval o).run P w = .ok (.value (a.eval x)) w := by simp [execOp, ho]
  revert h hs
  cases e : opd σ x with
  | no => intro h; simp at h
  | nilsl =>
    intro h hs
    have hs' : a.eval x = .slice none 0 0 := hs
    cases hT : T.T o.type with
    | none => simp [hT] at h
    | some t =>
      cases t with
      | sl e' t => simp only [hT] at h; exact stepOk_value hx ⟨E, hr.put o.dst (by rw [hs']; exact slot_nil hr)⟩ h
      | _ => simp [hT] at h
  | val v hm => intro h hs; exact stepOk_value hx ⟨E, hr.put o.dst (slot_val_home hs)⟩ h
  | ptr _ _ _ _ => intro h hs; exact stepOk_value hx ⟨E, hr.put o.dst hs⟩ h
  | eptr _ _ _ _ _ _ => intro h hs; exact stepOk_value hx ⟨E, hr.put o.dst hs⟩ h
  | rptr _ _ => intro h hs; exact stepOk_value hx ⟨E, hr.put o.dst hs⟩ h
  | clo _ _ => intro h hs; exact stepOk_value hx ⟨E, hr.put o.dst hs⟩ h
  | tup _ => intro h hs; exact stepOk_value hx ⟨E, hr.put o.dst hs⟩ h
theorem step_assign (T : Tabs) {x : Operand} (ho : o.op = .assign x) {k : St → Option R} {r : R} (h : stepK T o σ k = some r) (hr : RelE X E σ a.tmps w) : StepOk P X T o a w (fun σ' => k σ' = some r) := by
  simp only [stepK, ho] at h
  have hs := slot_opd hr x
  have hx : (execOp a.eval o).run P w = .ok (.value (a.eval x)) w := by simp [execOp, ho]
  revert h hs
  cases e : opd σ x with
  | no => intro h; simp at h
  | nilsl =>
    intro h hs
    have hs' : a.eval x = .slice none 0 0 := hs
    cases hT : T.T o.type with
    | none => simp [hT] at h
    | some t =>
      cases t with
      | sl e' t => simp only [hT] at h; exact stepOk_value hx ⟨E, hr.put o.dst (by rw [hs']; exact slot_nil hr)⟩ h
      | _ => simp [hT] at h
  | val v hm => intro h hs; exact stepOk_value hx ⟨E, hr.put o.dst (slot_val_home hs)⟩ h
  | ptr _ _ _ _ => intro h hs; exact stepOk_value hx ⟨E, hr.put o.dst hs⟩ h
  | eptr _ _ _ _ _ _ => intro h hs; exact stepOk_value hx ⟨E, hr.put o.dst hs⟩ h
  | rptr _ _ => intro h hs; exact stepOk_value hx ⟨E, hr.put o.dst hs⟩ h
  | clo _ _ => intro h hs; exact stepOk_value hx ⟨E, hr.put o.dst hs⟩ h
  | tup _ => intro h hs; exact stepOk_value hx ⟨E, hr.put o.dst hs⟩ h
/-- A slot that is a plain value. -/
theorem val_int {A : Nat → Prop} {k : IntKind} {n : Int} {ms : List Nat} {h : Option Home} {v : Value} (hs : SlotOk w A E σ (.val ⟨.int k, n, ms⟩ h) v) : v = .int k n := by
  obtain ⟨cs, h1, h2, _⟩ := hs
  have h1' : cs = [.int k n] := h1
  subst h1'; exact h2
theorem val_bool {A : Nat → Prop} {b : Bool} {ms : List Nat} {h : Option Home} {v : Value} (hs : SlotOk w A E σ (.val ⟨.bool, b, ms⟩ h) v) : v = .bool b := by
  obtain ⟨cs, h1, h2, _⟩ := hs
  have h1' : cs = [.bool b] := h1
  subst h1'; exact h2
theorem val_str {A : Nat → Prop} {s : List UInt8} {ms : List Nat} {h : Option Home} {v : Value} (hs : SlotOk w A E σ (.val ⟨.str, s, ms⟩ h) v) : v = .string ⟨s.toArray⟩ := by
  obtain ⟨cs, h1, h2, _⟩ := hs
  have h1' : cs = [.string ⟨s.toArray⟩] := h1
  subst h1'; exact h2
theorem slot_int {A : Nat → Prop} (k : IntKind) (n : Int) (h : Option Home) : SlotOk w A E σ (.val ⟨.int k, n, []⟩ h) (.int k n) := ⟨_, rfl, rfl, rfl⟩
theorem slot_bool {A : Nat → Prop} (b : Bool) (h : Option Home) : SlotOk w A E σ (.val ⟨.bool, b, []⟩ h) (.bool b) := ⟨_, rfl, rfl, rfl⟩
theorem slot_str {A : Nat → Prop} (s : List UInt8) (h : Option Home) : SlotOk w A E σ (.val ⟨.str, s, []⟩ h) (.string ⟨s.toArray⟩) := ⟨_, rfl, rfl, rfl⟩
theorem step_pick (T : Tabs) {c x y : Operand} (ho : o.op = .pick c x y) {k : St → Option R} {r : R} (h : stepK T o σ k = some r) (hr : RelE X E σ a.tmps w) : StepOk P X T o a w (fun σ' => k σ' = some r) := by
  simp only [stepK, ho] at h
  split at h
  · rename_i c' m1 h1 x' m2 h2 y' m3 h3 e1 e2 e3
    have v1 := val_bool (slot_of_opd hr e1)
    have v2 := val_bool (slot_of_opd hr e2)
    have v3 := val_bool (slot_of_opd hr e3)
    refine stepOk_value (v := .bool (bif c' then x' else y')) (w' := w) ?_ ⟨E, hr.put o.dst (slot_bool _ none)⟩ h
    simp only [execOp, ho, v1, v2, v3, asBool]
    cases c' <;> simp
  · cases h
theorem step_nilCheck (T : Tabs) {x : Operand} (ho : o.op = .nilCheck x) {k : St → Option R} {r : R} (h : stepK T o σ k = some r) (hr : RelE X E σ a.tmps w) : StepOk P X T o a w (fun σ' => k σ' = some r) := by
  simp only [stepK, ho] at h
  have hs := slot_opd hr x
  have hx : ∀ b f, a.eval x = .pointer (some ⟨b, f, none⟩) → (execOp a.eval o).run P w = .ok (.value (a.eval x)) w := by
    intro b f hv
    simp [execOp, ho, hv]
  revert h hs
  cases e : opd σ x with
  | ptr id r' p t => intro h hs; have hs0 := hs; obtain ⟨_, b, f, hv, _⟩ := hs0; exact stepOk_value (hx b f hv) ⟨E, hr.put o.dst hs⟩ h
  | eptr _ _ _ _ _ _ => intro h hs; obtain ⟨_, _, b, f, _, hv, _⟩ := id hs; exact stepOk_value (hx b f hv) ⟨E, hr.put o.dst hs⟩ h
  | rptr _ _ => intro h hs; obtain ⟨_, b, f, hv, _⟩ := id hs; exact stepOk_value (hx b f hv) ⟨E, hr.put o.dst hs⟩ h
  | _ => intro h; simp at h
theorem step_extract (T : Tabs) {x : Operand} {i : Nat} (ho : o.op = .extract x i) {k : St → Option R} {r : R} (h : stepK T o σ k = some r) (hr : RelE X E σ a.tmps w) : StepOk P X T o a w (fun σ' => k σ' = some r) := by
  simp only [stepK, ho] at h
  have hs := slot_opd hr x
  revert h hs
  cases e : opd σ x with
  | tup l =>
    intro h hs
    obtain ⟨vs, hv, hl, hall⟩ := hs
    cases hi : l[i]? with
    | none => simp [hi] at h
    | some y =>
      simp only [hi] at h
      have hlt : i < vs.length := by rw [hl]; exact (List.getElem?_eq_some_iff.1 hi).1
      have hu : vs[i]? = some vs[i] := List.getElem?_eq_getElem hlt
      refine stepOk_value (v := vs[i]) (w' := w) ?_ ⟨E, hr.put (s := .val y none) o.dst (hall i y _ hi hu)⟩ h
      simp [execOp, ho, hv, Instr.extract, hlt]
  | _ => intro h; simp at h


-- ---------------------------------------------------------------- computing
theorem run_part {n : Nat} {i : TypeId} {t : Ty} (h : tyB P n i t = true) {xs : Array Value} {off : Nat} {c : List Value} (hc : (xs.toList.drop off).take t.size = c) (hl : c.length = t.size) :
    (part i xs off).run P w = .ok (toVal t c) w := by
  unfold part
  simp only [Sem.run_bind, tyB_agg h, Result.andThen_ok]
  by_cases ha : t.agg = true
  · simp only [ha, if_true, Sem.run_bind, run_sizeOf_ty h, Result.andThen_ok, Sem.run_pure, toVal]
    congr 2
    apply Array.toList_inj.1
    rw [Array.toList_extract, ← hc]
    simp
  · have ha' : t.agg = false := by simpa using ha
    have h1 := tyB_scalar h ha'
    rw [h1] at hl hc
    match c, hl with
    | [v], _ =>
      have : xs[off]? = some v := by
        have h2 : ((xs.toList.drop off).take 1)[0]? = some v := by rw [hc]; rfl
        simpa using h2
      simp [ha', toVal, this]
theorem bytes_toList (l : List UInt8) : (⟨l.toArray⟩ : ByteArray).toList = l := by rw [ByteArray.toList_eq]
theorem equal_ok {A : Nat → Prop} : ∀ (n : Nat) {i : TypeId} {t : Ty} (_ : tyB P n i t = true) (_ : t.comparable = true) {x y : t.den} {m1 m2 : List Nat} {c1 c2 : List Value}
    (_ : Rv w A E σ t x m1 c1) (_ : Rv w A E σ t y m2 c2) (d : Nat), n ≤ d → (Op.equalIn d i (toVal t c1) (toVal t c2)).run P w = .ok (Ty.eqb t x y) w := by
  intro n
  induction n with
  | zero => intro i t h; simp [tyB] at h
  | succ n ih =>
    intro i t h hc x y m1 m2 c1 c2 hx hy d hd
    obtain ⟨d, rfl⟩ : ∃ e, d = e + 1 := ⟨d - 1, by omega⟩
    have h2 := h
    simp only [tyB, Bool.and_eq_true] at h2
    have h1 := h2.2
    cases t with
    | int k =>
      have e1 : c1 = [.int k x] := hx
      have e2 : c2 = [.int k y] := hy
      subst e1; subst e2
      cases hu : P.underlying i with
      | none => simp [hu] at h1
      | some q =>
        cases q <;> simp [hu] at h1
        rw [show toVal (.int k) [Value.int k x] = .int k x from rfl, show toVal (.int k) [Value.int k y] = .int k y from rfl, run_equalIn_int w d i k _ x y hu]
        rfl
    | bool =>
      have e1 : c1 = [.bool x] := hx
      have e2 : c2 = [.bool y] := hy
      subst e1; subst e2
      cases hu : P.underlying i with
      | none => simp [hu] at h1
      | some q =>
        cases q <;> simp [hu] at h1
        rw [show toVal .bool [Value.bool x] = .bool x from rfl, show toVal .bool [Value.bool y] = .bool y from rfl, run_equalIn_bool' w d i x y hu]
        rfl
    | str =>
      have e1 : c1 = [.string ⟨List.toArray x⟩] := hx
      have e2 : c2 = [.string ⟨List.toArray y⟩] := hy
      subst e1; subst e2
      cases hu : P.underlying i with
      | none => simp [hu] at h1
      | some q =>
        cases q <;> simp [hu] at h1
        rw [show toVal .str [Value.string ⟨List.toArray x⟩] = .string ⟨List.toArray x⟩ from rfl, show toVal .str [Value.string ⟨List.toArray y⟩] = .string ⟨List.toArray y⟩ from rfl, run_equalIn_string w d i _ _ hu, bytes_toList, bytes_toList]
        congr 1
        show (x == y) = decide ((x : List UInt8) = y)
        exact Bool.eq_iff_iff.2 (by simp)
    | unit => cases hu : P.underlying i <;> simp [hu] at h1
    | pair a b => cases hu : P.underlying i <;> simp [hu] at h1
    | arr m u => simp [Ty.comparable] at hc
    | sl e u => simp [Ty.comparable] at hc
    | st u =>
      cases hu : P.underlying i with
      | none => simp [hu] at h1
      | some q =>
        cases q with
        | struct fs =>
          simp [hu] at h1
          have hfo : P.fieldsOf i = fs := by simp [Program.fieldsOf, hu]
          show (Op.equalIn (d + 1) i (.agg c1.toArray) (.agg c2.toArray)).run P w = _
          rw [run_equalIn_struct w d i _ _ (by rw [hfo]; exact hu) h1.1, hfo]
          simp only [Ty.comparable] at hc
          have single : ∀ {u : Ty}, (∀ a b, u ≠ .pair a b) → u ≠ .unit → ∀ {fs : List Field} {off : Nat} {x y : u.den} {m1 m2 : List Nat} {p1 p2 c1 c2 : List Value}, fieldsB (tyB P n) u fs off = true → u.comparable = true →
              Rv w A E σ u x m1 c1 → Rv w A E σ u y m2 c2 → p1.length = off → p2.length = off → (Op.eqFields d (p1 ++ c1).toArray (p2 ++ c2).toArray fs).run P w = .ok (Ty.eqb u x y) w := by
            intro u hp hu fs off x y m1 m2 p1 p2 c1 c2 hf hc hx hy l1 l2
            match fs, hf with
            | [], hf => cases u <;> simp_all [fieldsB]
            | _ :: _ :: _, hf => cases u <;> simp_all [fieldsB]
            | [f], hf =>
              have h' : f.offset = off ∧ f.name ≠ "_" ∧ tyB P n f.type u = true := by
                cases u <;> simp_all [fieldsB]
              have q1 : (part f.type (p1 ++ c1).toArray f.offset).run P w = .ok (toVal u c1) w := run_part h'.2.2 (by rw [h'.1, ← l1]; simp [hx.length ▸ List.take_length]) hx.length
              have q2 : (part f.type (p2 ++ c2).toArray f.offset).run P w = .ok (toVal u c2) w := run_part h'.2.2 (by rw [h'.1, ← l2]; simp [hy.length ▸ List.take_length]) hy.length
              have q3 := ih h'.2.2 hc hx hy d (by omega)
              simp only [Op.eqFields, h'.2.1, ne_eq, not_false_eq_true, if_true, Sem.run_bind, q1, q2, q3, Result.andThen_ok]
              cases Ty.eqb u x y <;> simp [Op.eqFields]
          have key : ∀ {u : Ty} {fs : List Field} {off : Nat} {x y : u.den} {m1 m2 : List Nat} {p1 p2 c1 c2 : List Value}, fieldsB (tyB P n) u fs off = true → u.comparable = true →
              Rv w A E σ u x m1 c1 → Rv w A E σ u y m2 c2 → p1.length = off → p2.length = off → (Op.eqFields d (p1 ++ c1).toArray (p2 ++ c2).toArray fs).run P w = .ok (Ty.eqb u x y) w := by
            intro u
            induction u with
            | pair a b _ ihb =>
              intro fs off x y m1 m2 p1 p2 c1 c2 hf hc hx hy l1 l2
              cases fs with
              | nil => simp [fieldsB] at hf
              | cons f r =>
                simp only [fieldsB, Bool.and_eq_true, beq_iff_eq, decide_eq_true_eq, bne_iff_ne] at hf
                simp only [Ty.comparable, Bool.and_eq_true] at hc
                obtain ⟨x1, x2, rfl, hx1, hx2⟩ := hx
                obtain ⟨y1, y2, rfl, hy1, hy2⟩ := hy
                have q1 : (part f.type (p1 ++ (x1 ++ x2)).toArray f.offset).run P w = .ok (toVal a x1) w := run_part hf.1.1.2 (by rw [hf.1.1.1.1, ← l1]; simp only [List.toList_toArray]; rw [List.drop_left, List.take_left' hx1.length]) hx1.length
                have q2 : (part f.type (p2 ++ (y1 ++ y2)).toArray f.offset).run P w = .ok (toVal a y1) w := run_part hf.1.1.2 (by rw [hf.1.1.1.1, ← l2]; simp only [List.toList_toArray]; rw [List.drop_left, List.take_left' hy1.length]) hy1.length
                have q3 := ih hf.1.1.2 hc.1 hx1 hy1 d (by omega)
                have q4 := ihb (p1 := p1 ++ x1) (p2 := p2 ++ y1) hf.2 hc.2 hx2 hy2 (by simp [l1, hx1.length]) (by simp [l2, hy1.length])
                rw [List.append_assoc, List.append_assoc] at q4
                simp only [Op.eqFields, hf.1.1.1.2, ne_eq, not_false_eq_true, if_true, Sem.run_bind, q1, q2, q3, Result.andThen_ok, Ty.eqb]
                cases Ty.eqb a x.1 y.1 <;> simp [q4]
            | unit =>
              intro fs off x y m1 m2 p1 p2 c1 c2 hf hc hx hy l1 l2
              cases fs with
              | nil => simp [Op.eqFields, Ty.eqb]
              | cons f r => simp [fieldsB] at hf
            | int k => exact single (by simp) (by simp)
            | bool => exact single (by simp) (by simp)
            | str => exact single (by simp) (by simp)
            | st t _ => exact single (by simp) (by simp)
            | arr n t _ => exact single (by simp) (by simp)
            | sl e t _ => exact single (by simp) (by simp)
          exact key (u := u) (x := x) (y := y) (p1 := []) (p2 := []) h1.2 hc hx hy rfl rfl
        | _ => simp [hu] at h1
end
end Go.Proofs.Ytopeacfbcdoljaa.V
