/- All operations. -/
import Derived.Test.YtopeacfbcdoljaaWa
namespace Go.Proofs.Ytopeacfbcdoljaa.V
open Go
section
variable {P : Program} {X : Ctx} {E : Env} {σ : St} {A0 : Array Value} {a : Act} {w : World} {o : Oper} {R : Type}
/-- The table of functions tells contracts that hold. -/
def FOk (P : Program) (F : FuncId → Option Fn) : Prop := ∀ f fn, F f = some fn → Meets P f fn ∧ ∃ g, P.funcs[f]? = some g ∧ g.body.isSome = true ∧ (g.name == "runtime.NumGoroutine") = false
theorem step_call (T : Tabs) (hF : FOk P T.F) {f : FuncId} {args : Array Operand} {ats : Array TypeId} (ho : o.op = .call ⟨.value (.func f), args, ats⟩) {k : St → Option R} {r : R} (h : stepK T o σ k = some r) (hr : RelE X E σ a.tmps w) : StepOk P X T o a w (fun σ' => k σ' = some r) := by
  simp only [stepK, ho] at h
  cases hf : T.F f with
  | none => simp [hf] at h
  | some fn =>
    simp only [hf] at h
    obtain ⟨hm, g, g1, g2, g3⟩ := hF f fn hf
    have hcall := call_ok hm (d := o.dst) hr h
    intro Q
    unfold Oper.wp
    have hx : (execOp a.eval o).run P w = .ok (.enter f (args.toList.map a.eval).toArray) w := by
      have e1 : a.eval (.func f) = .func (.func f) #[] #[] := rfl
      have hb : ¬ g.body = none := by intro h; rw [h] at g2; cases g2
      have hn : ¬ g.name = "runtime.NumGoroutine" := by simpa using g3
      simp [execOp, ho, resolve, e1, Deferred.ofValue, invoke, callFunc, g1]
      rw [if_neg hn, if_neg hb, ← Array.toList_map]
    rw [hx, Oper.upon_enter]
    refine hcall.mono fun e w' he => ?_
    cases e with
    | returned v => exact ⟨put_defers _ _, fun i hi => put_other _ _ i hi, put_size _ _, fun hq => he.1 (by simpa [quiet, ho, hf] using hq), he.2⟩
    | panicked c => exact he.elim
    | outgrown => exact he.elim
theorem step_ok (T : Tabs) (hT : TabOk P T.T) (hF : FOk P T.F) {k : St → Option R} {r : R} (h : stepK T o σ k = some r) (hr : RelE X E σ a.tmps w) : StepOk P X T o a w (fun σ' => k σ' = some r) := by
  cases ho : o.op with
  | move x => exact step_move T ho h hr
  | assign x => exact step_assign T ho h hr
  | pick c x y => exact step_pick T ho h hr
  | alloc e => exact step_alloc T hT ho h hr
  | box e x => exact step_box T hT ho h hr
  | build t ps => exact step_build T hT ho h hr
  | buildSlice t n ps => exact step_buildSlice T hT ho h hr
  | load t x => exact step_load T hT ho h hr
  | store t p x => exact step_store T hT ho h hr
  | nilCheck x => exact step_nilCheck T ho h hr
  | binOp op t x y yt => exact step_binOp T hT ho h hr
  | unOp op t x => exact step_unOp T ho h hr
  | convert s d x => exact step_convert T hT ho h hr
  | makeSlice t n c => exact step_makeSlice T hT ho h hr
  | slice t x lo hi mx =>
    cases mx with
    | none => exact step_slice T hT ho h hr
    | some m => simp [stepK, ho] at h
  | fieldAddr s x j => exact step_fieldAddr T hT ho h hr
  | field s x j => exact step_field T hT ho h hr
  | indexAddr s x i => exact step_indexAddr T hT ho h hr
  | index s x i => exact step_index T hT ho h hr
  | extract x i => exact step_extract T ho h hr
  | call c =>
    obtain ⟨callee, args, ats⟩ := c
    cases callee with
    | builtin b =>
      cases b with
      | len => exact step_len T hT ho h hr
      | min => exact step_min T ho h hr
      | max => exact step_max T ho h hr
      | append => exact step_append T hT ho h hr
      | _ => simp [stepK, ho] at h
    | value x =>
      cases x with
      | func f => exact step_call T hF ho h hr
      | _ => simp [stepK, ho] at h
    | invoke x n => simp [stepK, ho] at h
  | _ => simp [stepK, ho] at h
end
end Go.Proofs.Ytopeacfbcdoljaa.V
