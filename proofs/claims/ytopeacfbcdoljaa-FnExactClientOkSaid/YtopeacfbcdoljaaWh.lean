/- A function, by its text, meets its contract. -/
import Derived.Test.YtopeacfbcdoljaaWg
import Derived.LoopN
namespace Go.Proofs.Ytopeacfbcdoljaa.V
open Go
section
variable {P : Program} {X : Ctx} {E : Env} {σ : St} {A0 : Array Value} {a : Act} {w : World} {R : Type}
def rvM (tmps : Array Value) (rv : ResultVar) : Sem Value :=
  match rv with
  | .tmp t => pure (tmps.getD t undef)
  | .cell p t => do loadVar t (← asAddr (tmps.getD p undef))
theorem rv_ok (T : TypeId → Option Ty) (hT : TabOk P T) {rv : ResultVar} {k : Slot → Option R} {r : R} (hr : RelE X E σ a.tmps w) (h : rvK T σ rv k = some r) :
    ∃ s u, k s = some r ∧ SlotOk w (Fz X E σ w) E σ s u ∧ (rvM a.tmps rv).run P w = .ok u w := by
  cases rv with
  | tmp t => exact ⟨_, _, h, slot_opd hr (.tmp t), rfl⟩
  | cell p i =>
    simp only [rvK] at h
    cases hTt : T i with
    | none => simp [hTt] at h
    | some t =>
      simp only [hTt] at h
      have hs := slot_opd hr (.tmp p)
      simp only [opd] at hs
      obtain ⟨x, hm, b, o, cs, h1, h2, h3, h4, h5⟩ := read_ok hr hs h
      obtain ⟨n, ht⟩ := hT.ty i _ hTt
      cases hb : Ty.beq x.t t with
      | false => rw [hb] at h1; simp at h1
      | true =>
        rw [hb] at h1
        simp only [cond_true] at h1
        have := Ty.eq_of_beq hb
        subst this
        refine ⟨.val x none, toVal x.t cs, h1, ⟨cs, h3, rfl, h4⟩, ?_⟩
        have h2' : a.tmps.getD p undef = .pointer (some ⟨b, o, none⟩) := h2
        simp only [rvM, h2', asAddr, Sem.run_bind, Sem.run_pure, Result.andThen_ok]
        exact run_loadVar_ty ht h3.length h5
theorem rvs_ok (T : TypeId → Option Ty) (hT : TabOk P T) : ∀ {l : List ResultVar} {k : List Slot → Option R} {r : R}, RelE X E σ a.tmps w → rvsK T σ l k = some r →
    ∃ ss us, k ss = some r ∧ ss.length = us.length ∧ us.length = l.length ∧ (∀ (i : Nat) s u, ss[i]? = some s → us[i]? = some u → SlotOk w (Fz X E σ w) E σ s u) ∧
      (l.mapM (m := Sem) (rvM a.tmps)).run P w = .ok us w := by
  intro l
  induction l with
  | nil => intro k r hr h; exact ⟨[], [], h, rfl, rfl, fun i s u h => by simp at h, rfl⟩
  | cons rv l ih =>
    intro k r hr h
    simp only [rvsK] at h
    obtain ⟨s, u, h1, h2, h3⟩ := rv_ok T hT hr h
    obtain ⟨ss, us, k1, k2, k3, k4, k5⟩ := ih hr h1
    refine ⟨s :: ss, u :: us, k1, by simp [k2], by simp [k3], fun i s' u' e1 e2 => ?_, ?_⟩
    · cases i with
      | zero => simp at e1 e2; subst e1; subst e2; exact h2
      | succ i => exact k4 i s' u' (by simpa using e1) (by simpa using e2)
    · simp only [List.mapM_cons, Sem.run_bind, Sem.run_pure]
      rw [h3]
      simp only [Result.andThen_ok]
      rw [k5]
      rfl
theorem results_ok {fn : Func} {us : List Value} (h : (fn.results.toList.mapM (m := Sem) (rvM a.tmps)).run P w = .ok us w) :
    (results fn a.tmps).run P w = .ok (resVal us) w := by
  have e : results fn a.tmps = (do let vs ← fn.results.mapM (rvM a.tmps); pure (if h : vs.size = 1 then vs[0] else .tuple vs)) := rfl
  rw [e, Array.mapM_eq_mapM_toList]
  simp only [Sem.run_bind, map_eq_pure_bind, h, Result.andThen_ok, Sem.run_pure]
  match us with
  | [] => rfl
  | [v] => rfl
  | v :: u :: us => rfl
theorem fn_ok (T : Tabs) (C : Cuts) (hT : TabOk P T.T) (hF : FOk P T.F) {f : FuncId} {fn : Func} {c : Code} {s : Sig} (hf : P.funcs[f]? = some fn) (hb : fn.body = some c) (hc : CutsIn P C c) (os : s.In → Option s.Out) (he : ∀ x y, os x = some y → fnK T C fn s x = some y) :
    Meets P f ⟨s, os⟩ := by
  intro x y hxy w A pin us fs hp
  have h := he x y hxy
  unfold fnK at h
  rw [hb] at h
  simp only at h
  cases hn : decide (s.args.length ≤ fn.ntmps) with
  | false => rw [hn] at h; simp at h
  | true =>
    rw [hn] at h
    simp only [cond_true] at h
    have hlen : us.length = s.args.length := by
      have key : ∀ {ks : List AK} {x : Tup (tysOf ks)} {us : List Value} {fs : List Foot}, ArgsOk w A pin ks x us fs → us.length = ks.length := by
        intro ks
        induction ks with
        | nil => intro x us fs h; cases us <;> cases fs <;> first | rfl | exact h.elim
        | cons k ks ih =>
          intro x us fs h
          cases us with
          | nil => cases fs <;> exact h.elim
          | cons u us => cases fs with
            | nil => exact h.elim
            | cons f fs => simp [ih h.2]
      exact key hp.args
    have hle : s.args.length ≤ fn.ntmps := by simpa using hn
    refine calls_of_wp hf hb ?_
    have hsz : (us.toArray ++ Array.replicate (fn.ntmps - us.toArray.size) undef).size = fn.ntmps := by simp; omega
    obtain ⟨X, E, hs, hr, hh, hbg⟩ := begin_ok (A0 := us.toArray ++ Array.replicate (fn.ntmps - us.toArray.size) undef) (ds := List.range s.args.length) hp (by
      rw [← hlen]
      apply List.ext_getElem?
      intro i
      rw [List.getElem?_map, List.getElem?_map]
      by_cases hi : i < us.length
      · rw [List.getElem?_range hi, List.getElem?_eq_getElem hi]
        simp only [Option.map_some]
        rw [Array.getElem?_append_left (by simpa using hi)]
        simp [hi]
      · rw [List.getElem?_eq_none (by simpa using hi), List.getElem?_eq_none (by simpa using hi)]
        rfl)
    rw [hsz] at hr hh
    refine wp_mono (code_ok T C hT hF hc (a := { tmps := us.toArray ++ Array.replicate (fn.ntmps - us.toArray.size) undef, defers := [] }) h hr) fun e a' w' hE => ?_
    obtain ⟨x', hx, e1, e2, e3, σ', hg, E', hr'⟩ := hE
    have fin : rvsK T.T σ' fn.results.toList (fun ss => finK s.args hs s.res ss σ') = some y → a'.defers = [] ∧ ∃ v, (results fn a'.tmps).run P w' = .ok v w' ∧ Post s w A us fs y v w' := by
      intro hg
      obtain ⟨ss, vs, k1, k2, k3, k4, k5⟩ := rvs_ok T.T hT (a := a') hr' hg
      exact ⟨e1, _, results_ok k5, vs, rfl, fin_ok hr' hbg k2 k4 k1⟩
    rw [hh] at hg
    cases x' with
    | nor =>
      cases e <;> first | exact hx.elim | skip
      exact fin hg
    | ret =>
      cases e <;> first | exact hx.elim | skip
      exact fin hg
    | ex i => simp at hg
end
end Go.Proofs.Ytopeacfbcdoljaa.V
