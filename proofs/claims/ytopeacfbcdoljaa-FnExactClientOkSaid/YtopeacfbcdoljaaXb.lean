/- A law's row, out of its contract. -/
import Derived.Test.YtopeacfbcdoljaaXa
namespace Go.Proofs.Ytopeacfbcdoljaa.V
open Go
section
variable {P : Program} {W W' : World} {H : Type} {enc : TypeId × Value → H}
abbrev roAll (tys : List Ty) : List AK := tys.map AK.ro
def WFs : (tys : List Ty) → Tup (tysOf (roAll tys)) → Prop
  | [], _ => True
  | t :: r, x => WFv t (Tup.hd x) ∧ WFs r (Tup.tl x)
theorem open_val {r : Reach} {b0 n : Nat} {i : TypeId} {t : Ty} {v : Value} {d : DataW H} {ps : List MemPlace} (ht : tyB P n i t = true) (hp : t.plain = true) (hval : Value.okWide P W r b0 i v) (hd : DataW.Trod enc P W 0 (fun _ => true) true i v d ps) :
    ∃ x : t.den, (∃ cs, Rf W (fun b => b < W.heap.size) t x cs ∧ v = toVal t cs) ∧ WFv t x := by
  obtain ⟨fuel, hf⟩ := hd
  obtain ⟨x, h1, h2⟩ := (trod_ty (fun b => b < W.heap.size) (fun _ h => h) hp).1 ht hf
  refine ⟨x, ⟨_, h1, ?_⟩, h2⟩
  cases t with
  | int k => obtain ⟨n, rfl⟩ := WideShapes.okWide_int (tyB_int ht) hval; rfl
  | bool => obtain ⟨n, rfl⟩ := WideShapes.okWide_bool (tyB_bool ht) hval; rfl
  | str => obtain ⟨n, rfl⟩ := WideShapes.okWide_string (tyB_str ht) hval; rfl
  | unit => cases n <;> simp [tyB] at ht
  | pair a b => cases n <;> simp [tyB] at ht
  | arr n t => simp [Ty.plain] at hp
  | sl e t =>
    obtain ⟨m, h3, _⟩ := tyB_sl ht
    obtain ⟨a, len, cap, rfl⟩ := WideShapes.okWide_slice h3 hval
    rfl
  | st t =>
    obtain ⟨m, fs, h3, _, _⟩ := tyB_st ht
    unfold Value.okWide at hval
    rw [h3] at hval
    obtain ⟨cs, rfl, _⟩ := hval
    show Value.agg cs = .agg (Value.agg cs).cells.toList.toArray
    simp [Value.cells]
/-- The parameters, by their types. -/
def ParB (P : Program) : List TypeId → List Ty → Prop
  | [], [] => True
  | i :: is, t :: ts => (∃ n, tyB P n i t = true) ∧ t.plain = true ∧ P.readableRec i = true ∧ i < P.types.size ∧ ParB P is ts
  | _, _ => False
theorem opens_ok : ∀ {is : List TypeId} {tys : List Ty} {vs : List Value} {ds : List (DataW H)} {ps : List MemPlace}, ParB P is tys → DataW.TrodAll enc P W 0 (fun _ => true) true is vs ds ps →
    (∀ (j : Nat) t v, is[j]? = some t → vs[j]? = some v → Value.okWide P W .any 0 t v ∨ ∃ b, Value.okWide P W .any b t v) →
    ∃ x : Tup (tysOf (roAll tys)), ArgsOk W (fun b => b < W.heap.size) (fun _ => False) (roAll tys) x vs (tys.map fun _ => ⟨[], none⟩) ∧ WFs tys x ∧ ds.length = is.length := by
  intro is
  induction is with
  | nil =>
    intro tys vs ds ps hp h _
    cases tys with
    | cons t tys => exact hp.elim
    | nil =>
      obtain ⟨rfl, rfl, _⟩ := ChangeShapes.trodAll_nil h
      exact ⟨(), trivial, trivial, rfl⟩
  | cons i is ih =>
    intro tys vs ds ps hp h hv
    cases tys with
    | nil => exact hp.elim
    | cons t tys =>
      obtain ⟨⟨n, ht⟩, hpl, _, _, hr⟩ := hp
      obtain ⟨v, vs', d, ds', p, q, rfl, rfl, rfl, h1, h2⟩ := ChangeShapes.trodAll_cons h
      obtain ⟨x2, g1, g2, g3⟩ := ih hr h2 (fun j t v e1 e2 => hv (j + 1) t v (by simpa using e1) (by simpa using e2))
      obtain ⟨x1, g4, g5⟩ : ∃ x : t.den, (∃ cs, Rf W (fun b => b < W.heap.size) t x cs ∧ v = toVal t cs) ∧ WFv t x := by
        rcases hv 0 i v rfl rfl with h | ⟨b, h⟩
        · exact open_val ht hpl h h1
        · exact open_val ht hpl h h1
      have e1 := tup_hd (t := t) (r := tysOf (roAll tys)) x1 x2
      have e2 := tup_tl (t := t) (r := tysOf (roAll tys)) x1 x2
      refine ⟨Tup.cons (t := t) (r := tysOf (roAll tys)) x1 x2, ⟨⟨?_, rfl⟩, ?_⟩, ⟨?_, ?_⟩, by simp [g3]⟩
      · show ∃ cs, Rf W _ t (Tup.hd (t := t) (r := tysOf (roAll tys)) (Tup.cons x1 x2)) cs ∧ v = toVal t cs
        rw [e1]; exact g4
      · show ArgsOk W _ _ (roAll tys) (Tup.tl (t := t) (r := tysOf (roAll tys)) (Tup.cons x1 x2)) vs' _
        rw [e2]; exact g1
      · show WFv t (Tup.hd (t := t) (r := tysOf (roAll tys)) (Tup.cons x1 x2))
        rw [e1]; exact g5
      · show WFs tys (Tup.tl (t := t) (r := tysOf (roAll tys)) (Tup.cons x1 x2))
        rw [e2]; exact g2
theorem Ext.keptBut (h : Ext W W') (may : MemPlace → Prop) : W.keptBut W' may := by
  refine ⟨h.os, h.output, fun i hi => ?_⟩
  rw [h.block i hi]
  cases hb : W.heap[i]? with
  | none => trivial
  | some o => cases o <;> simp
theorem Ext.sameAt (h : Ext W W') {p : MemPlace} (hp : p.block < W.heap.size) : W.sameAt W' p := RowKit.Below.same ⟨h.os, h.tape, h.output, h.size, h.block⟩ hp
theorem args_stay (hl : laidOutB P = true) (hx : Ext W W') {sp : Nat → Bool} : ∀ {is : List TypeId} {tys : List Ty} {vs : List Value} {ds : List (DataW H)} {ps : List MemPlace}, ParB P is tys → DataW.TrodAll enc P W 0 (fun _ => true) true is vs ds ps →
    (∀ p ∈ ps, p.block < W.heap.size) → (∀ p ∈ ps, sp p.block = true) → DataW.TrodAll enc P W' 0 sp true is vs ds ps := by
  intro is
  induction is with
  | nil =>
    intro tys vs ds ps _ h _ _
    obtain ⟨rfl, rfl, rfl⟩ := ChangeShapes.trodAll_nil h
    exact ChangeShapes.trodAll_mk0
  | cons i is ih =>
    intro tys vs ds ps hp h hlt hsp
    cases tys with
    | nil => exact hp.elim
    | cons t tys =>
      obtain ⟨_, _, hrd, hrow, hr⟩ := hp
      obtain ⟨v, vs', d, ds', p, q, rfl, rfl, rfl, h1, h2⟩ := ChangeShapes.trodAll_cons h
      exact ⟨p, q, WideElems.Trod_stays hl hrd hrow h1 (fun x hx' => hx.sameAt (hlt x (List.mem_append_left _ hx'))) (fun x hx' => hsp x (List.mem_append_left _ hx')),
        ih hr h2 (fun x hx' => hlt x (List.mem_append_right _ hx')) (fun x hx' => hsp x (List.mem_append_right _ hx')), rfl⟩
theorem Ext.frozen (h : Ext W W') {b off : Nat} (hb : b < W.heap.size) : W'.frozen? ⟨b, off, none⟩ = W.frozen? ⟨b, off, none⟩ := by
  unfold World.frozen?
  rw [h.block b hb]
/-- What is owed behind the call. -/
theorem post_law {f : Func} {s : ChangeSpec} {apart fresh handsOn again : Bool} {args : Array Value} {ds gs : List (DataW H)} {before : List MemPlace} {tys : List Ty} {tb : TypeId}
    (hl : laidOutB P = true) (hpar : ParB P f.params.toList tys) (hres : f.resultTypes = #[tb]) (htb : P.underlying tb = some .bool) (hvars : s.vars = []) (hgs : gs = [])
    (hfn : s.fn H ds = { results := [.lit (.bool true)], args := ds })
    (hW : DataW.Whole enc P f.params.toList s.vars apart W args.toList ds gs before) (hx : Ext W W') : s.post enc P f apart fresh handsOn again W args (.bool true) W' := by
  subst hgs
  have hlt := hW.lt
  have hW' := hW
  obtain ⟨p, q, hA, hV, rfl, hz, hn⟩ := hW'
  rw [hvars] at hV
  obtain ⟨_, rfl⟩ := ChangeShapes.trodVars_none hV
  rw [List.append_nil] at *
  have hp : ∀ x ∈ p, x.block < W.heap.size := fun x hx' => by simpa using hlt x (by simpa using hx')
  have hr : ∀ (b : Nat) (sp : Nat → Bool) (hd : Bool), DataW.TrodAll enc P W' b sp hd f.resultTypes.toList ((Value.bool true).resultList f.resultTypes.size) (s.fn H (ds ++ [])).results [] := by
    intro b sp hd
    rw [List.append_nil, hfn, hres]
    exact ChangeShapes.trodAll_mk1 ⟨1, by simp [DataW.trod, Value.cells, htb]⟩
  have ha : ∀ sp : Nat → Bool, (∀ x ∈ p, sp x.block = true) → DataW.TrodAll enc P W' 0 sp true f.params.toList args.toList (s.fn H (ds ++ [])).args p := by
    intro sp hsp
    rw [List.append_nil, hfn]
    exact args_stay hl hx hpar hA hp hsp
  have hv : ∀ sp : Nat → Bool, DataW.TrodVars enc P W' sp s.vars (s.fn H (ds ++ [])).vars [] := by
    intro sp
    rw [List.append_nil, hfn, hvars]
    exact rfl
  refine ⟨ds, [], p, [], p, [], hW, hr _ _ _, ha _ (fun x hx' => by simpa using hp x hx'), hv _, hx.keptBut _, fun _ => ⟨?_, (s.fn H (ds ++ [])).results ++ (s.fn H (ds ++ [])).args, (s.fn H (ds ++ [])).vars, p, ⟨p, [], ?_, hv _, by simp, ?_, hn⟩, fun x hx' _ => hx'⟩⟩
  · intro j t r h1 h2
    rw [hres] at h1 h2
    match j, h1, h2 with
    | 0, h1, h2 =>
      simp [Value.resultList] at h1 h2
      subst h1; subst h2
      exact RowKit.okWide_bool_mk htb true
  · have := ChangeShapes.trodAll_append (ha (fun _ => true) (fun _ _ => rfl)) (hr 0 (fun _ => true) true)
    simpa using this
  · intro b off hb
    rw [hx.frozen (b := b) (off := off) (hp _ hb)]
    exact hz b off hb
abbrev LawSig (tys : List Ty) : Sig := ⟨roAll tys, [(.bool, true)]⟩
/-- A law's contract, as a row asks. -/
theorem law_ok {f : FuncId} {fn : Func} {s : ChangeSpec} {apart fresh handsOn again : Bool} {tys : List Ty} {tb : TypeId} {F : (LawSig tys).In → Option (LawSig tys).Out} (hm : Meets P f ⟨LawSig tys, F⟩)
    (hF : ∀ x, WFs tys x → ∃ y, F x = some y ∧ Tup.hd (Tup.fst (a := [Ty.bool]) (b := outsOf (roAll tys)) y) = true)
    (hl : laidOutB P = true) (hpar : ParB P fn.params.toList tys) (hres : fn.resultTypes = #[tb]) (htb : P.underlying tb = some .bool) (hvars : s.vars = [])
    (hfn : ∀ ds : List (DataW H), ds.length = fn.params.toList.length → s.fn H ds = { results := [.lit (.bool true)], args := ds })
    {args : Array Value} {ds gs : List (DataW H)} {before : List MemPlace} {base : Nat} (hval : ∀ (j : Nat) t v, fn.params[j]? = some t → args[j]? = some v → Value.okWide P W .any base t v)
    (hW : DataW.Whole enc P fn.params.toList s.vars apart W args.toList ds gs before) :
    Calls P f args W fun e W' => ∃ v, e = .returned v ∧ s.post enc P fn apart fresh handsOn again W args v W' := by
  have hW' := hW
  obtain ⟨p, q, hA, hV, rfl, hz, hn⟩ := hW'
  rw [hvars] at hV
  obtain ⟨rfl, rfl⟩ := ChangeShapes.trodVars_none hV
  obtain ⟨x, h1, h2, h3⟩ := opens_ok hpar hA (fun j t v e1 e2 => .inr ⟨base, hval j t v (by simpa using e1) (by simpa using e2)⟩)
  obtain ⟨y, hy, ht⟩ := hF x h2
  have hblocks : ∀ l : List Ty, blocksOf (l.map fun _ => (⟨[], none⟩ : Foot)) = [] := by
    intro l
    induction l with
    | nil => rfl
    | cons t l ih => simp [blocksOf, Foot.blocks] at ih ⊢
  have hc := hm x y hy W (fun b => b < W.heap.size) (fun _ => False) args.toList _ ⟨h1, by rw [hblocks]; exact List.nodup_nil, fun b hb => (by rw [hblocks] at hb; cases hb), fun b hb => hb, fun b hb => hb.elim⟩
  refine hc.mono fun e W' he => ?_
  cases e with
  | panicked c => exact he.elim
  | outgrown => exact he.elim
  | returned v =>
    obtain ⟨vs, rfl, hp⟩ := he
    have hro : roOnly (roAll tys) = true := by
      have : ∀ l : List Ty, roOnly (roAll l) = true := fun l => by
        induction l with
        | nil => rfl
        | cons t l ih => exact ih
      exact this tys
    have hx : Ext W W' := hp.fr.toExt (foot_ro hro h1)
    obtain ⟨bo, br, _, _, hr, _⟩ := hp.ex
    have hv : resVal vs = .bool true := by
      cases vs with
      | nil => cases br <;> exact hr.elim
      | cons u vs =>
        cases br with
        | nil => exact hr.elim
        | cons b br =>
          obtain ⟨⟨cs, g1, g2, _⟩, g3⟩ := hr
          cases vs with
          | cons u' vs => cases br <;> exact g3.elim
          | nil =>
            have g2' : cs = [.bool (Tup.hd (Tup.fst (a := [Ty.bool]) (b := outsOf (roAll tys)) y))] := g2
            rw [g1, g2', ht]
            rfl
    rw [hv]
    exact ⟨_, rfl, post_law hl hpar hres htb hvars rfl (hfn ds h3) hW hx⟩
end
end Go.Proofs.Ytopeacfbcdoljaa.V
