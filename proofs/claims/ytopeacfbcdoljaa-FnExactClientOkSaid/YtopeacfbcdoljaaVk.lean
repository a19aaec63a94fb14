/- Soundness of single operations, seventh part: stores; fields, elements, cuts; what is built. -/
import Derived.Test.YtopeacfbcdoljaaVj
namespace Go.Proofs.Ytopeacfbcdoljaa.V
open Go
section
variable {P : Program} {X : Ctx} {E : Env} {σ : St} {A0 : Array Value} {a : Act} {w : World} {o : Oper} {R : Type}
/-- A root's cells. -/
def RootCells (w : World) (E : Env) (A0 : Array Value) (root : Root) (t : Ty) (cs : List Value) : Prop :=
  match root with
  | .tmp i => A0[i]? = some (toVal t cs)
  | .bx id => ∃ c e, w.heap[(E.ad id).1]? = some (.cells c e (0, 0)) ∧ (E.ad id).2 + cs.length ≤ c.size ∧ At w (E.ad id).1 (E.ad id).2 cs
theorem root_cells (hr : RelE X E σ a.tmps w) {root : Root} {y : Val} (h : σ.root root = some y) : ∃ cs, Rv w (Fz X E σ w) E σ y.t y.v y.ms cs ∧ y.ms.length = y.t.nl ∧ RootCells w E a.tmps root y.t cs := by
  cases root with
  | tmp i =>
    simp only [St.root] at h
    cases hi : σ.fr[i]? with
    | none => simp [List.getD, hi] at h
    | some s =>
      have hlt : i < a.tmps.size := by rw [← hr.len]; exact (List.getElem?_eq_some_iff.1 hi).1
      have hv : a.tmps[i]? = some a.tmps[i] := Array.getElem?_eq_getElem hlt
      have hs := hr.slot i s _ hi hv
      simp only [List.getD, hi, Option.getD_some] at h
      cases s with
      | val x hm => simp at h; subst h; obtain ⟨cs, h1, h2, h3⟩ := hs; exact ⟨cs, h1, h3, by show _ = some (toVal _ cs); rw [← h2]; exact hv⟩
      | _ => simp at h
  | bx id =>
    simp only [St.root] at h
    obtain ⟨cs, c, e, h1, h2, h3, h4, h5⟩ := hr.bx _ (find_mem h)
    exact ⟨cs, h1, h2, c, e, h3, h4, h5⟩
/-- Another reading of a root's cells, which are the same. -/
theorem RelE.setRootSame (hr : RelE X E σ A0 w) {root : Root} {y : Val} (h : σ.root root = some y) {cs : List Value} (hc : RootCells w E A0 root y.t cs) {v : y.t.den} {ms : List Nat}
    (hv : Rv w (Fz X E σ w) E σ y.t v ms cs) (hms : ms.length = y.t.nl) : RelE X E (σ.setRoot root ⟨y.t, v, ms⟩) A0 w ∧ Keep w w (Fz X E σ w) (Fz X E (σ.setRoot root ⟨y.t, v, ms⟩) w) E E σ (σ.setRoot root ⟨y.t, v, ms⟩) := by
  cases root with
  | tmp i =>
    have hs : SlotOk w (Fz X E σ w) E σ (.val ⟨y.t, v, ms⟩ none) (toVal y.t cs) := ⟨cs, hv, rfl, hms⟩
    have := hr.set i hs
    have e : A0.setIfInBounds i (toVal y.t cs) = A0 := by
      have hc' : A0[i]? = some (toVal y.t cs) := hc
      apply Array.ext
      · simp
      · intro j h1 h2
        rw [Array.getElem_setIfInBounds]
        split
        · rename_i hij; subst hij
          rw [Array.getElem?_eq_getElem h2] at hc'
          exact (Option.some.inj hc').symm
        · rfl
    rw [e] at this
    exact ⟨this, ⟨fun _ h => ⟨h, rfl⟩, Nat.le_refl _, fun _ _ => rfl, fun _ _ => rfl, fun _ _ h => .inl h, fun _ _ h => ⟨h, fun _ _ => rfl⟩, hr.ge, fun _ h => ⟨h, rfl⟩⟩⟩
  | bx id =>
    obtain ⟨c, e, h3, h4, h5⟩ := hc
    have := hr.setBox (σ := σ) h (v := v) (ms := ms) (d := 0) (c := cs) (cx := []) h3 h4 h5 (by simp) hv.length (by simpa using hv) hms
    have e2 : splice c ((E.ad id).2 + 0) [] = c := by simp [splice]
    rw [e2, setRow_self w _ _ _ _ h3] at this
    exact this
/-- Through a pointer something is written: the machine's new world, the evaluator's new state. -/
theorem write_ok (hr : RelE X E σ a.tmps w) {s : Slot} {v : Value} (hs : SlotOk w (Fz X E σ w) E σ s v) {x : Val} {cx : List Value} (hx : Rv w (Fz X E σ w) E σ x.t x.v x.ms cx) (hxl : x.ms.length = x.t.nl)
    {k : St → Option R} {r : R} (h : writeK σ s x k = some r) :
    ∃ b f cur e σ' E', v = .pointer (some ⟨b, f, none⟩) ∧ w.heap[b]? = some (.cells cur e (0, 0)) ∧ f + cx.length ≤ cur.size ∧ k σ' = some r ∧ RelE X E' σ' a.tmps (w.setRow b (splice cur f cx)) ∧ Keep w (w.setRow b (splice cur f cx)) (Fz X E σ w) (Fz X E' σ' (w.setRow b (splice cur f cx))) E E' σ σ' ∧ E'.out = E.out := by
  have hnt : 0 < σ.nt := by have := hr.nt2; omega
  cases s with
  | ptr id r' p t =>
    simp only [writeK] at h
    cases hf : σ.find id with
    | none => simp [hf] at h
    | some y =>
      simp only [hf] at h
      cases hb : Ty.beq y.t r' with
      | false => simp [hb] at h
      | true =>
        rw [hb] at h
        simp only [cond_true] at h
        have e := Ty.eq_of_beq hb
        obtain ⟨_, b, f, hv, ha⟩ := hs
        obtain ⟨cs, c, e', h1, h2, h3, h4, h5⟩ := hr.bx _ (find_mem hf)
        dsimp only at h1 h2 h3 h4 h5
        obtain ⟨v', ms', d, q1, q2, q3, q4, q5⟩ := set_ok h h1 h2 hx hxl
        have q6 := q5 (E.ad id).1 (E.ad id).2
        rw [e, ha] at q6
        simp only [Option.some.injEq, Prod.mk.injEq] at q6
        obtain ⟨_, q8, q9⟩ := q6
        have hcl := h1.length
        have := hr.setBox hf h3 h4 h5 q4 hcl q2 q3
        rw [← q8] at this h3
        rw [← q9] at this
        exact ⟨b, f, c, e', _, E, hv, h3, by omega, q1, this.1, this.2, rfl⟩
  | eptr hm τ i u p t =>
    simp only [writeK, rowK] at h
    cases hy : σ.root hm.root with
    | none => simp [hy] at h
    | some y =>
      simp only [hy] at h
      obtain ⟨cs, h1, h2, hrc⟩ := root_cells hr hy
      obtain ⟨z, d, q1, q2, q3, q4, q5⟩ := get_ok hnt hr.z h h1 h2
      obtain ⟨zt, zv, zm⟩ := z
      cases zt with
      | sl e u' =>
        simp only at q1
        cases hc : σ.al.contains (zm.headD 0) && (rootTok σ.ln (zm.headD 0) == rootTok σ.ln τ) && Ty.beq u' u && u'.nl == 0 with
        | false => rw [hc] at q1; simp at q1
        | true =>
          rw [hc] at q1
          simp only [cond_true] at q1
          simp only [Bool.and_eq_true, beq_iff_eq, List.contains_iff_mem] at hc
          obtain ⟨⟨⟨hal, hroot⟩, hbeq⟩, hnl⟩ := hc
          have e' := Ty.eq_of_beq hbeq
          subst e'
          cases hz : (zv : List u'.den)[i]? with
          | none => rw [hz] at q1; simp at q1
          | some z0 =>
            rw [hz] at q1
            simp only [Option.bind_some] at q1
            obtain ⟨⟨h20, h21⟩, g, b, f, hg, hv, ha⟩ := hs
            obtain ⟨c, ec, hleaf⟩ := q2
            have hhd : E.hd (zm.headD 0) = some g := by
              rw [← rootTok_hd hr.lnr (zm.headD 0), hroot, rootTok_hd hr.lnr τ, hg]
            obtain ⟨hlt0, ad, cap, rfl, _, _, hh, ho⟩ := hleaf
            obtain ⟨css, hown, hrs⟩ := ho hal
            have hi : i < (zv : List u'.den).length := (List.getElem?_eq_some_iff.1 hz).1
            have had := hh (hr.alr _ hal).1
            rw [hhd] at had
            simp only [Option.map_some] at had
            subst had
            rcases hown.2 with ⟨e1, e2⟩ | ⟨g', cap', cur, e1, _, hgb, hle, hmax, hsz, htk⟩
            · cases e1
            · simp only [Value.slice.injEq, Option.some.injEq, Addr.mk.injEq, and_true, true_and] at e1
              obtain ⟨rfl, rfl⟩ := e1
              have hrf := hrs i z0 hz
              have hlen := hrf.length
              have hzero : (List.replicate u'.nl 0 : List Nat) = [] := by rw [hnl]; rfl
              obtain ⟨z', ms', d2, w1, w2, w3, w4, w5⟩ := set_ok q1 (by have := rv_of_rf (E := E) hnt hr.z hrf; rw [hzero] at this; exact this) (by rw [hnl]; rfl) hx hxl
              have w6 := w5 g (i * u'.size)
              rw [ha] at w6
              simp only [Option.some.injEq, Prod.mk.injEq] at w6
              obtain ⟨_, w8, w9⟩ := w6
              subst w8
              have hi1 : (i + 1) * u'.size ≤ (zv : List u'.den).length * u'.size := Nat.mul_le_mul_right _ hi
              rw [Nat.add_mul] at hi1
              have hcap : (zv : List u'.den).length * u'.size ≤ cap * u'.size := Nat.mul_le_mul_right _ hle
              have hcssl : css.length = (zv : List u'.den).length * u'.size := hown.1
              have hfit : f + cx.length ≤ cur.size := by rw [hsz]; omega
              have hgn : E.hd (zm.headD 0) = some b := hhd
              -- the new world
              obtain ⟨hr1, K1⟩ := hr.renew (w1 := w.setRow b (splice cur f cx)) (zm.headD 0) ((σ.nt, zm.headD 0) :: σ.ln) (some b)
                (fun p hp => by
                  rcases List.mem_cons.1 hp with rfl | hp
                  · exact .inl ⟨rfl, rfl, hgn.symm, hlt0⟩
                  · exact .inr hp)
                (fun b' _ hb' => setRow_other w _ _ _ (fun he => hb' hal (by rw [he]; exact hgn)))
                (hr.fr.setRow hgb (splice_size hfit) (fun hlt o hno => by
                  rcases hr.srct _ hal b hgn with h | h
                  · exact absurd (hr.fpm b h o) hno
                  · omega))
                (by simp) (fun b' hb' => by
                  injection hb' with hb'; subst hb'
                  refine ⟨.inl ⟨hal, hgn⟩, ?_⟩
                  simpa using (hr.lt b (mem_owned_al hal hgn)).1)
              have hrc1 : RootCells (w.setRow b (splice cur f cx)) (E.tok σ.nt (some b)) a.tmps hm.root y.t cs := by
                revert hrc hy
                cases hm.root with
                | tmp j => intro _ hrc; exact hrc
                | bx id =>
                  intro hy hrc
                  obtain ⟨c', e', k3, k4, k5⟩ := hrc
                  have hne : (E.ad id).1 ≠ b := fun he => by
                    have hn := hr.nodup
                    simp only [owned] at hn
                    exact (List.nodup_append.1 hn).2.2 _ (List.mem_map.2 ⟨_, find_mem hy, rfl⟩) b (List.mem_append_left _ (List.mem_flatMap.2 ⟨_, hal, by show b ∈ (E.hd (zm.headD 0)).toList; rw [hgn]; exact List.mem_singleton_self b⟩)) he
                  have hb' := setRow_other w b (E.ad id).1 (splice cur f cx) hne
                  exact ⟨c', e', hb'.trans k3, k4, k5.mono hb'⟩
              have hleaf' : Leaf (w.setRow b (splice cur f cx)) (Fz X (E.tok σ.nt (some b)) { σ with al := σ.nt :: σ.al.erase (zm.headD 0), ln := (σ.nt, zm.headD 0) :: σ.ln, nt := σ.nt + 1 } (w.setRow b (splice cur f cx))) (E.tok σ.nt (some b)) { σ with al := σ.nt :: σ.al.erase (zm.headD 0), ln := (σ.nt, zm.headD 0) :: σ.ln, nt := σ.nt + 1 } e u' σ.nt ((zv : List u'.den).set i z') (.slice (some ⟨b, 0, none⟩) (zv : List u'.den).length cap) := by
                refine ⟨Nat.lt_succ_self _, some ⟨b, 0, none⟩, cap, by rw [List.length_set], fun hz => ?_, fun h => ?_, fun _ => by simp [Env.tok], fun _ => ⟨(cur.toList.take f ++ cx ++ cur.toList.drop (f + cx.length)).take ((zv : List u'.den).length * u'.size), ⟨?_, .inr ⟨b, cap, splice cur f cx, by rw [List.length_set], Nat.zero_le _, ?_, by rw [List.length_set]; exact hle, hmax, ?_, ?_⟩⟩, fun j x' hx' => ?_⟩⟩
                · rcases hz with h | h
                  · omega
                  · have := (hr.fzr _ h).2; omega
                · have := hr.nt2; omega
                · rw [List.length_set]; simp; omega
                · exact setRow_heap w b cur _ _ _ hgb
                · rw [splice_size hfit]; exact hsz
                · rw [List.length_set]; simp [splice]
                · have hcz : ∀ q, q < (zv : List u'.den).length * u'.size → cur[q]? = css[q]? := by
                    intro q hq
                    rw [← htk, List.getElem?_take, if_pos hq, Array.getElem?_toList]
                  have hjl : j < (zv : List u'.den).length := by have := (List.getElem?_eq_some_iff.1 hx').1; simpa using this
                  have hj1 : (j + 1) * u'.size ≤ (zv : List u'.den).length * u'.size := Nat.mul_le_mul_right _ hjl
                  rw [Nat.add_mul] at hj1
                  refine K1.rf ?_
                  by_cases hij : i = j
                  · subst hij
                    rw [List.getElem?_set_self hi] at hx'
                    injection hx' with hx'; subst hx'
                    have : seg ((cur.toList.take f ++ cx ++ cur.toList.drop (f + cx.length)).take ((zv : List u'.den).length * u'.size)) u'.size i = (seg css u'.size i).take d2 ++ cx ++ (seg css u'.size i).drop (d2 + cx.length) := by
                      apply List.ext_getElem?
                      intro q
                      simp only [V.seg, List.getElem?_take, List.getElem?_drop, List.getElem?_append, List.length_take, List.length_drop, List.length_append, Array.length_toList, Array.getElem?_toList]
                      by_cases hq : q < u'.size
                      · have k0 := hcz (i * u'.size + q) (by omega)
                        simp only [hq, if_true]
                        repeat' split
                        all_goals first | omega | rfl | (rw [← hcz _ (by omega)]; congr 1; omega) | (congr 1; omega)
                      · simp only [hq, if_false]
                        repeat' split
                        all_goals first | omega | rfl
                    rw [this]
                    exact rf_of_rv hnl w2
                  · rw [List.getElem?_set_ne hij] at hx'
                    have : seg ((cur.toList.take f ++ cx ++ cur.toList.drop (f + cx.length)).take ((zv : List u'.den).length * u'.size)) u'.size j = seg css u'.size j := by
                      have hne : j * u'.size + u'.size ≤ i * u'.size ∨ i * u'.size + u'.size ≤ j * u'.size := by
                        rcases Nat.lt_or_gt_of_ne hij with h | h
                        · right; have := Nat.mul_le_mul_right u'.size (show i + 1 ≤ j from h); rw [Nat.add_mul] at this; omega
                        · left; have := Nat.mul_le_mul_right u'.size (show j + 1 ≤ i from h); rw [Nat.add_mul] at this; omega
                      apply List.ext_getElem?
                      intro q
                      simp only [V.seg, List.getElem?_take, List.getElem?_drop, List.getElem?_append, List.length_take, List.length_drop, List.length_append, Array.length_toList, Array.getElem?_toList]
                      by_cases hq : q < u'.size
                      · simp only [hq, if_true]
                        rw [← hcz (j * u'.size + q) (by omega)]
                        repeat' split
                        all_goals first | omega | rfl | (congr 1; omega)
                      · simp only [hq, if_false]
                    rw [this]
                    exact hrs j x' hx'
              have hcd : (cs.drop d).take 1 = [.slice (some ⟨b, 0, none⟩) (zv : List u'.den).length cap] := ec
              have hcs : cs.take d ++ [Value.slice (some ⟨b, 0, none⟩) (zv : List u'.den).length cap] ++ cs.drop (d + [Value.slice (some ⟨b, 0, none⟩) (zv : List u'.den).length cap].length) = cs := by
                rw [← hcd, List.append_assoc]
                have : ((cs.drop d).take 1).length = 1 := by rw [hcd]; rfl
                rw [this, ← List.drop_drop, List.take_append_drop, List.take_append_drop]
              obtain ⟨v2, ms2, d3, y1, y2, y3, y4, y5⟩ := set_ok w1 (K1.rv h1) h2 (x := ⟨.sl e u', (zv : List u'.den).set i z', [σ.nt]⟩) (cx := [.slice (some ⟨b, 0, none⟩) (zv : List u'.den).length cap]) ⟨_, rfl, hleaf'⟩ rfl
              have hd : d3 = d := by
                have k1 := y5 0 0
                rw [q5 0 0] at k1
                simp at k1
                exact k1.symm
              subst hd
              rw [hcs] at y2
              have hfin := hr1.setRootSame (y := y) (by
                revert hy
                cases hm.root with
                | tmp j => exact fun h => h
                | bx i' => exact fun h => h) hrc1 y2 y3
              exact ⟨b, f, cur, _, _, (E.tok σ.nt (some b)), hv, hgb, hfit, y1, hfin.1, K1.trans hfin.2, rfl⟩
      | _ => simp at q1
  | _ => simp [writeK] at h
theorem step_store (T : Tabs) (hT : TabOk P T.T) {t : TypeId} {p x : Operand} (ho : o.op = .store t p x) {k : St → Option R} {r : R} (h : stepK T o σ k = some r) (hr : RelE X E σ a.tmps w) : StepOk P X T o a w (fun σ' => k σ' = some r) := by
  simp only [stepK, ho] at h
  cases hTt : T.T t with
  | none => simp [hTt] at h
  | some tt =>
    cases hd : o.dst with
    | some d => simp [hTt, hd] at h
    | none =>
      simp only [hTt, hd] at h
      cases hc : V.coe tt (opd σ x) with
      | none => simp [hc] at h
      | some q =>
        obtain ⟨v, ms⟩ := q
        simp only [hc] at h
        obtain ⟨cs, h1, h2, h3⟩ := hr.coe hc
        obtain ⟨n, ht⟩ := hT.ty t _ hTt
        obtain ⟨b, f, cur, e, σ', E', q1, q2, q3, q4, q5, _⟩ := write_ok hr (slot_opd hr p) (x := ⟨tt, v, ms⟩) h1 h3 h
        have hcl : (a.eval x).cells = cs.toArray := by rw [h2]; exact cells_toVal h1 (tyB_scalar ht)
        refine stepOk_skip (w' := w.setRow b (splice cur f cs)) ?_ ⟨E', by rw [hd]; exact q5⟩ q4
        simp only [execOp, ho, q1, Sem.run_bind, run_storeAt_ty ht hcl h1.length h1.one q2 q3, Result.andThen_ok, Sem.run_pure]
/-- What the types of an operation say. -/
def fieldB (P : Program) (T : TypeId → Option Ty) (s : TypeId) (u : Ty) : Prop := T s = some (.st u)
theorem run_fieldAt {n : Nat} {s : TypeId} {u : Ty} (h : tyB P n s (.st u) = true) {j : Nat} {p : List Sel} (hj : fieldPath u j = some p) (b f : Nat) :
    ∃ d m, (Instr.fieldAt s (.pointer (some ⟨b, f, none⟩)) j).run P w = .ok (.pointer (some ⟨b, f + d, none⟩)) w ∧ (∀ b o, addr u (b, o) p = some (fieldTy u p, (b, o + d))) ∧ ∃ i, tyB P m i (fieldTy u p) = true := by
  obtain ⟨m, fs, h1, h2, h3⟩ := tyB_st h
  obtain ⟨fd, d, q1, q2, q3, q4, q5, q6⟩ := fieldsB_at h3 hj
  have hsz : (sizeOf fd.type).run P w = .ok (fieldTy u p).size w := run_sizeOf_ty q4 w
  have hne : (fieldTy u p).size ≠ 0 := by omega
  have hfs : fs[j]? = some fd := by rw [← Array.getElem?_toList]; exact q1
  refine ⟨d, m, ?_, q6, fd.type, q4⟩
  simp only [Instr.fieldAt, Sem.run_bind, run_underlying h1, Result.andThen_ok, hfs, Instr.sureAddr, Sem.run_pure, fieldPlace, hsz, hne, if_false, q2, Nat.zero_add, add_addr]
end
end Go.Proofs.Ytopeacfbcdoljaa.V
