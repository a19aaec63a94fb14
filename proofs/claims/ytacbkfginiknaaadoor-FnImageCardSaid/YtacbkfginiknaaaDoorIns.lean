/- slices.Insert of one element into a row of one's own: the four ways that the library's text goes, and what it hands back. -/
import Derived.Test.YtacbkfginiknaaaDoorVD
import Derived.Lib.Walk
import Derived.Shelf.RegionOpenPlain
import Derived.Lib.SliceRun
import Derived.Lib.JoinLaws
import Derived.Lib.AppendZeros
import Derived.Lib.AppendZerosOnto
import Derived.Lib.Overlaps
import Derived.Laws.Externs
import Derived.Laws.IdiomCopy
import Derived.Laws.NewBlocks
namespace Go.Proofs.YtacbkfginiknaaaDoor.V
open Go Go.RowKit Go.Lib
theorem run_copy_rows {P : Program} (w : World) (dT sT ty elem : TypeId) (g o dLen dCap : Nat) (a : Addr) (sLen sCap : Nat) (cur : Array Value) (t : TypeId) (cs : List Value) (z n : Nat)
    (hu : P.underlying dT = some (.slice elem)) (hs : (P.info? elem).map (·.size) = some z)
    (hg : w.heap[g]? = some (.cells cur t (0, 0))) (hn : n = Nat.min sLen dLen) (hcs : cs.length = n * z)
    (hsrc : ∀ j v, cs[j]? = some v → w.cell? (a.add j) = some v) (hfit : o + cs.length ≤ cur.size) (h1 : ∀ v ∈ cs, v.oneCell' = true) :
    (Builtin.copy_ #[dT, sT] ty #[.slice (some ⟨g, o, none⟩) dLen dCap, .slice (some a) sLen sCap]).run P w =
      .ok (goInt n) (w.setRow g (cur.toList.take o ++ cs ++ cur.toList.drop (o + cs.length)).toArray) := by
  have hl := run_loadCells_list (P := P) w a cs hsrc
  have hst := run_storeCells_at P g o t cs 0 cur w hg (by simpa using hfit) h1
  rw [hcs] at hl
  cases hq : P.info? elem with
  | none => simp [hq] at hs
  | some i =>
    have hi : i.size = z := by simpa [hq] using hs
    simp [Builtin.copy_, run_underlying hu, Builtin.lenOf, Builtin.firstCells, sizeOf, typeInfo, hq, hi, ← hn, hl, hst, hcs]
theorem run_overlaps_own {P : Program} (w : World) (tS tR e : TypeId) (ht : P.underlying tS = some (.slice e)) (size : Nat) (hz : ∀ w, (Go.sizeOf e).run P w = .ok size w)
    (a b : Addr) (la ca lb cb : Nat) (hne : a.block ≠ b.block) (tA tB : TypeId) (kA kB : Nat)
    (hsa : w.shape? a.block = some (tA, kA)) (hsb : w.shape? b.block = some (tB, kB)) (hkA : kA ≠ 0) (hkB : kB ≠ 0) (hfb : ∀ o, w.frozen? { block := b.block, off := o } = false) (hb : b.spot = none) :
    (Extern.SlicesOverlaps.overlaps #[tS, tS] #[tR] #[.slice (some a) la ca, .slice (some b) lb cb]).run P w = .ok (.bool false) w := by
  have hnb : (a.block != b.block) = true := by simpa using hne
  have hnb' : (a.block == b.block) = false := by simpa using hne
  have hfb' : w.frozen? b = false := by
    have := hfb b.off
    obtain ⟨bb, bo, bs⟩ := b
    simp only at hb this ⊢
    subst hb
    exact this
  have hfk := hfb kB
  change Sem.run P (α := Value) (do
    let some t := (#[tS, tS] : Array TypeId)[0]? | stuck "slices.overlaps: no parameter types"
    let .slice elem ← underlying t | stuck "slices.overlaps: slice type expected"
    let size ← sizeOf elem
    match (some a : Option Addr), (some b : Option Addr) with
    | some a, some b =>
      if la = 0 ∨ lb = 0 ∨ size = 0 then pure (Value.bool false)
      else if a.block != b.block && (← frozen a) && (← frozen b) then unsupported .addressObserved
      else do
        if a.block != b.block then do
          noView a; noView b
          if ← mayBeOne a b then return Value.bool ((← choose (.extern "sameAddr.stringBytes" 2)) == 1)
        pure (Value.bool (a.block == b.block && a.off < b.off + lb * size && b.off < a.off + la * size))
    | _, _ => pure (Value.bool false)) w = _
  by_cases h0 : la = 0 ∨ lb = 0 ∨ size = 0
  · simp [run_underlying ht, hz, h0]
  · cases kB with
    | zero => exact absurd rfl hkB
    | succ kB =>
     cases kA with
     | zero => exact absurd rfl hkA
     | succ kA =>
      cases hfa : w.frozen? a <;> cases hfe : w.frozen? { block := a.block, off := kA + 1 } <;>
        simp [run_underlying ht, hz, h0, hnb, hnb', frozen, noView, viewAt, mayBeOne, stringish, shape, Sem.run, hsa, hsb, hfa, hfe, hfb', hfk]
theorem shape_of_cells {w : World} {g : Nat} {cur : Array Value} {e : TypeId} {f : Nat × Nat} (h : w.heap[g]? = some (.cells cur e f)) : w.shape? g = some (e, cur.size) := by
  simp [World.shape?, h]
theorem shape_of_cell {w : World} {b o : Nat} {v : Value} (h : w.cell? ⟨b, o, none⟩ = some v) : ∃ t k, w.shape? b = some (t, k) ∧ k ≠ 0 := by
  unfold World.cell? at h
  unfold World.shape?
  simp only at h
  split at h
  · rename_i c e f hc
    refine ⟨e, c.size, rfl, fun h0 => ?_⟩
    have : c[o]? = none := Array.getElem?_eq_none (by omega)
    simp [this] at h
  · cases h
/-- A copy as one step, its run known. -/
theorem step_copy_runW {P : Program} {ops : Array Oper} {o : Oper} {a : Act} {w : World} {K : Act → World → Prop} {Q : Exit → Act → World → Prop} {E : Prop}
    (hg : o.guard = none) (d x : Operand) (dT sT : TypeId) (hop : o.op = Op.call { callee := Callee.builtin Builtin.copy, args := #[d, x], argTypes := #[dT, sT] })
    (v u : Value) (hd : a.eval d = v) (hx : a.eval x = u) {v' : Value} {w' : World} (hr : (Builtin.copy_ #[dT, sT] o.type #[v, u]).run P w = .ok v' w') (hK : K (a.put o.dst v') w') :
    if Region.wanted o (yielded ops a.tmps) = true then Oper.wp P o a w K Q else E := by
  have hw : Region.wanted o (yielded ops a.tmps) = true := by simp [Region.wanted, hg]
  rw [if_pos hw]
  unfold Oper.wp
  simp [execOp, hop, resolve, invoke, builtin, hd, hx, hr, Result.andThen]
  exact hK
theorem wpList_copy_runW {P : Program} (w : World) {ops : Array Oper} {rest : List Oper} {o : Oper} {a : Act} {Q : Exit → Act → World → Prop} (hgd : o.guard = none) (d s : Operand) (t t' : TypeId)
    (ho : o.op = .call { callee := .builtin .copy, args := #[d, s], argTypes := #[t, t'] }) (v u : Value) (hd : a.eval d = v) (hs : a.eval s = u) {v' : Value} {w' : World}
    (hr : (Builtin.copy_ #[t, t'] o.type #[v, u]).run P w = .ok v' w') (h : wpList P ops Q rest (a.put o.dst v') w') : wpList P ops Q (o :: rest) a w :=
  wpList_plain hgd fun _ hK => by
    unfold Oper.wp execOp
    simp only [ho, resolve, invoke, builtin, Sem.run_bind, Sem.run_pure, Result.andThen_ok, List.map_toArray, List.map_cons, List.map_nil, hd, hs, hr]
    exact hK _ _ h
def row1 (cur : List Value) (n i : Nat) : List Value := cur.take ((i + 1) * 8) ++ (cur.take (n * 8)).drop (i * 8) ++ cur.drop ((i + 1) * 8 + ((cur.take (n * 8)).drop (i * 8)).length)
def row2 (cur : List Value) (i : Nat) (news : List Value) : List Value := cur.take (i * 8) ++ news ++ cur.drop (i * 8 + news.length)
theorem size119 : (Tryd.prog.info? 119).map (·.size) = some 8 := by kernel_rfl
set_option maxHeartbeats 4000000 in
set_option maxRecDepth 100000 in
theorem ins_shift (w : World) (g n cap i vb vo vc : Nat) (cur : Array Value) (news : List Value) (hi : i < n) (hroom : n + 1 ≤ cap) (hcap : cap ≤ maxLen) (hvb : vb ≠ g)
    (hg : w.heap[g]? = some (.cells cur 119 (0, 0))) (hcur : cur.size = cap * 8) (hnl : news.length = 8) (hvs : ∀ j v, news[j]? = some v → w.cell? ⟨vb, vo + j, none⟩ = some v)
    (h1c : ∀ v ∈ cur.toList.take (n * 8), v.oneCell' = true) (h1v : ∀ v ∈ news, v.oneCell' = true) :
    Calls Tryd.prog 142 #[.slice (some ⟨g, 0, none⟩) n cap, .int .i64 i, .slice (some ⟨vb, vo, none⟩) 1 vc] w fun e w' =>
      e = .returned (.slice (some ⟨g, 0, none⟩) (n + 1) cap) ∧
      w' = (w.drew.setRow g (row1 cur.toList n i).toArray).setRow g (row2 (row1 cur.toList n i) i news).toArray := by
  have mixed : Tryd.prog.follows .mixedOrders = true := by kernel_rfl
  obtain ⟨tA, kA, hsa, hkA⟩ := shape_of_cell (hvs 0 _ (List.getElem?_eq_getElem (by omega)))
  have hov : ∀ lb cb o, (callFunc 164 #[.slice (some ⟨vb, vo, none⟩) 1 vc, .slice (some ⟨g, o, none⟩) lb cb]).run Tryd.prog w = .ok (.value (.bool false)) w := fun lb cb o => by
    rw [run_callFunc_extern Tryd.func164 (by kernel_rfl) (by kernel_rfl) (by kernel_rfl) (e := Extern.SlicesOverlaps.overlaps #[66, 66] #[4]) (by kernel_rfl),
      run_overlaps_own w 66 4 119 Tryd.underlying66 8 Tryd.sizeOf119 ⟨vb, vo, none⟩ ⟨g, o, none⟩ 1 vc lb cb hvb tA 119 kA cur.size hsa (shape_of_cells hg) hkA (by omega) (fun o => by simp [World.frozen?, hg]) rfl]
    rfl
  have hcap63 : cap ≤ 9223372036854775807 := by unfold maxLen at hcap; omega
  have hw1 : IntKind.i64.wrap ((i : Int) + 1) = (i : Int) + 1 := by rw [IntKind.wrap_i64]; omega
  have hw2 : IntKind.i64.wrap ((n : Int) + 1) = (n : Int) + 1 := by rw [IntKind.wrap_i64]; omega
  have hz2 : ¬ ((i : Int) = (n : Int)) := by omega
  have hb1 : (0 : Int) ≤ (i : Int) + 1 := by omega
  have hin : i ≤ n := by omega
  have htn : ((i : Int) + 1).toNat = i + 1 := by omega
  have htm : ((n : Int) + 1).toNat = n + 1 := by omega
  have hb2 : ¬ (cap = i + 1) := by omega
  have hb3 : (i : Int) ≤ (n : Int) + 1 := by omega
  have hb4 : ¬ (cap = i) := by omega
  have hb5 : ¬ ((cap : Int) < (n : Int) + 1) := by omega
  have hml : ((cur.toList.take (n * 8)).drop (i * 8)).length = (n - i) * 8 := by
    simp only [List.length_drop, List.length_take, Array.length_toList]
    rw [Nat.sub_mul, Nat.min_eq_left]
    rw [hcur]; exact Nat.mul_le_mul_right _ (by omega)
  have hcl : cur.toList.length = cap * 8 := by simpa using hcur
  have hfit1 : (i + 1) * 8 + (n - i) * 8 ≤ cap * 8 := by rw [← Nat.add_mul]; exact Nat.mul_le_mul_right _ (by omega)
  have hcp1 : ∀ ty dc sc, (Builtin.copy_ #[66, 66] ty #[.slice (some ⟨g, (i + 1) * 8, none⟩) (n - i) dc, .slice (some ⟨g, i * 8, none⟩) (n + 1 - i) sc]).run Tryd.prog w.drew = .ok (goInt (n - i : Nat)) (w.drew.setRow g (row1 cur.toList n i).toArray) := fun ty dc sc =>
    run_copy_rows w.drew 66 66 ty 119 g ((i + 1) * 8) (n - i) dc ⟨g, i * 8, none⟩ (n + 1 - i) sc cur 119 _ 8 (n - i) Tryd.underlying66 size119 hg (by simp only [Nat.min_def]; split <;> omega) hml
      (fun j v hj => by
        rw [Addr.add_lit]
        rw [List.getElem?_drop, List.getElem?_take] at hj
        split at hj
        · have : w.drew.cell? ⟨g, i * 8 + j, none⟩ = cur[i * 8 + j]? := by show w.cell? _ = _; simp [World.cell?, hg]
          rw [this]; simpa using hj
        · cases hj) (by rw [hml, hcur]; exact hfit1) (fun v hv => h1c v (List.mem_of_mem_drop hv))
  have hr1l : (row1 cur.toList n i).length = cap * 8 := by
    unfold row1
    simp only [List.length_append, List.length_take, List.length_drop, hcl, hml]
    rw [List.length_drop, List.length_take, hcl] at hml
    omega
  have hcp2 : ∀ (W : World), W.heap[g]? = some (.cells (row1 cur.toList n i).toArray 119 (0, 0)) → (∀ x, x.block ≠ g → W.cell? x = w.cell? x) → ∀ ty dc, (Builtin.copy_ #[66, 66] ty #[.slice (some ⟨g, i * 8, none⟩) (n + 1 - i) dc, .slice (some ⟨vb, vo, none⟩) 1 vc]).run Tryd.prog W = .ok (goInt (1 : Nat)) (W.setRow g (row2 (row1 cur.toList n i) i news).toArray) := fun W hW hWc ty dc =>
    run_copy_rows W 66 66 ty 119 g (i * 8) (n + 1 - i) dc ⟨vb, vo, none⟩ 1 vc (row1 cur.toList n i).toArray 119 news 8 1 Tryd.underlying66 size119 hW (by simp only [Nat.min_def]; split <;> omega) (by omega)
      (fun j v hj => by rw [Addr.add_lit, hWc _ hvb]; exact hvs j v hj)
      (by rw [hnl]; simp only [List.size_toArray, hr1l]; omega) h1v
  have hcp2' := hcp2 (w.drew.setRow g (row1 cur.toList n i).toArray) (setRow_heap _ _ _ _ _ _ hg) (fun x hx => by show World.cell? _ x = w.cell? x; unfold World.cell?; rw [setRow_other _ _ _ _ hx]; rfl)
  clear hcp2
  go_enter Tryd.func142, Tryd.ntmps142
  go_wp2_with (simp only [hov])
  go_region_law_o (refine step_copy_runW rfl _ _ 66 66 rfl _ _ (by simp [Act.eval, Act.put]) (by simp [Act.eval, Act.put]) (hcp1 _ _ _) ?_)
  go_wp2_with (simp only [hcp2', Result.andThen_ok])
  go_ret
  exact ⟨rfl, rfl⟩
set_option maxHeartbeats 4000000 in
set_option maxRecDepth 100000 in
theorem ins_grow (w : World) (g n cap i vb vo vc : Nat) (cur : Array Value) (news : List Value) (i0 : TypeInfo) (z0 : Value) (hi0 : Tryd.prog.info? 119 = some i0) (hz0 : i0.zero = some z0) (hsz : i0.size = 8) (hzs : z0.cells.size = 8)
    (hi : i < n) (hroom : cap < n + 1) (hnc : n ≤ cap) (hbig : (n + 1) * i0.bytes ≤ 140737488355328) (hn32 : n ≤ 4294967296)
    (hg : w.heap[g]? = some (.cells cur 119 (0, 0))) (hcur : cur.size = cap * 8) (hnl : news.length = 8) (hvs : ∀ j v, news[j]? = some v → w.cell? ⟨vb, vo + j, none⟩ = some v)
    (h1c : ∀ v ∈ cur.toList.take (n * 8), v.oneCell' = true) (h1v : ∀ v ∈ news, v.oneCell' = true) :
    Calls Tryd.prog 142 #[.slice (some ⟨g, 0, none⟩) n cap, .int .i64 i, .slice (some ⟨vb, vo, none⟩) 1 vc] w fun e w' =>
      ∃ cap' R, e = .returned (.slice (some ⟨w.heap.size, 0, none⟩) (n + 1) cap') ∧ n + 1 ≤ cap' ∧ cap' ≤ maxLen ∧ Ext w w' ∧ w'.heap[w.heap.size]? = some (.cells R 119 (0, 0)) ∧ R.size = cap' * 8 ∧
        R.toList.take ((n + 1) * 8) = cur.toList.take (i * 8) ++ news ++ (cur.toList.take (n * 8)).drop (i * 8) := by
  have mixed : Tryd.prog.follows .mixedOrders = true := by kernel_rfl
  have hnc' : n = cap := by omega
  have hcl : cur.toList.length = cap * 8 := by simpa using hcur
  have hold : (Builtin.firstCells i0.size i (.slice (some ⟨g, 0, none⟩) i cap)).run Tryd.prog w.drew = .ok (cur.toList.take (i * 8)).toArray w.drew := by
    rw [hsz]
    exact run_firstCells_some w.drew 8 i ⟨g, 0, none⟩ i cap (cur.toList.take (i * 8)) (by rw [List.length_take, hcl]; omega) (fun j v hj => by
      rw [Addr.add_lit, Nat.zero_add]
      rw [List.getElem?_take] at hj
      split at hj
      · show w.cell? _ = _
        simpa [World.cell?, hg] using hj
      · cases hj)
  obtain ⟨G, hG⟩ : ∃ G, G = grownCap w (n + 1) cap 119 := ⟨_, rfl⟩
  obtain ⟨ROW, hROW⟩ : ∃ ROW : Array Value, ROW = (cur.toList.take (i * 8)).toArray ++ Builtin.zeroCells z0.cells (n + 1 - i) ++ Builtin.zeroCells z0.cells (G - (n + 1)) := ⟨_, rfl⟩
  have hrz : ∀ ty, (Builtin.append_ #[66, 3] ty #[.slice (some ⟨g, 0, none⟩) i cap, .int .i64 ((n : Int) + 1 - (i : Int))]).run Tryd.prog w =
      .ok (.slice (some ⟨w.heap.size, 0, none⟩) (n + 1) G) (w.drew.alloc (.cells ROW 119)) := fun ty => by
    have h := Lib.run_append_grow_zeros w 66 3 ty 119 i0 _ .i64 .i64 Tryd.underlying66 Tryd.underlying3 hi0 hz0 (some ⟨g, 0, none⟩) i cap _ hold (n + 1 - i) (by omega) (by omega) (by omega) (by omega)
      (Nat.le_trans (Nat.mul_le_mul_right _ (show n + 1 - i ≤ n + 1 by omega)) (by omega)) (by rw [show i + (n + 1 - i) = n + 1 by omega]; exact growslice_fits hroom hbig)
    rw [show i + (n + 1 - i) = n + 1 by omega] at h
    rw [show ((n : Int) + 1 - (i : Int)) = ((n + 1 - i : Nat) : Int) by omega, hROW, hG]
    exact h
  have hGn : n + 1 ≤ G := by rw [hG]; exact grownCap_ge w _ _ _
  have hGm : G ≤ maxLen := by rw [hG]; exact grownCap_le_maxLen w (n + 1) cap 119 (by unfold maxLen; omega)
  have hG63 : G ≤ 9223372036854775807 := by unfold maxLen at hGm; omega
  have hRs : ROW.size = G * 8 := by
    rw [hROW]
    simp only [Array.size_append, List.size_toArray, List.length_take, hcl, size_zeroCells, hzs]
    omega
  have hRh : ROW.toList.take (i * 8) = cur.toList.take (i * 8) := by
    rw [hROW, Array.toList_append, Array.toList_append, List.append_assoc]
    exact List.take_left' (by rw [List.length_take, hcl]; omega)
  have hml : ((cur.toList.take (n * 8)).drop (i * 8)).length = (n - i) * 8 := by
    simp only [List.length_drop, List.length_take, hcl]; omega
  have hgw : g < w.heap.size := (Array.getElem?_eq_some_iff.1 hg).1
  obtain ⟨tA, kA, hsa, hkA⟩ := shape_of_cell (hvs 0 _ (List.getElem?_eq_getElem (by omega)))
  have hvw : vb < w.heap.size := by
    have := hvs 0 _ (List.getElem?_eq_getElem (show 0 < news.length by omega))
    unfold World.cell? at this
    cases h : w.heap[vb]? with
    | none => simp [h] at this
    | some o => exact (Array.getElem?_eq_some_iff.1 h).1
  have hW1 : ∀ (W : World), W.heap = (w.drew.alloc (.cells ROW 119)).heap → W.heap[w.heap.size]? = some (.cells ROW 119 (0, 0)) := fun W h => by
    rw [h]; exact heap_alloc_new w.drew _
  have hWo : ∀ (W : World), W.heap = (w.drew.alloc (.cells ROW 119)).heap → ∀ k, k < w.heap.size → W.heap[k]? = w.heap[k]? := fun W h k hk => by
    rw [h]; show (w.heap.push _)[k]? = _; rw [Array.getElem?_push, if_neg (by omega)]
  have hcp1 : ∀ (W : World), W.heap = (w.drew.alloc (.cells ROW 119)).heap → ∀ ty dc, (Builtin.copy_ #[66, 66] ty #[.slice (some ⟨w.heap.size, i * 8, none⟩) (n + 1 - i) dc, .slice (some ⟨vb, vo, none⟩) 1 vc]).run Tryd.prog W = .ok (goInt (1 : Nat)) (W.setRow w.heap.size (row2 ROW.toList i news).toArray) := fun W h ty dc =>
    run_copy_rows W 66 66 ty 119 w.heap.size (i * 8) (n + 1 - i) dc ⟨vb, vo, none⟩ 1 vc ROW 119 news 8 1 Tryd.underlying66 size119 (hW1 W h) (by simp only [Nat.min_def]; split <;> omega) (by omega)
      (fun j v hj => by
        rw [Addr.add_lit]
        have := hvs j v hj
        unfold World.cell? at this ⊢
        simp only at this ⊢
        rw [hWo W h vb hvw]; exact this)
      (by rw [hnl, hRs]; omega) h1v
  have hr2l : (row2 ROW.toList i news).length = G * 8 := by
    unfold row2
    simp only [List.length_append, List.length_take, List.length_drop, Array.length_toList, hRs, hnl]
    omega
  obtain ⟨R2, hR2⟩ : ∃ R2, R2 = (row2 ROW.toList i news).toArray := ⟨_, rfl⟩
  obtain ⟨MID, hMID⟩ : ∃ MID, MID = (cur.toList.take (n * 8)).drop (i * 8) := ⟨_, rfl⟩
  rw [← hMID] at hml ⊢
  rw [← hR2] at hcp1
  have hR2s : R2.size = G * 8 := by rw [hR2]; simpa using hr2l
  have hcp2 : ∀ (W : World), W.heap[w.heap.size]? = some (.cells R2 119 (0, 0)) → (W.heap[g]? = w.heap[g]?) → ∀ ty dc sc, (Builtin.copy_ #[66, 66] ty #[.slice (some ⟨w.heap.size, (i + 1) * 8, none⟩) (n - i) dc, .slice (some ⟨g, i * 8, none⟩) (n - i) sc]).run Tryd.prog W = .ok (goInt (n - i : Nat)) (W.setRow w.heap.size (R2.toList.take ((i + 1) * 8) ++ MID ++ R2.toList.drop ((i + 1) * 8 + MID.length)).toArray) := fun W h hWg ty dc sc =>
    run_copy_rows W 66 66 ty 119 w.heap.size ((i + 1) * 8) (n - i) dc ⟨g, i * 8, none⟩ (n - i) sc R2 119 MID 8 (n - i) Tryd.underlying66 size119 h (by simp) hml
      (fun j v hj => by
        rw [Addr.add_lit]
        rw [hMID, List.getElem?_drop, List.getElem?_take] at hj
        split at hj
        · unfold World.cell?
          simp only
          rw [hWg, hg]
          simpa using hj
        · cases hj)
      (by rw [hml, hR2s]; omega) (fun v hv => h1c v (List.mem_of_mem_drop (by rw [← hMID]; exact hv)))
  have hw1 : IntKind.i64.wrap ((i : Int) + 1) = (i : Int) + 1 := by rw [IntKind.wrap_i64]; omega
  have hw2 : IntKind.i64.wrap ((n : Int) + 1) = (n : Int) + 1 := by rw [IntKind.wrap_i64]; omega
  have hw3 : IntKind.i64.wrap ((n : Int) + 1 - (i : Int)) = (n : Int) + 1 - (i : Int) := by rw [IntKind.wrap_i64]; omega
  have hz2 : ¬ ((i : Int) = (n : Int)) := by omega
  have hz3 : (cap : Int) < (n : Int) + 1 := by omega
  have hb1 : (0 : Int) ≤ (i : Int) + 1 := by omega
  have hin : i ≤ n := by omega
  have htn : ((i : Int) + 1).toNat = i + 1 := by omega
  have hGi : ¬ (G = i) := by omega
  have hGim : ¬ (G = i + 1) := by omega
  have hci : ¬ (cap = i) := by omega
  have hb3 : (i : Int) ≤ (n : Int) := by omega
  have hcp1' := hcp1 (w.alloc (.cells ROW 119)).drew rfl
  obtain ⟨W2, hW2⟩ : ∃ W2, W2 = ((w.alloc (.cells ROW 119)).drew.setRow w.heap.size R2).drew := ⟨_, rfl⟩
  have hW2a : W2.heap[w.heap.size]? = some (.cells R2 119 (0, 0)) := by
    rw [hW2]; exact setRow_heap (w.alloc (.cells ROW 119)).drew _ _ _ _ _ (hW1 _ rfl)
  have hW2b : ∀ k, k < w.heap.size → W2.heap[k]? = w.heap[k]? := fun k hk => by
    rw [hW2]
    show ((w.alloc (.cells ROW 119)).drew.setRow w.heap.size R2).heap[k]? = _
    rw [setRow_other _ _ _ _ (by omega)]; exact hWo _ rfl k hk
  have hcp2' := hcp2 W2 hW2a (hW2b g hgw)
  obtain ⟨R3, hR3⟩ : ∃ R3, R3 = (R2.toList.take ((i + 1) * 8) ++ MID ++ R2.toList.drop ((i + 1) * 8 + MID.length)).toArray := ⟨_, rfl⟩
  rw [← hR3] at hcp2'
  have hfin : (W2.setRow w.heap.size R3).heap[w.heap.size]? = some (.cells R3 119 (0, 0)) := setRow_heap _ _ _ _ _ _ hW2a
  have hold2 : ∀ k, k < w.heap.size → (W2.setRow w.heap.size R3).heap[k]? = w.heap[k]? := fun k hk => by rw [setRow_other _ _ _ _ (by omega)]; exact hW2b k hk
  have hsize : w.heap.size ≤ (W2.setRow w.heap.size R3).heap.size := by
    have := (Array.getElem?_eq_some_iff.1 hfin).1; omega
  have hR2l : R2.toList.length = G * 8 := by simpa using hR2s
  have hfs : R3.size = G * 8 := by
    rw [hR3]
    simp only [List.size_toArray, List.length_append, List.length_take, List.length_drop, hR2l, hml]
    omega
  have hft : R3.toList.take ((n + 1) * 8) = cur.toList.take (i * 8) ++ news ++ MID := by
    rw [hR3]
    simp only
    rw [List.take_left' (by simp only [List.length_append, List.length_take, hR2l, hml]; omega)]
    congr 1
    rw [hR2]
    simp only
    unfold row2
    rw [hRh, List.take_left' (by simp only [List.length_append, List.length_take, hcl, hnl]; omega)]
  rw [hW2] at hcp2' hfin hold2 hsize
  clear hold hROW hG hnc' hcp1 hcp2 hW2 hW2a hW2b hR3 hR2
  go_enter Tryd.func142, Tryd.ntmps142
  go_wp2_with (first
    | (at_builtin; refine Lib.wpList_append_run _ rfl _ _ _ _ rfl _ _ rfl rfl _ _ (hrz _) ?_)
    | (simp only [hcp1', Result.andThen_ok]))
  go_region_law_o (refine step_copy_runW rfl _ _ 66 66 rfl _ _ (by simp [Act.eval, Act.put]) (by simp [Act.eval, Act.put]) (hcp2' _ _ _) ?_)
  go_wp2
  go_ret
  refine ⟨G, _, rfl, hGn, hGm, ?_, hfin, ?_, ?_⟩
  · exact ⟨rfl, rfl, rfl, hsize, hold2⟩
  · exact hfs
  · exact hft
/-- What is handed back: the same row, or a new one. -/
def InsPost (w : World) (u : Value) (n : Nat) (L : List Value) (v' : Value) (w' : World) : Prop :=
  (w'.os = w.os ∧ w'.tape = w.tape ∧ w'.output = w.output) ∧ w'.ownsRow 0 119 8 v' (n + 1) L ∧ ∃ g' cap', v' = .slice (some ⟨g', 0, none⟩) (n + 1) cap' ∧ w.heap.size ≤ w'.heap.size ∧
    (∀ k, k < w.heap.size → k ≠ g' → w'.heap[k]? = w.heap[k]?) ∧
    (w.heap.size ≤ g' ∨ ∃ cap cur arr, u = .slice (some ⟨g', 0, none⟩) n cap ∧ w.heap[g']? = some (.cells cur 119 (0, 0)) ∧ w'.heap[g']? = some (.cells arr 119 (0, 0)) ∧ arr.size = cur.size)
set_option maxHeartbeats 4000000 in
set_option maxRecDepth 100000 in
theorem ins_end (w : World) (u : Value) (n vb vo vc : Nat) (xs news : List Value) (i0 : TypeInfo) (z0 : Value) (hi0 : Tryd.prog.info? 119 = some i0) (hz0 : i0.zero = some z0) (hsz : i0.size = 8) (hzs : z0.cells.size = 8)
    (hown : w.ownsRow 0 119 8 u n xs) (h63 : n + 1 ≤ maxLen) (hbig : (n + 1) * i0.bytes ≤ 140737488355328) (hnl : news.length = 8) (hvs : ∀ j v, news[j]? = some v → w.cell? ⟨vb, vo + j, none⟩ = some v) (h1v : ∀ v ∈ news, v.oneCell' = true) :
    Calls Tryd.prog 142 #[u, .int .i64 n, .slice (some ⟨vb, vo, none⟩) 1 vc] w fun e w' => ∃ v', e = .returned v' ∧ InsPost w u n (xs ++ news) v' w' := by
  have mixed : Tryd.prog.follows .mixedOrders = true := by kernel_rfl
  have hap := fun ty => append_cases (P := Tryd.prog) (w := w) (ty := ty) 66 119 i0 z0 8 Tryd.underlying66 hi0 hz0 hsz hzs (by omega) u n xs hown (some ⟨vb, vo, none⟩) 1 vc news (by omega) (fun _ => ⟨_, rfl, fun j v hj => by rw [Addr.add_lit]; exact hvs j v hj⟩) h1v h63 hbig
  obtain ⟨v', w', hr, hc⟩ := hap 66
  have hpost : InsPost w u n (xs ++ news) v' w' := by
    rcases hc with ⟨_, _, h⟩ | ⟨g, cap, cur, arr, e1, e2, e3, e4, e5, e6⟩ | ⟨cap, e1, e2, e3, e4⟩
    · omega
    · subst e4
      exact ⟨⟨rfl, rfl, rfl⟩, e6, g, cap, e2, by simp [World.setRow], fun k _ hk => setRow_other _ _ _ _ hk, .inr ⟨cap, cur, arr, e1, e3, setRow_heap _ _ _ _ _ _ e3, e5⟩⟩
    · exact ⟨⟨e2.os, e2.tape, e2.output⟩, e4, _, cap, e1, e2.size, fun k hk _ => e2.block k hk, .inl (Nat.le_refl _)⟩
  obtain ⟨XS, hXS⟩ : ∃ XS, XS = xs ++ news := ⟨_, rfl⟩
  rw [← hXS] at hpost ⊢
  have hnn : (n : Int) ≤ 9223372036854775807 := by unfold maxLen at h63; omega
  rcases hown.2 with ⟨rfl, rfl⟩ | ⟨g, cap, cur, rfl, _, _, hnc, hcm, _, _⟩
  · clear hap hc hown
    go_enter Tryd.func142, Tryd.ntmps142
    go_wp2_with (at_builtin; refine Lib.wpList_append_run _ rfl _ _ _ _ rfl _ _ rfl rfl _ _ hr ?_)
    go_ret
    exact ⟨_, rfl, hpost⟩
  · clear hap hc hown
    by_cases hcn : cap = n
    · subst hcn
      go_enter Tryd.func142, Tryd.ntmps142
      go_wp2_with (at_builtin; refine Lib.wpList_append_run _ rfl _ _ _ _ rfl _ _ rfl rfl _ _ hr ?_)
      go_ret
      exact ⟨_, rfl, hpost⟩
    · go_enter Tryd.func142, Tryd.ntmps142
      go_wp2_with (at_builtin; refine Lib.wpList_append_run _ rfl _ _ _ _ rfl _ _ rfl rfl _ _ hr ?_)
      go_ret
      exact ⟨_, rfl, hpost⟩
theorem ins_list (xs news : List Value) {n i m : Nat} (h : i ≤ n) (hl : xs.length = n * m) (hn : news.length = m) : (xs.take (i * m) ++ news ++ xs.drop (i * m)).length = (n + 1) * m := by
  have : i * m ≤ n * m := Nat.mul_le_mul_right _ h
  simp only [List.length_append, List.length_take, List.length_drop, hl, hn, Nat.add_mul]; omega
theorem ins_any (w : World) (u : Value) (n i vb vo vc : Nat) (xs news : List Value) (i0 : TypeInfo) (z0 : Value) (hi0 : Tryd.prog.info? 119 = some i0) (hz0 : i0.zero = some z0) (hsz : i0.size = 8) (hzs : z0.cells.size = 8)
    (hown : w.ownsRow 0 119 8 u n xs) (hi : i ≤ n) (hvb : ∀ g, u.ownBlock = some g → vb ≠ g) (h32 : n ≤ 4294967296) (hbig : (n + 1) * i0.bytes ≤ 140737488355328) (hnl : news.length = 8) (hvs : ∀ j v, news[j]? = some v → w.cell? ⟨vb, vo + j, none⟩ = some v)
    (h1c : ∀ v ∈ xs, v.oneCell' = true) (h1v : ∀ v ∈ news, v.oneCell' = true) :
    Calls Tryd.prog 142 #[u, .int .i64 i, .slice (some ⟨vb, vo, none⟩) 1 vc] w fun e w' => ∃ v', e = .returned v' ∧ InsPost w u n (xs.take (i * 8) ++ news ++ xs.drop (i * 8)) v' w' := by
  have hxl := hown.1
  by_cases hin : i = n
  · subst hin
    have e1 : xs.take (i * 8) = xs := List.take_of_length_le (by omega)
    have e2 : xs.drop (i * 8) = [] := List.drop_eq_nil_of_le (by omega)
    rw [e1, e2, List.append_nil]
    exact ins_end w u i vb vo vc xs news i0 z0 hi0 hz0 hsz hzs hown (by unfold maxLen; omega) hbig hnl hvs h1v
  · rcases hown.2 with ⟨_, h⟩ | ⟨g, cap, cur, rfl, _, hg, hnc, hcm, hcs, hx⟩
    · omega
    · have hne := hvb g rfl
      have hlen := ins_list xs news hi hxl hnl
      have hcl : cur.toList.length = cap * 8 := by simpa using hcs
      by_cases hroom : n + 1 ≤ cap
      · refine (ins_shift w g n cap i vb vo vc cur news (by omega) hroom hcm hne hg hcs hnl hvs (by rw [hx]; exact h1c) h1v).mono fun e w' ⟨he, hw⟩ => ⟨_, he, ?_⟩
        subst hw
        have hh1 : (w.drew.setRow g (row1 cur.toList n i).toArray).heap[g]? = some (.cells (row1 cur.toList n i).toArray 119 (0, 0)) := setRow_heap w.drew _ _ _ _ _ hg
        have hh2 := setRow_heap _ g _ (row2 (row1 cur.toList n i) i news).toArray _ _ hh1
        have hml : (xs.drop (i * 8)).length = (n - i) * 8 := by rw [List.length_drop, hxl]; omega
        have hr1 : row1 cur.toList n i = cur.toList.take ((i + 1) * 8) ++ xs.drop (i * 8) ++ cur.toList.drop ((i + 1) * 8 + (n - i) * 8) := by unfold row1; rw [hx, hml]
        have hr1l : (row1 cur.toList n i).length = cap * 8 := by
          rw [hr1]; simp only [List.length_append, List.length_take, List.length_drop, hcl] at hml ⊢; omega
        have hr2l : (row2 (row1 cur.toList n i) i news).length = cap * 8 := by
          unfold row2; simp only [List.length_append, List.length_take, List.length_drop, hr1l, hnl]; omega
        have ht : (row2 (row1 cur.toList n i) i news).take ((n + 1) * 8) = xs.take (i * 8) ++ news ++ xs.drop (i * 8) := by
          have h1 : (row1 cur.toList n i).take (i * 8) = xs.take (i * 8) := by
            rw [hr1, ← hx, List.append_assoc, List.take_append_of_le_length (by rw [List.length_take, hcl]; omega), List.take_take, List.take_take, Nat.min_eq_left (show i * 8 ≤ (i + 1) * 8 by omega), Nat.min_eq_left (show i * 8 ≤ n * 8 by omega)]
          have h2 : (row1 cur.toList n i).drop (i * 8 + news.length) = xs.drop (i * 8) ++ cur.toList.drop ((i + 1) * 8 + (n - i) * 8) := by
            rw [hr1, List.append_assoc]
            have hk : (cur.toList.take ((i + 1) * 8)).length = i * 8 + news.length := by rw [List.length_take, hcl, hnl]; omega
            exact List.drop_left' hk
          unfold row2
          rw [h1, h2, ← List.append_assoc]
          exact List.take_left' hlen
        refine ⟨⟨rfl, rfl, rfl⟩, ⟨hlen, .inr ⟨g, cap, _, rfl, Nat.zero_le _, hh2, hroom, hcm, by simpa using hr2l, by simpa using ht⟩⟩, g, cap, rfl, ?_, fun k _ hk => ?_, .inr ⟨cap, cur, _, rfl, hg, hh2, by simp only [List.size_toArray, hr2l, hcs]⟩⟩
        · have hs : ∀ (w : World) g cs, (w.setRow g cs).heap.size = w.heap.size := fun w g cs => by simp [World.setRow]
          rw [hs, hs]; exact Nat.le_refl _
        · rw [setRow_other _ _ _ _ hk, setRow_other _ _ _ _ hk]; rfl
      · refine (ins_grow w g n cap i vb vo vc cur news i0 z0 hi0 hz0 hsz hzs (by omega) (by omega) hnc hbig h32 hg hcs hnl hvs (by rw [hx]; exact h1c) h1v).mono fun e w' ⟨cap', R, he, g1, g2, g3, g4, g5, g6⟩ => ⟨_, he, ?_⟩
        refine ⟨⟨g3.os, g3.tape, g3.output⟩, ⟨hlen, .inr ⟨_, cap', R, rfl, Nat.zero_le _, g4, g1, g2, g5, ?_⟩⟩, _, cap', rfl, g3.size, fun k hk _ => g3.block k hk, .inl (Nat.le_refl _)⟩
        rw [g6, hx, ← hx, List.take_take, Nat.min_eq_left (by omega)]
-- ---------------------------------------------------------------- the contract
def tA : Ty := .st (.pair (.int .i64) (.pair (.int .i64) (.pair (.int .i64) (.pair .str (.pair (.int .i64) (.int .i64))))))
def tS : Ty := .st (.pair (.int .i64) (.pair (.int .i64) tA))
abbrev SesD := Int × Int × Int × Int × Int × List UInt8 × Int × Int
def insSig : Sig := ⟨[.own (.sl 119 tS), .ro (.int .i64), .ro (.sl 119 tS)], [(.sl 119 tS, true)], false⟩
def insF (x : List SesD × Int × List SesD) : Option (List SesD) := bif decide (0 ≤ x.2.1) && decide (x.2.1 ≤ (x.1.length : Int)) && decide (x.2.2.length = 1) && decide (x.1.length + 1 ≤ 4294967296) then some (x.1.take x.2.1.toNat ++ x.2.2 ++ x.1.drop x.2.1.toNat) else none
theorem rf_flatw {w w' : World} {A A' : Nat → Prop} : ∀ {t : Ty} {v : t.den} {cs : List Value}, t.flat = true → Rf w A t v cs → Rf w' A' t v cs := by
  intro t
  induction t with
  | int k => intro v cs _ h; exact h
  | bool => intro v cs _ h; exact h
  | str => intro v cs _ h; exact h
  | unit => intro v cs _ h; exact h
  | pair a b iha ihb =>
    intro v cs hf h
    simp only [Ty.flat, Bool.and_eq_true] at hf
    obtain ⟨c1, c2, e, h1, h2⟩ := h
    exact ⟨c1, c2, e, iha hf.1 h1, ihb hf.2 h2⟩
  | st t ih => intro v cs hf h; exact ih hf h
  | arr n t _ => intro v cs hf _; simp [Ty.flat] at hf
  | sl e t _ => intro v cs hf _; simp [Ty.flat] at hf
theorem ins_seg {xs news : List Value} {n m i : Nat} (hl : xs.length = n * m) (hi : i ≤ n) (hn : news.length = m) (j : Nat) :
    seg (xs.take (i * m) ++ news ++ xs.drop (i * m)) m j = if j < i then seg xs m j else if j = i then news else seg xs m (j - 1) := by
  have hle : i * m ≤ n * m := Nat.mul_le_mul_right _ hi
  have htl : (xs.take (i * m)).length = i * m := by rw [List.length_take, hl]; omega
  have hx : xs = xs.take (i * m) ++ xs.drop (i * m) := (List.take_append_drop _ _).symm
  rw [List.append_assoc]
  by_cases h1 : j < i
  · rw [if_pos h1, seg_append1 htl h1]
    conv => rhs; rw [hx]
    rw [seg_append1 htl h1]
  · rw [if_neg h1]
    obtain ⟨k, rfl⟩ : ∃ k, j = i + k := ⟨j - i, by omega⟩
    rw [seg_append2 htl]
    cases k with
    | zero =>
      rw [if_pos (Nat.add_zero i), seg_append1 (m := 1) (by omega) (by omega)]
      simp only [V.seg, Nat.zero_mul, List.drop_zero]
      exact List.take_of_length_le (by omega)
    | succ k =>
      rw [if_neg (by omega), Nat.add_comm k 1, seg_append2 (m := 1) (by omega)]
      conv => rhs; rw [hx]
      rw [show i + (1 + k) - 1 = i + k by omega, seg_append2 htl]
theorem tS_ty : tyB Tryd.prog 12 119 tS = true := by kernel_rfl
theorem args_cons {w : World} {A pin : Nat → Prop} {a : AK} {r : List AK} {x : Tup (tysOf (a :: r))} {us : List Value} {fs : List Foot} (h : ArgsOk w A pin (a :: r) x us fs) :
    ∃ u us' f fs', us = u :: us' ∧ fs = f :: fs' ∧ ArgOk w A pin a (Tup.hd x) u f ∧ ArgsOk w A pin r (Tup.tl x) us' fs' := by
  cases us with
  | nil => exact h.elim
  | cons u us =>
    cases fs with
    | nil => exact h.elim
    | cons f fs => exact ⟨u, us, f, fs, rfl, rfl, h.1, h.2⟩
theorem args_nil {w : World} {A pin : Nat → Prop} {x : Tup (tysOf [])} {us : List Value} {fs : List Foot} (h : ArgsOk w A pin [] x us fs) : us = [] ∧ fs = [] := by
  cases us with
  | nil =>
    cases fs with
    | nil => exact ⟨rfl, rfl⟩
    | cons f fs => exact h.elim
  | cons u us => exact h.elim
theorem ins_meets1 (s : List SesD) (i : Int) (v y : List SesD) (hxy' : insF (s, i, v) = some y) (w : World) (A pin : Nat → Prop) (us : List Value) (fs : List Foot) (hpre : Pre insSig.args (show insSig.In from (s, i, v)) w A pin us fs) :
    Calls Tryd.prog 142 us.toArray w fun e w' => match e with
      | .returned r => PostS insSig w A us fs (show insSig.Out from y) r w'
      | _ => False := by
  unfold insF at hxy'
  simp only at hxy'
  cases hc : (decide (0 ≤ i) && decide (i ≤ (List.length s : Int)) && decide (List.length v = 1) && decide (List.length s + 1 ≤ 4294967296)) with
  | false => rw [hc] at hxy'; cases hxy'
  | true =>
    rw [hc, cond_true] at hxy'
    simp only [Bool.and_eq_true, decide_eq_true_eq] at hc
    obtain ⟨⟨⟨c1, c2⟩, c3⟩, c4⟩ := hc
    have hy : List.take i.toNat s ++ v ++ List.drop i.toNat s = y := Option.some.inj hxy'
    obtain ⟨m, rfl⟩ : ∃ m : Nat, i = (m : Int) := ⟨i.toNat, by omega⟩
    simp only [Int.toNat_natCast] at hy
    have hms : m ≤ List.length s := by omega
    obtain ⟨hargs, hnd, hap, hA, hpin, hgl⟩ := hpre
    obtain ⟨u0, us, f0, fs, rfl, rfl, ha0, hargs⟩ := args_cons hargs
    obtain ⟨u1, us, f1, fs, rfl, rfl, ha1, hargs⟩ := args_cons hargs
    obtain ⟨u2, us, f2, fs, rfl, rfl, ha2, hargs⟩ := args_cons hargs
    obtain ⟨rfl, rfl⟩ := args_nil hargs
    · obtain ⟨⟨cs0, ho, hu0⟩, hl0, hp0⟩ := ha0
      obtain ⟨⟨cs1, hr1, hu1⟩, hf1⟩ := ha1
      obtain ⟨⟨cs2, hr2, hu2⟩, hf2⟩ := ha2
      obtain ⟨cap, css, rfl, hown, hel⟩ := ho
      have hr1' : cs1 = [.int .i64 (m : Int)] := hr1
      obtain ⟨ad, cap2, css2, rfl, hl2, hel2, hat, hc2⟩ := hr2
      subst hr1'
      have e0 : u0 = .slice ((f0.rows.headD none).map fun b => ⟨b, 0, none⟩) (List.length s) cap := hu0
      have e1 : u1 = .int .i64 (m : Int) := hu1
      have e2 : u2 = .slice ad (List.length v) cap2 := hu2
      have e8 : tS.size = 8 := rfl
      rw [e8] at hown hl2
      have hl28 : css2.length = 8 := by
        have : css2.length = List.length v * 8 := hl2
        rw [this, c3]
      obtain ⟨vb, vo, rfl, hAv, hAt⟩ := hat (fun h => by rw [h] at hl28; cases hl28)
      obtain ⟨i0, z0, g1, g2, g3, g4, g5⟩ := tyB_info tS_ty
      have hzs : z0.cells.size = 8 := by
        have : z0.cells.toList.length = 8 := by rw [g5]; rfl
        simpa using this
      have c3' : (List.length v) = 1 := c3
      rw [c3'] at e2
      subst e0 e1 e2
      have hcall := ins_any w _ (List.length s) m vb vo cap2 css css2 i0 z0 g1 g4 (by rw [g2]; rfl) hzs hown hms (fun g hg => by
        intro e
        subst e
        have hmem : f0.rows.headD none = some vb := by
          cases hb : f0.rows.headD none with
          | none => rw [hb] at hg; cases hg
          | some b => rw [hb] at hg; simp only [Option.map_some, Value.ownBlock, Option.some.injEq] at hg; rw [hg]
        have hin : vb ∈ blocksOf [f0, f1, f2] := by
          refine List.mem_flatMap.2 ⟨f0, by simp, ?_⟩
          unfold Foot.blocks
          refine List.mem_append_left _ (List.mem_filterMap.2 ⟨some vb, ?_, rfl⟩)
          cases hr : f0.rows with
          | nil => rw [hr] at hmem; cases hmem
          | cons b r => rw [hr] at hmem; simp only [List.headD_cons] at hmem; rw [hmem]; simp
        exact (hap vb hin).2.1 hAv) (by omega) (Nat.le_trans (Nat.mul_le_mul (show List.length s + 1 ≤ 4294967296 by omega) g3) (by omega)) hl28
        hAt
        (rows_one (t := tS) (by decide) (by rw [e8]; exact hown.1) hel) (rows_one (t := tS) (by decide) (by rw [e8]; exact hl2) hel2)
      refine hcall.mono ?_
      rintro e w' ⟨v', rfl, hp⟩
      show PostS _ _ _ _ _ _ _ _
      refine ⟨fun _ => ⟨[v'], rfl, ?_⟩, fun h => by cases h⟩
      obtain ⟨⟨o1, o2, o3⟩, hown', g', cap', rfl, hsz', hoth, hwh⟩ := hp
      have hg' : g' < w'.heap.size := by
        rcases hown'.2 with ⟨h, _⟩ | ⟨q, c', cur', h, _, hq, _⟩
        · cases h
        · simp only [Value.slice.injEq, Option.some.injEq, Addr.mk.injEq] at h
          rw [h.1.1]; exact (Array.getElem?_eq_some_iff.1 hq).1
      have hrow : g' < w.heap.size → some g' ∈ f0.rows := fun hlt => by
        rcases hwh with h | ⟨c', cur', arr', h1, _⟩
        · omega
        · cases hb : f0.rows with
          | nil => rw [hb] at h1; cases h1
          | cons b r =>
            rw [hb] at h1
            simp only [List.headD_cons, Value.slice.injEq] at h1
            cases b with
            | none => cases h1.1
            | some b => simp only [Option.map_some, Option.some.injEq, Addr.mk.injEq, and_true] at h1; rw [h1.1]; simp
      refine ⟨⟨o1, o2, o3, hsz', fun k hk => ?_⟩, [[], [], []], [[some g']], by simp [flatB], fun b hb => ?_, ?_, ⟨rfl, rfl, rfl, trivial⟩⟩
      · by_cases hkg : k = g'
        · subst hkg
          rcases hwh with h | ⟨c', cur', arr', _, h2, h3, h4⟩
          · omega
          · exact .inr ⟨cur', arr', 119, h2, h3, h4, fun o ho => absurd (.inl (hrow hk)) ho⟩
        · exact .inl (hoth k hk hkg)
      · have hb' : b = g' := by simpa [flatB] using hb
        subst hb'
        refine ⟨?_, hg'⟩
        by_cases hlt : b < w.heap.size
        · exact .inl (List.mem_flatMap.2 ⟨f0, by simp, List.mem_filterMap.2 ⟨some b, hrow hlt, rfl⟩⟩)
        · exact .inr (by omega)
      · have hyl : List.length y = List.length s + 1 := by
          rw [← hy]
          simp only [List.length_append, List.length_take, List.length_drop, c3']
          omega
        refine ⟨⟨[.slice (some ⟨g', 0, none⟩) (List.length s + 1) cap'], rfl, ?_⟩, trivial⟩
        rw [if_pos rfl]
        refine ⟨⟨cap', css.take (m * 8) ++ css2 ++ css.drop (m * 8), by show _ = [Value.slice _ (List.length y) _]; rw [hyl]; rfl, ?_, fun j x hj => ?_⟩, rfl⟩
        · show w'.ownsRow 0 119 8 (.slice (some ⟨g', 0, none⟩) (List.length y) cap') (List.length y) _
          rw [hyl]; exact hown'
        · have hj' : y[j]? = some x := hj
          rw [← hy] at hj'
          show Rf _ _ tS x (seg _ 8 j)
          rw [ins_seg (n := List.length s) hown.1 hms hl28]
          have hv : ∃ v0, v = [v0] := by
            match v, c3' with
            | [v0], _ => exact ⟨v0, rfl⟩
          obtain ⟨v0, rfl⟩ := hv
          rw [List.append_assoc] at hj'
          by_cases h1 : j < m
          · rw [if_pos h1]
            rw [List.getElem?_append_left (by simp; omega), List.getElem?_take, if_pos h1] at hj'
            exact rf_flatw rfl (hel j x hj')
          · rw [if_neg h1]
            rw [List.getElem?_append_right (by simp; omega)] at hj'
            simp only [List.length_take, Nat.min_eq_left hms] at hj'
            by_cases h2 : j = m
            · rw [if_pos h2]
              subst h2
              rw [Nat.sub_self] at hj'
              have hx0 : v0 = x := Option.some.inj hj'
              subst hx0
              have := hel2 0 v0 rfl
              simp only [V.seg, Nat.zero_mul, List.drop_zero] at this
              rw [List.take_of_length_le (by rw [hl28]; decide)] at this
              exact rf_flatw rfl this
            · rw [if_neg h2]
              obtain ⟨k, hk⟩ : ∃ k, j - m = k + 1 := ⟨j - m - 1, by omega⟩
              rw [hk] at hj'
              simp only [List.singleton_append, List.getElem?_cons_succ, List.getElem?_drop] at hj'
              refine rf_flatw rfl (hel (j - 1) x ?_)
              have hjk : j - 1 = m + k := by omega
              rw [hjk]; exact hj'
theorem ins_meets : Meets Tryd.prog 142 ⟨insSig, insF⟩ := fun x y h w A pin us fs hp => ins_meets1 x.1 x.2.1 x.2.2 y h w A pin us fs hp
theorem ins_ok : FnOk Tryd.prog 142 ⟨insSig, insF⟩ := ⟨ins_meets, _, Tryd.func142, by kernel_rfl, by kernel_rfl⟩
end Go.Proofs.YtacbkfginiknaaaDoor.V
