/- Tokens given away, blocks adopted, another's effect. -/
import Derived.Test.YtopeacfbcdoljaaVs
namespace Go.Proofs.Ytopeacfbcdoljaa.V
open Go
section
variable {P : Program} {X : Ctx} {E : Env} {σ : St} {A0 : Array Value} {a : Act} {w : World} {o : Oper} {R : Type}
def Env.give (E : Env) (g : Option Nat) : Env := { E with out := g.toList ++ E.out }
def Env.outs (E : Env) (l : List Nat) : Env := { E with out := l }
theorem owned_give {τ : Nat} (ht : τ ∈ σ.al) : (owned (E.give (E.hd τ)) { σ with al := σ.al.erase τ }).Perm (owned E σ) := by
  have hp : σ.al.Perm (τ :: σ.al.erase τ) := List.perm_cons_erase ht
  have h1 : (σ.al.flatMap (tokB E) ++ E.out).Perm ((tokB E τ ++ (σ.al.erase τ).flatMap (tokB E)) ++ E.out) := List.Perm.append_right _ (by simpa using List.Perm.flatMap_right (tokB E) hp)
  have h2 : ((σ.al.erase τ).flatMap (tokB E) ++ (tokB E τ ++ E.out)).Perm ((tokB E τ ++ (σ.al.erase τ).flatMap (tokB E)) ++ E.out) := by
    rw [← List.append_assoc]
    exact List.Perm.append_right _ List.perm_append_comm
  exact List.Perm.append_left _ (h2.trans h1.symm)
/-- A token is given away. -/
theorem RelE.give (hr : RelE X E σ A0 w) {τ : Nat} (ht : τ ∈ σ.al) :
    RelE X (E.give (E.hd τ)) { σ with al := σ.al.erase τ } A0 w ∧ Keep w w (Fz X E σ w) (Fz X (E.give (E.hd τ)) { σ with al := σ.al.erase τ } w) E (E.give (E.hd τ)) σ { σ with al := σ.al.erase τ } := by
  have hp := owned_give (E := E) ht
  have K : Keep w w (Fz X E σ w) (Fz X (E.give (E.hd τ)) { σ with al := σ.al.erase τ } w) E (E.give (E.hd τ)) σ { σ with al := σ.al.erase τ } :=
    ⟨fun b hb => ⟨⟨hb.1, hb.2.1, fun h => hb.2.2 (hp.mem_iff.1 h)⟩, rfl⟩, Nat.le_refl _, fun _ _ => rfl, fun _ _ => rfl, fun υ _ hυ => .inl hυ,
      fun υ _ hυ => ⟨List.mem_of_mem_erase hυ, fun _ _ => rfl⟩, hr.ge, fun _ h => ⟨h, rfl⟩⟩
  exact ⟨{ hr with
    slot := fun i s u hs hu => K.slot (hr.slot i s u hs hu)
    bx := fun b hb => K.bx (hr.bx b hb) (hr.idlt b hb) rfl
    nodup := hp.nodup_iff.2 hr.nodup
    lt := fun b hb => hr.lt b (hp.mem_iff.1 hb)
    aln := hr.aln.erase τ
    alr := fun υ hυ => hr.alr υ (List.mem_of_mem_erase hυ)
    srct := fun υ hυ => hr.srct υ (List.mem_of_mem_erase hυ)
    srco := fun b hb => by
      have hb : b ∈ (E.hd τ).toList ++ E.out := hb
      rcases List.mem_append.1 hb with h | h
      · exact hr.srct τ ht b (by simpa using h)
      · exact hr.srco b h
    pinlt := fun b hb => ⟨(hr.pinlt b hb).1, fun h => (hr.pinlt b hb).2 (hp.mem_iff.1 h)⟩ }, K⟩
/-- Another's effect: what was given away may have turned, and new blocks are there, of which some are given to us. -/
theorem RelE.world (hr : RelE X E σ A0 w) {w1 : World} {l : List Nat} (hw : ∀ b, b < w.heap.size → b ∉ E.out → w1.heap[b]? = w.heap[b]?) (hfr : Fr X.M X.w0 w1) (hsz : w.heap.size ≤ w1.heap.size)
    (hl : l.Nodup) (hlm : ∀ b ∈ l, (b ∈ E.out ∨ w.heap.size ≤ b) ∧ b < w1.heap.size) :
    RelE X (E.outs l) σ A0 w1 ∧ Keep w w1 (Fz X E σ w) (Fz X (E.outs l) σ w1) E (E.outs l) σ σ := by
  have hbx : ∀ b ∈ σ.bx, (E.ad b.id).1 ∉ E.out := fun b hb h => by
    have hn := hr.nodup
    simp only [owned] at hn
    exact (List.nodup_append.1 hn).2.2 _ (List.mem_map.2 ⟨b, hb, rfl⟩) _ (List.mem_append_right _ h) rfl
  have hal : ∀ τ ∈ σ.al, ∀ b, E.hd τ = some b → b ∉ E.out := fun τ hτ b hb h => by
    have hn := hr.nodup
    simp only [owned] at hn
    exact (List.nodup_append.1 (List.nodup_append.1 hn).2.1).2.2 b (List.mem_flatMap.2 ⟨τ, hτ, by simp [tokB, hb]⟩) b h rfl
  have hout : ∀ b ∈ E.out, b ∈ owned E σ := fun b hb => List.mem_append_right _ (List.mem_append_right _ hb)
  have hown : ∀ b, b ∈ owned (E.outs l) σ → b ∈ l ∨ (b ∈ owned E σ ∧ b ∉ E.out) := by
    intro b hb
    rcases List.mem_append.1 hb with h | h
    · obtain ⟨q, hq, rfl⟩ := List.mem_map.1 h
      exact .inr ⟨mem_owned_bx hq, hbx q hq⟩
    · rcases List.mem_append.1 h with h | h
      · obtain ⟨τ, hτ, hb⟩ := List.mem_flatMap.1 h
        have hb' : E.hd τ = some b := by
          have : b ∈ (E.hd τ).toList := hb
          simpa using this
        exact .inr ⟨mem_owned_al hτ hb', hal τ hτ b hb'⟩
      · exact .inl h
  have K : Keep w w1 (Fz X E σ w) (Fz X (E.outs l) σ w1) E (E.outs l) σ σ :=
    ⟨fun b hb => ⟨⟨hb.1, Nat.lt_of_lt_of_le hb.2.1 hsz, fun h => by
        rcases hown b h with h | h
        · rcases (hlm b h).1 with h | h
          · exact hb.2.2 (hout b h)
          · have := hb.2.1; omega
        · exact hb.2.2 h.1⟩, hw b hb.2.1 (fun h => hb.2.2 (hout b h))⟩, Nat.le_refl _, fun _ _ => rfl, fun _ _ => rfl, fun υ _ hυ => .inl hυ,
      fun υ _ hυ => ⟨hυ, fun b hb => hw b (hr.lt b (mem_owned_al hυ hb)).1 (hal υ hυ b hb)⟩, hr.ge, fun b hb => ⟨hb, hw b (hr.pinlt b hb).1 (fun h => (hr.pinlt b hb).2 (hout b h))⟩⟩
  refine ⟨{ hr with
    slot := fun i s u hs hu => K.slot (hr.slot i s u hs hu)
    bx := fun b hb => K.bx (hr.bx b hb) (hr.idlt b hb) (hw _ (hr.lt _ (mem_owned_bx hb)).1 (hbx b hb))
    nodup := ?_
    lt := fun b hb => ?_
    fr := hfr
    srco := fun b hb => by
      rcases (hlm b hb).1 with h | h
      · exact hr.srco b h
      · exact .inr (Nat.le_trans hr.fr.size h)
    pinlt := fun b hb => ⟨Nat.lt_of_lt_of_le (hr.pinlt b hb).1 hsz, fun h => ?_⟩ }, K⟩
  · have hn := hr.nodup
    simp only [owned] at hn ⊢
    rw [List.nodup_append] at hn ⊢
    refine ⟨hn.1, ?_, fun x hx y hy => ?_⟩
    · have h2 := hn.2.1
      rw [List.nodup_append] at h2 ⊢
      refine ⟨h2.1, hl, fun x hx y hy he => ?_⟩
      subst he
      rcases (hlm x hy).1 with h | h
      · exact h2.2.2 x hx x h rfl
      · obtain ⟨τ, hτ, hb⟩ := List.mem_flatMap.1 hx
        have hb' : E.hd τ = some x := by
          have : x ∈ (E.hd τ).toList := hb
          simpa using this
        have := (hr.lt x (mem_owned_al hτ hb')).1
        omega
    · intro he
      subst he
      rcases List.mem_append.1 hy with h | h
      · exact hn.2.2 x hx x (List.mem_append_left _ h) rfl
      · have h : x ∈ l := h
        rcases (hlm x h).1 with h | h
        · exact hn.2.2 x hx x (List.mem_append_right _ h) rfl
        · obtain ⟨q, hq, rfl⟩ := List.mem_map.1 hx
          have h1 := (hr.lt _ (mem_owned_bx hq)).1
          have h2 : w.heap.size ≤ (E.ad q.id).1 := h
          omega
  · rcases hown b hb with h | h
    · refine ⟨(hlm b h).2, ?_⟩
      rcases (hlm b h).1 with h | h
      · exact (hr.lt b (hout b h)).2
      · exact hr.new b (Nat.le_trans hr.fr.size h)
    · exact ⟨Nat.lt_of_lt_of_le (hr.lt b h.1).1 hsz, (hr.lt b h.1).2⟩
  · rcases hown b h with h | h
    · rcases (hlm b h).1 with h | h
      · exact (hr.pinlt b hb).2 (hout b h)
      · have := (hr.pinlt b hb).1; omega
    · exact (hr.pinlt b hb).2 h.1
/-- A block that was given to us, under a new token. -/
theorem RelE.adopt (hr : RelE X E σ A0 w) {g : Option Nat} {l : List Nat} (ho : E.out = g.toList ++ l) :
    RelE X ((E.outs l).tok σ.nt g) { σ with al := σ.nt :: σ.al, nt := σ.nt + 1 } A0 w ∧
      Keep w w (Fz X E σ w) (Fz X ((E.outs l).tok σ.nt g) { σ with al := σ.nt :: σ.al, nt := σ.nt + 1 } w) E ((E.outs l).tok σ.nt g) σ { σ with al := σ.nt :: σ.al, nt := σ.nt + 1 } := by
  let E1 : Env := (E.outs l).tok σ.nt g
  have hhd : ∀ υ, υ < σ.nt → E1.hd υ = E.hd υ := fun υ h => if_neg (Nat.ne_of_lt h)
  have hhn : E1.hd σ.nt = g := if_pos rfl
  have hrest : σ.al.flatMap (tokB E1) = σ.al.flatMap (tokB E) := by
    simp only [List.flatMap]
    rw [List.map_congr_left (fun υ hυ => by show (E1.hd υ).toList = (E.hd υ).toList; rw [hhd υ (hr.alr υ hυ).2.1])]
    rfl
  have hp : (owned E1 { σ with al := σ.nt :: σ.al, nt := σ.nt + 1 }).Perm (owned E σ) := by
    show (σ.bx.map (fun b => (E.ad b.id).1) ++ ((σ.nt :: σ.al).flatMap (tokB E1) ++ l)).Perm (σ.bx.map (fun b => (E.ad b.id).1) ++ (σ.al.flatMap (tokB E) ++ E.out))
    rw [List.flatMap_cons, hrest, ho]
    show (_ ++ ((E1.hd σ.nt).toList ++ _ ++ l)).Perm _
    rw [hhn]
    refine List.Perm.append_left _ ?_
    rw [← List.append_assoc]
    exact List.Perm.append_right _ List.perm_append_comm
  have K : Keep w w (Fz X E σ w) (Fz X E1 { σ with al := σ.nt :: σ.al, nt := σ.nt + 1 } w) E E1 σ { σ with al := σ.nt :: σ.al, nt := σ.nt + 1 } :=
    ⟨fun b hb => ⟨⟨hb.1, hb.2.1, fun h => hb.2.2 (hp.mem_iff.1 h)⟩, rfl⟩, Nat.le_succ _, hhd, fun _ _ => rfl, fun υ _ hυ => .inl hυ,
      fun υ hlt hυ => by
        rcases List.mem_cons.1 hυ with h | h
        · omega
        · exact ⟨h, fun _ _ => rfl⟩, hr.ge, fun _ h => ⟨h, rfl⟩⟩
  exact ⟨{ hr with
    slot := fun i s u hs hu => K.slot (hr.slot i s u hs hu)
    bx := fun b hb => K.bx (hr.bx b hb) (hr.idlt b hb) rfl
    nodup := hp.nodup_iff.2 hr.nodup
    lt := fun b hb => hr.lt b (hp.mem_iff.1 hb)
    idlt := fun b hb => Nat.lt_succ_of_lt (hr.idlt b hb)
    aln := List.nodup_cons.2 ⟨fun h => by have := (hr.alr _ h).2.1; omega, hr.aln⟩
    alr := fun υ hυ => by
      rcases List.mem_cons.1 hυ with rfl | h
      · exact ⟨hr.nt2, Nat.lt_succ_self _, fun h => by have := (hr.fzr _ h).2; omega⟩
      · exact ⟨(hr.alr υ h).1, Nat.lt_succ_of_lt (hr.alr υ h).2.1, (hr.alr υ h).2.2⟩
    fzr := fun υ hυ => ⟨(hr.fzr υ hυ).1, Nat.lt_succ_of_lt (hr.fzr υ hυ).2⟩
    nt2 := Nat.le_succ_of_le hr.nt2
    hd0 := fun υ hυ => by rw [show E1.hd υ = E.hd υ from hhd υ (by have := hr.nt2; omega)]; exact hr.hd0 υ hυ
    srct := fun υ hυ b hb => by
      rcases List.mem_cons.1 hυ with rfl | h
      · have hg : g = some b := by rw [← hhn]; exact hb
        exact hr.srco b (by rw [ho, hg]; simp)
      · exact hr.srct υ h b (by rw [← hhd υ (hr.alr υ h).2.1]; exact hb)
    srco := fun b hb => hr.srco b (by rw [ho]; exact List.mem_append_right _ hb)
    lnr := fun p hp => by
      show E1.hd p.1 = E1.hd p.2
      rw [hhd _ (hr.lnlt p hp).1, hhd _ (hr.lnlt p hp).2]
      exact hr.lnr p hp
    lnlt := fun p hp => ⟨Nat.lt_succ_of_lt (hr.lnlt p hp).1, Nat.lt_succ_of_lt (hr.lnlt p hp).2⟩
    pinlt := fun b hb => ⟨(hr.pinlt b hb).1, fun h => (hr.pinlt b hb).2 (hp.mem_iff.1 h)⟩
    adx := fun e he => ⟨Nat.lt_succ_of_lt (hr.adx e he).1, (hr.adx e he).2⟩
    hdx := fun e he => ⟨Nat.lt_succ_of_lt (hr.hdx e he).1, (hhd _ (hr.hdx e he).1).trans (hr.hdx e he).2⟩ }, K⟩
theorem RelE.keep (hr : RelE X E σ A0 w) : Keep w w (Fz X E σ w) (Fz X E σ w) E E σ σ :=
  ⟨fun _ h => ⟨h, rfl⟩, Nat.le_refl _, fun _ _ => rfl, fun _ _ => rfl, fun _ _ h => .inl h, fun _ _ h => ⟨h, fun _ _ => rfl⟩, hr.ge, fun _ h => ⟨h, rfl⟩⟩
/-- Several tokens are given away. -/
theorem take_ok : ∀ (l : List Nat) {E : Env} {σ : St} {k : St → Option R} {r : R}, RelE X E σ A0 w → takeK σ l k = some r →
    ∃ σ' E', k σ' = some r ∧ RelE X E' σ' A0 w ∧ Keep w w (Fz X E σ w) (Fz X E' σ' w) E E' σ σ' ∧ (∀ τ ∈ l, τ = 1 ∨ τ ∈ σ.al) ∧ E'.out.Perm ((l.map E.hd).filterMap id ++ E.out) ∧
      E'.hd = E.hd ∧ E'.ad = E.ad ∧ E'.pin = E.pin ∧ σ'.fr = σ.fr ∧ σ'.bx = σ.bx ∧ σ'.nt = σ.nt ∧ σ'.ln = σ.ln ∧ σ'.fz = σ.fz ∧ (∀ τ, τ ∈ σ'.al → τ ∈ σ.al ∧ τ ∉ l) := by
  intro l
  induction l with
  | nil => intro E σ k r hr h; exact ⟨σ, E, h, hr, hr.keep, (fun _ h => nomatch h), by simp, rfl, rfl, rfl, rfl, rfl, rfl, rfl, rfl, fun _ h => ⟨h, by simp⟩⟩
  | cons τ l ih =>
    intro E σ k r hr h
    simp only [takeK] at h
    cases h1 : τ == 1 with
    | true =>
      rw [h1] at h
      simp only [cond_true] at h
      have e1 : τ = 1 := by simpa using h1
      obtain ⟨σ', E', q1, q2, q3, q4, q5, q6⟩ := ih hr h
      refine ⟨σ', E', q1, q2, q3, fun υ hυ => ?_, ?_, q6.1, q6.2.1, q6.2.2.1, q6.2.2.2.1, q6.2.2.2.2.1, q6.2.2.2.2.2.1, q6.2.2.2.2.2.2.1, q6.2.2.2.2.2.2.2.1, fun υ hυ => ?_⟩
      · rcases List.mem_cons.1 hυ with h | h
        · exact .inl (h.trans e1)
        · exact q4 υ h
      · have : E.hd τ = none := by rw [e1]; exact hr.hd0 1 (by omega)
        simpa [this] using q5
      · obtain ⟨k1, k2⟩ := q6.2.2.2.2.2.2.2.2 υ hυ
        exact ⟨k1, fun h => by
          rcases List.mem_cons.1 h with h | h
          · have := (hr.alr υ k1).1; omega
          · exact k2 h⟩
    | false =>
      rw [h1] at h
      simp only [cond_false] at h
      cases h2 : σ.al.contains τ with
      | false => rw [h2] at h; simp only [cond_false] at h; cases h
      | true =>
        rw [h2] at h
        simp only [cond_true] at h
        have hal : τ ∈ σ.al := by simpa using h2
        obtain ⟨hr1, K1⟩ := hr.give hal
        obtain ⟨σ', E', q1, q2, q3, q4, q5, q6⟩ := ih hr1 h
        refine ⟨σ', E', q1, q2, K1.trans q3, fun υ hυ => ?_, ?_, q6.1, q6.2.1, q6.2.2.1, q6.2.2.2.1, q6.2.2.2.2.1, q6.2.2.2.2.2.1, q6.2.2.2.2.2.2.1, q6.2.2.2.2.2.2.2.1, fun υ hυ => ?_⟩
        · rcases List.mem_cons.1 hυ with h | h
          · exact .inr (h ▸ hal)
          · exact (q4 υ h).imp id List.mem_of_mem_erase
        · have q7 : E'.out.Perm ((l.map E.hd).filterMap id ++ ((E.hd τ).toList ++ E.out)) := q5
          refine q7.trans ?_
          cases hh : E.hd τ with
          | none => simp [hh]
          | some b =>
            simp only [List.map_cons, hh, List.filterMap_cons, id, Option.toList_some, List.cons_append, List.nil_append]
            exact List.perm_middle
        · obtain ⟨k1, k2⟩ := q6.2.2.2.2.2.2.2.2 υ hυ
          have k3 := hr.aln.mem_erase_iff.1 k1
          exact ⟨k3.2, fun h => by
            rcases List.mem_cons.1 h with h | h
            · exact k3.1 h
            · exact k2 h⟩
/-- Several blocks are adopted. -/
theorem adopt_ok : ∀ (bs : List (Option Nat)) {E : Env} {σ : St} {l : List Nat}, RelE X E σ A0 w → E.out = bs.filterMap id ++ l →
    ∃ E', RelE X E' (σ.more bs.length) A0 w ∧ Keep w w (Fz X E σ w) (Fz X E' (σ.more bs.length) w) E E' σ (σ.more bs.length) ∧ E'.out = l ∧ E'.ad = E.ad ∧ E'.pin = E.pin ∧ (σ.more bs.length).nt = σ.nt + bs.length ∧ (σ.more bs.length).fz = σ.fz ∧
      (σ.more bs.length).fr = σ.fr ∧ (σ.more bs.length).bx = σ.bx ∧ (σ.more bs.length).ln = σ.ln ∧ (∀ (i : Nat) g, bs[i]? = some g → E'.hd (σ.nt + i) = g ∧ σ.nt + i ∈ (σ.more bs.length).al) := by
  intro bs
  induction hn : bs.length generalizing bs with
  | zero =>
    intro E σ l hr ho
    have : bs = [] := List.eq_nil_of_length_eq_zero hn
    subst this
    exact ⟨E, hr, hr.keep, by simpa using ho, rfl, rfl, rfl, rfl, rfl, rfl, rfl, fun i g h => by simp at h⟩
  | succ n ih =>
    intro E σ l hr ho
    rcases List.eq_nil_or_concat bs with rfl | ⟨bs', g, rfl⟩
    · simp at hn
    · rw [List.concat_eq_append] at *
      have hn' : bs'.length = n := by simpa using hn
      obtain ⟨E', q1, q2, q3, q4, q5, q6, q7, q8, q9, q10, q11⟩ := ih bs' hn' (l := g.toList ++ l) hr (by rw [ho]; cases g <;> simp)
      obtain ⟨r1, K1⟩ := q1.adopt q3
      refine ⟨_, r1, q2.trans K1, rfl, q4, q5, ?_, q7, q8, q9, q10, fun i g' hi => ?_⟩
      · show (σ.more n).nt + 1 = _
        rw [q6]; omega
      · by_cases hin : i < n
        · rw [List.getElem?_append_left (by omega)] at hi
          obtain ⟨k1, k2⟩ := q11 i g' hi
          refine ⟨?_, List.mem_cons_of_mem _ k2⟩
          show (if σ.nt + i = (σ.more n).nt then g else E'.hd (σ.nt + i)) = g'
          rw [if_neg (by rw [q6]; omega)]
          exact k1
        · have hi2 := (List.getElem?_eq_some_iff.1 hi).1
          have : i = n := by simp at hi2; omega
          subst this
          rw [List.getElem?_append_right (by omega)] at hi
          simp [hn'] at hi
          subst hi
          refine ⟨?_, ?_⟩
          · show (if σ.nt + i = (σ.more i).nt then g else E'.hd (σ.nt + i)) = g
            rw [if_pos (by rw [q6])]
          · show σ.nt + i ∈ (σ.more i).nt :: (σ.more i).al
            rw [q6]; exact List.mem_cons_self
end
end Go.Proofs.Ytopeacfbcdoljaa.V
