/- Tokens: frozen, retired, made; stores. -/
import Derived.Test.YtopeacfbcdoljaaVi
namespace Go.Proofs.Ytopeacfbcdoljaa.V
open Go
section
variable {P : Program} {X : Ctx} {E : Env} {σ : St} {A0 : Array Value} {a : Act} {w : World} {o : Oper} {R : Type}
theorem owned_sub {σ σ' : St} (h1 : σ'.bx = σ.bx) (h2 : σ'.al.Sublist σ.al) : (owned E σ').Sublist (owned E σ) := by
  simp only [owned, h1]
  refine List.Sublist.append (List.Sublist.refl _) (List.Sublist.append ?_ (List.Sublist.refl _))
  generalize σ'.al = l at *
  generalize σ.al = m at *
  induction h2 with
  | slnil => exact List.Sublist.refl _
  | cons x _ ih => exact List.Sublist.trans ih (by simp only [List.flatMap_cons]; exact List.sublist_append_right _ _)
  | cons_cons x _ ih => simp only [List.flatMap_cons]; exact List.Sublist.append (List.Sublist.refl _) ih
theorem not_owned_after {τ b : Nat} (hr : RelE X E σ A0 w) (ht : τ ∈ σ.al) (hb : E.hd τ = some b) : b ∉ owned E { σ with al := σ.al.erase τ } := by
  intro h
  have hn := hr.nodup
  have hp : σ.al.Perm (τ :: σ.al.erase τ) := List.perm_cons_erase ht
  have hp2 : (owned E σ).Perm (owned E { σ with al := τ :: σ.al.erase τ }) := List.Perm.append_left _ (List.Perm.append_right _ (List.Perm.flatMap_right _ hp))
  have hn2 := hp2.nodup_iff.1 hn
  simp only [owned, List.flatMap_cons, tokB, hb, Option.toList_some] at hn2 h
  rw [List.nodup_append] at hn2
  obtain ⟨_, hn3, hn4⟩ := hn2
  rcases List.mem_append.1 h with h | h
  · exact hn4 b h b (by simp) rfl
  · simp only [List.cons_append, List.nil_append, List.nodup_cons] at hn3
    exact hn3.1 h
/-- One token is frozen. -/
theorem RelE.freeze1 (hr : RelE X E σ A0 w) {τ : Nat} (ht : τ ∈ σ.al) : RelE X E { σ with al := σ.al.erase τ, fz := τ :: σ.fz } A0 w := by
  have hsub : (owned E { σ with al := σ.al.erase τ, fz := τ :: σ.fz }).Sublist (owned E σ) := owned_sub rfl List.erase_sublist
  have hne : ∀ υ, υ ∈ σ.al.erase τ → υ ≠ τ := fun υ hυ he => by subst he; exact (hr.aln.mem_erase_iff.1 hυ).1 rfl
  have K : Keep w w (Fz X E σ w) (Fz X E { σ with al := σ.al.erase τ, fz := τ :: σ.fz } w) E E σ { σ with al := σ.al.erase τ, fz := τ :: σ.fz } :=
    ⟨fun b hb => ⟨⟨hb.1, hb.2.1, fun h => hb.2.2 (hsub.subset h)⟩, rfl⟩, Nat.le_refl _, fun _ _ => rfl, fun _ _ => rfl,
      fun υ _ hυ => by
        rcases List.mem_cons.1 hυ with h | h
        · subst h
          exact .inr ⟨ht, fun b hb => ⟨⟨(hr.lt b (mem_owned_al ht hb)).2, (hr.lt b (mem_owned_al ht hb)).1, not_owned_after hr ht hb⟩, rfl⟩⟩
        · exact .inl h,
      fun υ _ hυ => ⟨List.mem_of_mem_erase hυ, fun _ _ => rfl⟩, hr.ge, fun _ h => ⟨h, rfl⟩⟩
  exact { hr with
    slot := fun i s u hs hu => K.slot (hr.slot i s u hs hu)
    bx := fun b hb => K.bx (hr.bx b hb) (hr.idlt b hb) rfl
    nodup := hsub.nodup hr.nodup
    lt := fun b hb => hr.lt b (hsub.subset hb)
    aln := hr.aln.erase τ
    alr := fun υ hυ => ⟨(hr.alr υ (List.mem_of_mem_erase hυ)).1, (hr.alr υ (List.mem_of_mem_erase hυ)).2.1, fun h => by
      rcases List.mem_cons.1 h with h | h
      · exact hne υ hυ h
      · exact (hr.alr υ (List.mem_of_mem_erase hυ)).2.2 h⟩
    fzr := fun υ hυ => by
      rcases List.mem_cons.1 hυ with h | h
      · subst h; exact ⟨(hr.alr υ ht).1, (hr.alr υ ht).2.1⟩
      · exact hr.fzr υ h
    srct := fun υ hυ => hr.srct υ (List.mem_of_mem_erase hυ)
    pinlt := fun b hb => ⟨(hr.pinlt b hb).1, fun h => (hr.pinlt b hb).2 (hsub.subset h)⟩ }
theorem freeze_fr (σ : St) (l : List Nat) : (σ.freeze l).fr = σ.fr ∧ (σ.freeze l).nt = σ.nt ∧ (σ.freeze l).bx = σ.bx := by
  induction l generalizing σ with
  | nil => exact ⟨rfl, rfl, rfl⟩
  | cons τ r ih =>
    simp only [St.freeze]
    cases h : σ.al.contains τ with
    | true => exact ih _
    | false => exact ih _
theorem RelE.freeze (hr : RelE X E σ A0 w) (l : List Nat) : RelE X E (σ.freeze l) A0 w := by
  induction l generalizing σ with
  | nil => exact hr
  | cons τ r ih =>
    simp only [St.freeze]
    cases h : σ.al.contains τ with
    | true => exact ih (hr.freeze1 (by simpa using h))
    | false => exact ih hr
theorem RelE.freezeK (hr : RelE X E σ A0 w) (l : List Nat) : RelE X E (σ.freeze l) A0 w ∧ Keep w w (Fz X E σ w) (Fz X E (σ.freeze l) w) E E σ (σ.freeze l) := by
  have key : ∀ (l : List Nat) (σ : St), (∀ τ ∈ (σ.freeze l).al, τ ∈ σ.al) ∧ (∀ τ ∈ (σ.freeze l).fz, τ ∈ σ.fz ∨ (τ ∈ σ.al ∧ (σ.al.Nodup → τ ∉ (σ.freeze l).al))) ∧ (σ.freeze l).al.Sublist σ.al ∧ (σ.freeze l).bx = σ.bx ∧ (σ.freeze l).nt = σ.nt := by
    intro l
    induction l with
    | nil => intro σ; exact ⟨fun _ h => h, fun _ h => .inl h, List.Sublist.refl _, rfl, rfl⟩
    | cons υ r ih =>
      intro σ
      simp only [St.freeze]
      cases h : σ.al.contains υ with
      | false => exact ih σ
      | true =>
        simp only [cond_true]
        obtain ⟨h1, h2, h3, h4, h5⟩ := ih { σ with al := σ.al.erase υ, fz := υ :: σ.fz }
        refine ⟨fun τ hτ => List.mem_of_mem_erase (h1 τ hτ), fun τ hτ => ?_, h3.trans List.erase_sublist, h4, h5⟩
        rcases h2 τ hτ with h6 | ⟨h6, h7⟩
        · rcases List.mem_cons.1 h6 with h6 | h6
          · subst h6
            exact .inr ⟨by simpa using h, fun hn hal => (hn.mem_erase_iff.1 (h1 _ hal)).1 rfl⟩
          · exact .inl h6
        · exact .inr ⟨List.mem_of_mem_erase h6, fun hn => h7 (hn.erase υ)⟩
  obtain ⟨k1, k2, k3, k4, k5⟩ := key l σ
  have hsub := owned_sub (E := E) k4 k3
  refine ⟨hr.freeze l, ⟨fun b hb => ⟨⟨hb.1, hb.2.1, fun h => hb.2.2 (hsub.subset h)⟩, rfl⟩, by rw [k5]; exact Nat.le_refl _, fun _ _ => rfl, fun _ _ => rfl, fun τ _ hτ => ?_, fun τ _ hτ => ⟨k1 τ hτ, fun _ _ => rfl⟩, hr.ge, fun _ h => ⟨h, rfl⟩⟩⟩
  rcases k2 τ hτ with h | ⟨h, hn⟩
  · exact .inl h
  · refine .inr ⟨h, fun b hb => ⟨⟨(hr.lt b (mem_owned_al h hb)).2, (hr.lt b (mem_owned_al h hb)).1, fun ho => ?_⟩, rfl⟩⟩
    refine not_owned_after hr h hb ((owned_sub (σ := { σ with al := σ.al.erase τ }) (σ' := σ.freeze l) k4 ?_).subset ho)
    have h1 := k3.erase τ
    rwa [List.erase_of_not_mem (hn hr.aln)] at h1
/-- A token goes (or none), a new one comes; of the world, the old token's block alone may turn. -/
theorem RelE.renew (hr : RelE X E σ A0 w) {w1 : World} (τ : Nat) (ln' : List (Nat × Nat)) (g : Option Nat) (hln : ∀ p ∈ ln', (p.1 = σ.nt ∧ p.2 = τ ∧ g = E.hd τ ∧ τ < σ.nt) ∨ (p ∈ σ.ln))
    (hw : ∀ b, b < w.heap.size → (τ ∈ σ.al → E.hd τ ≠ some b) → w1.heap[b]? = w.heap[b]?) (hfr : Fr X.M X.w0 w1) (hsz : w.heap.size ≤ w1.heap.size)
    (hg : ∀ b, g = some b → ((τ ∈ σ.al ∧ E.hd τ = some b) ∨ w.heap.size ≤ b) ∧ b < w1.heap.size) :
    RelE X (E.tok σ.nt g) { σ with al := σ.nt :: σ.al.erase τ, ln := ln', nt := σ.nt + 1 } A0 w1 ∧
      Keep w w1 (Fz X E σ w) (Fz X (E.tok σ.nt g) { σ with al := σ.nt :: σ.al.erase τ, ln := ln', nt := σ.nt + 1 } w1) E (E.tok σ.nt g) σ { σ with al := σ.nt :: σ.al.erase τ, ln := ln', nt := σ.nt + 1 } := by
  let E1 : Env := E.tok σ.nt g
  let σ1 : St := { σ with al := σ.nt :: σ.al.erase τ, ln := ln', nt := σ.nt + 1 }
  have hhd : ∀ υ, υ < σ.nt → E1.hd υ = E.hd υ := fun υ h => if_neg (Nat.ne_of_lt h)
  have hhn : E1.hd σ.nt = g := if_pos rfl
  have hmem : ∀ υ ∈ σ.al.erase τ, υ ∈ σ.al ∧ υ ≠ τ := fun υ h => ⟨List.mem_of_mem_erase h, (hr.aln.mem_erase_iff.1 h).1⟩
  have hrest : (σ.al.erase τ).flatMap (tokB E1) = (σ.al.erase τ).flatMap (tokB E) := by
    simp only [List.flatMap]
    rw [List.map_congr_left (fun υ hυ => by show (E1.hd υ).toList = (E.hd υ).toList; rw [hhd υ (hr.alr υ (hmem υ hυ).1).2.1])]
    rfl
  have hown : owned E1 σ1 = σ.bx.map (fun b => (E.ad b.id).1) ++ (g.toList ++ ((σ.al.erase τ).flatMap (tokB E) ++ E.out)) := by
    show _ ++ ((σ.nt :: σ.al.erase τ).flatMap (tokB E1) ++ E.out) = _
    rw [List.flatMap_cons, hrest]
    show _ ++ ((E1.hd σ.nt).toList ++ _ ++ _) = _
    rw [hhn, List.append_assoc]
    rfl
  have hsub : (owned E { σ with al := σ.al.erase τ }).Sublist (owned E σ) := owned_sub rfl List.erase_sublist
  have hin : ∀ b, b ∈ owned E1 σ1 → g = some b ∨ b ∈ owned E { σ with al := σ.al.erase τ } := by
    intro b hb
    rw [hown] at hb
    rcases List.mem_append.1 hb with h | h
    · exact .inr (List.mem_append_left _ h)
    · rcases List.mem_append.1 h with h | h
      · left; cases g with
        | none => simp at h
        | some q => simp at h; rw [h]
      · exact .inr (List.mem_append_right _ h)
  have hgn : ∀ b, g = some b → b ∉ owned E { σ with al := σ.al.erase τ } := by
    intro b hb h
    rcases (hg b hb).1 with ⟨h1, h2⟩ | h1
    · exact not_owned_after hr h1 h2 h
    · have := (hr.lt b (hsub.subset h)).1; omega
  have hkeep : ∀ b, b ∈ owned E { σ with al := σ.al.erase τ } → w1.heap[b]? = w.heap[b]? := fun b hb =>
    hw b (hr.lt b (hsub.subset hb)).1 (fun ht he => not_owned_after hr ht he hb)
  have K : Keep w w1 (Fz X E σ w) (Fz X E1 σ1 w1) E E1 σ σ1 :=
    ⟨fun b hb => ⟨⟨hb.1, Nat.lt_of_lt_of_le hb.2.1 hsz, fun h => by
        rcases hin b h with h | h
        · rcases (hg b h).1 with ⟨h1, h2⟩ | h1
          · exact hb.2.2 (mem_owned_al h1 h2)
          · have := hb.2.1; omega
        · exact hb.2.2 (hsub.subset h)⟩, hw b hb.2.1 (fun ht he => hb.2.2 (mem_owned_al ht he))⟩,
      Nat.le_succ _, hhd, fun _ _ => rfl, fun _ _ h => .inl h,
      fun υ hlt hυ => by
        rcases List.mem_cons.1 hυ with h | h
        · omega
        · exact ⟨(hmem υ h).1, fun b hb => hkeep b (mem_owned_al (σ := { σ with al := σ.al.erase τ }) h hb)⟩, hr.ge, fun b hb => ⟨hb, hw b (hr.pinlt b hb).1 (fun ht he => (hr.pinlt b hb).2 (mem_owned_al ht he))⟩⟩
  refine ⟨{ hr with
    slot := fun i s u hs hu => K.slot (hr.slot i s u hs hu)
    bx := fun b hb => K.bx (hr.bx b hb) (hr.idlt b hb) (hkeep _ (mem_owned_bx (σ := { σ with al := σ.al.erase τ }) hb))
    nodup := ?_
    lt := fun b hb => ?_
    idlt := fun b hb => Nat.lt_succ_of_lt (hr.idlt b hb)
    aln := List.nodup_cons.2 ⟨fun h => by have := (hr.alr _ (hmem _ h).1).2.1; omega, hr.aln.erase τ⟩
    alr := fun υ hυ => ?_
    fzr := fun υ hυ => ⟨(hr.fzr υ hυ).1, Nat.lt_succ_of_lt (hr.fzr υ hυ).2⟩
    nt2 := Nat.le_succ_of_le hr.nt2
    hd0 := fun υ hυ => by rw [hhd υ (by have := hr.nt2; omega)]; exact hr.hd0 υ hυ
    fr := hfr
    srct := fun υ hυ b hb => ?_
    lnr := fun p hp => ?_
    lnlt := fun p hp => ?_
    adx := fun e he => ⟨Nat.lt_succ_of_lt (hr.adx e he).1, (hr.adx e he).2⟩
    hdx := fun e he => ⟨Nat.lt_succ_of_lt (hr.hdx e he).1, (hhd _ (hr.hdx e he).1).trans (hr.hdx e he).2⟩
    pinlt := fun b hb => ⟨Nat.lt_of_lt_of_le (hr.pinlt b hb).1 hsz, fun h => by
      rcases hin b h with h | h
      · rcases (hg b h).1 with ⟨h1, h2⟩ | h1
        · exact (hr.pinlt b hb).2 (mem_owned_al h1 h2)
        · have := (hr.pinlt b hb).1; omega
      · exact (hr.pinlt b hb).2 (hsub.subset h)⟩ }, K⟩
  · rw [hown]
    have hn : (owned E { σ with al := σ.al.erase τ }).Nodup := hsub.nodup hr.nodup
    simp only [owned] at hn
    cases g with
    | none => simpa using hn
    | some q =>
      have hq := hgn q rfl
      simp only [owned] at hq
      rw [List.nodup_append] at hn ⊢
      refine ⟨hn.1, ?_, fun x hx y hy => ?_⟩
      · simp only [Option.toList_some, List.cons_append, List.nil_append, List.nodup_cons]
        exact ⟨fun h => hq (List.mem_append_right _ h), hn.2.1⟩
      · simp only [Option.toList_some, List.cons_append, List.nil_append, List.mem_cons] at hy
        rcases hy with rfl | hy
        · exact fun e => hq (List.mem_append_left _ (e ▸ hx))
        · exact hn.2.2 x hx y hy
  · rcases hin b hb with h | h
    · refine ⟨(hg b h).2, ?_⟩
      rcases (hg b h).1 with ⟨h1, h2⟩ | h1
      · exact (hr.lt b (mem_owned_al h1 h2)).2
      · exact hr.new b (Nat.le_trans hr.fr.size h1)
    · exact ⟨Nat.lt_of_lt_of_le (hr.lt b (hsub.subset h)).1 hsz, (hr.lt b (hsub.subset h)).2⟩
  · rcases List.mem_cons.1 hυ with rfl | h
    · exact ⟨hr.nt2, Nat.lt_succ_self _, fun h => by have := (hr.fzr _ h).2; omega⟩
    · exact ⟨(hr.alr υ (hmem υ h).1).1, Nat.lt_succ_of_lt (hr.alr υ (hmem υ h).1).2.1, (hr.alr υ (hmem υ h).1).2.2⟩
  · rcases List.mem_cons.1 hυ with rfl | h
    · have hb' : g = some b := by rw [← hhn]; exact hb
      rcases (hg b hb').1 with ⟨h1, h2⟩ | h1
      · exact hr.srct τ h1 b h2
      · exact .inr (Nat.le_trans hr.fr.size h1)
    · have hb' : E.hd υ = some b := by rw [← hhd υ (hr.alr υ (hmem υ h).1).2.1]; exact hb
      exact hr.srct υ (hmem υ h).1 b hb'
  · rcases hln p hp with ⟨h1, h2, h3, h4⟩ | h
    · show E1.hd p.1 = E1.hd p.2
      rw [h1, h2, hhn, hhd τ h4, h3]
    · show E1.hd p.1 = E1.hd p.2
      rw [hhd _ (hr.lnlt p h).1, hhd _ (hr.lnlt p h).2]
      exact hr.lnr p h
  · show p.1 < σ.nt + 1 ∧ p.2 < σ.nt + 1
    rcases hln p hp with ⟨h1, h2, h3, h4⟩ | h
    · omega
    · have := hr.lnlt p h; omega
end
end Go.Proofs.Ytopeacfbcdoljaa.V
