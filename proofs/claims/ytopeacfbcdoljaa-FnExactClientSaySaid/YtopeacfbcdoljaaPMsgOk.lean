/- The plain law: the program's MsgOk is the reference's. -/
import Derived.Test.YtopeacfbcdoljaaPEntries
namespace Go.Proofs.Ytopeacfbcdoljaa
open Go Go.Proofs.Ytopeacfbcdoljaa.V
theorem bAnd (p q : Bool) : (bif p then some q else some false) = some (p && q) := by cases p <;> rfl
theorem bOr (p q : Bool) : (bif p then some q else some true) = some (!p || q) := by cases p <;> rfl
def srv (a : Int) : Bool := decide (0 ≤ a) && decide (a ≤ 4)
def cli (a : Int) : Bool := decide (11 ≤ a) && decide (a ≤ 16)
theorem srv_cli {a : Int} (h : srv a = true) : cli a = false := by
  simp only [srv, cli, Bool.and_eq_true, decide_eq_true_eq, Bool.and_eq_false_iff, decide_eq_false_iff_not] at h ⊢
  omega
theorem server_s (a) : s_l15Server a = some (srv a) := by simp only [s_l15Server, in_s, Option.bind_some, srv]
theorem client_s (a) : s_l15Client a = some (cli a) := by simp only [s_l15Client, in_s, Option.bind_some, cli]
theorem server_i (a) : i_isServer a = some (srv a) := by simp only [i_isServer, in_i, Option.bind_some, srv]
theorem client_i (a) : i_isClient a = some (cli a) := by simp only [i_isClient, in_i, Option.bind_some, cli]
/-- Messages that agree. -/
def sameB (a b : MsgT) : Bool :=
  decide (a.1 = b.1) && decide (a.2.1 = b.2.1) && decide (a.2.2.1 = b.2.2.1) && decide (a.2.2.2.1 = b.2.2.2.1) && decide (a.2.2.2.2.1 = b.2.2.2.2.1) && decide (a.2.2.2.2.2.1 = b.2.2.2.2.2.1) && decide (a.2.2.2.2.2.2.1 = b.2.2.2.2.2.2.1) && (a.2.2.2.2.2.2.2.1 == b.2.2.2.2.2.2.2.1) && decide (a.2.2.2.2.2.2.2.2.1 = b.2.2.2.2.2.2.2.2.1) && decide (a.2.2.2.2.2.2.2.2.2 = b.2.2.2.2.2.2.2.2.2)
theorem sSameMsg_is {a b : MsgT} (h : a.2.2.2.2.2.2.2.2.1.length ≤ 1048576) : s_l15Same (a, b) = some (sameB a b) := by
  obtain ⟨a1, a2, a3, a4, a5, a6, a7, a8, a9, a10⟩ := a
  obtain ⟨b1, b2, b3, b4, b5, b6, b7, b8, b9, b10⟩ := b
  simp only at h
  simp only [s_l15Same, sSame_is h, Option.bind_some, bOr, sameB]
  generalize decide (a1 = b1) = p1
  generalize decide (a2 = b2) = p2
  generalize decide (a3 = b3) = p3
  generalize decide (a4 = b4) = p4
  generalize decide (a5 = b5) = p5
  generalize decide (a6 = b6) = p6
  generalize decide (a7 = b7) = p7
  generalize (a8 == b8) = p8
  generalize decide (a9 = b9) = p9
  generalize decide (a10 = b10) = p10
  cases p1
  · simp
  cases p2
  · simp
  cases p3
  · simp
  cases p4
  · simp
  cases p5
  · simp
  cases p6
  · simp
  cases p7
  · simp
  cases p8
  · simp
  cases p10 <;> simp
theorem iSameMsg_is {a b : MsgT} (h : a.2.2.2.2.2.2.2.2.1.length ≤ 1048576) : i_sameMsg (a, b) = some (sameB a b) := by
  obtain ⟨a1, a2, a3, a4, a5, a6, a7, a8, a9, a10⟩ := a
  obtain ⟨b1, b2, b3, b4, b5, b6, b7, b8, b9, b10⟩ := b
  simp only at h
  simp only [i_sameMsg, eqG_is h, Option.bind_some, bAnd, sameB]
theorem base_s (x) : s_l5Based x = some (bif decide (x.1 = 0) then decide (x.2 = 0) else (decide (1 ≤ x.1) && decide (x.1 ≤ 100000)) && (decide (1 ≤ x.2) && decide (x.2 ≤ 100000))) := by
  simp only [s_l5Based, in_s, Option.bind_some, bAnd]
  cases decide (x.1 = 0) <;> rfl
theorem base_i (x) : i_isBase x = some (bif decide (x.1 = 0) then decide (x.2 = 0) else (decide (1 ≤ x.1) && decide (x.1 ≤ 100000)) && (decide (1 ≤ x.2) && decide (x.2 ≤ 100000))) := by
  simp only [i_isBase, in_i, Option.bind_some, bAnd, bOr]
  by_cases h : x.1 = 0
  · simp [h]
  · simp [h]
theorem excl5 {fr to : Int} (h : (cli fr && srv to) = true) : (srv fr && srv to && !decide (fr = to)) = false := by
  simp only [Bool.and_eq_true] at h
  cases hs : srv fr with
  | false => simp
  | true => have := srv_cli hs; rw [this] at h; exact absurd h.1 (by simp)
theorem excl7 {fr to : Int} (h : (srv fr && cli to) = true) : (srv fr && srv to && !decide (fr = to)) = false := by
  simp only [Bool.and_eq_true] at h
  cases hs : srv to with
  | false => simp
  | true => have := srv_cli hs; rw [this] at h; exact absurd h.2 (by simp)
theorem bNot (q r : Bool) : (bif !q then some false else some r) = some (q && r) := by cases q <;> rfl
theorem sSame' {k fr to tm ix it cm : Int} {ye : Bool} {es : List Ent} {da : List UInt8} {b : MsgT} (h : es.length ≤ 1048576) : s_l15Same ((k, fr, to, tm, ix, it, cm, ye, es, da), b) = some (sameB (k, fr, to, tm, ix, it, cm, ye, es, da) b) := sSameMsg_is h
theorem iSame' {k fr to tm ix it cm : Int} {ye : Bool} {es : List Ent} {da : List UInt8} {b : MsgT} (h : es.length ≤ 1048576) : i_sameMsg ((k, fr, to, tm, ix, it, cm, ye, es, da), b) = some (sameB (k, fr, to, tm, ix, it, cm, ye, es, da) b) := iSameMsg_is h
theorem msgOk1 (fr to tm ix it cm : Int) (ye : Bool) (es : List Ent) (da : List UInt8) (h : es.length ≤ 1048576) (hd : da.length ≤ 1048576) : ∃ b, s_MsgOk (1, fr, to, tm, ix, it, cm, ye, es, da) = some b ∧ i_MsgOk (1, fr, to, tm, ix, it, cm, ye, es, da) = some b := by
  simp only [s_MsgOk, i_MsgOk, i_addressed, i_addressed_L8, i_named, i_named_L8, i_named_L12, i_named_L16, server_s, client_s, server_i, client_i, in_s, in_i, Option.bind_some, bAnd, bOr, base_s, base_i, s_MsgOk_L16, sSame' h, iSame' h]
  cases h3 : (srv fr && srv to && !decide (fr = to))
  · simp
  · simp only [cond_true, Option.bind_some, bNot, Bool.true_and, Bool.not_true, cond_false, Bool.not_not]
    simp
    generalize sameB _ _ = q
    cases q <;> simp [Bool.and_assoc, Bool.and_comm, Bool.and_left_comm]
theorem msgOk2 (fr to tm ix it cm : Int) (ye : Bool) (es : List Ent) (da : List UInt8) (h : es.length ≤ 1048576) (hd : da.length ≤ 1048576) : ∃ b, s_MsgOk (2, fr, to, tm, ix, it, cm, ye, es, da) = some b ∧ i_MsgOk (2, fr, to, tm, ix, it, cm, ye, es, da) = some b := by
  simp only [s_MsgOk, i_MsgOk, i_addressed, i_addressed_L8, i_named, i_named_L8, i_named_L12, i_named_L16, server_s, client_s, server_i, client_i, in_s, in_i, Option.bind_some, bAnd, bOr, base_s, base_i, s_MsgOk_L16, sSame' h, iSame' h]
  cases h3 : (srv fr && srv to && !decide (fr = to))
  · simp
  · simp only [cond_true, Option.bind_some, bNot, Bool.true_and, Bool.not_true, cond_false, Bool.not_not]
    simp
    generalize sameB _ _ = q
    cases q <;> simp [Bool.and_assoc, Bool.and_comm, Bool.and_left_comm]
theorem msgOk3 (fr to tm ix it cm : Int) (ye : Bool) (es : List Ent) (da : List UInt8) (h : es.length ≤ 1048576) (hd : da.length ≤ 1048576) : ∃ b, s_MsgOk (3, fr, to, tm, ix, it, cm, ye, es, da) = some b ∧ i_MsgOk (3, fr, to, tm, ix, it, cm, ye, es, da) = some b := by
  simp only [s_MsgOk, i_MsgOk, i_addressed, i_addressed_L8, i_named, i_named_L8, i_named_L12, i_named_L16, server_s, client_s, server_i, client_i, in_s, in_i, Option.bind_some, bAnd, bOr, base_s, base_i, s_MsgOk_L16, sSame' h, iSame' h, sRun_is h, iRun_is (m := (3, fr, to, tm, ix, it, cm, ye, es, da)) h]
  cases h3 : (srv fr && srv to && !decide (fr = to))
  · simp
  · simp only [cond_true, Option.bind_some, bNot, Bool.true_and, Bool.not_true, cond_false, Bool.not_not]
    simp
    generalize sameB _ _ = q
    generalize runOk _ _ _ = p
    generalize decide ((es.length : Int) ≤ 4) = p2
    cases q <;> cases p <;> cases p2 <;> simp [Bool.and_assoc]
theorem msgOk4 (fr to tm ix it cm : Int) (ye : Bool) (es : List Ent) (da : List UInt8) (h : es.length ≤ 1048576) (hd : da.length ≤ 1048576) : ∃ b, s_MsgOk (4, fr, to, tm, ix, it, cm, ye, es, da) = some b ∧ i_MsgOk (4, fr, to, tm, ix, it, cm, ye, es, da) = some b := by
  simp only [s_MsgOk, i_MsgOk, i_addressed, i_addressed_L8, i_named, i_named_L8, i_named_L12, i_named_L16, server_s, client_s, server_i, client_i, in_s, in_i, Option.bind_some, bAnd, bOr, base_s, base_i, s_MsgOk_L16, sSame' h, iSame' h]
  cases h3 : (srv fr && srv to && !decide (fr = to))
  · simp
  · simp only [cond_true, Option.bind_some, bNot, Bool.true_and, Bool.not_true, cond_false, Bool.not_not]
    simp
    generalize sameB _ _ = q
    cases q <;> simp [Bool.and_assoc, Bool.and_comm, Bool.and_left_comm]
theorem msgOk5 (fr to tm ix it cm : Int) (ye : Bool) (es : List Ent) (da : List UInt8) (h : es.length ≤ 1048576) (hd : da.length ≤ 1048576) : ∃ b, s_MsgOk (5, fr, to, tm, ix, it, cm, ye, es, da) = some b ∧ i_MsgOk (5, fr, to, tm, ix, it, cm, ye, es, da) = some b := by
  simp only [s_MsgOk, i_MsgOk, i_addressed, i_addressed_L8, i_named, i_named_L8, i_named_L12, i_named_L16, server_s, client_s, server_i, client_i, in_s, in_i, Option.bind_some, bAnd, bOr, base_s, base_i, s_MsgOk_L16, sSame' h, iSame' h]
  cases h3 : (srv fr && srv to && !decide (fr = to))
  · simp
  · simp only [cond_true, Option.bind_some, bNot, Bool.true_and, Bool.not_true, cond_false, Bool.not_not]
    simp
    generalize sameB _ _ = q
    cases q <;> simp [Bool.and_assoc, Bool.and_comm, Bool.and_left_comm]
theorem msgOk6 (fr to tm ix it cm : Int) (ye : Bool) (es : List Ent) (da : List UInt8) (h : es.length ≤ 1048576) (hd : da.length ≤ 1048576) : ∃ b, s_MsgOk (6, fr, to, tm, ix, it, cm, ye, es, da) = some b ∧ i_MsgOk (6, fr, to, tm, ix, it, cm, ye, es, da) = some b := by
  obtain ⟨hr1, y, hy⟩ := readOp_same (s := da) (by omega)
  simp only [s_MsgOk, i_MsgOk, i_addressed, i_addressed_L8, i_named, i_named_L8, i_named_L12, i_named_L16, server_s, client_s, server_i, client_i, in_s, in_i, Option.bind_some, bAnd, bOr, base_s, base_i, s_MsgOk_L16, sSame' h, iSame' h, hr1, hy]
  cases h5 : (cli fr && srv to)
  · cases h3 : (srv fr && srv to && !decide (fr = to)) <;> simp
  · rw [excl5 h5]
    simp
    generalize sameB _ _ = q
    cases q <;> simp [Bool.and_assoc, Bool.and_comm, Bool.and_left_comm]
theorem msgOk7 (fr to tm ix it cm : Int) (ye : Bool) (es : List Ent) (da : List UInt8) (h : es.length ≤ 1048576) (hd : da.length ≤ 1048576) : ∃ b, s_MsgOk (7, fr, to, tm, ix, it, cm, ye, es, da) = some b ∧ i_MsgOk (7, fr, to, tm, ix, it, cm, ye, es, da) = some b := by
  obtain ⟨hr1, y, hy⟩ := readAnswer_same (s := da) (by omega)
  simp only [s_MsgOk, i_MsgOk, i_addressed, i_addressed_L8, i_named, i_named_L8, i_named_L12, i_named_L16, server_s, client_s, server_i, client_i, in_s, in_i, Option.bind_some, bAnd, bOr, base_s, base_i, s_MsgOk_L16, sSame' h, iSame' h, hr1, hy]
  cases h5 : (srv fr && cli to)
  · cases h3 : (srv fr && srv to && !decide (fr = to)) <;> simp
  · rw [excl7 h5]
    simp
    generalize sameB _ _ = q
    cases q <;> simp [Bool.and_assoc, Bool.and_comm, Bool.and_left_comm]
theorem msgOk8 (fr to tm ix it cm : Int) (ye : Bool) (es : List Ent) (da : List UInt8) (h : es.length ≤ 1048576) (hd : da.length ≤ 1048576) : ∃ b, s_MsgOk (8, fr, to, tm, ix, it, cm, ye, es, da) = some b ∧ i_MsgOk (8, fr, to, tm, ix, it, cm, ye, es, da) = some b := by
  simp only [s_MsgOk, i_MsgOk, i_addressed, i_addressed_L8, i_named, i_named_L8, i_named_L12, i_named_L16, server_s, client_s, server_i, client_i, in_s, in_i, Option.bind_some, bAnd, bOr, base_s, base_i, s_MsgOk_L16, sSame' h, iSame' h, i_isVersion]
  cases h5 : (cli fr && srv to)
  · cases h3 : (srv fr && srv to && !decide (fr = to)) <;> simp
  · rw [excl5 h5]
    simp
    cases hq : sameB (8, fr, to, tm, ix, it, cm, ye, es, da) (8, fr, to, 0, ix, 0, cm, false, [], []) with
    | false => simp
    | true =>
      simp only [sameB, Bool.and_eq_true, decide_eq_true_eq] at hq
      have hda := hq.2
      subst hda
      simp
      cases decide (1 ≤ ix) <;> cases decide (ix ≤ 6) <;> cases decide (0 ≤ cm) <;> cases decide (cm ≤ 250) <;> simp [Bool.and_comm]
theorem msgOk9 (fr to tm ix it cm : Int) (ye : Bool) (es : List Ent) (da : List UInt8) (h : es.length ≤ 1048576) (hd : da.length ≤ 1048576) : ∃ b, s_MsgOk (9, fr, to, tm, ix, it, cm, ye, es, da) = some b ∧ i_MsgOk (9, fr, to, tm, ix, it, cm, ye, es, da) = some b := by
  simp only [s_MsgOk, i_MsgOk, i_addressed, i_addressed_L8, i_named, i_named_L8, i_named_L12, i_named_L16, server_s, client_s, server_i, client_i, in_s, in_i, Option.bind_some, bAnd, bOr, base_s, base_i, s_MsgOk_L16, sSame' h, iSame' h, i_isVersion]
  cases h5 : (srv fr && cli to)
  · cases h3 : (srv fr && srv to && !decide (fr = to)) <;> simp
  · rw [excl7 h5]
    simp
    generalize sameB _ _ = q
    cases q
    · simp
    · simp
      cases decide (1 ≤ ix) <;> cases decide (ix ≤ 6) <;> cases decide (0 ≤ cm) <;> cases decide (cm ≤ 250) <;> simp [Bool.and_comm]
end Go.Proofs.Ytopeacfbcdoljaa
