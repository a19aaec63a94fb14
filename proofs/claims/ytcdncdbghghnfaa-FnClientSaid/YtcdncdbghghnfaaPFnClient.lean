/- The plain law: a client that calls is answered once. -/
import Derived.Test.YtcdncdbghghnfaaPDrawMsg
namespace Go.Proofs.Ytcdncdbghghnfaa
open Go Go.Proofs.Ytcdncdbghghnfaa.V
abbrev OpT := Int × Int × Int × List UInt8
abbrev CliT := Int × Int × Bool × OpT × Int
theorem clientOk_form {c : CliT} {ob : Bool} (ho : i_OpOk c.2.2.2.1 = some ob) :
    i_ClientOk c = some ((decide (1 ≤ c.1) && decide (c.1 ≤ 6)) && (decide (0 ≤ c.2.1) && decide (c.2.1 ≤ 1000000)) && (decide (0 ≤ c.2.2.2.2) && decide (c.2.2.2.2 ≤ 1000000)) && (bif c.2.2.1 then decide (1 ≤ c.2.1) && ob else (decide (c.2.2.2.1.1 = 0) && (decide (c.2.2.2.1.2.1 = 0) && (decide (c.2.2.2.1.2.2.1 = 0) && decide (c.2.2.2.1.2.2.2 = [])))) && decide (c.2.2.2.2 = 0))) := by
  simp only [i_ClientOk, i_isNow, in_i, ho, Option.bind_some, bAnd, bOr]
  generalize (decide (1 ≤ c.1) && decide (c.1 ≤ 6)) = p1
  generalize (decide (0 ≤ c.2.1) && decide (c.2.1 ≤ 1000000)) = p2
  generalize (decide (0 ≤ c.2.2.2.2) && decide (c.2.2.2.2 ≤ 1000000)) = p3
  cases p1 <;> cases p2 <;> cases p3 <;> cases c.2.2.1 <;> rfl
abbrev zDone : Int × Int × OpT × (Int × Int × Int × List UInt8 × Int × Int) × Int × Int := (0, 0, (0, 0, 0, []), (0, 0, 0, [], 0, 0), 0, 0)
def acc (c : CliT) (m : MsgT) (now : Int) (r : Bool) : Bool := c.2.2.1 && r && decide (m.1 = 7) && decide (m.2.2.1 = IntKind.i64.wrap (10 + c.1)) && decide (m.2.2.2.2.1 = c.2.1) && (decide (0 ≤ now) && decide (now ≤ 1000000))
theorem hear_form {c : CliT} {m : MsgT} (now : Int) {cb r : Bool} {a} (hb : i_ClientOk c = some cb) (hr : i_MsgOk m = some r) (ha : i_ReadAnswer m.2.2.2.2.2.2.2.2.2 = some a) :
    i_ClientHear (c, m, now) = some (bif cb then (bif acc c m now r then ((c.1, c.2.1, false, (0, 0, 0, []), 0), (c.1, c.2.1, c.2.2.2.1, a.1, c.2.2.2.2, now), true) else (c, zDone, false)) else ((0, 0, false, (0, 0, 0, []), 0), zDone, false)) := by
  have hadr : i_Client_address c = some (IntKind.i64.wrap (10 + c.1)) := rfl
  simp only [i_ClientHear, hb, hr, ha, hadr, i_isNow, in_i, Option.bind_some, bOr, acc]
  generalize decide (m.1 = 7) = p1
  generalize decide (m.2.2.1 = IntKind.i64.wrap (10 + c.1)) = p2
  generalize decide (m.2.2.2.2.1 = c.2.1) = p3
  generalize (decide (0 ≤ now) && decide (now ≤ 1000000)) = p4
  cases cb with
  | false => rfl
  | true => cases c.2.2.1 <;> cases r <;> cases p1 <;> cases p2 <;> cases p3 <;> cases p4 <;> rfl
theorem law3 (x) (_ : WFs [t22] x) : w_FnClient x = some true := by
  unfold w_FnClient w_big
  simp only [Option.bind_some]
  by_cases hb : 1048576 < (x.length : Int)
  · simp only [hb, decide_true, cond_true]
  obtain ⟨⟨c, m, now⟩, hd, h1, h2⟩ := draw_tot x (by omega)
  simp only at h1 h2
  simp only [hb, decide_false, cond_false, hd, Option.bind_some]
  obtain ⟨r, hr⟩ := i_MsgOk_tot m h1 h2
  obtain ⟨a, ha⟩ := i_ReadAnswer_tot m.2.2.2.2.2.2.2.2.2
  obtain ⟨ob, ho⟩ := opOk_is c.2.2.2.1
  obtain ⟨cb, hcb⟩ : ∃ cb, i_ClientOk c = some cb := ⟨_, clientOk_form ho⟩
  simp only [hear_form now hcb hr ha, Option.bind_some, clientOk_same, hcb]
  cases cb with
  | false => simp
  | true =>
    simp only [cond_true]
    cases hacc : acc c m now r with
    | false => simp
    | true =>
      simp only [cond_true, Bool.not_true, cond_false]
      have hcf := clientOk_form ho
      rw [hcb] at hcf
      have hcf := (Option.some.inj hcf).symm
      obtain ⟨id, se, bu, op, be⟩ := c
      simp only [acc, Bool.and_eq_true, decide_eq_true_eq] at hacc
      obtain ⟨⟨⟨⟨⟨a1, a2⟩, a3⟩, a4⟩, a5⟩, a6, a7⟩ := hacc
      subst a1 a5
      simp only [cond_true, Bool.and_eq_true, decide_eq_true_eq] at hcf ho
      obtain ⟨⟨⟨⟨b1, b2⟩, b3, b4⟩, b5, b6⟩, b7, b8⟩ := hcf
      subst b8
      have o0 : i_OpOk (0, 0, 0, []) = some false := by simp [i_OpOk]
      have hx : i_ClientOk (id, m.2.2.2.2.1, false, (0, 0, 0, []), 0) = some true := by
        rw [clientOk_form (c := (id, m.2.2.2.2.1, false, (0, 0, 0, []), 0)) o0]
        simp [b1, b2, b3, b4]
      simp only [hear_form now hx hr ha, acc, Option.bind_some, cond_true, Bool.false_and, cond_false]
      simp only [i_ClientCall, hx, ho, i_isNow, in_i, Option.bind_some, Bool.not_true, Bool.not_false, cond_false, cond_true, a6, a7, decide_true, Bool.and_self]
      by_cases hs : m.2.2.2.2.1 = 1000000
      · have hl : ¬ m.2.2.2.2.1 < 1000000 := by omega
        simp only [hs, decide_true, cond_true, Bool.not_true, cond_false, Option.bind_some]
        rw [hs] at hx
        simp only [hear_form now hx hr ha, acc, Option.bind_some, cond_true, Bool.false_and, cond_false]
        simp
      · have hl : m.2.2.2.2.1 < 1000000 := by omega
        have hw : IntKind.i64.wrap (m.2.2.2.2.1 + 1) = m.2.2.2.2.1 + 1 := w64 (by omega) (by omega)
        have hz : i_ClientOk (id, m.2.2.2.2.1 + 1, true, op, now) = some true := by
          rw [clientOk_form (c := (id, m.2.2.2.2.1 + 1, true, op, now)) ho]
          simp [b1, b2, a6, a7]; omega
        have hne : ¬ m.2.2.2.2.1 = m.2.2.2.2.1 + 1 := by omega
        simp only [hs, decide_false, cond_false, Bool.not_false, cond_true, Option.bind_some, hw]
        simp only [hear_form now hz hr ha, acc, Option.bind_some, cond_true, hne, decide_false, Bool.and_false, Bool.false_and, cond_false]
        simp [hl]
end Go.Proofs.Ytcdncdbghghnfaa
