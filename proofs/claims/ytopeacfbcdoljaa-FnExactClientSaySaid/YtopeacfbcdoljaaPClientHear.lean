/- The plain law: the program's ClientHear is the reference's. -/
import Derived.Test.YtopeacfbcdoljaaPMsgOk
namespace Go.Proofs.Ytopeacfbcdoljaa
open Go Go.Proofs.Ytopeacfbcdoljaa.V
theorem msgOk_is (m : MsgT) (h : m.2.2.2.2.2.2.2.2.1.length ≤ 1048576) (hd : m.2.2.2.2.2.2.2.2.2.length ≤ 1048576) : ∃ b, s_MsgOk m = some b ∧ i_MsgOk m = some b := by
  obtain ⟨k, fr, to, tm, ix, it, cm, ye, es, da⟩ := m
  simp only at h hd
  by_cases h1 : k = 1
  · subst h1; exact msgOk1 fr to tm ix it cm ye es da h hd
  by_cases h2 : k = 2
  · subst h2; exact msgOk2 fr to tm ix it cm ye es da h hd
  by_cases h3 : k = 3
  · subst h3; exact msgOk3 fr to tm ix it cm ye es da h hd
  by_cases h4 : k = 4
  · subst h4; exact msgOk4 fr to tm ix it cm ye es da h hd
  by_cases h5 : k = 5
  · subst h5; exact msgOk5 fr to tm ix it cm ye es da h hd
  by_cases h6 : k = 6
  · subst h6; exact msgOk6 fr to tm ix it cm ye es da h hd
  by_cases h7 : k = 7
  · subst h7; exact msgOk7 fr to tm ix it cm ye es da h hd
  by_cases h8 : k = 8
  · subst h8; exact msgOk8 fr to tm ix it cm ye es da h hd
  by_cases h9 : k = 9
  · subst h9; exact msgOk9 fr to tm ix it cm ye es da h hd
  refine ⟨false, ?_, ?_⟩
  · simp only [s_MsgOk, server_s, client_s, in_s, Option.bind_some, bAnd, s_MsgOk_L16, h1, h2, h3, h4, h5, h6, h7, h8, h9, decide_false, cond_false]
    cases (srv fr && srv to && !decide (fr = to)) <;> rfl
  · simp only [i_MsgOk, i_addressed, i_addressed_L8, h1, h2, h3, h4, h5, h6, h7, h8, h9, decide_false, cond_false, Option.bind_some, Bool.not_false, Bool.not_true, cond_true]
theorem condEx {α : Type} (q : Bool) (a b : α) : ∃ y, (bif q then some a else some b) = some y ∧ (bif q then some a else some b) = some y := by cases q <;> exact ⟨_, rfl, rfl⟩
theorem clientHear_is {x} (h : x.2.1.2.2.2.2.2.2.2.2.1.length ≤ 1048576) (hd : x.2.1.2.2.2.2.2.2.2.2.2.length ≤ 1048576) : ∃ y, s_ClientHear x = some y ∧ i_ClientHear x = some y := by
  obtain ⟨c, m, now⟩ := x
  simp only at h hd
  obtain ⟨b, hb⟩ := clientOk_is c
  obtain ⟨r, hr1, hr2⟩ := msgOk_is m h hd
  obtain ⟨ha, z, hz⟩ := readAnswer_same (s := m.2.2.2.2.2.2.2.2.2) (by omega)
  have hadr : i_Client_address c = some (IntKind.i64.wrap (10 + c.1)) := rfl
  simp only [s_ClientHear, i_ClientHear, clientOk_same, hb, Option.bind_some, hr1, hr2, bAnd, bOr, hadr, i_isNow, in_s, in_i, ha, hz]
  cases b with
  | false => exact ⟨_, rfl, rfl⟩
  | true =>
    simp only [Bool.not_true, cond_false]
    exact condEx _ _ _
theorem szOp_le {o : Int × Int × Int × List UInt8} {l : Int} (h : o.2.2.2.length ≤ maxLen) (h1 : -1 ≤ l) (h2 : l ≤ 1048576) : ∃ n, w_szOp (o, l) = some n ∧ -1 ≤ n ∧ n ≤ 1048576 := by
  have hM : maxLen ≤ 9223372036854775807 := by decide
  simp only [w_szOp]
  rw [w64 (by omega) (by omega)]
  by_cases hn : l - (o.2.2.2.length : Int) < 0
  · exact ⟨-1, by simp [hn], by omega, by omega⟩
  · exact ⟨l - (o.2.2.2.length : Int), by simp only [hn, decide_false, cond_false], by omega, by omega⟩
theorem szClient_le {c : Int × Int × Bool × (Int × Int × Int × List UInt8) × Int} {l : Int} (h : c.2.2.2.1.2.2.2.length ≤ maxLen) (h1 : -1 ≤ l) (h2 : l ≤ 1048576) : ∃ n, w_szClient (c, l) = some n ∧ -1 ≤ n ∧ n ≤ 1048576 := by
  obtain ⟨n, hn, h3, h4⟩ := szOp_le (o := c.2.2.2.1) h h1 h2
  simp only [w_szClient, hn, Option.bind_some]
  by_cases h5 : n < 0
  · exact ⟨-1, by simp [h5], by omega, by omega⟩
  · exact ⟨n, by simp [h5], h3, h4⟩
theorem szMsg_is {m : MsgT} {l : Int} (h : m.2.2.2.2.2.2.2.2.1.length ≤ maxLen) (he : ∀ e ∈ m.2.2.2.2.2.2.2.2.1, e.2.length ≤ maxLen) (hd : m.2.2.2.2.2.2.2.2.2.length ≤ maxLen) (h1 : -1 ≤ l) (h2 : l ≤ 1048576) :
    ∃ n, w_szMsg (m, l) = some n ∧ -1 ≤ n ∧ n ≤ 1048576 ∧ (0 ≤ n → m.2.2.2.2.2.2.2.2.1.length ≤ 1048576 ∧ m.2.2.2.2.2.2.2.2.2.length ≤ 1048576) := by
  have hM : maxLen ≤ 9223372036854775807 := by decide
  obtain ⟨n, hn, h3, h4, h5⟩ := szEntryS_is h he h1 h2
  simp only [w_szMsg, hn, Option.bind_some]
  by_cases h6 : n < 0
  · exact ⟨-1, by simp [h6], by omega, by omega, fun h => by omega⟩
  · rw [w64 (by omega) (by omega)]
    by_cases h7 : n - (m.2.2.2.2.2.2.2.2.2.length : Int) < 0
    · exact ⟨-1, by simp [h6, h7], by omega, by omega, fun h => by omega⟩
    · exact ⟨n - (m.2.2.2.2.2.2.2.2.2.length : Int), by simp only [h6, h7, decide_false, cond_false], by omega, by omega, fun _ => ⟨(h5 (by omega)).1, by omega⟩⟩
theorem toMsg_is {m : MsgT} (h : m.2.2.2.2.2.2.2.2.1.length ≤ 1048576) : w_toMsg m = some m := by
  simp only [w_toMsg, toEntryS_is h, Option.bind_some]
theorem eqMsg_refl {m : MsgT} (h : m.2.2.2.2.2.2.2.2.1.length ≤ 1048576) : w_eqMsg (m, m) = some true := by
  simp [w_eqMsg, eqEntryS_is h]
theorem eqAnswer_refl (x) : w_eqAnswer (x, x) = some true := by simp [w_eqAnswer]
theorem eqDone_refl (x) : w_eqDone (x, x) = some true := by simp [w_eqDone, eqOp_refl, eqAnswer_refl]
theorem law5a (c : Int × Int × Bool × (Int × Int × Int × List UInt8) × Int) (m : MsgT) (now : Int) (hc : c.2.2.2.1.2.2.2.length ≤ maxLen) (hm : m.2.2.2.2.2.2.2.2.1.length ≤ maxLen) (he : ∀ e ∈ m.2.2.2.2.2.2.2.2.1, e.2.length ≤ maxLen) (hd : m.2.2.2.2.2.2.2.2.2.length ≤ maxLen) : w_FnExactClientHear (c, m, now) = some true := by
  obtain ⟨n, hn, h1, h2⟩ := szClient_le (l := 1048576) hc (by omega) (by omega)
  obtain ⟨q, hq, h3, h4, h5⟩ := szMsg_is hm he hd h1 h2
  simp only [w_FnExactClientHear, hn, hq, Option.bind_some]
  by_cases h6 : n < 0
  · simp [h6]
  by_cases h7 : q < 0
  · simp [h6, h7]
  obtain ⟨k1, k2⟩ := h5 (by omega)
  obtain ⟨y, hy1, hy2⟩ := clientHear_is (x := (c, m, now)) k1 k2
  simp [h6, h7, toClient_is, toMsg_is k1, hy1, hy2, eqClient_refl, eqDone_refl, eqMsg_refl k1]
theorem law6 (x) (hx : WFs [t25, t49, .int .i64] x) : w_FnExactClientHear x = some true := by
  obtain ⟨c, m, now⟩ := x
  exact law5a c m now hx.1.2.2.2.1.2.2.2 hx.2.1.2.2.2.2.2.2.2.2.1.1 (fun e h => (hx.2.1.2.2.2.2.2.2.2.2.1.2 e h).2) hx.2.1.2.2.2.2.2.2.2.2.2
end Go.Proofs.Ytopeacfbcdoljaa
