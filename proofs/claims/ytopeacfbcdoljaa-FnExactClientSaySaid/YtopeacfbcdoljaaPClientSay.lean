/- The plain law: the program's ClientSay is the reference's. -/
import Derived.Test.YtopeacfbcdoljaaPClientHear
namespace Go.Proofs.Ytopeacfbcdoljaa
open Go Go.Proofs.Ytopeacfbcdoljaa.V
theorem szClient_small {c : Int × Int × Bool × (Int × Int × Int × List UInt8) × Int} {n : Int} (h : c.2.2.2.1.2.2.2.length ≤ maxLen) (hn : w_szClient (c, 1048576) = some n) (h0 : ¬ n < 0) : c.2.2.2.1.2.2.2.length ≤ 1048576 := by
  have hM : maxLen ≤ 9223372036854775807 := by decide
  simp only [w_szClient, w_szOp] at hn
  rw [w64 (by omega) (by omega)] at hn
  by_cases h1 : (1048576 : Int) - (c.2.2.2.1.2.2.2.length : Int) < 0
  · simp only [h1, decide_true, cond_true, Option.bind_some] at hn
    have : n = -1 := by simpa using hn.symm
    omega
  · omega
theorem clientSay_is {c : Int × Int × Bool × (Int × Int × Int × List UInt8) × Int} {to : Int} (h : c.2.2.2.1.2.2.2.length ≤ 1048576) : ∃ y, s_ClientSay (c, to) = some y ∧ i_ClientSay (c, to) = some y ∧ y.1.2.2.2.2.2.2.2.2.1 = [] := by
  obtain ⟨b, hb⟩ := clientOk_is c
  obtain ⟨z, hz⟩ := showOp_is (x := c.2.2.2.1) (by omega)
  have hadr : i_Client_address c = some (IntKind.i64.wrap (10 + c.1)) := rfl
  simp only [s_ClientSay, i_ClientSay, clientOk_same, hb, Option.bind_some, bOr, server_s, server_i, hadr, showOp_same, hz]
  generalize (!!(!!!b || !c.2.2.1) || !srv to) = q
  cases q <;> exact ⟨_, rfl, rfl, rfl⟩
theorem mark_nil (k : Int) : w_markEntryS ([], k) = some k := by
  have : iter w_markEntryS_L7 FUEL (([] : List Ent), k, (0 : Int)) = some k := rfl
  simp only [w_markEntryS, this, Option.bind_some]
theorem held_nil (k : Int) : w_heldEntryS ([], k) = some k := by
  have : iter w_heldEntryS_L7 FUEL (([] : List Ent), k, (0 : Int)) = some (.inl k) := rfl
  simp only [w_heldEntryS, this, Option.bind_some, sumK]
theorem markMsg_nil {m : MsgT} {k : Int} (h : m.2.2.2.2.2.2.2.2.1 = []) : w_markMsg (m, k) = some k := by
  simp only [w_markMsg, h, mark_nil, Option.bind_some]
theorem heldMsg_nil {m : MsgT} {k : Int} (h : m.2.2.2.2.2.2.2.2.1 = []) (hk : 0 ≤ k) : w_heldMsg (m, k) = some k := by
  simp only [w_heldMsg, h, held_nil, Option.bind_some]
  rw [decide_eq_false (by omega)]; rfl
theorem law5b (c : Int × Int × Bool × (Int × Int × Int × List UInt8) × Int) (to : Int) (hc : c.2.2.2.1.2.2.2.length ≤ maxLen) : w_FnExactClientSay (c, to) = some true := by
  obtain ⟨n, hn, h1, h2⟩ := szClient_le (l := 1048576) hc (by omega) (by omega)
  simp only [w_FnExactClientSay, hn, Option.bind_some]
  by_cases h6 : n < 0
  · simp [h6]
  obtain ⟨y, hy1, hy2, hy3⟩ := clientSay_is (to := to) (szClient_small hc hn h6)
  have he : w_eqMsg (y.1, y.1) = some true := eqMsg_refl (by rw [hy3]; simp)
  simp [h6, toClient_is, hy1, hy2, he, markMsg_nil hy3, heldMsg_nil hy3]
theorem law5 (x) (hx : WFs [t25, .int .i64] x) : w_FnExactClientSay x = some true := by
  obtain ⟨c, to⟩ := x
  exact law5b c to hx.1.2.2.2.1.2.2.2
end Go.Proofs.Ytopeacfbcdoljaa
