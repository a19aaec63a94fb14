/- The plain law: the program's MsgOk is the reference's. -/
import Derived.Test.YtcdncdbghghnfaaPEntries
namespace Go.Proofs.Ytcdncdbghghnfaa
open Go Go.Proofs.Ytcdncdbghghnfaa.V
theorem bAnd (p q : Bool) : (bif p then some q else some false) = some (p && q) := by cases p <;> rfl
theorem bOr (p q : Bool) : (bif p then some q else some true) = some (!p || q) := by cases p <;> rfl
def srv (a : Int) : Bool := decide (0 ≤ a) && decide (a ≤ 4)
def cli (a : Int) : Bool := decide (11 ≤ a) && decide (a ≤ 16)
theorem server_i (a) : i_isServer a = some (srv a) := by simp only [i_isServer, in_i, Option.bind_some, srv]
theorem client_i (a) : i_isClient a = some (cli a) := by simp only [i_isClient, in_i, Option.bind_some, cli]
/-- Messages that agree. -/
def sameB (a b : MsgT) : Bool :=
  decide (a.1 = b.1) && decide (a.2.1 = b.2.1) && decide (a.2.2.1 = b.2.2.1) && decide (a.2.2.2.1 = b.2.2.2.1) && decide (a.2.2.2.2.1 = b.2.2.2.2.1) && decide (a.2.2.2.2.2.1 = b.2.2.2.2.2.1) && decide (a.2.2.2.2.2.2.1 = b.2.2.2.2.2.2.1) && (a.2.2.2.2.2.2.2.1 == b.2.2.2.2.2.2.2.1) && decide (a.2.2.2.2.2.2.2.2.1 = b.2.2.2.2.2.2.2.2.1) && decide (a.2.2.2.2.2.2.2.2.2 = b.2.2.2.2.2.2.2.2.2)
theorem iSameMsg_is {a b : MsgT} (h : a.2.2.2.2.2.2.2.2.1.length ≤ 1048576) : i_sameMsg (a, b) = some (sameB a b) := by
  obtain ⟨a1, a2, a3, a4, a5, a6, a7, a8, a9, a10⟩ := a
  obtain ⟨b1, b2, b3, b4, b5, b6, b7, b8, b9, b10⟩ := b
  simp only at h
  simp only [i_sameMsg, eqG_is h, Option.bind_some, bAnd, sameB]
theorem base_i (x) : i_isBase x = some (bif decide (x.1 = 0) then decide (x.2 = 0) else (decide (1 ≤ x.1) && decide (x.1 ≤ 100000)) && (decide (1 ≤ x.2) && decide (x.2 ≤ 100000))) := by
  simp only [i_isBase, in_i, Option.bind_some, bAnd, bOr]
  by_cases h : x.1 = 0
  · simp [h]
  · simp [h]
end Go.Proofs.Ytcdncdbghghnfaa
