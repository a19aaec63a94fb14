/-
  No cell of these rows narrows 'for every input' (looked for: loops, veiled, ifaces, maps, wideKeys, modest, calm, conditions, laid).
  DERIVED. THE GIVEN ROWS OF THIS SEAT. 5 by the template 'for every input the law returns true; each argument reads behind the call as it read before'; 0 by the template 'total and deterministic' (their statements: YtopeacfbcdoljaaTotals.lean).
  GIVEN WITH THE SEED: the statements are not yours to turn. If you find one false, say at which input.
  Laid BY PROGRAM, IN A SANDBOX (cutbox-rows.mjs): the forced cells as the released guide's own fill.sh prints them over the translation 3f31af6b307ec1d5… (all of the seat's roots in one cut). By AI agents, Wed Nov 11 2026. No macro, syntax, notation, axiom, sorry.
-/
import Derived.Test.YtopeacfbcdoljaaChecked
import GoSem.Claim
import GoSem.ClaimJoined
import GoSem.ClaimMapViews
import Derived.JoinedTies
import Derived.KernelRfl
namespace Go.Proofs.Ytopeacfbcdoljaa
/- THE CELL 'sum', in the pinned program and in every row, IS THE sha256 OF THE DUMP (.gsa) THAT YtopeacfbcdoljaaProg.lean LOADS. Nothing in Lean hashes anything: it is a label: what it is worth is what the hold of that sum in a sandbox is worth. -/
noncomputable def Try.pinned : Pinned := { name := "ytopeacfbcdoljaa", sum := "3f31af6b307ec1d59f09b8730cde58edfd702e57189d6695737ad45dee799ed7", checked := Try.checked }
namespace Rows
def none {H : Type} : Left H := { results := [], args := [] }

/-- 'laws.FnExactClientOk': WHATEVER THE INPUT: true; the input reads as it did. -/
def fnExactClientOkSpec : ChangeSpec := { name := "fnExactClientOk", fn := fun _ => fun
  | [d] => { results := [.lit (.bool true)], args := [d] }
  | _ => none }
def fnExactClientOkRow : OpenClaim := { program := "ytopeacfbcdoljaa", sum := "3f31af6b307ec1d59f09b8730cde58edfd702e57189d6695737ad45dee799ed7", func := "loop.example/g00358/laws.FnExactClientOk", spec := "fnExactClientOk", apart := false }
def FnExactClientOkSaid : Prop := fnExactClientOkRow.holds Try.pinned (OpenSpec.ofChange fnExactClientOkSpec)

/-- ITS FALSE NEIGHBOUR: 'it returns false'. Refute it at one input. -/
def fnExactClientOkWrong : ChangeSpec := { name := "fnExactClientOk", fn := fun _ => fun
  | [d] => { results := [.lit (.bool false)], args := [d] }
  | _ => none }
def FnExactClientOkWrongFalsely : Prop := fnExactClientOkRow.holds Try.pinned (OpenSpec.ofChange fnExactClientOkWrong)

/-- 'laws.FnExactClientCall': WHATEVER THE INPUT: true; the input reads as it did. -/
def fnExactClientCallSpec : ChangeSpec := { name := "fnExactClientCall", fn := fun _ => fun
  | [d1, d2, d3] => { results := [.lit (.bool true)], args := [d1, d2, d3] }
  | _ => none }
def fnExactClientCallRow : OpenClaim := { program := "ytopeacfbcdoljaa", sum := "3f31af6b307ec1d59f09b8730cde58edfd702e57189d6695737ad45dee799ed7", func := "loop.example/g00358/laws.FnExactClientCall", spec := "fnExactClientCall", apart := false }
def FnExactClientCallSaid : Prop := fnExactClientCallRow.holds Try.pinned (OpenSpec.ofChange fnExactClientCallSpec)

/-- ITS FALSE NEIGHBOUR: 'it returns false'. Refute it at one input. -/
def fnExactClientCallWrong : ChangeSpec := { name := "fnExactClientCall", fn := fun _ => fun
  | [d1, d2, d3] => { results := [.lit (.bool false)], args := [d1, d2, d3] }
  | _ => none }
def FnExactClientCallWrongFalsely : Prop := fnExactClientCallRow.holds Try.pinned (OpenSpec.ofChange fnExactClientCallWrong)

/-- 'laws.FnExactClientSay': WHATEVER THE INPUT: true; the input reads as it did. -/
def fnExactClientSaySpec : ChangeSpec := { name := "fnExactClientSay", fn := fun _ => fun
  | [d1, d2] => { results := [.lit (.bool true)], args := [d1, d2] }
  | _ => none }
def fnExactClientSayRow : OpenClaim := { program := "ytopeacfbcdoljaa", sum := "3f31af6b307ec1d59f09b8730cde58edfd702e57189d6695737ad45dee799ed7", func := "loop.example/g00358/laws.FnExactClientSay", spec := "fnExactClientSay", apart := false }
def FnExactClientSaySaid : Prop := fnExactClientSayRow.holds Try.pinned (OpenSpec.ofChange fnExactClientSaySpec)

/-- ITS FALSE NEIGHBOUR: 'it returns false'. Refute it at one input. -/
def fnExactClientSayWrong : ChangeSpec := { name := "fnExactClientSay", fn := fun _ => fun
  | [d1, d2] => { results := [.lit (.bool false)], args := [d1, d2] }
  | _ => none }
def FnExactClientSayWrongFalsely : Prop := fnExactClientSayRow.holds Try.pinned (OpenSpec.ofChange fnExactClientSayWrong)

/-- 'laws.FnExactClientHear': WHATEVER THE INPUT: true; the input reads as it did. -/
def fnExactClientHearSpec : ChangeSpec := { name := "fnExactClientHear", fn := fun _ => fun
  | [d1, d2, d3] => { results := [.lit (.bool true)], args := [d1, d2, d3] }
  | _ => none }
def fnExactClientHearRow : OpenClaim := { program := "ytopeacfbcdoljaa", sum := "3f31af6b307ec1d59f09b8730cde58edfd702e57189d6695737ad45dee799ed7", func := "loop.example/g00358/laws.FnExactClientHear", spec := "fnExactClientHear", apart := false }
def FnExactClientHearSaid : Prop := fnExactClientHearRow.holds Try.pinned (OpenSpec.ofChange fnExactClientHearSpec)

/-- ITS FALSE NEIGHBOUR: 'it returns false'. Refute it at one input. -/
def fnExactClientHearWrong : ChangeSpec := { name := "fnExactClientHear", fn := fun _ => fun
  | [d1, d2, d3] => { results := [.lit (.bool false)], args := [d1, d2, d3] }
  | _ => none }
def FnExactClientHearWrongFalsely : Prop := fnExactClientHearRow.holds Try.pinned (OpenSpec.ofChange fnExactClientHearWrong)

/-- 'laws.FnExactElect': WHATEVER THE INPUT: true; the input reads as it did. -/
def fnExactElectSpec : ChangeSpec := { name := "fnExactElect", fn := fun _ => fun
  | [d] => { results := [.lit (.bool true)], args := [d] }
  | _ => none }
def fnExactElectRow : OpenClaim := { program := "ytopeacfbcdoljaa", sum := "3f31af6b307ec1d59f09b8730cde58edfd702e57189d6695737ad45dee799ed7", func := "loop.example/g00358/laws.FnExactElect", spec := "fnExactElect", unfollowed := true, recurses := true, apart := false }
def FnExactElectSaid : Prop := fnExactElectRow.holds Try.pinned (OpenSpec.ofChange fnExactElectSpec)

/-- ITS FALSE NEIGHBOUR: 'it returns false'. Refute it at one input. -/
def fnExactElectWrong : ChangeSpec := { name := "fnExactElect", fn := fun _ => fun
  | [d] => { results := [.lit (.bool false)], args := [d] }
  | _ => none }
def FnExactElectWrongFalsely : Prop := fnExactElectRow.holds Try.pinned (OpenSpec.ofChange fnExactElectWrong)

/- THE SECOND FORM. 'bulk': how many values and letters a reading holds, each counted each time it is reached (what is shared counts as often as it is met; a slice's spare places count too). A statement '..UptoSaid' is the law's where the arguments, and the package variables that the reading takes, are together of bulk at most 1048576: NARROWER than '..Said'. Prove '..Said' where nothing that the law and all that it calls make is longer than what came in: it says more and counts as full. Else prove '..UptoSaid'. A law counts once. -/
mutual
def uptoBulk {H : Type} : DataW H → Nat
  | .lit (.string bytes) => bytes.length + 1
  | .lit _ => 1
  | .nil => 1
  | .ptr d => uptoBulk d + 1
  | .slice elems spare => uptoBulkAll elems + uptoBulkAll spare + 1
  | .agg parts => uptoBulkAll parts + 1
  | .iface _ d => uptoBulk d + 1
  | .map entries => uptoBulkEntries entries + 1
  | .held _ => 1
def uptoBulkAll {H : Type} : List (DataW H) → Nat
  | [] => 0
  | d :: r => uptoBulk d + uptoBulkAll r
def uptoBulkEntries {H : Type} : List (Lit × DataW H) → Nat
  | [] => 0
  | x :: r => uptoBulkEntry x + uptoBulkEntries r
def uptoBulkEntry {H : Type} : Lit × DataW H → Nat
  | (.string bytes, d) => bytes.length + uptoBulk d + 1
  | (_, d) => uptoBulk d + 1
 end
def uptoSmall : (H : Type) → List (DataW H) → Bool := fun _ ds => decide (uptoBulkAll ds ≤ 1048576)
def OpenSpec.upto (s : _root_.Go.ChangeSpec) : _root_.Go.OpenSpec := { _root_.Go.OpenSpec.ofChange s with cond := some uptoSmall }

/-- 'laws.FnExactClientOk', WHERE WHAT IT READS IS OF BULK AT MOST 1048576: true; the input reads as it did. -/
def fnExactClientOkUptoRow : OpenClaim := { program := "ytopeacfbcdoljaa", sum := "3f31af6b307ec1d59f09b8730cde58edfd702e57189d6695737ad45dee799ed7", func := "loop.example/g00358/laws.FnExactClientOk", spec := "fnExactClientOk", apart := false, narrowed := true }
def FnExactClientOkUptoSaid : Prop := fnExactClientOkUptoRow.holds Try.pinned (OpenSpec.upto fnExactClientOkSpec)

/-- 'laws.FnExactClientCall', WHERE WHAT IT READS IS OF BULK AT MOST 1048576: true; the input reads as it did. -/
def fnExactClientCallUptoRow : OpenClaim := { program := "ytopeacfbcdoljaa", sum := "3f31af6b307ec1d59f09b8730cde58edfd702e57189d6695737ad45dee799ed7", func := "loop.example/g00358/laws.FnExactClientCall", spec := "fnExactClientCall", apart := false, narrowed := true }
def FnExactClientCallUptoSaid : Prop := fnExactClientCallUptoRow.holds Try.pinned (OpenSpec.upto fnExactClientCallSpec)

/-- 'laws.FnExactClientSay', WHERE WHAT IT READS IS OF BULK AT MOST 1048576: true; the input reads as it did. -/
def fnExactClientSayUptoRow : OpenClaim := { program := "ytopeacfbcdoljaa", sum := "3f31af6b307ec1d59f09b8730cde58edfd702e57189d6695737ad45dee799ed7", func := "loop.example/g00358/laws.FnExactClientSay", spec := "fnExactClientSay", apart := false, narrowed := true }
def FnExactClientSayUptoSaid : Prop := fnExactClientSayUptoRow.holds Try.pinned (OpenSpec.upto fnExactClientSaySpec)

/-- 'laws.FnExactClientHear', WHERE WHAT IT READS IS OF BULK AT MOST 1048576: true; the input reads as it did. -/
def fnExactClientHearUptoRow : OpenClaim := { program := "ytopeacfbcdoljaa", sum := "3f31af6b307ec1d59f09b8730cde58edfd702e57189d6695737ad45dee799ed7", func := "loop.example/g00358/laws.FnExactClientHear", spec := "fnExactClientHear", apart := false, narrowed := true }
def FnExactClientHearUptoSaid : Prop := fnExactClientHearUptoRow.holds Try.pinned (OpenSpec.upto fnExactClientHearSpec)

/-- 'laws.FnExactElect', WHERE WHAT IT READS IS OF BULK AT MOST 1048576: true; the input reads as it did. -/
def fnExactElectUptoRow : OpenClaim := { program := "ytopeacfbcdoljaa", sum := "3f31af6b307ec1d59f09b8730cde58edfd702e57189d6695737ad45dee799ed7", func := "loop.example/g00358/laws.FnExactElect", spec := "fnExactElect", unfollowed := true, recurses := true, apart := false, narrowed := true }
def FnExactElectUptoSaid : Prop := fnExactElectUptoRow.holds Try.pinned (OpenSpec.upto fnExactElectSpec)

end Rows
end Go.Proofs.Ytopeacfbcdoljaa
