/-
  DERIVED. GIVEN WITH THE SEED: THE CARDS: each row of YtibidhcmenljoaaGreatDoorRows.lean that lists a variable, with what it lists TIED to the program's text (the seventh form; the later family's looks); each row that meets fmt, with fmt's text TOLD by the authors' own Lean function (tested against real Go, not proved from fmt's source: count such statements apart). THE CARD IS WHAT COUNTS. Prove the row's statement (the work); the ties are given (YtibidhcmenljoaaGreatDoorTie.lean); close each card by the builder's one call (the guide's Derived/Test/ToyasCard.lean, 'card_holds'). Laid BY PROGRAM, IN A SANDBOX (cutbox-door.mjs). By AI agents, Wed Nov 11 2026. No macro, syntax, notation, axiom, sorry.
-/
import Derived.Test.YtibidhcmenljoaaGreatDoorRows
import GoSem.ClaimSeven
namespace Go.Proofs.YtibidhcmenljoaaGreatDoor
namespace Rows

/-- THE TIED CARD OF 'laws.FnExactServe'. -/
def fnExactServeCard : Claim7 := { stood := { row := fnExactServeRow, standIns := [], harness := (true, "3cec7aa116f05257544ba98604b63935bffbf178de94e47a54e549e17cdfff11"), looks := false }, kinds := [], alts := [], laidByText := true, laidKinds := [.data], laidTests := true, laidLooks := .later }
def FnExactServeCardSaid : Prop := Claim7.holds Tryz.pinned (.plain (OpenSpec.ofChange fnExactServeSpec)) fnExactServeCard

/-- THE TIED CARD OF 'laws.FnFold'. -/
def fnFoldCard : Claim7 := { stood := { row := fnFoldRow, standIns := [], harness := (true, "3cec7aa116f05257544ba98604b63935bffbf178de94e47a54e549e17cdfff11"), looks := false }, kinds := [], alts := [], laidByText := true, laidKinds := [.data], laidTests := true, laidLooks := .later }
def FnFoldCardSaid : Prop := Claim7.holds Tryz.pinned (.plain (OpenSpec.ofChange fnFoldSpec)) fnFoldCard

/-- THE TIED CARD OF 'laws.FnExactHeld'. -/
def fnExactHeldCard : Claim7 := { stood := { row := fnExactHeldRow, standIns := [], harness := (true, "3cec7aa116f05257544ba98604b63935bffbf178de94e47a54e549e17cdfff11"), looks := false }, kinds := [], alts := [], laidByText := true, laidKinds := [.data], laidTests := true, laidLooks := .later }
def FnExactHeldCardSaid : Prop := Claim7.holds Tryz.pinned (.plain (OpenSpec.ofChange fnExactHeldSpec)) fnExactHeldCard

/-- THE SECOND FORM's CARD OF 'laws.FnExactServe'. -/
def fnExactServeUptoCard : Claim7 := { stood := { row := fnExactServeUptoRow, standIns := [], harness := (true, "3cec7aa116f05257544ba98604b63935bffbf178de94e47a54e549e17cdfff11"), looks := false }, kinds := [], alts := [], laidByText := true, laidKinds := [.data], laidTests := true, laidLooks := .later }
def FnExactServeUptoCardSaid : Prop := Claim7.holds Tryz.pinned (.plain (OpenSpec.upto fnExactServeSpec)) fnExactServeUptoCard

/-- THE SECOND FORM's CARD OF 'laws.FnFold'. -/
def fnFoldUptoCard : Claim7 := { stood := { row := fnFoldUptoRow, standIns := [], harness := (true, "3cec7aa116f05257544ba98604b63935bffbf178de94e47a54e549e17cdfff11"), looks := false }, kinds := [], alts := [], laidByText := true, laidKinds := [.data], laidTests := true, laidLooks := .later }
def FnFoldUptoCardSaid : Prop := Claim7.holds Tryz.pinned (.plain (OpenSpec.upto fnFoldSpec)) fnFoldUptoCard

/-- THE SECOND FORM's CARD OF 'laws.FnExactHeld'. -/
def fnExactHeldUptoCard : Claim7 := { stood := { row := fnExactHeldUptoRow, standIns := [], harness := (true, "3cec7aa116f05257544ba98604b63935bffbf178de94e47a54e549e17cdfff11"), looks := false }, kinds := [], alts := [], laidByText := true, laidKinds := [.data], laidTests := true, laidLooks := .later }
def FnExactHeldUptoCardSaid : Prop := Claim7.holds Tryz.pinned (.plain (OpenSpec.upto fnExactHeldSpec)) fnExactHeldUptoCard
end Rows
end Go.Proofs.YtibidhcmenljoaaGreatDoor
