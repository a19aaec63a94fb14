/-
  DERIVED. GIVEN WITH THE SEED: THE CARDS: each row of YtacbkfginiknaaaDoorRows.lean that lists a variable, with what it lists TIED to the program's text (the seventh form; the later family's looks); each row that meets fmt, with fmt's text TOLD by the authors' own Lean function (tested against real Go, not proved from fmt's source: count such statements apart). THE CARD IS WHAT COUNTS. Prove the row's statement (the work); the ties are given (YtacbkfginiknaaaDoorTie.lean); close each card by the builder's one call (the guide's Derived/Test/ToyasCard.lean, 'card_holds'). Laid BY PROGRAM, IN A SANDBOX (cutbox-door.mjs). By AI agents, Wed Nov 11 2026. No macro, syntax, notation, axiom, sorry.
-/
import Derived.Test.YtacbkfginiknaaaDoorRows
import GoSem.ClaimSeven
namespace Go.Proofs.YtacbkfginiknaaaDoor
namespace Rows

/-- THE TIED CARD OF 'laws.FnExactGateSay'. -/
def fnExactGateSayCard : Claim7 := { stood := { row := fnExactGateSayRow, standIns := [], harness := (true, "a41457ff83bf0a203aed937958e961eb5edf9b5f59cb0420fd796b24d3342bac"), looks := false }, kinds := [], alts := [], laidByText := true, laidKinds := [.data], laidTests := true, laidLooks := .later }
def FnExactGateSayCardSaid : Prop := Claim7.holds Tryd.pinned (.plain (OpenSpec.ofChange fnExactGateSaySpec)) fnExactGateSayCard

/-- THE TIED CARD OF 'laws.FnExactGateAsk'. -/
def fnExactGateAskCard : Claim7 := { stood := { row := fnExactGateAskRow, standIns := [], harness := (true, "a41457ff83bf0a203aed937958e961eb5edf9b5f59cb0420fd796b24d3342bac"), looks := false }, kinds := [], alts := [], laidByText := true, laidKinds := [.data], laidTests := true, laidLooks := .later }
def FnExactGateAskCardSaid : Prop := Claim7.holds Tryd.pinned (.plain (OpenSpec.ofChange fnExactGateAskSpec)) fnExactGateAskCard

/-- THE TIED CARD OF 'laws.FnImage'. -/
def fnImageCard : Claim7 := { stood := { row := fnImageRow, standIns := [], harness := (true, "a41457ff83bf0a203aed937958e961eb5edf9b5f59cb0420fd796b24d3342bac"), looks := false }, kinds := [], alts := [], laidByText := true, laidKinds := [.data], laidTests := true, laidLooks := .later }
def FnImageCardSaid : Prop := Claim7.holds Tryd.pinned (.plain (OpenSpec.ofChange fnImageSpec)) fnImageCard

/-- THE SECOND FORM's CARD OF 'laws.FnExactGateSay'. -/
def fnExactGateSayUptoCard : Claim7 := { stood := { row := fnExactGateSayUptoRow, standIns := [], harness := (true, "a41457ff83bf0a203aed937958e961eb5edf9b5f59cb0420fd796b24d3342bac"), looks := false }, kinds := [], alts := [], laidByText := true, laidKinds := [.data], laidTests := true, laidLooks := .later }
def FnExactGateSayUptoCardSaid : Prop := Claim7.holds Tryd.pinned (.plain (OpenSpec.upto fnExactGateSaySpec)) fnExactGateSayUptoCard

/-- THE SECOND FORM's CARD OF 'laws.FnExactGateAsk'. -/
def fnExactGateAskUptoCard : Claim7 := { stood := { row := fnExactGateAskUptoRow, standIns := [], harness := (true, "a41457ff83bf0a203aed937958e961eb5edf9b5f59cb0420fd796b24d3342bac"), looks := false }, kinds := [], alts := [], laidByText := true, laidKinds := [.data], laidTests := true, laidLooks := .later }
def FnExactGateAskUptoCardSaid : Prop := Claim7.holds Tryd.pinned (.plain (OpenSpec.upto fnExactGateAskSpec)) fnExactGateAskUptoCard

/-- THE SECOND FORM's CARD OF 'laws.FnImage'. -/
def fnImageUptoCard : Claim7 := { stood := { row := fnImageUptoRow, standIns := [], harness := (true, "a41457ff83bf0a203aed937958e961eb5edf9b5f59cb0420fd796b24d3342bac"), looks := false }, kinds := [], alts := [], laidByText := true, laidKinds := [.data], laidTests := true, laidLooks := .later }
def FnImageUptoCardSaid : Prop := Claim7.holds Tryd.pinned (.plain (OpenSpec.upto fnImageSpec)) fnImageUptoCard
end Rows
end Go.Proofs.YtacbkfginiknaaaDoor
