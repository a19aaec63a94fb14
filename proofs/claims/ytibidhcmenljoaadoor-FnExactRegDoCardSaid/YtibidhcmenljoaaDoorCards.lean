/-
  DERIVED. GIVEN WITH THE SEED: THE CARDS: each row of YtibidhcmenljoaaDoorRows.lean that lists a variable, with what it lists TIED to the program's text (the seventh form; the later family's looks); each row that meets fmt, with fmt's text TOLD by the authors' own Lean function (tested against real Go, not proved from fmt's source: count such statements apart). THE CARD IS WHAT COUNTS. Prove the row's statement (the work); the ties are given (YtibidhcmenljoaaDoorTie.lean); close each card by the builder's one call (the guide's Derived/Test/ToyasCard.lean, 'card_holds'). Laid BY PROGRAM, IN A SANDBOX (cutbox-door.mjs). By AI agents, Wed Nov 11 2026. No macro, syntax, notation, axiom, sorry.
-/
import Derived.Test.YtibidhcmenljoaaDoorRows
import GoSem.ClaimSeven
namespace Go.Proofs.YtibidhcmenljoaaDoor
namespace Rows

/-- THE TIED CARD OF 'laws.FnExactRegDo'. -/
def fnExactRegDoCard : Claim7 := { stood := { row := fnExactRegDoRow, standIns := [], harness := (true, "a2df26d58439b855399b8582b96a3e028e9e4f1d81778f9343bc229a25bf8cbd"), looks := false }, kinds := [], alts := [], laidByText := true, laidKinds := [.data], laidTests := true, laidLooks := .later }
def FnExactRegDoCardSaid : Prop := Claim7.holds Tryd.pinned (.plain (OpenSpec.ofChange fnExactRegDoSpec)) fnExactRegDoCard

/-- THE TIED CARD OF 'laws.FnForward'. -/
def fnForwardCard : Claim7 := { stood := { row := fnForwardRow, standIns := [], harness := (true, "a2df26d58439b855399b8582b96a3e028e9e4f1d81778f9343bc229a25bf8cbd"), looks := false }, kinds := [], alts := [], laidByText := true, laidKinds := [.data], laidTests := true, laidLooks := .later }
def FnForwardCardSaid : Prop := Claim7.holds Tryd.pinned (.plain (OpenSpec.ofChange fnForwardSpec)) fnForwardCard

/-- THE TIED CARD OF 'laws.FnOnce'. -/
def fnOnceCard : Claim7 := { stood := { row := fnOnceRow, standIns := [], harness := (true, "a2df26d58439b855399b8582b96a3e028e9e4f1d81778f9343bc229a25bf8cbd"), looks := false }, kinds := [], alts := [], laidByText := true, laidKinds := [.data], laidTests := true, laidLooks := .later }
def FnOnceCardSaid : Prop := Claim7.holds Tryd.pinned (.plain (OpenSpec.ofChange fnOnceSpec)) fnOnceCard

/-- THE TIED CARD OF 'laws.FnPublished'. -/
def fnPublishedCard : Claim7 := { stood := { row := fnPublishedRow, standIns := [], harness := (true, "a2df26d58439b855399b8582b96a3e028e9e4f1d81778f9343bc229a25bf8cbd"), looks := false }, kinds := [], alts := [], laidByText := true, laidKinds := [.data], laidTests := true, laidLooks := .later }
def FnPublishedCardSaid : Prop := Claim7.holds Tryd.pinned (.plain (OpenSpec.ofChange fnPublishedSpec)) fnPublishedCard

/-- THE TIED CARD OF 'laws.FnExactFoldReg'. -/
def fnExactFoldRegCard : Claim7 := { stood := { row := fnExactFoldRegRow, standIns := [], harness := (true, "a2df26d58439b855399b8582b96a3e028e9e4f1d81778f9343bc229a25bf8cbd"), looks := false }, kinds := [], alts := [], laidByText := true, laidKinds := [.data], laidTests := true, laidLooks := .later }
def FnExactFoldRegCardSaid : Prop := Claim7.holds Tryd.pinned (.plain (OpenSpec.ofChange fnExactFoldRegSpec)) fnExactFoldRegCard

/-- THE TIED CARD OF 'laws.FnExactOrderOf'. -/
def fnExactOrderOfCard : Claim7 := { stood := { row := fnExactOrderOfRow, standIns := [], harness := (true, "a2df26d58439b855399b8582b96a3e028e9e4f1d81778f9343bc229a25bf8cbd"), looks := false }, kinds := [], alts := [], laidByText := true, laidKinds := [.data], laidTests := true, laidLooks := .later }
def FnExactOrderOfCardSaid : Prop := Claim7.holds Tryd.pinned (.plain (OpenSpec.ofChange fnExactOrderOfSpec)) fnExactOrderOfCard

/-- THE TIED CARD OF 'laws.FnExactLinear'. -/
def fnExactLinearCard : Claim7 := { stood := { row := fnExactLinearRow, standIns := [], harness := (true, "a2df26d58439b855399b8582b96a3e028e9e4f1d81778f9343bc229a25bf8cbd"), looks := false }, kinds := [], alts := [], laidByText := true, laidKinds := [.data], laidTests := true, laidLooks := .later }
def FnExactLinearCardSaid : Prop := Claim7.holds Tryd.pinned (.plain (OpenSpec.ofChange fnExactLinearSpec)) fnExactLinearCard

/-- THE TIED CARD OF 'laws.FnImage'. -/
def fnImageCard : Claim7 := { stood := { row := fnImageRow, standIns := [], harness := (true, "a2df26d58439b855399b8582b96a3e028e9e4f1d81778f9343bc229a25bf8cbd"), looks := false }, kinds := [], alts := [], laidByText := true, laidKinds := [.data], laidTests := true, laidLooks := .later }
def FnImageCardSaid : Prop := Claim7.holds Tryd.pinned (.plain (OpenSpec.ofChange fnImageSpec)) fnImageCard

/-- THE TIED CARD OF 'laws.FnExactGateOk'. -/
def fnExactGateOkCard : Claim7 := { stood := { row := fnExactGateOkRow, standIns := [], harness := (true, "a2df26d58439b855399b8582b96a3e028e9e4f1d81778f9343bc229a25bf8cbd"), looks := false }, kinds := [], alts := [], laidByText := true, laidKinds := [.data], laidTests := true, laidLooks := .later }
def FnExactGateOkCardSaid : Prop := Claim7.holds Tryd.pinned (.plain (OpenSpec.ofChange fnExactGateOkSpec)) fnExactGateOkCard

/-- THE SECOND FORM's CARD OF 'laws.FnExactRegDo'. -/
def fnExactRegDoUptoCard : Claim7 := { stood := { row := fnExactRegDoUptoRow, standIns := [], harness := (true, "a2df26d58439b855399b8582b96a3e028e9e4f1d81778f9343bc229a25bf8cbd"), looks := false }, kinds := [], alts := [], laidByText := true, laidKinds := [.data], laidTests := true, laidLooks := .later }
def FnExactRegDoUptoCardSaid : Prop := Claim7.holds Tryd.pinned (.plain (OpenSpec.upto fnExactRegDoSpec)) fnExactRegDoUptoCard

/-- THE SECOND FORM's CARD OF 'laws.FnForward'. -/
def fnForwardUptoCard : Claim7 := { stood := { row := fnForwardUptoRow, standIns := [], harness := (true, "a2df26d58439b855399b8582b96a3e028e9e4f1d81778f9343bc229a25bf8cbd"), looks := false }, kinds := [], alts := [], laidByText := true, laidKinds := [.data], laidTests := true, laidLooks := .later }
def FnForwardUptoCardSaid : Prop := Claim7.holds Tryd.pinned (.plain (OpenSpec.upto fnForwardSpec)) fnForwardUptoCard

/-- THE SECOND FORM's CARD OF 'laws.FnOnce'. -/
def fnOnceUptoCard : Claim7 := { stood := { row := fnOnceUptoRow, standIns := [], harness := (true, "a2df26d58439b855399b8582b96a3e028e9e4f1d81778f9343bc229a25bf8cbd"), looks := false }, kinds := [], alts := [], laidByText := true, laidKinds := [.data], laidTests := true, laidLooks := .later }
def FnOnceUptoCardSaid : Prop := Claim7.holds Tryd.pinned (.plain (OpenSpec.upto fnOnceSpec)) fnOnceUptoCard

/-- THE SECOND FORM's CARD OF 'laws.FnPublished'. -/
def fnPublishedUptoCard : Claim7 := { stood := { row := fnPublishedUptoRow, standIns := [], harness := (true, "a2df26d58439b855399b8582b96a3e028e9e4f1d81778f9343bc229a25bf8cbd"), looks := false }, kinds := [], alts := [], laidByText := true, laidKinds := [.data], laidTests := true, laidLooks := .later }
def FnPublishedUptoCardSaid : Prop := Claim7.holds Tryd.pinned (.plain (OpenSpec.upto fnPublishedSpec)) fnPublishedUptoCard

/-- THE SECOND FORM's CARD OF 'laws.FnExactFoldReg'. -/
def fnExactFoldRegUptoCard : Claim7 := { stood := { row := fnExactFoldRegUptoRow, standIns := [], harness := (true, "a2df26d58439b855399b8582b96a3e028e9e4f1d81778f9343bc229a25bf8cbd"), looks := false }, kinds := [], alts := [], laidByText := true, laidKinds := [.data], laidTests := true, laidLooks := .later }
def FnExactFoldRegUptoCardSaid : Prop := Claim7.holds Tryd.pinned (.plain (OpenSpec.upto fnExactFoldRegSpec)) fnExactFoldRegUptoCard

/-- THE SECOND FORM's CARD OF 'laws.FnExactOrderOf'. -/
def fnExactOrderOfUptoCard : Claim7 := { stood := { row := fnExactOrderOfUptoRow, standIns := [], harness := (true, "a2df26d58439b855399b8582b96a3e028e9e4f1d81778f9343bc229a25bf8cbd"), looks := false }, kinds := [], alts := [], laidByText := true, laidKinds := [.data], laidTests := true, laidLooks := .later }
def FnExactOrderOfUptoCardSaid : Prop := Claim7.holds Tryd.pinned (.plain (OpenSpec.upto fnExactOrderOfSpec)) fnExactOrderOfUptoCard

/-- THE SECOND FORM's CARD OF 'laws.FnExactLinear'. -/
def fnExactLinearUptoCard : Claim7 := { stood := { row := fnExactLinearUptoRow, standIns := [], harness := (true, "a2df26d58439b855399b8582b96a3e028e9e4f1d81778f9343bc229a25bf8cbd"), looks := false }, kinds := [], alts := [], laidByText := true, laidKinds := [.data], laidTests := true, laidLooks := .later }
def FnExactLinearUptoCardSaid : Prop := Claim7.holds Tryd.pinned (.plain (OpenSpec.upto fnExactLinearSpec)) fnExactLinearUptoCard

/-- THE SECOND FORM's CARD OF 'laws.FnImage'. -/
def fnImageUptoCard : Claim7 := { stood := { row := fnImageUptoRow, standIns := [], harness := (true, "a2df26d58439b855399b8582b96a3e028e9e4f1d81778f9343bc229a25bf8cbd"), looks := false }, kinds := [], alts := [], laidByText := true, laidKinds := [.data], laidTests := true, laidLooks := .later }
def FnImageUptoCardSaid : Prop := Claim7.holds Tryd.pinned (.plain (OpenSpec.upto fnImageSpec)) fnImageUptoCard

/-- THE SECOND FORM's CARD OF 'laws.FnExactGateOk'. -/
def fnExactGateOkUptoCard : Claim7 := { stood := { row := fnExactGateOkUptoRow, standIns := [], harness := (true, "a2df26d58439b855399b8582b96a3e028e9e4f1d81778f9343bc229a25bf8cbd"), looks := false }, kinds := [], alts := [], laidByText := true, laidKinds := [.data], laidTests := true, laidLooks := .later }
def FnExactGateOkUptoCardSaid : Prop := Claim7.holds Tryd.pinned (.plain (OpenSpec.upto fnExactGateOkSpec)) fnExactGateOkUptoCard
end Rows
end Go.Proofs.YtibidhcmenljoaaDoor
