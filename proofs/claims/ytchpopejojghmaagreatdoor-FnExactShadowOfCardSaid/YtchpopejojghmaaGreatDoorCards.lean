/-
  DERIVED. GIVEN WITH THE SEED: THE CARDS: each row of YtchpopejojghmaaGreatDoorRows.lean that lists a variable, with what it lists TIED to the program's text (the seventh form; the later family's looks); each row that meets fmt, with fmt's text TOLD by the authors' own Lean function (tested against real Go, not proved from fmt's source: count such statements apart). THE CARD IS WHAT COUNTS. Prove the row's statement (the work); the ties are given (YtchpopejojghmaaGreatDoorTie.lean); close each card by the builder's one call (the guide's Derived/Test/ToyasCard.lean, 'card_holds'). Laid BY PROGRAM, IN A SANDBOX (cutbox-door.mjs). By AI agents, Wed Nov 11 2026. No macro, syntax, notation, axiom, sorry.
-/
import Derived.Test.YtchpopejojghmaaGreatDoorRows
import GoSem.ClaimSeven
namespace Go.Proofs.YtchpopejojghmaaGreatDoor
namespace Rows

/-- THE TIED CARD OF 'laws.FnExactFits'. -/
def fnExactFitsCard : Claim7 := { stood := { row := fnExactFitsRow, standIns := [], harness := (true, "58cf28f6ed61721007b4d8fb93fa40732bacea965e45d8a32e28f6f0d8fc411d"), looks := false }, kinds := [], alts := [], laidByText := true, laidKinds := [.data, .pinned], laidTests := true, laidLooks := .later }
def FnExactFitsCardSaid : Prop := Claim7.holds Tryz.pinned (.plain (OpenSpec.ofChange fnExactFitsSpec)) fnExactFitsCard

/-- THE TIED CARD OF 'laws.FnExactSameShapes'. -/
def fnExactSameShapesCard : Claim7 := { stood := { row := fnExactSameShapesRow, standIns := [], harness := (true, "58cf28f6ed61721007b4d8fb93fa40732bacea965e45d8a32e28f6f0d8fc411d"), looks := false }, kinds := [], alts := [], laidByText := true, laidKinds := [.data, .pinned], laidTests := true, laidLooks := .later }
def FnExactSameShapesCardSaid : Prop := Claim7.holds Tryz.pinned (.plain (OpenSpec.ofChange fnExactSameShapesSpec)) fnExactSameShapesCard

/-- THE TIED CARD OF 'laws.FnExactShadowOf'. -/
def fnExactShadowOfCard : Claim7 := { stood := { row := fnExactShadowOfRow, standIns := [], harness := (true, "58cf28f6ed61721007b4d8fb93fa40732bacea965e45d8a32e28f6f0d8fc411d"), looks := false }, kinds := [], alts := [], laidByText := true, laidKinds := [.data, .pinned], laidTests := true, laidLooks := .later }
def FnExactShadowOfCardSaid : Prop := Claim7.holds Tryz.pinned (.plain (OpenSpec.ofChange fnExactShadowOfSpec)) fnExactShadowOfCard

/-- THE TIED CARD OF 'laws.FnExactBestOf'. -/
def fnExactBestOfCard : Claim7 := { stood := { row := fnExactBestOfRow, standIns := [], harness := (true, "58cf28f6ed61721007b4d8fb93fa40732bacea965e45d8a32e28f6f0d8fc411d"), looks := false }, kinds := [], alts := [], laidByText := true, laidKinds := [.data, .pinned], laidTests := true, laidLooks := .later }
def FnExactBestOfCardSaid : Prop := Claim7.holds Tryz.pinned (.plain (OpenSpec.ofChange fnExactBestOfSpec)) fnExactBestOfCard

/-- THE TIED CARD OF 'laws.FnTopBest'. -/
def fnTopBestCard : Claim7 := { stood := { row := fnTopBestRow, standIns := [], harness := (true, "58cf28f6ed61721007b4d8fb93fa40732bacea965e45d8a32e28f6f0d8fc411d"), looks := false }, kinds := [], alts := [], laidByText := true, laidKinds := [.data, .pinned], laidTests := true, laidLooks := .later }
def FnTopBestCardSaid : Prop := Claim7.holds Tryz.pinned (.plain (OpenSpec.ofChange fnTopBestSpec)) fnTopBestCard

/-- THE TIED CARD OF 'laws.FnFits'. -/
def fnFitsCard : Claim7 := { stood := { row := fnFitsRow, standIns := [], harness := (true, "58cf28f6ed61721007b4d8fb93fa40732bacea965e45d8a32e28f6f0d8fc411d"), looks := false }, kinds := [], alts := [], laidByText := true, laidKinds := [.data, .pinned], laidTests := true, laidLooks := .later }
def FnFitsCardSaid : Prop := Claim7.holds Tryz.pinned (.plain (OpenSpec.ofChange fnFitsSpec)) fnFitsCard

/-- THE TIED CARD OF 'laws.FnSameShapes'. -/
def fnSameShapesCard : Claim7 := { stood := { row := fnSameShapesRow, standIns := [], harness := (true, "58cf28f6ed61721007b4d8fb93fa40732bacea965e45d8a32e28f6f0d8fc411d"), looks := false }, kinds := [], alts := [], laidByText := true, laidKinds := [.data, .pinned], laidTests := true, laidLooks := .later }
def FnSameShapesCardSaid : Prop := Claim7.holds Tryz.pinned (.plain (OpenSpec.ofChange fnSameShapesSpec)) fnSameShapesCard

/-- THE TIED CARD OF 'laws.FnFirstRefused'. -/
def fnFirstRefusedCard : Claim7 := { stood := { row := fnFirstRefusedRow, standIns := [], harness := (true, "58cf28f6ed61721007b4d8fb93fa40732bacea965e45d8a32e28f6f0d8fc411d"), looks := false }, kinds := [], alts := [], laidByText := true, laidKinds := [.data, .pinned], laidTests := true, laidLooks := .later }
def FnFirstRefusedCardSaid : Prop := Claim7.holds Tryz.pinned (.plain (OpenSpec.ofChange fnFirstRefusedSpec)) fnFirstRefusedCard

/-- THE TIED CARD OF 'laws.FnShadowOf'. -/
def fnShadowOfCard : Claim7 := { stood := { row := fnShadowOfRow, standIns := [], harness := (true, "58cf28f6ed61721007b4d8fb93fa40732bacea965e45d8a32e28f6f0d8fc411d"), looks := false }, kinds := [], alts := [], laidByText := true, laidKinds := [.data, .pinned], laidTests := true, laidLooks := .later }
def FnShadowOfCardSaid : Prop := Claim7.holds Tryz.pinned (.plain (OpenSpec.ofChange fnShadowOfSpec)) fnShadowOfCard

/-- THE TIED CARD OF 'laws.FnBestOf'. -/
def fnBestOfCard : Claim7 := { stood := { row := fnBestOfRow, standIns := [], harness := (true, "58cf28f6ed61721007b4d8fb93fa40732bacea965e45d8a32e28f6f0d8fc411d"), looks := false }, kinds := [], alts := [], laidByText := true, laidKinds := [.data, .pinned], laidTests := true, laidLooks := .later }
def FnBestOfCardSaid : Prop := Claim7.holds Tryz.pinned (.plain (OpenSpec.ofChange fnBestOfSpec)) fnBestOfCard

/-- THE TIED CARD OF 'laws.FnCallBest'. -/
def fnCallBestCard : Claim7 := { stood := { row := fnCallBestRow, standIns := [], harness := (true, "58cf28f6ed61721007b4d8fb93fa40732bacea965e45d8a32e28f6f0d8fc411d"), looks := false }, kinds := [], alts := [], laidByText := true, laidKinds := [.data, .pinned], laidTests := true, laidLooks := .later }
def FnCallBestCardSaid : Prop := Claim7.holds Tryz.pinned (.plain (OpenSpec.ofChange fnCallBestSpec)) fnCallBestCard

/-- THE TIED CARD OF 'laws.FnCommonShape'. -/
def fnCommonShapeCard : Claim7 := { stood := { row := fnCommonShapeRow, standIns := [], harness := (true, "58cf28f6ed61721007b4d8fb93fa40732bacea965e45d8a32e28f6f0d8fc411d"), looks := false }, kinds := [], alts := [], laidByText := true, laidKinds := [.data, .pinned], laidTests := true, laidLooks := .later }
def FnCommonShapeCardSaid : Prop := Claim7.holds Tryz.pinned (.plain (OpenSpec.ofChange fnCommonShapeSpec)) fnCommonShapeCard

/-- THE SECOND FORM's CARD OF 'laws.FnExactFits'. -/
def fnExactFitsUptoCard : Claim7 := { stood := { row := fnExactFitsUptoRow, standIns := [], harness := (true, "58cf28f6ed61721007b4d8fb93fa40732bacea965e45d8a32e28f6f0d8fc411d"), looks := false }, kinds := [], alts := [], laidByText := true, laidKinds := [.data, .pinned], laidTests := true, laidLooks := .later }
def FnExactFitsUptoCardSaid : Prop := Claim7.holds Tryz.pinned (.plain (OpenSpec.upto fnExactFitsSpec)) fnExactFitsUptoCard

/-- THE SECOND FORM's CARD OF 'laws.FnExactSameShapes'. -/
def fnExactSameShapesUptoCard : Claim7 := { stood := { row := fnExactSameShapesUptoRow, standIns := [], harness := (true, "58cf28f6ed61721007b4d8fb93fa40732bacea965e45d8a32e28f6f0d8fc411d"), looks := false }, kinds := [], alts := [], laidByText := true, laidKinds := [.data, .pinned], laidTests := true, laidLooks := .later }
def FnExactSameShapesUptoCardSaid : Prop := Claim7.holds Tryz.pinned (.plain (OpenSpec.upto fnExactSameShapesSpec)) fnExactSameShapesUptoCard

/-- THE SECOND FORM's CARD OF 'laws.FnExactShadowOf'. -/
def fnExactShadowOfUptoCard : Claim7 := { stood := { row := fnExactShadowOfUptoRow, standIns := [], harness := (true, "58cf28f6ed61721007b4d8fb93fa40732bacea965e45d8a32e28f6f0d8fc411d"), looks := false }, kinds := [], alts := [], laidByText := true, laidKinds := [.data, .pinned], laidTests := true, laidLooks := .later }
def FnExactShadowOfUptoCardSaid : Prop := Claim7.holds Tryz.pinned (.plain (OpenSpec.upto fnExactShadowOfSpec)) fnExactShadowOfUptoCard

/-- THE SECOND FORM's CARD OF 'laws.FnExactBestOf'. -/
def fnExactBestOfUptoCard : Claim7 := { stood := { row := fnExactBestOfUptoRow, standIns := [], harness := (true, "58cf28f6ed61721007b4d8fb93fa40732bacea965e45d8a32e28f6f0d8fc411d"), looks := false }, kinds := [], alts := [], laidByText := true, laidKinds := [.data, .pinned], laidTests := true, laidLooks := .later }
def FnExactBestOfUptoCardSaid : Prop := Claim7.holds Tryz.pinned (.plain (OpenSpec.upto fnExactBestOfSpec)) fnExactBestOfUptoCard

/-- THE SECOND FORM's CARD OF 'laws.FnTopBest'. -/
def fnTopBestUptoCard : Claim7 := { stood := { row := fnTopBestUptoRow, standIns := [], harness := (true, "58cf28f6ed61721007b4d8fb93fa40732bacea965e45d8a32e28f6f0d8fc411d"), looks := false }, kinds := [], alts := [], laidByText := true, laidKinds := [.data, .pinned], laidTests := true, laidLooks := .later }
def FnTopBestUptoCardSaid : Prop := Claim7.holds Tryz.pinned (.plain (OpenSpec.upto fnTopBestSpec)) fnTopBestUptoCard

/-- THE SECOND FORM's CARD OF 'laws.FnFits'. -/
def fnFitsUptoCard : Claim7 := { stood := { row := fnFitsUptoRow, standIns := [], harness := (true, "58cf28f6ed61721007b4d8fb93fa40732bacea965e45d8a32e28f6f0d8fc411d"), looks := false }, kinds := [], alts := [], laidByText := true, laidKinds := [.data, .pinned], laidTests := true, laidLooks := .later }
def FnFitsUptoCardSaid : Prop := Claim7.holds Tryz.pinned (.plain (OpenSpec.upto fnFitsSpec)) fnFitsUptoCard

/-- THE SECOND FORM's CARD OF 'laws.FnSameShapes'. -/
def fnSameShapesUptoCard : Claim7 := { stood := { row := fnSameShapesUptoRow, standIns := [], harness := (true, "58cf28f6ed61721007b4d8fb93fa40732bacea965e45d8a32e28f6f0d8fc411d"), looks := false }, kinds := [], alts := [], laidByText := true, laidKinds := [.data, .pinned], laidTests := true, laidLooks := .later }
def FnSameShapesUptoCardSaid : Prop := Claim7.holds Tryz.pinned (.plain (OpenSpec.upto fnSameShapesSpec)) fnSameShapesUptoCard

/-- THE SECOND FORM's CARD OF 'laws.FnFirstRefused'. -/
def fnFirstRefusedUptoCard : Claim7 := { stood := { row := fnFirstRefusedUptoRow, standIns := [], harness := (true, "58cf28f6ed61721007b4d8fb93fa40732bacea965e45d8a32e28f6f0d8fc411d"), looks := false }, kinds := [], alts := [], laidByText := true, laidKinds := [.data, .pinned], laidTests := true, laidLooks := .later }
def FnFirstRefusedUptoCardSaid : Prop := Claim7.holds Tryz.pinned (.plain (OpenSpec.upto fnFirstRefusedSpec)) fnFirstRefusedUptoCard

/-- THE SECOND FORM's CARD OF 'laws.FnShadowOf'. -/
def fnShadowOfUptoCard : Claim7 := { stood := { row := fnShadowOfUptoRow, standIns := [], harness := (true, "58cf28f6ed61721007b4d8fb93fa40732bacea965e45d8a32e28f6f0d8fc411d"), looks := false }, kinds := [], alts := [], laidByText := true, laidKinds := [.data, .pinned], laidTests := true, laidLooks := .later }
def FnShadowOfUptoCardSaid : Prop := Claim7.holds Tryz.pinned (.plain (OpenSpec.upto fnShadowOfSpec)) fnShadowOfUptoCard

/-- THE SECOND FORM's CARD OF 'laws.FnBestOf'. -/
def fnBestOfUptoCard : Claim7 := { stood := { row := fnBestOfUptoRow, standIns := [], harness := (true, "58cf28f6ed61721007b4d8fb93fa40732bacea965e45d8a32e28f6f0d8fc411d"), looks := false }, kinds := [], alts := [], laidByText := true, laidKinds := [.data, .pinned], laidTests := true, laidLooks := .later }
def FnBestOfUptoCardSaid : Prop := Claim7.holds Tryz.pinned (.plain (OpenSpec.upto fnBestOfSpec)) fnBestOfUptoCard

/-- THE SECOND FORM's CARD OF 'laws.FnCallBest'. -/
def fnCallBestUptoCard : Claim7 := { stood := { row := fnCallBestUptoRow, standIns := [], harness := (true, "58cf28f6ed61721007b4d8fb93fa40732bacea965e45d8a32e28f6f0d8fc411d"), looks := false }, kinds := [], alts := [], laidByText := true, laidKinds := [.data, .pinned], laidTests := true, laidLooks := .later }
def FnCallBestUptoCardSaid : Prop := Claim7.holds Tryz.pinned (.plain (OpenSpec.upto fnCallBestSpec)) fnCallBestUptoCard

/-- THE SECOND FORM's CARD OF 'laws.FnCommonShape'. -/
def fnCommonShapeUptoCard : Claim7 := { stood := { row := fnCommonShapeUptoRow, standIns := [], harness := (true, "58cf28f6ed61721007b4d8fb93fa40732bacea965e45d8a32e28f6f0d8fc411d"), looks := false }, kinds := [], alts := [], laidByText := true, laidKinds := [.data, .pinned], laidTests := true, laidLooks := .later }
def FnCommonShapeUptoCardSaid : Prop := Claim7.holds Tryz.pinned (.plain (OpenSpec.upto fnCommonShapeSpec)) fnCommonShapeUptoCard
end Rows
end Go.Proofs.YtchpopejojghmaaGreatDoor
