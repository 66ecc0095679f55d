/-
  DERIVED. GIVEN WITH THE SEED: THE CARDS: each row of YtoofegkjdjlpkaaGreatDoorRows.lean that lists a variable, with what it lists TIED to the program's text (the seventh form; the later family's looks); each row that meets fmt, with fmt's text TOLD by the authors' own Lean function (tested against real Go, not proved from fmt's source: count such statements apart). THE CARD IS WHAT COUNTS. Prove the row's statement (the work); the ties are given (YtoofegkjdjlpkaaGreatDoorTie.lean); close each card by the builder's one call (the guide's Derived/Test/ToyasCard.lean, 'card_holds'). Laid BY PROGRAM, IN A SANDBOX (cutbox-door.mjs). By AI agents, Wed Nov 11 2026. No macro, syntax, notation, axiom, sorry.
-/
import Derived.Test.YtoofegkjdjlpkaaGreatDoorRows
import GoSem.ClaimSeven
namespace Go.Proofs.YtoofegkjdjlpkaaGreatDoor
namespace Rows

/-- THE TIED CARD OF 'laws.FnTopCall'. -/
def fnTopCallCard : Claim7 := { stood := { row := fnTopCallRow, standIns := [], harness := (true, "6af407fc56b56d24dafd4bef92b6c41c39bb5ba1700148006ccefa22d4aecaeb"), looks := true }, kinds := [], alts := [], laidByText := true, laidKinds := [.data, .data, .data, .data, .sentinel, .sentinel, .pinned], laidTests := true, laidLooks := .later }
def FnTopCallCardSaid : Prop := Claim7.holds Tryz.pinned (.plain (OpenSpec.ofChange fnTopCallSpec)) fnTopCallCard

/-- THE TIED CARD OF 'laws.FnExactParseCall'. -/
def fnExactParseCallCard : Claim7 := { stood := { row := fnExactParseCallRow, standIns := [], harness := (true, "6af407fc56b56d24dafd4bef92b6c41c39bb5ba1700148006ccefa22d4aecaeb"), looks := true }, kinds := [], alts := [], laidByText := true, laidKinds := [.data, .data, .data, .data, .sentinel, .sentinel, .pinned], laidTests := true, laidLooks := .later }
def FnExactParseCallCardSaid : Prop := Claim7.holds Tryz.pinned (.plain (OpenSpec.ofChange fnExactParseCallSpec)) fnExactParseCallCard

/-- THE TIED CARD OF 'laws.FnCallText'. -/
def fnCallTextCard : Claim7 := { stood := { row := fnCallTextRow, standIns := [], harness := (true, "6af407fc56b56d24dafd4bef92b6c41c39bb5ba1700148006ccefa22d4aecaeb"), looks := true }, kinds := [], alts := [], laidByText := true, laidKinds := [.data, .data, .data, .data, .sentinel, .sentinel, .pinned], laidTests := true, laidLooks := .later }
def FnCallTextCardSaid : Prop := Claim7.holds Tryz.pinned (.plain (OpenSpec.ofChange fnCallTextSpec)) fnCallTextCard

/-- THE TIED CARD OF 'laws.FnParseCall'. -/
def fnParseCallCard : Claim7 := { stood := { row := fnParseCallRow, standIns := [], harness := (true, "6af407fc56b56d24dafd4bef92b6c41c39bb5ba1700148006ccefa22d4aecaeb"), looks := true }, kinds := [], alts := [], laidByText := true, laidKinds := [.data, .data, .data, .data, .sentinel, .sentinel, .pinned], laidTests := true, laidLooks := .later }
def FnParseCallCardSaid : Prop := Claim7.holds Tryz.pinned (.plain (OpenSpec.ofChange fnParseCallSpec)) fnParseCallCard

/-- THE TIED CARD OF 'laws.FnCallTextFlat'. -/
def fnCallTextFlatCard : Claim7 := { stood := { row := fnCallTextFlatRow, standIns := [], harness := (true, "6af407fc56b56d24dafd4bef92b6c41c39bb5ba1700148006ccefa22d4aecaeb"), looks := true }, kinds := [], alts := [], laidByText := true, laidKinds := [.data, .data, .data, .data, .sentinel, .sentinel, .pinned], laidTests := true, laidLooks := .later }
def FnCallTextFlatCardSaid : Prop := Claim7.holds Tryz.pinned (.plain (OpenSpec.ofChange fnCallTextFlatSpec)) fnCallTextFlatCard

/-- THE TIED CARD OF 'laws.FnExactParseSignature'. -/
def fnExactParseSignatureCard : Claim7 := { stood := { row := fnExactParseSignatureRow, standIns := [], harness := (true, "6af407fc56b56d24dafd4bef92b6c41c39bb5ba1700148006ccefa22d4aecaeb"), looks := true }, kinds := [], alts := [], laidByText := true, laidKinds := [.data, .data, .data, .data, .sentinel, .sentinel, .pinned], laidTests := true, laidLooks := .later }
def FnExactParseSignatureCardSaid : Prop := Claim7.holds Tryz.pinned (.plain (OpenSpec.ofChange fnExactParseSignatureSpec)) fnExactParseSignatureCard

/-- THE TIED CARD OF 'laws.FnParseSignature'. -/
def fnParseSignatureCard : Claim7 := { stood := { row := fnParseSignatureRow, standIns := [], harness := (true, "6af407fc56b56d24dafd4bef92b6c41c39bb5ba1700148006ccefa22d4aecaeb"), looks := true }, kinds := [], alts := [], laidByText := true, laidKinds := [.data, .data, .data, .data, .sentinel, .sentinel, .pinned], laidTests := true, laidLooks := .later }
def FnParseSignatureCardSaid : Prop := Claim7.holds Tryz.pinned (.plain (OpenSpec.ofChange fnParseSignatureSpec)) fnParseSignatureCard

/-- THE TIED CARD OF 'laws.FnExactParseFunc'. -/
def fnExactParseFuncCard : Claim7 := { stood := { row := fnExactParseFuncRow, standIns := [], harness := (true, "6af407fc56b56d24dafd4bef92b6c41c39bb5ba1700148006ccefa22d4aecaeb"), looks := true }, kinds := [], alts := [], laidByText := true, laidKinds := [.data, .data, .data, .data, .sentinel, .sentinel, .pinned], laidTests := true, laidLooks := .later }
def FnExactParseFuncCardSaid : Prop := Claim7.holds Tryz.pinned (.plain (OpenSpec.ofChange fnExactParseFuncSpec)) fnExactParseFuncCard

/-- THE TIED CARD OF 'laws.FnParseFunc'. -/
def fnParseFuncCard : Claim7 := { stood := { row := fnParseFuncRow, standIns := [], harness := (true, "6af407fc56b56d24dafd4bef92b6c41c39bb5ba1700148006ccefa22d4aecaeb"), looks := true }, kinds := [], alts := [], laidByText := true, laidKinds := [.data, .data, .data, .data, .sentinel, .sentinel, .pinned], laidTests := true, laidLooks := .later }
def FnParseFuncCardSaid : Prop := Claim7.holds Tryz.pinned (.plain (OpenSpec.ofChange fnParseFuncSpec)) fnParseFuncCard

/-- THE TIED CARD OF 'laws.FnTableText'. -/
def fnTableTextCard : Claim7 := { stood := { row := fnTableTextRow, standIns := [], harness := (true, "6af407fc56b56d24dafd4bef92b6c41c39bb5ba1700148006ccefa22d4aecaeb"), looks := true }, kinds := [], alts := [], laidByText := true, laidKinds := [.data, .data, .data, .data, .sentinel, .sentinel, .pinned], laidTests := true, laidLooks := .later }
def FnTableTextCardSaid : Prop := Claim7.holds Tryz.pinned (.plain (OpenSpec.ofChange fnTableTextSpec)) fnTableTextCard

/-- THE TIED CARD OF 'laws.FnExactParseTable'. -/
def fnExactParseTableCard : Claim7 := { stood := { row := fnExactParseTableRow, standIns := [], harness := (true, "6af407fc56b56d24dafd4bef92b6c41c39bb5ba1700148006ccefa22d4aecaeb"), looks := true }, kinds := [], alts := [], laidByText := true, laidKinds := [.data, .data, .data, .data, .sentinel, .sentinel, .pinned], laidTests := true, laidLooks := .later }
def FnExactParseTableCardSaid : Prop := Claim7.holds Tryz.pinned (.plain (OpenSpec.ofChange fnExactParseTableSpec)) fnExactParseTableCard

/-- THE TIED CARD OF 'laws.FnParseTable'. -/
def fnParseTableCard : Claim7 := { stood := { row := fnParseTableRow, standIns := [], harness := (true, "6af407fc56b56d24dafd4bef92b6c41c39bb5ba1700148006ccefa22d4aecaeb"), looks := true }, kinds := [], alts := [], laidByText := true, laidKinds := [.data, .data, .data, .data, .sentinel, .sentinel, .pinned], laidTests := true, laidLooks := .later }
def FnParseTableCardSaid : Prop := Claim7.holds Tryz.pinned (.plain (OpenSpec.ofChange fnParseTableSpec)) fnParseTableCard

/-- THE SECOND FORM's CARD OF 'laws.FnTopCall'. -/
def fnTopCallUptoCard : Claim7 := { stood := { row := fnTopCallUptoRow, standIns := [], harness := (true, "6af407fc56b56d24dafd4bef92b6c41c39bb5ba1700148006ccefa22d4aecaeb"), looks := true }, kinds := [], alts := [], laidByText := true, laidKinds := [.data, .data, .data, .data, .sentinel, .sentinel, .pinned], laidTests := true, laidLooks := .later }
def FnTopCallUptoCardSaid : Prop := Claim7.holds Tryz.pinned (.plain (OpenSpec.upto fnTopCallSpec)) fnTopCallUptoCard

/-- THE SECOND FORM's CARD OF 'laws.FnExactParseCall'. -/
def fnExactParseCallUptoCard : Claim7 := { stood := { row := fnExactParseCallUptoRow, standIns := [], harness := (true, "6af407fc56b56d24dafd4bef92b6c41c39bb5ba1700148006ccefa22d4aecaeb"), looks := true }, kinds := [], alts := [], laidByText := true, laidKinds := [.data, .data, .data, .data, .sentinel, .sentinel, .pinned], laidTests := true, laidLooks := .later }
def FnExactParseCallUptoCardSaid : Prop := Claim7.holds Tryz.pinned (.plain (OpenSpec.upto fnExactParseCallSpec)) fnExactParseCallUptoCard

/-- THE SECOND FORM's CARD OF 'laws.FnCallText'. -/
def fnCallTextUptoCard : Claim7 := { stood := { row := fnCallTextUptoRow, standIns := [], harness := (true, "6af407fc56b56d24dafd4bef92b6c41c39bb5ba1700148006ccefa22d4aecaeb"), looks := true }, kinds := [], alts := [], laidByText := true, laidKinds := [.data, .data, .data, .data, .sentinel, .sentinel, .pinned], laidTests := true, laidLooks := .later }
def FnCallTextUptoCardSaid : Prop := Claim7.holds Tryz.pinned (.plain (OpenSpec.upto fnCallTextSpec)) fnCallTextUptoCard

/-- THE SECOND FORM's CARD OF 'laws.FnParseCall'. -/
def fnParseCallUptoCard : Claim7 := { stood := { row := fnParseCallUptoRow, standIns := [], harness := (true, "6af407fc56b56d24dafd4bef92b6c41c39bb5ba1700148006ccefa22d4aecaeb"), looks := true }, kinds := [], alts := [], laidByText := true, laidKinds := [.data, .data, .data, .data, .sentinel, .sentinel, .pinned], laidTests := true, laidLooks := .later }
def FnParseCallUptoCardSaid : Prop := Claim7.holds Tryz.pinned (.plain (OpenSpec.upto fnParseCallSpec)) fnParseCallUptoCard

/-- THE SECOND FORM's CARD OF 'laws.FnCallTextFlat'. -/
def fnCallTextFlatUptoCard : Claim7 := { stood := { row := fnCallTextFlatUptoRow, standIns := [], harness := (true, "6af407fc56b56d24dafd4bef92b6c41c39bb5ba1700148006ccefa22d4aecaeb"), looks := true }, kinds := [], alts := [], laidByText := true, laidKinds := [.data, .data, .data, .data, .sentinel, .sentinel, .pinned], laidTests := true, laidLooks := .later }
def FnCallTextFlatUptoCardSaid : Prop := Claim7.holds Tryz.pinned (.plain (OpenSpec.upto fnCallTextFlatSpec)) fnCallTextFlatUptoCard

/-- THE SECOND FORM's CARD OF 'laws.FnExactParseSignature'. -/
def fnExactParseSignatureUptoCard : Claim7 := { stood := { row := fnExactParseSignatureUptoRow, standIns := [], harness := (true, "6af407fc56b56d24dafd4bef92b6c41c39bb5ba1700148006ccefa22d4aecaeb"), looks := true }, kinds := [], alts := [], laidByText := true, laidKinds := [.data, .data, .data, .data, .sentinel, .sentinel, .pinned], laidTests := true, laidLooks := .later }
def FnExactParseSignatureUptoCardSaid : Prop := Claim7.holds Tryz.pinned (.plain (OpenSpec.upto fnExactParseSignatureSpec)) fnExactParseSignatureUptoCard

/-- THE SECOND FORM's CARD OF 'laws.FnParseSignature'. -/
def fnParseSignatureUptoCard : Claim7 := { stood := { row := fnParseSignatureUptoRow, standIns := [], harness := (true, "6af407fc56b56d24dafd4bef92b6c41c39bb5ba1700148006ccefa22d4aecaeb"), looks := true }, kinds := [], alts := [], laidByText := true, laidKinds := [.data, .data, .data, .data, .sentinel, .sentinel, .pinned], laidTests := true, laidLooks := .later }
def FnParseSignatureUptoCardSaid : Prop := Claim7.holds Tryz.pinned (.plain (OpenSpec.upto fnParseSignatureSpec)) fnParseSignatureUptoCard

/-- THE SECOND FORM's CARD OF 'laws.FnExactParseFunc'. -/
def fnExactParseFuncUptoCard : Claim7 := { stood := { row := fnExactParseFuncUptoRow, standIns := [], harness := (true, "6af407fc56b56d24dafd4bef92b6c41c39bb5ba1700148006ccefa22d4aecaeb"), looks := true }, kinds := [], alts := [], laidByText := true, laidKinds := [.data, .data, .data, .data, .sentinel, .sentinel, .pinned], laidTests := true, laidLooks := .later }
def FnExactParseFuncUptoCardSaid : Prop := Claim7.holds Tryz.pinned (.plain (OpenSpec.upto fnExactParseFuncSpec)) fnExactParseFuncUptoCard

/-- THE SECOND FORM's CARD OF 'laws.FnParseFunc'. -/
def fnParseFuncUptoCard : Claim7 := { stood := { row := fnParseFuncUptoRow, standIns := [], harness := (true, "6af407fc56b56d24dafd4bef92b6c41c39bb5ba1700148006ccefa22d4aecaeb"), looks := true }, kinds := [], alts := [], laidByText := true, laidKinds := [.data, .data, .data, .data, .sentinel, .sentinel, .pinned], laidTests := true, laidLooks := .later }
def FnParseFuncUptoCardSaid : Prop := Claim7.holds Tryz.pinned (.plain (OpenSpec.upto fnParseFuncSpec)) fnParseFuncUptoCard

/-- THE SECOND FORM's CARD OF 'laws.FnTableText'. -/
def fnTableTextUptoCard : Claim7 := { stood := { row := fnTableTextUptoRow, standIns := [], harness := (true, "6af407fc56b56d24dafd4bef92b6c41c39bb5ba1700148006ccefa22d4aecaeb"), looks := true }, kinds := [], alts := [], laidByText := true, laidKinds := [.data, .data, .data, .data, .sentinel, .sentinel, .pinned], laidTests := true, laidLooks := .later }
def FnTableTextUptoCardSaid : Prop := Claim7.holds Tryz.pinned (.plain (OpenSpec.upto fnTableTextSpec)) fnTableTextUptoCard

/-- THE SECOND FORM's CARD OF 'laws.FnExactParseTable'. -/
def fnExactParseTableUptoCard : Claim7 := { stood := { row := fnExactParseTableUptoRow, standIns := [], harness := (true, "6af407fc56b56d24dafd4bef92b6c41c39bb5ba1700148006ccefa22d4aecaeb"), looks := true }, kinds := [], alts := [], laidByText := true, laidKinds := [.data, .data, .data, .data, .sentinel, .sentinel, .pinned], laidTests := true, laidLooks := .later }
def FnExactParseTableUptoCardSaid : Prop := Claim7.holds Tryz.pinned (.plain (OpenSpec.upto fnExactParseTableSpec)) fnExactParseTableUptoCard

/-- THE SECOND FORM's CARD OF 'laws.FnParseTable'. -/
def fnParseTableUptoCard : Claim7 := { stood := { row := fnParseTableUptoRow, standIns := [], harness := (true, "6af407fc56b56d24dafd4bef92b6c41c39bb5ba1700148006ccefa22d4aecaeb"), looks := true }, kinds := [], alts := [], laidByText := true, laidKinds := [.data, .data, .data, .data, .sentinel, .sentinel, .pinned], laidTests := true, laidLooks := .later }
def FnParseTableUptoCardSaid : Prop := Claim7.holds Tryz.pinned (.plain (OpenSpec.upto fnParseTableSpec)) fnParseTableUptoCard
end Rows
end Go.Proofs.YtoofegkjdjlpkaaGreatDoor
