/-
  DERIVED. GIVEN WITH THE SEED: THE CARDS: each row of YthkifgjmhpppkaaDoorRows.lean that lists a variable, with what it lists TIED to the program's text (the seventh form; the later family's looks); each row that meets fmt, with fmt's text TOLD by the authors' own Lean function (tested against real Go, not proved from fmt's source: count such statements apart). THE CARD IS WHAT COUNTS. Prove the row's statement (the work); the ties are given (YthkifgjmhpppkaaDoorTie.lean); close each card by the builder's one call (the guide's Derived/Test/ToyasCard.lean, 'card_holds'). Laid BY PROGRAM, IN A SANDBOX (cutbox-door.mjs). By AI agents, Wed Nov 11 2026. No macro, syntax, notation, axiom, sorry.
-/
import Derived.Test.YthkifgjmhpppkaaDoorRows
import GoSem.ClaimSeven
namespace Go.Proofs.YthkifgjmhpppkaaDoor
namespace Rows

/-- THE TIED CARD OF 'tallylaw2.TextAmounts'. -/
def textAmountsCard : Claim7 := { stood := { row := textAmountsRow, standIns := [], harness := (true, "24c6c5e6e6e994479e4e00c5a451748fabe719ddeb349b9687f6a7cb48ce822d"), looks := false }, kinds := [], alts := [], laidByText := true, laidKinds := [.data, .data, .pinned], laidTests := true, laidLooks := .later }
def TextAmountsCardSaid : Prop := Claim7.holds Tryd.pinned (.plain (OpenSpec.ofChange textAmountsSpec)) textAmountsCard

/-- THE TIED CARD OF 'tallylaw2.TextLines'. -/
def textLinesCard : Claim7 := { stood := { row := textLinesRow, standIns := [], harness := (true, "24c6c5e6e6e994479e4e00c5a451748fabe719ddeb349b9687f6a7cb48ce822d"), looks := false }, kinds := [], alts := [], laidByText := true, laidKinds := [.data, .data, .pinned], laidTests := true, laidLooks := .later }
def TextLinesCardSaid : Prop := Claim7.holds Tryd.pinned (.plain (OpenSpec.ofChange textLinesSpec)) textLinesCard

/-- THE TIED CARD OF 'tallylaw2.TextMoney'. -/
def textMoneyCard : Claim7 := { stood := { row := textMoneyRow, standIns := [], harness := (true, "24c6c5e6e6e994479e4e00c5a451748fabe719ddeb349b9687f6a7cb48ce822d"), looks := false }, kinds := [], alts := [], laidByText := true, laidKinds := [.data, .data, .pinned], laidTests := true, laidLooks := .later }
def TextMoneyCardSaid : Prop := Claim7.holds Tryd.pinned (.plain (OpenSpec.ofChange textMoneySpec)) textMoneyCard

/-- THE TIED CARD OF 'tallylaw2.TextQuotes'. -/
def textQuotesCard : Claim7 := { stood := { row := textQuotesRow, standIns := [], harness := (true, "24c6c5e6e6e994479e4e00c5a451748fabe719ddeb349b9687f6a7cb48ce822d"), looks := false }, kinds := [], alts := [], laidByText := true, laidKinds := [.data, .data, .pinned], laidTests := true, laidLooks := .later }
def TextQuotesCardSaid : Prop := Claim7.holds Tryd.pinned (.plain (OpenSpec.ofChange textQuotesSpec)) textQuotesCard

/-- THE TIED CARD OF 'tallylaw2.TextNames'. -/
def textNamesCard : Claim7 := { stood := { row := textNamesRow, standIns := [], harness := (true, "24c6c5e6e6e994479e4e00c5a451748fabe719ddeb349b9687f6a7cb48ce822d"), looks := false }, kinds := [], alts := [], laidByText := true, laidKinds := [.data, .data, .pinned], laidTests := true, laidLooks := .later }
def TextNamesCardSaid : Prop := Claim7.holds Tryd.pinned (.plain (OpenSpec.ofChange textNamesSpec)) textNamesCard

/-- THE TIED CARD OF 'tallylaw2.TextFolds'. -/
def textFoldsCard : Claim7 := { stood := { row := textFoldsRow, standIns := [], harness := (true, "24c6c5e6e6e994479e4e00c5a451748fabe719ddeb349b9687f6a7cb48ce822d"), looks := false }, kinds := [], alts := [], laidByText := true, laidKinds := [.data, .data, .pinned], laidTests := true, laidLooks := .later }
def TextFoldsCardSaid : Prop := Claim7.holds Tryd.pinned (.plain (OpenSpec.ofChange textFoldsSpec)) textFoldsCard

/-- THE SECOND FORM's CARD OF 'tallylaw2.TextAmounts'. -/
def textAmountsUptoCard : Claim7 := { stood := { row := textAmountsUptoRow, standIns := [], harness := (true, "24c6c5e6e6e994479e4e00c5a451748fabe719ddeb349b9687f6a7cb48ce822d"), looks := false }, kinds := [], alts := [], laidByText := true, laidKinds := [.data, .data, .pinned], laidTests := true, laidLooks := .later }
def TextAmountsUptoCardSaid : Prop := Claim7.holds Tryd.pinned (.plain (OpenSpec.upto textAmountsSpec)) textAmountsUptoCard

/-- THE SECOND FORM's CARD OF 'tallylaw2.TextLines'. -/
def textLinesUptoCard : Claim7 := { stood := { row := textLinesUptoRow, standIns := [], harness := (true, "24c6c5e6e6e994479e4e00c5a451748fabe719ddeb349b9687f6a7cb48ce822d"), looks := false }, kinds := [], alts := [], laidByText := true, laidKinds := [.data, .data, .pinned], laidTests := true, laidLooks := .later }
def TextLinesUptoCardSaid : Prop := Claim7.holds Tryd.pinned (.plain (OpenSpec.upto textLinesSpec)) textLinesUptoCard

/-- THE SECOND FORM's CARD OF 'tallylaw2.TextMoney'. -/
def textMoneyUptoCard : Claim7 := { stood := { row := textMoneyUptoRow, standIns := [], harness := (true, "24c6c5e6e6e994479e4e00c5a451748fabe719ddeb349b9687f6a7cb48ce822d"), looks := false }, kinds := [], alts := [], laidByText := true, laidKinds := [.data, .data, .pinned], laidTests := true, laidLooks := .later }
def TextMoneyUptoCardSaid : Prop := Claim7.holds Tryd.pinned (.plain (OpenSpec.upto textMoneySpec)) textMoneyUptoCard

/-- THE SECOND FORM's CARD OF 'tallylaw2.TextQuotes'. -/
def textQuotesUptoCard : Claim7 := { stood := { row := textQuotesUptoRow, standIns := [], harness := (true, "24c6c5e6e6e994479e4e00c5a451748fabe719ddeb349b9687f6a7cb48ce822d"), looks := false }, kinds := [], alts := [], laidByText := true, laidKinds := [.data, .data, .pinned], laidTests := true, laidLooks := .later }
def TextQuotesUptoCardSaid : Prop := Claim7.holds Tryd.pinned (.plain (OpenSpec.upto textQuotesSpec)) textQuotesUptoCard

/-- THE SECOND FORM's CARD OF 'tallylaw2.TextNames'. -/
def textNamesUptoCard : Claim7 := { stood := { row := textNamesUptoRow, standIns := [], harness := (true, "24c6c5e6e6e994479e4e00c5a451748fabe719ddeb349b9687f6a7cb48ce822d"), looks := false }, kinds := [], alts := [], laidByText := true, laidKinds := [.data, .data, .pinned], laidTests := true, laidLooks := .later }
def TextNamesUptoCardSaid : Prop := Claim7.holds Tryd.pinned (.plain (OpenSpec.upto textNamesSpec)) textNamesUptoCard

/-- THE SECOND FORM's CARD OF 'tallylaw2.TextFolds'. -/
def textFoldsUptoCard : Claim7 := { stood := { row := textFoldsUptoRow, standIns := [], harness := (true, "24c6c5e6e6e994479e4e00c5a451748fabe719ddeb349b9687f6a7cb48ce822d"), looks := false }, kinds := [], alts := [], laidByText := true, laidKinds := [.data, .data, .pinned], laidTests := true, laidLooks := .later }
def TextFoldsUptoCardSaid : Prop := Claim7.holds Tryd.pinned (.plain (OpenSpec.upto textFoldsSpec)) textFoldsUptoCard
end Rows
end Go.Proofs.YthkifgjmhpppkaaDoor
