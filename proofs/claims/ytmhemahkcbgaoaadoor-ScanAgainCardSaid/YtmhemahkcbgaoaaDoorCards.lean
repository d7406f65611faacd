/-
  DERIVED. GIVEN WITH THE SEED: THE CARDS: each row of YtmhemahkcbgaoaaDoorRows.lean that lists a variable, with what it lists TIED to the program's text (the seventh form; the later family's looks); each row that meets fmt, with fmt's text TOLD by the authors' own Lean function (tested against real Go, not proved from fmt's source: count such statements apart). THE CARD IS WHAT COUNTS. Prove the row's statement (the work); the ties are given (YtmhemahkcbgaoaaDoorTie.lean); close each card by the builder's one call (the guide's Derived/Test/ToyasCard.lean, 'card_holds'). Laid BY PROGRAM, IN A SANDBOX (cutbox-door.mjs). By AI agents, Wed Nov 11 2026. No macro, syntax, notation, axiom, sorry.
-/
import Derived.Test.YtmhemahkcbgaoaaDoorRows
import GoSem.ClaimSeven
namespace Go.Proofs.YtmhemahkcbgaoaaDoor
namespace Rows

/-- THE TIED CARD OF 'vellumlaw07.ScanQuotes'. -/
def scanQuotesCard : Claim7 := { stood := { row := scanQuotesRow, standIns := [], harness := (true, "6ad390637a751235cd519b0898d72cb243ca3e175723b9bdcaf54ae3abe24b73"), looks := true }, kinds := [], alts := [], laidByText := true, laidKinds := [.data, .data, .data, .data, .pinned], laidTests := true, laidLooks := .later }
def ScanQuotesCardSaid : Prop := Claim7.holds Tryd.pinned (.plain (OpenSpec.ofChange scanQuotesSpec)) scanQuotesCard

/-- THE TIED CARD OF 'vellumlaw07.ScanPrints'. -/
def scanPrintsCard : Claim7 := { stood := { row := scanPrintsRow, standIns := [], harness := (true, "6ad390637a751235cd519b0898d72cb243ca3e175723b9bdcaf54ae3abe24b73"), looks := true }, kinds := [], alts := [], laidByText := true, laidKinds := [.data, .data, .data, .data, .pinned], laidTests := true, laidLooks := .later }
def ScanPrintsCardSaid : Prop := Claim7.holds Tryd.pinned (.plain (OpenSpec.ofChange scanPrintsSpec)) scanPrintsCard

/-- THE TIED CARD OF 'vellumlaw07.ScanAgain'. -/
def scanAgainCard : Claim7 := { stood := { row := scanAgainRow, standIns := [], harness := (true, "6ad390637a751235cd519b0898d72cb243ca3e175723b9bdcaf54ae3abe24b73"), looks := true }, kinds := [], alts := [], laidByText := true, laidKinds := [.data, .data, .data, .data, .pinned], laidTests := true, laidLooks := .later }
def ScanAgainCardSaid : Prop := Claim7.holds Tryd.pinned (.plain (OpenSpec.ofChange scanAgainSpec)) scanAgainCard

/-- THE TIED CARD OF 'vellumlaw07.ScanBack'. -/
def scanBackCard : Claim7 := { stood := { row := scanBackRow, standIns := [], harness := (true, "6ad390637a751235cd519b0898d72cb243ca3e175723b9bdcaf54ae3abe24b73"), looks := true }, kinds := [], alts := [], laidByText := true, laidKinds := [.data, .data, .data, .data, .pinned], laidTests := true, laidLooks := .later }
def ScanBackCardSaid : Prop := Claim7.holds Tryd.pinned (.plain (OpenSpec.ofChange scanBackSpec)) scanBackCard

/-- THE TIED CARD OF 'vellumlaw07.ScanTokens'. -/
def scanTokensCard : Claim7 := { stood := { row := scanTokensRow, standIns := [], harness := (true, "6ad390637a751235cd519b0898d72cb243ca3e175723b9bdcaf54ae3abe24b73"), looks := true }, kinds := [], alts := [], laidByText := true, laidKinds := [.data, .data, .data, .data, .handle, .pinned], laidTests := true, laidLooks := .later }
def ScanTokensCardSaid : Prop := Claim7.holds Tryd.pinned (.plain (OpenSpec.ofChange scanTokensSpec)) scanTokensCard

/-- THE TIED CARD OF 'vellumlaw07.ScanApart'. -/
def scanApartCard : Claim7 := { stood := { row := scanApartRow, standIns := [], harness := (true, "6ad390637a751235cd519b0898d72cb243ca3e175723b9bdcaf54ae3abe24b73"), looks := true }, kinds := [], alts := [], laidByText := true, laidKinds := [.data, .data, .data, .data, .handle, .pinned], laidTests := true, laidLooks := .later }
def ScanApartCardSaid : Prop := Claim7.holds Tryd.pinned (.plain (OpenSpec.ofChange scanApartSpec)) scanApartCard

/-- THE TIED CARD OF 'vellumlaw07.ScanUnquotes'. -/
def scanUnquotesCard : Claim7 := { stood := { row := scanUnquotesRow, standIns := [], harness := (true, "6ad390637a751235cd519b0898d72cb243ca3e175723b9bdcaf54ae3abe24b73"), looks := true }, kinds := [], alts := [], laidByText := true, laidKinds := [.data, .data, .data, .data, .handle, .pinned], laidTests := true, laidLooks := .later }
def ScanUnquotesCardSaid : Prop := Claim7.holds Tryd.pinned (.plain (OpenSpec.ofChange scanUnquotesSpec)) scanUnquotesCard

/-- THE TIED CARD OF 'vellumlaw07.ScanLines'. -/
def scanLinesCard : Claim7 := { stood := { row := scanLinesRow, standIns := [], harness := (true, "6ad390637a751235cd519b0898d72cb243ca3e175723b9bdcaf54ae3abe24b73"), looks := true }, kinds := [], alts := [], laidByText := true, laidKinds := [.data, .data, .data, .data, .pinned], laidTests := true, laidLooks := .later }
def ScanLinesCardSaid : Prop := Claim7.holds Tryd.pinned (.plain (OpenSpec.ofChange scanLinesSpec)) scanLinesCard

/-- THE SECOND FORM's CARD OF 'vellumlaw07.ScanQuotes'. -/
def scanQuotesUptoCard : Claim7 := { stood := { row := scanQuotesUptoRow, standIns := [], harness := (true, "6ad390637a751235cd519b0898d72cb243ca3e175723b9bdcaf54ae3abe24b73"), looks := true }, kinds := [], alts := [], laidByText := true, laidKinds := [.data, .data, .data, .data, .pinned], laidTests := true, laidLooks := .later }
def ScanQuotesUptoCardSaid : Prop := Claim7.holds Tryd.pinned (.plain (OpenSpec.upto scanQuotesSpec)) scanQuotesUptoCard

/-- THE SECOND FORM's CARD OF 'vellumlaw07.ScanPrints'. -/
def scanPrintsUptoCard : Claim7 := { stood := { row := scanPrintsUptoRow, standIns := [], harness := (true, "6ad390637a751235cd519b0898d72cb243ca3e175723b9bdcaf54ae3abe24b73"), looks := true }, kinds := [], alts := [], laidByText := true, laidKinds := [.data, .data, .data, .data, .pinned], laidTests := true, laidLooks := .later }
def ScanPrintsUptoCardSaid : Prop := Claim7.holds Tryd.pinned (.plain (OpenSpec.upto scanPrintsSpec)) scanPrintsUptoCard

/-- THE SECOND FORM's CARD OF 'vellumlaw07.ScanAgain'. -/
def scanAgainUptoCard : Claim7 := { stood := { row := scanAgainUptoRow, standIns := [], harness := (true, "6ad390637a751235cd519b0898d72cb243ca3e175723b9bdcaf54ae3abe24b73"), looks := true }, kinds := [], alts := [], laidByText := true, laidKinds := [.data, .data, .data, .data, .pinned], laidTests := true, laidLooks := .later }
def ScanAgainUptoCardSaid : Prop := Claim7.holds Tryd.pinned (.plain (OpenSpec.upto scanAgainSpec)) scanAgainUptoCard

/-- THE SECOND FORM's CARD OF 'vellumlaw07.ScanBack'. -/
def scanBackUptoCard : Claim7 := { stood := { row := scanBackUptoRow, standIns := [], harness := (true, "6ad390637a751235cd519b0898d72cb243ca3e175723b9bdcaf54ae3abe24b73"), looks := true }, kinds := [], alts := [], laidByText := true, laidKinds := [.data, .data, .data, .data, .pinned], laidTests := true, laidLooks := .later }
def ScanBackUptoCardSaid : Prop := Claim7.holds Tryd.pinned (.plain (OpenSpec.upto scanBackSpec)) scanBackUptoCard

/-- THE SECOND FORM's CARD OF 'vellumlaw07.ScanTokens'. -/
def scanTokensUptoCard : Claim7 := { stood := { row := scanTokensUptoRow, standIns := [], harness := (true, "6ad390637a751235cd519b0898d72cb243ca3e175723b9bdcaf54ae3abe24b73"), looks := true }, kinds := [], alts := [], laidByText := true, laidKinds := [.data, .data, .data, .data, .handle, .pinned], laidTests := true, laidLooks := .later }
def ScanTokensUptoCardSaid : Prop := Claim7.holds Tryd.pinned (.plain (OpenSpec.upto scanTokensSpec)) scanTokensUptoCard

/-- THE SECOND FORM's CARD OF 'vellumlaw07.ScanApart'. -/
def scanApartUptoCard : Claim7 := { stood := { row := scanApartUptoRow, standIns := [], harness := (true, "6ad390637a751235cd519b0898d72cb243ca3e175723b9bdcaf54ae3abe24b73"), looks := true }, kinds := [], alts := [], laidByText := true, laidKinds := [.data, .data, .data, .data, .handle, .pinned], laidTests := true, laidLooks := .later }
def ScanApartUptoCardSaid : Prop := Claim7.holds Tryd.pinned (.plain (OpenSpec.upto scanApartSpec)) scanApartUptoCard

/-- THE SECOND FORM's CARD OF 'vellumlaw07.ScanUnquotes'. -/
def scanUnquotesUptoCard : Claim7 := { stood := { row := scanUnquotesUptoRow, standIns := [], harness := (true, "6ad390637a751235cd519b0898d72cb243ca3e175723b9bdcaf54ae3abe24b73"), looks := true }, kinds := [], alts := [], laidByText := true, laidKinds := [.data, .data, .data, .data, .handle, .pinned], laidTests := true, laidLooks := .later }
def ScanUnquotesUptoCardSaid : Prop := Claim7.holds Tryd.pinned (.plain (OpenSpec.upto scanUnquotesSpec)) scanUnquotesUptoCard

/-- THE SECOND FORM's CARD OF 'vellumlaw07.ScanLines'. -/
def scanLinesUptoCard : Claim7 := { stood := { row := scanLinesUptoRow, standIns := [], harness := (true, "6ad390637a751235cd519b0898d72cb243ca3e175723b9bdcaf54ae3abe24b73"), looks := true }, kinds := [], alts := [], laidByText := true, laidKinds := [.data, .data, .data, .data, .pinned], laidTests := true, laidLooks := .later }
def ScanLinesUptoCardSaid : Prop := Claim7.holds Tryd.pinned (.plain (OpenSpec.upto scanLinesSpec)) scanLinesUptoCard
end Rows
end Go.Proofs.YtmhemahkcbgaoaaDoor
