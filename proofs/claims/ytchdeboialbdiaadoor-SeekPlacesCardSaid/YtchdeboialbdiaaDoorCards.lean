/-
  DERIVED. GIVEN WITH THE SEED: THE CARDS: each row of YtchdeboialbdiaaDoorRows.lean that lists a variable, with what it lists TIED to the program's text (the seventh form; the later family's looks); each row that meets fmt, with fmt's text TOLD by the authors' own Lean function (tested against real Go, not proved from fmt's source: count such statements apart). THE CARD IS WHAT COUNTS. Prove the row's statement (the work); the ties are given (YtchdeboialbdiaaDoorTie.lean); close each card by the builder's one call (the guide's Derived/Test/ToyasCard.lean, 'card_holds'). Laid BY PROGRAM, IN A SANDBOX (cutbox-door.mjs). By AI agents, Wed Nov 11 2026. No macro, syntax, notation, axiom, sorry.
-/
import Derived.Test.YtchdeboialbdiaaDoorRows
import GoSem.ClaimSeven
namespace Go.Proofs.YtchdeboialbdiaaDoor
namespace Rows

/-- THE TIED CARD OF 'vellumlaw06.SeekMatches'. -/
def seekMatchesCard : Claim7 := { stood := { row := seekMatchesRow, standIns := [], harness := (true, "d52d58a25c191ee88590cc5463dd419e9f2397e65cab9e6213859c672bf29ab8"), looks := true }, kinds := [], alts := [], laidByText := true, laidKinds := [.data, .pinned], laidTests := true, laidLooks := .later }
def SeekMatchesCardSaid : Prop := Claim7.holds Tryd.pinned (.plain (OpenSpec.ofChange seekMatchesSpec)) seekMatchesCard

/-- THE TIED CARD OF 'vellumlaw06.SeekAll'. -/
def seekAllCard : Claim7 := { stood := { row := seekAllRow, standIns := [], harness := (true, "d52d58a25c191ee88590cc5463dd419e9f2397e65cab9e6213859c672bf29ab8"), looks := true }, kinds := [], alts := [], laidByText := true, laidKinds := [.data, .pinned], laidTests := true, laidLooks := .later }
def SeekAllCardSaid : Prop := Claim7.holds Tryd.pinned (.plain (OpenSpec.ofChange seekAllSpec)) seekAllCard

/-- THE TIED CARD OF 'vellumlaw06.SeekQuotes'. -/
def seekQuotesCard : Claim7 := { stood := { row := seekQuotesRow, standIns := [], harness := (true, "d52d58a25c191ee88590cc5463dd419e9f2397e65cab9e6213859c672bf29ab8"), looks := true }, kinds := [], alts := [], laidByText := true, laidKinds := [.data, .pinned], laidTests := true, laidLooks := .later }
def SeekQuotesCardSaid : Prop := Claim7.holds Tryd.pinned (.plain (OpenSpec.ofChange seekQuotesSpec)) seekQuotesCard

/-- THE TIED CARD OF 'vellumlaw06.SeekMeans'. -/
def seekMeansCard : Claim7 := { stood := { row := seekMeansRow, standIns := [], harness := (true, "d52d58a25c191ee88590cc5463dd419e9f2397e65cab9e6213859c672bf29ab8"), looks := true }, kinds := [], alts := [], laidByText := true, laidKinds := [.data, .pinned], laidTests := true, laidLooks := .later }
def SeekMeansCardSaid : Prop := Claim7.holds Tryd.pinned (.plain (OpenSpec.ofChange seekMeansSpec)) seekMeansCard

/-- THE TIED CARD OF 'vellumlaw06.SeekCompiles'. -/
def seekCompilesCard : Claim7 := { stood := { row := seekCompilesRow, standIns := [], harness := (true, "d52d58a25c191ee88590cc5463dd419e9f2397e65cab9e6213859c672bf29ab8"), looks := true }, kinds := [], alts := [], laidByText := true, laidKinds := [.data, .handle, .pinned], laidTests := true, laidLooks := .later }
def SeekCompilesCardSaid : Prop := Claim7.holds Tryd.pinned (.plain (OpenSpec.ofChange seekCompilesSpec)) seekCompilesCard

/-- THE TIED CARD OF 'vellumlaw06.SeekQuoted'. -/
def seekQuotedCard : Claim7 := { stood := { row := seekQuotedRow, standIns := [], harness := (true, "d52d58a25c191ee88590cc5463dd419e9f2397e65cab9e6213859c672bf29ab8"), looks := true }, kinds := [], alts := [], laidByText := true, laidKinds := [.data, .handle, .pinned], laidTests := true, laidLooks := .later }
def SeekQuotedCardSaid : Prop := Claim7.holds Tryd.pinned (.plain (OpenSpec.ofChange seekQuotedSpec)) seekQuotedCard

/-- THE TIED CARD OF 'vellumlaw06.SeekPlaces'. -/
def seekPlacesCard : Claim7 := { stood := { row := seekPlacesRow, standIns := [], harness := (true, "d52d58a25c191ee88590cc5463dd419e9f2397e65cab9e6213859c672bf29ab8"), looks := true }, kinds := [], alts := [], laidByText := true, laidKinds := [.data, .handle, .pinned], laidTests := true, laidLooks := .later }
def SeekPlacesCardSaid : Prop := Claim7.holds Tryd.pinned (.plain (OpenSpec.ofChange seekPlacesSpec)) seekPlacesCard

/-- THE SECOND FORM's CARD OF 'vellumlaw06.SeekMatches'. -/
def seekMatchesUptoCard : Claim7 := { stood := { row := seekMatchesUptoRow, standIns := [], harness := (true, "d52d58a25c191ee88590cc5463dd419e9f2397e65cab9e6213859c672bf29ab8"), looks := true }, kinds := [], alts := [], laidByText := true, laidKinds := [.data, .pinned], laidTests := true, laidLooks := .later }
def SeekMatchesUptoCardSaid : Prop := Claim7.holds Tryd.pinned (.plain (OpenSpec.upto seekMatchesSpec)) seekMatchesUptoCard

/-- THE SECOND FORM's CARD OF 'vellumlaw06.SeekAll'. -/
def seekAllUptoCard : Claim7 := { stood := { row := seekAllUptoRow, standIns := [], harness := (true, "d52d58a25c191ee88590cc5463dd419e9f2397e65cab9e6213859c672bf29ab8"), looks := true }, kinds := [], alts := [], laidByText := true, laidKinds := [.data, .pinned], laidTests := true, laidLooks := .later }
def SeekAllUptoCardSaid : Prop := Claim7.holds Tryd.pinned (.plain (OpenSpec.upto seekAllSpec)) seekAllUptoCard

/-- THE SECOND FORM's CARD OF 'vellumlaw06.SeekQuotes'. -/
def seekQuotesUptoCard : Claim7 := { stood := { row := seekQuotesUptoRow, standIns := [], harness := (true, "d52d58a25c191ee88590cc5463dd419e9f2397e65cab9e6213859c672bf29ab8"), looks := true }, kinds := [], alts := [], laidByText := true, laidKinds := [.data, .pinned], laidTests := true, laidLooks := .later }
def SeekQuotesUptoCardSaid : Prop := Claim7.holds Tryd.pinned (.plain (OpenSpec.upto seekQuotesSpec)) seekQuotesUptoCard

/-- THE SECOND FORM's CARD OF 'vellumlaw06.SeekMeans'. -/
def seekMeansUptoCard : Claim7 := { stood := { row := seekMeansUptoRow, standIns := [], harness := (true, "d52d58a25c191ee88590cc5463dd419e9f2397e65cab9e6213859c672bf29ab8"), looks := true }, kinds := [], alts := [], laidByText := true, laidKinds := [.data, .pinned], laidTests := true, laidLooks := .later }
def SeekMeansUptoCardSaid : Prop := Claim7.holds Tryd.pinned (.plain (OpenSpec.upto seekMeansSpec)) seekMeansUptoCard

/-- THE SECOND FORM's CARD OF 'vellumlaw06.SeekCompiles'. -/
def seekCompilesUptoCard : Claim7 := { stood := { row := seekCompilesUptoRow, standIns := [], harness := (true, "d52d58a25c191ee88590cc5463dd419e9f2397e65cab9e6213859c672bf29ab8"), looks := true }, kinds := [], alts := [], laidByText := true, laidKinds := [.data, .handle, .pinned], laidTests := true, laidLooks := .later }
def SeekCompilesUptoCardSaid : Prop := Claim7.holds Tryd.pinned (.plain (OpenSpec.upto seekCompilesSpec)) seekCompilesUptoCard

/-- THE SECOND FORM's CARD OF 'vellumlaw06.SeekQuoted'. -/
def seekQuotedUptoCard : Claim7 := { stood := { row := seekQuotedUptoRow, standIns := [], harness := (true, "d52d58a25c191ee88590cc5463dd419e9f2397e65cab9e6213859c672bf29ab8"), looks := true }, kinds := [], alts := [], laidByText := true, laidKinds := [.data, .handle, .pinned], laidTests := true, laidLooks := .later }
def SeekQuotedUptoCardSaid : Prop := Claim7.holds Tryd.pinned (.plain (OpenSpec.upto seekQuotedSpec)) seekQuotedUptoCard

/-- THE SECOND FORM's CARD OF 'vellumlaw06.SeekPlaces'. -/
def seekPlacesUptoCard : Claim7 := { stood := { row := seekPlacesUptoRow, standIns := [], harness := (true, "d52d58a25c191ee88590cc5463dd419e9f2397e65cab9e6213859c672bf29ab8"), looks := true }, kinds := [], alts := [], laidByText := true, laidKinds := [.data, .handle, .pinned], laidTests := true, laidLooks := .later }
def SeekPlacesUptoCardSaid : Prop := Claim7.holds Tryd.pinned (.plain (OpenSpec.upto seekPlacesSpec)) seekPlacesUptoCard
end Rows
end Go.Proofs.YtchdeboialbdiaaDoor
