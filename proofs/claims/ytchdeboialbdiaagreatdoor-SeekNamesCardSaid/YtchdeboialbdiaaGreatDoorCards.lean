/-
  DERIVED. GIVEN WITH THE SEED: THE CARDS: each row of YtchdeboialbdiaaGreatDoorRows.lean that lists a variable, with what it lists TIED to the program's text (the seventh form; the later family's looks); each row that meets fmt, with fmt's text TOLD by the authors' own Lean function (tested against real Go, not proved from fmt's source: count such statements apart). THE CARD IS WHAT COUNTS. Prove the row's statement (the work); the ties are given (YtchdeboialbdiaaGreatDoorTie.lean); close each card by the builder's one call (the guide's Derived/Test/ToyasCard.lean, 'card_holds'). Laid BY PROGRAM, IN A SANDBOX (cutbox-door.mjs). By AI agents, Wed Nov 11 2026. No macro, syntax, notation, axiom, sorry.
-/
import Derived.Test.YtchdeboialbdiaaGreatDoorRows
import GoSem.ClaimSeven
namespace Go.Proofs.YtchdeboialbdiaaGreatDoor
namespace Rows

/-- THE TIED CARD OF 'vellumlaw06.SeekNames'. -/
def seekNamesCard : Claim7 := { stood := { row := seekNamesRow, standIns := [], harness := (true, "90234421415a282e34d72b8cfe1fc14be94c51dc382b4b4b8f08b91ed2873f4b"), looks := true }, kinds := [], alts := [], laidByText := true, laidKinds := [.data, .handle, .pinned], laidTests := true, laidLooks := .later }
def SeekNamesCardSaid : Prop := Claim7.holds Tryz.pinned (.plain (OpenSpec.ofChange seekNamesSpec)) seekNamesCard

/-- THE SECOND FORM's CARD OF 'vellumlaw06.SeekNames'. -/
def seekNamesUptoCard : Claim7 := { stood := { row := seekNamesUptoRow, standIns := [], harness := (true, "90234421415a282e34d72b8cfe1fc14be94c51dc382b4b4b8f08b91ed2873f4b"), looks := true }, kinds := [], alts := [], laidByText := true, laidKinds := [.data, .handle, .pinned], laidTests := true, laidLooks := .later }
def SeekNamesUptoCardSaid : Prop := Claim7.holds Tryz.pinned (.plain (OpenSpec.upto seekNamesSpec)) seekNamesUptoCard
end Rows
end Go.Proofs.YtchdeboialbdiaaGreatDoor
