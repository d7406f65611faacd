/-
  DERIVED. GIVEN WITH THE SEED: THE CARDS: each row of YtnbihjocdlpplaaGreatDoorRows.lean that lists a variable, with what it lists TIED to the program's text (the seventh form; the later family's looks); each row that meets fmt, with fmt's text TOLD by the authors' own Lean function (tested against real Go, not proved from fmt's source: count such statements apart). THE CARD IS WHAT COUNTS. Prove the row's statement (the work); the ties are given (YtnbihjocdlpplaaGreatDoorTie.lean); close each card by the builder's one call (the guide's Derived/Test/ToyasCard.lean, 'card_holds'). Laid BY PROGRAM, IN A SANDBOX (cutbox-door.mjs). By AI agents, Wed Nov 11 2026. No macro, syntax, notation, axiom, sorry.
-/
import Derived.Test.YtnbihjocdlpplaaGreatDoorRows
import GoSem.ClaimSeven
namespace Go.Proofs.YtnbihjocdlpplaaGreatDoor
namespace Rows

/-- THE TIED CARD OF 'vellumlaw31.DiffKnown'. -/
def diffKnownCard : Claim7 := { stood := { row := diffKnownRow, standIns := [], harness := (true, "34c7a3fc51b465652a468506df108899b4bfe989e63e2c4d11287e2a28709d40"), looks := true }, kinds := [], alts := [], laidByText := true, laidKinds := [.data, .handle, .pinned], laidTests := true, laidLooks := .later }
def DiffKnownCardSaid : Prop := Claim7.holds Tryz.pinned (.plain (OpenSpec.ofChange diffKnownSpec)) diffKnownCard

/-- THE SECOND FORM's CARD OF 'vellumlaw31.DiffKnown'. -/
def diffKnownUptoCard : Claim7 := { stood := { row := diffKnownUptoRow, standIns := [], harness := (true, "34c7a3fc51b465652a468506df108899b4bfe989e63e2c4d11287e2a28709d40"), looks := true }, kinds := [], alts := [], laidByText := true, laidKinds := [.data, .handle, .pinned], laidTests := true, laidLooks := .later }
def DiffKnownUptoCardSaid : Prop := Claim7.holds Tryz.pinned (.plain (OpenSpec.upto diffKnownSpec)) diffKnownUptoCard
end Rows
end Go.Proofs.YtnbihjocdlpplaaGreatDoor
