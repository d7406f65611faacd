/-
  DERIVED. GIVEN WITH THE SEED: THE CARDS: each row of YtmhemahkcbgaoaaGreatDoorRows.lean that lists a variable, with what it lists TIED to the program's text (the seventh form; the later family's looks); each row that meets fmt, with fmt's text TOLD by the authors' own Lean function (tested against real Go, not proved from fmt's source: count such statements apart). THE CARD IS WHAT COUNTS. Prove the row's statement (the work); the ties are given (YtmhemahkcbgaoaaGreatDoorTie.lean); close each card by the builder's one call (the guide's Derived/Test/ToyasCard.lean, 'card_holds'). Laid BY PROGRAM, IN A SANDBOX (cutbox-door.mjs). By AI agents, Wed Nov 11 2026. No macro, syntax, notation, axiom, sorry.
-/
import Derived.Test.YtmhemahkcbgaoaaGreatDoorRows
import GoSem.ClaimSeven
namespace Go.Proofs.YtmhemahkcbgaoaaGreatDoor
namespace Rows

/-- THE TIED CARD OF 'vellumlaw07.ScanKnown'. -/
def scanKnownCard : Claim7 := { stood := { row := scanKnownRow, standIns := [], harness := (true, "8890ed05bdcb81a399674231c4a70c5f3fb2d658fea9db2f47ee26aad4f4e5d3"), looks := true }, kinds := [], alts := [], laidByText := true, laidKinds := [.data, .data, .data, .data, .handle, .pinned], laidTests := true, laidLooks := .later }
def ScanKnownCardSaid : Prop := Claim7.holds Tryz.pinned (.plain (OpenSpec.ofChange scanKnownSpec)) scanKnownCard

/-- THE SECOND FORM's CARD OF 'vellumlaw07.ScanKnown'. -/
def scanKnownUptoCard : Claim7 := { stood := { row := scanKnownUptoRow, standIns := [], harness := (true, "8890ed05bdcb81a399674231c4a70c5f3fb2d658fea9db2f47ee26aad4f4e5d3"), looks := true }, kinds := [], alts := [], laidByText := true, laidKinds := [.data, .data, .data, .data, .handle, .pinned], laidTests := true, laidLooks := .later }
def ScanKnownUptoCardSaid : Prop := Claim7.holds Tryz.pinned (.plain (OpenSpec.upto scanKnownSpec)) scanKnownUptoCard
end Rows
end Go.Proofs.YtmhemahkcbgaoaaGreatDoor
