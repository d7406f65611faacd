/-
  DERIVED. GIVEN WITH THE SEED: THE CARDS: each row of YtnbihjocdlpplaaDoorRows.lean that lists a variable, with what it lists TIED to the program's text (the seventh form; the later family's looks); each row that meets fmt, with fmt's text TOLD by the authors' own Lean function (tested against real Go, not proved from fmt's source: count such statements apart). THE CARD IS WHAT COUNTS. Prove the row's statement (the work); the ties are given (YtnbihjocdlpplaaDoorTie.lean); close each card by the builder's one call (the guide's Derived/Test/ToyasCard.lean, 'card_holds'). Laid BY PROGRAM, IN A SANDBOX (cutbox-door.mjs). By AI agents, Wed Nov 11 2026. No macro, syntax, notation, axiom, sorry.
-/
import Derived.Test.YtnbihjocdlpplaaDoorRows
import GoSem.ClaimSeven
namespace Go.Proofs.YtnbihjocdlpplaaDoor
namespace Rows

/-- THE TIED CARD OF 'vellumlaw31.DiffLines'. -/
def diffLinesCard : Claim7 := { stood := { row := diffLinesRow, standIns := [], harness := (true, "cfb5156b528273bc3b6fc62f6b790ea7b92286c063f578b54944456e357332b4"), looks := true }, kinds := [], alts := [], laidByText := true, laidKinds := [.data, .pinned], laidTests := true, laidLooks := .later }
def DiffLinesCardSaid : Prop := Claim7.holds Tryd.pinned (.plain (OpenSpec.ofChange diffLinesSpec)) diffLinesCard

/-- THE TIED CARD OF 'vellumlaw31.DiffLeast'. -/
def diffLeastCard : Claim7 := { stood := { row := diffLeastRow, standIns := [], harness := (true, "cfb5156b528273bc3b6fc62f6b790ea7b92286c063f578b54944456e357332b4"), looks := true }, kinds := [], alts := [], laidByText := true, laidKinds := [.data, .pinned], laidTests := true, laidLooks := .later }
def DiffLeastCardSaid : Prop := Claim7.holds Tryd.pinned (.plain (OpenSpec.ofChange diffLeastSpec)) diffLeastCard

/-- THE TIED CARD OF 'vellumlaw31.DiffPatches'. -/
def diffPatchesCard : Claim7 := { stood := { row := diffPatchesRow, standIns := [], harness := (true, "cfb5156b528273bc3b6fc62f6b790ea7b92286c063f578b54944456e357332b4"), looks := true }, kinds := [], alts := [], laidByText := true, laidKinds := [.data, .pinned], laidTests := true, laidLooks := .later }
def DiffPatchesCardSaid : Prop := Claim7.holds Tryd.pinned (.plain (OpenSpec.ofChange diffPatchesSpec)) diffPatchesCard

/-- THE TIED CARD OF 'vellumlaw31.DiffChanges'. -/
def diffChangesCard : Claim7 := { stood := { row := diffChangesRow, standIns := [], harness := (true, "cfb5156b528273bc3b6fc62f6b790ea7b92286c063f578b54944456e357332b4"), looks := true }, kinds := [], alts := [], laidByText := true, laidKinds := [.data, .pinned], laidTests := true, laidLooks := .later }
def DiffChangesCardSaid : Prop := Claim7.holds Tryd.pinned (.plain (OpenSpec.ofChange diffChangesSpec)) diffChangesCard

/-- THE TIED CARD OF 'vellumlaw31.DiffSteps'. -/
def diffStepsCard : Claim7 := { stood := { row := diffStepsRow, standIns := [], harness := (true, "cfb5156b528273bc3b6fc62f6b790ea7b92286c063f578b54944456e357332b4"), looks := true }, kinds := [], alts := [], laidByText := true, laidKinds := [.data, .pinned], laidTests := true, laidLooks := .later }
def DiffStepsCardSaid : Prop := Claim7.holds Tryd.pinned (.plain (OpenSpec.ofChange diffStepsSpec)) diffStepsCard

/-- THE TIED CARD OF 'vellumlaw31.DiffBack'. -/
def diffBackCard : Claim7 := { stood := { row := diffBackRow, standIns := [], harness := (true, "cfb5156b528273bc3b6fc62f6b790ea7b92286c063f578b54944456e357332b4"), looks := true }, kinds := [], alts := [], laidByText := true, laidKinds := [.data, .pinned], laidTests := true, laidLooks := .later }
def DiffBackCardSaid : Prop := Claim7.holds Tryd.pinned (.plain (OpenSpec.ofChange diffBackSpec)) diffBackCard

/-- THE TIED CARD OF 'vellumlaw31.DiffTexts'. -/
def diffTextsCard : Claim7 := { stood := { row := diffTextsRow, standIns := [], harness := (true, "cfb5156b528273bc3b6fc62f6b790ea7b92286c063f578b54944456e357332b4"), looks := true }, kinds := [], alts := [], laidByText := true, laidKinds := [.data, .handle, .pinned], laidTests := true, laidLooks := .later }
def DiffTextsCardSaid : Prop := Claim7.holds Tryd.pinned (.plain (OpenSpec.ofChange diffTextsSpec)) diffTextsCard

/-- THE SECOND FORM's CARD OF 'vellumlaw31.DiffLines'. -/
def diffLinesUptoCard : Claim7 := { stood := { row := diffLinesUptoRow, standIns := [], harness := (true, "cfb5156b528273bc3b6fc62f6b790ea7b92286c063f578b54944456e357332b4"), looks := true }, kinds := [], alts := [], laidByText := true, laidKinds := [.data, .pinned], laidTests := true, laidLooks := .later }
def DiffLinesUptoCardSaid : Prop := Claim7.holds Tryd.pinned (.plain (OpenSpec.upto diffLinesSpec)) diffLinesUptoCard

/-- THE SECOND FORM's CARD OF 'vellumlaw31.DiffLeast'. -/
def diffLeastUptoCard : Claim7 := { stood := { row := diffLeastUptoRow, standIns := [], harness := (true, "cfb5156b528273bc3b6fc62f6b790ea7b92286c063f578b54944456e357332b4"), looks := true }, kinds := [], alts := [], laidByText := true, laidKinds := [.data, .pinned], laidTests := true, laidLooks := .later }
def DiffLeastUptoCardSaid : Prop := Claim7.holds Tryd.pinned (.plain (OpenSpec.upto diffLeastSpec)) diffLeastUptoCard

/-- THE SECOND FORM's CARD OF 'vellumlaw31.DiffPatches'. -/
def diffPatchesUptoCard : Claim7 := { stood := { row := diffPatchesUptoRow, standIns := [], harness := (true, "cfb5156b528273bc3b6fc62f6b790ea7b92286c063f578b54944456e357332b4"), looks := true }, kinds := [], alts := [], laidByText := true, laidKinds := [.data, .pinned], laidTests := true, laidLooks := .later }
def DiffPatchesUptoCardSaid : Prop := Claim7.holds Tryd.pinned (.plain (OpenSpec.upto diffPatchesSpec)) diffPatchesUptoCard

/-- THE SECOND FORM's CARD OF 'vellumlaw31.DiffChanges'. -/
def diffChangesUptoCard : Claim7 := { stood := { row := diffChangesUptoRow, standIns := [], harness := (true, "cfb5156b528273bc3b6fc62f6b790ea7b92286c063f578b54944456e357332b4"), looks := true }, kinds := [], alts := [], laidByText := true, laidKinds := [.data, .pinned], laidTests := true, laidLooks := .later }
def DiffChangesUptoCardSaid : Prop := Claim7.holds Tryd.pinned (.plain (OpenSpec.upto diffChangesSpec)) diffChangesUptoCard

/-- THE SECOND FORM's CARD OF 'vellumlaw31.DiffSteps'. -/
def diffStepsUptoCard : Claim7 := { stood := { row := diffStepsUptoRow, standIns := [], harness := (true, "cfb5156b528273bc3b6fc62f6b790ea7b92286c063f578b54944456e357332b4"), looks := true }, kinds := [], alts := [], laidByText := true, laidKinds := [.data, .pinned], laidTests := true, laidLooks := .later }
def DiffStepsUptoCardSaid : Prop := Claim7.holds Tryd.pinned (.plain (OpenSpec.upto diffStepsSpec)) diffStepsUptoCard

/-- THE SECOND FORM's CARD OF 'vellumlaw31.DiffBack'. -/
def diffBackUptoCard : Claim7 := { stood := { row := diffBackUptoRow, standIns := [], harness := (true, "cfb5156b528273bc3b6fc62f6b790ea7b92286c063f578b54944456e357332b4"), looks := true }, kinds := [], alts := [], laidByText := true, laidKinds := [.data, .pinned], laidTests := true, laidLooks := .later }
def DiffBackUptoCardSaid : Prop := Claim7.holds Tryd.pinned (.plain (OpenSpec.upto diffBackSpec)) diffBackUptoCard

/-- THE SECOND FORM's CARD OF 'vellumlaw31.DiffTexts'. -/
def diffTextsUptoCard : Claim7 := { stood := { row := diffTextsUptoRow, standIns := [], harness := (true, "cfb5156b528273bc3b6fc62f6b790ea7b92286c063f578b54944456e357332b4"), looks := true }, kinds := [], alts := [], laidByText := true, laidKinds := [.data, .handle, .pinned], laidTests := true, laidLooks := .later }
def DiffTextsUptoCardSaid : Prop := Claim7.holds Tryd.pinned (.plain (OpenSpec.upto diffTextsSpec)) diffTextsUptoCard
end Rows
end Go.Proofs.YtnbihjocdlpplaaDoor
