/-
  No cell of these rows narrows 'for every input' (looked for: loops, veiled, ifaces, maps, wideKeys, modest, calm, conditions, laid).
  DERIVED. THE GIVEN ROWS OF THIS SEAT. 10 by the template 'for every input the law returns true; each argument reads behind the call as it read before'; 0 by the template 'total and deterministic' (their statements: YtgcgbpehedkckaaTotals.lean).
  GIVEN WITH THE SEED: the statements are not yours to turn. If you find one false, say at which input.
  Laid BY PROGRAM, IN A SANDBOX (cutbox-rows.mjs): the forced cells as the released guide's own fill.sh prints them over the translation 452934b7b7c70e05… (all of the seat's roots in one cut). By AI agents, Wed Nov 11 2026. No macro, syntax, notation, axiom, sorry.
-/
import Derived.Test.YtgcgbpehedkckaaChecked
import GoSem.Claim
import GoSem.ClaimJoined
import GoSem.ClaimMapViews
import Derived.JoinedTies
import Derived.KernelRfl
namespace Go.Proofs.Ytgcgbpehedkckaa
/- THE CELL 'sum', in the pinned program and in every row, IS THE sha256 OF THE DUMP (.gsa) THAT YtgcgbpehedkckaaProg.lean LOADS. Nothing in Lean hashes anything: it is a label: what it is worth is what the hold of that sum in a sandbox is worth. -/
noncomputable def Try.pinned : Pinned := { name := "ytgcgbpehedkckaa", sum := "452934b7b7c70e050d0bc5a091829def6df8cc82c55cd1a87f41ade60928e608", checked := Try.checked }
namespace Rows
def none {H : Type} : Left H := { results := [], args := [] }

/-- 'vellumlaw01.BitsPuts': WHATEVER THE INPUT: true; the input reads as it did. -/
def bitsPutsSpec : ChangeSpec := { name := "bitsPuts", fn := fun _ => fun
  | [d1, d2] => { results := [.lit (.bool true)], args := [d1, d2] }
  | _ => none }
def bitsPutsRow : OpenClaim := { program := "ytgcgbpehedkckaa", sum := "452934b7b7c70e050d0bc5a091829def6df8cc82c55cd1a87f41ade60928e608", func := "vellum/vellumlaw01.BitsPuts", spec := "bitsPuts", unfollowed := true, recurses := true, apart := false }
def BitsPutsSaid : Prop := bitsPutsRow.holds Try.pinned (OpenSpec.ofChange bitsPutsSpec)

/-- ITS FALSE NEIGHBOUR: 'it returns false'. Refute it at one input. -/
def bitsPutsWrong : ChangeSpec := { name := "bitsPuts", fn := fun _ => fun
  | [d1, d2] => { results := [.lit (.bool false)], args := [d1, d2] }
  | _ => none }
def BitsPutsWrongFalsely : Prop := bitsPutsRow.holds Try.pinned (OpenSpec.ofChange bitsPutsWrong)

/-- 'vellumlaw01.BitsTakes': WHATEVER THE INPUT: true; the input reads as it did. -/
def bitsTakesSpec : ChangeSpec := { name := "bitsTakes", fn := fun _ => fun
  | [d1, d2] => { results := [.lit (.bool true)], args := [d1, d2] }
  | _ => none }
def bitsTakesRow : OpenClaim := { program := "ytgcgbpehedkckaa", sum := "452934b7b7c70e050d0bc5a091829def6df8cc82c55cd1a87f41ade60928e608", func := "vellum/vellumlaw01.BitsTakes", spec := "bitsTakes", unfollowed := true, recurses := true, apart := false }
def BitsTakesSaid : Prop := bitsTakesRow.holds Try.pinned (OpenSpec.ofChange bitsTakesSpec)

/-- ITS FALSE NEIGHBOUR: 'it returns false'. Refute it at one input. -/
def bitsTakesWrong : ChangeSpec := { name := "bitsTakes", fn := fun _ => fun
  | [d1, d2] => { results := [.lit (.bool false)], args := [d1, d2] }
  | _ => none }
def BitsTakesWrongFalsely : Prop := bitsTakesRow.holds Try.pinned (OpenSpec.ofChange bitsTakesWrong)

/-- 'vellumlaw01.BitsSums': WHATEVER THE INPUT: true; the input reads as it did. -/
def bitsSumsSpec : ChangeSpec := { name := "bitsSums", fn := fun _ => fun
  | [d1, d2] => { results := [.lit (.bool true)], args := [d1, d2] }
  | _ => none }
def bitsSumsRow : OpenClaim := { program := "ytgcgbpehedkckaa", sum := "452934b7b7c70e050d0bc5a091829def6df8cc82c55cd1a87f41ade60928e608", func := "vellum/vellumlaw01.BitsSums", spec := "bitsSums", unfollowed := true, recurses := true, apart := false }
def BitsSumsSaid : Prop := bitsSumsRow.holds Try.pinned (OpenSpec.ofChange bitsSumsSpec)

/-- ITS FALSE NEIGHBOUR: 'it returns false'. Refute it at one input. -/
def bitsSumsWrong : ChangeSpec := { name := "bitsSums", fn := fun _ => fun
  | [d1, d2] => { results := [.lit (.bool false)], args := [d1, d2] }
  | _ => none }
def BitsSumsWrongFalsely : Prop := bitsSumsRow.holds Try.pinned (OpenSpec.ofChange bitsSumsWrong)

/-- 'vellumlaw01.BitsRounds': WHATEVER THE INPUT: true; the input reads as it did. -/
def bitsRoundsSpec : ChangeSpec := { name := "bitsRounds", fn := fun _ => fun
  | [d1, d2] => { results := [.lit (.bool true)], args := [d1, d2] }
  | _ => none }
def bitsRoundsRow : OpenClaim := { program := "ytgcgbpehedkckaa", sum := "452934b7b7c70e050d0bc5a091829def6df8cc82c55cd1a87f41ade60928e608", func := "vellum/vellumlaw01.BitsRounds", spec := "bitsRounds", unfollowed := true, recurses := true, apart := false }
def BitsRoundsSaid : Prop := bitsRoundsRow.holds Try.pinned (OpenSpec.ofChange bitsRoundsSpec)

/-- ITS FALSE NEIGHBOUR: 'it returns false'. Refute it at one input. -/
def bitsRoundsWrong : ChangeSpec := { name := "bitsRounds", fn := fun _ => fun
  | [d1, d2] => { results := [.lit (.bool false)], args := [d1, d2] }
  | _ => none }
def BitsRoundsWrongFalsely : Prop := bitsRoundsRow.holds Try.pinned (OpenSpec.ofChange bitsRoundsWrong)

/-- 'vellumlaw01.BitsRanges': WHATEVER THE INPUT: true; the input reads as it did. -/
def bitsRangesSpec : ChangeSpec := { name := "bitsRanges", fn := fun _ => fun
  | [d1, d2, d3] => { results := [.lit (.bool true)], args := [d1, d2, d3] }
  | _ => none }
def bitsRangesRow : OpenClaim := { program := "ytgcgbpehedkckaa", sum := "452934b7b7c70e050d0bc5a091829def6df8cc82c55cd1a87f41ade60928e608", func := "vellum/vellumlaw01.BitsRanges", spec := "bitsRanges", unfollowed := true, recurses := true, apart := false }
def BitsRangesSaid : Prop := bitsRangesRow.holds Try.pinned (OpenSpec.ofChange bitsRangesSpec)

/-- ITS FALSE NEIGHBOUR: 'it returns false'. Refute it at one input. -/
def bitsRangesWrong : ChangeSpec := { name := "bitsRanges", fn := fun _ => fun
  | [d1, d2, d3] => { results := [.lit (.bool false)], args := [d1, d2, d3] }
  | _ => none }
def BitsRangesWrongFalsely : Prop := bitsRangesRow.holds Try.pinned (OpenSpec.ofChange bitsRangesWrong)

/-- 'vellumlaw01.BitsBack': WHATEVER THE INPUT: true; the input reads as it did. -/
def bitsBackSpec : ChangeSpec := { name := "bitsBack", fn := fun _ => fun
  | [d1, d2, d3] => { results := [.lit (.bool true)], args := [d1, d2, d3] }
  | _ => none }
def bitsBackRow : OpenClaim := { program := "ytgcgbpehedkckaa", sum := "452934b7b7c70e050d0bc5a091829def6df8cc82c55cd1a87f41ade60928e608", func := "vellum/vellumlaw01.BitsBack", spec := "bitsBack", unfollowed := true, recurses := true, apart := false }
def BitsBackSaid : Prop := bitsBackRow.holds Try.pinned (OpenSpec.ofChange bitsBackSpec)

/-- ITS FALSE NEIGHBOUR: 'it returns false'. Refute it at one input. -/
def bitsBackWrong : ChangeSpec := { name := "bitsBack", fn := fun _ => fun
  | [d1, d2, d3] => { results := [.lit (.bool false)], args := [d1, d2, d3] }
  | _ => none }
def BitsBackWrongFalsely : Prop := bitsBackRow.holds Try.pinned (OpenSpec.ofChange bitsBackWrong)

/-- 'vellumlaw01.BitsPieces': WHATEVER THE INPUT: true; the input reads as it did. -/
def bitsPiecesSpec : ChangeSpec := { name := "bitsPieces", fn := fun _ => fun
  | [d1, d2] => { results := [.lit (.bool true)], args := [d1, d2] }
  | _ => none }
def bitsPiecesRow : OpenClaim := { program := "ytgcgbpehedkckaa", sum := "452934b7b7c70e050d0bc5a091829def6df8cc82c55cd1a87f41ade60928e608", func := "vellum/vellumlaw01.BitsPieces", spec := "bitsPieces", unfollowed := true, recurses := true, apart := false }
def BitsPiecesSaid : Prop := bitsPiecesRow.holds Try.pinned (OpenSpec.ofChange bitsPiecesSpec)

/-- ITS FALSE NEIGHBOUR: 'it returns false'. Refute it at one input. -/
def bitsPiecesWrong : ChangeSpec := { name := "bitsPieces", fn := fun _ => fun
  | [d1, d2] => { results := [.lit (.bool false)], args := [d1, d2] }
  | _ => none }
def BitsPiecesWrongFalsely : Prop := bitsPiecesRow.holds Try.pinned (OpenSpec.ofChange bitsPiecesWrong)

/-- 'vellumlaw01.BitsBurst': WHATEVER THE INPUT: true; the input reads as it did. -/
def bitsBurstSpec : ChangeSpec := { name := "bitsBurst", fn := fun _ => fun
  | [d1, d2, d3] => { results := [.lit (.bool true)], args := [d1, d2, d3] }
  | _ => none }
def bitsBurstRow : OpenClaim := { program := "ytgcgbpehedkckaa", sum := "452934b7b7c70e050d0bc5a091829def6df8cc82c55cd1a87f41ade60928e608", func := "vellum/vellumlaw01.BitsBurst", spec := "bitsBurst", unfollowed := true, recurses := true, apart := false }
def BitsBurstSaid : Prop := bitsBurstRow.holds Try.pinned (OpenSpec.ofChange bitsBurstSpec)

/-- ITS FALSE NEIGHBOUR: 'it returns false'. Refute it at one input. -/
def bitsBurstWrong : ChangeSpec := { name := "bitsBurst", fn := fun _ => fun
  | [d1, d2, d3] => { results := [.lit (.bool false)], args := [d1, d2, d3] }
  | _ => none }
def BitsBurstWrongFalsely : Prop := bitsBurstRow.holds Try.pinned (OpenSpec.ofChange bitsBurstWrong)

/-- 'vellumlaw01.BitsCovers': WHATEVER THE INPUT: true; the input reads as it did. -/
def bitsCoversSpec : ChangeSpec := { name := "bitsCovers", fn := fun _ => fun
  | [d1, d2] => { results := [.lit (.bool true)], args := [d1, d2] }
  | _ => none }
def bitsCoversRow : OpenClaim := { program := "ytgcgbpehedkckaa", sum := "452934b7b7c70e050d0bc5a091829def6df8cc82c55cd1a87f41ade60928e608", func := "vellum/vellumlaw01.BitsCovers", spec := "bitsCovers", unfollowed := true, recurses := true, apart := false }
def BitsCoversSaid : Prop := bitsCoversRow.holds Try.pinned (OpenSpec.ofChange bitsCoversSpec)

/-- ITS FALSE NEIGHBOUR: 'it returns false'. Refute it at one input. -/
def bitsCoversWrong : ChangeSpec := { name := "bitsCovers", fn := fun _ => fun
  | [d1, d2] => { results := [.lit (.bool false)], args := [d1, d2] }
  | _ => none }
def BitsCoversWrongFalsely : Prop := bitsCoversRow.holds Try.pinned (OpenSpec.ofChange bitsCoversWrong)

/-- 'vellumlaw01.BitsKnown': WHATEVER THE INPUT: true; the input reads as it did. -/
def bitsKnownSpec : ChangeSpec := { name := "bitsKnown", fn := fun _ => fun
  | [] => { results := [.lit (.bool true)], args := [] }
  | _ => none }
def bitsKnownRow : OpenClaim := { program := "ytgcgbpehedkckaa", sum := "452934b7b7c70e050d0bc5a091829def6df8cc82c55cd1a87f41ade60928e608", func := "vellum/vellumlaw01.BitsKnown", spec := "bitsKnown", unfollowed := true, recurses := true, apart := false }
def BitsKnownSaid : Prop := bitsKnownRow.holds Try.pinned (OpenSpec.ofChange bitsKnownSpec)

/-- ITS FALSE NEIGHBOUR: 'it returns false'. Refute it at one input. -/
def bitsKnownWrong : ChangeSpec := { name := "bitsKnown", fn := fun _ => fun
  | [] => { results := [.lit (.bool false)], args := [] }
  | _ => none }
def BitsKnownWrongFalsely : Prop := bitsKnownRow.holds Try.pinned (OpenSpec.ofChange bitsKnownWrong)

/- THE SECOND FORM. 'bulk': how many values and letters a reading holds, each counted each time it is reached (what is shared counts as often as it is met; a slice's spare places count too). A statement '..UptoSaid' is the law's where the arguments, and the package variables that the reading takes, are together of bulk at most 1048576: NARROWER than '..Said'. Prove '..Said' where nothing that the law and all that it calls make is longer than what came in: it says more and counts as full. Else prove '..UptoSaid'. A law counts once. -/
mutual
def uptoBulk {H : Type} : DataW H → Nat
  | .lit (.string bytes) => bytes.length + 1
  | .lit _ => 1
  | .nil => 1
  | .ptr d => uptoBulk d + 1
  | .slice elems spare => uptoBulkAll elems + uptoBulkAll spare + 1
  | .agg parts => uptoBulkAll parts + 1
  | .iface _ d => uptoBulk d + 1
  | .map entries => uptoBulkEntries entries + 1
  | .held _ => 1
def uptoBulkAll {H : Type} : List (DataW H) → Nat
  | [] => 0
  | d :: r => uptoBulk d + uptoBulkAll r
def uptoBulkEntries {H : Type} : List (Lit × DataW H) → Nat
  | [] => 0
  | x :: r => uptoBulkEntry x + uptoBulkEntries r
def uptoBulkEntry {H : Type} : Lit × DataW H → Nat
  | (.string bytes, d) => bytes.length + uptoBulk d + 1
  | (_, d) => uptoBulk d + 1
 end
def uptoSmall : (H : Type) → List (DataW H) → Bool := fun _ ds => decide (uptoBulkAll ds ≤ 1048576)
def OpenSpec.upto (s : _root_.Go.ChangeSpec) : _root_.Go.OpenSpec := { _root_.Go.OpenSpec.ofChange s with cond := some uptoSmall }

/-- 'vellumlaw01.BitsPuts', WHERE WHAT IT READS IS OF BULK AT MOST 1048576: true; the input reads as it did. -/
def bitsPutsUptoRow : OpenClaim := { program := "ytgcgbpehedkckaa", sum := "452934b7b7c70e050d0bc5a091829def6df8cc82c55cd1a87f41ade60928e608", func := "vellum/vellumlaw01.BitsPuts", spec := "bitsPuts", unfollowed := true, recurses := true, apart := false, narrowed := true }
def BitsPutsUptoSaid : Prop := bitsPutsUptoRow.holds Try.pinned (OpenSpec.upto bitsPutsSpec)

/-- 'vellumlaw01.BitsTakes', WHERE WHAT IT READS IS OF BULK AT MOST 1048576: true; the input reads as it did. -/
def bitsTakesUptoRow : OpenClaim := { program := "ytgcgbpehedkckaa", sum := "452934b7b7c70e050d0bc5a091829def6df8cc82c55cd1a87f41ade60928e608", func := "vellum/vellumlaw01.BitsTakes", spec := "bitsTakes", unfollowed := true, recurses := true, apart := false, narrowed := true }
def BitsTakesUptoSaid : Prop := bitsTakesUptoRow.holds Try.pinned (OpenSpec.upto bitsTakesSpec)

/-- 'vellumlaw01.BitsSums', WHERE WHAT IT READS IS OF BULK AT MOST 1048576: true; the input reads as it did. -/
def bitsSumsUptoRow : OpenClaim := { program := "ytgcgbpehedkckaa", sum := "452934b7b7c70e050d0bc5a091829def6df8cc82c55cd1a87f41ade60928e608", func := "vellum/vellumlaw01.BitsSums", spec := "bitsSums", unfollowed := true, recurses := true, apart := false, narrowed := true }
def BitsSumsUptoSaid : Prop := bitsSumsUptoRow.holds Try.pinned (OpenSpec.upto bitsSumsSpec)

/-- 'vellumlaw01.BitsRounds', WHERE WHAT IT READS IS OF BULK AT MOST 1048576: true; the input reads as it did. -/
def bitsRoundsUptoRow : OpenClaim := { program := "ytgcgbpehedkckaa", sum := "452934b7b7c70e050d0bc5a091829def6df8cc82c55cd1a87f41ade60928e608", func := "vellum/vellumlaw01.BitsRounds", spec := "bitsRounds", unfollowed := true, recurses := true, apart := false, narrowed := true }
def BitsRoundsUptoSaid : Prop := bitsRoundsUptoRow.holds Try.pinned (OpenSpec.upto bitsRoundsSpec)

/-- 'vellumlaw01.BitsRanges', WHERE WHAT IT READS IS OF BULK AT MOST 1048576: true; the input reads as it did. -/
def bitsRangesUptoRow : OpenClaim := { program := "ytgcgbpehedkckaa", sum := "452934b7b7c70e050d0bc5a091829def6df8cc82c55cd1a87f41ade60928e608", func := "vellum/vellumlaw01.BitsRanges", spec := "bitsRanges", unfollowed := true, recurses := true, apart := false, narrowed := true }
def BitsRangesUptoSaid : Prop := bitsRangesUptoRow.holds Try.pinned (OpenSpec.upto bitsRangesSpec)

/-- 'vellumlaw01.BitsBack', WHERE WHAT IT READS IS OF BULK AT MOST 1048576: true; the input reads as it did. -/
def bitsBackUptoRow : OpenClaim := { program := "ytgcgbpehedkckaa", sum := "452934b7b7c70e050d0bc5a091829def6df8cc82c55cd1a87f41ade60928e608", func := "vellum/vellumlaw01.BitsBack", spec := "bitsBack", unfollowed := true, recurses := true, apart := false, narrowed := true }
def BitsBackUptoSaid : Prop := bitsBackUptoRow.holds Try.pinned (OpenSpec.upto bitsBackSpec)

/-- 'vellumlaw01.BitsPieces', WHERE WHAT IT READS IS OF BULK AT MOST 1048576: true; the input reads as it did. -/
def bitsPiecesUptoRow : OpenClaim := { program := "ytgcgbpehedkckaa", sum := "452934b7b7c70e050d0bc5a091829def6df8cc82c55cd1a87f41ade60928e608", func := "vellum/vellumlaw01.BitsPieces", spec := "bitsPieces", unfollowed := true, recurses := true, apart := false, narrowed := true }
def BitsPiecesUptoSaid : Prop := bitsPiecesUptoRow.holds Try.pinned (OpenSpec.upto bitsPiecesSpec)

/-- 'vellumlaw01.BitsBurst', WHERE WHAT IT READS IS OF BULK AT MOST 1048576: true; the input reads as it did. -/
def bitsBurstUptoRow : OpenClaim := { program := "ytgcgbpehedkckaa", sum := "452934b7b7c70e050d0bc5a091829def6df8cc82c55cd1a87f41ade60928e608", func := "vellum/vellumlaw01.BitsBurst", spec := "bitsBurst", unfollowed := true, recurses := true, apart := false, narrowed := true }
def BitsBurstUptoSaid : Prop := bitsBurstUptoRow.holds Try.pinned (OpenSpec.upto bitsBurstSpec)

/-- 'vellumlaw01.BitsCovers', WHERE WHAT IT READS IS OF BULK AT MOST 1048576: true; the input reads as it did. -/
def bitsCoversUptoRow : OpenClaim := { program := "ytgcgbpehedkckaa", sum := "452934b7b7c70e050d0bc5a091829def6df8cc82c55cd1a87f41ade60928e608", func := "vellum/vellumlaw01.BitsCovers", spec := "bitsCovers", unfollowed := true, recurses := true, apart := false, narrowed := true }
def BitsCoversUptoSaid : Prop := bitsCoversUptoRow.holds Try.pinned (OpenSpec.upto bitsCoversSpec)

/-- 'vellumlaw01.BitsKnown', WHERE WHAT IT READS IS OF BULK AT MOST 1048576: true; the input reads as it did. -/
def bitsKnownUptoRow : OpenClaim := { program := "ytgcgbpehedkckaa", sum := "452934b7b7c70e050d0bc5a091829def6df8cc82c55cd1a87f41ade60928e608", func := "vellum/vellumlaw01.BitsKnown", spec := "bitsKnown", unfollowed := true, recurses := true, apart := false, narrowed := true }
def BitsKnownUptoSaid : Prop := bitsKnownUptoRow.holds Try.pinned (OpenSpec.upto bitsKnownSpec)

end Rows
end Go.Proofs.Ytgcgbpehedkckaa
