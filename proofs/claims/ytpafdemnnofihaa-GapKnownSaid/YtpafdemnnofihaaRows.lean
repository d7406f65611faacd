/-
  No cell of these rows narrows 'for every input' (looked for: loops, veiled, ifaces, maps, wideKeys, modest, calm, conditions, laid).
  DERIVED. THE GIVEN ROWS OF THIS SEAT. 5 by the template 'for every input the law returns true; each argument reads behind the call as it read before'; 0 by the template 'total and deterministic' (their statements: YtpafdemnnofihaaTotals.lean).
  GIVEN WITH THE SEED: the statements are not yours to turn. If you find one false, say at which input.
  Laid BY PROGRAM, IN A SANDBOX (cutbox-rows.mjs): the forced cells as the released guide's own fill.sh prints them over the translation 40d2ebca7903ffaa… (all of the seat's roots in one cut). By AI agents, Wed Nov 11 2026. No macro, syntax, notation, axiom, sorry.
-/
import Derived.Test.YtpafdemnnofihaaChecked
import GoSem.Claim
import GoSem.ClaimJoined
import GoSem.ClaimMapViews
import Derived.JoinedTies
import Derived.KernelRfl
namespace Go.Proofs.Ytpafdemnnofihaa
/- THE CELL 'sum', in the pinned program and in every row, IS THE sha256 OF THE DUMP (.gsa) THAT YtpafdemnnofihaaProg.lean LOADS. Nothing in Lean hashes anything: it is a label: what it is worth is what the hold of that sum in a sandbox is worth. -/
noncomputable def Try.pinned : Pinned := { name := "ytpafdemnnofihaa", sum := "40d2ebca7903ffaa0b8c170ffee7914a1bfafa1421b4c320cf3b65339aa563a2", checked := Try.checked }
namespace Rows
def none {H : Type} : Left H := { results := [], args := [] }

/-- 'vellumlaw16.GapOpens': WHATEVER THE INPUT: true; the input reads as it did. -/
def gapOpensSpec : ChangeSpec := { name := "gapOpens", fn := fun _ => fun
  | [d] => { results := [.lit (.bool true)], args := [d] }
  | _ => none }
def gapOpensRow : OpenClaim := { program := "ytpafdemnnofihaa", sum := "40d2ebca7903ffaa0b8c170ffee7914a1bfafa1421b4c320cf3b65339aa563a2", func := "vellum/vellumlaw16.GapOpens", spec := "gapOpens", apart := false }
def GapOpensSaid : Prop := gapOpensRow.holds Try.pinned (OpenSpec.ofChange gapOpensSpec)

/-- ITS FALSE NEIGHBOUR: 'it returns false'. Refute it at one input. -/
def gapOpensWrong : ChangeSpec := { name := "gapOpens", fn := fun _ => fun
  | [d] => { results := [.lit (.bool false)], args := [d] }
  | _ => none }
def GapOpensWrongFalsely : Prop := gapOpensRow.holds Try.pinned (OpenSpec.ofChange gapOpensWrong)

/-- 'vellumlaw16.GapGoes': WHATEVER THE INPUT: true; the input reads as it did. -/
def gapGoesSpec : ChangeSpec := { name := "gapGoes", fn := fun _ => fun
  | [d1, d2] => { results := [.lit (.bool true)], args := [d1, d2] }
  | _ => none }
def gapGoesRow : OpenClaim := { program := "ytpafdemnnofihaa", sum := "40d2ebca7903ffaa0b8c170ffee7914a1bfafa1421b4c320cf3b65339aa563a2", func := "vellum/vellumlaw16.GapGoes", spec := "gapGoes", apart := false }
def GapGoesSaid : Prop := gapGoesRow.holds Try.pinned (OpenSpec.ofChange gapGoesSpec)

/-- ITS FALSE NEIGHBOUR: 'it returns false'. Refute it at one input. -/
def gapGoesWrong : ChangeSpec := { name := "gapGoes", fn := fun _ => fun
  | [d1, d2] => { results := [.lit (.bool false)], args := [d1, d2] }
  | _ => none }
def GapGoesWrongFalsely : Prop := gapGoesRow.holds Try.pinned (OpenSpec.ofChange gapGoesWrong)

/-- 'vellumlaw16.GapOne': WHATEVER THE INPUT: true; the input reads as it did. -/
def gapOneSpec : ChangeSpec := { name := "gapOne", fn := fun _ => fun
  | [d1, d2] => { results := [.lit (.bool true)], args := [d1, d2] }
  | _ => none }
def gapOneRow : OpenClaim := { program := "ytpafdemnnofihaa", sum := "40d2ebca7903ffaa0b8c170ffee7914a1bfafa1421b4c320cf3b65339aa563a2", func := "vellum/vellumlaw16.GapOne", spec := "gapOne", apart := false }
def GapOneSaid : Prop := gapOneRow.holds Try.pinned (OpenSpec.ofChange gapOneSpec)

/-- ITS FALSE NEIGHBOUR: 'it returns false'. Refute it at one input. -/
def gapOneWrong : ChangeSpec := { name := "gapOne", fn := fun _ => fun
  | [d1, d2] => { results := [.lit (.bool false)], args := [d1, d2] }
  | _ => none }
def GapOneWrongFalsely : Prop := gapOneRow.holds Try.pinned (OpenSpec.ofChange gapOneWrong)

/-- 'vellumlaw16.GapPlays': WHATEVER THE INPUT: true; the input reads as it did. -/
def gapPlaysSpec : ChangeSpec := { name := "gapPlays", fn := fun _ => fun
  | [d] => { results := [.lit (.bool true)], args := [d] }
  | _ => none }
def gapPlaysRow : OpenClaim := { program := "ytpafdemnnofihaa", sum := "40d2ebca7903ffaa0b8c170ffee7914a1bfafa1421b4c320cf3b65339aa563a2", func := "vellum/vellumlaw16.GapPlays", spec := "gapPlays", apart := false }
def GapPlaysSaid : Prop := gapPlaysRow.holds Try.pinned (OpenSpec.ofChange gapPlaysSpec)

/-- ITS FALSE NEIGHBOUR: 'it returns false'. Refute it at one input. -/
def gapPlaysWrong : ChangeSpec := { name := "gapPlays", fn := fun _ => fun
  | [d] => { results := [.lit (.bool false)], args := [d] }
  | _ => none }
def GapPlaysWrongFalsely : Prop := gapPlaysRow.holds Try.pinned (OpenSpec.ofChange gapPlaysWrong)

/-- 'vellumlaw16.GapKnown': WHATEVER THE INPUT: true; the input reads as it did. -/
def gapKnownSpec : ChangeSpec := { name := "gapKnown", fn := fun _ => fun
  | [] => { results := [.lit (.bool true)], args := [] }
  | _ => none }
def gapKnownRow : OpenClaim := { program := "ytpafdemnnofihaa", sum := "40d2ebca7903ffaa0b8c170ffee7914a1bfafa1421b4c320cf3b65339aa563a2", func := "vellum/vellumlaw16.GapKnown", spec := "gapKnown", apart := false }
def GapKnownSaid : Prop := gapKnownRow.holds Try.pinned (OpenSpec.ofChange gapKnownSpec)

/-- ITS FALSE NEIGHBOUR: 'it returns false'. Refute it at one input. -/
def gapKnownWrong : ChangeSpec := { name := "gapKnown", fn := fun _ => fun
  | [] => { results := [.lit (.bool false)], args := [] }
  | _ => none }
def GapKnownWrongFalsely : Prop := gapKnownRow.holds Try.pinned (OpenSpec.ofChange gapKnownWrong)

/- THE SECOND FORM. 'bulk': how many values and letters a reading holds, each counted each time it is reached (what is shared counts as often as it is met; a slice's spare places count too). A statement '..UptoSaid' is the law's where the arguments, and the package variables that the reading takes, are together of bulk at most 1048576: NARROWER than '..Said'. Prove '..Said' where nothing that the law and all that it calls make is longer than what came in: it says more and counts as full. Else prove '..UptoSaid'. A law counts once. -/
mutual
def uptoBulk {H : Type} : DataW H → Nat
  | .lit (.string bytes) => bytes.length + 1
  | .lit _ => 1
  | .nil => 1
  | .ptr d => uptoBulk d + 1
  | .slice elems spare => uptoBulkAll elems + uptoBulkAll spare + 1
  | .agg parts => uptoBulkAll parts + 1
  | .iface _ d => uptoBulk d + 1
  | .map entries => uptoBulkEntries entries + 1
  | .held _ => 1
def uptoBulkAll {H : Type} : List (DataW H) → Nat
  | [] => 0
  | d :: r => uptoBulk d + uptoBulkAll r
def uptoBulkEntries {H : Type} : List (Lit × DataW H) → Nat
  | [] => 0
  | x :: r => uptoBulkEntry x + uptoBulkEntries r
def uptoBulkEntry {H : Type} : Lit × DataW H → Nat
  | (.string bytes, d) => bytes.length + uptoBulk d + 1
  | (_, d) => uptoBulk d + 1
 end
def uptoSmall : (H : Type) → List (DataW H) → Bool := fun _ ds => decide (uptoBulkAll ds ≤ 1048576)
def OpenSpec.upto (s : _root_.Go.ChangeSpec) : _root_.Go.OpenSpec := { _root_.Go.OpenSpec.ofChange s with cond := some uptoSmall }

/-- 'vellumlaw16.GapOpens', WHERE WHAT IT READS IS OF BULK AT MOST 1048576: true; the input reads as it did. -/
def gapOpensUptoRow : OpenClaim := { program := "ytpafdemnnofihaa", sum := "40d2ebca7903ffaa0b8c170ffee7914a1bfafa1421b4c320cf3b65339aa563a2", func := "vellum/vellumlaw16.GapOpens", spec := "gapOpens", apart := false, narrowed := true }
def GapOpensUptoSaid : Prop := gapOpensUptoRow.holds Try.pinned (OpenSpec.upto gapOpensSpec)

/-- 'vellumlaw16.GapGoes', WHERE WHAT IT READS IS OF BULK AT MOST 1048576: true; the input reads as it did. -/
def gapGoesUptoRow : OpenClaim := { program := "ytpafdemnnofihaa", sum := "40d2ebca7903ffaa0b8c170ffee7914a1bfafa1421b4c320cf3b65339aa563a2", func := "vellum/vellumlaw16.GapGoes", spec := "gapGoes", apart := false, narrowed := true }
def GapGoesUptoSaid : Prop := gapGoesUptoRow.holds Try.pinned (OpenSpec.upto gapGoesSpec)

/-- 'vellumlaw16.GapOne', WHERE WHAT IT READS IS OF BULK AT MOST 1048576: true; the input reads as it did. -/
def gapOneUptoRow : OpenClaim := { program := "ytpafdemnnofihaa", sum := "40d2ebca7903ffaa0b8c170ffee7914a1bfafa1421b4c320cf3b65339aa563a2", func := "vellum/vellumlaw16.GapOne", spec := "gapOne", apart := false, narrowed := true }
def GapOneUptoSaid : Prop := gapOneUptoRow.holds Try.pinned (OpenSpec.upto gapOneSpec)

/-- 'vellumlaw16.GapPlays', WHERE WHAT IT READS IS OF BULK AT MOST 1048576: true; the input reads as it did. -/
def gapPlaysUptoRow : OpenClaim := { program := "ytpafdemnnofihaa", sum := "40d2ebca7903ffaa0b8c170ffee7914a1bfafa1421b4c320cf3b65339aa563a2", func := "vellum/vellumlaw16.GapPlays", spec := "gapPlays", apart := false, narrowed := true }
def GapPlaysUptoSaid : Prop := gapPlaysUptoRow.holds Try.pinned (OpenSpec.upto gapPlaysSpec)

/-- 'vellumlaw16.GapKnown', WHERE WHAT IT READS IS OF BULK AT MOST 1048576: true; the input reads as it did. -/
def gapKnownUptoRow : OpenClaim := { program := "ytpafdemnnofihaa", sum := "40d2ebca7903ffaa0b8c170ffee7914a1bfafa1421b4c320cf3b65339aa563a2", func := "vellum/vellumlaw16.GapKnown", spec := "gapKnown", apart := false, narrowed := true }
def GapKnownUptoSaid : Prop := gapKnownUptoRow.holds Try.pinned (OpenSpec.upto gapKnownSpec)

end Rows
end Go.Proofs.Ytpafdemnnofihaa
