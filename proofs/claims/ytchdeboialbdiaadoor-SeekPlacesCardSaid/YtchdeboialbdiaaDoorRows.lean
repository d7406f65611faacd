/-
  NARROWER THAN 'FOR EVERY INPUT', by the rows' own cells (each row's printed sentence says how): SeekMatches: laid · SeekAll: laid · SeekQuotes: laid · SeekMeans: laid · SeekCompiles: laid · SeekQuoted: laid · SeekPlaces: laid.
  DERIVED. THE GIVEN ROWS OF THIS SEAT. 7 by the template 'for every input the law returns true; each argument reads behind the call as it read before'; 0 by the template 'total and deterministic' (their statements: YtchdeboialbdiaaDoorTotals.lean).
  GIVEN WITH THE SEED: the statements are not yours to turn. If you find one false, say at which input.
  Laid BY PROGRAM, IN A SANDBOX (cutbox-rows.mjs): the forced cells as the released guide's own fill.sh prints them over the translation 2e1d617cdd3ac624… (all of the seat's roots in one cut). By AI agents, Wed Nov 11 2026. No macro, syntax, notation, axiom, sorry.
-/
import Derived.Test.YtchdeboialbdiaaDoorChecked
import GoSem.PinnedTables
import GoSem.Claim
import GoSem.ClaimJoined
import GoSem.ClaimMapViews
import Derived.JoinedTies
import Derived.KernelRfl
namespace Go.Proofs.YtchdeboialbdiaaDoor
/- THE CELL 'sum', in the pinned program and in every row, IS THE sha256 OF THE DUMP (.gsa) THAT YtchdeboialbdiaaDoorProg.lean LOADS. Nothing in Lean hashes anything: it is a label: what it is worth is what the hold of that sum in a sandbox is worth. -/
noncomputable def Tryd.pinned : Pinned := { name := "ytchdeboialbdiaadoor", sum := "2e1d617cdd3ac624f63fd8c568431965b93c690a43097249d5df48d6a0cfadad", checked := Tryd.checked }
namespace Rows
def none {H : Type} : Left H := { results := [], args := [] }

/- WHAT THE LISTED PACKAGE-LEVEL VARIABLES READ AS WHEN THE CALL BEGINS. Each datum BY PROGRAM (the guide's laid-datum.mjs) off the statement by which the dump's own 'gosem.cut.vars' lays the variable. In a bare row this is a premise. The card (YtchdeboialbdiaaDoorCards.lean) ties it to the program's text. -/
def laid_unicode_utf8_acceptRanges {H : Type} : DataW H := .agg [.agg [.lit (.int .u8 128), .lit (.int .u8 191)], .agg [.lit (.int .u8 160), .lit (.int .u8 191)], .agg [.lit (.int .u8 128), .lit (.int .u8 159)], .agg [.lit (.int .u8 144), .lit (.int .u8 191)], .agg [.lit (.int .u8 128), .lit (.int .u8 143)], .agg [.lit (.int .u8 0), .lit (.int .u8 0)], .agg [.lit (.int .u8 0), .lit (.int .u8 0)], .agg [.lit (.int .u8 0), .lit (.int .u8 0)], .agg [.lit (.int .u8 0), .lit (.int .u8 0)], .agg [.lit (.int .u8 0), .lit (.int .u8 0)], .agg [.lit (.int .u8 0), .lit (.int .u8 0)], .agg [.lit (.int .u8 0), .lit (.int .u8 0)], .agg [.lit (.int .u8 0), .lit (.int .u8 0)], .agg [.lit (.int .u8 0), .lit (.int .u8 0)], .agg [.lit (.int .u8 0), .lit (.int .u8 0)], .agg [.lit (.int .u8 0), .lit (.int .u8 0)]]
/-- One of Go's own tables, pinned by name: the form's constant. -/
def laid_unicode_utf8_first : DataW Unit := Go.Pinned.utf8First
def laid_errors_errorType {H : Type} : DataW H := .iface "internal/reflectlite.rtype" (.agg [.ptr (.lit (.string [101, 114, 114, 111, 114]))])

/-- 'vellumlaw06.SeekMatches': WHATEVER THE INPUT: true; the input reads as it did. -/
def seekMatchesSpec : ChangeSpec := { name := "seekMatches", fn := fun _ => fun
  | [d] => { results := [.lit (.bool true)], args := [d] }
  | _ => none }
def seekMatchesRow : OpenClaim := { program := "ytchdeboialbdiaadoor", sum := "2e1d617cdd3ac624f63fd8c568431965b93c690a43097249d5df48d6a0cfadad", func := "vellum/vellumlaw06.SeekMatches", spec := "seekMatches", unfollowed := true, recurses := true, named := ["unicode/utf8.first", "unicode/utf8.acceptRanges"], apart := false, laid := [("unicode/utf8.acceptRanges", laid_unicode_utf8_acceptRanges), ("unicode/utf8.first", laid_unicode_utf8_first)] }
def SeekMatchesSaid : Prop := seekMatchesRow.holds Tryd.pinned (OpenSpec.ofChange seekMatchesSpec)

/-- ITS FALSE NEIGHBOUR: 'it returns false'. Refute it at one input. -/
def seekMatchesWrong : ChangeSpec := { name := "seekMatches", fn := fun _ => fun
  | [d] => { results := [.lit (.bool false)], args := [d] }
  | _ => none }
def SeekMatchesWrongFalsely : Prop := seekMatchesRow.holds Tryd.pinned (OpenSpec.ofChange seekMatchesWrong)

/-- 'vellumlaw06.SeekAll': WHATEVER THE INPUT: true; the input reads as it did. -/
def seekAllSpec : ChangeSpec := { name := "seekAll", fn := fun _ => fun
  | [d1, d2, d3] => { results := [.lit (.bool true)], args := [d1, d2, d3] }
  | _ => none }
def seekAllRow : OpenClaim := { program := "ytchdeboialbdiaadoor", sum := "2e1d617cdd3ac624f63fd8c568431965b93c690a43097249d5df48d6a0cfadad", func := "vellum/vellumlaw06.SeekAll", spec := "seekAll", unfollowed := true, recurses := true, named := ["unicode/utf8.first", "unicode/utf8.acceptRanges"], apart := false, laid := [("unicode/utf8.acceptRanges", laid_unicode_utf8_acceptRanges), ("unicode/utf8.first", laid_unicode_utf8_first)] }
def SeekAllSaid : Prop := seekAllRow.holds Tryd.pinned (OpenSpec.ofChange seekAllSpec)

/-- ITS FALSE NEIGHBOUR: 'it returns false'. Refute it at one input. -/
def seekAllWrong : ChangeSpec := { name := "seekAll", fn := fun _ => fun
  | [d1, d2, d3] => { results := [.lit (.bool false)], args := [d1, d2, d3] }
  | _ => none }
def SeekAllWrongFalsely : Prop := seekAllRow.holds Tryd.pinned (OpenSpec.ofChange seekAllWrong)

/-- 'vellumlaw06.SeekQuotes': WHATEVER THE INPUT: true; the input reads as it did. -/
def seekQuotesSpec : ChangeSpec := { name := "seekQuotes", fn := fun _ => fun
  | [d] => { results := [.lit (.bool true)], args := [d] }
  | _ => none }
def seekQuotesRow : OpenClaim := { program := "ytchdeboialbdiaadoor", sum := "2e1d617cdd3ac624f63fd8c568431965b93c690a43097249d5df48d6a0cfadad", func := "vellum/vellumlaw06.SeekQuotes", spec := "seekQuotes", inPlace := ["internal/bytealg.IndexByteString", "internal/abi.NoEscape"], unfollowed := true, recurses := true, named := ["unicode/utf8.first", "unicode/utf8.acceptRanges"], apart := false, laid := [("unicode/utf8.acceptRanges", laid_unicode_utf8_acceptRanges), ("unicode/utf8.first", laid_unicode_utf8_first)] }
def SeekQuotesSaid : Prop := seekQuotesRow.holds Tryd.pinned (OpenSpec.ofChange seekQuotesSpec)

/-- ITS FALSE NEIGHBOUR: 'it returns false'. Refute it at one input. -/
def seekQuotesWrong : ChangeSpec := { name := "seekQuotes", fn := fun _ => fun
  | [d] => { results := [.lit (.bool false)], args := [d] }
  | _ => none }
def SeekQuotesWrongFalsely : Prop := seekQuotesRow.holds Tryd.pinned (OpenSpec.ofChange seekQuotesWrong)

/-- 'vellumlaw06.SeekMeans': WHATEVER THE INPUT: true; the input reads as it did. -/
def seekMeansSpec : ChangeSpec := { name := "seekMeans", fn := fun _ => fun
  | [d1, d2, d3] => { results := [.lit (.bool true)], args := [d1, d2, d3] }
  | _ => none }
def seekMeansRow : OpenClaim := { program := "ytchdeboialbdiaadoor", sum := "2e1d617cdd3ac624f63fd8c568431965b93c690a43097249d5df48d6a0cfadad", func := "vellum/vellumlaw06.SeekMeans", spec := "seekMeans", inPlace := ["internal/bytealg.IndexByteString", "internal/abi.NoEscape"], unfollowed := true, recurses := true, named := ["unicode/utf8.first", "unicode/utf8.acceptRanges"], apart := false, laid := [("unicode/utf8.acceptRanges", laid_unicode_utf8_acceptRanges), ("unicode/utf8.first", laid_unicode_utf8_first)] }
def SeekMeansSaid : Prop := seekMeansRow.holds Tryd.pinned (OpenSpec.ofChange seekMeansSpec)

/-- ITS FALSE NEIGHBOUR: 'it returns false'. Refute it at one input. -/
def seekMeansWrong : ChangeSpec := { name := "seekMeans", fn := fun _ => fun
  | [d1, d2, d3] => { results := [.lit (.bool false)], args := [d1, d2, d3] }
  | _ => none }
def SeekMeansWrongFalsely : Prop := seekMeansRow.holds Tryd.pinned (OpenSpec.ofChange seekMeansWrong)

/-- 'vellumlaw06.SeekCompiles': WHATEVER THE INPUT: true; the input reads as it did. -/
def seekCompilesSpec : ChangeSpec := { name := "seekCompiles", fn := fun _ => fun
  | [d] => { results := [.lit (.bool true)], args := [d] }
  | _ => none }
def seekCompilesRow : OpenClaim := { program := "ytchdeboialbdiaadoor", sum := "2e1d617cdd3ac624f63fd8c568431965b93c690a43097249d5df48d6a0cfadad", func := "vellum/vellumlaw06.SeekCompiles", spec := "seekCompiles", inPlace := ["internal/reflectlite.ValueOf", "(internal/reflectlite.Value).Type", "(internal/reflectlite.Value).IsNil", "internal/reflectlite.TypeOf", "(internal/reflectlite.Value).Elem", "(internal/reflectlite.Value).Set"], unfollowed := true, recurses := true, named := ["unicode/utf8.first", "unicode/utf8.acceptRanges", "errors.errorType"], apart := false, laid := [("unicode/utf8.acceptRanges", laid_unicode_utf8_acceptRanges), ("errors.errorType", laid_errors_errorType), ("unicode/utf8.first", laid_unicode_utf8_first)] }
def SeekCompilesSaid : Prop := seekCompilesRow.holds Tryd.pinned (OpenSpec.ofChange seekCompilesSpec)

/-- ITS FALSE NEIGHBOUR: 'it returns false'. Refute it at one input. -/
def seekCompilesWrong : ChangeSpec := { name := "seekCompiles", fn := fun _ => fun
  | [d] => { results := [.lit (.bool false)], args := [d] }
  | _ => none }
def SeekCompilesWrongFalsely : Prop := seekCompilesRow.holds Tryd.pinned (OpenSpec.ofChange seekCompilesWrong)

/-- 'vellumlaw06.SeekQuoted': WHATEVER THE INPUT: true; the input reads as it did. -/
def seekQuotedSpec : ChangeSpec := { name := "seekQuoted", fn := fun _ => fun
  | [d1, d2, d3] => { results := [.lit (.bool true)], args := [d1, d2, d3] }
  | _ => none }
def seekQuotedRow : OpenClaim := { program := "ytchdeboialbdiaadoor", sum := "2e1d617cdd3ac624f63fd8c568431965b93c690a43097249d5df48d6a0cfadad", func := "vellum/vellumlaw06.SeekQuoted", spec := "seekQuoted", inPlace := ["internal/bytealg.IndexByteString", "internal/abi.NoEscape", "internal/reflectlite.ValueOf", "(internal/reflectlite.Value).Type", "(internal/reflectlite.Value).IsNil", "internal/reflectlite.TypeOf", "(internal/reflectlite.Value).Elem", "(internal/reflectlite.Value).Set"], unfollowed := true, recurses := true, named := ["unicode/utf8.first", "unicode/utf8.acceptRanges", "errors.errorType"], apart := false, laid := [("unicode/utf8.acceptRanges", laid_unicode_utf8_acceptRanges), ("errors.errorType", laid_errors_errorType), ("unicode/utf8.first", laid_unicode_utf8_first)] }
def SeekQuotedSaid : Prop := seekQuotedRow.holds Tryd.pinned (OpenSpec.ofChange seekQuotedSpec)

/-- ITS FALSE NEIGHBOUR: 'it returns false'. Refute it at one input. -/
def seekQuotedWrong : ChangeSpec := { name := "seekQuoted", fn := fun _ => fun
  | [d1, d2, d3] => { results := [.lit (.bool false)], args := [d1, d2, d3] }
  | _ => none }
def SeekQuotedWrongFalsely : Prop := seekQuotedRow.holds Tryd.pinned (OpenSpec.ofChange seekQuotedWrong)

/-- 'vellumlaw06.SeekPlaces': WHATEVER THE INPUT: true; the input reads as it did. -/
def seekPlacesSpec : ChangeSpec := { name := "seekPlaces", fn := fun _ => fun
  | [d1, d2] => { results := [.lit (.bool true)], args := [d1, d2] }
  | _ => none }
def seekPlacesRow : OpenClaim := { program := "ytchdeboialbdiaadoor", sum := "2e1d617cdd3ac624f63fd8c568431965b93c690a43097249d5df48d6a0cfadad", func := "vellum/vellumlaw06.SeekPlaces", spec := "seekPlaces", inPlace := ["internal/reflectlite.ValueOf", "(internal/reflectlite.Value).Type", "(internal/reflectlite.Value).IsNil", "internal/reflectlite.TypeOf", "(internal/reflectlite.Value).Elem", "(internal/reflectlite.Value).Set"], unfollowed := true, recurses := true, named := ["unicode/utf8.first", "unicode/utf8.acceptRanges", "errors.errorType"], apart := false, laid := [("unicode/utf8.acceptRanges", laid_unicode_utf8_acceptRanges), ("errors.errorType", laid_errors_errorType), ("unicode/utf8.first", laid_unicode_utf8_first)] }
def SeekPlacesSaid : Prop := seekPlacesRow.holds Tryd.pinned (OpenSpec.ofChange seekPlacesSpec)

/-- ITS FALSE NEIGHBOUR: 'it returns false'. Refute it at one input. -/
def seekPlacesWrong : ChangeSpec := { name := "seekPlaces", fn := fun _ => fun
  | [d1, d2] => { results := [.lit (.bool false)], args := [d1, d2] }
  | _ => none }
def SeekPlacesWrongFalsely : Prop := seekPlacesRow.holds Tryd.pinned (OpenSpec.ofChange seekPlacesWrong)

/- THE SECOND FORM. 'bulk': how many values and letters a reading holds, each counted each time it is reached (what is shared counts as often as it is met; a slice's spare places count too). A statement '..UptoSaid' is the law's where the arguments, and the package variables that the reading takes, are together of bulk at most 1048576: NARROWER than '..Said'. Prove '..Said' where nothing that the law and all that it calls make is longer than what came in: it says more and counts as full. Else prove '..UptoSaid'. A law counts once. -/
mutual
def uptoBulk {H : Type} : DataW H → Nat
  | .lit (.string bytes) => bytes.length + 1
  | .lit _ => 1
  | .nil => 1
  | .ptr d => uptoBulk d + 1
  | .slice elems spare => uptoBulkAll elems + uptoBulkAll spare + 1
  | .agg parts => uptoBulkAll parts + 1
  | .iface _ d => uptoBulk d + 1
  | .map entries => uptoBulkEntries entries + 1
  | .held _ => 1
def uptoBulkAll {H : Type} : List (DataW H) → Nat
  | [] => 0
  | d :: r => uptoBulk d + uptoBulkAll r
def uptoBulkEntries {H : Type} : List (Lit × DataW H) → Nat
  | [] => 0
  | x :: r => uptoBulkEntry x + uptoBulkEntries r
def uptoBulkEntry {H : Type} : Lit × DataW H → Nat
  | (.string bytes, d) => bytes.length + uptoBulk d + 1
  | (_, d) => uptoBulk d + 1
 end
def uptoSmall : (H : Type) → List (DataW H) → Bool := fun _ ds => decide (uptoBulkAll ds ≤ 1048576)
def OpenSpec.upto (s : _root_.Go.ChangeSpec) : _root_.Go.OpenSpec := { _root_.Go.OpenSpec.ofChange s with cond := some uptoSmall }

/-- 'vellumlaw06.SeekMatches', WHERE WHAT IT READS IS OF BULK AT MOST 1048576: true; the input reads as it did. -/
def seekMatchesUptoRow : OpenClaim := { program := "ytchdeboialbdiaadoor", sum := "2e1d617cdd3ac624f63fd8c568431965b93c690a43097249d5df48d6a0cfadad", func := "vellum/vellumlaw06.SeekMatches", spec := "seekMatches", unfollowed := true, recurses := true, named := ["unicode/utf8.first", "unicode/utf8.acceptRanges"], apart := false, laid := [("unicode/utf8.acceptRanges", laid_unicode_utf8_acceptRanges), ("unicode/utf8.first", laid_unicode_utf8_first)], narrowed := true }
def SeekMatchesUptoSaid : Prop := seekMatchesUptoRow.holds Tryd.pinned (OpenSpec.upto seekMatchesSpec)

/-- 'vellumlaw06.SeekAll', WHERE WHAT IT READS IS OF BULK AT MOST 1048576: true; the input reads as it did. -/
def seekAllUptoRow : OpenClaim := { program := "ytchdeboialbdiaadoor", sum := "2e1d617cdd3ac624f63fd8c568431965b93c690a43097249d5df48d6a0cfadad", func := "vellum/vellumlaw06.SeekAll", spec := "seekAll", unfollowed := true, recurses := true, named := ["unicode/utf8.first", "unicode/utf8.acceptRanges"], apart := false, laid := [("unicode/utf8.acceptRanges", laid_unicode_utf8_acceptRanges), ("unicode/utf8.first", laid_unicode_utf8_first)], narrowed := true }
def SeekAllUptoSaid : Prop := seekAllUptoRow.holds Tryd.pinned (OpenSpec.upto seekAllSpec)

/-- 'vellumlaw06.SeekQuotes', WHERE WHAT IT READS IS OF BULK AT MOST 1048576: true; the input reads as it did. -/
def seekQuotesUptoRow : OpenClaim := { program := "ytchdeboialbdiaadoor", sum := "2e1d617cdd3ac624f63fd8c568431965b93c690a43097249d5df48d6a0cfadad", func := "vellum/vellumlaw06.SeekQuotes", spec := "seekQuotes", inPlace := ["internal/bytealg.IndexByteString", "internal/abi.NoEscape"], unfollowed := true, recurses := true, named := ["unicode/utf8.first", "unicode/utf8.acceptRanges"], apart := false, laid := [("unicode/utf8.acceptRanges", laid_unicode_utf8_acceptRanges), ("unicode/utf8.first", laid_unicode_utf8_first)], narrowed := true }
def SeekQuotesUptoSaid : Prop := seekQuotesUptoRow.holds Tryd.pinned (OpenSpec.upto seekQuotesSpec)

/-- 'vellumlaw06.SeekMeans', WHERE WHAT IT READS IS OF BULK AT MOST 1048576: true; the input reads as it did. -/
def seekMeansUptoRow : OpenClaim := { program := "ytchdeboialbdiaadoor", sum := "2e1d617cdd3ac624f63fd8c568431965b93c690a43097249d5df48d6a0cfadad", func := "vellum/vellumlaw06.SeekMeans", spec := "seekMeans", inPlace := ["internal/bytealg.IndexByteString", "internal/abi.NoEscape"], unfollowed := true, recurses := true, named := ["unicode/utf8.first", "unicode/utf8.acceptRanges"], apart := false, laid := [("unicode/utf8.acceptRanges", laid_unicode_utf8_acceptRanges), ("unicode/utf8.first", laid_unicode_utf8_first)], narrowed := true }
def SeekMeansUptoSaid : Prop := seekMeansUptoRow.holds Tryd.pinned (OpenSpec.upto seekMeansSpec)

/-- 'vellumlaw06.SeekCompiles', WHERE WHAT IT READS IS OF BULK AT MOST 1048576: true; the input reads as it did. -/
def seekCompilesUptoRow : OpenClaim := { program := "ytchdeboialbdiaadoor", sum := "2e1d617cdd3ac624f63fd8c568431965b93c690a43097249d5df48d6a0cfadad", func := "vellum/vellumlaw06.SeekCompiles", spec := "seekCompiles", inPlace := ["internal/reflectlite.ValueOf", "(internal/reflectlite.Value).Type", "(internal/reflectlite.Value).IsNil", "internal/reflectlite.TypeOf", "(internal/reflectlite.Value).Elem", "(internal/reflectlite.Value).Set"], unfollowed := true, recurses := true, named := ["unicode/utf8.first", "unicode/utf8.acceptRanges", "errors.errorType"], apart := false, laid := [("unicode/utf8.acceptRanges", laid_unicode_utf8_acceptRanges), ("errors.errorType", laid_errors_errorType), ("unicode/utf8.first", laid_unicode_utf8_first)], narrowed := true }
def SeekCompilesUptoSaid : Prop := seekCompilesUptoRow.holds Tryd.pinned (OpenSpec.upto seekCompilesSpec)

/-- 'vellumlaw06.SeekQuoted', WHERE WHAT IT READS IS OF BULK AT MOST 1048576: true; the input reads as it did. -/
def seekQuotedUptoRow : OpenClaim := { program := "ytchdeboialbdiaadoor", sum := "2e1d617cdd3ac624f63fd8c568431965b93c690a43097249d5df48d6a0cfadad", func := "vellum/vellumlaw06.SeekQuoted", spec := "seekQuoted", inPlace := ["internal/bytealg.IndexByteString", "internal/abi.NoEscape", "internal/reflectlite.ValueOf", "(internal/reflectlite.Value).Type", "(internal/reflectlite.Value).IsNil", "internal/reflectlite.TypeOf", "(internal/reflectlite.Value).Elem", "(internal/reflectlite.Value).Set"], unfollowed := true, recurses := true, named := ["unicode/utf8.first", "unicode/utf8.acceptRanges", "errors.errorType"], apart := false, laid := [("unicode/utf8.acceptRanges", laid_unicode_utf8_acceptRanges), ("errors.errorType", laid_errors_errorType), ("unicode/utf8.first", laid_unicode_utf8_first)], narrowed := true }
def SeekQuotedUptoSaid : Prop := seekQuotedUptoRow.holds Tryd.pinned (OpenSpec.upto seekQuotedSpec)

/-- 'vellumlaw06.SeekPlaces', WHERE WHAT IT READS IS OF BULK AT MOST 1048576: true; the input reads as it did. -/
def seekPlacesUptoRow : OpenClaim := { program := "ytchdeboialbdiaadoor", sum := "2e1d617cdd3ac624f63fd8c568431965b93c690a43097249d5df48d6a0cfadad", func := "vellum/vellumlaw06.SeekPlaces", spec := "seekPlaces", inPlace := ["internal/reflectlite.ValueOf", "(internal/reflectlite.Value).Type", "(internal/reflectlite.Value).IsNil", "internal/reflectlite.TypeOf", "(internal/reflectlite.Value).Elem", "(internal/reflectlite.Value).Set"], unfollowed := true, recurses := true, named := ["unicode/utf8.first", "unicode/utf8.acceptRanges", "errors.errorType"], apart := false, laid := [("unicode/utf8.acceptRanges", laid_unicode_utf8_acceptRanges), ("errors.errorType", laid_errors_errorType), ("unicode/utf8.first", laid_unicode_utf8_first)], narrowed := true }
def SeekPlacesUptoSaid : Prop := seekPlacesUptoRow.holds Tryd.pinned (OpenSpec.upto seekPlacesSpec)

end Rows
end Go.Proofs.YtchdeboialbdiaaDoor
