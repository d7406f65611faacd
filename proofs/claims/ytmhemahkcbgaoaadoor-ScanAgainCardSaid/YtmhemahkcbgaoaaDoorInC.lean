/- Regions that draw their order and whose calls make memory: walked once, in a class of worlds. -/
import Derived.Test.YtmhemahkcbgaoaaDoorScanD
import Derived.BigQuiet
namespace Go.Proofs.YtmhemahkcbgaoaaDoor
set_option linter.unusedVariables false
set_option linter.unusedSimpArgs false
open Go.RowKit
/-- a world behind w that keeps all of w's blocks: the class in which a region that draws its order is walked once -/
def InC (w w' : World) : Prop := Below w.heap.size w w'
theorem InC.cell {w w' : World} (h : InC w w') {p : Addr} {v : Value} (hc : w.cell? p = some v) : w'.cell? p = some v := by
  have hl : p.block < w.heap.size := by
    rcases Nat.lt_or_ge p.block w.heap.size with h | h
    · exact h
    · simp [World.cell?, Array.getElem?_eq_none h] at hc
  rw [Below.cell h hl]; exact hc
theorem InC.next {w w' w2 : World} (h : InC w w') (b : Below w'.heap.size w' w2) : InC w w2 := Below.trans h (b.mono h.size)
theorem wp_region_inC {P : Program} {id : Nat} {Q : Exit → Act → World → Prop} {a : Act} {w : World} {l : List Oper} (hm : P.follows .mixedOrders = true) (hB : Region.lexB .any l.toArray = true)
    (h : wpQuiet P l.toArray (InC w) (fun a' => ∀ w', InC w w' → Q .normal a' w') l a) : (Code.region id l.toArray true).wp P Q a w :=
  wp_region_quiet (C := InC w) hm hB (bl_drewN (Below.refl _ w) 1) (by simpa using h)
end Go.Proofs.YtmhemahkcbgaoaaDoor
