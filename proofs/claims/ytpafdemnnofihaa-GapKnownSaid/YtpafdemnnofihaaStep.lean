/- Steps, and a step of both gaps. -/
import Derived.Test.YtpafdemnnofihaaGapY
namespace Go.Proofs.Ytpafdemnnofihaa
open Go.RowKit
/-- a call: what to do, two numbers, a text -/
structure StepL where
  act : Int
  lo : Int
  hi : Int
  txt : List UInt8
def StepL.cells (x : StepL) : List Value := [.int .i64 x.act, .int .i64 x.lo, .int .i64 x.hi, .string (bstr x.txt)]
def StepL.fine (x : StepL) : Prop := (Lit.int .i64 x.act).wf = true ∧ (Lit.int .i64 x.lo).wf = true ∧ (Lit.int .i64 x.hi).wf = true ∧ x.txt.length ≤ 140737488351232
/-- what a step does to a text and its place -/
def StepL.next (x : StepL) (s : List UInt8) (p : Nat) : List UInt8 × Nat :=
  if x.act = 1 then (if 0 ≤ x.lo ∧ x.lo ≤ s.length then (s, x.lo.toNat) else (s, p))
  else if x.act = 2 then (if 0 ≤ x.lo ∧ x.lo ≤ s.length ∧ x.txt.length ≤ 252 - s.length then (s.take x.lo.toNat ++ (x.txt ++ s.drop x.lo.toNat), x.lo.toNat + x.txt.length) else (s, p))
  else if x.act = 3 then (if 0 ≤ x.lo ∧ x.lo ≤ x.hi ∧ x.hi ≤ s.length then (s.take x.lo.toNat ++ s.drop x.hi.toNat, x.lo.toNat) else (s, p))
  else (s, p)
/-- both gaps at the same text and place -/
structure Both (w : World) (g r : Nat) (s : List UInt8) (p : Nat) : Prop where
  gap : GapAt w g s p
  ref : RefAt w r s p
  ne : g ≠ r
theorem Both.quiet {w w' : World} {g r p : Nat} {s : List UInt8} (h : Both w g r s p) (hq : Quiet w w') : Both w' g r s p := ⟨h.gap.quiet hq, h.ref.quiet hq, h.ne⟩
theorem Both.keep {w w' : World} {B g r p : Nat} {s : List UInt8} (h : Both w g r s p) (hb : Below B w w') (h1 : g < B) (h2 : r < B) : Both w' g r s p := ⟨h.gap.keep hb h1, h.ref.keep hb h2, h.ne⟩
/-- only two old blocks have been written -/
structure Kept2 (w w' : World) (g r : Nat) : Prop where
  os : w'.os = w.os
  tape : w'.tape = w.tape
  output : w'.output = w.output
  size : w.heap.size ≤ w'.heap.size
  block : ∀ k, k < w.heap.size → k ≠ g → k ≠ r → w'.heap[k]? = w.heap[k]?
theorem Kept2.trans {w w1 w2 : World} {g r : Nat} (h : Kept2 w w1 g r) (k : Kept2 w1 w2 g r) : Kept2 w w2 g r :=
  ⟨k.os.trans h.os, k.tape.trans h.tape, k.output.trans h.output, Nat.le_trans h.size k.size, fun i hi h1 h2 => (k.block i (Nat.lt_of_lt_of_le hi h.size) h1 h2).trans (h.block i hi h1 h2)⟩
theorem Kept2.left {w w' : World} {g r : Nat} (h : w.grownBy w' (some g)) : Kept2 w w' g r := ⟨h.os, h.tape, h.output, h.size, fun k hk h1 _ => h.block k hk (fun e => h1 (by cases e; rfl))⟩
theorem Kept2.right {w w' : World} {g r : Nat} (h : w.grownBy w' (some r)) : Kept2 w w' g r := ⟨h.os, h.tape, h.output, h.size, fun k hk _ h2 => h.block k hk (fun e => h2 (by cases e; rfl))⟩
theorem Kept2.below {w w' : World} {g r : Nat} (h : Below w.heap.size w w') : Kept2 w w' g r := ⟨h.os, h.tape, h.output, h.size, fun k hk _ _ => h.block k hk⟩
theorem Kept2.quiet {w w' : World} {g r : Nat} (h : Quiet w w') : Kept2 w w' g r := Kept2.below (h.below _)
theorem Kept2.refl (w : World) (g r : Nat) : Kept2 w w g r := Kept2.below (Below.refl _ _)
theorem Kept2.down {w w' : World} {B g r : Nat} (h : Kept2 w w' g r) (h1 : B ≤ g) (h2 : B ≤ r) (hB : B ≤ w.heap.size) : Below B w w' := ⟨h.os, h.tape, h.output, h.size, fun k hk => h.block k (by omega) (by omega) (by omega)⟩
theorem Row.kept2 {w w' : World} {g r k : Nat} {e : TypeId} {xs : List Value} (h : Row w k e xs) (hk : Kept2 w w' g r) (h1 : k ≠ g) (h2 : k ≠ r) : Row w' k e xs := by
  have hl := h.lt
  unfold Row at h ⊢
  rw [hk.block k hl h1 h2]
  exact h
theorem Both.kept2 {w w' : World} {g r g' r' p : Nat} {s : List UInt8} (h : Both w g r s p) (hk : Kept2 w w' g' r') (h1 : g ≠ g') (h2 : g ≠ r') (h3 : r ≠ g') (h4 : r ≠ r') : Both w' g r s p :=
  ⟨⟨h.gap.place, h.gap.room, Row.kept2 h.gap.raw hk h1 h2⟩, Row.kept2 h.ref hk h3 h4, h.ne⟩
end Go.Proofs.Ytpafdemnnofihaa
