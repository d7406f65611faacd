/- The reference's gap: a text and a place. -/
import Derived.Test.YtpafdemnnofihaaText
import Derived.Test.YtpafdemnnofihaaGapH
import Derived.StillTailTactics
import Derived.BigRegion
namespace Go.Proofs.Ytpafdemnnofihaa
open Go.RowKit
/-- the reference's gap at block r -/
def RefAt (w : World) (r : Nat) (s : List UInt8) (p : Nat) : Prop := Row w r 65 [.string (bstr s), .int .i64 p]
theorem RefAt.s {w : World} {r p : Nat} {s : List UInt8} (h : RefAt w r s p) : w.cell? ⟨r, 0, none⟩ = some (.string (bstr s)) := by rw [Row.cell h]; rfl
theorem RefAt.p {w : World} {r p : Nat} {s : List UInt8} (h : RefAt w r s p) : w.cell? ⟨r, 1, none⟩ = some (.int .i64 p) := by rw [Row.cell h]; rfl
theorem RefAt.fr {w : World} {r p : Nat} {s : List UInt8} (h : RefAt w r s p) (k : Nat) : w.frozen? ⟨r, k, none⟩ = false := Row.frozen h k
theorem RefAt.lt {w : World} {r p : Nat} {s : List UInt8} (h : RefAt w r s p) : r < w.heap.size := Row.lt h
theorem RefAt.quiet {w w' : World} {r p : Nat} {s : List UInt8} (h : RefAt w r s p) (hq : Quiet w w') : RefAt w' r s p := by
  unfold RefAt Row at h ⊢
  rw [hq.heap]; exact h
theorem RefAt.apart {w w' : World} {g r p : Nat} {s : List UInt8} (h : RefAt w r s p) (hg : w.grownBy w' (some g)) (hk : r ≠ g) : RefAt w' r s p := Row.apart h hg hk
theorem RefAt.keep {w w' : World} {B r p : Nat} {s : List UInt8} (h : RefAt w r s p) (hb : Below B w w') (hB : r < B) : RefAt w' r s p := Row.keep h hb hB
theorem RefAt.setS {w : World} {r p : Nat} {s : List UInt8} (h : RefAt w r s p) (x : List UInt8) : RefAt (w.setCell ⟨r, 0, none⟩ (.string (bstr x))) r x p := Row.set h 0 _
theorem RefAt.setP {w : World} {r p : Nat} {s : List UInt8} (h : RefAt w r s p) (q : Nat) : RefAt (w.setCell ⟨r, 1, none⟩ (.int .i64 q)) r s q := Row.set h 1 _
theorem rMakeNo (w : World) (s : List UInt8) (hs : 252 < s.length) (hm : s.length ≤ 140737488351232) :
    Calls Try.prog 26 #[.string (bstr s)] w fun e w' => e = .returned (.tuple #[.pointer none, .int .i64 161]) ∧ w = w' := by
  go_enter Try.func26, Try.ntmps26
  go_wp2
  go_ret2
  exact ⟨rfl, rfl⟩
theorem rMakeYes (w : World) (s : List UInt8) (hs : s.length ≤ 252) :
    Calls Try.prog 26 #[.string (bstr s)] w fun e w' => ∃ r, e = .returned (.tuple #[gapV r, .int .i64 0]) ∧ w.heap.size ≤ r ∧ RefAt w' r s s.length ∧ Below w.heap.size w w' := by
  go_enter Try.func26, Try.ntmps26
  go_wp2
  go_ret2
  exact ⟨w.heap.size, rfl, Nat.le_refl _, row_new w [.string (bstr s), .int .i64 s.length] _, (Below.refl _ _).alloc (Nat.le_refl _) _⟩
theorem rMove (w : World) (r : Nat) (s : List UInt8) (p : Nat) (h : RefAt w r s p) (hs : s.length ≤ 252) (q : Nat) (hq : q ≤ s.length) :
    Calls Try.prog 36 #[gapV r, .int .i64 q] w fun e w' => e = .returned (.int .i64 0) ∧ RefAt w' r s q ∧ w.grownBy w' (some r) := by
  have h0 := h.s
  have h1 := h.p
  have hf := h.fr 1
  go_enter Try.func36, Try.ntmps36
  go_wp2
  go_ret
  exact ⟨rfl, h.setP q, grownBy_setCell _ _ _ _⟩
theorem rMoveNo (w : World) (r : Nat) (s : List UInt8) (p : Nat) (h : RefAt w r s p) (hs : s.length ≤ 252) (q : Int) (hno : q < 0 ∨ (s.length : Int) < q) :
    Calls Try.prog 36 #[gapV r, .int .i64 q] w fun e w' => e = .returned (.int .i64 6) ∧ w = w' := by
  have h0 := h.s
  rcases Int.lt_or_le q 0 with hq | hq
  · clear hno
    go_enter Try.func36, Try.ntmps36
    go_wp2
    go_ret
    exact ⟨rfl, rfl⟩
  · have h2 : (s.length : Int) < q := by omega
    clear hno
    go_enter Try.func36, Try.ntmps36
    go_wp2
    go_ret
    exact ⟨rfl, rfl⟩
end Go.Proofs.Ytpafdemnnofihaa
