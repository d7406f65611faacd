/- The gap's reading functions. -/
import Derived.Test.YtpafdemnnofihaaGapP
import Derived.Test.YtpafdemnnofihaaOpen
namespace Go.Proofs.Ytpafdemnnofihaa
open Go.RowKit
/-- a gap's block: made, the two bounds, the bytes -/
def Raw (w : World) (g : Nat) (p t : Nat) (D : List UInt8) : Prop := Row w g 60 (.bool true :: .int .i64 p :: .int .i64 t :: D.map B8)
/-- a gap at block g: its text, its place -/
structure GapAt (w : World) (g : Nat) (s : List UInt8) (p : Nat) : Prop where
  place : p ≤ s.length
  room : s.length ≤ 252
  raw : Raw w g p (p + (252 - s.length)) (gapB s p)
theorem ret_i64 {a b : Int} (h : a = b) : Ending.returned (.int .i64 a) = .returned (.int .i64 b) := by rw [h]
abbrev gapV (g : Nat) : Value := .pointer (some ⟨g, 0, none⟩)
theorem Raw.made {w : World} {g p t : Nat} {D : List UInt8} (h : Raw w g p t D) : w.cell? ⟨g, 0, none⟩ = some (.bool true) := by rw [Row.cell h]; rfl
theorem Raw.from {w : World} {g p t : Nat} {D : List UInt8} (h : Raw w g p t D) : w.cell? ⟨g, 1, none⟩ = some (.int .i64 p) := by rw [Row.cell h]; rfl
theorem Raw.to {w : World} {g p t : Nat} {D : List UInt8} (h : Raw w g p t D) : w.cell? ⟨g, 2, none⟩ = some (.int .i64 t) := by rw [Row.cell h]; rfl
theorem Raw.quiet {w w' : World} {g p t : Nat} {D : List UInt8} (h : Raw w g p t D) (hq : Quiet w w') : Raw w' g p t D := by
  unfold Raw Row at h ⊢
  rw [hq.heap]; exact h
theorem thereYes (w : World) (g p t : Nat) (D : List UInt8) (h : Raw w g p t D) :
    Calls Try.prog 32 #[gapV g] w fun e w' => e = .returned (.bool true) ∧ w = w' := by
  have h0 := h.made
  go_enter Try.func32, Try.ntmps32
  go_wp2
  go_ret
  exact ⟨rfl, rfl⟩
theorem thereNo (w : World) :
    Calls Try.prog 32 #[.pointer none] w fun e w' => e = .returned (.bool false) ∧ w = w' := by
  go_enter Try.func32, Try.ntmps32
  go_wp2
  go_ret
  exact ⟨rfl, rfl⟩
theorem atG (w : World) (g p t : Nat) (D : List UInt8) (h : Raw w g p t D) :
    Calls Try.prog 18 #[gapV g] w fun e w' => e = .returned (.int .i64 p) ∧ w = w' := by
  have h1 := h.from
  go_enter Try.func18, Try.ntmps18
  go_wp2_with (go_at_call 32; refine (thereYes _ g p t D h).mono ?_; rintro e w' ⟨rfl, rfl⟩)
  go_ret
  exact ⟨rfl, rfl⟩
set_option maxHeartbeats 400000 in
theorem roomG (w : World) (g p t : Nat) (D : List UInt8) (h : Raw w g p t D) (hp : p ≤ t) (ht : t ≤ 252) :
    Calls Try.prog 24 #[gapV g] w fun e w' => e = .returned (.int .i64 ((t - p : Nat) : Int)) ∧ Quiet w w' := by
  have h1 := h.from
  have h2 := h.to
  go_enter Try.func24, Try.ntmps24
  go_wp2_with (go_at_call 32; refine (thereYes _ g p t D h).mono ?_; rintro e w' ⟨rfl, rfl⟩)
  go_quiet (fail)
  go_wp2
  go_ret
  exact ⟨ret_i64 (by omega), ⟨_, rfl⟩⟩
set_option maxHeartbeats 400000 in
theorem lenG (w : World) (g p t : Nat) (D : List UInt8) (h : Raw w g p t D) (hp : p ≤ t) (ht : t ≤ 252) :
    Calls Try.prog 23 #[gapV g] w fun e w' => e = .returned (.int .i64 ((252 - (t - p) : Nat) : Int)) ∧ Quiet w w' := by
  go_enter Try.func23, Try.ntmps23
  go_wp2_with (first | (go_at_call 32; refine (thereYes _ g p t D h).mono ?_; rintro e w' ⟨rfl, rfl⟩) | (go_at_call 24; refine (roomG _ g p t D h hp ht).mono ?_; rintro e w' ⟨rfl, hq⟩))
  go_ret
  exact ⟨ret_i64 (by omega), hq⟩
end Go.Proofs.Ytpafdemnnofihaa
