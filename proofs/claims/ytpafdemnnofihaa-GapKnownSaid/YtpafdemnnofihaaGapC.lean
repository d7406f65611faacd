/- Slice, Make of a gap. -/
import Derived.Test.YtpafdemnnofihaaGapB
namespace Go.Proofs.Ytpafdemnnofihaa
open Go.RowKit
theorem GapAt.lenEq {w : World} {g : Nat} {s : List UInt8} {p : Nat} (h : GapAt w g s p) : 252 - (p + (252 - s.length) - p) = s.length := by
  have := h.room; omega
theorem lenA (w : World) (g : Nat) (s : List UInt8) (p : Nat) (h : GapAt w g s p) :
    Calls Try.prog 23 #[gapV g] w fun e w' => e = .returned (.int .i64 (s.length : Int)) ∧ Quiet w w' := by
  have h1 := lenG w g _ _ _ h.raw (by omega) (by have := h.place; have := h.room; omega)
  rw [h.lenEq] at h1
  exact h1
theorem roomA (w : World) (g : Nat) (s : List UInt8) (p : Nat) (h : GapAt w g s p) :
    Calls Try.prog 24 #[gapV g] w fun e w' => e = .returned (.int .i64 ((252 - s.length : Nat) : Int)) ∧ Quiet w w' := by
  have h1 := roomG w g _ _ _ h.raw (by omega) (by have := h.place; have := h.room; omega)
  rw [show p + (252 - s.length) - p = 252 - s.length from by omega] at h1
  exact h1
theorem textA (w : World) (g : Nat) (s : List UInt8) (p : Nat) (h : GapAt w g s p) :
    Calls Try.prog 22 #[gapV g] w fun e w' => e = .returned (.string (bstr s)) ∧ Quiet w w' := by
  have h1 := textG w g _ _ _ h.raw (gapB_length s p h.place h.room) (by omega) (by have := h.place; have := h.room; omega)
  rw [gap_text s p h.place] at h1
  exact h1
theorem rightA (w : World) (g : Nat) (s : List UInt8) (p : Nat) (h : GapAt w g s p) (f u : Int) (h1 : 0 ≤ f) (h2 : f ≤ u) (h3 : u ≤ (s.length : Int)) :
    Calls Try.prog 35 #[gapV g, .int .i64 f, .int .i64 u] w fun e w' => e = .returned (.bool true) ∧ Quiet w w' :=
  rightYes w g _ _ _ h.raw (by omega) (by have := h.place; have := h.room; omega) f u h1 h2 (by rw [h.lenEq]; exact h3)
theorem rightAno (w : World) (g : Nat) (s : List UInt8) (p : Nat) (h : GapAt w g s p) (f u : Int) (hno : f < 0 ∨ u < f ∨ (s.length : Int) < u) :
    Calls Try.prog 35 #[gapV g, .int .i64 f, .int .i64 u] w fun e w' => e = .returned (.bool false) ∧ Quiet w w' :=
  rightNo w g _ _ _ h.raw (by omega) (by have := h.place; have := h.room; omega) f u (by rw [h.lenEq]; exact hno)
theorem GapAt.quiet {w w' : World} {g : Nat} {s : List UInt8} {p : Nat} (h : GapAt w g s p) (hq : Quiet w w') : GapAt w' g s p := ⟨h.place, h.room, h.raw.quiet hq⟩
theorem GapAt.lt {w : World} {g : Nat} {s : List UInt8} {p : Nat} (h : GapAt w g s p) : g < w.heap.size := Row.lt h.raw
theorem GapAt.apart {w w' : World} {g k : Nat} {s : List UInt8} {p : Nat} (h : GapAt w k s p) (hg : w.grownBy w' (some g)) (hk : k ≠ g) : GapAt w' k s p := ⟨h.place, h.room, Row.apart h.raw hg hk⟩
theorem GapAt.keep {w w' : World} {B g : Nat} {s : List UInt8} {p : Nat} (h : GapAt w g s p) (hb : Below B w w') (hB : g < B) : GapAt w' g s p := ⟨h.place, h.room, Row.keep h.raw hb hB⟩
set_option maxHeartbeats 400000 in
theorem sliceA (w : World) (g : Nat) (s : List UInt8) (p : Nat) (h : GapAt w g s p) (f u : Nat) (h1 : f ≤ u) (h2 : u ≤ s.length) :
    Calls Try.prog 39 #[gapV g, .int .i64 f, .int .i64 u] w fun e w' => e = .returned (.tuple #[.string (bstr ((s.drop f).take (u - f))), .int .i64 0]) ∧ Quiet w w' := by
  go_enter Try.func39, Try.ntmps39
  go_wp2_with fail
  refine (thereYes _ g _ _ _ h.raw).mono ?_
  rintro e w' ⟨rfl, rfl⟩
  go_wp2_with fail
  refine (rightA w g s p h f u (by omega) (by omega) (by omega)).mono ?_
  rintro e w1 ⟨rfl, hq⟩
  go_wp2_with fail
  refine (textA w1 g s p (h.quiet hq)).mono ?_
  rintro e w2 ⟨rfl, hq2⟩
  go_wp2
  go_ret2
  exact ⟨rfl, hq.trans hq2⟩
set_option maxHeartbeats 400000 in
theorem sliceAno (w : World) (g : Nat) (s : List UInt8) (p : Nat) (h : GapAt w g s p) (f u : Int) (hno : f < 0 ∨ u < f ∨ (s.length : Int) < u) :
    Calls Try.prog 39 #[gapV g, .int .i64 f, .int .i64 u] w fun e w' => e = .returned (.tuple #[.string (bstr []), .int .i64 6]) ∧ Quiet w w' := by
  go_enter Try.func39, Try.ntmps39
  go_wp2_with fail
  refine (thereYes _ g _ _ _ h.raw).mono ?_
  rintro e w' ⟨rfl, rfl⟩
  go_wp2_with fail
  refine (rightAno w g s p h f u hno).mono ?_
  rintro e w1 ⟨rfl, hq⟩
  clear hno
  go_wp2
  go_ret2
  exact ⟨rfl, hq⟩
theorem makeNo (w : World) (s : List UInt8) (hs : 252 < s.length) (hm : s.length ≤ 140737488351232) :
    Calls Try.prog 17 #[.string (bstr s)] w fun e w' => e = .returned (.tuple #[.pointer none, .int .i64 161]) ∧ w = w' := by
  go_enter Try.func17, Try.ntmps17
  go_wp2
  go_ret2
  exact ⟨rfl, rfl⟩
/-- the cells of a gap that is just made -/
def gapZero (n : Int) : List Value := .bool true :: .int .i64 n :: .int .i64 252 :: List.replicate 252 (.int .u8 0)
theorem gapZero_put (s : List UInt8) (hs : s.length ≤ 252) : splice (gapZero s.length) 3 (s.map B8) = .bool true :: .int .i64 s.length :: .int .i64 ((s.length + (252 - s.length) : Nat) : Int) :: (gapB s s.length).map B8 := by
  have h1 : s.length + (252 - s.length) = 252 := by omega
  rw [h1]
  have h2 : gapB s s.length = s ++ List.replicate (252 - s.length) 0 := by simp [gapB]
  rw [h2, List.map_append, List.map_replicate]
  have h3 : (gapZero s.length).drop (3 + s.length) = List.replicate (252 - s.length) (.int .u8 0) := by
    rw [Nat.add_comm]
    show (List.replicate 252 (Value.int .u8 0)).drop s.length = _
    rw [List.drop_replicate]
  unfold splice
  rw [List.length_map, h3]
  rfl
theorem gapZero_length (n : Int) : (gapZero n).length = 255 := by simp only [gapZero, List.length_cons, List.length_replicate]
set_option maxRecDepth 100000 in
set_option maxHeartbeats 400000 in
theorem makeYes (w : World) (s : List UInt8) (hs : s.length ≤ 252) :
    Calls Try.prog 17 #[.string (bstr s)] w fun e w' => ∃ g, e = .returned (.tuple #[gapV g, .int .i64 0]) ∧ w.heap.size ≤ g ∧ GapAt w' g s s.length ∧ Below w.heap.size w w' := by
  go_enter Try.func17, Try.ntmps17
  go_wp2_with (first | ((with_reducible show wpList _ _ _ (Oper.mk (some 10) _ _ _ _ _ :: _) _ _); go_must (refine wpList_run rfl (.agg (gapZero s.length).toArray) w (by kernel_rfl) ?_)) | ((with_reducible show wpList _ _ _ (Oper.mk (some 17) _ _ _ _ _ :: _) _ _); go_must (refine wpList_copy_str rfl (.tmp 15) (.tmp 16) 22 9 rfl 5 Try.underlying22 Try.size1U8 (some ⟨w.heap.size, 3, none⟩) 252 252 s rfl rfl w.heap.size 3 (gapZero s.length) 60 (heap_alloc_new w _) s (List.take_of_length_le hs).symm (fun _ => rfl) (by rw [gapZero_length]; omega) ?_); intro w2 hr2 hg2))
  go_ret2
  have hrow : Row w2 w.heap.size 60 (splice (gapZero s.length) 3 (s.map B8)) := hr2.out
  rw [gapZero_put s hs] at hrow
  exact ⟨w.heap.size, rfl, Nat.le_refl _, ⟨Nat.le_refl _, hs, hrow⟩, ((Below.refl _ _).alloc (Nat.le_refl _) _).trans (below_grownBy hg2 (Nat.le_refl _) (by simp))⟩
end Go.Proofs.Ytpafdemnnofihaa
