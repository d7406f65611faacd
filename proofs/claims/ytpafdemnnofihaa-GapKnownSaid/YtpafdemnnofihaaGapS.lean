/- The reference's Slice, Insert, Delete. -/
import Derived.Test.YtpafdemnnofihaaGapR
namespace Go.Proofs.Ytpafdemnnofihaa
open Go.RowKit
theorem rSlice (w : World) (r : Nat) (s : List UInt8) (p : Nat) (h : RefAt w r s p) (hs : s.length ≤ 252) (f u : Nat) (h1 : f ≤ u) (h2 : u ≤ s.length) :
    Calls Try.prog 40 #[gapV r, .int .i64 f, .int .i64 u] w fun e w' => e = .returned (.tuple #[.string (bstr ((s.drop f).take (u - f))), .int .i64 0]) ∧ w = w' := by
  have h0 := h.s
  go_enter Try.func40, Try.ntmps40
  go_wp2
  go_ret2
  exact ⟨rfl, rfl⟩
theorem rSliceNo (w : World) (r : Nat) (s : List UInt8) (p : Nat) (h : RefAt w r s p) (hs : s.length ≤ 252) (f u : Int) (hno : f < 0 ∨ u < f ∨ (s.length : Int) < u) :
    Calls Try.prog 40 #[gapV r, .int .i64 f, .int .i64 u] w fun e w' => e = .returned (.tuple #[.string (bstr []), .int .i64 6]) ∧ w = w' := by
  have h0 := h.s
  rcases Int.lt_or_le f 0 with hf | hf
  · clear hno
    go_enter Try.func40, Try.ntmps40
    go_wp2
    go_ret2
    exact ⟨rfl, rfl⟩
  rcases Int.lt_or_le u f with hu | hu
  · clear hno
    go_enter Try.func40, Try.ntmps40
    go_wp2
    go_ret2
    exact ⟨rfl, rfl⟩
  have h2 : (s.length : Int) < u := by omega
  clear hno
  go_enter Try.func40, Try.ntmps40
  go_wp2
  go_ret2
  exact ⟨rfl, rfl⟩
theorem rInsertNo (w : World) (r : Nat) (s : List UInt8) (p : Nat) (h : RefAt w r s p) (hs : s.length ≤ 252) (q : Int) (x : List UInt8) (hno : q < 0 ∨ (s.length : Int) < q) :
    Calls Try.prog 37 #[gapV r, .int .i64 q, .string (bstr x)] w fun e w' => e = .returned (.int .i64 6) ∧ w = w' := by
  have h0 := h.s
  rcases Int.lt_or_le q 0 with hq | hq
  · clear hno
    go_enter Try.func37, Try.ntmps37
    go_wp2
    go_ret
    exact ⟨rfl, rfl⟩
  · have h2 : (s.length : Int) < q := by omega
    clear hno
    go_enter Try.func37, Try.ntmps37
    go_wp2
    go_ret
    exact ⟨rfl, rfl⟩
theorem rInsertFull (w : World) (r : Nat) (s : List UInt8) (p : Nat) (h : RefAt w r s p) (hs : s.length ≤ 252) (q : Nat) (x : List UInt8) (hq : q ≤ s.length) (hx : 252 - s.length < x.length) (hm : x.length ≤ 140737488351232) :
    Calls Try.prog 37 #[gapV r, .int .i64 q, .string (bstr x)] w fun e w' => e = .returned (.int .i64 161) ∧ w = w' := by
  have h0 := h.s
  go_enter Try.func37, Try.ntmps37
  go_wp2
  go_ret
  exact ⟨rfl, rfl⟩
set_option maxHeartbeats 400000 in
theorem rInsert (w : World) (r : Nat) (s : List UInt8) (p : Nat) (h : RefAt w r s p) (hs : s.length ≤ 252) (q : Nat) (x : List UInt8) (hq : q ≤ s.length) (hx : x.length ≤ 252 - s.length) :
    Calls Try.prog 37 #[gapV r, .int .i64 q, .string (bstr x)] w fun e w' => e = .returned (.int .i64 0) ∧ RefAt w' r (s.take q ++ (x ++ s.drop q)) (q + x.length) ∧ w.grownBy w' (some r) := by
  have h0 := h.s
  have hi1 : (q : Int) ≤ s.length := by omega
  obtain ⟨A, hA⟩ : ∃ A, s.take q = A := ⟨_, rfl⟩
  obtain ⟨B, hB⟩ : ∃ B, s.drop q = B := ⟨_, rfl⟩
  have hlA : A.length ≤ 252 := by rw [← hA]; simp; omega
  have hlB : B.length ≤ 252 := by rw [← hB]; simp; omega
  have hB2 : B.take (s.length - q) = B := List.take_of_length_le (by rw [← hB]; simp)
  have hl1 : ¬ 9223372036854775807 < A.length + x.length := by omega
  have hl2 : ¬ 9223372036854775807 < A.length + (x.length + B.length) := by omega
  have hl3 : ¬ 9223372036854775807 < A.length + x.length + B.length := by omega
  have hf0 := h.fr 0
  rw [hA, hB]
  go_enter Try.func37, Try.ntmps37
  go_wp2
  go_still_tail 16, (by kernel_rfl)
  change wpList _ _ _ _ _ w.drew
  have hd : RefAt w.drew r s p := h.quiet ⟨1, rfl⟩
  have G := Lib.hid (grownBy_quiet (⟨1, rfl⟩ : Quiet w w.drew) (some r))
  generalize w.drew = w2 at hd G ⊢
  have h2 := hd.s
  have hf2 := hd.fr 0
  have h3 := hd.p
  have hf3 := hd.fr 1
  go_wp2
  go_ret
  have h9 : RefAt _ r _ _ := (hd.setS (A ++ (x ++ B))).setP (q + x.length)
  rw [Int.natCast_add] at h9
  exact ⟨rfl, h9, grownBy_trans G.out (grownBy_trans (grownBy_setCell _ _ _ _) (grownBy_setCell _ _ _ _))⟩
theorem rDeleteNo (w : World) (r : Nat) (s : List UInt8) (p : Nat) (h : RefAt w r s p) (hs : s.length ≤ 252) (f u : Int) (hno : f < 0 ∨ u < f ∨ (s.length : Int) < u) :
    Calls Try.prog 38 #[gapV r, .int .i64 f, .int .i64 u] w fun e w' => e = .returned (.int .i64 6) ∧ w = w' := by
  have h0 := h.s
  rcases Int.lt_or_le f 0 with hf | hf
  · clear hno
    go_enter Try.func38, Try.ntmps38
    go_wp2
    go_ret
    exact ⟨rfl, rfl⟩
  rcases Int.lt_or_le u f with hu | hu
  · clear hno
    go_enter Try.func38, Try.ntmps38
    go_wp2
    go_ret
    exact ⟨rfl, rfl⟩
  have h2 : (s.length : Int) < u := by omega
  clear hno
  go_enter Try.func38, Try.ntmps38
  go_wp2
  go_ret
  exact ⟨rfl, rfl⟩
set_option maxHeartbeats 400000 in
theorem rDelete (w : World) (r : Nat) (s : List UInt8) (p : Nat) (h : RefAt w r s p) (hs : s.length ≤ 252) (f u : Nat) (hfu : f ≤ u) (hu : u ≤ s.length) :
    Calls Try.prog 38 #[gapV r, .int .i64 f, .int .i64 u] w fun e w' => e = .returned (.int .i64 0) ∧ RefAt w' r (s.take f ++ s.drop u) f ∧ w.grownBy w' (some r) := by
  have h0 := h.s
  have hi1 : (f : Int) ≤ s.length := by omega
  have hi2 : (u : Int) ≤ s.length := by omega
  obtain ⟨A, hA⟩ : ∃ A, s.take f = A := ⟨_, rfl⟩
  obtain ⟨B, hB⟩ : ∃ B, s.drop u = B := ⟨_, rfl⟩
  have hlA : A.length ≤ 252 := by rw [← hA]; simp; omega
  have hlB : B.length ≤ 252 := by rw [← hB]; simp; omega
  have hB2 : B.take (s.length - u) = B := List.take_of_length_le (by rw [← hB]; simp)
  have hl1 : ¬ 9223372036854775807 < A.length + B.length := by omega
  have hf0 := h.fr 0
  rw [hA, hB]
  go_enter Try.func38, Try.ntmps38
  go_wp2
  go_still_tail 14, (by kernel_rfl)
  change wpList _ _ _ _ _ w.drew
  have hd : RefAt w.drew r s p := h.quiet ⟨1, rfl⟩
  have G := Lib.hid (grownBy_quiet (⟨1, rfl⟩ : Quiet w w.drew) (some r))
  generalize w.drew = w2 at hd G ⊢
  have h2 := hd.s
  have hf2 := hd.fr 0
  have h3 := hd.p
  have hf3 := hd.fr 1
  go_wp2
  go_ret
  have h9 : RefAt _ r _ _ := (hd.setS (A ++ B)).setP f
  exact ⟨rfl, h9, grownBy_trans G.out (grownBy_trans (grownBy_setCell _ _ _ _) (grownBy_setCell _ _ _ _))⟩
end Go.Proofs.Ytpafdemnnofihaa
