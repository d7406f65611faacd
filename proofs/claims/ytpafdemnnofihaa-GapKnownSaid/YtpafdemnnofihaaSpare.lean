/- Spare, Kept. -/
import Derived.Test.YtpafdemnnofihaaBase
import Derived.Test.YtpafdemnnofihaaEqb
namespace Go.Proofs.Ytpafdemnnofihaa
open Go.RowKit
/-- the mark that lies at a place of the room -/
def markI (i : Nat) : Int := bits .xor .i64 165 (i : Int) % 256
def spareL (l : List UInt8) : List Value := l.map B8 ++ (List.range 80).map fun j => .int .u8 (markI (l.length + j))
theorem spareL_length {la : List UInt8} {n : Nat} (h : la.length = n) : (spareL la).length = n + 80 := by simp [spareL, h]
set_option maxHeartbeats 400000 in
theorem spare (w : World) (a : Option Addr) (n ca : Nat) (la : List UInt8) (ha : Reads w a n (la.map B8)) (hn : n ≤ 140737488355328) :
    Calls Try.prog 8 #[.slice a n ca] w fun e w' => ∃ g, e = .returned (.slice (some ⟨g, 0, none⟩) n (n + 80)) ∧ w.heap.size ≤ g ∧ Row w' g 5 (spareL la) ∧ Below w.heap.size w w' := by
  obtain ⟨i0, hi, hz0, hz1, hz2⟩ := info_parts Try.infoU8
  have HL := Lib.hid ha.len
  go_enter Try.func8, Try.ntmps8
  go_wp2_with (at_make; refine wpList_make_full _ rfl (.tmp 7) (.tmp 7) 22 rfl w.heap.size 5 i0 (.int .u8 0) 1 Try.underlying22 hi hz0 hz1 .i64 .i64 ((n : Int) + 80) ((n : Int) + 80) (n + 80) rfl rfl (by omega) (by omega) (by rw [hz2]; omega) (by unfold maxLen; omega) (Nat.le_refl _) ?_; intro w1 hown1 hgrow1)
  have hb1 : Below w.heap.size w w1 := (Below.refl _ _).grown hgrow1 (Nat.le_refl _) (by simp)
  have hr1 := row_made (row_own hown1) rfl
  clear hgrow1 hown1
  have hsl : (spareL la).length = n + 80 := by
    have := HL.out
    simp [spareL] at this ⊢
    exact this
  have HS := Lib.hid hsl
  clear hsl
  go_loopw [4] (fun i wr => ∃ k : Nat, k ≤ n + 80 ∧ i = .int .i64 k ∧ Row wr w.heap.size 5 (fill (spareL la) (.int .u8 0) (n + 80) k) ∧ Below w.heap.size w wr) (fun i _ => n + 80 - (intOf i).toNat)
  case atStart => exact ⟨0, Nat.zero_le _, rfl, by rw [fill_zero]; exact hr1, hb1⟩
  case round =>
    obtain ⟨k, hk, rfl, hrow, hbel⟩ := hrel
    by_cases hlt : k < n + 80
    · obtain ⟨y, hy⟩ := fill_at (spareL la) (.int .u8 0) (n + 80) k k HS.out hlt
      have hcell := (hrow.cell k).trans hy
      have hfr := hrow.frozen k
      clear hy
      by_cases hlt2 : k < n
      · obtain ⟨b, o, x, rfl, hb, hx, hcx⟩ := (ha.keep hbel (Nat.le_refl _)).byte hlt2
        have HX := Lib.hid hx
        clear hx
        go_wp2
        go_roundw
        case rel =>
          refine ⟨k + 1, by omega, by go_num, ?_, hbel.setCell (Nat.le_refl _) _⟩
          rw [← fill_set hlt (x := B8 x) (by
            have h1 := HX.out
            have h2 : k < la.length := lt_of_at h1
            rw [spareL, List.getElem?_append_left (by simpa using h2), List.getElem?_map, h1]; rfl)]
          exact hrow.set k _
        case measure => simp [intOf]; omega
      · go_wp2
        go_roundw
        case rel =>
          refine ⟨k + 1, by omega, by go_num, ?_, hbel.setCell (Nat.le_refl _) _⟩
          rw [← fill_set hlt (x := .int .u8 (markI k)) (by
            have h1 := HL.out
            rw [spareL, List.getElem?_append_right (by omega), List.getElem?_map, h1, List.getElem?_range (by omega)]
            simp at h1
            simp [h1, show n + (k - n) = k from by omega])]
          exact hrow.set k _
        case measure => simp [intOf]; omega
    · obtain rfl : k = n + 80 := by omega
      go_wp2
      go_ret
      rw [fill_all _ _ _ HS.out] at hrow
      exact ⟨_, rfl, Nat.le_refl _, hrow, hbel⟩
set_option maxHeartbeats 400000 in
theorem kept (w : World) (g : Nat) (b : Option Addr) (n cb : Nat) (la : List UInt8) (ha : Row w g 5 (spareL la)) (hb : Reads w b n (la.map B8)) (hn : n ≤ 140737488355328) :
    Calls Try.prog 11 #[.slice (some ⟨g, 0, none⟩) n (n + 80), .slice b n cb] w fun e w' => e = .returned (.bool true) ∧ Below w.heap.size w w' := by
  have hln := hb.len
  rw [List.length_map] at hln
  have hsl : (spareL la).length = n + 80 := by
    simp [spareL]
    exact hln
  have hra := ha.reads 0 n (by omega)
  have e1 : ((spareL la).drop 0).take n = la.map B8 := by
    rw [List.drop_zero, spareL, List.take_append_of_le_length (by simp; omega), List.take_of_length_le (by simp; omega)]
  rw [e1] at hra
  have hsame : sameB la la = true := by simp [sameB]
  have HS := Lib.hid hsl
  have HN := Lib.hid hln
  have hslice : ((n : Int) + 80).toNat = n + 80 := by omega
  clear hsl hln e1
  go_enter Try.func11, Try.ntmps11
  go_wp2_with (go_at_call 15; refine (eqBytes _ _ _ _ _ _ _ _ _ hra hb (by omega) (by omega)).mono ?_; rw [hsame]; rintro e w' ⟨rfl, hb1⟩)
  replace hb1 := hb1.below w.heap.size
  clear hslice hsame
  have hrow := ha.keep hb1 ha.lt
  go_loop [6] (fun i => ∃ k : Nat, n ≤ k ∧ k ≤ n + 80 ∧ i = .int .i64 k) (fun i => n + 80 - (intOf i).toNat)
  case atStart => exact ⟨n, Nat.le_refl _, by omega, rfl⟩
  case round =>
    obtain ⟨k, hk0, hk, rfl⟩ := hrel
    by_cases hlt : k < n + 80
    · have hcell : w'.cell? ⟨g, k, none⟩ = some (.int .u8 (bits .xor .i64 165 (k : Int) % 256)) := by
        rw [hrow.cell, spareL, List.getElem?_append_right (by rw [List.length_map, HN.out]; omega), List.getElem?_map, List.length_map, HN.out, List.getElem?_range (by omega)]
        simp only [Option.map_some, markI]
        rw [show n + (k - n) = k from by omega]
      have hbe : (bits .xor .i64 165 (k : Int) % 256 != bits .xor .i64 165 (k : Int) % 256) = false := by simp
      go_wp2
      go_round
      case rel => exact ⟨k + 1, by omega, by omega, by go_num⟩
      case measure => simp [intOf]; omega
    · obtain rfl : k = n + 80 := by omega
      go_wp2
      go_ret
      exact ⟨rfl, hb1⟩
end Go.Proofs.Ytpafdemnnofihaa
