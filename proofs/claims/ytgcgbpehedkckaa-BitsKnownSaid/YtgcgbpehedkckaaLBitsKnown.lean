/- BitsKnown: the examples of the chapter; both ends. -/
import Derived.Test.YtgcgbpehedkckaaLBitsRounds
import Derived.Test.YtgcgbpehedkckaaLBitsRanges
import Derived.Test.YtgcgbpehedkckaaLBitsTakes
namespace Go.Proofs.Ytgcgbpehedkckaa
open Go.RowKit
theorem wf_i64_mk {n : Int} (h1 : -9223372036854775808 ≤ n) (h2 : n ≤ 9223372036854775807) : (Lit.int .i64 n).wf = true := by
  simp [Lit.wf, IntKind.min, IntKind.max, IntKind.signed, IntKind.bits]; omega
theorem rows_oneK {W : World} {v : Value} {l : List UInt8} (h : SliceOf W v l) : ReadsRows (W.alloc (.cells #[v] 22)) (some ⟨W.heap.size, 0, none⟩) 1 [l] := by
  refine ⟨[v], reads_new W [v] _, rfl, fun i v' l' h1 h2 => ?_⟩
  match i, h1, h2 with
  | 0, h1, h2 =>
    simp at h1 h2
    subst h1; subst h2
    exact h.keep ((Below.refl _ W).alloc (Nat.le_refl _) _) (Nat.le_refl _)
theorem kRounds (w : World) (x y : Int) (h1 : -9223372036854775808 ≤ x) (h2 : x ≤ 9223372036854775807) (h3 : -9223372036854775808 ≤ y) (h4 : y ≤ 9223372036854775807) :
    Calls Try.prog 6 #[.int .i64 x, .int .i64 y] w fun e w' => e = .returned (.bool true) ∧ Below w.heap.size w w' := bitsRounds_walk w x (wf_i64_mk h1 h2) y (wf_i64_mk h3 h4)
theorem kRanges (w : World) (x y : Int) (z : Int) (h1 : -9223372036854775808 ≤ x) (h2 : x ≤ 9223372036854775807) (h3 : -9223372036854775808 ≤ y) (h4 : y ≤ 9223372036854775807) (hz : (Lit.int .u8 z).wf = true) :
    Calls Try.prog 7 #[.int .i64 x, .int .i64 y, .int .u8 z] w fun e w' => e = .returned (.bool true) ∧ Below w.heap.size w w' := bitsRanges_walk w x (wf_i64_mk h1 h2) y (wf_i64_mk h3 h4) z hz
theorem kTakes (w : World) (y : Int) (h3 : -9223372036854775808 ≤ y) (h4 : y ≤ 9223372036854775807) :
    Calls Try.prog 4 #[.slice (some ⟨w.heap.size, 0, none⟩) 9 9, .int .i64 y] (w.alloc (.cells #[.int .u8 1, .int .u8 2, .int .u8 3, .int .u8 4, .int .u8 5, .int .u8 6, .int .u8 7, .int .u8 8, .int .u8 9] 5)) fun e w' => e = .returned (.bool true) ∧ Below w.heap.size w w' := by
  have hr : Reads (w.alloc (.cells #[.int .u8 1, .int .u8 2, .int .u8 3, .int .u8 4, .int .u8 5, .int .u8 6, .int .u8 7, .int .u8 8, .int .u8 9] 5)) (some ⟨w.heap.size, 0, none⟩) 9 (([1, 2, 3, 4, 5, 6, 7, 8, 9] : List UInt8).map B8) := reads_new w [.int .u8 1, .int .u8 2, .int .u8 3, .int .u8 4, .int .u8 5, .int .u8 6, .int .u8 7, .int .u8 8, .int .u8 9] 5
  exact (bitsTakes_walk _ _ 9 9 _ hr (by omega) (by unfold maxLen; omega) (by omega) y (wf_i64_mk h3 h4)).mono fun e w' ⟨h1, h2⟩ => ⟨h1, below_past h2⟩
theorem kTakesNil (w : World) (y : Int) (h3 : -9223372036854775808 ≤ y) (h4 : y ≤ 9223372036854775807) :
    Calls Try.prog 4 #[.slice none 0 0, .int .i64 y] w fun e w' => e = .returned (.bool true) ∧ Below w.heap.size w w' :=
  bitsTakes_walk w none 0 0 [] (Reads.nil _ _) (by omega) (by unfold maxLen; omega) (by omega) y (wf_i64_mk h3 h4)
/-- the sum of one slice, put into a list of its own -/
theorem kSum (w : World) (g : Nat) (b : Int) (l : List UInt8) (n : Nat) (hl : l.length = n) (hn : n ≤ 1048576) (h : Row w g 5 (l.map B8)) (hb : ((crcMore 0 l : Nat) : Int) = b) :
    Calls Try.prog 27 #[.slice (some ⟨w.heap.size, 0, none⟩) 1 1] (w.alloc (.cells #[.slice (some ⟨g, 0, none⟩) n n] 22)) fun e w' => e = .returned (.int .u32 b) ∧ Below w.heap.size w w' := by
  have hr := h.reads 0 n (by rw [List.length_map, hl]; omega)
  rw [List.drop_zero, List.take_of_length_le (by rw [List.length_map, hl]; exact Nat.le_refl _)] at hr
  have hs : SliceOf w (.slice (some ⟨g, 0, none⟩) n n) l := ⟨_, n, by rw [hl], by rw [hl]; exact hr, by rw [hl]; exact Nat.le_refl _, by unfold maxLen; omega⟩
  refine (sumBits _ _ 1 1 [l] (rows_oneK hs) (by omega) (fun l' h' => by rw [List.mem_singleton.1 h', hl]; omega)).mono ?_
  rw [show [l].flatten = l from by simp, hb]
  rintro e w' ⟨h1, h2⟩
  exact ⟨h1, below_past (h2.below _)⟩
theorem kSumNil (w : World) : Calls Try.prog 27 #[.slice none 0 0] w fun e w' => e = .returned (.int .u32 0) ∧ Below w.heap.size w w' := by
  refine (sumBits w none 0 0 [] ⟨[], Reads.nil _ _, rfl, fun i v l h => by cases h⟩ (by omega) (fun l h => by cases h)).mono ?_
  rintro e w' ⟨h1, h2⟩
  exact ⟨h1, h2.below _⟩
theorem sum_one : ((crcMore 0 (List.replicate 32 0) : Nat) : Int) = 2324772522 := by
  rw [show crcMore 0 (List.replicate 32 0) = 2324772522 from by decide +kernel]
  rfl
theorem sum_two : ((crcMore 0 (List.replicate 32 255) : Nat) : Int) = 1655221059 := by
  rw [show crcMore 0 (List.replicate 32 255) = 1655221059 from by decide +kernel]
  rfl
theorem rep_map (n : Nat) (x : UInt8) : (List.replicate n x).map B8 = List.replicate n (B8 x) := by simp
set_option maxHeartbeats 4000000 in
set_option maxRecDepth 100000 in
theorem bitsKnown_walk (w : World) : Calls Try.prog 12 #[] w fun e w' => e = .returned (.bool true) ∧ Below w.heap.size w w' := by
  obtain ⟨i0, hi, hz0, hz1, hz2⟩ := info_parts Try.infoU8
  go_enter Try.func12, Try.ntmps12
  go_wp2_with (first | (at_make; refine wpList_make_row w rfl _ _ 22 rfl 5 i0 (.int .u8 0) Try.underlying22 hi hz0 hz1 rfl .i64 .i64 32 32 32 32 rfl rfl rfl rfl (Nat.le_refl _) (by rw [hz2]; decide) (by unfold maxLen; decide) w.heap.size w (Below.refl _ _) (Nat.le_refl _) ?_; intro w1 hrow1 hb1) | (at_make; refine wpList_make_row w1 rfl _ _ 22 rfl 5 i0 (.int .u8 0) Try.underlying22 hi hz0 hz1 rfl .i64 .i64 32 32 32 32 rfl rfl rfl rfl (Nat.le_refl _) (by rw [hz2]; decide) (by unfold maxLen; decide) w1.heap.size w1 (Below.refl _ _) (Nat.le_refl _) ?_; intro w2 hrow2 hb2))
  have z1 := hb1.size
  have y1 := hrow1.lt
  have HR1 := Lib.hid hrow1
  have B1 := Lib.hid hb1
  have z2 := hb2.size
  have HR2 := Lib.hid hrow2
  have HR12 := Lib.hid (HR1.out.keep hb2 y1)
  have B2 := Lib.hid (B1.out.trans (hb2.mono z1))
  have hg12 : w.heap.size ≠ w1.heap.size := by omega
  have zz : w.heap.size ≤ w2.heap.size := by omega
  clear hrow1 hb1 hrow2 hb2 HR1 B1
  go_loopw [3] (fun x wr => ∃ k : Nat, k ≤ 32 ∧ x = .int .i64 k ∧ Hid (Row wr w.heap.size 5 (List.replicate 32 (.int .u8 0))) ∧ Hid (Row wr w1.heap.size 5 (fill (List.replicate 32 (.int .u8 255)) (.int .u8 0) 32 k)) ∧ Hid (Below w.heap.size w wr) ∧ w.heap.size ≤ wr.heap.size) (fun x _ => 32 - (intOf x).toNat)
  case atStart => exact ⟨0, Nat.zero_le _, rfl, HR12, by rw [fill_zero]; exact HR2, B2, zz⟩
  case round =>
    clear HR12 HR2 B2
    obtain ⟨k, hk, rfl, HA, HC, HB, zr⟩ := hrel
    by_cases hlt : k < 32
    · obtain ⟨y, hy⟩ := fill_at (List.replicate 32 (Value.int .u8 255)) (Value.int .u8 0) 32 k k (by simp) hlt
      have hcell := (HC.out.cell k).trans hy
      have hfr := HC.out.frozen k
      clear hy
      go_wp2
      go_roundw
      case rel =>
        refine ⟨k + 1, by omega, by go_num, HA.out.other (fun e => hg12 e.symm) _, ?_, HB.out.setCell z1 _, by rw [World.size_setCell]; exact zr⟩
        rw [← fill_set hlt (x := .int .u8 255) (by rw [List.getElem?_replicate, if_pos hlt])]
        exact HC.out.set k _
      case measure => simp [intOf]; omega
    · have hk32 : k = 32 := by omega
      have hfin := HC.out
      rw [hk32, fill_all _ _ _ (by simp)] at hfin
      clear hk32
      have HF := Lib.hid hfin
      obtain ⟨wq, rfl⟩ : ∃ wq : World, wq = wr := ⟨_, rfl⟩
      clear hfin HC
      go_wp2
      go_loopw [4] (fun x wr => ∃ i : Int, -1 ≤ i ∧ i ≤ 70 ∧ x = .int .i64 i ∧ Hid (Below wq.heap.size wq wr) ∧ wq.heap.size ≤ wr.heap.size) (fun x _ => (70 - intOf x).toNat)
      case atStart => exact ⟨-1, by omega, by omega, rfl, Below.refl _ _, Nat.le_refl _⟩
      case round =>
        obtain ⟨i, hi0, hi1, rfl, HBI, zi⟩ := hrel
        by_cases hlt : i < 70
        · skip
          go_wp2_with fail
          refine (kRounds wr i 8 (by omega) (by omega) (by omega) (by omega)).mono ?_
          rintro e p0 ⟨rfl, hb_⟩
          have z_p0 := hb_.size
          have B_p0 := Lib.hid (HBI.out.trans (hb_.mono (by omega)))
          clear hb_
          go_wp2_with fail
          refine (kRounds p0 64 i (by omega) (by omega) (by omega) (by omega)).mono ?_
          rintro e p1 ⟨rfl, hb_⟩
          have z_p1 := hb_.size
          have B_p1 := Lib.hid (B_p0.out.trans (hb_.mono (by omega)))
          clear hb_
          go_wp2_with fail
          refine (kRanges p1 i 9 5 (by omega) (by omega) (by omega) (by omega) (by decide)).mono ?_
          rintro e p2 ⟨rfl, hb_⟩
          have z_p2 := hb_.size
          have B_p2 := Lib.hid (B_p1.out.trans (hb_.mono (by omega)))
          clear hb_
          go_wp2_with fail
          refine (kRanges p2 60 i 5 (by omega) (by omega) (by omega) (by omega) (by decide)).mono ?_
          rintro e p3 ⟨rfl, hb_⟩
          have z_p3 := hb_.size
          have B_p3 := Lib.hid (B_p2.out.trans (hb_.mono (by omega)))
          clear hb_
          go_wp2_with fail
          refine (kTakes p3 i (by omega) (by omega)).mono ?_
          rintro e p4 ⟨rfl, hb_⟩
          have z_p4 := hb_.size
          have B_p4 := Lib.hid (B_p3.out.trans (hb_.mono (by omega)))
          clear hb_
          go_wp2
          go_roundw
          case rel =>
            exact ⟨i + 1, by omega, by omega, by go_num, B_p4, by omega⟩
          case measure => simp [intOf]; omega
        · obtain rfl : i = 70 := by omega
          go_wp2_with fail
          refine (kSum wr w.heap.size 2324772522 (List.replicate 32 0) 32 (by simp) (by omega) (by rw [rep_map]; exact HA.out.keep HBI.out HA.out.lt) sum_one).mono ?_
          rintro e q0 ⟨rfl, hb_⟩
          have z_q0 := hb_.size
          have B_q0 := Lib.hid (HBI.out.trans (hb_.mono (by omega)))
          clear hb_
          go_wp2_with fail
          refine (kSum q0 w1.heap.size 1655221059 (List.replicate 32 255) 32 (by simp) (by omega) (by rw [rep_map]; exact HF.out.keep B_q0.out HF.out.lt) sum_two).mono ?_
          rintro e q1 ⟨rfl, hb_⟩
          have z_q1 := hb_.size
          have B_q1 := Lib.hid (B_q0.out.trans (hb_.mono (by omega)))
          clear hb_
          go_wp2_with fail
          refine (kSumNil q1).mono ?_
          rintro e q2 ⟨rfl, hb_⟩
          have z_q2 := hb_.size
          have B_q2 := Lib.hid (B_q1.out.trans (hb_.mono (by omega)))
          clear hb_
          go_wp2_with fail
          refine (kRounds q2 9223372036854775807 2 (by omega) (by omega) (by omega) (by omega)).mono ?_
          rintro e q3 ⟨rfl, hb_⟩
          have z_q3 := hb_.size
          have B_q3 := Lib.hid (B_q2.out.trans (hb_.mono (by omega)))
          clear hb_
          go_wp2_with fail
          refine (kRounds q3 9223372036854775806 2 (by omega) (by omega) (by omega) (by omega)).mono ?_
          rintro e q4 ⟨rfl, hb_⟩
          have z_q4 := hb_.size
          have B_q4 := Lib.hid (B_q3.out.trans (hb_.mono (by omega)))
          clear hb_
          go_wp2_with fail
          refine (kRounds q4 9223372036854775807 9223372036854775807 (by omega) (by omega) (by omega) (by omega)).mono ?_
          rintro e q5 ⟨rfl, hb_⟩
          have z_q5 := hb_.size
          have B_q5 := Lib.hid (B_q4.out.trans (hb_.mono (by omega)))
          clear hb_
          go_wp2_with fail
          refine (kRounds q5 1 9223372036854775807 (by omega) (by omega) (by omega) (by omega)).mono ?_
          rintro e q6 ⟨rfl, hb_⟩
          have z_q6 := hb_.size
          have B_q6 := Lib.hid (B_q5.out.trans (hb_.mono (by omega)))
          clear hb_
          go_wp2_with fail
          refine (kRanges q6 9223372036854775807 1 3 (by omega) (by omega) (by omega) (by omega) (by decide)).mono ?_
          rintro e q7 ⟨rfl, hb_⟩
          have z_q7 := hb_.size
          have B_q7 := Lib.hid (B_q6.out.trans (hb_.mono (by omega)))
          clear hb_
          go_wp2_with fail
          refine (kRanges q7 9223372036854775806 1 3 (by omega) (by omega) (by omega) (by omega) (by decide)).mono ?_
          rintro e q8 ⟨rfl, hb_⟩
          have z_q8 := hb_.size
          have B_q8 := Lib.hid (B_q7.out.trans (hb_.mono (by omega)))
          clear hb_
          go_wp2_with fail
          refine (kRanges q8 0 9223372036854775807 3 (by omega) (by omega) (by omega) (by omega) (by decide)).mono ?_
          rintro e q9 ⟨rfl, hb_⟩
          have z_q9 := hb_.size
          have B_q9 := Lib.hid (B_q8.out.trans (hb_.mono (by omega)))
          clear hb_
          go_wp2_with fail
          refine (kTakesNil q9 9223372036854775807 (by omega) (by omega)).mono ?_
          rintro e q10 ⟨rfl, hb_⟩
          have z_q10 := hb_.size
          have B_q10 := Lib.hid (B_q9.out.trans (hb_.mono (by omega)))
          clear hb_
          go_wp2_with fail
          refine (worksC q10).mono ?_
          rintro e q11 ⟨rfl, hb_⟩
          have z_q11 := hb_.size
          have B_q11 := Lib.hid (B_q10.out.trans (hb_.mono (by omega)))
          clear hb_
          have BF := Lib.hid (HB.out.trans (B_q11.out.mono zr))
          go_wp2
          go_ret
          exact ⟨rfl, BF⟩
end Go.Proofs.Ytgcgbpehedkckaa
