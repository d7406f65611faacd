/- clean: the block is one with 0 in the gap, that is opened as the same. -/
import Derived.Test.YtpafdemnnofihaaGapY
namespace Go.Proofs.Ytpafdemnnofihaa
open Go.RowKit
theorem block_zero (s : List UInt8) (p j : Nat) (hp : p ≤ s.length) (h1 : p ≤ j) (h2 : j < p + (252 - s.length)) : (blockL s p)[4 + j]? = some 0 := by
  rw [blockL, List.getElem?_append_right (by rw [headB_length]; omega), headB_length, show 4 + j - 4 = j from by omega, gapB_at s p j hp, if_neg (by omega), if_pos h2]
set_option maxHeartbeats 4000000 in
set_option maxRecDepth 100000 in
theorem cleanC (w : World) (g : Nat) (s : List UInt8) (p : Nat) (h : GapAt w g s p) :
    Calls Try.prog 25 #[gapV g] w fun e w' => e = .returned (.bool true) ∧ Below w.heap.size w w' := by
  have hs := h.room
  have hp := h.place
  have H0 := Lib.hid h
  have hlg := h.lt
  clear h
  obtain ⟨z, hz⟩ : ∃ z, z = 252 - s.length := ⟨_, rfl⟩
  have hz2 : p + z ≤ 252 := by omega
  have HZ := Lib.hid hz
  clear hz
  go_enter Try.func25, Try.ntmps25
  go_wp2_with fail
  refine (blockA _ g s p H0.out).mono ?_
  rintro e w1 ⟨v1, rfl, hown1, hb1⟩
  obtain ⟨a1, c1, rfl, hr1, hle1, hcm1⟩ := reads_of_own hown1
  have HR1 := Lib.hid hr1
  have H1 := Lib.hid (H0.out.keep hb1 hlg)
  have B1 := Lib.hid hb1
  clear hown1 hr1 hb1
  go_wp2_with fail
  refine (atG _ g _ _ _ H1.out.raw).mono ?_
  rintro e w' ⟨rfl, rfl⟩
  go_wp2
  go_loopw [4] (fun i wr => ∃ j : Nat, p ≤ j ∧ j ≤ p + z ∧ i = .int .i64 j ∧ Hid (GapAt wr g s p) ∧ Hid (Reads wr a1 256 ((blockL s p).map B8)) ∧ Hid (Below w.heap.size w wr)) (fun i _ => p + z - (intOf i).toNat)
  case atStart => exact ⟨p, Nat.le_refl _, by omega, rfl, H1, HR1, B1⟩
  case round =>
    obtain ⟨j, hj1, hj2, rfl, HG, HR, HB⟩ := hrel
    go_wp2_with fail
    refine (atG _ g _ _ _ HG.out.raw).mono ?_
    rintro e w' ⟨rfl, rfl⟩
    go_wp2_with fail
    refine (roomA _ g s p HG.out).mono ?_
    rw [← HZ.out]
    rintro e w2 ⟨rfl, hq2⟩
    have HG2 := Lib.hid (HG.out.quiet hq2)
    have HR2 := Lib.hid (HR.out.quiet hq2)
    have HB2 := Lib.hid (HB.out.trans (hq2.below _))
    clear hq2
    by_cases hjz : j < p + z
    · obtain ⟨b, o, x, rfl, _, hx, hcx⟩ := HR2.out.byte (k := 4 + j) (by omega)
      rw [block_zero s p j hp hj1 (by rw [← HZ.out]; exact hjz)] at hx
      cases hx
      have hbe : (((0 : UInt8).toNat : Int) != 0) = false := by decide
      go_wp2
      go_roundw
      case rel => exact ⟨j + 1, by omega, by omega, by go_num, HG2, HR2, HB2⟩
      case measure => simp [intOf]; omega
    · go_wp2_with fail
      refine (openC _ a1 256 c1 _ HR2.out hle1 (by decide)).mono ?_
      rintro e w3 ⟨hp3, hb3⟩
      rcases hp3 with ⟨hno, _⟩ | ⟨s3, p3, h, ho, hh, hg3, rfl⟩
      · rw [openB_block s p hp hs] at hno; cases hno
      rw [openB_block s p hp hs] at ho
      cases ho
      have H3 := Lib.hid hg3
      have HG3 := Lib.hid (HG2.out.keep hb3 HG2.out.lt)
      have B3 := Lib.hid (HB2.out.trans (hb3.mono HB2.out.size))
      clear hg3 hb3
      go_wp2_with fail
      refine (textA _ h s p H3.out).mono ?_
      rintro e w4 ⟨rfl, hq4⟩
      have H4 := Lib.hid (H3.out.quiet hq4)
      have HG4 := Lib.hid (HG3.out.quiet hq4)
      have B4 := Lib.hid (B3.out.trans (hq4.below _))
      clear hq4
      go_wp2_with fail
      refine (textA _ g s p HG4.out).mono ?_
      rintro e w5 ⟨rfl, hq5⟩
      have H5 := Lib.hid (H4.out.quiet hq5)
      have HG5 := Lib.hid (HG4.out.quiet hq5)
      have B5 := Lib.hid (B4.out.trans (hq5.below _))
      clear hq5
      go_wp2_with fail
      refine (atG _ h _ _ _ H5.out.raw).mono ?_
      rintro e w' ⟨rfl, rfl⟩
      go_wp2_with fail
      refine (atG _ g _ _ _ HG5.out.raw).mono ?_
      rintro e w' ⟨rfl, rfl⟩
      go_wp2
      go_ret
      exact ⟨rfl, B5.out⟩
end Go.Proofs.Ytpafdemnnofihaa
