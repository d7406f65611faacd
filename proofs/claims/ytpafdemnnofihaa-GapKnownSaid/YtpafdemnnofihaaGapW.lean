/- works of the gap's layer. -/
import Derived.Test.YtpafdemnnofihaaGapE
import Derived.Test.YtpafdemnnofihaaGapH
namespace Go.Proofs.Ytpafdemnnofihaa
open Go.RowKit
theorem below_fresh {w w1 w2 : World} {g : Nat} (h : Below w.heap.size w w1) (hg : w1.grownBy w2 (some g)) (hlt : w.heap.size ≤ g) : Below w.heap.size w w2 :=
  h.trans (below_grownBy hg hlt h.size)
set_option maxHeartbeats 2000000 in
set_option maxRecDepth 100000 in
theorem worksC (w : World) : Calls Try.prog 12 #[] w fun e w' => e = .returned (.bool true) ∧ Below w.heap.size w w' := by
  go_enter Try.func12, Try.ntmps12
  go_wp2_with fail
  refine (makeYes _ [97, 98, 99] (by decide)).mono ?_
  rintro e w1 ⟨g, rfl, hg, h1, hb1⟩
  have H1 := Lib.hid h1
  have B1 := Lib.hid hb1
  clear h1 hb1
  go_wp2_with fail
  refine (insertA _ g [97, 98, 99] 3 H1.out 1 [120, 121] (by decide) (by decide)).mono ?_
  rintro e w2 ⟨rfl, h2, hg2⟩
  have H2 : Hid (GapAt w2 g [97, 120, 121, 98, 99] 3) := h2
  have B2 := Lib.hid (below_fresh B1.out hg2 hg)
  clear h2 hg2
  go_wp2_with fail
  refine (textA _ g _ _ H2.out).mono ?_
  rw [show bstr [97, 120, 121, 98, 99] = ⟨#[97, 120, 121, 98, 99]⟩ from rfl]
  rintro e w3 ⟨rfl, hq3⟩
  have H3 := Lib.hid (H2.out.quiet hq3)
  have B3 := Lib.hid (B2.out.trans (hq3.below _))
  clear hq3
  go_wp2_with fail
  refine (atG _ g _ _ _ H3.out.raw).mono ?_
  rintro e w' ⟨rfl, rfl⟩
  go_wp2_with fail
  refine (blockA _ g _ _ H3.out).mono ?_
  rintro e w4 ⟨v4, rfl, hown4, hb4⟩
  obtain ⟨a4, c4, rfl, hr4, hle4, hcm4⟩ := reads_of_own hown4
  have B4 := Lib.hid (B3.out.trans (hb4.mono B3.out.size))
  have HR4 := Lib.hid hr4
  clear hown4 hb4 hr4
  go_wp2_with fail
  refine (openC _ a4 256 c4 _ HR4.out hle4 (by decide)).mono ?_
  rintro e w5 ⟨hp5, hb5⟩
  rcases hp5 with ⟨hno, _⟩ | ⟨s5, p5, g5, ho, hg5, h5, rfl⟩
  · rw [openB_block _ _ (by decide) (by decide)] at hno
    cases hno
  rw [openB_block _ _ (by decide) (by decide)] at ho
  cases ho
  have B5 := Lib.hid (B4.out.trans (hb5.mono B4.out.size))
  have H5 := Lib.hid h5
  have HR5 := Lib.hid (HR4.out.keep hb5 (Nat.le_refl _))
  have hg5' : w.heap.size ≤ g5 := Nat.le_trans B4.out.size hg5
  clear hb5 h5 HR4
  obtain ⟨b, o, rfl, hlt, hc⟩ := HR5.out.2 (by decide)
  have c0 : w5.cell? ⟨b, o, none⟩ = some (.int .u8 3) := hc 0 (by decide)
  have c4' : w5.cell? ⟨b, o + 4, none⟩ = some (.int .u8 97) := hc 4 (by decide)
  have c5 : w5.cell? ⟨b, o + 255, none⟩ = some (.int .u8 99) := by
    rw [hc 255 (by decide), List.getElem?_map, show (blockL [97, 120, 121, 98, 99] 3)[255]? = some 99 from by decide +kernel]
    rfl
  clear hc
  go_wp2_with fail
  refine (deleteA _ g5 _ _ H5.out 0 2 (by decide) (by decide)).mono ?_
  rintro e w6 ⟨rfl, h6, hg6⟩
  have H6 : Hid (GapAt w6 g5 [121, 98, 99] 0) := h6
  have B6 := Lib.hid (below_fresh B5.out hg6 hg5')
  clear h6 hg6 c0 c4' c5
  go_wp2_with fail
  refine (textA _ g5 _ _ H6.out).mono ?_
  rw [show bstr [121, 98, 99] = ⟨#[121, 98, 99]⟩ from rfl]
  rintro e w7 ⟨rfl, hq7⟩
  have H7 := Lib.hid (H6.out.quiet hq7)
  have B7 := Lib.hid (B6.out.trans (hq7.below _))
  clear hq7
  go_wp2_with fail
  refine (atG _ g5 _ _ _ H7.out.raw).mono ?_
  rintro e w' ⟨rfl, rfl⟩
  go_wp2
  go_ret
  exact ⟨rfl, B7.out⟩
end Go.Proofs.Ytpafdemnnofihaa
