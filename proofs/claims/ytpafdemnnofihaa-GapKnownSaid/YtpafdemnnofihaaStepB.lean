/- A step that looks at a piece, and one that opens the block anew. -/
import Derived.Test.YtpafdemnnofihaaStep
namespace Go.Proofs.Ytpafdemnnofihaa
open Go.RowKit
set_option maxHeartbeats 4000000 in
set_option maxRecDepth 100000 in
theorem step4Yes (w : World) (g r : Nat) (s : List UInt8) (p : Nat) (H : Both w g r s p) (f u : Nat) (hf : f ≤ u) (hu : u ≤ s.length) (x : List UInt8) :
    Calls Try.prog 27 #[gapV g, gapV r, .agg #[.int .i64 4, .int .i64 f, .int .i64 u, .string (bstr x)]] w fun e w' => e = .returned (.tuple #[gapV g, .bool true]) ∧ Both w' g r s p ∧ Kept2 w w' g r := by
  have hs := H.gap.room
  have HB := Lib.hid H
  have hlg := H.gap.lt
  have hlr := H.ref.lt
  clear H
  go_enter Try.func27, Try.ntmps27
  go_wp2_with fail
  have hbw : Below w.heap.size w (w.alloc (.cells #[.int .i64 4, .int .i64 f, .int .i64 u, .string (bstr x)] 41)) := (Below.refl _ _).alloc (Nat.le_refl _) _
  refine (sliceA _ g s p (HB.out.gap.keep hbw hlg) f u hf hu).mono ?_
  rintro e w1 ⟨rfl, hq1⟩
  have B1 := Lib.hid (hbw.trans (hq1.below _))
  have c1 : w1.cell? ⟨w.heap.size, 1, none⟩ = some (.int .i64 f) := by rw [World.cell?_of_block (w := w.alloc (.cells #[.int .i64 4, .int .i64 f, .int .i64 u, .string (bstr x)] 41)) (by rw [hq1.heap])]; exact cell_new w [.int .i64 4, .int .i64 f, .int .i64 u, .string (bstr x)] _ 1
  have c2 : w1.cell? ⟨w.heap.size, 2, none⟩ = some (.int .i64 u) := by rw [World.cell?_of_block (w := w.alloc (.cells #[.int .i64 4, .int .i64 f, .int .i64 u, .string (bstr x)] 41)) (by rw [hq1.heap])]; exact cell_new w [.int .i64 4, .int .i64 f, .int .i64 u, .string (bstr x)] _ 2
  clear hbw hq1
  go_wp2_with fail
  refine (rSlice _ r s p (HB.out.ref.keep B1.out hlr) hs f u hf hu).mono ?_
  rintro e w' ⟨rfl, rfl⟩
  go_wp2
  go_ret2
  exact ⟨rfl, HB.out.keep B1.out hlg hlr, Kept2.below B1.out⟩
set_option maxHeartbeats 4000000 in
set_option maxRecDepth 100000 in
theorem step4No (w : World) (g r : Nat) (s : List UInt8) (p : Nat) (H : Both w g r s p) (lo hi : Int) (hno : lo < 0 ∨ hi < lo ∨ (s.length : Int) < hi) (x : List UInt8) :
    Calls Try.prog 27 #[gapV g, gapV r, .agg #[.int .i64 4, .int .i64 lo, .int .i64 hi, .string (bstr x)]] w fun e w' => e = .returned (.tuple #[gapV g, .bool true]) ∧ Both w' g r s p ∧ Kept2 w w' g r := by
  have hs := H.gap.room
  have HB := Lib.hid H
  have hlg := H.gap.lt
  have hlr := H.ref.lt
  have HNO := Lib.hid hno
  clear H hno
  go_enter Try.func27, Try.ntmps27
  go_wp2_with fail
  have hbw : Below w.heap.size w (w.alloc (.cells #[.int .i64 4, .int .i64 lo, .int .i64 hi, .string (bstr x)] 41)) := (Below.refl _ _).alloc (Nat.le_refl _) _
  refine (sliceAno _ g s p (HB.out.gap.keep hbw hlg) lo hi HNO.out).mono ?_
  rintro e w1 ⟨rfl, hq1⟩
  have B1 := Lib.hid (hbw.trans (hq1.below _))
  have c1 : w1.cell? ⟨w.heap.size, 1, none⟩ = some (.int .i64 lo) := by rw [World.cell?_of_block (w := w.alloc (.cells #[.int .i64 4, .int .i64 lo, .int .i64 hi, .string (bstr x)] 41)) (by rw [hq1.heap])]; exact cell_new w [.int .i64 4, .int .i64 lo, .int .i64 hi, .string (bstr x)] _ 1
  have c2 : w1.cell? ⟨w.heap.size, 2, none⟩ = some (.int .i64 hi) := by rw [World.cell?_of_block (w := w.alloc (.cells #[.int .i64 4, .int .i64 lo, .int .i64 hi, .string (bstr x)] 41)) (by rw [hq1.heap])]; exact cell_new w [.int .i64 4, .int .i64 lo, .int .i64 hi, .string (bstr x)] _ 2
  clear hbw hq1
  go_wp2_with fail
  refine (rSliceNo _ r s p (HB.out.ref.keep B1.out hlr) hs lo hi HNO.out).mono ?_
  rintro e w' ⟨rfl, rfl⟩
  go_wp2
  go_ret2
  exact ⟨rfl, HB.out.keep B1.out hlg hlr, Kept2.below B1.out⟩
set_option maxHeartbeats 4000000 in
set_option maxRecDepth 100000 in
theorem step5 (w : World) (g r : Nat) (s : List UInt8) (p : Nat) (H : Both w g r s p) (act lo hi : Int) (h1 : act ≠ 1) (h2 : act ≠ 2) (h3 : act ≠ 3) (h4 : act ≠ 4) (x : List UInt8) :
    Calls Try.prog 27 #[gapV g, gapV r, .agg #[.int .i64 act, .int .i64 lo, .int .i64 hi, .string (bstr x)]] w fun e w' => ∃ h, w.heap.size ≤ h ∧ e = .returned (.tuple #[gapV h, .bool true]) ∧ Both w' h r s p ∧ Below w.heap.size w w' := by
  have hs := H.gap.room
  have hp := H.gap.place
  have HB := Lib.hid H
  have hlg := H.gap.lt
  have hlr := H.ref.lt
  have e1 : (act == 1) = false := by simpa using h1
  have e2 : (act == 2) = false := by simpa using h2
  have e3 : (act == 3) = false := by simpa using h3
  have e4 : (act == 4) = false := by simpa using h4
  clear H h1 h2 h3 h4
  go_enter Try.func27, Try.ntmps27
  go_wp2_with fail
  have hbw : Below w.heap.size w (w.alloc (.cells #[.int .i64 act, .int .i64 lo, .int .i64 hi, .string (bstr x)] 41)) := (Below.refl _ _).alloc (Nat.le_refl _) _
  refine (blockA _ g s p (HB.out.gap.keep hbw hlg)).mono ?_
  rintro e w1 ⟨v1, rfl, hown1, hb1⟩
  obtain ⟨gb, cb, rfl, hgb, nb, mb, cur, hcur, hcs⟩ := own_shape hown1 (by decide)
  obtain ⟨_, _, hv1, hr1, _, _⟩ := reads_of_own hown1
  cases hv1
  have HR1 := Lib.hid hr1
  have B1 : Hid (Below w.heap.size w w1) := hbw.trans (hb1.mono hbw.size)
  have hgb' : w.heap.size ≤ gb := Nat.le_trans hbw.size hgb
  have HCUR : Hid (Row w1 gb 5 cur.toList) := by show Row _ _ _ _; unfold Row; rw [hcur]
  have HCS : Hid (cur.toList.length = cb) := by show _ = _; rw [Array.length_toList]; exact hcs
  have HOC : Hid (∀ k y, (blockL s p)[k]? = some y → cur.toList[k]? = some (B8 y)) := fun k y hy => by
    have hk := (List.getElem?_eq_some_iff.1 hy).1
    rw [blockL_length s p hp hs] at hk
    have h := HR1.out.2 (by decide)
    obtain ⟨b', o', e, _, hc⟩ := h
    cases e
    have h2 := hc k hk
    rw [Nat.zero_add, Row.cell HCUR.out, List.getElem?_map, hy] at h2
    exact h2
  clear hown1 hb1 hr1 hcur hcs hbw
  go_wp2_with fail
  refine (openC _ _ 256 cb _ HR1.out nb (by decide)).mono ?_
  rintro e w2 ⟨hp2, hb2⟩
  rcases hp2 with ⟨hno, _⟩ | ⟨s2, p2, h, ho, hh, hg2, rfl⟩
  · rw [openB_block s p hp hs] at hno; cases hno
  rw [openB_block s p hp hs] at ho
  cases ho
  have lgb := HCUR.out.lt
  have HG2 := Lib.hid hg2
  have B2 := Lib.hid (B1.out.trans (hb2.mono B1.out.size))
  have HX2 : Hid (Row w2 gb 5 cur.toList) := HCUR.out.keep hb2 lgb
  have hgh : gb < h := Nat.lt_of_lt_of_le lgb hh
  have hwh : w.heap.size ≤ h := Nat.le_trans hgb' (Nat.le_of_lt hgh)
  have HBL := Lib.hid (blockL_length s p hp hs)
  clear hg2 hb2 HCUR HR1
  go_wp2
  go_loopw [15] (fun i wr => ∃ j : Nat, j ≤ 256 ∧ i = .int .i64 j ∧ Hid (∃ xs : List Value, xs.length = cb ∧ Row wr gb 5 xs ∧ ∀ k y, j ≤ k → (blockL s p)[k]? = some y → xs[k]? = some (B8 y)) ∧ Hid (GapAt wr h s p) ∧ Hid (Below w.heap.size w wr)) (fun i _ => 256 - (intOf i).toNat)
  case atStart => exact ⟨0, Nat.zero_le _, rfl, ⟨cur.toList, HCS.out, HX2.out, fun k y _ hy => HOC.out k y hy⟩, HG2, B2⟩
  case round =>
    obtain ⟨j, hj, rfl, HX, HG, HBW⟩ := hrel
    obtain ⟨xs, hxl, hxr, hxk⟩ := HX.out
    by_cases hjn : j < 256
    · obtain ⟨y, hy⟩ : ∃ y, (blockL s p)[j]? = some y := ⟨(blockL s p)[j]'(by rw [HBL.out]; exact hjn), List.getElem?_eq_getElem (by rw [HBL.out]; exact hjn)⟩
      have hcell : wr.cell? ⟨gb, j, none⟩ = some (.int .u8 (y.toNat : Int)) := (hxr.cell j).trans (hxk j y (Nat.le_refl _) hy)
      have hfr := hxr.frozen j
      have HXR := Lib.hid hxr
      have HXL := Lib.hid hxl
      have HXK := Lib.hid hxk
      clear hy hxr hxl hxk HX
      go_wp2
      go_roundw
      case rel =>
        refine ⟨j + 1, by omega, by go_num, ⟨_, ?_, HXR.out.set j _, fun k z hk hz => ?_⟩, HG.out.apart (grownBy_setCell _ _ _ _) (by omega), HBW.out.setCell hgb' _⟩
        · rw [List.length_set]; exact HXL.out
        · rw [List.getElem?_set_ne (by omega)]; exact HXK.out k z (by omega) hz
      case measure => simp [intOf]; omega
    · clear hxl hxr hxk HX
      go_wp2
      go_ret2
      exact ⟨h, hwh, rfl, ⟨HG.out, HB.out.ref.keep HBW.out hlr, by omega⟩, HBW.out⟩
end Go.Proofs.Ytpafdemnnofihaa
