/- GapOpens: of all bytes the gap, or the refusal. -/
import Derived.Test.YtpafdemnnofihaaGapY
namespace Go.Proofs.Ytpafdemnnofihaa
open Go.RowKit
set_option maxHeartbeats 4000000 in
set_option maxRecDepth 100000 in
theorem gapOpens_walk (w : World) (a : Option Addr) (n ca : Nat) (la : List UInt8) (ha : Reads w a n (la.map B8)) (hc : n ≤ ca) (hm : ca ≤ maxLen) (hb : n * 1 ≤ 140737488351232) :
    Calls Try.prog 3 #[.slice a n ca] w fun e w' => e = .returned (.bool true) ∧ Below w.heap.size w w' := by
  have hla := ha.len
  rw [List.length_map] at hla
  have HA := Lib.hid ha
  have HL := Lib.hid hla
  have hn : n ≤ 140737488351232 := by omega
  clear ha hla hb
  go_enter Try.func3, Try.ntmps3
  go_wp2_with fail
  refine (spare _ a n ca la HA.out (by omega)).mono ?_
  rintro e w1 ⟨g0, rfl, hg0, hr1, hb1⟩
  have HR1 := Lib.hid hr1
  have B1 := Lib.hid hb1
  have l1 := hr1.lt
  have hr1b := hr1.reads 0 n (by simp [spareL]; have := HL.out; omega)
  rw [List.drop_zero, spareL, List.take_append_of_le_length (by rw [List.length_map, HL.out]; exact Nat.le_refl _), List.take_of_length_le (by rw [List.length_map, HL.out]; exact Nat.le_refl _)] at hr1b
  have HI1 := Lib.hid hr1b
  clear hr1 hb1 hr1b
  go_wp2_with fail
  refine (openC _ _ n (n + 80) la HI1.out (by omega) (by omega)).mono ?_
  rintro e w2 ⟨hp2, hb2⟩
  have HR2 := Lib.hid (HR1.out.keep hb2 l1)
  have B2 := Lib.hid (B1.out.trans (hb2.mono B1.out.size))
  have hz2 := hb2.size
  have HA2 := Lib.hid (HA.out.keep B2.out (Nat.le_refl _))
  clear hb2
  rcases hp2 with ⟨hno, rfl⟩ | ⟨s, p, g, ho, hg, h2, rfl⟩
  · have HNO := Lib.hid hno
    clear hno
    go_wp2_with fail
    refine (rOpenC _ a n ca la HA2.out hc (by omega)).mono ?_
    rintro e w3 ⟨hp3, hb3⟩
    obtain rfl : e = .returned (.tuple #[.pointer none, .int .i64 160]) := by
      rcases hp3 with ⟨_, h⟩ | ⟨s', p', r', ho', _⟩
      · exact h
      · rw [HNO.out] at ho'; cases ho'
    clear hp3
    have HR3 := Lib.hid (HR2.out.keep hb3 (Nat.lt_of_lt_of_le l1 hz2))
    have HA3 := Lib.hid (HA2.out.keep hb3 (Nat.le_refl _))
    have B3 := Lib.hid (B2.out.trans (hb3.mono B2.out.size))
    clear hb3
    go_wp2_with fail
    refine (kept _ g0 a n ca la HR3.out HA3.out (by omega)).mono ?_
    rintro e w4 ⟨rfl, hb4⟩
    have B4 := Lib.hid (B3.out.trans (hb4.mono B3.out.size))
    clear hb4
    go_wp2_with fail
    refine (worksC _).mono ?_
    rintro e w5 ⟨rfl, hb5⟩
    have B5 := Lib.hid (B4.out.trans (hb5.mono B4.out.size))
    clear hb5
    go_wp2
    go_ret
    exact ⟨rfl, B5.out⟩
  · have HO := Lib.hid ho
    have H2 := Lib.hid h2
    have g2 := h2.lt
    clear ho h2
    go_wp2_with fail
    refine (rOpenC _ a n ca la HA2.out hc (by omega)).mono ?_
    rintro e w3 ⟨hp3, hb3⟩
    rcases hp3 with ⟨hno, _⟩ | ⟨s', p', r, ho', hr, h3, rfl⟩
    · rw [HO.out] at hno; cases hno
    rw [HO.out] at ho'
    cases ho'
    have HR3 := Lib.hid (HR2.out.keep hb3 (Nat.lt_of_lt_of_le l1 hz2))
    have HA3 := Lib.hid (HA2.out.keep hb3 (Nat.le_refl _))
    have H3 := Lib.hid (H2.out.keep hb3 g2)
    have B3 := Lib.hid (B2.out.trans (hb3.mono B2.out.size))
    have K3 := Lib.hid h3
    have r3 := h3.lt
    have hz3 := hb3.size
    clear hb3 h3
    go_wp2_with fail
    refine (kept _ g0 a n ca la HR3.out HA3.out (by omega)).mono ?_
    rintro e w4 ⟨rfl, hb4⟩
    have HR4 := Lib.hid (HR3.out.keep hb4 (by omega))
    have HA4 := Lib.hid (HA3.out.keep hb4 (Nat.le_refl _))
    have H4 := Lib.hid (H3.out.keep hb4 (by omega))
    have K4 := Lib.hid (K3.out.keep hb4 r3)
    have B4 := Lib.hid (B3.out.trans (hb4.mono B3.out.size))
    have hz4 := hb4.size
    clear hb4
    have hgr : g0 < g := Nat.lt_of_lt_of_le l1 hg
    have hrr : g0 < r := Nat.lt_of_lt_of_le l1 (Nat.le_trans hz2 hr)
    have hlen := spareL_length HL.out
    have HLEN := Lib.hid hlen
    clear hlen
    go_wp2
    go_loopw [8] (fun i wr => ∃ j : Nat, j ≤ n ∧ i = .int .i64 j ∧ Hid (∃ xs : List Value, xs.length = n + 80 ∧ Row wr g0 5 xs) ∧ Hid (GapAt wr g s p) ∧ Hid (RefAt wr r s p) ∧ Hid (Below w.heap.size w wr)) (fun i _ => n - (intOf i).toNat)
    case atStart => exact ⟨0, Nat.zero_le _, rfl, ⟨_, HLEN.out, HR4.out⟩, H4, K4, B4⟩
    case round =>
      obtain ⟨j, hj, rfl, HX, HG, HK, HB⟩ := hrel
      obtain ⟨xs, hxl, hxr⟩ := HX.out
      by_cases hjn : j < n
      · obtain ⟨y, hy⟩ : ∃ y, xs[j]? = some y := ⟨xs[j]'(by omega), List.getElem?_eq_getElem (by omega)⟩
        have hcell := (hxr.cell j).trans hy
        have hfr := hxr.frozen j
        have HXR := Lib.hid hxr
        have HXL := Lib.hid hxl
        clear hy hxr hxl HX
        go_wp2
        have HX' : Hid (∃ xs : List Value, xs.length = n + 80 ∧ Row (wr.setCell ⟨g0, j, none⟩ (.int .u8 51)) g0 5 xs) := ⟨_, by rw [List.length_set]; exact HXL.out, HXR.out.set j _⟩
        have hgw := grownBy_setCell wr g0 j (.int .u8 51)
        have HG' : Hid (GapAt (wr.setCell ⟨g0, j, none⟩ (.int .u8 51)) g s p) := HG.out.apart hgw (by omega)
        have HK' : Hid (RefAt (wr.setCell ⟨g0, j, none⟩ (.int .u8 51)) r s p) := HK.out.apart hgw (by omega)
        have HB' : Hid (Below w.heap.size w (wr.setCell ⟨g0, j, none⟩ (.int .u8 51))) := HB.out.setCell hg0 _
        clear hgw
        go_roundw
        case rel => exact ⟨j + 1, by omega, by go_num, HX', HG', HK', HB'⟩
        case measure => simp [intOf]; omega
      · clear hxl hxr HX
        obtain ⟨hbl, hps, hs2⟩ := block_of_open HO.out
        have hn256 : n = 256 := by rw [← HL.out, ← hbl]; exact blockL_length s p hps hs2
        subst hn256
        have HBL := Lib.hid hbl
        have hAr : Hid (Reads wr a 256 (la.map B8)) := HA.out.keep HB.out (Nat.le_refl _)
        clear hbl hps hs2
        go_wp2_with fail
        refine (tellsC _ g r s p HG.out HK.out).mono ?_
        rintro e w5 ⟨rfl, hb5⟩
        have HG5 := Lib.hid (HG.out.keep hb5 HG.out.lt)
        have HK5 := Lib.hid (HK.out.keep hb5 HK.out.lt)
        have hA5 := Lib.hid (hAr.out.keep hb5 (Nat.le_refl _))
        have B5 := Lib.hid (HB.out.trans (hb5.mono HB.out.size))
        clear hb5
        go_wp2_with fail
        refine (blockA _ g s p HG5.out).mono ?_
        rintro e w6 ⟨v6, rfl, hown6, hb6⟩
        obtain ⟨gx, cx, rfl, hgx, nx, mx, curx⟩ := own_shape hown6 (by decide)
        obtain ⟨_, _, hv6, hr6, _, _⟩ := reads_of_own hown6
        cases hv6
        have HR6 := Lib.hid hr6
        have HG6 := Lib.hid (HG5.out.keep hb6 HG5.out.lt)
        have HK6 := Lib.hid (HK5.out.keep hb6 HK5.out.lt)
        have hA6 := Lib.hid (hA5.out.keep hb6 (Nat.le_refl _))
        have hB56 := Lib.hid hb6
        have HCX := Lib.hid curx
        have lx : gx < w6.heap.size := (hown6.lt gx rfl).2
        have z56 := hb6.size
        clear hown6 hb6 hr6 curx
        go_wp2_with fail
        refine (blockA _ g s p HG6.out).mono ?_
        rintro e w7 ⟨v7, rfl, hown7, hb7⟩
        obtain ⟨gy, cy, rfl, hgy, ny, my, cury⟩ := own_shape hown7 (by decide)
        obtain ⟨_, _, hv7, hr7, _, _⟩ := reads_of_own hown7
        cases hv7
        have HRy := Lib.hid hr7
        have HRx := Lib.hid (HR6.out.keep hb7 (Nat.le_refl _))
        have HG7 := Lib.hid (HG6.out.keep hb7 HG6.out.lt)
        have HK7 := Lib.hid (HK6.out.keep hb7 HK6.out.lt)
        have hA7 := Lib.hid (hA6.out.keep hb7 (Nat.le_refl _))
        have hB57 := Lib.hid (hB56.out.trans (hb7.mono z56))
        have HCX7 : Hid (∃ cur : Array Value, w7.heap[gx]? = some (.cells cur 5 (0, 0)) ∧ cur.size = cx) := by
          obtain ⟨cur, h1, h2⟩ := HCX.out
          exact ⟨cur, (hb7.block gx lx).trans h1, h2⟩
        have HCY := Lib.hid cury
        have ly : gy < w7.heap.size := (hown7.lt gy rfl).2
        have z67 := hb7.size
        clear hown7 hb7 hr7 cury
        have hsame : sameB (blockL s p) la = true := by rw [HBL.out]; simp [sameB]
        have HSAME := Lib.hid hsame
        clear hsame
        go_wp2_with fail
        refine (eqBytes _ _ a 256 256 cx ca _ la HRx.out hA7.out (by decide) (by decide)).mono ?_
        rw [HSAME.out]
        rintro e w8 ⟨rfl, hq8⟩
        have HG8 := Lib.hid (HG7.out.quiet hq8)
        have HK8 := Lib.hid (HK7.out.quiet hq8)
        have hA8 := Lib.hid (hA7.out.quiet hq8)
        have HRy8 := Lib.hid (HRy.out.quiet hq8)
        have q8 := Lib.hid hq8
        clear hq8
        go_wp2_with fail
        refine (eqBytes _ _ a 256 256 cy ca _ la HRy8.out hA8.out (by decide) (by decide)).mono ?_
        rw [HSAME.out]
        rintro e w9 ⟨rfl, hq9⟩
        have HG9 := Lib.hid (HG8.out.quiet hq9)
        have HK9 := Lib.hid (HK8.out.quiet hq9)
        have e9 : Hid (w9.heap = w7.heap) := hq9.heap.trans q8.out.heap
        have B59 : Hid (Below w5.heap.size w5 w9) := hB57.out.trans ((q8.out.trans hq9).below _)
        clear hq9
        go_wp2_with fail
        refine (apart2 w9 w5.heap.size gx cx gy cy (by rw [e9.out]; exact HCX7.out) (by rw [e9.out]; exact HCY.out) (by omega) hgx (by omega) nx mx ny my (by rw [e9.out]; omega)).mono ?_
        rintro e w10 ⟨rfl, hb10⟩
        have HG10 := Lib.hid (HG9.out.keep hb10 HG5.out.lt)
        have HK10 := Lib.hid (HK9.out.keep hb10 HK5.out.lt)
        have B10 : Hid (Below w.heap.size w w10) := B5.out.trans ((B59.out.trans hb10).mono B5.out.size)
        clear hb10
        go_wp2_with fail
        refine (tellsC _ g r s p HG10.out HK10.out).mono ?_
        rintro e w11 ⟨rfl, hb11⟩
        have B11 := Lib.hid (B10.out.trans (hb11.mono B10.out.size))
        clear hb11
        go_wp2_with fail
        refine (worksC _).mono ?_
        rintro e w12 ⟨rfl, hb12⟩
        have B12 := Lib.hid (B11.out.trans (hb12.mono B11.out.size))
        clear hb12
        go_wp2
        go_ret
        exact ⟨rfl, B12.out⟩
end Go.Proofs.Ytpafdemnnofihaa
