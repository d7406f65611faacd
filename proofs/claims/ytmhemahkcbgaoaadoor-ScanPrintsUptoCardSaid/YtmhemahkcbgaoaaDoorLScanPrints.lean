/- ScanPrints: of all tokens the line, or the error; they stay as they are. -/
import Derived.Test.YtmhemahkcbgaoaaDoorWorks7
import Derived.Test.YtmhemahkcbgaoaaDoorPrintR
import Derived.Test.YtmhemahkcbgaoaaDoorKept
namespace Go.Proofs.YtmhemahkcbgaoaaDoor
set_option linter.unusedVariables false
set_option linter.unusedSimpArgs false
open Go.RowKit
open Go.Lib hiding intOf
set_option maxHeartbeats 4000000 in
theorem scanPrints_walk (w : World) (a : Option Addr) (n c : Nat) (L : List Tok) (hL : ReadsT w a n L) (hsum : tokSum L ≤ 1048576) (hok : ∀ t ∈ L, TokOk t) (hT : Tabs w) :
    Calls Tryd.prog 4 #[.slice a n c] w fun e w' => e = .returned (.bool true) ∧ Below w.heap.size w w' := by
  have hn : n ≤ 1048576 := by rw [← hL.1]; exact Nat.le_trans (tokSum_len L) hsum
  have H1 := Lib.hid (spareC w a n c L hL hn)
  have HL := Lib.hid hL
  have HT := Lib.hid hT
  have HOK := Lib.hid hok
  have HSUM := Lib.hid hsum
  clear hL hT hok hsum
  go_enter Tryd.func4, Tryd.ntmps4
  go_upto_region 2 with (go_at_call 14; refine (H1.out).mono ?_; rintro e w1 ⟨a1, c1, rfl, hc1, hc1m, hR1, hb1⟩)
  have HR1 := Lib.hid hR1
  have HB1 := Lib.hid hb1
  have HC1 := Lib.hid hc1
  have HC1M := Lib.hid hc1m
  have H2 := Lib.hid (printC w1 a1 n c1 L (hR1.take HL.out.1) HOK.out hn (HT.out.next hb1))
  clear hR1 hb1 hc1 hc1m H1
  obtain ⟨r, hr⟩ : ∃ r, printOf L = r := ⟨_, rfl⟩
  rw [hr] at H2
  have HRR := Lib.hid hr
  clear hr
  cases r
  all_goals
    go_upto_region 3 with (go_at_call 15; refine (H2.out).mono ?_; rintro e w2 ⟨s2, e2, rfl, hb2, hm2⟩)
    obtain ⟨rfl, rfl⟩ := hm2
    have HB2 : Hid (Below w.heap.size w w2) := Lib.hid (HB1.out.trans (hb2.mono HB1.out.size))
    have HB12 := Lib.hid hb2
    have H3 := Lib.hid (printR w2 a n c L (HL.out.keep HB2.out (Nat.le_refl _)) HOK.out HSUM.out (HT.out.next HB2.out))
    rw [HRR.out] at H3
    clear hb2 H2
    go_upto_region 4 with (go_at_call 16; refine (H3.out).mono ?_; rintro e w3 ⟨s3, e3, rfl, hb3, hm3⟩)
    obtain ⟨rfl, rfl⟩ := hm3
    have HB3 : Hid (Below w.heap.size w w3) := Lib.hid (HB2.out.trans (hb3.mono HB2.out.size))
    have HB13 : Hid (Below w1.heap.size w1 w3) := Lib.hid (HB12.out.trans (hb3.mono HB12.out.size))
    have H4 := Lib.hid (keptC w3 a1 n c1 L a c (HR1.out.keep HB13.out (Nat.le_refl _)) (HL.out.keep HB3.out (Nat.le_refl _)) hn HC1.out HC1M.out)
    clear hb3 H3
    go_wp2_with (first
      | (go_at_call 17; refine (H4.out).mono ?_; rintro e w4 ⟨rfl, hb4⟩; have HB4 : Hid (Below w.heap.size w w4) := Lib.hid (HB3.out.trans (hb4.mono HB3.out.size)); have H5 := Lib.hid (worksC w4 (HT.out.next HB4.out)))
      | (go_at_call 13; refine (H5.out).mono ?_; rintro e w5 ⟨rfl, hb5⟩))
    go_ret
    exact ⟨rfl, HB4.out.trans (hb5.mono HB4.out.size)⟩
end Go.Proofs.YtmhemahkcbgaoaaDoor
