/- ScanQuotes: of all bytes the one form. -/
import Derived.Test.YtmhemahkcbgaoaaDoorWorks7
namespace Go.Proofs.YtmhemahkcbgaoaaDoor
open Go.RowKit
open Go.Lib hiding intOf
set_option maxHeartbeats 4000000 in
theorem scanQuotes_walk (w : World) (l : List UInt8) (hm : l.length ≤ 1048576) (hT : Tabs w) :
    Calls Tryd.prog 3 #[.string (bstr l)] w fun e w' => e = .returned (.bool true) ∧ Below w.heap.size w w' := by
  have H1 := Lib.hid (quoteC w l hm hT)
  have HT := Lib.hid hT
  have HM := Lib.hid hm
  clear hT hm
  go_enter Tryd.func3, Tryd.ntmps3
  go_wp2_with (first
    | (go_at_call 11; refine (H1.out).mono ?_; rintro e w1 ⟨rfl, hb1⟩; have H2 := Lib.hid (quoteR w1 l HM.out (HT.out.next hb1)))
    | (go_at_call 12; refine (H2.out).mono ?_; rintro e w2 ⟨rfl, hb2⟩; have hb3 := hb1.trans (hb2.mono hb1.size); have H3 := Lib.hid (worksC w2 (HT.out.next hb3)))
    | (go_at_call 13; refine (H3.out).mono ?_; rintro e w3 ⟨rfl, hb4⟩))
  go_ret
  exact ⟨rfl, hb3.trans (hb4.mono hb3.size)⟩
end Go.Proofs.YtmhemahkcbgaoaaDoor
