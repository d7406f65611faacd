/- ScanUnquotes: of every text what it stands for, or the fault and its place. -/
import Derived.Test.YtmhemahkcbgaoaaDoorWorks7
import Derived.Test.YtmhemahkcbgaoaaDoorUnqD
import Derived.Test.YtmhemahkcbgaoaaDoorFault
namespace Go.Proofs.YtmhemahkcbgaoaaDoor
set_option linter.unusedVariables false
set_option linter.unusedSimpArgs false
open Go.RowKit
open Go.Lib hiding intOf
theorem unquote_code {l : List UInt8} {c p : Nat} (h : unquoteOf l = .error (c, p)) : c ≠ 0 := by
  rcases unquote_cases l with ⟨_, hu⟩ | ⟨_, _, hu⟩ | ⟨_, _, _, _, hu⟩ | ⟨_, _, _, hu⟩ | ⟨_, _, _, _, hu⟩ | ⟨_, _, _, _, hu⟩ <;> (rw [hu] at h; cases h) <;> omega
theorem int_ne0 {c : Nat} (h : c ≠ 0) : ((c : Int) != 0) = true := by rw [bne_iff_ne]; omega
set_option maxHeartbeats 4000000 in
theorem scanUnquotes_walk (w : World) (l : List UInt8) (hm : l.length ≤ 140737488351232) (hT : Tabs w) (hE : ErrT w) :
    Calls Tryd.prog 9 #[.string (bstr l)] w fun e w' => e = .returned (.bool true) ∧ Below w.heap.size w w' := by
  have HR := Lib.hid (fun w1 => unquoteR w1 l (by omega))
  have HC := Lib.hid (unquoteC w l (by omega) hT)
  have HT := Lib.hid hT
  have HE := Lib.hid hE
  obtain ⟨r, hr⟩ : ∃ r, unquoteOf l = r := ⟨_, rfl⟩
  rw [hr] at HR HC
  have HRR := Lib.hid hr
  clear hT hE hm hr
  rcases r with ⟨c, p⟩ | s
  · have hc := unquote_code HRR.out
    have HC0 := Lib.hid (int_ne0 hc)
    clear hc
    go_enter Tryd.func9, Tryd.ntmps9
    go_wp2_with (first
      | (go_at_call 19; refine (HC.out).mono ?_; rintro e w1 ⟨t1, err1, rfl, hb1, rfl, g1, rfl, hg1, hR1⟩)
      | (go_at_call 23; refine (HR.out _).mono ?_; rintro e w2 ⟨t2, c2, p2, rfl, hb2, rfl, rfl, rfl⟩; have hb3 := hb1.trans (hb2.mono hb1.size); have HF := Lib.hid (isFault_hit w2 g1 (c : Int) (p : Int) (c : Int) (p : Int) true true true (by simp) (by simp) HC0.out (hR1.keep hb2 hR1.lt) (HE.out.next hb3)))
      | (go_at_call 21; refine (HF.out).mono ?_; rintro e w3 ⟨rfl, hb4⟩; have hb5 := hb3.trans (hb4.mono hb3.size); have H3 := Lib.hid (worksC w3 (HT.out.next hb5)))
      | (go_at_call 13; refine (H3.out).mono ?_; rintro e w4 ⟨rfl, hb6⟩))
    go_ret
    exact ⟨rfl, hb5.trans (hb6.mono hb5.size)⟩
  · go_enter Tryd.func9, Tryd.ntmps9
    go_wp2_with (first
      | (go_at_call 19; refine (HC.out).mono ?_; rintro e w1 ⟨t1, err1, rfl, hb1, rfl, rfl⟩)
      | (go_at_call 23; refine (HR.out _).mono ?_; rintro e w2 ⟨t2, c2, p2, rfl, hb2, rfl, rfl, rfl⟩; have hb3 := hb1.trans (hb2.mono hb1.size); have HF := Lib.hid (isFault_nil w2 0 0))
      | (go_at_call 21; refine (HF.out).mono ?_; rintro e w3 ⟨rfl, hww⟩; obtain rfl := hww.symm; have H3 := Lib.hid (worksC w2 (HT.out.next hb3)))
      | (go_at_call 13; refine (H3.out).mono ?_; rintro e w4 ⟨rfl, hb6⟩))
    go_ret
    exact ⟨rfl, hb3.trans (hb6.mono hb3.size)⟩
end Go.Proofs.YtmhemahkcbgaoaaDoor
