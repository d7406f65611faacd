/- The lines here, by the program. -/
import Derived.Test.YtnbihjocdlpplaaDoorDSplitC
namespace Go.Proofs.YtnbihjocdlpplaaDoor
set_option linter.unusedVariables false
set_option linter.unusedSimpArgs false
open Go.RowKit
open Go.Lib
set_option maxHeartbeats 4000000 in
theorem splitC (w : World) (l : List UInt8) (hm : l.length ≤ 67108864) (hT : Tabs w) :
    Calls Tryd.prog 38 #[.string (bstr l)] w (SplitQ w l) := by
  have hA := splitAC w l hm hT
  obtain ⟨x, hx, hl⟩ := splitA_last l
  have hlen := splitA_len l
  obtain ⟨q, hq⟩ : ∃ q, (splitA l).length = q + 1 := ⟨(splitA l).length - 1, by omega⟩
  rw [hq] at hx hlen hA
  have HA := Lib.hid hA
  have HX := Lib.hid hx
  have HL := Lib.hid hl
  have HQ := Lib.hid hq
  have hq2 : q ≤ 67108865 := by omega
  clear hx hl hq hlen hT hA
  go_enter Tryd.func38, Tryd.ntmps38
  go_upto_region 2 with (go_at_call 58; refine (HA.out).mono ?_; rintro e w1 ⟨a1, n1, c1, rfl, hn1, hc1, hm1, hR1, hb1⟩)
  try subst hn1
  obtain ⟨b, off, y, rfl, hb, hy, hcell⟩ := hR1.at (k := q) (by omega)
  have hxy : y = x := by
    have := HX.out
    simp only [Nat.add_sub_cancel] at this
    rw [this] at hy
    exact (Option.some.inj hy).symm
  subst hxy
  have HR1 := Lib.hid hR1
  have HB1 := Lib.hid hb1
  have hcm : c1 ≤ 9223372036854775807 := by unfold maxLen at hm1; omega
  have HM1 := Lib.hid hm1
  have hqi : ((q : Int) + 1) - 1 = (q : Int) := by omega
  clear hb1 hR1 hm1 hy
  by_cases h0 : y = []
  · subst h0
    have HD := Lib.hid (splitD_take l (by rw [HL.out]))
    go_wp2
    go_ret
    refine ⟨_, _, _, rfl, ?_, by omega, HM1.out, ?_, HB1.out⟩
    · rw [HD.out, List.length_take, HQ.out]; omega
    · rw [HD.out, HQ.out]; exact HR1.out.take _ (by omega)
  · have HD := Lib.hid (splitD_all l (by rw [HL.out]; simpa using h0))
    have he : y.isEmpty = false := by cases y with | nil => exact absurd rfl h0 | cons _ _ => rfl
    clear h0
    go_wp2
    go_ret
    refine ⟨_, _, _, rfl, ?_, by omega, HM1.out, ?_, HB1.out⟩
    · rw [HD.out, HQ.out]
    · rw [HD.out]; exact HR1.out
end Go.Proofs.YtnbihjocdlpplaaDoor
