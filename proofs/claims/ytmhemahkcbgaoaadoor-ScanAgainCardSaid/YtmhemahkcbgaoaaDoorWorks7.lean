/- works of chapter 07: a line of three tokens. -/
import Derived.Test.YtmhemahkcbgaoaaDoorPrintB
namespace Go.Proofs.YtmhemahkcbgaoaaDoor
set_option linter.unusedVariables false
set_option linter.unusedSimpArgs false
open Go.RowKit
open Go.Lib hiding intOf
def workL : List UInt8 := [97, 32, 49, 50, 32, 34, 98, 92, 110, 34]
def workT : List Tok := [⟨1, 0, [97], 0⟩, ⟨2, 2, [], 12⟩, ⟨3, 5, [98, 10], 0⟩]
theorem work_scan : scanOf workL = .ok workT := by
  kernel_rfl
theorem itoa12 : itoa 12 = [49, 50] := by
  simp [itoa, decDigits]
theorem work_print : printOf workT = .ok workL := by
  have h1 : printed ⟨1, 0, [97], 0⟩ = some [97] := by kernel_rfl
  have h2 : printed ⟨2, 2, [], 12⟩ = some [49, 50] := by unfold printed; simp [itoa12]
  have h3 : printed ⟨3, 5, [98, 10], 0⟩ = some [34, 98, 92, 110, 34] := by kernel_rfl
  have hm : workT.mapM printed = some [[97], [49, 50], [34, 98, 92, 110, 34]] := by
    unfold workT
    simp [h1, h2, h3]
  unfold printOf
  rw [hm]
  rfl
theorem work_ok : ∀ t ∈ workT, TokOk t := by
  intro t ht
  simp only [workT, List.mem_cons, List.not_mem_nil, or_false] at ht
  rcases ht with rfl | rfl | rfl <;> exact ⟨by decide, by decide, by decide⟩
set_option maxHeartbeats 4000000 in
theorem worksC (w : World) (hT : Tabs w) : Calls Tryd.prog 13 #[] w fun e w' => e = .returned (.bool true) ∧ Below w.heap.size w w' := by
  have hS := scanC w workL (by decide) hT
  rw [work_scan] at hS
  have HS := Lib.hid hS
  clear hS
  go_enter Tryd.func13, Tryd.ntmps13
  go_upto_region 2 with (go_at_call 18; refine (HS.out).mono ?_; rintro e w1 ⟨v, err, rfl, hb1, rfl, hO⟩; obtain ⟨a, c, hv, hR, _, _⟩ := readsT_own hO; change v = .slice a 3 c at hv; change ReadsT w1 a 3 workT at hR; subst hv)
  have hP := printC w1 a 3 c workT hR work_ok (by decide) (hT.next hb1)
  rw [work_print] at hP
  have HP := Lib.hid hP
  have HR := Lib.hid hR
  have HB := Lib.hid hb1
  clear hP hO hR hb1
  go_upto_region 3 with (go_at_call 15; refine (HP.out).mono ?_; rintro e w2 ⟨s, c0, rfl, hb2, rfl, rfl⟩)
  have hR2 := HR.out.keep hb2 (Nat.le_refl _)
  obtain ⟨b, off, x0, rfl, hbl, hx0, p0, p1, p2, p3⟩ := hR2.at (i := 0) (by decide)
  obtain ⟨b', off', x1, e1, hbl', hx1, q0, q1, q2, q3⟩ := hR2.at (i := 1) (by decide)
  obtain ⟨b'', off'', x2, e2, hbl'', hx2, r0, r1, r2, r3⟩ := hR2.at (i := 2) (by decide)
  cases e1
  cases e2
  cases hx0
  cases hx1
  cases hx2
  simp only [Nat.zero_mul, Nat.one_mul, Nat.reduceMul, Nat.add_zero, Nat.add_assoc, Nat.reduceAdd] at p0 p1 p2 p3 q0 q1 q2 q3 r0 r1 r2 r3
  clear hR2 HR HP
  go_wp2
  go_ret
  exact ⟨rfl, HB.out.trans (hb2.mono HB.out.size)⟩
end Go.Proofs.YtmhemahkcbgaoaaDoor
