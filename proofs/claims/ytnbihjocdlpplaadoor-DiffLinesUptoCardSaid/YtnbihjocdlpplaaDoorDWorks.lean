/- The three lines that the statements end with; what a patch of two texts fits. -/
import Derived.Test.YtnbihjocdlpplaaDoorDPrintR
import Derived.Test.YtnbihjocdlpplaaDoorDLines
namespace Go.Proofs.YtnbihjocdlpplaaDoor
set_option linter.unusedVariables false
set_option linter.unusedSimpArgs false
open Go.RowKit
open Go.Lib hiding intOf
theorem fit_of {X : List HkI} (h : okB 0 X = true) (h2 : (sideI 2 X).length ≤ 512) (h3 : (sideI 3 X).length ≤ 512) (hb : (sideI 2 X).flatten.length + (sideI 3 X).flatten.length ≤ 67108864) : Fit X := by
  have m1 := fun x hx => (okB_mem X 0 h x hx).1
  have l1 := lines_sides X m1
  have l2 := bytes_sides X m1
  have l3 := len_lines X (fun x hx => (okB_mem X 0 h x hx).2)
  exact ⟨by omega, by omega, by omega⟩
theorem whole_split (l : List UInt8) (h : (splitD l).length ≤ 512) : wholeB (splitD l) = true := by
  unfold wholeB
  rw [decide_eq_true h, splitD_flat]
  simp
theorem patch_sidesI (A C : List (List UInt8)) : sideI 2 ((patchL A C).map toI) = A ∧ sideI 3 ((patchL A C).map toI) = C := by
  have h := patch_sides A C
  have e2 := sideI_to 2 (patchL A C)
  have e3 := sideI_to 3 (patchL A C)
  exact ⟨e2.trans h.1, e3.trans h.2⟩
theorem patch_okB (A C : List (List UInt8)) : okB 0 ((patchL A C).map toI) = true := (okB_to _ 0).2 (patchOf_ok _)
theorem patch_check {x y : List UInt8} (hx : (splitD x).length ≤ 512) (hy : (splitD y).length ≤ 512) : checkB ((patchL (splitD x) (splitD y)).map toI) = true := by
  unfold checkB
  rw [patch_okB, (patch_sidesI _ _).1, (patch_sidesI _ _).2, whole_split x hx, whole_split y hy]
  rfl
theorem patch_fit {x y : List UInt8} (hx : (splitD x).length ≤ 512) (hy : (splitD y).length ≤ 512) (hb : x.length + y.length ≤ 67108864) : Fit ((patchL (splitD x) (splitD y)).map toI) := by
  refine fit_of (patch_okB _ _) ?_ ?_ ?_
  · rw [(patch_sidesI _ _).1]; exact hx
  · rw [(patch_sidesI _ _).2]; exact hy
  · rw [(patch_sidesI _ _).1, (patch_sidesI _ _).2, splitD_flat, splitD_flat]; exact hb
def wa : List UInt8 := [97, 10, 98, 10, 99, 10]
def wb : List UInt8 := [97, 10, 120, 10, 99, 10]
def wp_ : List UInt8 := [32, 97, 10, 45, 98, 10, 43, 120, 10, 32, 99, 10]
def workH : List Hk := [(1, [[97, 10]]), (2, [[98, 10]]), (3, [[120, 10]]), (1, [[99, 10]])]
def workX : List HkI := [(1, [[97, 10]]), (2, [[98, 10]]), (3, [[120, 10]]), (1, [[99, 10]])]
theorem work_a : splitD wa = [[97, 10], [98, 10], [99, 10]] := by decide +kernel
theorem work_b : splitD wb = [[97, 10], [120, 10], [99, 10]] := by decide +kernel
theorem work_patch : patchL (splitD wa) (splitD wb) = workH := by
  rw [work_a, work_b]
  unfold patchL
  have e : script [[97, 10], [98, 10], [99, 10]] [[97, 10], [120, 10], [99, 10]] = [.same [97, 10], .gone [98, 10], .come [120, 10], .same [99, 10]] := by
    simp [script, dist]
  rw [e]
  rfl
theorem work_X : workH.map toI = workX := rfl
theorem work_check : checkB workX = true := by decide +kernel
theorem work_apply : applyE wa workX = .returned (.tuple #[.string (bstr wb), .int .i64 0]) := by
  unfold applyE
  rw [if_pos (by decide +kernel)]
  rfl
theorem work_print : printE workX = .returned (.tuple #[.string (bstr wp_), .int .i64 0]) := by
  unfold printE
  rw [if_pos work_check, show printK workX = wp_ by decide +kernel]
theorem work_dist : distI workX = 2 := by decide +kernel
theorem work_fit : Fit workX := by
  unfold Fit
  decide +kernel
set_option maxHeartbeats 4000000 in
set_option maxRecDepth 100000 in
theorem worksC (w : World) (hT : Tabs w) :
    Calls Tryd.prog 14 #[] w fun e w' => e = .returned (.bool true) ∧ Below w.heap.size w w' := by
  have HT := Lib.hid hT
  have HL := Lib.hid (linesC w wa wb (by decide) (by decide) hT)
  clear hT
  go_enter Tryd.func14, Tryd.ntmps14
  go_wp2_with (first
    | (go_at_call 10; refine (HL.out).mono ?_; intro e w1 hq; obtain ⟨v1, B1, he, hP, hB1, hz1, hb1⟩ : ∃ v B, e = .returned (.tuple #[v, .int .i64 0]) ∧ PatchAt B w1 v workH ∧ w.heap.size ≤ B ∧ B ≤ w1.heap.size ∧ Below w.heap.size w w1 := (by { rcases hq with ⟨h, _⟩ | ⟨_, v, B, h1, h2, h3, h4, h5⟩; { rw [work_a, work_b] at h; simp at h }; { rw [work_patch] at h2; exact ⟨v, B, h1, h2, h3, h4, h5⟩ } }); subst he; obtain ⟨a1, rfl, hR1⟩ := hP.reads; rw [work_X] at hR1; have HR1 := Lib.hid hR1; have HB1 := Lib.hid hb1; have HT1 := Lib.hid (HT.out.next hb1); clear hq hP hR1 hb1 hB1 hz1; rw [show workH.length = 4 from rfl] at HR1 ⊢)
    | (go_at_call 22; refine (applyC w1 wa a1 4 4 workX HR1.out work_fit HT1.out).mono ?_; rw [work_apply]; rintro e w2 ⟨rfl, hb2⟩; have HR2 := Lib.hid (HR1.out.keep hb2 (Nat.le_refl _)); have HB2 := Lib.hid (HB1.out.trans (hb2.mono HB1.out.size)); have HT2 := Lib.hid (HT1.out.next hb2); clear hb2)
    | (go_at_call 33; refine (printC w2 a1 4 4 workX HR2.out work_fit HT2.out).mono ?_; rw [work_print]; rintro e w3 ⟨rfl, hb3⟩; have HR3 := Lib.hid (HR2.out.keep hb3 (Nat.le_refl _)); have HB3 := Lib.hid (HB2.out.trans (hb3.mono HB2.out.size)); clear hb3)
    | (go_at_call 17; refine (distC w3 a1 4 4 workX HR3.out work_fit).mono ?_; rw [work_dist]; rintro e w4 ⟨rfl, hb4⟩; have HB4 := Lib.hid (HB3.out.trans (hb4.mono HB3.out.size)); clear hb4))
  go_ret
  exact ⟨rfl, HB4.out⟩
end Go.Proofs.YtnbihjocdlpplaaDoor
