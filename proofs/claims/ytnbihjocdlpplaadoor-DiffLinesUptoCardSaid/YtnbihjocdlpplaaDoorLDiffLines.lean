/- DiffLines: the walk. -/
import Derived.Test.YtnbihjocdlpplaaDoorDApart
namespace Go.Proofs.YtnbihjocdlpplaaDoor
set_option linter.unusedVariables false
set_option linter.unusedSimpArgs false
open Go.RowKit
open Go.Lib hiding intOf
def tooL (A C : List (List UInt8)) : Prop := 512 < A.length ∨ 512 < C.length
instance (A C : List (List UInt8)) : Decidable (tooL A C) := inferInstanceAs (Decidable (_ ∨ _))
def linesH (A C : List (List UInt8)) : List Hk := if tooL A C then [] else patchL A C
def linesE (A C : List (List UInt8)) : Int := if tooL A C then 4 else 0
theorem lines_own {w w' : World} {A C : List (List UInt8)} {e : Ending} (h : LinesP w A C e w') : ∃ v B, e = .returned (.tuple #[v, .int .i64 (linesE A C)]) ∧ PatchAt B w' v (linesH A C) ∧ w.heap.size ≤ B ∧ B ≤ w'.heap.size ∧ Below w.heap.size w w' := by
  rcases h with ⟨h, he, hb⟩ | ⟨h, v, B, he, hP, h1, h2, hb⟩
  · have ht : tooL A C := h
    refine ⟨.slice none 0 0, w.heap.size, by rw [he]; unfold linesE; rw [if_pos ht], ?_, Nat.le_refl _, hb.size, hb⟩
    unfold linesH
    rw [if_pos ht]
    exact ⟨none, 0, [], rfl, SW.start _ _ _ (fun p hp => by cases hp), fun x hx => by cases hx⟩
  · have ht : ¬ tooL A C := fun h' => by
      unfold tooL at h'
      omega
    refine ⟨v, B, by rw [he]; unfold linesE; rw [if_neg ht], ?_, h1, h2, hb⟩
    unfold linesH
    rw [if_neg ht]
    exact hP
theorem lines_read {w w' : World} {A C : List (List UInt8)} {e : Ending} (h : LinesQ w A C e w') : ∃ a c, e = .returned (.tuple #[.slice a (linesH A C).length c, .int .i64 (linesE A C)]) ∧ ReadsK w' a (linesH A C).length ((linesH A C).map toI) ∧ Below w.heap.size w w' := by
  rcases h with ⟨h, he, hb⟩ | ⟨h, v, hs, B, he, hS, h1, h2, hb⟩
  · have ht : tooL A C := h
    refine ⟨none, 0, by rw [he]; unfold linesE linesH; rw [if_pos ht, if_pos ht]; rfl, ?_, hb⟩
    unfold linesH
    rw [if_pos ht]
    exact ReadsK.nil _ _
  · have ht : ¬ tooL A C := fun h' => by
      unfold tooL at h'
      omega
    obtain ⟨a, c, rfl⟩ := slice_own hS.own
    have hr := hS.reads
    refine ⟨a, c, by rw [he]; unfold linesE linesH; rw [if_neg ht, if_neg ht, ← hr.1], ?_, hb⟩
    unfold linesH
    rw [if_neg ht]
    exact hr.2
theorem linesH_ok (A C : List (List UInt8)) : (∀ x ∈ linesH A C, (1 ≤ x.1 ∧ x.1 ≤ 3) ∧ x.2 ≠ [] ∧ x.2.length ≤ 1024) ∧ (linesH A C).length ≤ 1024 := by
  unfold linesH
  by_cases h : tooL A C
  · rw [if_pos h]
    exact ⟨fun x hx => (by cases hx), Nat.zero_le _⟩
  · rw [if_neg h]
    have hok := patch_okB A C
    have hm := okB_mem _ 0 hok
    have hl := lines_sides _ (fun x hx => (hm x hx).1)
    rw [(patch_sidesI A C).1, (patch_sidesI A C).2] at hl
    have h3 := len_lines _ (fun x hx => (hm x hx).2)
    unfold tooL at h
    rw [List.length_map] at h3
    refine ⟨fun x hx => ?_, by omega⟩
    have h1 := hm (toI x) (List.mem_map.2 ⟨x, hx, rfl⟩)
    have h2 := linesK_mem (List.mem_map.2 ⟨x, hx, rfl⟩ : toI x ∈ (patchL A C).map toI)
    have e1 : (toI x).1 = (x.1 : Int) := rfl
    have e2 : (toI x).2 = x.2 := rfl
    rw [e1, e2] at h1
    rw [e2] at h2
    exact ⟨⟨by omega, by omega⟩, h1.2, by omega⟩
theorem lenI {H : List Hk} (h : ∀ x ∈ H, x.2.length ≤ 1024) : ∀ x ∈ H.map toI, x.2.length ≤ 4611686018427387904 := fun x hx => by
  obtain ⟨y, hy, rfl⟩ := List.mem_map.1 hx
  have := h y hy
  show y.2.length ≤ _
  omega
set_option maxHeartbeats 4000000 in
set_option maxRecDepth 100000 in
theorem diffLines_walk (w : World) (x : List UInt8) (hx : x.length ≤ 1048576) (y : List UInt8) (hy : y.length ≤ 1048576) (hT : Tabs w) :
    Calls Tryd.prog 3 #[.string (bstr x), .string (bstr y)] w fun e w' => e = .returned (.bool true) ∧ Below w.heap.size w w' := by
  have HT := Lib.hid hT
  have HC := Lib.hid (fun W hW => (linesC W x y (by omega) (by omega) hW).mono (fun e w' h => lines_own h))
  have HR := Lib.hid (fun W => (linesR W x y (by omega) (by omega)).mono (fun e w' h => lines_read h))
  have hok := linesH_ok (splitD x) (splitD y)
  obtain ⟨H, hH⟩ : ∃ H, H = linesH (splitD x) (splitD y) := ⟨_, rfl⟩
  obtain ⟨cd, hcd⟩ : ∃ c, c = linesE (splitD x) (splitD y) := ⟨_, rfl⟩
  rw [← hH, ← hcd] at HC HR
  rw [← hH] at hok
  have HOK := Lib.hid hok
  have hlen := hok.2
  have hcc : (cd == cd) = true := by simp
  clear hT hok hH hcd
  go_enter Tryd.func3, Tryd.ntmps3
  go_upto_region 2 with (go_at_call 10; refine (HC.out w HT.out).mono ?_; rintro e w1 ⟨v1, B1, rfl, hP1, hB1, hz1, hb1⟩; obtain ⟨a1, rfl, hr1⟩ := hP1.reads; have HP1 := Lib.hid hP1; have HR1 := Lib.hid hr1; have HB1 := Lib.hid hb1; have HT1 := Lib.hid (HT.out.next hb1); have HZ1 := Lib.hid hz1; have HL1 := Lib.hid hB1; clear hP1 hr1 hb1 hz1 hB1)
  go_upto_region 3 with (go_at_call 10; refine (HC.out w1 HT1.out).mono ?_; rintro e w2 ⟨v2, B2, rfl, hP2, hB2, hz2, hb2⟩; obtain ⟨a2, rfl, hr2⟩ := hP2.reads; have HP2 := Lib.hid hP2; have HR2 := Lib.hid hr2; have HB2 := Lib.hid hb2; have HL2 := Lib.hid hB2; clear hP2 hr2 hb2 hz2 hB2)
  have s1 := HB1.out.size
  have s2 := HB2.out.size
  go_upto_region 4 with (go_at_call 11; refine (HR.out w2).mono ?_; rintro e w3 ⟨a3, c3, rfl, hr3, hb3⟩; have HR3 := Lib.hid hr3; have HB3 := Lib.hid hb3; clear hr3 hb3)
  have s3 := HB3.out.size
  have R1 : Hid (ReadsK w3 a1 H.length (H.map toI)) := Lib.hid ((HR1.out.keep HB2.out (Nat.le_refl _)).keep HB3.out (Nat.le_refl _))
  have R2 : Hid (ReadsK w3 a2 H.length (H.map toI)) := Lib.hid (HR2.out.keep HB3.out (Nat.le_refl _))
  have HBW : Hid (Below w.heap.size w w3) := Lib.hid (HB1.out.trans ((HB2.out.trans (HB3.out.mono s2)).mono s1))
  have HLI := Lib.hid (lenI (fun x hx => (HOK.out.1 x hx).2.2))
  obtain ⟨n, hn⟩ : ∃ n, n = H.length := ⟨_, rfl⟩
  rw [← hn] at R1 R2 HR3 hlen ⊢
  have HN := Lib.hid hn
  clear hn
  go_wp2_with (first
    | (go_at_call_of 12 (Value.slice a1 n n); refine (eqHunks w3 a1 a3 n n c3 _ R1.out HR3.out (by omega) HLI.out).mono ?_; rintro e w4 ⟨rfl, hq4⟩; have HQ4 := Lib.hid hq4; clear hq4)
    | (go_at_call_of 12 (Value.slice a2 n n); refine (eqHunks w4 a2 a3 n n c3 _ (R2.out.quiet HQ4.out) (HR3.out.quiet HQ4.out) (by omega) HLI.out).mono ?_; rintro e w5 ⟨rfl, hq5⟩; have HQ5 := Lib.hid (HQ4.out.trans hq5); clear hq5)
    | (go_at_call 13; refine (apartC w1 w5 B1 B2 _ _ H H (HN.out ▸ HP1.out) (HB2.out.trans ((HB3.out.trans (HQ5.out.below _)).mono s2)) (HN.out ▸ (HP2.out.keep (HB3.out.trans ((HQ5.out.below _).mono s3)))) HZ1.out HL2.out (fun x hx => (HOK.out.1 x hx).2.1) (fun x hx => (HOK.out.1 x hx).2.1) (by rw [← HN.out]; omega) (by rw [← HN.out]; omega) (fun x hx => by have := (HOK.out.1 x hx).2.2; omega) (fun x hx => by have := (HOK.out.1 x hx).2.2; omega) (fun x hx => by have := (HOK.out.1 x hx).1; omega)).mono ?_; rintro e w6 ⟨rfl, hb6⟩; have HB6 := Lib.hid ((HBW.out.trans (HQ5.out.below _)).trans (hb6.mono HL1.out)); clear hb6)
    | (go_at_call 14; refine (worksC w6 (HT.out.next HB6.out)).mono ?_; rintro e w7 ⟨rfl, hb7⟩; have HB7 := Lib.hid (HB6.out.trans (hb7.mono HB6.out.size)); clear hb7))
  go_ret
  exact ⟨rfl, HB7.out⟩
end Go.Proofs.YtnbihjocdlpplaaDoor
