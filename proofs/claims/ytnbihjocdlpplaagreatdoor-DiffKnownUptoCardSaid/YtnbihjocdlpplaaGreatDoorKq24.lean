/- Texts joined, one behind the other (LDiffPatches, DBackP, DStepP, DHist). -/
import Derived.Test.YtnbihjocdlpplaaGreatDoorKq23
import Derived.Deep.RegionHeld3
/- DiffPatches: the walk. -/
namespace Go.Proofs.YtnbihjocdlpplaaGreatDoor
set_option linter.unusedVariables false
set_option linter.unusedSimpArgs false
open Go.RowKit
open Go.Lib hiding intOf
theorem sum_fit {X : List HkI} (h : hunkSum X ≤ 1048576) : Fit X := by
  have := hunkSum_fit X
  exact ⟨by omega, by omega, by omega⟩
def backH (X : List HkI) : List Hk := if checkB X = true then backI X else []
theorem opsB_lines (X : List HkI) (h : ∀ x ∈ X, 1 ≤ x.1 ∧ x.1 ≤ 3) : (opsB X).flatMap lineA = sideI 3 X ∧ (opsB X).flatMap lineB = sideI 2 X := by
  induction X with
  | nil => exact ⟨rfl, rfl⟩
  | cons x X ih =>
    obtain ⟨i1, i2⟩ := ih (fun y hy => h y (List.mem_cons_of_mem _ hy))
    have hk := h x (by simp)
    have hrow : ∀ L : List (List UInt8), (L.map (opB x.1)).flatMap lineA = (if x.1 = 1 ∨ x.1 = 3 then L else []) ∧ (L.map (opB x.1)).flatMap lineB = (if x.1 = 1 ∨ x.1 = 2 then L else []) := by
      intro L
      have hk3 : x.1 = 1 ∨ x.1 = 2 ∨ x.1 = 3 := by omega
      induction L with
      | nil => simp
      | cons s L ihL =>
        rw [List.map_cons, List.flatMap_cons, List.flatMap_cons, ihL.1, ihL.2]
        rcases hk3 with e | e | e <;> simp [e, opB, lineA, lineB]
    rw [opsB_cons, List.flatMap_append, List.flatMap_append, i1, i2, (hrow x.2).1, (hrow x.2).2]
    unfold sideI
    rw [List.flatMap_cons, List.flatMap_cons]
    exact ⟨rfl, rfl⟩
theorem back_okB (X : List HkI) : okB 0 ((backI X).map toI) = true := (okB_to _ 0).2 (patchOf_ok _)
theorem back_sides {X : List HkI} (h : okB 0 X = true) : sideI 2 ((backI X).map toI) = sideI 3 X ∧ sideI 3 ((backI X).map toI) = sideI 2 X := by
  have hl := opsB_lines X (fun x hx => (okB_mem X 0 h x hx).1)
  have hp := patchOf_sides (opsB X)
  have e2 := sideI_to 2 (backI X)
  have e3 := sideI_to 3 (backI X)
  exact ⟨(e2.trans hp.1).trans hl.1, (e3.trans hp.2).trans hl.2⟩
theorem check_parts {X : List HkI} (h : checkB X = true) : okB 0 X = true ∧ wholeB (sideI 2 X) = true ∧ wholeB (sideI 3 X) = true := by
  unfold checkB at h
  rw [Bool.and_eq_true, Bool.and_eq_true] at h
  exact ⟨h.1.1, h.1.2, h.2⟩
theorem back_check {X : List HkI} (h : checkB X = true) : checkB ((backI X).map toI) = true := by
  obtain ⟨h1, h2, h3⟩ := check_parts h
  unfold checkB
  rw [back_okB, (back_sides h1).1, (back_sides h1).2, h2, h3]
  rfl
theorem hunks_small {H : List Hk} (h : checkB (H.map toI) = true) : (∀ x ∈ H, (1 ≤ x.1 ∧ x.1 ≤ 3) ∧ x.2 ≠ [] ∧ x.2.length ≤ 1024) ∧ H.length ≤ 1024 := by
  obtain ⟨h1, _, _⟩ := check_parts h
  have hm := okB_mem _ 0 h1
  have hl := check_lines h
  have h3 := len_lines _ (fun x hx => (hm x hx).2)
  rw [List.length_map] at h3
  refine ⟨fun x hx => ?_, by omega⟩
  have q1 := hm (toI x) (List.mem_map.2 ⟨x, hx, rfl⟩)
  have q2 := linesK_mem (List.mem_map.2 ⟨x, hx, rfl⟩ : toI x ∈ H.map toI)
  have e1 : (toI x).1 = (x.1 : Int) := rfl
  have e2 : (toI x).2 = x.2 := rfl
  rw [e1, e2] at q1
  rw [e2] at q2
  exact ⟨⟨by omega, by omega⟩, q1.2, by omega⟩
theorem backH_ok (X : List HkI) : (∀ x ∈ backH X, (1 ≤ x.1 ∧ x.1 ≤ 3) ∧ x.2 ≠ [] ∧ x.2.length ≤ 1024) ∧ (backH X).length ≤ 1024 := by
  unfold backH
  by_cases h : checkB X = true
  · rw [if_pos h]
    exact hunks_small (back_check h)
  · rw [if_neg h]
    exact ⟨fun x hx => (by cases hx), Nat.zero_le _⟩
theorem back_own {w w' : World} {X : List HkI} {e : Ending} (h : BackP w X e w') : ∃ v B, e = .returned (.tuple #[v, .int .i64 (errP (checkB X))]) ∧ PatchAt B w' v (backH X) ∧ w.heap.size ≤ B ∧ B ≤ w'.heap.size ∧ Below w.heap.size w w' := by
  rcases h with ⟨h, he, hb⟩ | ⟨h, v, B, he, hP, h1, h2, hb⟩
  · refine ⟨.slice none 0 0, w.heap.size, by rw [he, h]; rfl, ?_, Nat.le_refl _, hb.size, hb⟩
    unfold backH
    rw [h]
    exact ⟨none, 0, [], rfl, SW.start _ _ _ (fun p hp => by cases hp), fun x hx => by cases hx⟩
  · refine ⟨v, B, by rw [he, h]; rfl, ?_, h1, h2, hb⟩
    unfold backH
    rw [if_pos h]
    exact hP
theorem back_read {w w' : World} {X : List HkI} {e : Ending} (h : BackQ w X e w') : ∃ a c, e = .returned (.tuple #[.slice a (backH X).length c, .int .i64 (errP (checkB X))]) ∧ ReadsK w' a (backH X).length ((backH X).map toI) ∧ Below w.heap.size w w' := by
  rcases h with ⟨h, he, hb⟩ | ⟨h, a, c, he, hr, hb⟩
  · refine ⟨none, 0, by rw [he]; unfold backH; rw [h]; rfl, ?_, hb⟩
    unfold backH
    rw [h]
    exact ReadsK.nil _ _
  · refine ⟨a, c, by rw [he]; unfold backH; rw [if_pos h, h]; rfl, ?_, hb⟩
    unfold backH
    rw [if_pos h]
    exact hr
theorem apply_parts (s : List UInt8) (X : List HkI) : ∃ T E, applyE s X = .returned (.tuple #[.string (bstr T), .int .i64 E]) := by
  unfold applyE
  split
  · exact ⟨_, _, rfl⟩
  · exact ⟨_, _, rfl⟩
set_option maxHeartbeats 8000000 in
set_option maxRecDepth 100000 in
theorem diffPatches_walk (w : World) (a : Option Addr) (n c : Nat) (X : List HkI) (hX : ReadsK w a n X) (hnc : n ≤ c) (hcm : c ≤ maxLen) (hs : hunkSum X ≤ 1048576) (s : List UInt8) (hsl : s.length ≤ 1048576) (hT : Tabs w) :
    Calls Tryz.prog 7 #[.slice a n c, .string (bstr s)] w fun e w' => e = .returned (.bool true) ∧ Below w.heap.size w w' := by
  have HF := Lib.hid (sum_fit hs)
  have HT := Lib.hid hT
  have HX := Lib.hid hX
  have hok := backH_ok X
  have hn : n ≤ 1048576 := by rw [← hX.len]; have := hunkSum_fit X; omega
  obtain ⟨cd, hcd⟩ : ∃ cd, cd = errP (checkB X) := ⟨_, rfl⟩
  obtain ⟨ds, hds⟩ : ∃ ds : Int, ds = (distI X : Int) := ⟨_, rfl⟩
  obtain ⟨T, E, hTE⟩ := apply_parts s X
  obtain ⟨H, hH⟩ : ∃ H, H = backH X := ⟨_, rfl⟩
  have HS := Lib.hid (spareC w a n c X hX HF.out)
  have HCK := Lib.hid (fun W a c (hR : ReadsK W a n X) hW => checkC W a n c X hR HF.out hW)
  have HCR := Lib.hid (fun W a c (hR : ReadsK W a n X) => checkR W a n c X hR HF.out)
  have HDK := Lib.hid (fun W a c (hR : ReadsK W a n X) => distC W a n c X hR HF.out)
  have HDR := Lib.hid (fun W a c (hR : ReadsK W a n X) => distR W a n c X hR HF.out)
  have HAK := Lib.hid (fun W a c (hR : ReadsK W a n X) hW => applyC W s a n c X hR HF.out hW)
  have HAR := Lib.hid (fun W a c (hR : ReadsK W a n X) => applyR W s a n c X hR HF.out)
  have HBK := Lib.hid (fun W a c (hR : ReadsK W a n X) hW => (backC W a n c X hR HF.out hW).mono (fun e w' h => back_own h))
  have HBR := Lib.hid (fun W a c (hR : ReadsK W a n X) => (backR W a n c X hR HF.out).mono (fun e w' h => back_read h))
  rw [← hcd] at HCK HCR HBK HBR
  rw [← hds] at HDK HDR
  rw [hTE] at HAK HAR
  rw [← hH] at HBK HBR hok
  have HOK := Lib.hid hok
  have hHl := hok.2
  have HLI := Lib.hid (lenI (fun x hx => (HOK.out.1 x hx).2.2))
  have b1 : (cd != cd) = false := by simp
  have b2 : (ds != ds) = false := by simp
  have b3 : (T != T) = false := by simp
  have b3' : (T == T) = true := by simp
  have b4 : (E != E) = false := by simp
  have b5 : (cd == cd) = true := by simp
  clear hT hX hok hcd hds hTE hH hs hsl
  go_enter Tryz.func7, Tryz.ntmps7
  go_upto_region 2 with (go_at_call 25; refine (HS.out).mono ?_; rintro e w1 ⟨a1, c1, rfl, hS1, hb1⟩; have HS1 := Lib.hid hS1; have HB1 := Lib.hid hb1; clear hS1 hb1)
  have hk : ∀ W, Below w1.heap.size w1 W → SpareK W a1 n c1 X ∧ ReadsK W a1 n X ∧ ReadsK W a n X ∧ Tabs W ∧ Below w.heap.size w W := fun W hW => by
    have h1 := HS1.out.keep hW
    have h2 : Below w.heap.size w W := HB1.out.trans (hW.mono HB1.out.size)
    exact ⟨h1, h1.reads, HX.out.keep h2 (Nat.le_refl _), HT.out.next h2, h2⟩
  have HK := Lib.hid hk
  have HZ := Lib.hid (Below.refl w1.heap.size w1)
  clear hk
  go_upto_region 4 with (first
    | (go_at_call 18; refine (HCK.out w1 a1 c1 (HK.out w1 HZ.out).2.1 (HK.out w1 HZ.out).2.2.2.1).mono ?_; rintro e w2 ⟨rfl, hb⟩; have HB2 := Lib.hid hb; clear hb)
    | (go_at_call 26; refine (HCR.out w2 a c (HK.out w2 HB2.out).2.2.1).mono ?_; rintro e w3 ⟨rfl, hb⟩; have HB3 := Lib.hid (below_next HB2.out (Nat.le_refl _) hb); clear hb)
    | (go_at_call 21; refine (HDK.out w3 a1 c1 (HK.out w3 HB3.out).2.1).mono ?_; rintro e w4 ⟨rfl, hb⟩; have HB4 := Lib.hid (below_next HB3.out (Nat.le_refl _) hb); clear hb)
    | (go_at_call 27; refine (HDR.out w4 a c (HK.out w4 HB4.out).2.2.1).mono ?_; rintro e w5 ⟨rfl, hb⟩; have HB5 := Lib.hid (below_next HB4.out (Nat.le_refl _) hb); clear hb))
  go_upto_region 8 with (first
    | (go_at_call 16; refine (HAK.out w5 a1 c1 (HK.out w5 HB5.out).2.1 (HK.out w5 HB5.out).2.2.2.1).mono ?_; rintro e w6 ⟨rfl, hb⟩; have HB6 := Lib.hid (below_next HB5.out (Nat.le_refl _) hb); clear hb)
    | (go_at_call 28; refine (HAR.out w6 a c (HK.out w6 HB6.out).2.2.1).mono ?_; rintro e w7 ⟨rfl, hb⟩; have HB7 := Lib.hid (below_next HB6.out (Nat.le_refl _) hb); clear hb))
  go_upto_region 9 with (go_at_call 17; refine (HBK.out w7 a1 c1 (HK.out w7 HB7.out).2.1 (HK.out w7 HB7.out).2.2.2.1).mono ?_; rintro e w8 ⟨v8, C8, rfl, hP, hL, hz, hb⟩; obtain ⟨a8, rfl, hr⟩ := hP.reads; have HP8 := Lib.hid hP; have HR8 := Lib.hid hr; have HL8 := Lib.hid hL; have HZ8 := Lib.hid hz; have Hb8 := Lib.hid hb; have HB8 := Lib.hid (below_next HB7.out (Nat.le_refl _) hb); clear hP hr hL hz hb)
  go_upto_region 10 with (go_at_call 17; refine (HBK.out w8 a1 c1 (HK.out w8 HB8.out).2.1 (HK.out w8 HB8.out).2.2.2.1).mono ?_; rintro e w9 ⟨v9, C9, rfl, hP, hL, hz, hb⟩; obtain ⟨a9, rfl, hr⟩ := hP.reads; have HP9 := Lib.hid hP; have HR9 := Lib.hid hr; have HL9 := Lib.hid hL; have HZ9 := Lib.hid hz; have Hb9 := Lib.hid hb; have HB9 := Lib.hid (below_next HB8.out (Nat.le_refl _) hb); clear hP hr hL hz hb)
  go_upto_region 11 with (go_at_call 29; refine (HBR.out w9 a c (HK.out w9 HB9.out).2.2.1).mono ?_; rintro e w10 ⟨a10, c10, rfl, hr, hb⟩; have HR10 := Lib.hid hr; have Hb10 := Lib.hid hb; have HB10 := Lib.hid (below_next HB9.out (Nat.le_refl _) hb); clear hr hb)
  have R8 : Hid (ReadsK w10 a8 H.length (H.map toI)) := Lib.hid ((HR8.out.keep Hb9.out (Nat.le_refl _)).keep Hb10.out (Nat.le_refl _))
  have R9 : Hid (ReadsK w10 a9 H.length (H.map toI)) := Lib.hid (HR9.out.keep Hb10.out (Nat.le_refl _))
  have s8 := Hb8.out.size
  have s9 := Hb9.out.size
  have s10 := Hb10.out.size
  have s7 := HB7.out.size
  have s1 := HB1.out.size
  obtain ⟨m, hm⟩ : ∃ m, m = H.length := ⟨_, rfl⟩
  rw [← hm] at R8 R9 HR10 hHl ⊢
  have HM := Lib.hid hm
  clear hm
  go_wp2_with (first
    | (go_at_call_of 13 (Value.slice a8 m m); refine (eqHunks w10 a8 a10 m m c10 _ R8.out HR10.out (by omega) HLI.out).mono ?_; rintro e w11 ⟨rfl, hq⟩; have HQ11 := Lib.hid hq; clear hq)
    | (go_at_call_of 13 (Value.slice a9 m m); refine (eqHunks w11 a9 a10 m m c10 _ (R9.out.quiet HQ11.out) (HR10.out.quiet HQ11.out) (by omega) HLI.out).mono ?_; rintro e w12 ⟨rfl, hq⟩; have HQ12 := Lib.hid (HQ11.out.trans hq); have HB12 := Lib.hid (HB10.out.trans (HQ12.out.below _)); clear hq)
    | (go_at_call 30; refine (keptC _ a1 a n c1 c X (HK.out w12 HB12.out).1 (HK.out w12 HB12.out).2.2.1 HF.out).mono ?_; rintro e w13 ⟨rfl, hq⟩; have HQ13 := Lib.hid (HQ12.out.trans hq); have HB13 := Lib.hid (HB12.out.trans (hq.below _)); clear hq)
    | (go_at_call 14; refine (apartC w8 w13 C8 C9 _ _ H H (HM.out ▸ HP8.out) (Hb9.out.trans ((Hb10.out.trans (HQ13.out.below _)).mono s9)) (HM.out ▸ (HP9.out.keep (Hb10.out.trans ((HQ13.out.below _).mono s10)))) HZ8.out HL9.out (fun x hx => (HOK.out.1 x hx).2.1) (fun x hx => (HOK.out.1 x hx).2.1) (by rw [← HM.out]; omega) (by rw [← HM.out]; omega) (fun x hx => by have := (HOK.out.1 x hx).2.2; omega) (fun x hx => by have := (HOK.out.1 x hx).2.2; omega) (fun x hx => by have := (HOK.out.1 x hx).1; omega)).mono ?_; rintro e w14 ⟨rfl, hb⟩; have HB14 : Hid (Below w1.heap.size w1 w14) := Lib.hid (HB13.out.trans (hb.mono (Nat.le_trans s7 HL8.out))); clear hb)
    | (go_at_call 30; refine (keptC w14 a1 a n c1 c X (HK.out w14 HB14.out).1 (HK.out w14 HB14.out).2.2.1 HF.out).mono ?_; rintro e w15 ⟨rfl, hq⟩; have HB15 := Lib.hid (HB14.out.trans (hq.below _)); clear hq)
    | (go_at_call 10; refine (worksC w15 (HK.out w15 HB15.out).2.2.2.1).mono ?_; rintro e w16 ⟨rfl, hb⟩; have HB16 := Lib.hid (below_next HB15.out (Nat.le_refl _) hb); clear hb))
  go_ret
  exact ⟨rfl, (HK.out _ HB16.out).2.2.2.2⟩
end Go.Proofs.YtnbihjocdlpplaaGreatDoor
/- There and back: plain law. -/
namespace Go.Proofs.YtnbihjocdlpplaaGreatDoor
set_option linter.unusedVariables false
set_option linter.unusedSimpArgs false
open Go.Lib hiding intOf
/-- the other way, from the front -/
def bkN : List HkI → List Hk
  | [] => []
  | h :: r =>
    if h.1 = 1 then (1, h.2) :: bkN r
    else if h.1 = 3 then (2, h.2) :: bkN r
    else match r with
      | [] => [(3, h.2)]
      | g :: r' => if g.1 = 3 then (2, g.2) :: (3, h.2) :: bkN r' else (3, h.2) :: bkN (g :: r')
termination_by l => l.length
decreasing_by all_goals simp_wf <;> omega
theorem putK_app {k : Nat} {l : List (List UInt8)} {out : List Hk} (h : l ≠ []) : putK k l out = out ++ [(k, l)] := by unfold putK; rw [if_neg h]
theorem backGo_bk : ∀ (n : Nat) (l : List HkI) (out : List Hk), l.length ≤ n → (∀ h ∈ l, h.2 ≠ []) → backGo l out = out ++ bkN l
  | _, [], out, _, _ => by simp [backGo, bkN]
  | n + 1, h :: r, out, hn, hne => by
    have hh := hne h (by simp)
    have hr := fun x hx => hne x (List.mem_cons_of_mem _ hx)
    simp only [List.length_cons] at hn
    rw [backGo.eq_def, bkN.eq_def]
    dsimp only
    by_cases h1 : h.1 = 1
    · rw [if_pos h1, if_pos h1, backGo_bk n r _ (by omega) hr, putK_app hh]
      simp
    · rw [if_neg h1, if_neg h1]
      by_cases h3 : h.1 = 3
      · rw [if_pos h3, if_pos h3, backGo_bk n r _ (by omega) hr, putK_app hh]
        simp
      · rw [if_neg h3, if_neg h3]
        cases r with
        | nil => dsimp only; rw [putK_app hh]
        | cons g r' =>
          dsimp only
          have hg := hr g (by simp)
          simp only [List.length_cons] at hn
          by_cases e : g.1 = 3
          · rw [if_pos e, if_pos e, backGo_bk n r' _ (by omega) (fun x hx => hr x (List.mem_cons_of_mem _ hx)), putK_app hh, putK_app hg]
            simp
          · rw [if_neg e, if_neg e, backGo_bk n (g :: r') _ (by simp only [List.length_cons]; omega) hr, putK_app hh]
            simp
theorem back_bk {l : List HkI} (h : okB 0 l = true) : backI l = bkN l := by
  rw [← back_ref h, backGo_bk l.length l [] (Nat.le_refl _) (fun x hx => (okB_mem l 0 h x hx).2), List.nil_append]
theorem bk_one (x : List (List UInt8)) (r : List HkI) : bkN ((1, x) :: r) = (1, x) :: bkN r := by rw [bkN.eq_def]; simp
theorem bk_three (x : List (List UInt8)) (r : List HkI) : bkN ((3, x) :: r) = (2, x) :: bkN r := by rw [bkN.eq_def]; simp
theorem bk_two (x : List (List UInt8)) : bkN [(2, x)] = [(3, x)] := by rw [bkN.eq_def]; simp
theorem bk_two3 (x y : List (List UInt8)) (r : List HkI) : bkN ((2, x) :: (3, y) :: r) = (2, y) :: (3, x) :: bkN r := by rw [bkN.eq_def]; simp
theorem bk_two1 (x y : List (List UInt8)) (r : List HkI) : bkN ((2, x) :: (1, y) :: r) = (3, x) :: bkN ((1, y) :: r) := by rw [bkN.eq_def]; simp
theorem toI_pair (k : Nat) (x : List (List UInt8)) : toI (k, x) = ((k : Int), x) := rfl
theorem bk_bk : ∀ (n : Nat) (L : List Hk) (was : Nat), L.length ≤ n → okKinds was L → bkN ((bkN (L.map toI)).map toI) = L
  | _, [], _, _, _ => by simp [bkN]
  | n + 1, (k, x) :: r, was, hn, hok => by
    obtain ⟨⟨hk, hne, hwas, hno⟩, hok2⟩ := hok
    dsimp only at hk hne hwas hno hok2
    simp only [List.length_cons] at hn
    have h3 : k = 1 ∨ k = 2 ∨ k = 3 := by omega
    rcases h3 with rfl | rfl | rfl
    · have ih := bk_bk n r 1 (by omega) hok2
      rw [List.map_cons, toI_pair, show ((1 : Nat) : Int) = 1 from rfl, bk_one, List.map_cons, toI_pair, show ((1 : Nat) : Int) = 1 from rfl, bk_one, ih]
    · cases r with
      | nil =>
        simp only [List.map_cons, List.map_nil, toI_pair]
        rw [show ((2 : Nat) : Int) = 2 from rfl, bk_two]
        simp only [List.map_cons, List.map_nil, toI_pair]
        rw [show ((3 : Nat) : Int) = 3 from rfl, bk_three]
        simp [bkN]
      | cons g r' =>
        obtain ⟨k2, y⟩ := g
        obtain ⟨⟨gk, gne, gwas, gno⟩, hok3⟩ := hok2
        dsimp only at gk gne gwas gno hok3
        simp only [List.length_cons] at hn
        have g3 : k2 = 1 ∨ k2 = 3 := by omega
        rcases g3 with rfl | rfl
        · have ih := bk_bk n ((1, y) :: r') 2 (by simp only [List.length_cons]; omega) ⟨⟨gk, gne, gwas, gno⟩, hok3⟩
          simp only [List.map_cons, toI_pair] at ih ⊢
          rw [show ((2 : Nat) : Int) = 2 from rfl, show ((1 : Nat) : Int) = 1 from rfl] at *
          rw [bk_two1, List.map_cons, toI_pair, show ((3 : Nat) : Int) = 3 from rfl, bk_three, ih]
        · have ih := bk_bk n r' 3 (by omega) hok3
          simp only [List.map_cons, toI_pair]
          rw [show ((2 : Nat) : Int) = 2 from rfl, show ((3 : Nat) : Int) = 3 from rfl, bk_two3]
          simp only [List.map_cons, toI_pair]
          rw [show ((2 : Nat) : Int) = 2 from rfl, show ((3 : Nat) : Int) = 3 from rfl, bk_two3, ih]
    · cases r with
      | nil =>
        simp only [List.map_cons, List.map_nil, toI_pair]
        rw [show ((3 : Nat) : Int) = 3 from rfl, bk_three]
        simp only [List.map_cons, List.map_nil, toI_pair, bkN]
        rw [show ((2 : Nat) : Int) = 2 from rfl]
        simp
      | cons g r' =>
        obtain ⟨k2, y⟩ := g
        obtain ⟨⟨gk, gne, gwas, gno⟩, hok3⟩ := hok2
        dsimp only at gk gne gwas gno hok3
        obtain rfl : k2 = 1 := by omega
        simp only [List.length_cons] at hn
        have ih := bk_bk n ((1, y) :: r') 3 (by simp only [List.length_cons]; omega) ⟨⟨gk, gne, gwas, gno⟩, hok3⟩
        simp only [List.map_cons, toI_pair] at ih ⊢
        rw [show ((3 : Nat) : Int) = 3 from rfl, show ((1 : Nat) : Int) = 1 from rfl] at *
        rw [bk_one] at ih
        rw [bk_three, bk_one, List.map_cons, toI_pair, List.map_cons, toI_pair, show ((2 : Nat) : Int) = 2 from rfl, show ((1 : Nat) : Int) = 1 from rfl, bk_two1]
        rw [List.map_cons, toI_pair, show ((1 : Nat) : Int) = 1 from rfl] at ih
        rw [ih]
/-- back and back again -/
theorem back_back {H : List Hk} (h : okKinds 0 H) : backI ((backI (H.map toI)).map toI) = H := by
  have h1 : okB 0 (H.map toI) = true := (okB_to H 0).2 h
  have h2 := back_okB (H.map toI)
  rw [back_bk h2, back_bk h1]
  exact bk_bk H.length H 0 (Nat.le_refl _) h
theorem cost_opsB (X : List HkI) (h : ∀ x ∈ X, 1 ≤ x.1 ∧ x.1 ≤ 3) : costOps (opsB X) = distI X := by
  induction X with
  | nil => rfl
  | cons x X ih =>
    have hx := h x (by simp)
    have hrow : ∀ L : List (List UInt8), costOps (L.map (opB x.1)) = if x.1 = 2 ∨ x.1 = 3 then L.length else 0 := by
      intro L
      have hk3 : x.1 = 1 ∨ x.1 = 2 ∨ x.1 = 3 := by omega
      induction L with
      | nil => simp [costOps]
      | cons s L ihL =>
        unfold costOps at ihL ⊢
        rw [List.map_cons, List.map_cons, List.sum_cons, ihL]
        rcases hk3 with e | e | e <;> simp [e, opB, costOp] <;> omega
    rw [opsB_cons]
    unfold costOps at ih hrow ⊢
    rw [List.map_append, List.sum_append, ih (fun y hy => h y (List.mem_cons_of_mem _ hy)), hrow]
    unfold distI
    rw [List.map_cons, List.sum_cons]
theorem dist_back {X : List HkI} (h : okB 0 X = true) : distI ((backI X).map toI) = distI X := by
  rw [distI_to, ← cost_opsB X (fun x hx => (okB_mem X 0 h x hx).1)]
  unfold backI patchOf
  rw [distH_done, distSt_fold]
  simp [distSt, distH]
theorem dist_self : ∀ A : List (List UInt8), dist A A = 0
  | [] => by simp [dist]
  | x :: A => by rw [dist_same, dist_self A]
theorem dist_zero : ∀ (A C : List (List UInt8)), dist A C = 0 → A = C
  | [], C, h => by
    rw [dist] at h
    exact (List.eq_nil_of_length_eq_zero h).symm
  | x :: A, [], h => by simp [dist] at h
  | x :: A, y :: C, h => by
    rw [dist_cons] at h
    split at h
    · rename_i e
      rw [e, dist_zero A C h]
    · omega
theorem patch_zero {a b : List UInt8} : distI ((patchL (splitD a) (splitD b)).map toI) = 0 ↔ a = b := by
  rw [distI_to, patch_dist]
  constructor
  · intro h
    have := dist_zero _ _ h
    rw [← splitD_flat a, ← splitD_flat b, this]
  · rintro rfl
    exact dist_self _
end Go.Proofs.YtnbihjocdlpplaaGreatDoor
/- A patch's changes, done one after the other: plain law. -/
namespace Go.Proofs.YtnbihjocdlpplaaGreatDoor
set_option linter.unusedVariables false
set_option linter.unusedSimpArgs false
open Go.Lib hiding intOf
/-- the changes, from the front -/
def chs (p : Nat) : List HkI → List Ch
  | [] => []
  | h :: r =>
    if h.1 = 1 then chs (p + h.2.flatten.length) r
    else if h.1 = 3 then (p, [], h.2.flatten) :: chs (p + h.2.flatten.length) r
    else match r with
      | [] => [(p, h.2.flatten, [])]
      | g :: r' => if g.1 = 3 then (p, h.2.flatten, g.2.flatten) :: chs (p + g.2.flatten.length) r' else (p, h.2.flatten, []) :: chs p (g :: r')
termination_by l => l.length
decreasing_by all_goals simp_wf <;> omega
theorem chs_fold : ∀ (n : Nat) (X : List HkI) (p : Nat) (was : Int) (out : List Ch), X.length ≤ n → okB was X = true → (was = 2 → ∀ g r, X = g :: r → g.1 ≠ 3) → (X.foldl stepCh ⟨p, was, out⟩).out = out ++ chs p X
  | _, [], p, was, out, _, _, _ => by simp [chs]
  | n + 1, h :: r, p, was, out, hn, hok, hw => by
    simp only [List.length_cons] at hn
    rw [okB, Bool.and_eq_true, okAtB_iff] at hok
    obtain ⟨⟨⟨k1, k3⟩, hne, hwas, hno⟩, hokr⟩ := hok
    obtain ⟨k, L⟩ := h
    dsimp only at k1 k3 hne hwas hno hokr
    rw [List.foldl_cons, chs.eq_def]
    dsimp only
    by_cases e1 : k = 1
    · subst e1
      rw [if_pos rfl]
      have hst : stepCh ⟨p, was, out⟩ (1, L) = ⟨p + L.flatten.length, 1, out⟩ := by unfold stepCh; simp
      rw [hst]
      exact chs_fold n r _ 1 out (by omega) hokr (fun h => by omega)
    · rw [if_neg e1]
      by_cases e3 : k = 3
      · subst e3
        rw [if_pos rfl]
        have hw2 : was ≠ 2 := fun e => hw e _ _ rfl rfl
        have hst : stepCh ⟨p, was, out⟩ (3, L) = ⟨p + L.flatten.length, 3, out ++ [(p, [], L.flatten)]⟩ := by unfold stepCh; simp [hw2]
        rw [hst, chs_fold n r _ 3 _ (by omega) hokr (fun h => by omega)]
        simp
      · rw [if_neg e3]
        obtain rfl : k = 2 := by omega
        have hst : stepCh ⟨p, was, out⟩ (2, L) = ⟨p, 2, out ++ [(p, L.flatten, [])]⟩ := by unfold stepCh; simp
        rw [hst]
        cases r with
        | nil => simp
        | cons g r' =>
          dsimp only
          by_cases e : g.1 = 3
          · rw [if_pos e]
            rw [okB, Bool.and_eq_true, okAtB_iff] at hokr
            obtain ⟨_, hokr'⟩ := hokr
            obtain ⟨kg, M⟩ := g
            dsimp only at e hokr' ⊢
            subst e
            simp only [List.length_cons] at hn
            rw [List.foldl_cons]
            have hst2 : stepCh ⟨p, 2, out ++ [(p, L.flatten, [])]⟩ (3, M) = ⟨p + M.flatten.length, 3, out ++ [(p, L.flatten, M.flatten)]⟩ := by
              unfold stepCh
              simp only [if_neg (show ¬ (3 : Int) = 2 by decide), if_true]
              rw [setNew_snoc]
            rw [hst2, chs_fold n r' _ 3 _ (by omega) hokr' (fun h => by omega)]
            simp
          · rw [if_neg e, chs_fold n (g :: r') _ 2 _ (by omega) hokr (fun _ g' r'' he => by cases he; exact e)]
            simp
theorem chSt_chs {X : List HkI} (h : okB 0 X = true) : (chSt X).out = chs 0 X := by
  have := chs_fold X.length X 0 0 [] (Nat.le_refl _) h (fun h => by omega)
  rwa [List.nil_append] at this
/-- changes done one after the other -/
def Steps (N : Nat) (lo : Nat) : List Ch → List UInt8 → List UInt8 → Prop
  | [], s, t => s = t
  | c :: r, s, t => ∃ pre post, s = pre ++ c.2.1 ++ post ∧ c.1 = pre.length ∧ lo ≤ c.1 ∧ (c.2.1 ≠ [] ∨ c.2.2 ≠ []) ∧ s.length ≤ N ∧ (pre ++ c.2.2 ++ post).length ≤ N ∧ Steps N (c.1 + c.2.2.length + 1) r (pre ++ c.2.2 ++ post) t
def oldsX (X : List HkI) : List UInt8 := (sideI 2 X).flatten
def newsX (X : List HkI) : List UInt8 := (sideI 3 X).flatten
theorem olds_cons (h : HkI) (r : List HkI) : oldsX (h :: r) = (if h.1 = 1 ∨ h.1 = 2 then h.2.flatten else []) ++ oldsX r := by
  unfold oldsX sideI
  rw [List.flatMap_cons, List.flatten_append]
  split <;> rfl
theorem news_cons (h : HkI) (r : List HkI) : newsX (h :: r) = (if h.1 = 1 ∨ h.1 = 3 then h.2.flatten else []) ++ newsX r := by
  unfold newsX sideI
  rw [List.flatMap_cons, List.flatten_append]
  split <;> rfl
theorem olds1 (L : List (List UInt8)) (r : List HkI) : oldsX ((1, L) :: r) = L.flatten ++ oldsX r := by rw [olds_cons]; simp
theorem olds2 (L : List (List UInt8)) (r : List HkI) : oldsX ((2, L) :: r) = L.flatten ++ oldsX r := by rw [olds_cons]; simp
theorem olds3 (L : List (List UInt8)) (r : List HkI) : oldsX ((3, L) :: r) = oldsX r := by rw [olds_cons]; simp
theorem news1 (L : List (List UInt8)) (r : List HkI) : newsX ((1, L) :: r) = L.flatten ++ newsX r := by rw [news_cons]; simp
theorem news2 (L : List (List UInt8)) (r : List HkI) : newsX ((2, L) :: r) = newsX r := by rw [news_cons]; simp
theorem news3 (L : List (List UInt8)) (r : List HkI) : newsX ((3, L) :: r) = L.flatten ++ newsX r := by rw [news_cons]; simp
theorem steps_go (N : Nat) : ∀ (n : Nat) (X : List HkI) (was : Int) (pre : List UInt8) (lo : Nat), X.length ≤ n → okB was X = true → (∀ x ∈ X, x.2.flatten ≠ []) → 0 ≤ was → was ≤ 3 → (was = 2 → ∀ g r, X = g :: r → g.1 ≠ 3) → (lo ≤ pre.length ∨ ((was = 2 ∨ was = 3) ∧ lo ≤ pre.length + 1)) → pre.length + (oldsX X).length + (newsX X).length ≤ N →
    Steps N lo (chs pre.length X) (pre ++ oldsX X) (pre ++ newsX X)
  | _, [], was, pre, lo, _, _, _, _, _, _, _, _ => by simp [chs, Steps, oldsX, newsX, sideI]
  | n + 1, h :: r, was, pre, lo, hn, hok, hfl, hw0, hw3, hw, hlo, hN => by
    simp only [List.length_cons] at hn
    rw [okB, Bool.and_eq_true, okAtB_iff] at hok
    obtain ⟨⟨⟨k1, k3⟩, hne, hwas, hno⟩, hokr⟩ := hok
    have hL := hfl h (by simp)
    have hr := fun x hx => hfl x (List.mem_cons_of_mem _ hx)
    obtain ⟨k, L⟩ := h
    dsimp only at k1 k3 hne hwas hno hokr hL
    have hLl := List.length_pos_iff.2 hL
    rw [chs.eq_def]
    dsimp only at hN ⊢
    by_cases e1 : k = 1
    · subst e1
      rw [olds1, news1] at hN ⊢
      rw [if_pos rfl]
      simp only [List.length_append] at hN
      have ih := steps_go N n r 1 (pre ++ L.flatten) lo (by omega) hokr hr (by omega) (by omega) (fun h => by omega) (.inl (by rw [List.length_append]; omega)) (by rw [List.length_append]; omega)
      rw [List.length_append] at ih
      simpa using ih
    · rw [if_neg e1]
      by_cases e3 : k = 3
      · subst e3
        have hw2 : was ≠ 2 := fun e => hw e _ _ rfl rfl
        have hlo' : lo ≤ pre.length := by rcases hlo with h | ⟨h, _⟩ <;> omega
        rw [olds3, news3] at hN ⊢
        rw [if_pos rfl]
        simp only [List.length_append] at hN
        have ih := steps_go N n r 3 (pre ++ L.flatten) (pre.length + L.flatten.length + 1) (by omega) hokr hr (by omega) (by omega) (fun h => by omega) (.inr ⟨.inr rfl, by rw [List.length_append]; omega⟩) (by rw [List.length_append]; omega)
        rw [List.length_append] at ih
        refine ⟨pre, oldsX r, by simp, rfl, hlo', .inr hL, by simp only [List.length_append]; omega, by simp only [List.length_append]; omega, ?_⟩
        simpa using ih
      · rw [if_neg e3]
        obtain rfl : k = 2 := by omega
        have hlo' : lo ≤ pre.length := by rcases hlo with h | ⟨h, _⟩ <;> omega
        rw [olds2, news2] at hN ⊢
        simp only [List.length_append] at hN
        cases r with
        | nil =>
          refine ⟨pre, [], by simp [oldsX, sideI], rfl, hlo', .inl hL, by simp [oldsX, sideI] at *; omega, by simp [oldsX, newsX, sideI] at *; omega, ?_⟩
          simp [Steps, newsX, sideI]
        | cons g r' =>
          dsimp only
          by_cases e : g.1 = 3
          · rw [if_pos e]
            rw [okB, Bool.and_eq_true, okAtB_iff] at hokr
            obtain ⟨_, hokr'⟩ := hokr
            obtain ⟨kg, M⟩ := g
            dsimp only at e hokr' ⊢
            subst e
            simp only [List.length_cons] at hn
            rw [olds3, news3] at hN ⊢
            simp only [List.length_append] at hN
            have ih := steps_go N n r' 3 (pre ++ M.flatten) (pre.length + M.flatten.length + 1) (by omega) hokr' (fun x hx => hr x (List.mem_cons_of_mem _ hx)) (by omega) (by omega) (fun h => by omega) (.inr ⟨.inr rfl, by rw [List.length_append]; omega⟩) (by rw [List.length_append]; omega)
            rw [List.length_append] at ih
            refine ⟨pre, oldsX r', by simp, rfl, hlo', .inl hL, by simp only [List.length_append]; omega, by simp only [List.length_append]; omega, ?_⟩
            simpa using ih
          · rw [if_neg e]
            have ih := steps_go N n (g :: r') 2 pre (pre.length + 1) (by omega) hokr hr (by omega) (by omega) (fun _ g' r'' he => by cases he; exact e) (.inr ⟨.inl rfl, by omega⟩) (by omega)
            refine ⟨pre, oldsX (g :: r'), by simp, rfl, hlo', .inl hL, by simp only [List.length_append]; omega, by simp only [List.length_append, List.length_nil]; omega, ?_⟩
            simpa using ih
/-- the texts on the way -/
theorem steps_texts (N : Nat) : ∀ (C : List Ch) (lo : Nat) (s t : List UInt8), Steps N lo C s t → ∃ T : Nat → List UInt8, T 0 = s ∧ T C.length = t ∧ ∀ (i : Nat) (c : Ch), C[i]? = some c →
    (∃ pre post, T i = pre ++ c.2.1 ++ post ∧ c.1 = pre.length ∧ T (i + 1) = pre ++ c.2.2 ++ post) ∧ (c.2.1 ≠ [] ∨ c.2.2 ≠ []) ∧ (T i).length ≤ N ∧ (T (i + 1)).length ≤ N ∧ (i = 0 → lo ≤ c.1) ∧ (∀ d : Ch, 0 < i → C[i - 1]? = some d → d.1 + d.2.2.length + 1 ≤ c.1)
  | [], lo, s, t, h => ⟨fun _ => s, rfl, h, fun i c hc => by simp at hc⟩
  | c0 :: r, lo, s, t, h => by
    obtain ⟨pre, post, h1, h2, h3, h4, h5, h6, h7⟩ := h
    obtain ⟨T, t0, t1, t2⟩ := steps_texts N r _ _ _ h7
    refine ⟨fun i => match i with | 0 => s | i + 1 => T i, rfl, t1, fun i c hc => ?_⟩
    cases i with
    | zero =>
      simp only [List.getElem?_cons_zero, Option.some.injEq] at hc
      subst hc
      refine ⟨⟨pre, post, h1, h2, ?_⟩, h4, h5, ?_, fun _ => h3, fun d h => absurd h (Nat.lt_irrefl _)⟩
      · exact t0
      · show (T 0).length ≤ N
        rw [t0]; exact h6
    | succ i =>
      simp only [List.getElem?_cons_succ] at hc
      obtain ⟨q1, q2, q3, q4, q5, q6⟩ := t2 i c hc
      refine ⟨q1, q2, q3, q4, fun h => by omega, fun d _ hd => ?_⟩
      cases i with
      | zero =>
        simp only [Nat.zero_add, Nat.sub_self, List.getElem?_cons_zero, Option.some.injEq] at hd
        subst hd
        exact q5 rfl
      | succ i =>
        exact q6 d (by omega) (by simpa using hd)
theorem flat_ne {L : List (List UInt8)} (h : L ≠ []) (hs : ∀ s ∈ L, s ≠ []) : L.flatten ≠ [] := by
  cases L with
  | nil => exact absurd rfl h
  | cons s L =>
    intro e
    rw [List.flatten_cons] at e
    exact hs s (by simp) (List.append_eq_nil_iff.1 e).1
/-- of a patch that fits -/
theorem steps_patch {a : List UInt8} {X : List HkI} (h : fitsB a X = true) : ∃ T : Nat → List UInt8, T 0 = a ∧ T (chOut a X).length = (sideI 3 X).flatten ∧ ∀ (i : Nat) (c : Ch), (chOut a X)[i]? = some c →
    (∃ pre post, T i = pre ++ c.2.1 ++ post ∧ c.1 = pre.length ∧ T (i + 1) = pre ++ c.2.2 ++ post) ∧ (c.2.1 ≠ [] ∨ c.2.2 ≠ []) ∧ (T i).length ≤ a.length + (sideI 3 X).flatten.length ∧ (T (i + 1)).length ≤ a.length + (sideI 3 X).flatten.length ∧ (∀ d : Ch, 0 < i → (chOut a X)[i - 1]? = some d → d.1 + d.2.2.length + 1 ≤ c.1) := by
  have hp := fits_parts h
  obtain ⟨hck, _, hs2⟩ := hp
  obtain ⟨hok, _, _⟩ := check_parts hck
  have hout : chOut a X = chs 0 X := by unfold chOut; rw [if_pos h, chSt_chs hok]
  have hfl : ∀ x ∈ X, x.2.flatten ≠ [] := fun x hx => flat_ne (okB_mem X 0 hok x hx).2 (fun s hs => (line_checkB hck x hx s hs).1)
  have hst := steps_go (a.length + (sideI 3 X).flatten.length) X.length X 0 [] 0 (Nat.le_refl _) hok hfl (by omega) (by omega) (fun h => by omega) (.inl (Nat.zero_le _)) (by unfold oldsX newsX; rw [hs2]; simp)
  rw [List.nil_append, List.nil_append] at hst
  have hst2 : Steps (a.length + (sideI 3 X).flatten.length) 0 (chOut a X) a (sideI 3 X).flatten := by
    rw [hout]
    unfold oldsX newsX at hst
    rw [hs2] at hst
    exact hst
  obtain ⟨T, t0, t1, t2⟩ := steps_texts _ _ _ _ _ hst2
  exact ⟨T, t0, t1, fun i c hc => by
    obtain ⟨q1, q2, q3, q4, _, q6⟩ := t2 i c hc
    exact ⟨q1, q2, q3, q4, q6⟩⟩
end Go.Proofs.YtnbihjocdlpplaaGreatDoor
/- history.Apply at a change that fits; Turned. -/
namespace Go.Proofs.YtnbihjocdlpplaaGreatDoor
set_option linter.unusedVariables false
set_option linter.unusedSimpArgs false
open Go.RowKit
open Go.Lib hiding intOf
theorem turnedC (w : World) (p : Nat) (x y : List UInt8) :
    Calls Tryz.prog 24 #[.agg #[.int .i64 (p : Int), .string (bstr x), .string (bstr y)]] w fun e w' => e = .returned (.agg #[.int .i64 (p : Int), .string (bstr y), .string (bstr x)]) ∧ Below w.heap.size w w' := by
  go_enter Tryz.func24, Tryz.ntmps24
  go_wp2
  (try simp only [Exit.inBlock, Exit.then])
  refine bodyPost_ret (results_cell_row rfl _ _ (w.heap.size + 1) 51 #[.int .i64 (p : Int), .string (bstr y), .string (bstr x)] (0, 0) _ rfl (heap_alloc2_new w _ _) Tryz.underlying51 rfl (by kernel_rfl)) rfl ?_
  exact ⟨rfl, ((Below.refl _ w).alloc (Nat.le_refl _) _).alloc (by simp) _⟩
theorem histC (w : World) (pre x y post : List UInt8) (hl : (pre ++ x ++ post).length ≤ 67108864) (hl2 : (pre ++ y ++ post).length ≤ 67108864) :
    Calls Tryz.prog 23 #[.string (bstr (pre ++ x ++ post)), .agg #[.int .i64 (pre.length : Int), .string (bstr x), .string (bstr y)]] w fun e w' => e = .returned (.tuple #[.string (bstr (pre ++ y ++ post)), .int .i64 0]) ∧ Below w.heap.size w w' := by
  obtain ⟨S, hS⟩ : ∃ S, S = pre ++ x ++ post := ⟨_, rfl⟩
  obtain ⟨p, hp⟩ : ∃ p, p = pre.length := ⟨_, rfl⟩
  obtain ⟨xl, hx⟩ : ∃ n, n = x.length := ⟨_, rfl⟩
  obtain ⟨yl, hy⟩ : ∃ n, n = y.length := ⟨_, rfl⟩
  obtain ⟨q, hq⟩ : ∃ n, n = p + xl := ⟨_, rfl⟩
  obtain ⟨sl, hsl⟩ : ∃ n, n = S.length := ⟨_, rfl⟩
  have hsz : (bstr S).size = sl := by rw [bstr_size, hsl]
  have hxz : (bstr x).size = xl := by rw [bstr_size, hx]
  have hb : q ≤ sl ∧ sl ≤ 67108864 := by rw [hS] at hsl; rw [hsl]; refine ⟨?_, hl⟩; rw [hq, hp, hx]; simp only [List.length_append]; omega
  have e1 : (S.drop p).take (sl - p) = x ++ post := by
    rw [hS, List.append_assoc, hp, List.drop_left, List.take_of_length_le]
    rw [hsl, hS]; simp only [List.length_append]; omega
  have e2 : S.take p = pre := by rw [hS, List.append_assoc, hp, List.take_left]
  have e3 : (S.drop q).take (sl - q) = post := by
    rw [hS, hq, hp, hx, show pre.length + x.length = (pre ++ x).length by rw [List.length_append], List.drop_left, List.take_of_length_le]
    rw [hsl, hS]; simp only [List.length_append]; omega
  have hpre : Tryz.prog.funcs.size = Tryz.prog.funcs.size := rfl
  have HPF := Lib.hid (fun W => (Tryz.strings_HasPrefix (bstr (x ++ post)) (bstr x) W))
  have hpx : hasPrefix (x ++ post) x = true := by unfold hasPrefix; rw [List.isPrefixOf_iff_prefix]; exact List.prefix_append _ _
  simp only [bstr_list] at HPF
  rw [hpx] at HPF
  rw [← hS, ← hp]
  have hpq : p ≤ q := by omega
  have hqi : (p : Int) + (xl : Int) = (q : Int) := by omega
  have h0p : ¬ (p : Int) < 0 := by omega
  have hps : ¬ (sl : Int) < (p : Int) := by omega
  have hps2 : (p : Int) ≤ (sl : Int) := by omega
  have hqs2 : (q : Int) ≤ (sl : Int) := by omega
  have hsb := hb.2
  have HY := Lib.hid hl2
  clear hS hp hx hy hq hsl hb hl hl2 hpx hpre
  go_enter Tryz.func23, Tryz.ntmps23
  go_upto_region 1 with (fail)
  go_quiet ((go_at_call 63; exact Calls.quiet_of_same (HPF.out _)))
  go_upto_region 3 with (fail)
  have hy2 := HY.out
  simp only [List.length_append] at hy2
  have hc1 : ¬ 9223372036854775807 < pre.length + y.length := by omega
  have hc2 : ¬ 9223372036854775807 < (pre ++ y).length + post.length := by rw [List.length_append]; omega
  have hc3 : ¬ 9223372036854775807 < pre.length + y.length + post.length := by omega
  clear hy2
  go_quiet (fail)
  go_wp2
  go_ret2
  refine ⟨?_, ?_⟩
  · simp
  · have h1 : Below w.heap.size w (w.alloc (.cells #[.int .i64 (p : Int), .string (bstr x), .string (bstr y)] 51)) := (Below.refl _ w).alloc (Nat.le_refl _) _
    exact h1.trans ((((Quiet.refl _).drewN _).below (w.alloc (.cells #[.int .i64 (p : Int), .string (bstr x), .string (bstr y)] 51)).heap.size).mono h1.size)
end Go.Proofs.YtnbihjocdlpplaaGreatDoor
