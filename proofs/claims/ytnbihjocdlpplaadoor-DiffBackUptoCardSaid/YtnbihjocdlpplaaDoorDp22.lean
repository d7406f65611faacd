/- Texts joined, one behind the other (LDiffPatches, DBackP, DParM). -/
import Derived.Test.YtnbihjocdlpplaaDoorDp21
/- DiffPatches: the walk. -/
namespace Go.Proofs.YtnbihjocdlpplaaDoor
set_option linter.unusedVariables false
set_option linter.unusedSimpArgs false
open Go.RowKit
open Go.Lib hiding intOf
theorem sum_fit {X : List HkI} (h : hunkSum X ≤ 1048576) : Fit X := by
  have := hunkSum_fit X
  exact ⟨by omega, by omega, by omega⟩
def backH (X : List HkI) : List Hk := if checkB X = true then backI X else []
theorem opsB_lines (X : List HkI) (h : ∀ x ∈ X, 1 ≤ x.1 ∧ x.1 ≤ 3) : (opsB X).flatMap lineA = sideI 3 X ∧ (opsB X).flatMap lineB = sideI 2 X := by
  induction X with
  | nil => exact ⟨rfl, rfl⟩
  | cons x X ih =>
    obtain ⟨i1, i2⟩ := ih (fun y hy => h y (List.mem_cons_of_mem _ hy))
    have hk := h x (by simp)
    have hrow : ∀ L : List (List UInt8), (L.map (opB x.1)).flatMap lineA = (if x.1 = 1 ∨ x.1 = 3 then L else []) ∧ (L.map (opB x.1)).flatMap lineB = (if x.1 = 1 ∨ x.1 = 2 then L else []) := by
      intro L
      have hk3 : x.1 = 1 ∨ x.1 = 2 ∨ x.1 = 3 := by omega
      induction L with
      | nil => simp
      | cons s L ihL =>
        rw [List.map_cons, List.flatMap_cons, List.flatMap_cons, ihL.1, ihL.2]
        rcases hk3 with e | e | e <;> simp [e, opB, lineA, lineB]
    rw [opsB_cons, List.flatMap_append, List.flatMap_append, i1, i2, (hrow x.2).1, (hrow x.2).2]
    unfold sideI
    rw [List.flatMap_cons, List.flatMap_cons]
    exact ⟨rfl, rfl⟩
theorem back_okB (X : List HkI) : okB 0 ((backI X).map toI) = true := (okB_to _ 0).2 (patchOf_ok _)
theorem back_sides {X : List HkI} (h : okB 0 X = true) : sideI 2 ((backI X).map toI) = sideI 3 X ∧ sideI 3 ((backI X).map toI) = sideI 2 X := by
  have hl := opsB_lines X (fun x hx => (okB_mem X 0 h x hx).1)
  have hp := patchOf_sides (opsB X)
  have e2 := sideI_to 2 (backI X)
  have e3 := sideI_to 3 (backI X)
  exact ⟨(e2.trans hp.1).trans hl.1, (e3.trans hp.2).trans hl.2⟩
theorem check_parts {X : List HkI} (h : checkB X = true) : okB 0 X = true ∧ wholeB (sideI 2 X) = true ∧ wholeB (sideI 3 X) = true := by
  unfold checkB at h
  rw [Bool.and_eq_true, Bool.and_eq_true] at h
  exact ⟨h.1.1, h.1.2, h.2⟩
theorem back_check {X : List HkI} (h : checkB X = true) : checkB ((backI X).map toI) = true := by
  obtain ⟨h1, h2, h3⟩ := check_parts h
  unfold checkB
  rw [back_okB, (back_sides h1).1, (back_sides h1).2, h2, h3]
  rfl
theorem hunks_small {H : List Hk} (h : checkB (H.map toI) = true) : (∀ x ∈ H, (1 ≤ x.1 ∧ x.1 ≤ 3) ∧ x.2 ≠ [] ∧ x.2.length ≤ 1024) ∧ H.length ≤ 1024 := by
  obtain ⟨h1, _, _⟩ := check_parts h
  have hm := okB_mem _ 0 h1
  have hl := check_lines h
  have h3 := len_lines _ (fun x hx => (hm x hx).2)
  rw [List.length_map] at h3
  refine ⟨fun x hx => ?_, by omega⟩
  have q1 := hm (toI x) (List.mem_map.2 ⟨x, hx, rfl⟩)
  have q2 := linesK_mem (List.mem_map.2 ⟨x, hx, rfl⟩ : toI x ∈ H.map toI)
  have e1 : (toI x).1 = (x.1 : Int) := rfl
  have e2 : (toI x).2 = x.2 := rfl
  rw [e1, e2] at q1
  rw [e2] at q2
  exact ⟨⟨by omega, by omega⟩, q1.2, by omega⟩
theorem backH_ok (X : List HkI) : (∀ x ∈ backH X, (1 ≤ x.1 ∧ x.1 ≤ 3) ∧ x.2 ≠ [] ∧ x.2.length ≤ 1024) ∧ (backH X).length ≤ 1024 := by
  unfold backH
  by_cases h : checkB X = true
  · rw [if_pos h]
    exact hunks_small (back_check h)
  · rw [if_neg h]
    exact ⟨fun x hx => (by cases hx), Nat.zero_le _⟩
theorem back_own {w w' : World} {X : List HkI} {e : Ending} (h : BackP w X e w') : ∃ v B, e = .returned (.tuple #[v, .int .i64 (errP (checkB X))]) ∧ PatchAt B w' v (backH X) ∧ w.heap.size ≤ B ∧ B ≤ w'.heap.size ∧ Below w.heap.size w w' := by
  rcases h with ⟨h, he, hb⟩ | ⟨h, v, B, he, hP, h1, h2, hb⟩
  · refine ⟨.slice none 0 0, w.heap.size, by rw [he, h]; rfl, ?_, Nat.le_refl _, hb.size, hb⟩
    unfold backH
    rw [h]
    exact ⟨none, 0, [], rfl, SW.start _ _ _ (fun p hp => by cases hp), fun x hx => by cases hx⟩
  · refine ⟨v, B, by rw [he, h]; rfl, ?_, h1, h2, hb⟩
    unfold backH
    rw [if_pos h]
    exact hP
theorem back_read {w w' : World} {X : List HkI} {e : Ending} (h : BackQ w X e w') : ∃ a c, e = .returned (.tuple #[.slice a (backH X).length c, .int .i64 (errP (checkB X))]) ∧ ReadsK w' a (backH X).length ((backH X).map toI) ∧ Below w.heap.size w w' := by
  rcases h with ⟨h, he, hb⟩ | ⟨h, a, c, he, hr, hb⟩
  · refine ⟨none, 0, by rw [he]; unfold backH; rw [h]; rfl, ?_, hb⟩
    unfold backH
    rw [h]
    exact ReadsK.nil _ _
  · refine ⟨a, c, by rw [he]; unfold backH; rw [if_pos h, h]; rfl, ?_, hb⟩
    unfold backH
    rw [if_pos h]
    exact hr
theorem apply_parts (s : List UInt8) (X : List HkI) : ∃ T E, applyE s X = .returned (.tuple #[.string (bstr T), .int .i64 E]) := by
  unfold applyE
  split
  · exact ⟨_, _, rfl⟩
  · exact ⟨_, _, rfl⟩
set_option maxHeartbeats 8000000 in
set_option maxRecDepth 100000 in
theorem diffPatches_walk (w : World) (a : Option Addr) (n c : Nat) (X : List HkI) (hX : ReadsK w a n X) (hnc : n ≤ c) (hcm : c ≤ maxLen) (hs : hunkSum X ≤ 1048576) (s : List UInt8) (hsl : s.length ≤ 1048576) (hT : Tabs w) :
    Calls Tryd.prog 5 #[.slice a n c, .string (bstr s)] w fun e w' => e = .returned (.bool true) ∧ Below w.heap.size w w' := by
  have HF := Lib.hid (sum_fit hs)
  have HT := Lib.hid hT
  have HX := Lib.hid hX
  have hok := backH_ok X
  have hn : n ≤ 1048576 := by rw [← hX.len]; have := hunkSum_fit X; omega
  obtain ⟨cd, hcd⟩ : ∃ cd, cd = errP (checkB X) := ⟨_, rfl⟩
  obtain ⟨ds, hds⟩ : ∃ ds : Int, ds = (distI X : Int) := ⟨_, rfl⟩
  obtain ⟨T, E, hTE⟩ := apply_parts s X
  obtain ⟨H, hH⟩ : ∃ H, H = backH X := ⟨_, rfl⟩
  have HS := Lib.hid (spareC w a n c X hX HF.out)
  have HCK := Lib.hid (fun W a c (hR : ReadsK W a n X) hW => checkC W a n c X hR HF.out hW)
  have HCR := Lib.hid (fun W a c (hR : ReadsK W a n X) => checkR W a n c X hR HF.out)
  have HDK := Lib.hid (fun W a c (hR : ReadsK W a n X) => distC W a n c X hR HF.out)
  have HDR := Lib.hid (fun W a c (hR : ReadsK W a n X) => distR W a n c X hR HF.out)
  have HAK := Lib.hid (fun W a c (hR : ReadsK W a n X) hW => applyC W s a n c X hR HF.out hW)
  have HAR := Lib.hid (fun W a c (hR : ReadsK W a n X) => applyR W s a n c X hR HF.out)
  have HBK := Lib.hid (fun W a c (hR : ReadsK W a n X) hW => (backC W a n c X hR HF.out hW).mono (fun e w' h => back_own h))
  have HBR := Lib.hid (fun W a c (hR : ReadsK W a n X) => (backR W a n c X hR HF.out).mono (fun e w' h => back_read h))
  rw [← hcd] at HCK HCR HBK HBR
  rw [← hds] at HDK HDR
  rw [hTE] at HAK HAR
  rw [← hH] at HBK HBR hok
  have HOK := Lib.hid hok
  have hHl := hok.2
  have HLI := Lib.hid (lenI (fun x hx => (HOK.out.1 x hx).2.2))
  have b1 : (cd != cd) = false := by simp
  have b2 : (ds != ds) = false := by simp
  have b3 : (T != T) = false := by simp
  have b3' : (T == T) = true := by simp
  have b4 : (E != E) = false := by simp
  have b5 : (cd == cd) = true := by simp
  clear hT hX hok hcd hds hTE hH hs hsl
  go_enter Tryd.func5, Tryd.ntmps5
  go_upto_region 2 with (go_at_call 18; refine (HS.out).mono ?_; rintro e w1 ⟨a1, c1, rfl, hS1, hb1⟩; have HS1 := Lib.hid hS1; have HB1 := Lib.hid hb1; clear hS1 hb1)
  have hk : ∀ W, Below w1.heap.size w1 W → SpareK W a1 n c1 X ∧ ReadsK W a1 n X ∧ ReadsK W a n X ∧ Tabs W ∧ Below w.heap.size w W := fun W hW => by
    have h1 := HS1.out.keep hW
    have h2 : Below w.heap.size w W := HB1.out.trans (hW.mono HB1.out.size)
    exact ⟨h1, h1.reads, HX.out.keep h2 (Nat.le_refl _), HT.out.next h2, h2⟩
  have HK := Lib.hid hk
  have HZ := Lib.hid (Below.refl w1.heap.size w1)
  clear hk
  go_upto_region 4 with (first
    | (go_at_call 19; refine (HCK.out w1 a1 c1 (HK.out w1 HZ.out).2.1 (HK.out w1 HZ.out).2.2.2.1).mono ?_; rintro e w2 ⟨rfl, hb⟩; have HB2 := Lib.hid hb; clear hb)
    | (go_at_call 20; refine (HCR.out w2 a c (HK.out w2 HB2.out).2.2.1).mono ?_; rintro e w3 ⟨rfl, hb⟩; have HB3 := Lib.hid (below_next HB2.out (Nat.le_refl _) hb); clear hb)
    | (go_at_call 17; refine (HDK.out w3 a1 c1 (HK.out w3 HB3.out).2.1).mono ?_; rintro e w4 ⟨rfl, hb⟩; have HB4 := Lib.hid (below_next HB3.out (Nat.le_refl _) hb); clear hb)
    | (go_at_call 21; refine (HDR.out w4 a c (HK.out w4 HB4.out).2.2.1).mono ?_; rintro e w5 ⟨rfl, hb⟩; have HB5 := Lib.hid (below_next HB4.out (Nat.le_refl _) hb); clear hb))
  go_upto_region 8 with (first
    | (go_at_call 22; refine (HAK.out w5 a1 c1 (HK.out w5 HB5.out).2.1 (HK.out w5 HB5.out).2.2.2.1).mono ?_; rintro e w6 ⟨rfl, hb⟩; have HB6 := Lib.hid (below_next HB5.out (Nat.le_refl _) hb); clear hb)
    | (go_at_call 23; refine (HAR.out w6 a c (HK.out w6 HB6.out).2.2.1).mono ?_; rintro e w7 ⟨rfl, hb⟩; have HB7 := Lib.hid (below_next HB6.out (Nat.le_refl _) hb); clear hb))
  go_upto_region 9 with (go_at_call 24; refine (HBK.out w7 a1 c1 (HK.out w7 HB7.out).2.1 (HK.out w7 HB7.out).2.2.2.1).mono ?_; rintro e w8 ⟨v8, C8, rfl, hP, hL, hz, hb⟩; obtain ⟨a8, rfl, hr⟩ := hP.reads; have HP8 := Lib.hid hP; have HR8 := Lib.hid hr; have HL8 := Lib.hid hL; have HZ8 := Lib.hid hz; have Hb8 := Lib.hid hb; have HB8 := Lib.hid (below_next HB7.out (Nat.le_refl _) hb); clear hP hr hL hz hb)
  go_upto_region 10 with (go_at_call 24; refine (HBK.out w8 a1 c1 (HK.out w8 HB8.out).2.1 (HK.out w8 HB8.out).2.2.2.1).mono ?_; rintro e w9 ⟨v9, C9, rfl, hP, hL, hz, hb⟩; obtain ⟨a9, rfl, hr⟩ := hP.reads; have HP9 := Lib.hid hP; have HR9 := Lib.hid hr; have HL9 := Lib.hid hL; have HZ9 := Lib.hid hz; have Hb9 := Lib.hid hb; have HB9 := Lib.hid (below_next HB8.out (Nat.le_refl _) hb); clear hP hr hL hz hb)
  go_upto_region 11 with (go_at_call 25; refine (HBR.out w9 a c (HK.out w9 HB9.out).2.2.1).mono ?_; rintro e w10 ⟨a10, c10, rfl, hr, hb⟩; have HR10 := Lib.hid hr; have Hb10 := Lib.hid hb; have HB10 := Lib.hid (below_next HB9.out (Nat.le_refl _) hb); clear hr hb)
  have R8 : Hid (ReadsK w10 a8 H.length (H.map toI)) := Lib.hid ((HR8.out.keep Hb9.out (Nat.le_refl _)).keep Hb10.out (Nat.le_refl _))
  have R9 : Hid (ReadsK w10 a9 H.length (H.map toI)) := Lib.hid (HR9.out.keep Hb10.out (Nat.le_refl _))
  have s8 := Hb8.out.size
  have s9 := Hb9.out.size
  have s10 := Hb10.out.size
  have s7 := HB7.out.size
  have s1 := HB1.out.size
  obtain ⟨m, hm⟩ : ∃ m, m = H.length := ⟨_, rfl⟩
  rw [← hm] at R8 R9 HR10 hHl ⊢
  have HM := Lib.hid hm
  clear hm
  go_wp2_with (first
    | (go_at_call_of 12 (Value.slice a8 m m); refine (eqHunks w10 a8 a10 m m c10 _ R8.out HR10.out (by omega) HLI.out).mono ?_; rintro e w11 ⟨rfl, hq⟩; have HQ11 := Lib.hid hq; clear hq)
    | (go_at_call_of 12 (Value.slice a9 m m); refine (eqHunks w11 a9 a10 m m c10 _ (R9.out.quiet HQ11.out) (HR10.out.quiet HQ11.out) (by omega) HLI.out).mono ?_; rintro e w12 ⟨rfl, hq⟩; have HQ12 := Lib.hid (HQ11.out.trans hq); have HB12 := Lib.hid (HB10.out.trans (HQ12.out.below _)); clear hq)
    | (go_at_call 26; refine (keptC _ a1 a n c1 c X (HK.out w12 HB12.out).1 (HK.out w12 HB12.out).2.2.1 HF.out).mono ?_; rintro e w13 ⟨rfl, hq⟩; have HQ13 := Lib.hid (HQ12.out.trans hq); have HB13 := Lib.hid (HB12.out.trans (hq.below _)); clear hq)
    | (go_at_call 13; refine (apartC w8 w13 C8 C9 _ _ H H (HM.out ▸ HP8.out) (Hb9.out.trans ((Hb10.out.trans (HQ13.out.below _)).mono s9)) (HM.out ▸ (HP9.out.keep (Hb10.out.trans ((HQ13.out.below _).mono s10)))) HZ8.out HL9.out (fun x hx => (HOK.out.1 x hx).2.1) (fun x hx => (HOK.out.1 x hx).2.1) (by rw [← HM.out]; omega) (by rw [← HM.out]; omega) (fun x hx => by have := (HOK.out.1 x hx).2.2; omega) (fun x hx => by have := (HOK.out.1 x hx).2.2; omega) (fun x hx => by have := (HOK.out.1 x hx).1; omega)).mono ?_; rintro e w14 ⟨rfl, hb⟩; have HB14 : Hid (Below w1.heap.size w1 w14) := Lib.hid (HB13.out.trans (hb.mono (Nat.le_trans s7 HL8.out))); clear hb)
    | (go_at_call 26; refine (keptC w14 a1 a n c1 c X (HK.out w14 HB14.out).1 (HK.out w14 HB14.out).2.2.1 HF.out).mono ?_; rintro e w15 ⟨rfl, hq⟩; have HB15 := Lib.hid (HB14.out.trans (hq.below _)); clear hq)
    | (go_at_call 14; refine (worksC w15 (HK.out w15 HB15.out).2.2.2.1).mono ?_; rintro e w16 ⟨rfl, hb⟩; have HB16 := Lib.hid (below_next HB15.out (Nat.le_refl _) hb); clear hb))
  go_ret
  exact ⟨rfl, (HK.out _ HB16.out).2.2.2.2⟩
end Go.Proofs.YtnbihjocdlpplaaDoor
/- There and back: plain law. -/
namespace Go.Proofs.YtnbihjocdlpplaaDoor
set_option linter.unusedVariables false
set_option linter.unusedSimpArgs false
open Go.Lib hiding intOf
/-- the other way, from the front -/
def bkN : List HkI → List Hk
  | [] => []
  | h :: r =>
    if h.1 = 1 then (1, h.2) :: bkN r
    else if h.1 = 3 then (2, h.2) :: bkN r
    else match r with
      | [] => [(3, h.2)]
      | g :: r' => if g.1 = 3 then (2, g.2) :: (3, h.2) :: bkN r' else (3, h.2) :: bkN (g :: r')
termination_by l => l.length
decreasing_by all_goals simp_wf <;> omega
theorem putK_app {k : Nat} {l : List (List UInt8)} {out : List Hk} (h : l ≠ []) : putK k l out = out ++ [(k, l)] := by unfold putK; rw [if_neg h]
theorem backGo_bk : ∀ (n : Nat) (l : List HkI) (out : List Hk), l.length ≤ n → (∀ h ∈ l, h.2 ≠ []) → backGo l out = out ++ bkN l
  | _, [], out, _, _ => by simp [backGo, bkN]
  | n + 1, h :: r, out, hn, hne => by
    have hh := hne h (by simp)
    have hr := fun x hx => hne x (List.mem_cons_of_mem _ hx)
    simp only [List.length_cons] at hn
    rw [backGo.eq_def, bkN.eq_def]
    dsimp only
    by_cases h1 : h.1 = 1
    · rw [if_pos h1, if_pos h1, backGo_bk n r _ (by omega) hr, putK_app hh]
      simp
    · rw [if_neg h1, if_neg h1]
      by_cases h3 : h.1 = 3
      · rw [if_pos h3, if_pos h3, backGo_bk n r _ (by omega) hr, putK_app hh]
        simp
      · rw [if_neg h3, if_neg h3]
        cases r with
        | nil => dsimp only; rw [putK_app hh]
        | cons g r' =>
          dsimp only
          have hg := hr g (by simp)
          simp only [List.length_cons] at hn
          by_cases e : g.1 = 3
          · rw [if_pos e, if_pos e, backGo_bk n r' _ (by omega) (fun x hx => hr x (List.mem_cons_of_mem _ hx)), putK_app hh, putK_app hg]
            simp
          · rw [if_neg e, if_neg e, backGo_bk n (g :: r') _ (by simp only [List.length_cons]; omega) hr, putK_app hh]
            simp
theorem back_bk {l : List HkI} (h : okB 0 l = true) : backI l = bkN l := by
  rw [← back_ref h, backGo_bk l.length l [] (Nat.le_refl _) (fun x hx => (okB_mem l 0 h x hx).2), List.nil_append]
theorem bk_one (x : List (List UInt8)) (r : List HkI) : bkN ((1, x) :: r) = (1, x) :: bkN r := by rw [bkN.eq_def]; simp
theorem bk_three (x : List (List UInt8)) (r : List HkI) : bkN ((3, x) :: r) = (2, x) :: bkN r := by rw [bkN.eq_def]; simp
theorem bk_two (x : List (List UInt8)) : bkN [(2, x)] = [(3, x)] := by rw [bkN.eq_def]; simp
theorem bk_two3 (x y : List (List UInt8)) (r : List HkI) : bkN ((2, x) :: (3, y) :: r) = (2, y) :: (3, x) :: bkN r := by rw [bkN.eq_def]; simp
theorem bk_two1 (x y : List (List UInt8)) (r : List HkI) : bkN ((2, x) :: (1, y) :: r) = (3, x) :: bkN ((1, y) :: r) := by rw [bkN.eq_def]; simp
theorem toI_pair (k : Nat) (x : List (List UInt8)) : toI (k, x) = ((k : Int), x) := rfl
theorem bk_bk : ∀ (n : Nat) (L : List Hk) (was : Nat), L.length ≤ n → okKinds was L → bkN ((bkN (L.map toI)).map toI) = L
  | _, [], _, _, _ => by simp [bkN]
  | n + 1, (k, x) :: r, was, hn, hok => by
    obtain ⟨⟨hk, hne, hwas, hno⟩, hok2⟩ := hok
    dsimp only at hk hne hwas hno hok2
    simp only [List.length_cons] at hn
    have h3 : k = 1 ∨ k = 2 ∨ k = 3 := by omega
    rcases h3 with rfl | rfl | rfl
    · have ih := bk_bk n r 1 (by omega) hok2
      rw [List.map_cons, toI_pair, show ((1 : Nat) : Int) = 1 from rfl, bk_one, List.map_cons, toI_pair, show ((1 : Nat) : Int) = 1 from rfl, bk_one, ih]
    · cases r with
      | nil =>
        simp only [List.map_cons, List.map_nil, toI_pair]
        rw [show ((2 : Nat) : Int) = 2 from rfl, bk_two]
        simp only [List.map_cons, List.map_nil, toI_pair]
        rw [show ((3 : Nat) : Int) = 3 from rfl, bk_three]
        simp [bkN]
      | cons g r' =>
        obtain ⟨k2, y⟩ := g
        obtain ⟨⟨gk, gne, gwas, gno⟩, hok3⟩ := hok2
        dsimp only at gk gne gwas gno hok3
        simp only [List.length_cons] at hn
        have g3 : k2 = 1 ∨ k2 = 3 := by omega
        rcases g3 with rfl | rfl
        · have ih := bk_bk n ((1, y) :: r') 2 (by simp only [List.length_cons]; omega) ⟨⟨gk, gne, gwas, gno⟩, hok3⟩
          simp only [List.map_cons, toI_pair] at ih ⊢
          rw [show ((2 : Nat) : Int) = 2 from rfl, show ((1 : Nat) : Int) = 1 from rfl] at *
          rw [bk_two1, List.map_cons, toI_pair, show ((3 : Nat) : Int) = 3 from rfl, bk_three, ih]
        · have ih := bk_bk n r' 3 (by omega) hok3
          simp only [List.map_cons, toI_pair]
          rw [show ((2 : Nat) : Int) = 2 from rfl, show ((3 : Nat) : Int) = 3 from rfl, bk_two3]
          simp only [List.map_cons, toI_pair]
          rw [show ((2 : Nat) : Int) = 2 from rfl, show ((3 : Nat) : Int) = 3 from rfl, bk_two3, ih]
    · cases r with
      | nil =>
        simp only [List.map_cons, List.map_nil, toI_pair]
        rw [show ((3 : Nat) : Int) = 3 from rfl, bk_three]
        simp only [List.map_cons, List.map_nil, toI_pair, bkN]
        rw [show ((2 : Nat) : Int) = 2 from rfl]
        simp
      | cons g r' =>
        obtain ⟨k2, y⟩ := g
        obtain ⟨⟨gk, gne, gwas, gno⟩, hok3⟩ := hok2
        dsimp only at gk gne gwas gno hok3
        obtain rfl : k2 = 1 := by omega
        simp only [List.length_cons] at hn
        have ih := bk_bk n ((1, y) :: r') 3 (by simp only [List.length_cons]; omega) ⟨⟨gk, gne, gwas, gno⟩, hok3⟩
        simp only [List.map_cons, toI_pair] at ih ⊢
        rw [show ((3 : Nat) : Int) = 3 from rfl, show ((1 : Nat) : Int) = 1 from rfl] at *
        rw [bk_one] at ih
        rw [bk_three, bk_one, List.map_cons, toI_pair, List.map_cons, toI_pair, show ((2 : Nat) : Int) = 2 from rfl, show ((1 : Nat) : Int) = 1 from rfl, bk_two1]
        rw [List.map_cons, toI_pair, show ((1 : Nat) : Int) = 1 from rfl] at ih
        rw [ih]
/-- back and back again -/
theorem back_back {H : List Hk} (h : okKinds 0 H) : backI ((backI (H.map toI)).map toI) = H := by
  have h1 : okB 0 (H.map toI) = true := (okB_to H 0).2 h
  have h2 := back_okB (H.map toI)
  rw [back_bk h2, back_bk h1]
  exact bk_bk H.length H 0 (Nat.le_refl _) h
theorem cost_opsB (X : List HkI) (h : ∀ x ∈ X, 1 ≤ x.1 ∧ x.1 ≤ 3) : costOps (opsB X) = distI X := by
  induction X with
  | nil => rfl
  | cons x X ih =>
    have hx := h x (by simp)
    have hrow : ∀ L : List (List UInt8), costOps (L.map (opB x.1)) = if x.1 = 2 ∨ x.1 = 3 then L.length else 0 := by
      intro L
      have hk3 : x.1 = 1 ∨ x.1 = 2 ∨ x.1 = 3 := by omega
      induction L with
      | nil => simp [costOps]
      | cons s L ihL =>
        unfold costOps at ihL ⊢
        rw [List.map_cons, List.map_cons, List.sum_cons, ihL]
        rcases hk3 with e | e | e <;> simp [e, opB, costOp] <;> omega
    rw [opsB_cons]
    unfold costOps at ih hrow ⊢
    rw [List.map_append, List.sum_append, ih (fun y hy => h y (List.mem_cons_of_mem _ hy)), hrow]
    unfold distI
    rw [List.map_cons, List.sum_cons]
theorem dist_back {X : List HkI} (h : okB 0 X = true) : distI ((backI X).map toI) = distI X := by
  rw [distI_to, ← cost_opsB X (fun x hx => (okB_mem X 0 h x hx).1)]
  unfold backI patchOf
  rw [distH_done, distSt_fold]
  simp [distSt, distH]
theorem dist_self : ∀ A : List (List UInt8), dist A A = 0
  | [] => by simp [dist]
  | x :: A => by rw [dist_same, dist_self A]
theorem dist_zero : ∀ (A C : List (List UInt8)), dist A C = 0 → A = C
  | [], C, h => by
    rw [dist] at h
    exact (List.eq_nil_of_length_eq_zero h).symm
  | x :: A, [], h => by simp [dist] at h
  | x :: A, y :: C, h => by
    rw [dist_cons] at h
    split at h
    · rename_i e
      rw [e, dist_zero A C h]
    · omega
theorem patch_zero {a b : List UInt8} : distI ((patchL (splitD a) (splitD b)).map toI) = 0 ↔ a = b := by
  rw [distI_to, patch_dist]
  constructor
  · intro h
    have := dist_zero _ _ h
    rw [← splitD_flat a, ← splitD_flat b, this]
  · rintro rfl
    exact dist_self _
end Go.Proofs.YtnbihjocdlpplaaDoor
/- Hunks whose lines grow: what lies where. -/
namespace Go.Proofs.YtnbihjocdlpplaaDoor
set_option linter.unusedVariables false
set_option linter.unusedSimpArgs false
open Go.RowKit
open Go.Lib hiding intOf
def slv (h : HCell) : Value := .slice h.2.1 h.2.2.1 h.2.2.2
structure PW (B : Nat) (w : World) (vo : Value) (hs : List HCell) (H : List Hk) : Prop where
  own : w.ownsRow B 80 2 vo hs.length (hs.flatMap hkCells)
  len : hs.length = H.length
  each : ∀ (k : Nat) (h : HCell) (x : Hk), hs[k]? = some h → H[k]? = some x → h.1 = x.1 ∧ StrOwn B (slv h) x.2 w
  dist : ∀ (i j : Nat) (p q : HCell), hs[i]? = some p → hs[j]? = some q → i ≠ j → (slv p).ownBlock = none ∨ (slv p).ownBlock ≠ (slv q).ownBlock
theorem PW.start (B : Nat) (w : World) : PW B w nilV [] [] :=
  ⟨World.ownsRow_nil _ _ _ _, rfl, fun k h x h1 => (by cases h1), fun i j p q h1 => (by cases h1)⟩
theorem PW.keep {B : Nat} {w w' : World} {vo : Value} {hs : List HCell} {H : List Hk} (h : PW B w vo hs H) (hb : Below w.heap.size w w') : PW B w' vo hs H :=
  ⟨own_below h.own hb, h.len, fun k c x h1 h2 => ⟨(h.each k c x h1 h2).1, (h.each k c x h1 h2).2.below hb⟩, h.dist⟩
theorem getElem?_snoc {α : Type} {l : List α} {x y : α} {i : Nat} (h : (l ++ [x])[i]? = some y) : (i < l.length ∧ l[i]? = some y) ∨ (i = l.length ∧ y = x) := by
  rcases Nat.lt_or_ge i l.length with h1 | h1
  · rw [List.getElem?_append_left h1] at h
    exact .inl ⟨h1, h⟩
  · have h2 := (List.getElem?_eq_some_iff.1 h).1
    rw [List.length_append, List.length_singleton] at h2
    obtain rfl : i = l.length := by omega
    rw [List.getElem?_concat_length] at h
    exact .inr ⟨rfl, (Option.some.inj h).symm⟩
/-- a hunk more, without lines -/
theorem PW.open {B : Nat} {w w' : World} {vo vo' : Value} {hs : List HCell} {H : List Hk} (h : PW B w vo hs H) (k : Nat) (hp : AppPost w B 80 2 vo hs.length (hs.flatMap hkCells) (hkCells (k, none, 0, 0)) vo' w') :
    PW B w' vo' (hs ++ [(k, none, 0, 0)]) (H ++ [(k, [])]) := by
  obtain ⟨p1, p2, p3⟩ := hp
  refine ⟨?_, by rw [List.length_append, List.length_append, h.len]; rfl, fun j c y h1 h2 => ?_, fun i j p q hi hj hij => ?_⟩
  · rw [List.length_append, List.flatMap_append]
    simpa using p1
  · rcases getElem?_snoc h1 with ⟨hj, h1⟩ | ⟨hj, rfl⟩
    · rw [List.getElem?_append_left (by rw [← h.len]; exact hj)] at h2
      obtain ⟨e1, e2⟩ := h.each j c y h1 h2
      exact ⟨e1, e2.grown p2 (own_apart_ty e2 h.own (by decide))⟩
    · rw [hj, h.len, List.getElem?_concat_length] at h2
      cases h2
      exact ⟨rfl, World.ownsRow_nil _ _ _ _⟩
  · rcases getElem?_snoc hi with ⟨_, hi⟩ | ⟨_, rfl⟩
    · rcases getElem?_snoc hj with ⟨_, hj⟩ | ⟨_, rfl⟩
      · exact h.dist i j p q hi hj hij
      · cases hb : (slv p).ownBlock with
        | none => exact .inl rfl
        | some b => exact .inr (by show some b ≠ none; simp)
    · exact .inl rfl
/-- where the hunks lie -/
theorem PW.at {B : Nat} {w : World} {vo : Value} {hs : List HCell} {H : List Hk} (h : PW B w vo hs H) {i : Nat} {c : HCell} (hi : hs[i]? = some c) :
    ∃ g cap, vo = .slice (some ⟨g, 0, none⟩) hs.length cap ∧ B ≤ g ∧ g < w.heap.size ∧ w.cell? ⟨g, i * 2, none⟩ = some (.int .i64 (c.1 : Int)) ∧ w.cell? ⟨g, i * 2 + 1, none⟩ = some (slv c) ∧ w.frozen? ⟨g, i * 2 + 1, none⟩ = false ∧ w.frozen? ⟨g, i * 2, none⟩ = false := by
  have hil := (List.getElem?_eq_some_iff.1 hi).1
  have hown := h.own
  obtain ⟨g, cap, rfl⟩ : ∃ g cap, vo = .slice (some ⟨g, 0, none⟩) hs.length cap := by
    rcases hown.2 with ⟨_, h0⟩ | ⟨g, cap, cur, hv, _⟩
    · omega
    · exact ⟨g, cap, hv⟩
  have hlt := hown.lt g rfl
  obtain ⟨_, cur, hcur⟩ := own_block hown (b := g) rfl
  have f0 := flat_at (f := hkCells) (c := 2) (fun _ => rfl) hi (j := 0) rfl
  have f1 := flat_at (f := hkCells) (c := 2) (fun _ => rfl) hi (j := 1) rfl
  have hl2 := hk_len hs
  refine ⟨g, cap, rfl, hlt.1, hlt.2, ?_, ?_, by simp [World.frozen?, hcur], by simp [World.frozen?, hcur]⟩
  · rw [World.ownsRow.cellAt hown (i * 2) (by omega)]; exact f0
  · rw [World.ownsRow.cellAt hown (i * 2 + 1) (by omega)]; exact f1
theorem hk_set (D : List HCell) (c c' : HCell) (hk : c.1 = c'.1) : ((D ++ [c]).flatMap hkCells).set (D.length * 2 + 1) (slv c') = (D ++ [c']).flatMap hkCells := by
  rw [List.flatMap_append, List.flatMap_append, List.set_append_right _ _ (by rw [hk_len]; omega), hk_len, Nat.add_sub_cancel_left]
  show _ ++ [Value.int .i64 (c.1 : Int), slv c'] = _ ++ [Value.int .i64 (c'.1 : Int), slv c']
  rw [hk]
/-- a line more in the last hunk: put into its row, the row put into the hunk -/
theorem PW.line {B : Nat} {w w1 : World} {g cap : Nat} {v' : Value} {D : List HCell} {c : HCell} {H : List Hk} {k : Nat} {L : List (List UInt8)} {x : List UInt8} (h : PW B w (.slice (some ⟨g, 0, none⟩) (D.length + 1) cap) (D ++ [c]) (H ++ [(k, L)]))
    (hp : AppPost w B 9 1 (slv c) L.length (L.map S1) [S1 x] v' w1) :
    ∃ c' : HCell, v' = slv c' ∧ c'.2.2.1 = L.length + 1 ∧ c'.1 = c.1 ∧ (∃ gl, c'.2.1 = some ⟨gl, 0, none⟩ ∧ B ≤ gl) ∧ w1.cell? ⟨g, D.length * 2 + 1, none⟩ = some (slv c) ∧ w1.frozen? ⟨g, D.length * 2 + 1, none⟩ = false ∧ B ≤ g ∧ g < w1.heap.size ∧
      PW B (w1.setCell ⟨g, D.length * 2 + 1, none⟩ v') (.slice (some ⟨g, 0, none⟩) (D.length + 1) cap) (D ++ [c']) (H ++ [(k, L ++ [x])]) ∧ w.grownBy w1 (slv c).ownBlock := by
  obtain ⟨p1, p2, p3⟩ := hp
  have hlen : D.length = H.length := by have := h.len; simpa using this
  obtain ⟨ek, hL⟩ := h.each D.length c (k, L) List.getElem?_concat_length (by rw [hlen]; exact List.getElem?_concat_length)
  dsimp only at ek hL
  have hnew : StrOwn B v' (L ++ [x]) w1 := StrOwn.push p1
  obtain ⟨gl, cl, rfl⟩ : ∃ gl cl, v' = .slice (some ⟨gl, 0, none⟩) (L.length + 1) cl := by
    rcases p1.2 with ⟨_, h0⟩ | ⟨g9, cap9, cur, hv, _⟩
    · omega
    · exact ⟨g9, cap9, hv⟩
  have hglB := (p1.lt gl rfl).1
  have hown1 : w1.ownsRow B 80 2 (.slice (some ⟨g, 0, none⟩) (D.length + 1) cap) (D.length + 1) ((D ++ [c]).flatMap hkCells) := by
    have := h.own
    rw [List.length_append, List.length_singleton] at this
    exact this.kept p2 (own_apart_ty this hL (by decide))
  have hB := hown1.lt g rfl
  have hfar : ∀ b, b < w.heap.size → (slv c).ownBlock ≠ some b → some gl ≠ some b := fun b hb hne e => by
    rcases p3 with p3 | p3
    · exact hne (p3 ▸ e)
    · have := p3 gl rfl
      cases e
      omega
  have hset := hown1.stored (D.length * 2 + 1) (slv (k, some ⟨gl, 0, none⟩, L.length + 1, cl))
  rw [hk_set D c (k, some ⟨gl, 0, none⟩, L.length + 1, cl) ek] at hset
  have hcell := hown1.cellAt (D.length * 2 + 1) (by omega)
  rw [flat_at (f := hkCells) (c := 2) (fun _ => rfl) (List.getElem?_concat_length (l := D) (a := c)) (j := 1) rfl] at hcell
  -- the other rows of lines
  have hoth : ∀ (j : Nat) (c2 : HCell) (y : Hk), j < D.length → D[j]? = some c2 → H[j]? = some y → StrOwn B (slv c2) y.2 w1 := fun j c2 y hj h1 h2 => by
    obtain ⟨_, e2⟩ := h.each j c2 y (by rw [List.getElem?_append_left hj]; exact h1) (by rw [List.getElem?_append_left (by omega)]; exact h2)
    exact e2.grown p2 (h.dist j D.length c2 c (by rw [List.getElem?_append_left hj]; exact h1) List.getElem?_concat_length (by omega))
  have hstr : ∀ (v : Value) (M : List (List UInt8)), StrOwn B v M w1 → StrOwn B v M (w1.setCell ⟨g, D.length * 2 + 1, none⟩ (slv (k, some ⟨gl, 0, none⟩, L.length + 1, cl))) := fun v M hv => hv.grown (grownBy_setCell w1 g _ _) (own_apart_ty hv hown1 (by decide))
  have hnone : ∀ (j : Nat) (c2 : HCell), j < D.length → D[j]? = some c2 → (slv c2).ownBlock = none ∨ (slv c2).ownBlock ≠ some gl := fun j c2 hj h1 => by
    obtain ⟨y, hy⟩ : ∃ y, H[j]? = some y := ⟨H[j]'(by omega), by simp⟩
    obtain ⟨_, e2⟩ := h.each j c2 y (by rw [List.getElem?_append_left hj]; exact h1) (by rw [List.getElem?_append_left (by omega)]; exact hy)
    cases hb : (slv c2).ownBlock with
    | none => exact .inl rfl
    | some b =>
      refine .inr fun e => ?_
      have hbl := (e2.lt b hb).2
      refine hfar b hbl (fun e3 => ?_) e.symm
      rcases h.dist j D.length c2 c (by rw [List.getElem?_append_left hj]; exact h1) List.getElem?_concat_length (by omega) with h9 | h9
      · rw [hb] at h9; cases h9
      · exact h9 (hb.trans e3.symm)
  refine ⟨(k, some ⟨gl, 0, none⟩, L.length + 1, cl), rfl, rfl, ek.symm, ⟨gl, rfl, hglB⟩, hcell, hown1.frozenAt _, hB.1, hB.2, ⟨?_, by simp [hlen], fun j c2 y h1 h2 => ?_, fun i j p q hi hj hij => ?_⟩, p2⟩
  · rw [List.length_append, List.length_singleton]
    exact hset.1
  · rcases getElem?_snoc h1 with ⟨hj, h1⟩ | ⟨hj, rfl⟩
    · rw [List.getElem?_append_left (by omega)] at h2
      have e1 := (h.each j c2 y (by rw [List.getElem?_append_left hj]; exact h1) (by rw [List.getElem?_append_left (by omega)]; exact h2)).1
      exact ⟨e1, hstr _ _ (hoth j c2 y hj h1 h2)⟩
    · rw [hj, hlen, List.getElem?_concat_length] at h2
      cases h2
      exact ⟨rfl, hstr _ _ hnew⟩
  · rcases getElem?_snoc hi with ⟨hil, hi⟩ | ⟨hil, rfl⟩
    · rcases getElem?_snoc hj with ⟨hjl, hj⟩ | ⟨hjl, rfl⟩
      · exact h.dist i j p q (by rw [List.getElem?_append_left hil]; exact hi) (by rw [List.getElem?_append_left hjl]; exact hj) hij
      · exact hnone i p hil hi
    · rcases getElem?_snoc hj with ⟨hjl, hj⟩ | ⟨hjl, rfl⟩
      · rcases hnone j q hjl hj with h9 | h9
        · exact .inr (by rw [h9]; show some gl ≠ none; simp)
        · exact .inr (Ne.symm h9)
      · omega
/-- the last line's text, another -/
theorem PW.cut {B : Nat} {w : World} {vo : Value} {D : List HCell} {c : HCell} {H : List Hk} {k gl : Nat} {L : List (List UInt8)} {x y : List UInt8} (h : PW B w vo (D ++ [c]) (H ++ [(k, L ++ [x])])) (hc : c.2.1 = some ⟨gl, 0, none⟩) :
    w.cell? ⟨gl, L.length, none⟩ = some (S1 x) ∧ w.frozen? ⟨gl, L.length, none⟩ = false ∧ B ≤ gl ∧ gl < w.heap.size ∧ PW B (w.setCell ⟨gl, L.length, none⟩ (S1 y)) vo (D ++ [c]) (H ++ [(k, L ++ [y])]) := by
  have hlen : D.length = H.length := by have := h.len; simpa using this
  obtain ⟨ek, hL⟩ := h.each D.length c (k, L ++ [x]) List.getElem?_concat_length (by rw [hlen]; exact List.getElem?_concat_length)
  dsimp only at ek hL
  obtain ⟨kc, ac, nc, cc⟩ := c
  dsimp only at hc
  subst hc
  have hbk : (slv (kc, some ⟨gl, 0, none⟩, nc, cc)).ownBlock = some gl := rfl
  unfold StrOwn at hL
  have hnl : nc = (L ++ [x]).length := by
    rcases hL.2 with ⟨h9, _⟩ | ⟨g9, cap9, cur, hv, _⟩
    · cases h9
    · cases hv; rfl
  subst hnl
  have hlt := hL.lt gl hbk
  have hcell := hL.cellAt L.length (by simp)
  have hget : ((L ++ [x]).map S1)[L.length]? = some (S1 x) := by rw [List.getElem?_map, List.getElem?_concat_length]; rfl
  rw [hget] at hcell
  have hs := hL.stored L.length (S1 y)
  have hmap : ((L ++ [x]).map S1).set L.length (S1 y) = (L ++ [y]).map S1 := by
    rw [List.map_append, List.map_append, List.set_append_right _ _ (by simp)]
    simp
  rw [hmap] at hs
  have hlen2 : (L ++ [x]).length = (L ++ [y]).length := by simp
  have hgr := grownBy_setCell w gl L.length (S1 y)
  refine ⟨hcell, hL.frozenAt _, hlt.1, hlt.2, ⟨h.own.kept hgr (by rw [← hbk]; exact own_apart_ty h.own hL (by decide)), by simp [hlen], fun j c2 z h1 h2 => ?_, h.dist⟩⟩
  rcases getElem?_snoc h1 with ⟨hj, h1'⟩ | ⟨hj, rfl⟩
  · rw [List.getElem?_append_left (by omega)] at h2
    obtain ⟨e1, e2⟩ := h.each j c2 z h1 (by rw [List.getElem?_append_left (by omega)]; exact h2)
    exact ⟨e1, e2.grown hgr (by rw [← hbk]; exact h.dist j D.length c2 _ h1 List.getElem?_concat_length (by omega))⟩
  · rw [hj, hlen, List.getElem?_concat_length] at h2
    cases h2
    refine ⟨ek, ?_⟩
    unfold StrOwn
    rw [← hlen2]
    exact hs.1
/-- the hunks as rows that are read -/
theorem PW.sw {B : Nat} {w : World} {vo : Value} {hs : List HCell} {H : List Hk} (h : PW B w vo hs H) : SW B w vo hs H [] := by
  refine ⟨h.own, h.len, fun j c y h1 h2 => ?_, fun p hp => (by cases hp), fun i j p q hi => (by cases hi), fun i j p q ad ad' hi hj h1 h2 e => ?_⟩
  · obtain ⟨e1, e2⟩ := h.each j c y h1 h2
    obtain ⟨kc, ac, nc, cc⟩ := c
    obtain ⟨a', c9, he, g2, g3, g4⟩ := readsS_own e2
    cases he
    refine ⟨e1, g3, g4, g2, fun ad had => ?_⟩
    have had : ac = some ad := had
    subst had
    obtain ⟨f1, cur, f2⟩ := own_block e2 (b := ad.block) rfl
    exact ⟨f1, ⟨cur, f2⟩, fun p hp => (by cases hp)⟩
  · apply Decidable.byContradiction
    intro hij
    obtain ⟨kp, ap, np, cp⟩ := p
    obtain ⟨kq, aq, nq, cq⟩ := q
    dsimp only at h1 h2
    subst h1
    subst h2
    rcases h.dist i j _ _ hi hj hij with h9 | h9
    · cases h9
    · exact h9 (congrArg some e)
/-- a hunk's row clipped -/
theorem SW.clip {B : Nat} {w : World} {g cap : Nat} {hs : List HCell} {H : List Hk} (h : SW B w (.slice (some ⟨g, 0, none⟩) hs.length cap) hs H []) {i : Nat} {c : HCell} (hi : hs[i]? = some c) :
    w.cell? ⟨g, i * 2 + 1, none⟩ = some (slv c) ∧ w.frozen? ⟨g, i * 2 + 1, none⟩ = false ∧ B ≤ g ∧ g < w.heap.size ∧
      SW B (w.setCell ⟨g, i * 2 + 1, none⟩ (.slice c.2.1 c.2.2.1 c.2.2.1)) (.slice (some ⟨g, 0, none⟩) hs.length cap) (hs.set i (c.1, c.2.1, c.2.2.1, c.2.2.1)) H [] := by
  have hil := (List.getElem?_eq_some_iff.1 hi).1
  have hl2 := hk_len hs
  have hB := h.own.lt g rfl
  have f1 := flat_at (f := hkCells) (c := 2) (fun _ => rfl) hi (j := 1) rfl
  have hcell := h.own.cellAt (i * 2 + 1) (by omega)
  rw [f1] at hcell
  have hs2 := h.own.stored (i * 2 + 1) (.slice c.2.1 c.2.2.1 c.2.2.1)
  have hset : (hs.flatMap hkCells).set (i * 2 + 1) (.slice c.2.1 c.2.2.1 c.2.2.1) = (hs.set i (c.1, c.2.1, c.2.2.1, c.2.2.1)).flatMap hkCells := by
    clear hs2 hcell f1 hB hl2 h
    induction hs generalizing i with
    | nil => simp at hil
    | cons d r ih =>
      cases i with
      | zero =>
        simp only [List.getElem?_cons_zero, Option.some.injEq] at hi
        subst hi
        rfl
      | succ i =>
        simp only [List.getElem?_cons_succ] at hi
        rw [List.set_cons_succ, List.flatMap_cons, List.flatMap_cons, ← ih hi (by simpa using hil)]
        show ([_, _] ++ r.flatMap hkCells).set ((i + 1) * 2 + 1) _ = _
        rw [show (i + 1) * 2 + 1 = (i * 2 + 1) + 2 by omega]
        rfl
  rw [hset] at hs2
  have hgr := grownBy_setCell w g (i * 2 + 1) (.slice c.2.1 c.2.2.1 c.2.2.1)
  refine ⟨hcell, h.own.frozenAt _, hB.1, hB.2, ⟨?_, by rw [List.length_set]; exact h.len, fun j d y h1 h2 => ?_, fun p hp => (by cases hp), fun i j p q hi => (by cases hi), fun i1 j1 p q ad ad' hi1 hj1 h1 h2 e => ?_⟩⟩
  · rw [List.length_set]
    exact hs2.1
  · have key : ∀ d0 : HCell, hs[j]? = some d0 → d0.1 = y.1 ∧ d0.2.2.1 ≤ d0.2.2.2 ∧ d0.2.2.2 ≤ maxLen ∧ ReadsS (w.setCell ⟨g, i * 2 + 1, none⟩ (.slice c.2.1 c.2.2.1 c.2.2.1)) d0.2.1 d0.2.2.1 y.2 ∧ ∀ ad, d0.2.1 = some ad → B ≤ ad.block ∧ (∃ cur, (w.setCell ⟨g, i * 2 + 1, none⟩ (.slice c.2.1 c.2.2.1 c.2.2.1)).heap[ad.block]? = some (.cells cur 9 (0, 0))) ∧ ∀ p ∈ ([] : List Wait), p.1.ownBlock ≠ some ad.block := fun d0 hd => by
      obtain ⟨q1, q2, q3, q4, q5⟩ := h.each j d0 y hd h2
      have hne : ∀ ad, d0.2.1 = some ad → ad.block ≠ g := fun ad had e => by
        obtain ⟨_, ⟨cur, hcur⟩, _⟩ := q5 ad had
        obtain ⟨_, c2, h3⟩ := own_block h.own (b := g) rfl
        rw [e, h3] at hcur
        cases hcur
      refine ⟨q1, q2, q3, q4.grown hgr (fun ad had e => hne ad had (by cases e; rfl)), fun ad had => ?_⟩
      obtain ⟨f1, ⟨cur, f2⟩, f3⟩ := q5 ad had
      exact ⟨f1, ⟨cur, by rw [hgr.block _ (Array.getElem?_eq_some_iff.1 f2).1 (fun e => hne ad had (by cases e; rfl))]; exact f2⟩, f3⟩
    by_cases hji : i = j
    · subst hji
      rw [List.getElem?_set_self hil] at h1
      cases h1
      obtain ⟨q1, q2, q3, q4, q5⟩ := key c hi
      exact ⟨q1, Nat.le_refl _, Nat.le_trans q2 q3, q4, q5⟩
    · rw [List.getElem?_set_ne hji] at h1
      exact key d h1
  · have key : ∀ (j : Nat) (d : HCell), (hs.set i (c.1, c.2.1, c.2.2.1, c.2.2.1))[j]? = some d → ∃ d0, hs[j]? = some d0 ∧ d0.2.1 = d.2.1 := fun j d hd => by
      by_cases hji : i = j
      · subst hji
        rw [List.getElem?_set_self hil] at hd
        cases hd
        exact ⟨c, hi, rfl⟩
      · rw [List.getElem?_set_ne hji] at hd
        exact ⟨d, hd, rfl⟩
    obtain ⟨p0, hp0, ep⟩ := key i1 p hi1
    obtain ⟨q0, hq0, eq⟩ := key j1 q hj1
    exact h.dist i1 j1 p0 q0 ad ad' hp0 hq0 (ep.trans h1) (eq.trans h2) e
end Go.Proofs.YtnbihjocdlpplaaDoor
