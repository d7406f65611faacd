/- Texts joined, one behind the other (LDiffPatches, DSpl, DSplB, DLetter). -/
import Derived.Test.YtnbihjocdlpplaaDoorDp22
/- DiffPatches: the walk. -/
namespace Go.Proofs.YtnbihjocdlpplaaDoor
set_option linter.unusedVariables false
set_option linter.unusedSimpArgs false
open Go.RowKit
open Go.Lib hiding intOf
theorem sum_fit {X : List HkI} (h : hunkSum X ≤ 1048576) : Fit X := by
  have := hunkSum_fit X
  exact ⟨by omega, by omega, by omega⟩
def backH (X : List HkI) : List Hk := if checkB X = true then backI X else []
theorem opsB_lines (X : List HkI) (h : ∀ x ∈ X, 1 ≤ x.1 ∧ x.1 ≤ 3) : (opsB X).flatMap lineA = sideI 3 X ∧ (opsB X).flatMap lineB = sideI 2 X := by
  induction X with
  | nil => exact ⟨rfl, rfl⟩
  | cons x X ih =>
    obtain ⟨i1, i2⟩ := ih (fun y hy => h y (List.mem_cons_of_mem _ hy))
    have hk := h x (by simp)
    have hrow : ∀ L : List (List UInt8), (L.map (opB x.1)).flatMap lineA = (if x.1 = 1 ∨ x.1 = 3 then L else []) ∧ (L.map (opB x.1)).flatMap lineB = (if x.1 = 1 ∨ x.1 = 2 then L else []) := by
      intro L
      have hk3 : x.1 = 1 ∨ x.1 = 2 ∨ x.1 = 3 := by omega
      induction L with
      | nil => simp
      | cons s L ihL =>
        rw [List.map_cons, List.flatMap_cons, List.flatMap_cons, ihL.1, ihL.2]
        rcases hk3 with e | e | e <;> simp [e, opB, lineA, lineB]
    rw [opsB_cons, List.flatMap_append, List.flatMap_append, i1, i2, (hrow x.2).1, (hrow x.2).2]
    unfold sideI
    rw [List.flatMap_cons, List.flatMap_cons]
    exact ⟨rfl, rfl⟩
theorem back_okB (X : List HkI) : okB 0 ((backI X).map toI) = true := (okB_to _ 0).2 (patchOf_ok _)
theorem back_sides {X : List HkI} (h : okB 0 X = true) : sideI 2 ((backI X).map toI) = sideI 3 X ∧ sideI 3 ((backI X).map toI) = sideI 2 X := by
  have hl := opsB_lines X (fun x hx => (okB_mem X 0 h x hx).1)
  have hp := patchOf_sides (opsB X)
  have e2 := sideI_to 2 (backI X)
  have e3 := sideI_to 3 (backI X)
  exact ⟨(e2.trans hp.1).trans hl.1, (e3.trans hp.2).trans hl.2⟩
theorem check_parts {X : List HkI} (h : checkB X = true) : okB 0 X = true ∧ wholeB (sideI 2 X) = true ∧ wholeB (sideI 3 X) = true := by
  unfold checkB at h
  rw [Bool.and_eq_true, Bool.and_eq_true] at h
  exact ⟨h.1.1, h.1.2, h.2⟩
theorem back_check {X : List HkI} (h : checkB X = true) : checkB ((backI X).map toI) = true := by
  obtain ⟨h1, h2, h3⟩ := check_parts h
  unfold checkB
  rw [back_okB, (back_sides h1).1, (back_sides h1).2, h2, h3]
  rfl
theorem hunks_small {H : List Hk} (h : checkB (H.map toI) = true) : (∀ x ∈ H, (1 ≤ x.1 ∧ x.1 ≤ 3) ∧ x.2 ≠ [] ∧ x.2.length ≤ 1024) ∧ H.length ≤ 1024 := by
  obtain ⟨h1, _, _⟩ := check_parts h
  have hm := okB_mem _ 0 h1
  have hl := check_lines h
  have h3 := len_lines _ (fun x hx => (hm x hx).2)
  rw [List.length_map] at h3
  refine ⟨fun x hx => ?_, by omega⟩
  have q1 := hm (toI x) (List.mem_map.2 ⟨x, hx, rfl⟩)
  have q2 := linesK_mem (List.mem_map.2 ⟨x, hx, rfl⟩ : toI x ∈ H.map toI)
  have e1 : (toI x).1 = (x.1 : Int) := rfl
  have e2 : (toI x).2 = x.2 := rfl
  rw [e1, e2] at q1
  rw [e2] at q2
  exact ⟨⟨by omega, by omega⟩, q1.2, by omega⟩
theorem backH_ok (X : List HkI) : (∀ x ∈ backH X, (1 ≤ x.1 ∧ x.1 ≤ 3) ∧ x.2 ≠ [] ∧ x.2.length ≤ 1024) ∧ (backH X).length ≤ 1024 := by
  unfold backH
  by_cases h : checkB X = true
  · rw [if_pos h]
    exact hunks_small (back_check h)
  · rw [if_neg h]
    exact ⟨fun x hx => (by cases hx), Nat.zero_le _⟩
theorem back_own {w w' : World} {X : List HkI} {e : Ending} (h : BackP w X e w') : ∃ v B, e = .returned (.tuple #[v, .int .i64 (errP (checkB X))]) ∧ PatchAt B w' v (backH X) ∧ w.heap.size ≤ B ∧ B ≤ w'.heap.size ∧ Below w.heap.size w w' := by
  rcases h with ⟨h, he, hb⟩ | ⟨h, v, B, he, hP, h1, h2, hb⟩
  · refine ⟨.slice none 0 0, w.heap.size, by rw [he, h]; rfl, ?_, Nat.le_refl _, hb.size, hb⟩
    unfold backH
    rw [h]
    exact ⟨none, 0, [], rfl, SW.start _ _ _ (fun p hp => by cases hp), fun x hx => by cases hx⟩
  · refine ⟨v, B, by rw [he, h]; rfl, ?_, h1, h2, hb⟩
    unfold backH
    rw [if_pos h]
    exact hP
theorem back_read {w w' : World} {X : List HkI} {e : Ending} (h : BackQ w X e w') : ∃ a c, e = .returned (.tuple #[.slice a (backH X).length c, .int .i64 (errP (checkB X))]) ∧ ReadsK w' a (backH X).length ((backH X).map toI) ∧ Below w.heap.size w w' := by
  rcases h with ⟨h, he, hb⟩ | ⟨h, a, c, he, hr, hb⟩
  · refine ⟨none, 0, by rw [he]; unfold backH; rw [h]; rfl, ?_, hb⟩
    unfold backH
    rw [h]
    exact ReadsK.nil _ _
  · refine ⟨a, c, by rw [he]; unfold backH; rw [if_pos h, h]; rfl, ?_, hb⟩
    unfold backH
    rw [if_pos h]
    exact hr
theorem apply_parts (s : List UInt8) (X : List HkI) : ∃ T E, applyE s X = .returned (.tuple #[.string (bstr T), .int .i64 E]) := by
  unfold applyE
  split
  · exact ⟨_, _, rfl⟩
  · exact ⟨_, _, rfl⟩
set_option maxHeartbeats 8000000 in
set_option maxRecDepth 100000 in
theorem diffPatches_walk (w : World) (a : Option Addr) (n c : Nat) (X : List HkI) (hX : ReadsK w a n X) (hnc : n ≤ c) (hcm : c ≤ maxLen) (hs : hunkSum X ≤ 1048576) (s : List UInt8) (hsl : s.length ≤ 1048576) (hT : Tabs w) :
    Calls Tryd.prog 5 #[.slice a n c, .string (bstr s)] w fun e w' => e = .returned (.bool true) ∧ Below w.heap.size w w' := by
  have HF := Lib.hid (sum_fit hs)
  have HT := Lib.hid hT
  have HX := Lib.hid hX
  have hok := backH_ok X
  have hn : n ≤ 1048576 := by rw [← hX.len]; have := hunkSum_fit X; omega
  obtain ⟨cd, hcd⟩ : ∃ cd, cd = errP (checkB X) := ⟨_, rfl⟩
  obtain ⟨ds, hds⟩ : ∃ ds : Int, ds = (distI X : Int) := ⟨_, rfl⟩
  obtain ⟨T, E, hTE⟩ := apply_parts s X
  obtain ⟨H, hH⟩ : ∃ H, H = backH X := ⟨_, rfl⟩
  have HS := Lib.hid (spareC w a n c X hX HF.out)
  have HCK := Lib.hid (fun W a c (hR : ReadsK W a n X) hW => checkC W a n c X hR HF.out hW)
  have HCR := Lib.hid (fun W a c (hR : ReadsK W a n X) => checkR W a n c X hR HF.out)
  have HDK := Lib.hid (fun W a c (hR : ReadsK W a n X) => distC W a n c X hR HF.out)
  have HDR := Lib.hid (fun W a c (hR : ReadsK W a n X) => distR W a n c X hR HF.out)
  have HAK := Lib.hid (fun W a c (hR : ReadsK W a n X) hW => applyC W s a n c X hR HF.out hW)
  have HAR := Lib.hid (fun W a c (hR : ReadsK W a n X) => applyR W s a n c X hR HF.out)
  have HBK := Lib.hid (fun W a c (hR : ReadsK W a n X) hW => (backC W a n c X hR HF.out hW).mono (fun e w' h => back_own h))
  have HBR := Lib.hid (fun W a c (hR : ReadsK W a n X) => (backR W a n c X hR HF.out).mono (fun e w' h => back_read h))
  rw [← hcd] at HCK HCR HBK HBR
  rw [← hds] at HDK HDR
  rw [hTE] at HAK HAR
  rw [← hH] at HBK HBR hok
  have HOK := Lib.hid hok
  have hHl := hok.2
  have HLI := Lib.hid (lenI (fun x hx => (HOK.out.1 x hx).2.2))
  have b1 : (cd != cd) = false := by simp
  have b2 : (ds != ds) = false := by simp
  have b3 : (T != T) = false := by simp
  have b3' : (T == T) = true := by simp
  have b4 : (E != E) = false := by simp
  have b5 : (cd == cd) = true := by simp
  clear hT hX hok hcd hds hTE hH hs hsl
  go_enter Tryd.func5, Tryd.ntmps5
  go_upto_region 2 with (go_at_call 18; refine (HS.out).mono ?_; rintro e w1 ⟨a1, c1, rfl, hS1, hb1⟩; have HS1 := Lib.hid hS1; have HB1 := Lib.hid hb1; clear hS1 hb1)
  have hk : ∀ W, Below w1.heap.size w1 W → SpareK W a1 n c1 X ∧ ReadsK W a1 n X ∧ ReadsK W a n X ∧ Tabs W ∧ Below w.heap.size w W := fun W hW => by
    have h1 := HS1.out.keep hW
    have h2 : Below w.heap.size w W := HB1.out.trans (hW.mono HB1.out.size)
    exact ⟨h1, h1.reads, HX.out.keep h2 (Nat.le_refl _), HT.out.next h2, h2⟩
  have HK := Lib.hid hk
  have HZ := Lib.hid (Below.refl w1.heap.size w1)
  clear hk
  go_upto_region 4 with (first
    | (go_at_call 19; refine (HCK.out w1 a1 c1 (HK.out w1 HZ.out).2.1 (HK.out w1 HZ.out).2.2.2.1).mono ?_; rintro e w2 ⟨rfl, hb⟩; have HB2 := Lib.hid hb; clear hb)
    | (go_at_call 20; refine (HCR.out w2 a c (HK.out w2 HB2.out).2.2.1).mono ?_; rintro e w3 ⟨rfl, hb⟩; have HB3 := Lib.hid (below_next HB2.out (Nat.le_refl _) hb); clear hb)
    | (go_at_call 17; refine (HDK.out w3 a1 c1 (HK.out w3 HB3.out).2.1).mono ?_; rintro e w4 ⟨rfl, hb⟩; have HB4 := Lib.hid (below_next HB3.out (Nat.le_refl _) hb); clear hb)
    | (go_at_call 21; refine (HDR.out w4 a c (HK.out w4 HB4.out).2.2.1).mono ?_; rintro e w5 ⟨rfl, hb⟩; have HB5 := Lib.hid (below_next HB4.out (Nat.le_refl _) hb); clear hb))
  go_upto_region 8 with (first
    | (go_at_call 22; refine (HAK.out w5 a1 c1 (HK.out w5 HB5.out).2.1 (HK.out w5 HB5.out).2.2.2.1).mono ?_; rintro e w6 ⟨rfl, hb⟩; have HB6 := Lib.hid (below_next HB5.out (Nat.le_refl _) hb); clear hb)
    | (go_at_call 23; refine (HAR.out w6 a c (HK.out w6 HB6.out).2.2.1).mono ?_; rintro e w7 ⟨rfl, hb⟩; have HB7 := Lib.hid (below_next HB6.out (Nat.le_refl _) hb); clear hb))
  go_upto_region 9 with (go_at_call 24; refine (HBK.out w7 a1 c1 (HK.out w7 HB7.out).2.1 (HK.out w7 HB7.out).2.2.2.1).mono ?_; rintro e w8 ⟨v8, C8, rfl, hP, hL, hz, hb⟩; obtain ⟨a8, rfl, hr⟩ := hP.reads; have HP8 := Lib.hid hP; have HR8 := Lib.hid hr; have HL8 := Lib.hid hL; have HZ8 := Lib.hid hz; have Hb8 := Lib.hid hb; have HB8 := Lib.hid (below_next HB7.out (Nat.le_refl _) hb); clear hP hr hL hz hb)
  go_upto_region 10 with (go_at_call 24; refine (HBK.out w8 a1 c1 (HK.out w8 HB8.out).2.1 (HK.out w8 HB8.out).2.2.2.1).mono ?_; rintro e w9 ⟨v9, C9, rfl, hP, hL, hz, hb⟩; obtain ⟨a9, rfl, hr⟩ := hP.reads; have HP9 := Lib.hid hP; have HR9 := Lib.hid hr; have HL9 := Lib.hid hL; have HZ9 := Lib.hid hz; have Hb9 := Lib.hid hb; have HB9 := Lib.hid (below_next HB8.out (Nat.le_refl _) hb); clear hP hr hL hz hb)
  go_upto_region 11 with (go_at_call 25; refine (HBR.out w9 a c (HK.out w9 HB9.out).2.2.1).mono ?_; rintro e w10 ⟨a10, c10, rfl, hr, hb⟩; have HR10 := Lib.hid hr; have Hb10 := Lib.hid hb; have HB10 := Lib.hid (below_next HB9.out (Nat.le_refl _) hb); clear hr hb)
  have R8 : Hid (ReadsK w10 a8 H.length (H.map toI)) := Lib.hid ((HR8.out.keep Hb9.out (Nat.le_refl _)).keep Hb10.out (Nat.le_refl _))
  have R9 : Hid (ReadsK w10 a9 H.length (H.map toI)) := Lib.hid (HR9.out.keep Hb10.out (Nat.le_refl _))
  have s8 := Hb8.out.size
  have s9 := Hb9.out.size
  have s10 := Hb10.out.size
  have s7 := HB7.out.size
  have s1 := HB1.out.size
  obtain ⟨m, hm⟩ : ∃ m, m = H.length := ⟨_, rfl⟩
  rw [← hm] at R8 R9 HR10 hHl ⊢
  have HM := Lib.hid hm
  clear hm
  go_wp2_with (first
    | (go_at_call_of 12 (Value.slice a8 m m); refine (eqHunks w10 a8 a10 m m c10 _ R8.out HR10.out (by omega) HLI.out).mono ?_; rintro e w11 ⟨rfl, hq⟩; have HQ11 := Lib.hid hq; clear hq)
    | (go_at_call_of 12 (Value.slice a9 m m); refine (eqHunks w11 a9 a10 m m c10 _ (R9.out.quiet HQ11.out) (HR10.out.quiet HQ11.out) (by omega) HLI.out).mono ?_; rintro e w12 ⟨rfl, hq⟩; have HQ12 := Lib.hid (HQ11.out.trans hq); have HB12 := Lib.hid (HB10.out.trans (HQ12.out.below _)); clear hq)
    | (go_at_call 26; refine (keptC _ a1 a n c1 c X (HK.out w12 HB12.out).1 (HK.out w12 HB12.out).2.2.1 HF.out).mono ?_; rintro e w13 ⟨rfl, hq⟩; have HQ13 := Lib.hid (HQ12.out.trans hq); have HB13 := Lib.hid (HB12.out.trans (hq.below _)); clear hq)
    | (go_at_call 13; refine (apartC w8 w13 C8 C9 _ _ H H (HM.out ▸ HP8.out) (Hb9.out.trans ((Hb10.out.trans (HQ13.out.below _)).mono s9)) (HM.out ▸ (HP9.out.keep (Hb10.out.trans ((HQ13.out.below _).mono s10)))) HZ8.out HL9.out (fun x hx => (HOK.out.1 x hx).2.1) (fun x hx => (HOK.out.1 x hx).2.1) (by rw [← HM.out]; omega) (by rw [← HM.out]; omega) (fun x hx => by have := (HOK.out.1 x hx).2.2; omega) (fun x hx => by have := (HOK.out.1 x hx).2.2; omega) (fun x hx => by have := (HOK.out.1 x hx).1; omega)).mono ?_; rintro e w14 ⟨rfl, hb⟩; have HB14 : Hid (Below w1.heap.size w1 w14) := Lib.hid (HB13.out.trans (hb.mono (Nat.le_trans s7 HL8.out))); clear hb)
    | (go_at_call 26; refine (keptC w14 a1 a n c1 c X (HK.out w14 HB14.out).1 (HK.out w14 HB14.out).2.2.1 HF.out).mono ?_; rintro e w15 ⟨rfl, hq⟩; have HB15 := Lib.hid (HB14.out.trans (hq.below _)); clear hq)
    | (go_at_call 14; refine (worksC w15 (HK.out w15 HB15.out).2.2.2.1).mono ?_; rintro e w16 ⟨rfl, hb⟩; have HB16 := Lib.hid (below_next HB15.out (Nat.le_refl _) hb); clear hb))
  go_ret
  exact ⟨rfl, (HK.out _ HB16.out).2.2.2.2⟩
end Go.Proofs.YtnbihjocdlpplaaDoor
/- The plain law of a text's lines, from the front: where a line ends is told by four bytes. -/
namespace Go.Proofs.YtnbihjocdlpplaaDoor
set_option linter.unusedVariables false
set_option linter.unusedSimpArgs false
open Go.Lib
/-- how wide the line end is that begins with byte b0, behind byte p, ahead of b1, b2 -/
def E4 (p b0 b1 b2 : Nat) : Nat :=
  if b0 = 10 then (if p = 13 then 0 else 1)
  else if b0 = 13 then (if b1 = 10 then 2 else 1)
  else if b0 = 194 ∧ b1 = 133 then 2
  else if b0 = 226 ∧ b1 = 128 ∧ (b2 = 168 ∨ b2 = 169) then 3 else 0
def byteN (l : List UInt8) (i : Nat) : Nat := (l.getD i 0).toNat
def prevN (l : List UInt8) (i : Nat) : Nat := if i = 0 then 0 else byteN l (i - 1)
theorem byteN_out {l : List UInt8} {i : Nat} (h : l.length ≤ i) : byteN l i = 0 := by
  unfold byteN
  rw [List.getD_eq_getElem?_getD, List.getElem?_eq_none h]
  rfl
theorem byteN_lt {l : List UInt8} {i : Nat} (h : byteN l i ≠ 0) : i < l.length := by
  rcases Nat.lt_or_ge i l.length with h1 | h1
  · exact h1
  · exact absurd (byteN_out h1) h
theorem endL_E4 (l : List UInt8) (i : Nat) : endL l i = E4 (prevN l i) (byteN l i) (byteN l (i + 1)) (byteN l (i + 2)) := by
  by_cases hi : l.length ≤ i
  · unfold endL
    rw [if_pos hi, byteN_out hi]
    rfl
  · have hs := dec_sep (D := l.drop i)
    simp only [getD_drop, List.length_drop] at hs
    unfold endL
    rw [if_neg hi]
    unfold E4
    show (if byteN l i = 10 then _ else _) = _
    by_cases h1 : byteN l i = 10
    · rw [if_pos h1, if_pos h1]
      unfold prevN
      by_cases h0 : i = 0
      · rw [if_pos h0, if_neg (by omega), if_neg (by omega)]
      · rw [if_neg h0]
        show (if 0 < i ∧ byteN l (i - 1) = 13 then _ else _) = _
        by_cases h2 : byteN l (i - 1) = 13
        · rw [if_pos ⟨by omega, h2⟩, if_pos h2]
        · rw [if_neg (fun h => h2 h.2), if_neg h2]
    · rw [if_neg h1, if_neg h1]
      show (if byteN l i = 13 then _ else _) = _
      by_cases h2 : byteN l i = 13
      · rw [if_pos h2, if_pos h2]
        show (if i + 1 < l.length ∧ byteN l (i + 1) = 10 then _ else _) = _
        by_cases h3 : byteN l (i + 1) = 10
        · rw [if_pos ⟨byteN_lt (by omega), h3⟩, if_pos h3]
        · rw [if_neg (fun h => h3 h.2), if_neg h3]
      · rw [if_neg h2, if_neg h2]
        have e0 : ((l.getD (i + 0) 0).toNat) = byteN l i := rfl
        have e1 : ((l.getD (i + 1) 0).toNat) = byteN l (i + 1) := rfl
        have e2 : ((l.getD (i + 2) 0).toNat) = byteN l (i + 2) := rfl
        rw [e0, e1, e2] at hs
        rcases hs with ⟨q1, q2, q3, q4, q5⟩ | ⟨q1, q2, q3, q4, q5, q6⟩ | ⟨q1, q2, q3⟩
        · rw [if_pos (.inl q1), if_pos ⟨q4, q5⟩, q2]
        · rw [if_pos (.inr q1), if_neg (by omega), if_pos ⟨q4, q5, q6⟩, q2]
        · rw [if_neg q1, if_neg (fun h => q2 ⟨by have := byteN_lt (l := l) (i := i + 1) (by omega); omega, h.1, h.2⟩), if_neg (fun h => q3 ⟨by have := byteN_lt (l := l) (i := i + 2) (by omega); omega, h.1, h.2.1, h.2.2⟩)]
/-- a byte ahead of the first line -/
def consH (b : UInt8) : List (List UInt8) → List (List UInt8)
  | [] => [[b]]
  | x :: r => (b :: x) :: r
/-- the lines with their ends, behind byte p -/
def spl (p : Nat) : List UInt8 → List (List UInt8)
  | [] => [[]]
  | b0 :: r =>
    match E4 p b0.toNat (byteN r 0) (byteN r 1), r with
    | 0, r => consH b0 (spl b0.toNat r)
    | 1, r => [b0] :: spl b0.toNat r
    | 2, b1 :: r => [b0, b1] :: spl b1.toNat r
    | _, b1 :: b2 :: r => [b0, b1, b2] :: spl b2.toNat r
    | _, r => [b0] :: spl b0.toNat r
termination_by l => l.length
theorem E4_le (p b0 b1 b2 : Nat) : E4 p b0 b1 b2 ≤ 3 := by
  unfold E4
  repeat' split
  all_goals omega
theorem spl_zero {p : Nat} {b0 : UInt8} {r : List UInt8} (h : E4 p b0.toNat (byteN r 0) (byteN r 1) = 0) : spl p (b0 :: r) = consH b0 (spl b0.toNat r) := by
  rw [spl.eq_def]
  simp only [h]
theorem spl_one {p : Nat} {b0 : UInt8} {r : List UInt8} (h : E4 p b0.toNat (byteN r 0) (byteN r 1) = 1) : spl p (b0 :: r) = [b0] :: spl b0.toNat r := by
  rw [spl.eq_def]
  simp only [h]
theorem spl_two {p : Nat} {b0 b1 : UInt8} {r : List UInt8} (h : E4 p b0.toNat (byteN (b1 :: r) 0) (byteN (b1 :: r) 1) = 2) : spl p (b0 :: b1 :: r) = [b0, b1] :: spl b1.toNat r := by
  rw [spl.eq_def]
  simp only [h]
theorem spl_three {p : Nat} {b0 b1 b2 : UInt8} {r : List UInt8} (h : E4 p b0.toNat (byteN (b1 :: b2 :: r) 0) (byteN (b1 :: b2 :: r) 1) = 3) : spl p (b0 :: b1 :: b2 :: r) = [b0, b1, b2] :: spl b2.toNat r := by
  rw [spl.eq_def]
  simp only [h]
theorem E4_two {p b0 b1 b2 : Nat} (h : E4 p b0 b1 b2 = 2) : b1 ≠ 0 := by
  unfold E4 at h
  repeat' split at h
  all_goals omega
theorem E4_three {p b0 b1 b2 : Nat} (h : E4 p b0 b1 b2 = 3) : b1 ≠ 0 ∧ b2 ≠ 0 := by
  unfold E4 at h
  repeat' split at h
  all_goals omega
theorem byteN_drop (l : List UInt8) (i j : Nat) : byteN (l.drop i) j = byteN l (i + j) := by
  unfold byteN
  rw [getD_drop]
theorem byteN_zero {l : List UInt8} {i : Nat} {b : UInt8} (h : l[i]? = some b) : byteN l i = b.toNat := by
  unfold byteN
  rw [List.getD_eq_getElem?_getD, h]
  rfl
/-- the two ways to tell the lines say the same -/
theorem linesGo_spl (l : List UInt8) : ∀ (f a i : Nat), a ≤ i → i ≤ l.length → l.length < i + f →
    (linesGo l f a i).map (pieceE l) = (match spl (prevN l i) (l.drop i) with | [] => [] | x :: r => ((l.drop a).take (i - a) ++ x) :: r)
  | 0, a, i, _, _, h => by omega
  | f + 1, a, i, hai, hil, hf => by
    rw [linesGo]
    by_cases h1 : l.length ≤ i
    · rw [if_pos h1, List.drop_of_length_le h1]
      have : i = l.length := by omega
      subst this
      simp only [spl, List.map_cons, List.map_nil, List.append_nil]
      unfold pieceE
      dsimp only
      rw [Nat.add_zero]
    · rw [if_neg h1]
      have hi : i < l.length := by omega
      have hd : l.drop i = l[i] :: l.drop (i + 1) := List.drop_eq_getElem_cons hi
      have hb0 : byteN l i = (l[i]).toNat := byteN_zero (by simp)
      have hE : E4 (prevN l i) (l[i]).toNat (byteN (l.drop (i + 1)) 0) (byteN (l.drop (i + 1)) 1) = endL l i := by
        rw [endL_E4, hb0, byteN_drop, byteN_drop]
      have hp1 : prevN l (i + 1) = (l[i]).toNat := by
        unfold prevN
        rw [if_neg (by omega), Nat.add_sub_cancel, hb0]
      by_cases h2 : endL l i = 0
      · rw [if_pos h2, linesGo_spl l f a (i + 1) (by omega) hi (by omega), hd, spl_zero (hE.trans h2), hp1]
        cases hs : spl (l[i]).toNat (l.drop (i + 1)) with
        | nil => exfalso; exact spl_ne _ _ hs
        | cons x r =>
          simp only [consH]
          congr 1
          rw [show i + 1 - a = (i - a) + 1 by omega, List.take_add_one, List.getElem?_drop, show a + (i - a) = i by omega, List.getElem?_eq_getElem hi]
          simp
      · rw [if_neg h2]
        have h3 := (endL_le l i).resolve_left h2
        have h4 := E4_le (prevN l i) (l[i]).toNat (byteN (l.drop (i + 1)) 0) (byteN (l.drop (i + 1)) 1)
        rw [hE] at h4
        have hrec := linesGo_spl l f (i + endL l i) (i + endL l i) (Nat.le_refl _) h3 (by omega)
        rw [List.map_cons, hrec]
        have key : ∀ k, endL l i = k → 0 < k → spl (prevN l i) (l.drop i) = ((l.drop i).take k) :: spl (prevN l (i + k)) (l.drop (i + k)) := fun k hk hk0 => by
          have hk3 : k = 1 ∨ k = 2 ∨ k = 3 := by omega
          rcases hk3 with rfl | rfl | rfl
          · rw [hd, spl_one (hE.trans hk), hp1]
            rfl
          · have hi2 : i + 1 < l.length := by omega
            have hd2 : l.drop (i + 1) = l[i + 1] :: l.drop (i + 2) := List.drop_eq_getElem_cons hi2
            have hp2 : prevN l (i + 2) = (l[i + 1]).toNat := by
              unfold prevN
              rw [if_neg (by omega), show i + 2 - 1 = i + 1 by omega]
              exact byteN_zero (by simp)
            rw [hd, hd2, spl_two (by rw [← hd2]; exact hE.trans hk), hp2]
            rfl
          · have hi2 : i + 1 < l.length := by omega
            have hi3 : i + 2 < l.length := by omega
            have hd2 : l.drop (i + 1) = l[i + 1] :: l.drop (i + 2) := List.drop_eq_getElem_cons hi2
            have hd3 : l.drop (i + 2) = l[i + 2] :: l.drop (i + 3) := List.drop_eq_getElem_cons hi3
            have hp3 : prevN l (i + 3) = (l[i + 2]).toNat := by
              unfold prevN
              rw [if_neg (by omega), show i + 3 - 1 = i + 2 by omega]
              exact byteN_zero (by simp)
            rw [hd, hd2, hd3, spl_three (by rw [← hd3, ← hd2]; exact hE.trans hk), hp3]
            rfl
        obtain ⟨k, hk⟩ : ∃ k, endL l i = k := ⟨_, rfl⟩
        rw [hk] at h2 h3 ⊢
        rw [key k hk (by omega)]
        cases hs : spl (prevN l (i + k)) (l.drop (i + k)) with
        | nil => exfalso; exact spl_ne _ _ hs
        | cons x r =>
          simp only [Nat.sub_self, List.take_zero, List.nil_append]
          congr 1
          unfold pieceE
          dsimp only
          rw [show i + k - a = (i - a) + k by omega, List.take_add, List.drop_drop, show a + (i - a) = i by omega]
where
  spl_ne (p : Nat) (l : List UInt8) : spl p l ≠ [] := by
    rw [spl.eq_def]
    split
    · simp
    · split
      · unfold consH; split <;> simp
      all_goals simp
theorem splitA_spl (l : List UInt8) : splitA l = spl 0 l := by
  have h := linesGo_spl l (l.length + 1) 0 0 (Nat.le_refl _) (Nat.zero_le _) (by omega)
  unfold splitA linesL
  rw [h]
  rw [List.drop_zero]
  show (match spl 0 l with | [] => [] | x :: r => ((l.take 0) ++ x) :: r) = _
  cases spl 0 l with
  | nil => rfl
  | cons x r => rfl
end Go.Proofs.YtnbihjocdlpplaaDoor
/- Lines put together: a line that ends is a line of whatever stands behind it. -/
namespace Go.Proofs.YtnbihjocdlpplaaDoor
set_option linter.unusedVariables false
set_option linter.unusedSimpArgs false
open Go.Lib
theorem spl_ne (p : Nat) (l : List UInt8) : spl p l ≠ [] := by
  rw [spl.eq_def]
  split
  · simp
  · split
    · unfold consH; split <;> simp
    all_goals simp
theorem consH_inj {b : UInt8} {L : List (List UInt8)} {x : List UInt8} {r : List (List UInt8)} (hL : L ≠ []) (h : consH b L = (b :: x) :: r) : L = x :: r := by
  cases L with
  | nil => exact absurd rfl hL
  | cons y s =>
    simp only [consH, List.cons.injEq, true_and] at h
    rw [h.1, h.2]
def lastN (s : List UInt8) : Nat := byteN s (s.length - 1)
theorem lastN_cons {b : UInt8} {r : List UInt8} (h : r ≠ []) : lastN (b :: r) = lastN r := by
  have hl : 0 < r.length := List.length_pos_iff.2 h
  unfold lastN byteN
  rw [List.length_cons, List.getD_eq_getElem?_getD, List.getD_eq_getElem?_getD, show r.length + 1 - 1 = (r.length - 1) + 1 by omega, List.getElem?_cons_succ]
/-- bytes that neither end a line nor go on with an end -/
def free (b : Nat) : Prop := b ≠ 10 ∧ b ≠ 133 ∧ b ≠ 128 ∧ b ≠ 168 ∧ b ≠ 169
def okAfter (s post : List UInt8) : Prop := lastN s = 10 ∨ free (byteN post 0)
theorem byteN_app_left {a b : List UInt8} {i : Nat} (h : i < a.length) : byteN (a ++ b) i = byteN a i := by
  unfold byteN
  rw [List.getD_eq_getElem?_getD, List.getD_eq_getElem?_getD, List.getElem?_append_left h]
theorem byteN_app_right {a b : List UInt8} {i : Nat} (h : a.length ≤ i) : byteN (a ++ b) i = byteN b (i - a.length) := by
  unfold byteN
  rw [List.getD_eq_getElem?_getD, List.getD_eq_getElem?_getD, List.getElem?_append_right h]
theorem byteN_cons_zero {b : UInt8} {r : List UInt8} : byteN (b :: r) 0 = b.toNat := rfl
theorem byteN_cons_succ {b : UInt8} {r : List UInt8} {i : Nat} : byteN (b :: r) (i + 1) = byteN r i := by
  unfold byteN
  rw [List.getD_eq_getElem?_getD, List.getD_eq_getElem?_getD, List.getElem?_cons_succ]
theorem E4_ten {p b1 b2 : Nat} : E4 p 10 b1 b2 = if p = 13 then 0 else 1 := by unfold E4; rw [if_pos rfl]
theorem E4_one {p b0 b1 b2 : Nat} (h : E4 p b0 b1 b2 = 1) : (b0 = 10 ∧ p ≠ 13) ∨ (b0 = 13 ∧ b1 ≠ 10) := by
  unfold E4 at h
  repeat' split at h
  all_goals first | omega | (left; constructor <;> assumption) | (right; constructor <;> assumption)
theorem spl_cat : ∀ (n : Nat) (s : List UInt8), s.length ≤ n → ∀ (p : Nat) (post : List UInt8), spl p s = [s, []] → okAfter s post → spl p (s ++ post) = s :: spl (lastN s) post
  | _, [], _, p, post, h, _ => by simp [spl] at h
  | 0, b0 :: r, hn, _, _, _, _ => by simp at hn
  | n + 1, b0 :: r, hn, p, post, h, ho => by
    have hE := E4_le p b0.toNat (byteN r 0) (byteN r 1)
    obtain ⟨e, he⟩ : ∃ e, E4 p b0.toNat (byteN r 0) (byteN r 1) = e := ⟨_, rfl⟩
    have hcases : e = 0 ∨ e = 1 ∨ e = 2 ∨ e = 3 := by omega
    rcases hcases with rfl | rfl | rfl | rfl
    · rw [spl_zero he] at h
      have h2 := consH_inj (spl_ne _ _) h
      have hr : r ≠ [] := by
        rintro rfl
        simp [spl] at h2
      have hrl : 0 < r.length := List.length_pos_iff.2 hr
      have ho2 : okAfter r post := by
        unfold okAfter at ho ⊢
        rwa [lastN_cons hr] at ho
      have hE2 : E4 p b0.toNat (byteN (r ++ post) 0) (byteN (r ++ post) 1) = 0 := by
        rw [byteN_app_left hrl]
        by_cases hr1 : 1 < r.length
        · rw [byteN_app_left hr1]; exact he
        · have hr1' : r.length = 1 := by omega
          obtain ⟨b1, rfl⟩ : ∃ b, r = [b] := by
            match r, hr1' with
            | [b], _ => exact ⟨b, rfl⟩
          rw [byteN_app_right (by simp), byteN_cons_zero]
          rw [byteN_cons_zero, byteN_out (by simp)] at he
          have hp0 : byteN post 0 ≠ 168 ∧ byteN post 0 ≠ 169 ∨ b1.toNat = 10 := by
            rcases ho2 with q | q
            · exact .inr q
            · exact .inl ⟨q.2.2.2.1, q.2.2.2.2⟩
          unfold E4 at he ⊢
          simp only [List.length_singleton, Nat.sub_self] at *
          repeat' split at he
          all_goals (repeat' split) <;> omega
      rw [List.cons_append, spl_zero hE2, spl_cat n r (by simp at hn; omega) b0.toNat post h2 ho2, lastN_cons hr]
      rfl
    · rw [spl_one he] at h
      have h2 : r = [] ∧ spl b0.toNat r = [[]] := by
        simp only [List.cons.injEq, true_and] at h
        exact ⟨h.1.symm, h.2⟩
      obtain ⟨rfl, _⟩ := h2
      have hE2 : E4 p b0.toNat (byteN ([] ++ post) 0) (byteN ([] ++ post) 1) = 1 := by
        rw [List.nil_append]
        rcases E4_one he with ⟨q, hp⟩ | ⟨q, _⟩
        · rw [q, E4_ten, if_neg hp]
        · have hf : free (byteN post 0) := by
            rcases ho with ho | ho
            · exact absurd (show b0.toNat = 10 from ho) (by omega)
            · exact ho
          unfold E4
          rw [q, if_neg (by omega), if_pos rfl, if_neg hf.1]
      show spl p (b0 :: ([] ++ post)) = _
      rw [spl_one hE2]
      rfl
    · have hb1 := E4_two he
      have hr0 := byteN_lt hb1
      obtain ⟨b1, r', rfl⟩ : ∃ b r', r = b :: r' := by
        cases r with
        | nil => simp at hr0
        | cons b r' => exact ⟨b, r', rfl⟩
      rw [spl_two he] at h
      obtain ⟨rfl⟩ : r' = [] := by
        simp only [List.cons.injEq, true_and] at h
        exact h.1.symm
      have hE2 : E4 p b0.toNat (byteN (b1 :: ([] ++ post)) 0) (byteN (b1 :: ([] ++ post)) 1) = 2 := by
        rw [byteN_cons_zero]
        rw [byteN_cons_zero] at he
        unfold E4 at he ⊢
        repeat' split at he
        all_goals (repeat' split) <;> omega
      show spl p (b0 :: b1 :: ([] ++ post)) = _
      rw [spl_two hE2]
      rfl
    · obtain ⟨hb1, hb2⟩ := E4_three he
      have hr1 := byteN_lt hb2
      obtain ⟨b1, b2, r', rfl⟩ : ∃ b b2 r', r = b :: b2 :: r' := by
        match r, hr1 with
        | b :: b2 :: r', _ => exact ⟨b, b2, r', rfl⟩
      rw [spl_three he] at h
      obtain ⟨rfl⟩ : r' = [] := by
        simp only [List.cons.injEq, true_and] at h
        exact h.1.symm
      have hE3 : E4 p b0.toNat (byteN (b1 :: b2 :: ([] ++ post)) 0) (byteN (b1 :: b2 :: ([] ++ post)) 1) = 3 := he
      show spl p (b0 :: b1 :: b2 :: ([] ++ post)) = _
      rw [spl_three hE3]
      rfl
/-- all of them lines that end -/
theorem spl_flat : ∀ (L : List (List UInt8)) (p : Nat) (post : List UInt8), (∀ s ∈ L, ∀ q, q ≠ 13 → spl q s = [s, []]) → (∀ s ∈ L, lastN s = 10) → p ≠ 13 → spl p (L.flatten ++ post) = L ++ spl (if L = [] then p else 10) post
  | [], p, post, _, _, hp => by rw [if_pos rfl]; rfl
  | s :: L, p, post, h1, h2, hp => by
    have hs := h2 s (by simp)
    have hrec := spl_flat L 10 post (fun x hx => h1 x (List.mem_cons_of_mem _ hx)) (fun x hx => h2 x (List.mem_cons_of_mem _ hx)) (by decide)
    have h10 : (if L = [] then 10 else 10) = 10 := by split <;> rfl
    rw [h10] at hrec
    have hc := spl_cat _ s (Nat.le_refl _) p (L.flatten ++ post) (h1 s (by simp) p hp) (.inl hs)
    have hne : (if s :: L = [] then p else 10) = 10 := if_neg (fun e => by cases e)
    rw [List.flatten_cons, List.append_assoc, hc, hs, hrec, hne]
    rfl
/-- a line of plain bytes and a byte 0A -/
def plainB (b : UInt8) : Prop := 32 ≤ b.toNat ∧ b.toNat < 127
theorem spl_good : ∀ (s : List UInt8) (p : Nat), (∀ b ∈ s, plainB b) → (s = [] → p ≠ 13) → spl p (s ++ [10]) = [s ++ [10], []]
  | [], p, _, hp => by
    have hE : E4 p (10 : UInt8).toNat (byteN [] 0) (byteN [] 1) = 1 := by
      show E4 p 10 _ _ = 1
      rw [E4_ten, if_neg (hp rfl)]
    show spl p [10] = _
    rw [spl_one hE]
    simp [spl]
  | b :: s, p, hs, _ => by
    have hb := hs b (by simp)
    unfold plainB at hb
    have hE : E4 p b.toNat (byteN (s ++ [10]) 0) (byteN (s ++ [10]) 1) = 0 := by
      unfold E4
      rw [if_neg (by omega), if_neg (by omega), if_neg (by omega), if_neg (by omega)]
    rw [List.cons_append, spl_zero hE, spl_good s b.toNat (fun x hx => hs x (List.mem_cons_of_mem _ hx)) (fun _ => by omega)]
    rfl
theorem lastN_ten (s : List UInt8) : lastN (s ++ [10]) = 10 := by
  unfold lastN
  rw [List.length_append, List.length_singleton, Nat.add_sub_cancel, byteN_app_right (Nat.le_refl _), Nat.sub_self]
  rfl
/-- texts made of such lines have these lines -/
theorem splitD_good (L : List (List UInt8)) (h : ∀ s ∈ L, ∃ t, s = t ++ [10] ∧ ∀ b ∈ t, plainB b) : splitD L.flatten = L := by
  have h1 : splitA L.flatten = L ++ [[]] := by
    have := spl_flat L 0 [] (fun s hs q hq => by obtain ⟨t, rfl, ht⟩ := h s hs; exact spl_good t q ht (fun _ => hq)) (fun s hs => by obtain ⟨t, rfl, ht⟩ := h s hs; exact lastN_ten t) (by decide)
    rw [List.append_nil] at this
    rw [splitA_spl, this]
    simp [spl]
  unfold splitD
  rw [h1, List.getLast?_concat, if_pos rfl, List.dropLast_concat]
/-- whatever is laid down by hand is no better -/
theorem dist_min (ops : List Op7) : dist (ops.flatMap lineA) (ops.flatMap lineB) ≤ costOps ops := by
  induction ops with
  | nil => simp [dist, costOps]
  | cons o ops ih =>
    unfold costOps at ih ⊢
    rw [List.flatMap_cons, List.flatMap_cons, List.map_cons, List.sum_cons]
    cases o with
    | same s =>
      show dist (s :: ops.flatMap lineA) (s :: ops.flatMap lineB) ≤ 0 + _
      rw [dist_same]; omega
    | gone s =>
      show dist (s :: ops.flatMap lineA) (ops.flatMap lineB) ≤ 1 + _
      have := dist_left s (ops.flatMap lineA) (ops.flatMap lineB)
      omega
    | come s =>
      show dist (ops.flatMap lineA) (s :: ops.flatMap lineB) ≤ 1 + _
      have := dist_right (ops.flatMap lineA) (ops.flatMap lineB) s
      omega
end Go.Proofs.YtnbihjocdlpplaaDoor
/- A line of one letter, and a text's plain bytes, up to twenty. -/
namespace Go.Proofs.YtnbihjocdlpplaaDoor
set_option linter.unusedVariables false
set_option linter.unusedSimpArgs false
open Go.RowKit
open Go.Lib
def letB (x : UInt8) : List UInt8 := [97 + x % 7]
theorem letB_plain (x : UInt8) : ∀ b ∈ letB x, plainB b := by
  intro b hb
  obtain rfl : b = 97 + x % 7 := by simpa [letB] using hb
  unfold plainB
  have h1 : (x % 7).toNat < 7 := by rw [UInt8.toNat_mod]; exact Nat.mod_lt _ (by decide)
  have h2 : (97 + x % 7).toNat = 97 + (x % 7).toNat := by
    rw [UInt8.toNat_add]
    show (97 + (x % 7).toNat) % 256 = _
    omega
  omega
theorem letB_at (x : UInt8) (k : UInt8) (h : x.toNat % 7 = k.toNat) : letB x = [97 + k] := by
  have : x % 7 = k := by
    apply UInt8.toNat_inj.1
    rw [UInt8.toNat_mod]
    exact h
  unfold letB
  rw [this]
set_option maxHeartbeats 4000000 in
set_option maxRecDepth 100000 in
theorem letterC (w : World) (x : UInt8) :
    Calls Tryd.prog 15 #[.int .u8 (x.toNat : Int)] w fun e w' => e = .returned (.string (bstr (letB x ++ [10]))) ∧ w' = w := by
  have hxl := x.toNat_lt
  obtain ⟨p, hp⟩ : ∃ p, p = x.toNat % 7 := ⟨_, rfl⟩
  have hp7 : p < 7 := by omega
  have hpi : (x.toNat : Int).tmod 7 = (p : Int) := by rw [Int.tmod_eq_emod_of_nonneg (by omega)]; omega
  have hL : ∀ k : UInt8, p = k.toNat → letB x = [97 + k] := fun k h => letB_at x k (by omega)
  have HL := Lib.hid hL
  clear hL hp
  have hc : p = 0 ∨ p = 1 ∨ p = 2 ∨ p = 3 ∨ p = 4 ∨ p = 5 ∨ p = 6 := by omega
  rcases hc with rfl | rfl | rfl | rfl | rfl | rfl | rfl
  · rw [HL.out 0 rfl]
    go_enter Tryd.func15, Tryd.ntmps15
    go_wp2
    go_ret
    exact ⟨rfl, rfl⟩
  · rw [HL.out 1 rfl]
    go_enter Tryd.func15, Tryd.ntmps15
    go_wp2
    go_ret
    exact ⟨rfl, rfl⟩
  · rw [HL.out 2 rfl]
    go_enter Tryd.func15, Tryd.ntmps15
    go_wp2
    go_ret
    exact ⟨rfl, rfl⟩
  · rw [HL.out 3 rfl]
    go_enter Tryd.func15, Tryd.ntmps15
    go_wp2
    go_ret
    exact ⟨rfl, rfl⟩
  · rw [HL.out 4 rfl]
    go_enter Tryd.func15, Tryd.ntmps15
    go_wp2
    go_ret
    exact ⟨rfl, rfl⟩
  · rw [HL.out 5 rfl]
    go_enter Tryd.func15, Tryd.ntmps15
    go_wp2
    go_ret
    exact ⟨rfl, rfl⟩
  · rw [HL.out 6 rfl]
    go_enter Tryd.func15, Tryd.ntmps15
    go_wp2
    go_ret
    exact ⟨rfl, rfl⟩
theorem drop_atD {l : List UInt8} {k : Nat} {y : UInt8} (hy : l[k]? = some y) : l.drop k = y :: l.drop (k + 1) := by
  obtain ⟨h, rfl⟩ := List.getElem?_eq_some_iff.1 hy
  exact List.drop_eq_getElem_cons h
def plainD (b : UInt8) : Bool := decide (32 ≤ b.toNat ∧ b.toNat < 127)
def bareL (l : List UInt8) : List UInt8 := (l.take 20).filter plainD
theorem bareL_plain (l : List UInt8) : ∀ b ∈ bareL l, plainB b := fun b hb => by
  have h := (List.mem_filter.1 hb).2
  unfold plainD at h
  exact (of_decide_eq_true h : 32 ≤ b.toNat ∧ b.toNat < 127)
theorem bareL_len (l : List UInt8) : (bareL l).length ≤ 20 := by
  unfold bareL
  refine Nat.le_trans (List.length_filter_le _ _) ?_
  rw [List.length_take]
  omega
theorem filter_next {l : List UInt8} {i : Nat} {x : UInt8} (h : l[i]? = some x) : (l.take (i + 1)).filter plainD = (l.take i).filter plainD ++ (if plainD x then [x] else []) := by
  rw [take_next h, List.filter_append]
  congr 1
  cases hq : plainD x <;> simp [List.filter, hq]
set_option maxHeartbeats 4000000 in
set_option maxRecDepth 100000 in
theorem bareC (w : World) (l : List UInt8) (hm : l.length ≤ 140737488351232) :
    Calls Tryd.prog 16 #[.string (bstr l)] w fun e w' => e = .returned (.string (bstr (bareL l))) ∧ Below w.heap.size w w' := by
  obtain ⟨n, hn⟩ : ∃ n, n = l.length := ⟨_, rfl⟩
  have hsz : (bstr l).size = n := by rw [bstr_size, hn]
  have hnm : n ≤ 140737488351232 := by omega
  have HN := Lib.hid hn
  clear hm hn
  go_enter Tryd.func16, Tryd.ntmps16
  go_wp2
  go_loopw [3, 4] (fun sv iv wr => ∃ (i : Nat) (T : List UInt8), sv = .string (bstr T) ∧ iv = .int .i64 (i : Int) ∧ i ≤ n ∧ i ≤ 20 ∧ T.length ≤ 20 ∧ Hid (T = (l.take i).filter plainD ∧ Below w.heap.size w wr)) (fun _ iv _ => n - (RowKit.intOf iv).toNat)
  case atStart => exact ⟨0, [], rfl, rfl, Nat.zero_le _, Nat.zero_le _, Nat.zero_le _, Lib.hid ⟨rfl, Below.refl _ _⟩⟩
  case round =>
    obtain ⟨i, T, rfl, rfl, hi, h20, hTl, HR⟩ := hrel
    by_cases hlt : i < n ∧ i < 20
    · obtain ⟨h1, h2⟩ := hlt
      obtain ⟨x, hx⟩ := some_at (l := l) (k := i) (by have := HN.out; omega)
      have i1 : i < (bstr l).size := by rw [hsz]; exact h1
      have ha : (bstr l)[i]'i1 = x := bstr_at hx _
      have hxl := x.toNat_lt
      have hcut : (bstr l).extract i (i + 1) = bstr [x] := by
        rw [bstr_extract, drop_atD hx, Nat.add_sub_cancel_left]
        simp
      have HF := Lib.hid (filter_next hx)
      have hlen : T.length ≤ i := by
        rw [HR.out.1]
        exact Nat.le_trans (List.length_filter_le _ _) (by rw [List.length_take]; omega)
      clear hx
      by_cases hp : 32 ≤ x.toNat ∧ x.toNat < 127
      · have hpd : plainD x = true := decide_eq_true hp
        rw [hpd, if_pos rfl] at HF
        obtain ⟨p1, p2⟩ := hp
        clear hpd
        have hT1 : (T ++ [x]).length ≤ 20 := by rw [List.length_append, List.length_singleton]; omega
        go_wp2
        go_roundw
        case rel => exact ⟨i + 1, T ++ [x], by rw [← bstr_append, ← hcut], by go_num, h1, h2, hT1, Lib.hid ⟨by rw [HF.out, ← HR.out.1], HR.out.2⟩⟩
        case measure => simp [RowKit.intOf]; omega
      · have hpd : plainD x = false := decide_eq_false hp
        rw [hpd] at HF
        clear hpd
        by_cases q : 32 ≤ x.toNat
        · have q2 : ¬ x.toNat < 127 := fun h => hp ⟨q, h⟩
          clear hp
          go_wp2
          go_roundw
          case rel => exact ⟨i + 1, T, rfl, by go_num, h1, h2, hTl, Lib.hid ⟨by rw [HF.out, ← HR.out.1]; simp, HR.out.2⟩⟩
          case measure => simp [RowKit.intOf]; omega
        · clear hp
          go_wp2
          go_roundw
          case rel => exact ⟨i + 1, T, rfl, by go_num, h1, h2, hTl, Lib.hid ⟨by rw [HF.out, ← HR.out.1]; simp, HR.out.2⟩⟩
          case measure => simp [RowKit.intOf]; omega
    · have hd : l.take i = l.take 20 := by
        by_cases h1 : i < n
        · obtain rfl : i = 20 := by omega
          rfl
        · have := HN.out
          rw [List.take_of_length_le (by omega), List.take_of_length_le (by omega)]
      have HD := Lib.hid hd
      clear hd
      by_cases h1 : i < n
      · have h2 : ¬ i < 20 := fun h => hlt ⟨h1, h⟩
        clear hlt
        go_wp2
        go_ret
        exact ⟨by unfold bareL; rw [← HD.out, ← HR.out.1]; rfl, HR.out.2⟩
      · clear hlt
        go_wp2
        go_ret
        exact ⟨by unfold bareL; rw [← HD.out, ← HR.out.1]; rfl, HR.out.2⟩
end Go.Proofs.YtnbihjocdlpplaaDoor
