/- Texts joined, one behind the other (LDiffPatches, Laid31). -/
import Derived.Test.YtnbihjocdlpplaaDoorDp22
import Derived.Test.YtnbihjocdlpplaaDoorRows
import Derived.Lib.LaidU8
import Derived.LaidSub
/- DiffPatches: the walk. -/
namespace Go.Proofs.YtnbihjocdlpplaaDoor
set_option linter.unusedVariables false
set_option linter.unusedSimpArgs false
open Go.RowKit
open Go.Lib hiding intOf
theorem sum_fit {X : List HkI} (h : hunkSum X ≤ 1048576) : Fit X := by
  have := hunkSum_fit X
  exact ⟨by omega, by omega, by omega⟩
def backH (X : List HkI) : List Hk := if checkB X = true then backI X else []
theorem opsB_lines (X : List HkI) (h : ∀ x ∈ X, 1 ≤ x.1 ∧ x.1 ≤ 3) : (opsB X).flatMap lineA = sideI 3 X ∧ (opsB X).flatMap lineB = sideI 2 X := by
  induction X with
  | nil => exact ⟨rfl, rfl⟩
  | cons x X ih =>
    obtain ⟨i1, i2⟩ := ih (fun y hy => h y (List.mem_cons_of_mem _ hy))
    have hk := h x (by simp)
    have hrow : ∀ L : List (List UInt8), (L.map (opB x.1)).flatMap lineA = (if x.1 = 1 ∨ x.1 = 3 then L else []) ∧ (L.map (opB x.1)).flatMap lineB = (if x.1 = 1 ∨ x.1 = 2 then L else []) := by
      intro L
      have hk3 : x.1 = 1 ∨ x.1 = 2 ∨ x.1 = 3 := by omega
      induction L with
      | nil => simp
      | cons s L ihL =>
        rw [List.map_cons, List.flatMap_cons, List.flatMap_cons, ihL.1, ihL.2]
        rcases hk3 with e | e | e <;> simp [e, opB, lineA, lineB]
    rw [opsB_cons, List.flatMap_append, List.flatMap_append, i1, i2, (hrow x.2).1, (hrow x.2).2]
    unfold sideI
    rw [List.flatMap_cons, List.flatMap_cons]
    exact ⟨rfl, rfl⟩
theorem back_okB (X : List HkI) : okB 0 ((backI X).map toI) = true := (okB_to _ 0).2 (patchOf_ok _)
theorem back_sides {X : List HkI} (h : okB 0 X = true) : sideI 2 ((backI X).map toI) = sideI 3 X ∧ sideI 3 ((backI X).map toI) = sideI 2 X := by
  have hl := opsB_lines X (fun x hx => (okB_mem X 0 h x hx).1)
  have hp := patchOf_sides (opsB X)
  have e2 := sideI_to 2 (backI X)
  have e3 := sideI_to 3 (backI X)
  exact ⟨(e2.trans hp.1).trans hl.1, (e3.trans hp.2).trans hl.2⟩
theorem check_parts {X : List HkI} (h : checkB X = true) : okB 0 X = true ∧ wholeB (sideI 2 X) = true ∧ wholeB (sideI 3 X) = true := by
  unfold checkB at h
  rw [Bool.and_eq_true, Bool.and_eq_true] at h
  exact ⟨h.1.1, h.1.2, h.2⟩
theorem back_check {X : List HkI} (h : checkB X = true) : checkB ((backI X).map toI) = true := by
  obtain ⟨h1, h2, h3⟩ := check_parts h
  unfold checkB
  rw [back_okB, (back_sides h1).1, (back_sides h1).2, h2, h3]
  rfl
theorem hunks_small {H : List Hk} (h : checkB (H.map toI) = true) : (∀ x ∈ H, (1 ≤ x.1 ∧ x.1 ≤ 3) ∧ x.2 ≠ [] ∧ x.2.length ≤ 1024) ∧ H.length ≤ 1024 := by
  obtain ⟨h1, _, _⟩ := check_parts h
  have hm := okB_mem _ 0 h1
  have hl := check_lines h
  have h3 := len_lines _ (fun x hx => (hm x hx).2)
  rw [List.length_map] at h3
  refine ⟨fun x hx => ?_, by omega⟩
  have q1 := hm (toI x) (List.mem_map.2 ⟨x, hx, rfl⟩)
  have q2 := linesK_mem (List.mem_map.2 ⟨x, hx, rfl⟩ : toI x ∈ H.map toI)
  have e1 : (toI x).1 = (x.1 : Int) := rfl
  have e2 : (toI x).2 = x.2 := rfl
  rw [e1, e2] at q1
  rw [e2] at q2
  exact ⟨⟨by omega, by omega⟩, q1.2, by omega⟩
theorem backH_ok (X : List HkI) : (∀ x ∈ backH X, (1 ≤ x.1 ∧ x.1 ≤ 3) ∧ x.2 ≠ [] ∧ x.2.length ≤ 1024) ∧ (backH X).length ≤ 1024 := by
  unfold backH
  by_cases h : checkB X = true
  · rw [if_pos h]
    exact hunks_small (back_check h)
  · rw [if_neg h]
    exact ⟨fun x hx => (by cases hx), Nat.zero_le _⟩
theorem back_own {w w' : World} {X : List HkI} {e : Ending} (h : BackP w X e w') : ∃ v B, e = .returned (.tuple #[v, .int .i64 (errP (checkB X))]) ∧ PatchAt B w' v (backH X) ∧ w.heap.size ≤ B ∧ B ≤ w'.heap.size ∧ Below w.heap.size w w' := by
  rcases h with ⟨h, he, hb⟩ | ⟨h, v, B, he, hP, h1, h2, hb⟩
  · refine ⟨.slice none 0 0, w.heap.size, by rw [he, h]; rfl, ?_, Nat.le_refl _, hb.size, hb⟩
    unfold backH
    rw [h]
    exact ⟨none, 0, [], rfl, SW.start _ _ _ (fun p hp => by cases hp), fun x hx => by cases hx⟩
  · refine ⟨v, B, by rw [he, h]; rfl, ?_, h1, h2, hb⟩
    unfold backH
    rw [if_pos h]
    exact hP
theorem back_read {w w' : World} {X : List HkI} {e : Ending} (h : BackQ w X e w') : ∃ a c, e = .returned (.tuple #[.slice a (backH X).length c, .int .i64 (errP (checkB X))]) ∧ ReadsK w' a (backH X).length ((backH X).map toI) ∧ Below w.heap.size w w' := by
  rcases h with ⟨h, he, hb⟩ | ⟨h, a, c, he, hr, hb⟩
  · refine ⟨none, 0, by rw [he]; unfold backH; rw [h]; rfl, ?_, hb⟩
    unfold backH
    rw [h]
    exact ReadsK.nil _ _
  · refine ⟨a, c, by rw [he]; unfold backH; rw [if_pos h, h]; rfl, ?_, hb⟩
    unfold backH
    rw [if_pos h]
    exact hr
theorem apply_parts (s : List UInt8) (X : List HkI) : ∃ T E, applyE s X = .returned (.tuple #[.string (bstr T), .int .i64 E]) := by
  unfold applyE
  split
  · exact ⟨_, _, rfl⟩
  · exact ⟨_, _, rfl⟩
set_option maxHeartbeats 8000000 in
set_option maxRecDepth 100000 in
theorem diffPatches_walk (w : World) (a : Option Addr) (n c : Nat) (X : List HkI) (hX : ReadsK w a n X) (hnc : n ≤ c) (hcm : c ≤ maxLen) (hs : hunkSum X ≤ 1048576) (s : List UInt8) (hsl : s.length ≤ 1048576) (hT : Tabs w) :
    Calls Tryd.prog 5 #[.slice a n c, .string (bstr s)] w fun e w' => e = .returned (.bool true) ∧ Below w.heap.size w w' := by
  have HF := Lib.hid (sum_fit hs)
  have HT := Lib.hid hT
  have HX := Lib.hid hX
  have hok := backH_ok X
  have hn : n ≤ 1048576 := by rw [← hX.len]; have := hunkSum_fit X; omega
  obtain ⟨cd, hcd⟩ : ∃ cd, cd = errP (checkB X) := ⟨_, rfl⟩
  obtain ⟨ds, hds⟩ : ∃ ds : Int, ds = (distI X : Int) := ⟨_, rfl⟩
  obtain ⟨T, E, hTE⟩ := apply_parts s X
  obtain ⟨H, hH⟩ : ∃ H, H = backH X := ⟨_, rfl⟩
  have HS := Lib.hid (spareC w a n c X hX HF.out)
  have HCK := Lib.hid (fun W a c (hR : ReadsK W a n X) hW => checkC W a n c X hR HF.out hW)
  have HCR := Lib.hid (fun W a c (hR : ReadsK W a n X) => checkR W a n c X hR HF.out)
  have HDK := Lib.hid (fun W a c (hR : ReadsK W a n X) => distC W a n c X hR HF.out)
  have HDR := Lib.hid (fun W a c (hR : ReadsK W a n X) => distR W a n c X hR HF.out)
  have HAK := Lib.hid (fun W a c (hR : ReadsK W a n X) hW => applyC W s a n c X hR HF.out hW)
  have HAR := Lib.hid (fun W a c (hR : ReadsK W a n X) => applyR W s a n c X hR HF.out)
  have HBK := Lib.hid (fun W a c (hR : ReadsK W a n X) hW => (backC W a n c X hR HF.out hW).mono (fun e w' h => back_own h))
  have HBR := Lib.hid (fun W a c (hR : ReadsK W a n X) => (backR W a n c X hR HF.out).mono (fun e w' h => back_read h))
  rw [← hcd] at HCK HCR HBK HBR
  rw [← hds] at HDK HDR
  rw [hTE] at HAK HAR
  rw [← hH] at HBK HBR hok
  have HOK := Lib.hid hok
  have hHl := hok.2
  have HLI := Lib.hid (lenI (fun x hx => (HOK.out.1 x hx).2.2))
  have b1 : (cd != cd) = false := by simp
  have b2 : (ds != ds) = false := by simp
  have b3 : (T != T) = false := by simp
  have b3' : (T == T) = true := by simp
  have b4 : (E != E) = false := by simp
  have b5 : (cd == cd) = true := by simp
  clear hT hX hok hcd hds hTE hH hs hsl
  go_enter Tryd.func5, Tryd.ntmps5
  go_upto_region 2 with (go_at_call 18; refine (HS.out).mono ?_; rintro e w1 ⟨a1, c1, rfl, hS1, hb1⟩; have HS1 := Lib.hid hS1; have HB1 := Lib.hid hb1; clear hS1 hb1)
  have hk : ∀ W, Below w1.heap.size w1 W → SpareK W a1 n c1 X ∧ ReadsK W a1 n X ∧ ReadsK W a n X ∧ Tabs W ∧ Below w.heap.size w W := fun W hW => by
    have h1 := HS1.out.keep hW
    have h2 : Below w.heap.size w W := HB1.out.trans (hW.mono HB1.out.size)
    exact ⟨h1, h1.reads, HX.out.keep h2 (Nat.le_refl _), HT.out.next h2, h2⟩
  have HK := Lib.hid hk
  have HZ := Lib.hid (Below.refl w1.heap.size w1)
  clear hk
  go_upto_region 4 with (first
    | (go_at_call 19; refine (HCK.out w1 a1 c1 (HK.out w1 HZ.out).2.1 (HK.out w1 HZ.out).2.2.2.1).mono ?_; rintro e w2 ⟨rfl, hb⟩; have HB2 := Lib.hid hb; clear hb)
    | (go_at_call 20; refine (HCR.out w2 a c (HK.out w2 HB2.out).2.2.1).mono ?_; rintro e w3 ⟨rfl, hb⟩; have HB3 := Lib.hid (below_next HB2.out (Nat.le_refl _) hb); clear hb)
    | (go_at_call 17; refine (HDK.out w3 a1 c1 (HK.out w3 HB3.out).2.1).mono ?_; rintro e w4 ⟨rfl, hb⟩; have HB4 := Lib.hid (below_next HB3.out (Nat.le_refl _) hb); clear hb)
    | (go_at_call 21; refine (HDR.out w4 a c (HK.out w4 HB4.out).2.2.1).mono ?_; rintro e w5 ⟨rfl, hb⟩; have HB5 := Lib.hid (below_next HB4.out (Nat.le_refl _) hb); clear hb))
  go_upto_region 8 with (first
    | (go_at_call 22; refine (HAK.out w5 a1 c1 (HK.out w5 HB5.out).2.1 (HK.out w5 HB5.out).2.2.2.1).mono ?_; rintro e w6 ⟨rfl, hb⟩; have HB6 := Lib.hid (below_next HB5.out (Nat.le_refl _) hb); clear hb)
    | (go_at_call 23; refine (HAR.out w6 a c (HK.out w6 HB6.out).2.2.1).mono ?_; rintro e w7 ⟨rfl, hb⟩; have HB7 := Lib.hid (below_next HB6.out (Nat.le_refl _) hb); clear hb))
  go_upto_region 9 with (go_at_call 24; refine (HBK.out w7 a1 c1 (HK.out w7 HB7.out).2.1 (HK.out w7 HB7.out).2.2.2.1).mono ?_; rintro e w8 ⟨v8, C8, rfl, hP, hL, hz, hb⟩; obtain ⟨a8, rfl, hr⟩ := hP.reads; have HP8 := Lib.hid hP; have HR8 := Lib.hid hr; have HL8 := Lib.hid hL; have HZ8 := Lib.hid hz; have Hb8 := Lib.hid hb; have HB8 := Lib.hid (below_next HB7.out (Nat.le_refl _) hb); clear hP hr hL hz hb)
  go_upto_region 10 with (go_at_call 24; refine (HBK.out w8 a1 c1 (HK.out w8 HB8.out).2.1 (HK.out w8 HB8.out).2.2.2.1).mono ?_; rintro e w9 ⟨v9, C9, rfl, hP, hL, hz, hb⟩; obtain ⟨a9, rfl, hr⟩ := hP.reads; have HP9 := Lib.hid hP; have HR9 := Lib.hid hr; have HL9 := Lib.hid hL; have HZ9 := Lib.hid hz; have Hb9 := Lib.hid hb; have HB9 := Lib.hid (below_next HB8.out (Nat.le_refl _) hb); clear hP hr hL hz hb)
  go_upto_region 11 with (go_at_call 25; refine (HBR.out w9 a c (HK.out w9 HB9.out).2.2.1).mono ?_; rintro e w10 ⟨a10, c10, rfl, hr, hb⟩; have HR10 := Lib.hid hr; have Hb10 := Lib.hid hb; have HB10 := Lib.hid (below_next HB9.out (Nat.le_refl _) hb); clear hr hb)
  have R8 : Hid (ReadsK w10 a8 H.length (H.map toI)) := Lib.hid ((HR8.out.keep Hb9.out (Nat.le_refl _)).keep Hb10.out (Nat.le_refl _))
  have R9 : Hid (ReadsK w10 a9 H.length (H.map toI)) := Lib.hid (HR9.out.keep Hb10.out (Nat.le_refl _))
  have s8 := Hb8.out.size
  have s9 := Hb9.out.size
  have s10 := Hb10.out.size
  have s7 := HB7.out.size
  have s1 := HB1.out.size
  obtain ⟨m, hm⟩ : ∃ m, m = H.length := ⟨_, rfl⟩
  rw [← hm] at R8 R9 HR10 hHl ⊢
  have HM := Lib.hid hm
  clear hm
  go_wp2_with (first
    | (go_at_call_of 12 (Value.slice a8 m m); refine (eqHunks w10 a8 a10 m m c10 _ R8.out HR10.out (by omega) HLI.out).mono ?_; rintro e w11 ⟨rfl, hq⟩; have HQ11 := Lib.hid hq; clear hq)
    | (go_at_call_of 12 (Value.slice a9 m m); refine (eqHunks w11 a9 a10 m m c10 _ (R9.out.quiet HQ11.out) (HR10.out.quiet HQ11.out) (by omega) HLI.out).mono ?_; rintro e w12 ⟨rfl, hq⟩; have HQ12 := Lib.hid (HQ11.out.trans hq); have HB12 := Lib.hid (HB10.out.trans (HQ12.out.below _)); clear hq)
    | (go_at_call 26; refine (keptC _ a1 a n c1 c X (HK.out w12 HB12.out).1 (HK.out w12 HB12.out).2.2.1 HF.out).mono ?_; rintro e w13 ⟨rfl, hq⟩; have HQ13 := Lib.hid (HQ12.out.trans hq); have HB13 := Lib.hid (HB12.out.trans (hq.below _)); clear hq)
    | (go_at_call 13; refine (apartC w8 w13 C8 C9 _ _ H H (HM.out ▸ HP8.out) (Hb9.out.trans ((Hb10.out.trans (HQ13.out.below _)).mono s9)) (HM.out ▸ (HP9.out.keep (Hb10.out.trans ((HQ13.out.below _).mono s10)))) HZ8.out HL9.out (fun x hx => (HOK.out.1 x hx).2.1) (fun x hx => (HOK.out.1 x hx).2.1) (by rw [← HM.out]; omega) (by rw [← HM.out]; omega) (fun x hx => by have := (HOK.out.1 x hx).2.2; omega) (fun x hx => by have := (HOK.out.1 x hx).2.2; omega) (fun x hx => by have := (HOK.out.1 x hx).1; omega)).mono ?_; rintro e w14 ⟨rfl, hb⟩; have HB14 : Hid (Below w1.heap.size w1 w14) := Lib.hid (HB13.out.trans (hb.mono (Nat.le_trans s7 HL8.out))); clear hb)
    | (go_at_call 26; refine (keptC w14 a1 a n c1 c X (HK.out w14 HB14.out).1 (HK.out w14 HB14.out).2.2.1 HF.out).mono ?_; rintro e w15 ⟨rfl, hq⟩; have HB15 := Lib.hid (HB14.out.trans (hq.below _)); clear hq)
    | (go_at_call 14; refine (worksC w15 (HK.out w15 HB15.out).2.2.2.1).mono ?_; rintro e w16 ⟨rfl, hb⟩; have HB16 := Lib.hid (below_next HB15.out (Nat.le_refl _) hb); clear hb))
  go_ret
  exact ⟨rfl, (HK.out _ HB16.out).2.2.2.2⟩
end Go.Proofs.YtnbihjocdlpplaaDoor
/- What the row's list gives: the tables in the world. -/
namespace Go.Proofs.YtnbihjocdlpplaaDoor
set_option linter.unusedVariables false
set_option linter.unusedSimpArgs false
open Go.Lib Go.RowKit
theorem tab_cells {w : World} {n : String} {k : IntKind} {zs : List Int} {d : DataW Unit} (hd0 : d = tabData k zs) (h : VarReads Tryd.prog w n d) {g : Nat} {t e : TypeId} {m : Nat} (hg : Tryd.prog.globalNamed n = some g) (hty : (Tryd.prog.globals[g]?).map (·.type) = some t)
    (ht : Tryd.prog.underlying t = some (.array m e)) (he : Tryd.prog.underlying e = some (.int k)) (hce : Tryd.prog.cellsOf e = 1) (hct : Tryd.prog.cellsOf t = m) : TabIs Tryd.prog w n k zs := by
  subst hd0
  obtain ⟨g', t', cs, fuel, p, hg', ht', hvar, hd⟩ := h
  obtain rfl := Option.some.inj (hg.symm.trans hg')
  obtain rfl := Option.some.inj (hty.symm.trans ht')
  unfold TabIs
  rw [hvar, ← cells_of_tab ht he hce hct hd]
theorem first_data : Rows.laid_unicode_utf8_first = tabData .u8 firstTab := by kernel_rfl
theorem accept_data : (Rows.laid_unicode_utf8_acceptRanges : DataW Unit) = acceptData := by kernel_rfl
theorem tabs_of {l : List (String × DataW Unit)} {w : World} (h : laidMet Tryd.prog l w) (m1 : ("unicode/utf8.first", Rows.laid_unicode_utf8_first) ∈ l) (m2 : ("unicode/utf8.acceptRanges", Rows.laid_unicode_utf8_acceptRanges) ∈ l) : Tabs w := by
  have t1 : TabIs Tryd.prog w "unicode/utf8.first" .u8 firstTab := tab_cells first_data (laidMet.reads h m1) (g := 2) (t := 154) (e := 5) (by kernel_rfl) (by kernel_rfl) Tryd.underlying154 Tryd.underlying5 (by kernel_rfl) (by kernel_rfl)
  have key : ∀ i, i < 16 → w.cell? ⟨3, 2 * i, none⟩ = some (.int .u8 (accLo i : Int)) ∧ w.cell? ⟨3, 2 * i + 1, none⟩ = some (.int .u8 (accHi i : Int)) := fun i hi => by
    have h4 := laidMet.reads h m2
    rw [accept_data] at h4
    obtain ⟨g, t, cs, fuel, p, hg, hty, hvar, hd⟩ := h4
    obtain rfl := Option.some.inj ((show Tryd.prog.globalNamed "unicode/utf8.acceptRanges" = some 3 by kernel_rfl).symm.trans hg)
    obtain rfl := Option.some.inj ((show (Tryd.prog.globals[3]?).map (·.type) = some 158 by kernel_rfl).symm.trans hty)
    have c138 : Tryd.prog.cellsOf 157 = 2 := by kernel_rfl
    have c5 : Tryd.prog.cellsOf 5 = 1 := by kernel_rfl
    obtain ⟨fuel', d, q, hdi, he⟩ := array_elem Tryd.underlying158 hd i hi
    simp only [List.getElem?_map, List.getElem?_range hi, Option.map_some, Option.some.injEq] at hdi
    subst hdi
    rw [c138] at he
    have hcs := ints_of_struct Tryd.underlying157 (fun j f hj => by
      match j, hj with
      | 0, hj => simp at hj; subst hj; exact ⟨Tryd.underlying5, rfl, c5⟩
      | 1, hj => simp at hj; subst hj; exact ⟨Tryd.underlying5, rfl, c5⟩
      | j + 2, hj => simp at hj) (by rw [c138]; rfl) he
    have e0 := congrArg (·[0]?) hcs
    have e1 := congrArg (·[1]?) hcs
    simp only [List.getElem?_take, List.getElem?_drop] at e0 e1
    constructor
    · rw [World.var?_cell hg hvar (2 * i), ← Array.getElem?_toList]
      simpa [Nat.mul_comm] using e0
    · rw [World.var?_cell hg hvar (2 * i + 1), ← Array.getElem?_toList]
      simpa [Nat.mul_comm] using e1
  refine ⟨⟨fun c hc => ?_, fun i hi => ?_⟩, ?_⟩
  · have := t1.cell (g := 2) (by kernel_rfl) c (by simpa [firstTab] using hc)
    rw [this]
    simp [firstTab, List.getD, hc]
  · exact key i hi
  · have := World.block_lt_of_cell? w _ (key 0 (by decide)).1
    exact this
end Go.Proofs.YtnbihjocdlpplaaDoor
