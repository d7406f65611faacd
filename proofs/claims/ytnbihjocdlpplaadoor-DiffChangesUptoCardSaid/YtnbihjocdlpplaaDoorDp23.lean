/- Texts joined, one behind the other (LDiffPatches, LDiffChanges, Laid31). -/
import Derived.Test.YtnbihjocdlpplaaDoorDp22
import Derived.Test.YtnbihjocdlpplaaDoorRows
import Derived.Lib.LaidU8
import Derived.LaidSub
/- DiffPatches: the walk. -/
namespace Go.Proofs.YtnbihjocdlpplaaDoor
set_option linter.unusedVariables false
set_option linter.unusedSimpArgs false
open Go.RowKit
open Go.Lib hiding intOf
theorem sum_fit {X : List HkI} (h : hunkSum X ≤ 1048576) : Fit X := by
  have := hunkSum_fit X
  exact ⟨by omega, by omega, by omega⟩
def backH (X : List HkI) : List Hk := if checkB X = true then backI X else []
theorem opsB_lines (X : List HkI) (h : ∀ x ∈ X, 1 ≤ x.1 ∧ x.1 ≤ 3) : (opsB X).flatMap lineA = sideI 3 X ∧ (opsB X).flatMap lineB = sideI 2 X := by
  induction X with
  | nil => exact ⟨rfl, rfl⟩
  | cons x X ih =>
    obtain ⟨i1, i2⟩ := ih (fun y hy => h y (List.mem_cons_of_mem _ hy))
    have hk := h x (by simp)
    have hrow : ∀ L : List (List UInt8), (L.map (opB x.1)).flatMap lineA = (if x.1 = 1 ∨ x.1 = 3 then L else []) ∧ (L.map (opB x.1)).flatMap lineB = (if x.1 = 1 ∨ x.1 = 2 then L else []) := by
      intro L
      have hk3 : x.1 = 1 ∨ x.1 = 2 ∨ x.1 = 3 := by omega
      induction L with
      | nil => simp
      | cons s L ihL =>
        rw [List.map_cons, List.flatMap_cons, List.flatMap_cons, ihL.1, ihL.2]
        rcases hk3 with e | e | e <;> simp [e, opB, lineA, lineB]
    rw [opsB_cons, List.flatMap_append, List.flatMap_append, i1, i2, (hrow x.2).1, (hrow x.2).2]
    unfold sideI
    rw [List.flatMap_cons, List.flatMap_cons]
    exact ⟨rfl, rfl⟩
theorem back_okB (X : List HkI) : okB 0 ((backI X).map toI) = true := (okB_to _ 0).2 (patchOf_ok _)
theorem back_sides {X : List HkI} (h : okB 0 X = true) : sideI 2 ((backI X).map toI) = sideI 3 X ∧ sideI 3 ((backI X).map toI) = sideI 2 X := by
  have hl := opsB_lines X (fun x hx => (okB_mem X 0 h x hx).1)
  have hp := patchOf_sides (opsB X)
  have e2 := sideI_to 2 (backI X)
  have e3 := sideI_to 3 (backI X)
  exact ⟨(e2.trans hp.1).trans hl.1, (e3.trans hp.2).trans hl.2⟩
theorem check_parts {X : List HkI} (h : checkB X = true) : okB 0 X = true ∧ wholeB (sideI 2 X) = true ∧ wholeB (sideI 3 X) = true := by
  unfold checkB at h
  rw [Bool.and_eq_true, Bool.and_eq_true] at h
  exact ⟨h.1.1, h.1.2, h.2⟩
theorem back_check {X : List HkI} (h : checkB X = true) : checkB ((backI X).map toI) = true := by
  obtain ⟨h1, h2, h3⟩ := check_parts h
  unfold checkB
  rw [back_okB, (back_sides h1).1, (back_sides h1).2, h2, h3]
  rfl
theorem hunks_small {H : List Hk} (h : checkB (H.map toI) = true) : (∀ x ∈ H, (1 ≤ x.1 ∧ x.1 ≤ 3) ∧ x.2 ≠ [] ∧ x.2.length ≤ 1024) ∧ H.length ≤ 1024 := by
  obtain ⟨h1, _, _⟩ := check_parts h
  have hm := okB_mem _ 0 h1
  have hl := check_lines h
  have h3 := len_lines _ (fun x hx => (hm x hx).2)
  rw [List.length_map] at h3
  refine ⟨fun x hx => ?_, by omega⟩
  have q1 := hm (toI x) (List.mem_map.2 ⟨x, hx, rfl⟩)
  have q2 := linesK_mem (List.mem_map.2 ⟨x, hx, rfl⟩ : toI x ∈ H.map toI)
  have e1 : (toI x).1 = (x.1 : Int) := rfl
  have e2 : (toI x).2 = x.2 := rfl
  rw [e1, e2] at q1
  rw [e2] at q2
  exact ⟨⟨by omega, by omega⟩, q1.2, by omega⟩
theorem backH_ok (X : List HkI) : (∀ x ∈ backH X, (1 ≤ x.1 ∧ x.1 ≤ 3) ∧ x.2 ≠ [] ∧ x.2.length ≤ 1024) ∧ (backH X).length ≤ 1024 := by
  unfold backH
  by_cases h : checkB X = true
  · rw [if_pos h]
    exact hunks_small (back_check h)
  · rw [if_neg h]
    exact ⟨fun x hx => (by cases hx), Nat.zero_le _⟩
theorem back_own {w w' : World} {X : List HkI} {e : Ending} (h : BackP w X e w') : ∃ v B, e = .returned (.tuple #[v, .int .i64 (errP (checkB X))]) ∧ PatchAt B w' v (backH X) ∧ w.heap.size ≤ B ∧ B ≤ w'.heap.size ∧ Below w.heap.size w w' := by
  rcases h with ⟨h, he, hb⟩ | ⟨h, v, B, he, hP, h1, h2, hb⟩
  · refine ⟨.slice none 0 0, w.heap.size, by rw [he, h]; rfl, ?_, Nat.le_refl _, hb.size, hb⟩
    unfold backH
    rw [h]
    exact ⟨none, 0, [], rfl, SW.start _ _ _ (fun p hp => by cases hp), fun x hx => by cases hx⟩
  · refine ⟨v, B, by rw [he, h]; rfl, ?_, h1, h2, hb⟩
    unfold backH
    rw [if_pos h]
    exact hP
theorem back_read {w w' : World} {X : List HkI} {e : Ending} (h : BackQ w X e w') : ∃ a c, e = .returned (.tuple #[.slice a (backH X).length c, .int .i64 (errP (checkB X))]) ∧ ReadsK w' a (backH X).length ((backH X).map toI) ∧ Below w.heap.size w w' := by
  rcases h with ⟨h, he, hb⟩ | ⟨h, a, c, he, hr, hb⟩
  · refine ⟨none, 0, by rw [he]; unfold backH; rw [h]; rfl, ?_, hb⟩
    unfold backH
    rw [h]
    exact ReadsK.nil _ _
  · refine ⟨a, c, by rw [he]; unfold backH; rw [if_pos h, h]; rfl, ?_, hb⟩
    unfold backH
    rw [if_pos h]
    exact hr
theorem apply_parts (s : List UInt8) (X : List HkI) : ∃ T E, applyE s X = .returned (.tuple #[.string (bstr T), .int .i64 E]) := by
  unfold applyE
  split
  · exact ⟨_, _, rfl⟩
  · exact ⟨_, _, rfl⟩
set_option maxHeartbeats 8000000 in
set_option maxRecDepth 100000 in
theorem diffPatches_walk (w : World) (a : Option Addr) (n c : Nat) (X : List HkI) (hX : ReadsK w a n X) (hnc : n ≤ c) (hcm : c ≤ maxLen) (hs : hunkSum X ≤ 1048576) (s : List UInt8) (hsl : s.length ≤ 1048576) (hT : Tabs w) :
    Calls Tryd.prog 5 #[.slice a n c, .string (bstr s)] w fun e w' => e = .returned (.bool true) ∧ Below w.heap.size w w' := by
  have HF := Lib.hid (sum_fit hs)
  have HT := Lib.hid hT
  have HX := Lib.hid hX
  have hok := backH_ok X
  have hn : n ≤ 1048576 := by rw [← hX.len]; have := hunkSum_fit X; omega
  obtain ⟨cd, hcd⟩ : ∃ cd, cd = errP (checkB X) := ⟨_, rfl⟩
  obtain ⟨ds, hds⟩ : ∃ ds : Int, ds = (distI X : Int) := ⟨_, rfl⟩
  obtain ⟨T, E, hTE⟩ := apply_parts s X
  obtain ⟨H, hH⟩ : ∃ H, H = backH X := ⟨_, rfl⟩
  have HS := Lib.hid (spareC w a n c X hX HF.out)
  have HCK := Lib.hid (fun W a c (hR : ReadsK W a n X) hW => checkC W a n c X hR HF.out hW)
  have HCR := Lib.hid (fun W a c (hR : ReadsK W a n X) => checkR W a n c X hR HF.out)
  have HDK := Lib.hid (fun W a c (hR : ReadsK W a n X) => distC W a n c X hR HF.out)
  have HDR := Lib.hid (fun W a c (hR : ReadsK W a n X) => distR W a n c X hR HF.out)
  have HAK := Lib.hid (fun W a c (hR : ReadsK W a n X) hW => applyC W s a n c X hR HF.out hW)
  have HAR := Lib.hid (fun W a c (hR : ReadsK W a n X) => applyR W s a n c X hR HF.out)
  have HBK := Lib.hid (fun W a c (hR : ReadsK W a n X) hW => (backC W a n c X hR HF.out hW).mono (fun e w' h => back_own h))
  have HBR := Lib.hid (fun W a c (hR : ReadsK W a n X) => (backR W a n c X hR HF.out).mono (fun e w' h => back_read h))
  rw [← hcd] at HCK HCR HBK HBR
  rw [← hds] at HDK HDR
  rw [hTE] at HAK HAR
  rw [← hH] at HBK HBR hok
  have HOK := Lib.hid hok
  have hHl := hok.2
  have HLI := Lib.hid (lenI (fun x hx => (HOK.out.1 x hx).2.2))
  have b1 : (cd != cd) = false := by simp
  have b2 : (ds != ds) = false := by simp
  have b3 : (T != T) = false := by simp
  have b3' : (T == T) = true := by simp
  have b4 : (E != E) = false := by simp
  have b5 : (cd == cd) = true := by simp
  clear hT hX hok hcd hds hTE hH hs hsl
  go_enter Tryd.func5, Tryd.ntmps5
  go_upto_region 2 with (go_at_call 18; refine (HS.out).mono ?_; rintro e w1 ⟨a1, c1, rfl, hS1, hb1⟩; have HS1 := Lib.hid hS1; have HB1 := Lib.hid hb1; clear hS1 hb1)
  have hk : ∀ W, Below w1.heap.size w1 W → SpareK W a1 n c1 X ∧ ReadsK W a1 n X ∧ ReadsK W a n X ∧ Tabs W ∧ Below w.heap.size w W := fun W hW => by
    have h1 := HS1.out.keep hW
    have h2 : Below w.heap.size w W := HB1.out.trans (hW.mono HB1.out.size)
    exact ⟨h1, h1.reads, HX.out.keep h2 (Nat.le_refl _), HT.out.next h2, h2⟩
  have HK := Lib.hid hk
  have HZ := Lib.hid (Below.refl w1.heap.size w1)
  clear hk
  go_upto_region 4 with (first
    | (go_at_call 19; refine (HCK.out w1 a1 c1 (HK.out w1 HZ.out).2.1 (HK.out w1 HZ.out).2.2.2.1).mono ?_; rintro e w2 ⟨rfl, hb⟩; have HB2 := Lib.hid hb; clear hb)
    | (go_at_call 20; refine (HCR.out w2 a c (HK.out w2 HB2.out).2.2.1).mono ?_; rintro e w3 ⟨rfl, hb⟩; have HB3 := Lib.hid (below_next HB2.out (Nat.le_refl _) hb); clear hb)
    | (go_at_call 17; refine (HDK.out w3 a1 c1 (HK.out w3 HB3.out).2.1).mono ?_; rintro e w4 ⟨rfl, hb⟩; have HB4 := Lib.hid (below_next HB3.out (Nat.le_refl _) hb); clear hb)
    | (go_at_call 21; refine (HDR.out w4 a c (HK.out w4 HB4.out).2.2.1).mono ?_; rintro e w5 ⟨rfl, hb⟩; have HB5 := Lib.hid (below_next HB4.out (Nat.le_refl _) hb); clear hb))
  go_upto_region 8 with (first
    | (go_at_call 22; refine (HAK.out w5 a1 c1 (HK.out w5 HB5.out).2.1 (HK.out w5 HB5.out).2.2.2.1).mono ?_; rintro e w6 ⟨rfl, hb⟩; have HB6 := Lib.hid (below_next HB5.out (Nat.le_refl _) hb); clear hb)
    | (go_at_call 23; refine (HAR.out w6 a c (HK.out w6 HB6.out).2.2.1).mono ?_; rintro e w7 ⟨rfl, hb⟩; have HB7 := Lib.hid (below_next HB6.out (Nat.le_refl _) hb); clear hb))
  go_upto_region 9 with (go_at_call 24; refine (HBK.out w7 a1 c1 (HK.out w7 HB7.out).2.1 (HK.out w7 HB7.out).2.2.2.1).mono ?_; rintro e w8 ⟨v8, C8, rfl, hP, hL, hz, hb⟩; obtain ⟨a8, rfl, hr⟩ := hP.reads; have HP8 := Lib.hid hP; have HR8 := Lib.hid hr; have HL8 := Lib.hid hL; have HZ8 := Lib.hid hz; have Hb8 := Lib.hid hb; have HB8 := Lib.hid (below_next HB7.out (Nat.le_refl _) hb); clear hP hr hL hz hb)
  go_upto_region 10 with (go_at_call 24; refine (HBK.out w8 a1 c1 (HK.out w8 HB8.out).2.1 (HK.out w8 HB8.out).2.2.2.1).mono ?_; rintro e w9 ⟨v9, C9, rfl, hP, hL, hz, hb⟩; obtain ⟨a9, rfl, hr⟩ := hP.reads; have HP9 := Lib.hid hP; have HR9 := Lib.hid hr; have HL9 := Lib.hid hL; have HZ9 := Lib.hid hz; have Hb9 := Lib.hid hb; have HB9 := Lib.hid (below_next HB8.out (Nat.le_refl _) hb); clear hP hr hL hz hb)
  go_upto_region 11 with (go_at_call 25; refine (HBR.out w9 a c (HK.out w9 HB9.out).2.2.1).mono ?_; rintro e w10 ⟨a10, c10, rfl, hr, hb⟩; have HR10 := Lib.hid hr; have Hb10 := Lib.hid hb; have HB10 := Lib.hid (below_next HB9.out (Nat.le_refl _) hb); clear hr hb)
  have R8 : Hid (ReadsK w10 a8 H.length (H.map toI)) := Lib.hid ((HR8.out.keep Hb9.out (Nat.le_refl _)).keep Hb10.out (Nat.le_refl _))
  have R9 : Hid (ReadsK w10 a9 H.length (H.map toI)) := Lib.hid (HR9.out.keep Hb10.out (Nat.le_refl _))
  have s8 := Hb8.out.size
  have s9 := Hb9.out.size
  have s10 := Hb10.out.size
  have s7 := HB7.out.size
  have s1 := HB1.out.size
  obtain ⟨m, hm⟩ : ∃ m, m = H.length := ⟨_, rfl⟩
  rw [← hm] at R8 R9 HR10 hHl ⊢
  have HM := Lib.hid hm
  clear hm
  go_wp2_with (first
    | (go_at_call_of 12 (Value.slice a8 m m); refine (eqHunks w10 a8 a10 m m c10 _ R8.out HR10.out (by omega) HLI.out).mono ?_; rintro e w11 ⟨rfl, hq⟩; have HQ11 := Lib.hid hq; clear hq)
    | (go_at_call_of 12 (Value.slice a9 m m); refine (eqHunks w11 a9 a10 m m c10 _ (R9.out.quiet HQ11.out) (HR10.out.quiet HQ11.out) (by omega) HLI.out).mono ?_; rintro e w12 ⟨rfl, hq⟩; have HQ12 := Lib.hid (HQ11.out.trans hq); have HB12 := Lib.hid (HB10.out.trans (HQ12.out.below _)); clear hq)
    | (go_at_call 26; refine (keptC _ a1 a n c1 c X (HK.out w12 HB12.out).1 (HK.out w12 HB12.out).2.2.1 HF.out).mono ?_; rintro e w13 ⟨rfl, hq⟩; have HQ13 := Lib.hid (HQ12.out.trans hq); have HB13 := Lib.hid (HB12.out.trans (hq.below _)); clear hq)
    | (go_at_call 13; refine (apartC w8 w13 C8 C9 _ _ H H (HM.out ▸ HP8.out) (Hb9.out.trans ((Hb10.out.trans (HQ13.out.below _)).mono s9)) (HM.out ▸ (HP9.out.keep (Hb10.out.trans ((HQ13.out.below _).mono s10)))) HZ8.out HL9.out (fun x hx => (HOK.out.1 x hx).2.1) (fun x hx => (HOK.out.1 x hx).2.1) (by rw [← HM.out]; omega) (by rw [← HM.out]; omega) (fun x hx => by have := (HOK.out.1 x hx).2.2; omega) (fun x hx => by have := (HOK.out.1 x hx).2.2; omega) (fun x hx => by have := (HOK.out.1 x hx).1; omega)).mono ?_; rintro e w14 ⟨rfl, hb⟩; have HB14 : Hid (Below w1.heap.size w1 w14) := Lib.hid (HB13.out.trans (hb.mono (Nat.le_trans s7 HL8.out))); clear hb)
    | (go_at_call 26; refine (keptC w14 a1 a n c1 c X (HK.out w14 HB14.out).1 (HK.out w14 HB14.out).2.2.1 HF.out).mono ?_; rintro e w15 ⟨rfl, hq⟩; have HB15 := Lib.hid (HB14.out.trans (hq.below _)); clear hq)
    | (go_at_call 14; refine (worksC w15 (HK.out w15 HB15.out).2.2.2.1).mono ?_; rintro e w16 ⟨rfl, hb⟩; have HB16 := Lib.hid (below_next HB15.out (Nat.le_refl _) hb); clear hb))
  go_ret
  exact ⟨rfl, (HK.out _ HB16.out).2.2.2.2⟩
end Go.Proofs.YtnbihjocdlpplaaDoor
/- DiffChanges: the walk. -/
namespace Go.Proofs.YtnbihjocdlpplaaDoor
set_option linter.unusedVariables false
set_option linter.unusedSimpArgs false
open Go.RowKit
open Go.Lib hiding intOf
/-- a row of changes that may be written -/
def AC (B Bb : Nat) (a : Option Addr) (n : Nat) (w : World) : Prop := 0 < n → ∃ g, a = some ⟨g, 0, none⟩ ∧ B ≤ g ∧ g < Bb ∧ ∃ cur : Array Value, w.heap[g]? = some (.cells cur 46 (0, 0)) ∧ n * 3 ≤ cur.size
theorem AC.set {B Bb g n o : Nat} {w : World} (h : AC B Bb (some ⟨g, 0, none⟩) n w) (v : Value) : AC B Bb (some ⟨g, 0, none⟩) n (w.setCell ⟨g, o, none⟩ v) := fun h0 => by
  obtain ⟨g', e, h1, h2, cur, h3, h4⟩ := h h0
  cases e
  exact ⟨g, rfl, h1, h2, cur.setIfInBounds o v, by simp [World.setCell, Array.getElem?_modify, h3], by simpa using h4⟩
theorem AC.cells {B Bb n : Nat} {a : Option Addr} {w : World} (h : AC B Bb a n w) : ∃ xs : List Value, xs.length = n * 3 ∧ (0 < n → ∃ ad, a = some ad ∧ ∀ j u, xs[j]? = some u → w.cell? (ad.add j) = some u) := by
  rcases Nat.eq_zero_or_pos n with h0 | h0
  · subst h0
    exact ⟨[], rfl, fun h => by omega⟩
  · obtain ⟨g, rfl, h1, h2, cur, h3, h4⟩ := h h0
    refine ⟨cur.toList.take (n * 3), by simp; omega, fun _ => ⟨⟨g, 0, none⟩, rfl, fun j u hj => ?_⟩⟩
    rw [cell_add, Nat.zero_add]
    rw [List.getElem?_take] at hj
    split at hj
    · simp only [World.cell?, h3]
      simpa using hj
    · cases hj
theorem ChOwn.ac {B : Nat} {a : Option Addr} {n c : Nat} {L : List Ch} {w w' : World} (h : ChOwn B (.slice a n c) L w) (hn : n = L.length) (hb : Below w.heap.size w w') : AC B w.heap.size a n w' := fun h0 => by
  subst hn
  obtain ⟨g, rfl, hg, hc⟩ := own_cell h h0
  obtain ⟨hB, cur, hcur⟩ := own_block h (b := g) rfl
  refine ⟨g, rfl, hB, hg, cur, (hb.block g hg).trans hcur, ?_⟩
  obtain ⟨u, hu⟩ : ∃ u, (L.flatMap chCells)[L.length * 3 - 1]? = some u := ⟨_, List.getElem?_eq_getElem (by rw [chs_len]; omega)⟩
  have := cell_size hcur (hc _ _ hu)
  omega
theorem ChOwn.set {B g o : Nat} {v : Value} {L : List Ch} {w : World} (h : ChOwn B v L w) (hg : g < B) (u : Value) : ChOwn B v L (w.setCell ⟨g, o, none⟩ u) := by
  refine World.ownsRow.kept h (grownBy_setCell w g o u) ?_
  cases hb : v.ownBlock with
  | none => exact .inl rfl
  | some b => exact .inr (fun e => by cases e; have := (own_block h hb).1; omega)
theorem ChOwn.below {B : Nat} {v : Value} {L : List Ch} {w w' : World} (h : ChOwn B v L w) (hb : Below w.heap.size w w') : ChOwn B v L w' := own_below h hb
theorem ChOwn.readsA {B n c : Nat} {a : Option Addr} {L : List Ch} {w : World} (h : ChOwn B (.slice a n c) L w) (hn : n = L.length) : ReadsC w a n L := by
  obtain ⟨a', c', e, hr, _⟩ := h.reads
  cases e
  exact hr
theorem chOut_len (s : List UInt8) (X : List HkI) : (chOut s X).length ≤ X.length := by
  unfold chOut
  split
  · exact (chSt_bound X).2
  · exact Nat.zero_le _
def chCs (k : Int) : List Value := [.int .i64 k, .string ByteArray.empty, .string ByteArray.empty]
theorem chCs_one (k : Int) : ∀ u ∈ chCs k, u.oneCell' = true := by
  intro u hu
  simp only [chCs, List.mem_cons, List.not_mem_nil, or_false] at hu
  rcases hu with rfl | rfl | rfl <;> rfl
set_option maxHeartbeats 8000000 in
set_option maxRecDepth 100000 in
theorem diffChanges_walk (w : World) (s : List UInt8) (hsl : s.length ≤ 1048576) (a : Option Addr) (n c : Nat) (X : List HkI) (hX : ReadsK w a n X) (hnc : n ≤ c) (hcm : c ≤ maxLen) (hs : hunkSum X ≤ 1048576) (hT : Tabs w) :
    Calls Tryd.prog 6 #[.string (bstr s), .slice a n c] w fun e w' => e = .returned (.bool true) ∧ Below w.heap.size w w' := by
  have HF := Lib.hid (sum_fit hs)
  have HT := Lib.hid hT
  have HX := Lib.hid hX
  have hn : n ≤ 1048576 := by rw [← hX.len]; have := hunkSum_fit X; omega
  have hml : (chOut s X).length ≤ 1048576 := Nat.le_trans (chOut_len s X) (by have := hunkSum_fit X; omega)
  have HS := Lib.hid (spareC w a n c X hX HF.out)
  have HCP := Lib.hid (fun W a c (hR : ReadsK W a n X) hW => changesP W s a n c X hR HF.out hW)
  have HCQ := Lib.hid (fun W a c (hR : ReadsK W a n X) => changesQ W s a n c X hR HF.out)
  obtain ⟨L, hL⟩ : ∃ L, L = chOut s X := ⟨_, rfl⟩
  obtain ⟨cd, hcd⟩ : ∃ cd, cd = errP (fitsB s X) := ⟨_, rfl⟩
  rw [← hL, ← hcd] at HCP HCQ
  rw [← hL] at hml
  obtain ⟨m, hm⟩ : ∃ m, m = L.length := ⟨_, rfl⟩
  rw [← hm] at HCP hml
  have HM := Lib.hid hm
  have b1 : (cd != cd) = false := by simp
  clear hT hX hs hsl hcd hL hm
  go_enter Tryd.func6, Tryd.ntmps6
  go_upto_region 2 with (go_at_call 18; refine (HS.out).mono ?_; rintro e w1 ⟨a1, c1, rfl, hS1, hb1⟩; have HS1 := Lib.hid hS1; have HB1 := Lib.hid hb1; clear hS1 hb1)
  have hk : ∀ W, Below w1.heap.size w1 W → SpareK W a1 n c1 X ∧ ReadsK W a1 n X ∧ ReadsK W a n X ∧ Tabs W ∧ Below w.heap.size w W := fun W hW => by
    have h1 := HS1.out.keep hW
    have h2 : Below w.heap.size w W := HB1.out.trans (hW.mono HB1.out.size)
    exact ⟨h1, h1.reads, HX.out.keep h2 (Nat.le_refl _), HT.out.next h2, h2⟩
  have HK := Lib.hid hk
  have HZ := Lib.hid (Below.refl w1.heap.size w1)
  clear hk
  go_upto_region 3 with (go_at_call 27; refine (HCP.out w1 a1 c1 (HK.out w1 HZ.out).2.1 (HK.out w1 HZ.out).2.2.2.1).mono ?_; rintro e w2 ⟨⟨va, ca, rfl, hO⟩, hb⟩; have HO2 := Lib.hid hO; have HB2 := Lib.hid hb; clear hO hb)
  go_upto_region 4 with (go_at_call 27; refine (HCP.out w2 a1 c1 (HK.out w2 HB2.out).2.1 (HK.out w2 HB2.out).2.2.2.1).mono ?_; rintro e w3 ⟨⟨vb, cb, rfl, hO⟩, hb⟩; have HO3 := Lib.hid hO; have Hb3 := Lib.hid hb; have HB3 := Lib.hid (below_next HB2.out (Nat.le_refl _) hb); clear hO hb)
  go_upto_region 5 with (go_at_call 28; refine (HCQ.out w3 a c (HK.out w3 HB3.out).2.2.1).mono ?_; rintro e w4 ⟨⟨vw, rfl, hO⟩, hb⟩; have HO4 := Lib.hid hO; have Hb4 := Lib.hid hb; have HB4 := Lib.hid (below_next HB3.out (Nat.le_refl _) hb); clear hO hb)
  have s2 := HB2.out.size
  have s3 := Hb3.out.size
  have s4 := Hb4.out.size
  obtain ⟨aw, cw, hvw, _, _, _⟩ := HO4.out.reads
  rw [← HM.out] at hvw
  subst hvw
  -- the three rows, in every later world
  have K4 : ∀ W, Quiet w4 W → ReadsC W va m L ∧ ReadsC W vb m L ∧ ReadsC W aw m L := fun W hW => by
    have q2 : ChOwn w1.heap.size (.slice va m ca) L W := ((HO2.out.below Hb3.out).below Hb4.out).below (hW.below _)
    have q3 : ChOwn w2.heap.size (.slice vb m cb) L W := (HO3.out.below Hb4.out).below (hW.below _)
    have q4 : ChOwn w3.heap.size (.slice aw m cw) L W := HO4.out.below (hW.below _)
    exact ⟨q2.readsA HM.out, q3.readsA HM.out, q4.readsA HM.out⟩
  have HK4 := Lib.hid K4
  clear K4
  go_upto_region 7 with (first
    | (go_at_call_of 29 (Value.slice va m m); refine (eqChanges w4 va aw m m cw L (HK4.out w4 (Quiet.refl _)).1 (HK4.out w4 (Quiet.refl _)).2.2 (by omega)).mono ?_; rintro e w5 ⟨rfl, hq⟩; have HQ5 := Lib.hid hq; clear hq)
    | (go_at_call_of 29 (Value.slice vb m m); refine (eqChanges w5 vb aw m m cw L (HK4.out w5 HQ5.out).2.1 (HK4.out w5 HQ5.out).2.2 (by omega)).mono ?_; rintro e w6 ⟨rfl, hq⟩; have HQ6 := Lib.hid (HQ5.out.trans hq); have HB6 := Lib.hid (HB4.out.trans (HQ6.out.below _)); clear hq)
    | (go_at_call 26; refine (keptC _ a1 a n c1 c X (HK.out w6 HB6.out).1 (HK.out w6 HB6.out).2.2.1 HF.out).mono ?_; rintro e w7 ⟨rfl, hq⟩; have HQ7 := Lib.hid (HQ6.out.trans hq); clear hq))
  have HAC : Hid (AC w1.heap.size w2.heap.size va m w7) := Lib.hid (HO2.out.ac HM.out ((Hb3.out.trans (Hb4.out.mono s3)).trans ((HQ7.out.below w4.heap.size).mono (Nat.le_trans s3 s4))))
  have HO7 : Hid (ChOwn w2.heap.size (.slice vb m cb) L w7 ∧ ChOwn w3.heap.size (.slice aw m cw) L w7 ∧ Below w1.heap.size w1 w7) := Lib.hid ⟨(HO3.out.below Hb4.out).below (HQ7.out.below _), HO4.out.below (HQ7.out.below _), HB4.out.trans (HQ7.out.below _)⟩
  clear HO2 HO3 HO4 HK4 HQ5 HQ6 HQ7 HB2 HB3 HB4 HB6 Hb3 Hb4 HCP HCQ HS
  go_wp2
  go_loopw [12] (fun ui wr => ∃ k : Nat, ui = .int .i64 (k : Int) ∧ k ≤ m ∧ Hid (AC w1.heap.size w2.heap.size va m wr ∧ ChOwn w2.heap.size (.slice vb m cb) L wr ∧ ChOwn w3.heap.size (.slice aw m cw) L wr ∧ Below w1.heap.size w1 wr)) (fun ui _ => m - (RowKit.intOf ui).toNat)
  case atStart => exact ⟨0, rfl, Nat.zero_le _, Lib.hid ⟨HAC.out, HO7.out⟩⟩
  case round =>
    obtain ⟨k, rfl, hk, HR⟩ := hrel
    by_cases hlt3 : k < m
    · obtain ⟨g, rfl, hgB, hgBb, cur, hcur, hsz⟩ := HR.out.1 (by omega)
      obtain ⟨x0, h0⟩ : ∃ x0, cur[k * 3]? = some x0 := ⟨cur[k * 3], by simp⟩
      obtain ⟨x1, h1⟩ : ∃ x1, cur[k * 3 + 1]? = some x1 := ⟨cur[k * 3 + 1], by simp⟩
      obtain ⟨x2, h2⟩ : ∃ x2, cur[k * 3 + 2]? = some x2 := ⟨cur[k * 3 + 2], by simp⟩
      have d0 : wr.cell? ⟨g, k * 3, none⟩ = some x0 := by simp [World.cell?, hcur, h0]
      have d1 : wr.cell? ⟨g, k * 3 + 1, none⟩ = some x1 := by simp [World.cell?, hcur, h1]
      have d2 : wr.cell? ⟨g, k * 3 + 2, none⟩ = some x2 := by simp [World.cell?, hcur, h2]
      have e0 : wr.frozen? ⟨g, k * 3, none⟩ = false := by simp [World.frozen?, hcur]
      have e1 : wr.frozen? ⟨g, k * 3 + 1, none⟩ = false := by simp [World.frozen?, hcur]
      have e2 : wr.frozen? ⟨g, k * 3 + 2, none⟩ = false := by simp [World.frozen?, hcur]
      have hit : (k : Int) < (m : Int) := by omega
      have hg3 : g < w3.heap.size := by omega
      clear hcur h0 h1 h2
      go_wp2
      refine ⟨⟨k + 1, by go_num, hlt3, Lib.hid ⟨((HR.out.1.set _).set _).set _, ((HR.out.2.1.set hgBb _).set hgBb _).set hgBb _, ((HR.out.2.2.1.set hg3 _).set hg3 _).set hg3 _, ((HR.out.2.2.2.setCell hgB _).setCell hgB _).setCell hgB _⟩⟩, ?_⟩
      simp [RowKit.intOf]; omega
    · obtain rfl : k = m := by omega
      obtain ⟨w5, hw5⟩ : ∃ x : World, x = wr := ⟨_, rfl⟩
      have HR5 : Hid (AC w1.heap.size w2.heap.size va k w5 ∧ ChOwn w2.heap.size (.slice vb k cb) L w5 ∧ ChOwn w3.heap.size (.slice aw k cw) L w5 ∧ Below w1.heap.size w1 w5) := by rw [hw5]; exact HR
      rw [← hw5]
      clear HR hw5 HAC HO7
      obtain ⟨xs, hxl, hxs⟩ := HR5.out.1.cells
      have HXL := Lib.hid hxl
      have HXS := Lib.hid hxs
      clear hxl hxs
      go_wp2
      go_loopw [6, 13] (fun vg uy wr => ∃ t : Nat, t ≤ 20 ∧ uy = .int .i64 (t : Int) ∧ Hid (((t = 0 ∧ vg = .slice va k k) ∨ (0 < t ∧ ∃ ys, wr.ownsRow w5.heap.size 46 3 vg (k + t) ys)) ∧ Below w5.heap.size w5 wr)) (fun _ uy _ => 20 - (RowKit.intOf uy).toNat)
      case atStart => exact ⟨0, Nat.zero_le _, rfl, Lib.hid ⟨.inl ⟨rfl, rfl⟩, Below.refl _ _⟩⟩
      case round =>
        obtain ⟨t, ht, rfl, HQ⟩ := hrel
        obtain ⟨vq, rfl⟩ : ∃ v : Value, v = u6 := ⟨_, rfl⟩
        have hsq := HQ.out.2.size
        by_cases htl : t < 20
        · have htt : (t : Int) < 20 := by omega
          rcases HQ.out.1 with ⟨ht0, hv⟩ | ⟨ht0, ys, hO⟩
          · subst hv
            have HT0 := Lib.hid ht0
            clear ht0
            go_wp2_with (at_builtin; refine appClip2 rfl _ _ rfl Tryd.underlying41 (.agg #[.int .i64 0, .string ByteArray.empty, .string ByteArray.empty]) 3 40 infoCh rfl (by decide) (by decide) wr va k xs (chCs (-2)) HXL.out (fun h0 => by { obtain ⟨ad, e, hc⟩ := HXS.out h0; exact ⟨ad, e, fun j u hj => by { have h1 := hc j u hj; rw [HQ.out.2.cell (World.block_lt_of_cell? w5 _ h1)]; exact h1 }⟩ }) rfl (chCs_one _) rfl rfl rfl (by omega) ?_; intro v8 w8 hO8 hb8)
            have HNX : Hid ((∃ ys, w8.ownsRow w5.heap.size 46 3 v8 (k + (t + 1)) ys) ∧ Below w5.heap.size w5 w8) := Lib.hid ⟨⟨_, by have h1 := own_mono_size hO8 hsq; rw [show k + (t + 1) = k + 1 by have := HT0.out; omega]; exact h1⟩, HQ.out.2.trans (hb8.mono hsq)⟩
            clear hO8 hb8
            go_roundw
            case rel => exact ⟨t + 1, by omega, by go_num, Lib.hid ⟨.inr ⟨by omega, HNX.out.1⟩, HNX.out.2⟩⟩
            case measure => simp [RowKit.intOf]; omega
          · have HO := Lib.hid hO
            clear hO
            go_wp2_with (at_builtin; refine appNew rfl _ _ rfl Tryd.underlying41 (.agg #[.int .i64 0, .string ByteArray.empty, .string ByteArray.empty]) 3 40 infoCh rfl (by decide) (by decide) w5.heap.size w5.heap.size w5 wr vq (k + t) ys (chCs (-2)) rfl (chCs_one _) rfl HO.out rfl rfl (by omega) HQ.out.2 (Nat.le_refl _) hsq ?_; intro v8 w8 hO8 hb8 hs8)
            have HNX : Hid ((∃ ys, w8.ownsRow w5.heap.size 46 3 v8 (k + (t + 1)) ys) ∧ Below w5.heap.size w5 w8) := Lib.hid ⟨⟨_, hO8⟩, hb8⟩
            clear hO8 hb8
            go_roundw
            case rel => exact ⟨t + 1, by omega, by go_num, Lib.hid ⟨.inr ⟨by omega, HNX.out.1⟩, HNX.out.2⟩⟩
            case measure => simp [RowKit.intOf]; omega
        · obtain rfl : t = 20 := by omega
          have HB9 : Hid (Below w1.heap.size w1 wr) := Lib.hid (HR5.out.2.2.2.trans (HQ.out.2.mono HR5.out.2.2.2.size))
          have HE := Lib.hid (eqChanges wr vb aw k k cw L ((HR5.out.2.1.below HQ.out.2).readsA HM.out) ((HR5.out.2.2.1.below HQ.out.2).readsA HM.out) (by omega))
          clear HQ hsq
          go_wp2_with (first
            | (go_at_call 29; refine (HE.out).mono ?_; rintro e w9 ⟨rfl, hq⟩; have HB10 := Lib.hid (HB9.out.trans (hq.below _)); clear hq)
            | (go_at_call 14; refine (worksC w9 (HK.out w9 HB10.out).2.2.2.1).mono ?_; rintro e w16 ⟨rfl, hb⟩; have HB16 := Lib.hid (below_next HB10.out (Nat.le_refl _) hb); clear hb))
          go_ret
          exact ⟨rfl, (HK.out _ HB16.out).2.2.2.2⟩
end Go.Proofs.YtnbihjocdlpplaaDoor
/- What the row's list gives: the tables in the world. -/
namespace Go.Proofs.YtnbihjocdlpplaaDoor
set_option linter.unusedVariables false
set_option linter.unusedSimpArgs false
open Go.Lib Go.RowKit
theorem tab_cells {w : World} {n : String} {k : IntKind} {zs : List Int} {d : DataW Unit} (hd0 : d = tabData k zs) (h : VarReads Tryd.prog w n d) {g : Nat} {t e : TypeId} {m : Nat} (hg : Tryd.prog.globalNamed n = some g) (hty : (Tryd.prog.globals[g]?).map (·.type) = some t)
    (ht : Tryd.prog.underlying t = some (.array m e)) (he : Tryd.prog.underlying e = some (.int k)) (hce : Tryd.prog.cellsOf e = 1) (hct : Tryd.prog.cellsOf t = m) : TabIs Tryd.prog w n k zs := by
  subst hd0
  obtain ⟨g', t', cs, fuel, p, hg', ht', hvar, hd⟩ := h
  obtain rfl := Option.some.inj (hg.symm.trans hg')
  obtain rfl := Option.some.inj (hty.symm.trans ht')
  unfold TabIs
  rw [hvar, ← cells_of_tab ht he hce hct hd]
theorem first_data : Rows.laid_unicode_utf8_first = tabData .u8 firstTab := by kernel_rfl
theorem accept_data : (Rows.laid_unicode_utf8_acceptRanges : DataW Unit) = acceptData := by kernel_rfl
theorem tabs_of {l : List (String × DataW Unit)} {w : World} (h : laidMet Tryd.prog l w) (m1 : ("unicode/utf8.first", Rows.laid_unicode_utf8_first) ∈ l) (m2 : ("unicode/utf8.acceptRanges", Rows.laid_unicode_utf8_acceptRanges) ∈ l) : Tabs w := by
  have t1 : TabIs Tryd.prog w "unicode/utf8.first" .u8 firstTab := tab_cells first_data (laidMet.reads h m1) (g := 2) (t := 154) (e := 5) (by kernel_rfl) (by kernel_rfl) Tryd.underlying154 Tryd.underlying5 (by kernel_rfl) (by kernel_rfl)
  have key : ∀ i, i < 16 → w.cell? ⟨3, 2 * i, none⟩ = some (.int .u8 (accLo i : Int)) ∧ w.cell? ⟨3, 2 * i + 1, none⟩ = some (.int .u8 (accHi i : Int)) := fun i hi => by
    have h4 := laidMet.reads h m2
    rw [accept_data] at h4
    obtain ⟨g, t, cs, fuel, p, hg, hty, hvar, hd⟩ := h4
    obtain rfl := Option.some.inj ((show Tryd.prog.globalNamed "unicode/utf8.acceptRanges" = some 3 by kernel_rfl).symm.trans hg)
    obtain rfl := Option.some.inj ((show (Tryd.prog.globals[3]?).map (·.type) = some 158 by kernel_rfl).symm.trans hty)
    have c138 : Tryd.prog.cellsOf 157 = 2 := by kernel_rfl
    have c5 : Tryd.prog.cellsOf 5 = 1 := by kernel_rfl
    obtain ⟨fuel', d, q, hdi, he⟩ := array_elem Tryd.underlying158 hd i hi
    simp only [List.getElem?_map, List.getElem?_range hi, Option.map_some, Option.some.injEq] at hdi
    subst hdi
    rw [c138] at he
    have hcs := ints_of_struct Tryd.underlying157 (fun j f hj => by
      match j, hj with
      | 0, hj => simp at hj; subst hj; exact ⟨Tryd.underlying5, rfl, c5⟩
      | 1, hj => simp at hj; subst hj; exact ⟨Tryd.underlying5, rfl, c5⟩
      | j + 2, hj => simp at hj) (by rw [c138]; rfl) he
    have e0 := congrArg (·[0]?) hcs
    have e1 := congrArg (·[1]?) hcs
    simp only [List.getElem?_take, List.getElem?_drop] at e0 e1
    constructor
    · rw [World.var?_cell hg hvar (2 * i), ← Array.getElem?_toList]
      simpa [Nat.mul_comm] using e0
    · rw [World.var?_cell hg hvar (2 * i + 1), ← Array.getElem?_toList]
      simpa [Nat.mul_comm] using e1
  refine ⟨⟨fun c hc => ?_, fun i hi => ?_⟩, ?_⟩
  · have := t1.cell (g := 2) (by kernel_rfl) c (by simpa [firstTab] using hc)
    rw [this]
    simp [firstTab, List.getD, hc]
  · exact key i hi
  · have := World.block_lt_of_cell? w _ (key 0 (by decide)).1
    exact this
end Go.Proofs.YtnbihjocdlpplaaDoor
