/- Texts joined, one behind the other (LDiffKnown, Laid31, HandD). -/
import Derived.Test.YtnbihjocdlpplaaGreatDoorKq29
import Derived.Deep.RegionHeld3
import Derived.Test.YtnbihjocdlpplaaGreatDoorRows
import Derived.Lib.LaidU8
import Derived.LaidSub
import Derived.LaidHandle
import Derived.Lay
import Derived.LaidMore
/- DiffKnown: the walk. -/
namespace Go.Proofs.YtnbihjocdlpplaaGreatDoor
set_option linter.unusedVariables false
set_option linter.unusedSimpArgs false
open Go.RowKit
open Go.Lib hiding intOf
def xs2 (k : Nat) : List UInt8 := (List.replicate k ([120, 10] : List UInt8)).flatten
theorem xs2_len (k : Nat) : (xs2 k).length = 2 * k := by unfold xs2; simp; omega
theorem xs2_next (k : Nat) : xs2 k ++ [120, 10] = xs2 (k + 1) := by unfold xs2; rw [List.replicate_succ']; simp
set_option maxHeartbeats 16000000 in
set_option maxRecDepth 100000 in
theorem diffKnown_walk (w : World) (hT : Tabs w) (hE : ErrT w) :
    Calls Tryz.prog 3 #[] w fun e w' => e = .returned (.bool true) ∧ Below w.heap.size w w' := by
  have HT := Lib.hid hT
  have HE := Lib.hid hE
  clear hT hE
  go_enter Tryz.func3, Tryz.ntmps3
  go_wp2
  change Code.wp _ _ _ _ (w.alloc (.cells (textsK.map S1).toArray 9))
  have hR0 : Row (w.alloc (.cells (textsK.map S1).toArray 9)) w.heap.size 9 (textsK.map S1) := alloc_last _ _
  have hB0 : Below w.heap.size w (w.alloc (.cells (textsK.map S1).toArray 9)) := (Below.refl _ w).alloc (Nat.le_refl _) _
  generalize w.alloc (.cells (textsK.map S1).toArray 9) = w1 at hR0 hB0 ⊢
  obtain ⟨g, hg⟩ : ∃ g, w.heap.size = g := ⟨_, rfl⟩
  have HG := Lib.hid hg
  have HB1 := Lib.hid hB0
  rw [hg] at hR0 ⊢
  have HR0 := Lib.hid hR0
  clear hR0 hB0 hg
  go_loopw [2] (fun iv wr => ∃ i : Nat, i ≤ 14 ∧ iv = .int .i64 (i : Int) ∧ Hid (Below w1.heap.size w1 wr)) (fun iv _ => 14 - (RowKit.intOf iv).toNat)
  case atStart => exact ⟨0, Nat.zero_le _, rfl, Lib.hid (Below.refl _ _)⟩
  case round =>
    obtain ⟨i, hi, rfl, HH⟩ := hrel
    by_cases hlt : i < 14
    · obtain ⟨x, hx⟩ : ∃ x, textsK[i]? = some x := ⟨_, List.getElem?_eq_getElem hlt⟩
      have hxl := texts_short x (List.mem_of_getElem? hx)
      have HX := Lib.hid hx
      have hit : (i : Int) < 14 := by omega
      clear hx
      go_wp2
      go_loopw [3] (fun iv wr => ∃ k : Nat, k ≤ 14 ∧ iv = .int .i64 (k : Int) ∧ Hid (Below w1.heap.size w1 wr)) (fun iv _ => 14 - (RowKit.intOf iv).toNat)
      case atStart => exact ⟨0, Nat.zero_le _, rfl, HH⟩
      case round =>
        clear HH
        obtain ⟨k, hk, rfl, HH⟩ := hrel
        by_cases hltk : k < 14
        · obtain ⟨y, hy⟩ : ∃ y, textsK[k]? = some y := ⟨_, List.getElem?_eq_getElem hltk⟩
          have hyl := texts_short y (List.mem_of_getElem? hy)
          have hcell : ∀ w', Below w1.heap.size w1 w' → w'.cell? ⟨g, i, none⟩ = some (.string (bstr x)) ∧ w'.cell? ⟨g, k, none⟩ = some (.string (bstr y)) := fun w' hb => by
            have hr := HR0.out.keep hb HR0.out.lt
            refine ⟨?_, ?_⟩
            · rw [hr.cell i, List.getElem?_map, HX.out]; rfl
            · rw [hr.cell k, List.getElem?_map, hy]; rfl
          obtain ⟨c0, d0⟩ := hcell wr HH.out
          have hkt : (k : Int) < 14 := by omega
          have K1 := Lib.hid (fun w' (hb : Below w.heap.size w w') => diffLines_walk w' x (by omega) y (by omega) (HT.out.next hb))
          have K2 := Lib.hid (fun w' (hb : Below w.heap.size w w') => diffBack_walk w' x (by omega) y (by omega) (HT.out.next hb))
          have K3 := Lib.hid (fun w' (hb : Below w.heap.size w w') => diffSteps_walk w' x (by omega) y (by omega) (HT.out.next hb))
          have stp : ∀ wa wb, Below w1.heap.size w1 wa → Below wa.heap.size wa wb → Below w1.heap.size w1 wb ∧ Below w.heap.size w wb ∧ (wb.cell? ⟨g, i, none⟩ = some (.string (bstr x)) ∧ wb.cell? ⟨g, k, none⟩ = some (.string (bstr y))) := fun wa wb h1 h2 => by
            have h3 := h1.trans (h2.mono h1.size)
            exact ⟨h3, HB1.out.trans (h3.mono HB1.out.size), hcell wb h3⟩
          have STP := Lib.hid stp
          have HD0 : Hid (Below w1.heap.size w1 wr.drew ∧ Below w.heap.size w wr.drew) := Lib.hid (by
            have h := stp wr wr.drew HH.out (((Quiet.refl wr).drewN 1).below _)
            exact ⟨h.1, h.2.1⟩)
          have cd0 := And.intro c0 d0
          clear hcell stp hy
          go_wp2
          go_region_held3 (fun w' => w'.cell? ⟨g, i, none⟩ = some (.string (bstr x)) ∧ w'.cell? ⟨g, k, none⟩ = some (.string (bstr y))) (first | exact cd0 | exact cd1 | exact cd2 | exact cd3) (first
            | (go_at_call 4; refine (K1.out _ HD0.out.2).mono ?_; rintro e wa ⟨rfl, hba⟩; obtain ⟨a1, a2, cd1⟩ := STP.out _ _ HD0.out.1 hba; have HD1 := Lib.hid (And.intro a1 a2); clear a1 a2 hba)
            | (go_at_call 5; refine (K2.out _ HD1.out.2).mono ?_; rintro e wb ⟨rfl, hbb⟩; obtain ⟨a1, a2, cd2⟩ := STP.out _ _ HD1.out.1 hbb; have HD2 := Lib.hid (And.intro a1 a2); clear a1 a2 hbb)
            | (go_at_call 6; refine (K3.out _ HD2.out.2).mono ?_; rintro e wc ⟨rfl, hbc⟩; obtain ⟨a1, a2, cd3⟩ := STP.out _ _ HD2.out.1 hbc; have HD3 := Lib.hid (And.intro a1 a2); clear a1 a2 hbc))
          go_wp2
          go_roundw
          case rel => exact ⟨k + 1, by omega, by go_num, Lib.hid HD3.out.1⟩
          case measure => simp [RowKit.intOf]; omega
        · obtain rfl : k = 14 := by omega
          go_wp2
          go_roundw
          case rel => exact ⟨i + 1, by omega, by go_num, HH⟩
          case measure => simp [RowKit.intOf]; omega
    · obtain rfl : i = 14 := by omega
      have HBR : Hid (Below w.heap.size w wr) := Lib.hid (HB1.out.trans (HH.out.mono HB1.out.size))
      clear HH hlt hi HR0 HB1 HG
      obtain ⟨w2, rfl⟩ : ∃ w2 : World, w2 = wr := ⟨_, rfl⟩
      go_upto_region 12 with (fail)
      change Code.wp _ _ _ _ (memK w2)
      simp only [Nat.add_assoc, Nat.reduceAdd]
      have HTA := Lib.hid (fun i (hi : i < 18) => tops_at w2 hi)
      have HBM : Hid (Below w.heap.size w (memK w2)) := Lib.hid (HBR.out.trans ((allocs_below _ w2).mono HBR.out.size))
      obtain ⟨gp, hgp⟩ : ∃ gp, w2.heap.size + 41 = gp := ⟨_, rfl⟩
      rw [hgp] at HTA
      rw [hgp]
      clear hgp HBR
      generalize memK w2 = w3 at HTA HBM ⊢
      go_wp2
      go_loopw [8] (fun iv wr => ∃ i : Nat, i ≤ 18 ∧ iv = .int .i64 (i : Int) ∧ Hid (Below w3.heap.size w3 wr)) (fun iv _ => 18 - (RowKit.intOf iv).toNat)
      case atStart => exact ⟨0, Nat.zero_le _, rfl, Lib.hid (Below.refl _ _)⟩
      case round =>
        obtain ⟨i, hi, rfl, HH⟩ := hrel
        by_cases hlt : i < 18
        · have hit : (i : Int) < 18 := by omega
          obtain ⟨X, a, c, hc, hr, hnc, hcm, hsm⟩ := HTA.out i hlt
          have hcell : ∀ w', Below w3.heap.size w3 w' → w'.cell? ⟨gp, i, none⟩ = some (.slice a X.length c) ∧ ReadsK w' a X.length X := fun w' hb => ⟨(hb.cell (p := ⟨gp, i, none⟩) (World.block_lt_of_cell? w3 _ hc)).trans hc, hr.keep hb (Nat.le_refl _)⟩
          have stp : ∀ wa wb, Below w3.heap.size w3 wa → Below wa.heap.size wa wb → Below w3.heap.size w3 wb ∧ Below w.heap.size w wb ∧ ReadsK wb a X.length X ∧ wb.cell? ⟨gp, i, none⟩ = some (.slice a X.length c) := fun wa wb h1 h2 => by
            have h3 := h1.trans (h2.mono h1.size)
            exact ⟨h3, HBM.out.trans (h3.mono HBM.out.size), (hcell wb h3).2, (hcell wb h3).1⟩
          have STP := Lib.hid stp
          obtain ⟨n, hn⟩ : ∃ n, n = X.length := ⟨_, rfl⟩
          rw [← hn] at hnc STP
          have HNC := Lib.hid hnc
          have HCM := Lib.hid hcm
          have HSM := Lib.hid hsm
          have K1 : Hid (∀ w', Below w.heap.size w w' → ReadsK w' a n X → Calls Tryz.prog 7 #[.slice a n c, .string { data := #[97, 10] }] w' fun e w2 => e = .returned (.bool true) ∧ Below w'.heap.size w' w2) := Lib.hid (fun w' hb hR => diffPatches_walk w' a n c X hR HNC.out HCM.out (by have := HSM.out; omega) [97, 10] (by decide) (HT.out.next hb))
          have K2 : Hid (∀ w', Below w.heap.size w w' → ReadsK w' a n X → Calls Tryz.prog 7 #[.slice a n c, .string { data := #[97] }] w' fun e w2 => e = .returned (.bool true) ∧ Below w'.heap.size w' w2) := Lib.hid (fun w' hb hR => diffPatches_walk w' a n c X hR HNC.out HCM.out (by have := HSM.out; omega) [97] (by decide) (HT.out.next hb))
          have K3 : Hid (∀ w', Below w.heap.size w w' → ReadsK w' a n X → Calls Tryz.prog 8 #[.string { data := #[97, 10, 98, 10] }, .slice a n c] w' fun e w2 => e = .returned (.bool true) ∧ Below w'.heap.size w' w2) := Lib.hid (fun w' hb hR => diffChanges_walk w' [97, 10, 98, 10] (by decide) a n c X hR HNC.out HCM.out (by have := HSM.out; omega) (HT.out.next hb))
          have K4 : Hid (∀ w', Below w.heap.size w w' → ReadsK w' a n X → Calls Tryz.prog 9 #[.slice a n c, .string { data := #[] }] w' fun e w2 => e = .returned (.bool true) ∧ Below w'.heap.size w' w2) := Lib.hid (fun w' hb hR => diffTexts_walk w' a n c X hR HNC.out HCM.out (by have := HSM.out; omega) [] (by decide) (HT.out.next hb) (HE.out.next hb))
          obtain ⟨a1, a2, a3, c0⟩ := STP.out wr wr HH.out (Below.refl _ _)
          have HD0 : Hid (Below w3.heap.size w3 wr ∧ Below w.heap.size w wr ∧ ReadsK wr a n X) := Lib.hid ⟨a1, a2, hn ▸ a3⟩
          clear hcell stp hc hr hnc hcm hsm a1 a2 a3
          have HNN := Lib.hid hn
          clear hn
          go_wp2_with (first
            | (go_at_call 7; (with_reducible refine (K1.out wr HD0.out.2.1 HD0.out.2.2).mono ?_); rintro e wa ⟨rfl, hba⟩; obtain ⟨a1, a2, a3, c1⟩ := STP.out _ _ HD0.out.1 hba; have HD1 : Hid (Below w3.heap.size w3 wa ∧ Below w.heap.size w wa ∧ ReadsK wa a n X) := Lib.hid ⟨a1, a2, HNN.out ▸ a3⟩; clear a1 a2 a3 hba)
            | (go_at_call 7; (with_reducible refine (K2.out wa HD1.out.2.1 HD1.out.2.2).mono ?_); rintro e wb ⟨rfl, hba⟩; obtain ⟨a1, a2, a3, c2⟩ := STP.out _ _ HD1.out.1 hba; have HD2 : Hid (Below w3.heap.size w3 wb ∧ Below w.heap.size w wb ∧ ReadsK wb a n X) := Lib.hid ⟨a1, a2, HNN.out ▸ a3⟩; clear a1 a2 a3 hba)
            | (go_at_call 8; (with_reducible refine (K3.out wb HD2.out.2.1 HD2.out.2.2).mono ?_); rintro e wc ⟨rfl, hba⟩; obtain ⟨a1, a2, a3, c3⟩ := STP.out _ _ HD2.out.1 hba; have HD3 : Hid (Below w3.heap.size w3 wc ∧ Below w.heap.size w wc ∧ ReadsK wc a n X) := Lib.hid ⟨a1, a2, HNN.out ▸ a3⟩; clear a1 a2 a3 hba)
            | (go_at_call 9; (with_reducible refine (K4.out wc HD3.out.2.1 HD3.out.2.2).mono ?_); rintro e wd ⟨rfl, hba⟩; obtain ⟨a1, a2, a3, c4⟩ := STP.out _ _ HD3.out.1 hba; have HD4 : Hid (Below w3.heap.size w3 wd) := Lib.hid a1; clear a1 a2 a3 hba))
          go_roundw
          case rel => exact ⟨i + 1, by omega, by go_num, HD4⟩
          case measure => simp [RowKit.intOf]; omega
        · obtain rfl : i = 18 := by omega
          have HBN : Hid (Below w.heap.size w wr) := Lib.hid (HBM.out.trans (HH.out.mono HBM.out.size))
          clear HH hlt hi HTA HBM
          obtain ⟨w4, rfl⟩ : ∃ w4 : World, w4 = wr := ⟨_, rfl⟩
          go_upto_region 18 with (fail)
          change Code.wp _ _ _ _ (w4.alloc (.cells (rowsK9.map S1).toArray 9))
          have hR5 : Row (w4.alloc (.cells (rowsK9.map S1).toArray 9)) w4.heap.size 9 (rowsK9.map S1) := alloc_last _ _
          have hB5 : Below w.heap.size w (w4.alloc (.cells (rowsK9.map S1).toArray 9)) := HBN.out.alloc HBN.out.size _
          generalize w4.alloc (.cells (rowsK9.map S1).toArray 9) = w5 at hR5 hB5 ⊢
          obtain ⟨g5, hg5⟩ : ∃ g, w4.heap.size = g := ⟨_, rfl⟩
          rw [hg5] at hR5 ⊢
          have HR5 := Lib.hid hR5
          have HB5 := Lib.hid hB5
          clear hR5 hB5 hg5 HBN
          go_wp2
          (try rw [show ((18 : Nat) : Int) = 18 from rfl])
          go_loopw [10] (fun iv wr => ∃ i : Nat, i ≤ 18 ∧ iv = .int .i64 (i : Int) ∧ Hid (Below w5.heap.size w5 wr)) (fun iv _ => 18 - (RowKit.intOf iv).toNat)
          case atStart => exact ⟨0, Nat.zero_le _, rfl, Lib.hid (Below.refl _ _)⟩
          case round =>
            obtain ⟨i, hi, rfl, HH⟩ := hrel
            by_cases hlt : i < 18
            · have hit : (i : Int) < 18 := by omega
              obtain ⟨x, hx⟩ : ∃ x, rowsK9[i]? = some x := ⟨_, List.getElem?_eq_getElem hlt⟩
              have hxl := rows_short x (List.mem_of_getElem? hx)
              have c0 : wr.cell? ⟨g5, i, none⟩ = some (.string (bstr x)) := by
                have hr := HR5.out.keep HH.out HR5.out.lt
                rw [hr.cell i, List.getElem?_map, hx]; rfl
              have HBW : Hid (Below w.heap.size w wr) := Lib.hid (HB5.out.trans (HH.out.mono HB5.out.size))
              have K4 := Lib.hid (diffTexts_walk wr none 0 0 [] (ReadsK.nil _ _) (Nat.le_refl _) (Nat.zero_le _) (by decide) x (by omega) (HT.out.next HBW.out) (HE.out.next HBW.out))
              clear hx hxl
              go_wp2_with (go_at_call 9; refine (K4.out).mono ?_; rintro e wd ⟨rfl, hba⟩; have HD4 : Hid (Below w5.heap.size w5 wd) := Lib.hid (HH.out.trans (hba.mono HH.out.size)); clear hba)
              go_roundw
              case rel => exact ⟨i + 1, by omega, by go_num, HD4⟩
              case measure => simp [RowKit.intOf]; omega
            · obtain rfl : i = 18 := by omega
              have HBN : Hid (Below w.heap.size w wr) := Lib.hid (HB5.out.trans (HH.out.mono HB5.out.size))
              clear HH hlt hi HR5 HB5
              obtain ⟨w6, rfl⟩ : ∃ w6 : World, w6 = wr := ⟨_, rfl⟩
              go_wp2
              (try rw [show ((18 : Nat) : Int) = 18 from rfl])
              go_loopw [11, 12] (fun sv iv wr => ∃ k : Nat, k ≤ 512 ∧ sv = .string (bstr (xs2 k)) ∧ iv = .int .i64 (k : Int) ∧ wr = w6) (fun _ iv _ => 512 - (RowKit.intOf iv).toNat)
              case atStart => exact ⟨0, Nat.zero_le _, rfl, rfl, rfl⟩
              case round =>
                obtain ⟨k, hk, rfl, rfl, rfl⟩ := hrel
                by_cases hlt : k < 512
                · have hkt : (k : Int) < 512 := by omega
                  have hnx := xs2_next k
                  have hlx := xs2_len k
                  obtain ⟨S, hS⟩ : ∃ S, xs2 k = S := ⟨_, rfl⟩
                  obtain ⟨S', hS'⟩ : ∃ S', xs2 (k + 1) = S' := ⟨_, rfl⟩
                  rw [hS, hS'] at hnx
                  rw [hS] at hlx ⊢
                  have hcl : ¬ 9223372036854775807 < S.length + 2 := by omega
                  have hlit : ({ data := #[120, 10] } : ByteArray) = bstr [120, 10] := rfl
                  have HS' := Lib.hid hS'
                  clear hlx hS hS'
                  go_wp2
                  go_roundw
                  case rel => exact ⟨k + 1, by omega, by rw [HS'.out], by go_num, by first | trivial | rfl⟩
                  case measure => simp [RowKit.intOf]; omega
                · obtain rfl : k = 512 := by omega
                  have hlx := xs2_len 512
                  obtain ⟨S, hS⟩ : ∃ S, xs2 512 = S := ⟨_, rfl⟩
                  rw [hS] at hlx ⊢
                  clear hS hlt hk
                  have l1 : ({ data := #[121] } : ByteArray) = bstr [121] := rfl
                  have l2 : ({ data := #[121, 10] } : ByteArray) = bstr [121, 10] := rfl
                  obtain ⟨D, hD⟩ : ∃ D, S ++ [121] = D := ⟨_, rfl⟩
                  obtain ⟨R, hR⟩ : ∃ R, S.drop 2 = R := ⟨_, rfl⟩
                  have hRl : R.length = 1022 := by rw [← hR, List.length_drop]; omega
                  have hRt : R.take 1022 = R := List.take_of_length_le (by omega)
                  obtain ⟨F, hF⟩ : ∃ F, [121, 10] ++ R = F := ⟨_, rfl⟩
                  have hDl : D.length = 1025 := by rw [← hD, List.length_append]; simp; omega
                  have hFl : F.length = 1024 := by rw [← hF, List.length_append]; simp; omega
                  have hSl : S.length = 1024 := by omega
                  have hsz : (bstr S).size = 1024 := by rw [bstr_size, hSl]
                  have q1 : ¬ 9223372036854775807 < S.length + 1 := by omega
                  have q2 : ¬ 9223372036854775807 < 2 + R.length := by omega
                  have J1 : Hid (∀ w', Below w.heap.size w w' → Calls Tryz.prog 4 #[.string (bstr S), .string (bstr S)] w' fun e w2 => e = .returned (.bool true) ∧ Below w'.heap.size w' w2) := Lib.hid (fun w' hb => diffLines_walk w' S (by omega) S (by omega) (HT.out.next hb))
                  have J2 : Hid (∀ w', Below w.heap.size w w' → Calls Tryz.prog 4 #[.string (bstr D), .string (bstr S)] w' fun e w2 => e = .returned (.bool true) ∧ Below w'.heap.size w' w2) := Lib.hid (fun w' hb => diffLines_walk w' D (by omega) S (by omega) (HT.out.next hb))
                  have J3 : Hid (∀ w', Below w.heap.size w w' → Calls Tryz.prog 4 #[.string { data := #[] }, .string (bstr D)] w' fun e w2 => e = .returned (.bool true) ∧ Below w'.heap.size w' w2) := Lib.hid (fun w' hb => diffLines_walk w' [] (by decide) D (by omega) (HT.out.next hb))
                  have J4 : Hid (∀ w', Below w.heap.size w w' → Calls Tryz.prog 5 #[.string (bstr S), .string (bstr F)] w' fun e w2 => e = .returned (.bool true) ∧ Below w'.heap.size w' w2) := Lib.hid (fun w' hb => diffBack_walk w' S (by omega) F (by omega) (HT.out.next hb))
                  clear hDl hFl hlx hSl
                  go_wp2_with (first
                    | (go_at_call 4; (with_reducible refine (J1.out _ HBN.out).mono ?_); rintro e wa ⟨rfl, hba⟩; have HD1 := Lib.hid (below_next HBN.out (Nat.le_refl _) hba); clear hba)
                    | (go_at_call 4; (with_reducible refine (J2.out wa HD1.out).mono ?_); rintro e wb ⟨rfl, hba⟩; have HD2 := Lib.hid (below_next HD1.out (Nat.le_refl _) hba); clear hba)
                    | (go_at_call 4; (with_reducible refine (J3.out wb HD2.out).mono ?_); rintro e wc ⟨rfl, hba⟩; have HD3 := Lib.hid (below_next HD2.out (Nat.le_refl _) hba); clear hba)
                    | (go_at_call 5; (with_reducible refine (J4.out wc HD3.out).mono ?_); rintro e wd ⟨rfl, hba⟩; have HD4 := Lib.hid (below_next HD3.out (Nat.le_refl _) hba); clear hba)
                    | (go_at_call 10; (with_reducible refine (worksC wd (HT.out.next HD4.out)).mono ?_); rintro e we ⟨rfl, hba⟩; have HD5 := Lib.hid (below_next HD4.out (Nat.le_refl _) hba); clear hba))
                  go_ret
                  exact ⟨rfl, HD5.out⟩
end Go.Proofs.YtnbihjocdlpplaaGreatDoor
/- What the row's list gives: the tables in the world. -/
namespace Go.Proofs.YtnbihjocdlpplaaGreatDoor
set_option linter.unusedVariables false
set_option linter.unusedSimpArgs false
open Go.Lib Go.RowKit
theorem tab_cells {w : World} {n : String} {k : IntKind} {zs : List Int} {d : DataW Unit} (hd0 : d = tabData k zs) (h : VarReads Tryz.prog w n d) {g : Nat} {t e : TypeId} {m : Nat} (hg : Tryz.prog.globalNamed n = some g) (hty : (Tryz.prog.globals[g]?).map (·.type) = some t)
    (ht : Tryz.prog.underlying t = some (.array m e)) (he : Tryz.prog.underlying e = some (.int k)) (hce : Tryz.prog.cellsOf e = 1) (hct : Tryz.prog.cellsOf t = m) : TabIs Tryz.prog w n k zs := by
  subst hd0
  obtain ⟨g', t', cs, fuel, p, hg', ht', hvar, hd⟩ := h
  obtain rfl := Option.some.inj (hg.symm.trans hg')
  obtain rfl := Option.some.inj (hty.symm.trans ht')
  unfold TabIs
  rw [hvar, ← cells_of_tab ht he hce hct hd]
theorem first_data : Rows.laid_unicode_utf8_first = tabData .u8 firstTab := by kernel_rfl
theorem accept_data : (Rows.laid_unicode_utf8_acceptRanges : DataW Unit) = acceptData := by kernel_rfl
theorem tabs_of {l : List (String × DataW Unit)} {w : World} (h : laidMet Tryz.prog l w) (m1 : ("unicode/utf8.first", Rows.laid_unicode_utf8_first) ∈ l) (m2 : ("unicode/utf8.acceptRanges", Rows.laid_unicode_utf8_acceptRanges) ∈ l) : Tabs w := by
  have t1 : TabIs Tryz.prog w "unicode/utf8.first" .u8 firstTab := tab_cells first_data (laidMet.reads h m1) (g := 2) (t := 153) (e := 5) (by kernel_rfl) (by kernel_rfl) Tryz.underlying153 Tryz.underlying5 (by kernel_rfl) (by kernel_rfl)
  have key : ∀ i, i < 16 → w.cell? ⟨3, 2 * i, none⟩ = some (.int .u8 (accLo i : Int)) ∧ w.cell? ⟨3, 2 * i + 1, none⟩ = some (.int .u8 (accHi i : Int)) := fun i hi => by
    have h4 := laidMet.reads h m2
    rw [accept_data] at h4
    obtain ⟨g, t, cs, fuel, p, hg, hty, hvar, hd⟩ := h4
    obtain rfl := Option.some.inj ((show Tryz.prog.globalNamed "unicode/utf8.acceptRanges" = some 3 by kernel_rfl).symm.trans hg)
    obtain rfl := Option.some.inj ((show (Tryz.prog.globals[3]?).map (·.type) = some 157 by kernel_rfl).symm.trans hty)
    have c138 : Tryz.prog.cellsOf 156 = 2 := by kernel_rfl
    have c5 : Tryz.prog.cellsOf 5 = 1 := by kernel_rfl
    obtain ⟨fuel', d, q, hdi, he⟩ := array_elem Tryz.underlying157 hd i hi
    simp only [List.getElem?_map, List.getElem?_range hi, Option.map_some, Option.some.injEq] at hdi
    subst hdi
    rw [c138] at he
    have hcs := ints_of_struct Tryz.underlying156 (fun j f hj => by
      match j, hj with
      | 0, hj => simp at hj; subst hj; exact ⟨Tryz.underlying5, rfl, c5⟩
      | 1, hj => simp at hj; subst hj; exact ⟨Tryz.underlying5, rfl, c5⟩
      | j + 2, hj => simp at hj) (by rw [c138]; rfl) he
    have e0 := congrArg (·[0]?) hcs
    have e1 := congrArg (·[1]?) hcs
    simp only [List.getElem?_take, List.getElem?_drop] at e0 e1
    constructor
    · rw [World.var?_cell hg hvar (2 * i), ← Array.getElem?_toList]
      simpa [Nat.mul_comm] using e0
    · rw [World.var?_cell hg hvar (2 * i + 1), ← Array.getElem?_toList]
      simpa [Nat.mul_comm] using e1
  refine ⟨⟨fun c hc => ?_, fun i hi => ?_⟩, ?_⟩
  · have := t1.cell (g := 2) (by kernel_rfl) c (by simpa [firstTab] using hc)
    rw [this]
    simp [firstTab, List.getD, hc]
  · exact key i hi
  · have := World.block_lt_of_cell? w _ (key 0 (by decide)).1
    exact this
end Go.Proofs.YtnbihjocdlpplaaGreatDoor
/- What the row's list gives where it holds a type's handle: the variable that errors.As reads. -/
namespace Go.Proofs.YtnbihjocdlpplaaGreatDoor
set_option linter.unusedVariables false
set_option linter.unusedSimpArgs false
open Go.Lib Go.RowKit
theorem rt7 : (Tryz.prog.cutTypes.find? (·.1 == "internal/reflectlite.rtype")).map (·.2) = some 127 := by kernel_rfl
theorem oneRow7 : ((List.range Tryz.prog.types.size).filter fun t => Tryz.prog.rowNamed t [101, 114, 114, 111, 114]) = [42] := by kernel_rfl
theorem err_of {l : List (String × DataW Unit)} {W : World} (h : laidMetH Tryz.prog l W) (m : (l.filter fun x => x.2.handleName?.isSome) = [("errors.errorType", Rows.laid_errors_errorType)]) : ErrT W := by
  unfold laidMetH at h
  rw [m] at h
  obtain ⟨name, u, ty, e1, e2, e3, e4, e5⟩ := h.2 _ (List.mem_singleton.2 rfl)
  have en : name = [101, 114, 114, 111, 114] := (Option.some.inj e1).symm
  subst en
  obtain rfl := Option.some.inj (rt7.symm.trans e2)
  have hm : ty ∈ (List.range Tryz.prog.types.size).filter fun t => Tryz.prog.rowNamed t [101, 114, 114, 111, 114] := List.mem_filter.2 ⟨List.mem_range.2 e3, e4⟩
  rw [oneRow7] at hm
  obtain rfl := List.mem_singleton.1 hm
  have hh : typeHandle Tryz.prog 42 = .pointer (some ⟨4, 42, none⟩) := by kernel_rfl
  rw [hh] at e5
  have := World.var?_cell (show Tryz.prog.globalNamed "errors.errorType" = some 0 by kernel_rfl) e5 0
  unfold ErrT
  simpa using this
/-- the world in which the variable holds the handle, ahead of the tables -/
noncomputable def hBase (os : Os) : World :=
  { World.holding Tryz.prog os ⟨#[], #[], []⟩ with heap := (World.holding Tryz.prog os ⟨#[], #[], []⟩).heap.modify 0 fun
      | .cells _ t frozen => .cells #[.iface 127 (.agg #[.pointer (some ⟨4, 42, none⟩)])] t frozen
      | o => o }
noncomputable def hWorld (os : Os) (l : List (String × DataW Unit)) : World := (hBase os).layVars Tryz.prog (l.filter fun x => x.2.handleName?.isNone)
theorem hWorld_os (os : Os) (l : List (String × DataW Unit)) : (hWorld os l).os = os := World.layVars_os _ _ _
theorem laidMet_hWorld {os : Os} {l : List (String × DataW Unit)} (args : Array Value)
    (hf : (hBase os).layFits Tryz.prog (l.filter fun x => x.2.handleName?.isNone) [] = true)
    (hi : (hBase os).layIfaces Tryz.prog (l.filter fun x => x.2.handleName?.isNone) (hWorld os l) = true) :
    laidMet Tryz.prog (l.filter fun x => x.2.handleName?.isNone) ((hWorld os l).forCall (fun _ _ => 0) ⟨#[], args, []⟩).memory := by
  unfold hWorld at *
  generalize (l.filter fun x => x.2.handleName?.isNone) = laid at *
  have e1 : (laid.filter fun x => (laid.map (·.1)).contains x.1) = laid := List.filter_eq_self.2 fun x hx => List.contains_iff_mem.2 (List.mem_map.2 ⟨x, hx, rfl⟩)
  have e2 : (laid.filter fun x => !(laid.map (·.1)).contains x.1) = [] := List.filter_eq_nil_iff.2 fun x hx => by rw [List.contains_iff_mem.2 (List.mem_map.2 ⟨x, hx, rfl⟩)]; simp
  have h : laidMet Tryz.prog laid ((hBase os).layVars Tryz.prog laid) := laidMet_layVars (w0 := hBase os) (laid.map (·.1)) [] (by rw [e1]) (by rw [e1]; exact hf) (by rw [e1]; exact hi) (by rw [e2]; exact LaidIn.none)
  exact h.of_heap (by simp [World.memory, World.forCall, Input.heap])
end Go.Proofs.YtnbihjocdlpplaaGreatDoor
