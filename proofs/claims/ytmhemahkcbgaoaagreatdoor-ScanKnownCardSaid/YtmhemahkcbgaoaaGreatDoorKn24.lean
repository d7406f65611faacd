/- Texts joined, one behind the other (LScanKnown, Laid7, Hand7). -/
import Derived.Test.YtmhemahkcbgaoaaGreatDoorKn23
import Derived.Deep.RegionHeld3
import Derived.Test.YtmhemahkcbgaoaaGreatDoorRows
import Derived.Lib.LaidU8
import Derived.LaidSub
import Derived.LaidHandle
import Derived.Lay
import Derived.LaidMore
/- ScanKnown: the chapter's examples. -/
namespace Go.Proofs.YtmhemahkcbgaoaaGreatDoor
set_option linter.unusedVariables false
set_option linter.unusedSimpArgs false
open Go.RowKit
open Go.Lib hiding intOf
def known7 : List (List UInt8) := [[], [32, 9], [105, 110, 115, 101, 114, 116, 32, 110, 111, 116, 101, 115, 32, 49, 50, 32, 34, 104, 105, 92, 110, 34], [48, 48, 55, 32, 45, 49, 32, 57, 50, 50, 51, 51, 55, 50, 48, 51, 54, 56, 53, 52, 55, 55, 53, 56, 48, 56, 32, 57, 50, 50, 51, 51, 55, 50, 48, 51, 54, 56, 53, 52, 55, 55, 53, 56, 48, 55, 32, 48], [97, 44, 98], [65], [34, 97, 34, 98], [97, 34, 98, 34], [34, 97], [34, 92, 113, 34], [34, 97, 92, 120, 52, 34], [34, 92, 120, 65, 66, 34], [34, 92, 120, 97, 98, 92, 120, 102, 102, 34], [34, 92, 117, 123, 100, 56, 48, 48, 125, 34], [34, 92, 117, 123, 125, 34], [34, 92, 117, 123, 49, 48, 102, 102, 102, 102, 125, 92, 117, 123, 49, 49, 48, 48, 48, 48, 125, 34], [34, 92, 117, 123, 48, 48, 48, 48, 101, 57, 125, 34], [34, 92, 117, 123, 48, 48, 48, 48, 48, 101, 57, 125, 34], [34, 92, 117, 123, 101, 57, 34], [34, 92], [34, 255], [34, 194, 133, 34], [34, 226, 128, 168, 34], [34, 195, 169, 231, 149, 140, 34], [34, 127, 34], [34, 9, 34], [97, 10, 98], [34, 239, 191, 189, 34], [34, 92, 117, 34], [34, 92, 120, 34]]
def S7 (l : List UInt8) : Value := .string (bstr l)
theorem known7_short : ∀ x ∈ known7, x.length ≤ 64 := by decide
def tail7 : List UInt8 := [10, 35, 32, 120, 10, 32, 32, 98, 13, 10, 10]
theorem rep_set (k n : Nat) (x y : UInt8) (h : k < n) : (List.replicate k x ++ List.replicate (n - k) y).set k x = List.replicate (k + 1) x ++ List.replicate (n - (k + 1)) y := by
  have e : List.replicate (n - k) y = y :: List.replicate (n - (k + 1)) y := by
    rw [show n - k = n - (k + 1) + 1 by omega, List.replicate_succ]
  rw [e, List.set_append_right _ _ (by simp), List.length_replicate, Nat.sub_self, List.set_cons_zero, List.replicate_succ', List.append_assoc]
  rfl
theorem readsT_lit (w : World) (L : List Tok) (hn : 0 < L.length) : ReadsT (w.alloc (.cells (L.flatMap tokCells).toArray 28)) (some ⟨w.heap.size, 0, none⟩) L.length L := by
  refine ⟨rfl, fun _ => ⟨w.heap.size, 0, rfl, by simp, fun i x hx k v hv => ?_⟩⟩
  have hr : Row (w.alloc (.cells (L.flatMap tokCells).toArray 28)) w.heap.size 28 (L.flatMap tokCells) := alloc_last _ _
  have := Row.cell hr (i * 4 + k)
  rw [tok_at hx hv] at this
  rw [Nat.zero_add]
  exact this
set_option maxHeartbeats 16000000 in
set_option maxRecDepth 100000 in
theorem scanKnown_walk (w : World) (hT : Tabs w) (hE : ErrT w) :
    Calls Tryz.prog 3 #[] w fun e w' => e = .returned (.bool true) ∧ Below w.heap.size w w' := by
  have HT := Lib.hid hT
  have HE := Lib.hid hE
  clear hT hE
  go_enter Tryz.func3, Tryz.ntmps3
  go_wp2
  change Code.wp _ _ _ _ (w.alloc (.cells (known7.map S7).toArray 9))
  have hR0 : Row (w.alloc (.cells (known7.map S7).toArray 9)) w.heap.size 9 (known7.map S7) := alloc_last _ _
  have hB0 : Below w.heap.size w (w.alloc (.cells (known7.map S7).toArray 9)) := (Below.refl _ w).alloc (Nat.le_refl _) _
  generalize w.alloc (.cells (known7.map S7).toArray 9) = w1 at hR0 hB0 ⊢
  obtain ⟨g, hg⟩ : ∃ g, w.heap.size = g := ⟨_, rfl⟩
  have HG := Lib.hid hg
  have HB1 := Lib.hid hB0
  rw [hg] at hR0 ⊢
  have HR0 := Lib.hid hR0
  clear hR0 hB0 hg
  go_loopw [2] (fun iv wr => ∃ k : Nat, k ≤ 30 ∧ iv = .int .i64 (k : Int) ∧ Hid (Below w1.heap.size w1 wr)) (fun iv _ => 30 - (RowKit.intOf iv).toNat)
  case atStart => exact ⟨0, Nat.zero_le _, rfl, Lib.hid (Below.refl _ _)⟩
  case round =>
    obtain ⟨k, hk, rfl, HH⟩ := hrel
    have HBR : Hid (Below w.heap.size w wr) := Lib.hid (HB1.out.trans (HH.out.mono HB1.out.size))
    by_cases hlt : k < 30
    · obtain ⟨x, hx⟩ : ∃ x, known7[k]? = some x := ⟨_, List.getElem?_eq_getElem hlt⟩
      have hxl := known7_short x (List.mem_of_getElem? hx)
      have hcell : ∀ w', Below w1.heap.size w1 w' → w'.cell? ⟨g, k, none⟩ = some (.string (bstr x)) := fun w' hb => by
        have hr := (HR0.out.keep hb HR0.out.lt).cell k
        rw [hr, List.getElem?_map, hx]
        rfl
      have HCELL := Lib.hid hcell
      have c0 := hcell wr HH.out
      have K1 := Lib.hid (fun w' (hb : Below w.heap.size w w') => scanTokens_walk w' x (by omega) (HT.out.next hb) (HE.out.next hb))
      have K2 := Lib.hid (fun w' (hb : Below w.heap.size w w') => scanUnquotes_walk w' x (by omega) (HT.out.next hb) (HE.out.next hb))
      have K3 := Lib.hid (fun w' (hb : Below w.heap.size w w') => scanQuotes_walk w' x (by omega) (HT.out.next hb))
      have K4 := Lib.hid (fun w' (hb : Below w.heap.size w w') => scanBack_walk w' x (by omega) (HT.out.next hb))
      have K5 := Lib.hid (fun w' (hb : Below w.heap.size w w') => scanAgain_walk w' x (by omega) (HT.out.next hb))
      have htl : tail7.length = 11 := rfl
      obtain ⟨T, hTT⟩ : ∃ T, tail7 = T := ⟨_, rfl⟩
      have hcat : ({ data := #[10, 35, 32, 120, 10, 32, 32, 98, 13, 10, 10] } : ByteArray) = bstr T := by rw [← hTT]; rfl
      rw [hTT] at htl
      obtain ⟨D, hD⟩ : ∃ D, x ++ T = D := ⟨_, rfl⟩
      obtain ⟨C, hC⟩ : ∃ C, D ++ x = C := ⟨_, rfl⟩
      have hDl : D.length ≤ 75 := by rw [← hD, List.length_append]; omega
      have hCl : C.length ≤ 139 := by rw [← hC, List.length_append]; omega
      have q1 : ¬ 9223372036854775807 < x.length + T.length := by omega
      have q2 : ¬ 9223372036854775807 < D.length + x.length := by omega
      have K6 := Lib.hid (fun w' (hb : Below w.heap.size w w') => scanLines_walk w' C (by omega) 1 (by decide) (HT.out.next hb))
      unfold AgainSaid at K5
      have stp : ∀ wa wb, Below w1.heap.size w1 wa → Below wa.heap.size wa wb → Below w1.heap.size w1 wb ∧ Below w.heap.size w wb ∧ wb.cell? ⟨g, k, none⟩ = some (.string (bstr x)) := fun wa wb h1 h2 => by
        have h3 := h1.trans (h2.mono h1.size)
        exact ⟨h3, HB1.out.trans (h3.mono HB1.out.size), hcell wb h3⟩
      have STP := Lib.hid stp
      have HD0 : Hid (Below w1.heap.size w1 wr.drew ∧ Below w.heap.size w wr.drew) := Lib.hid (by
        have h := stp wr wr.drew HH.out (((Quiet.refl wr).drewN 1).below _)
        exact ⟨h.1, h.2.1⟩)
      have hxl2 := Lib.hid hxl
      clear hx hcell stp hTT hDl hCl htl hxl
      go_wp2
      go_region_held3 (fun w' => w'.cell? ⟨g, k, none⟩ = some (.string (bstr x))) (first | exact c0 | exact c1 | exact c2 | exact c3 | exact c4 | exact c5 | exact c6) (first
        | (go_at_call 4; refine (K1.out _ HD0.out.2).mono ?_; rintro e wa ⟨rfl, hba⟩; obtain ⟨a1, a2, c1⟩ := STP.out _ _ HD0.out.1 hba; have HD1 := Lib.hid (And.intro a1 a2); clear a1 a2 hba)
        | (go_at_call 5; refine (K2.out _ HD1.out.2).mono ?_; rintro e wb ⟨rfl, hbb⟩; obtain ⟨a1, a2, c2⟩ := STP.out _ _ HD1.out.1 hbb; have HD2 := Lib.hid (And.intro a1 a2); clear a1 a2 hbb)
        | (go_at_call 6; refine (K3.out _ HD2.out.2).mono ?_; rintro e wc ⟨rfl, hbc⟩; obtain ⟨a1, a2, c3⟩ := STP.out _ _ HD2.out.1 hbc; have HD3 := Lib.hid (And.intro a1 a2); clear a1 a2 hbc)
        | (go_at_call 7; refine (K4.out _ HD3.out.2).mono ?_; rintro e wd ⟨rfl, hbd⟩; obtain ⟨a1, a2, c4⟩ := STP.out _ _ HD3.out.1 hbd; have HD4 := Lib.hid (And.intro a1 a2); clear a1 a2 hbd)
        | (go_at_call 8; refine (K5.out _ HD4.out.2).mono ?_; rintro e we ⟨rfl, hbe⟩; obtain ⟨a1, a2, c5⟩ := STP.out _ _ HD4.out.1 hbe; have HD5 := Lib.hid (And.intro a1 a2); clear a1 a2 hbe)
        | (go_at_call 9; refine (K6.out _ HD5.out.2).mono ?_; rintro e wf ⟨rfl, hbf⟩; obtain ⟨a1, a2, c6⟩ := STP.out _ _ HD5.out.1 hbf; have HD6 := Lib.hid (And.intro a1 a2); clear a1 a2 hbf))
      go_wp2
      go_roundw
      case rel => exact ⟨k + 1, by omega, by go_num, Lib.hid HD6.out.1⟩
      case measure => simp [RowKit.intOf]; omega
    · obtain rfl : k = 30 := by omega
      obtain ⟨i0, hi, hz0, hz1, hz2⟩ := info_parts Tryz.infoU8
      obtain ⟨w2, rfl⟩ : ∃ w2 : World, w2 = wr := ⟨_, rfl⟩
      go_wp2_with (at_make; refine wpList_make_row w2 rfl _ _ 25 rfl 5 i0 (.int .u8 0) Tryz.underlying25 hi hz0 hz1 rfl .i64 .i64 16384 16384 16384 16384 rfl rfl rfl rfl (Nat.le_refl _) (by rw [hz2]; decide) (by unfold maxLen; decide) w2.heap.size w2 (Below.refl _ _) (Nat.le_refl _) ?_; intro w3 hrow3 hb3)
      have hR3 : Row w3 w2.heap.size 5 ((List.replicate 0 (97 : UInt8) ++ List.replicate (16384 - 0) 0).map B8) := by
        rw [List.replicate_zero, List.nil_append, Nat.sub_zero, List.map_replicate]
        exact hrow3
      have H3 : Hid (Row w3 w2.heap.size 5 ((List.replicate 0 (97 : UInt8) ++ List.replicate (16384 - 0) 0).map B8) ∧ Below w.heap.size w w3) := Lib.hid ⟨hR3, HBR.out.trans (hb3.mono HBR.out.size)⟩
      obtain ⟨g2, hg2⟩ : ∃ g2, w2.heap.size = g2 := ⟨_, rfl⟩
      have HG2 : Hid (w.heap.size ≤ g2) := Lib.hid (by rw [← hg2]; exact HBR.out.size)
      rw [hg2] at H3 ⊢
      clear hR3 hrow3 hb3 hg2 hi hz0 hz1 hz2
      go_wp2
      go_loopw [4] (fun iv wr => ∃ k : Nat, k ≤ 16384 ∧ iv = .int .i64 (k : Int) ∧ Hid (Row wr g2 5 ((List.replicate k (97 : UInt8) ++ List.replicate (16384 - k) 0).map B8) ∧ Below w.heap.size w wr)) (fun iv _ => 16384 - (RowKit.intOf iv).toNat)
      case atStart => exact ⟨0, Nat.zero_le _, rfl, H3⟩
      case round =>
        obtain ⟨k, hk, rfl, HK⟩ := hrel
        clear H3
        by_cases hlt : k < 16384
        · have hc := HK.out.1.cell k
          rw [List.getElem?_map, List.getElem?_append_right (by simp), List.length_replicate, Nat.sub_self, List.getElem?_replicate, if_pos (by omega)] at hc
          have hcc : wr.cell? ⟨g2, k, none⟩ = some (.int .u8 0) := hc
          have hf := HK.out.1.frozen k
          have hset := HK.out.1.set k (B8 97)
          rw [← List.map_set, rep_set k 16384 97 0 hlt] at hset
          have HNX : Hid (Row (wr.setCell ⟨g2, k, none⟩ (.int .u8 97)) g2 5 ((List.replicate (k + 1) (97 : UInt8) ++ List.replicate (16384 - (k + 1)) 0).map B8) ∧ Below w.heap.size w (wr.setCell ⟨g2, k, none⟩ (.int .u8 97))) := Lib.hid ⟨hset, HK.out.2.setCell (p := ⟨g2, k, none⟩) HG2.out _⟩
          clear hc hset
          go_wp2
          go_roundw
          case rel => exact ⟨k + 1, by omega, by go_num, HNX⟩
          case measure => simp [RowKit.intOf]; omega
        · obtain rfl : k = 16384 := by omega
          obtain ⟨L, hL⟩ : ∃ L, List.replicate 16384 (97 : UInt8) = L := ⟨_, rfl⟩
          have hLl : L.length = 16384 := by rw [← hL, List.length_replicate]
          have hrowL : Row wr g2 5 (L.map B8) := by
            have := HK.out.1
            rw [Nat.sub_self, List.replicate_zero, List.append_nil, hL] at this
            exact this
          have hrd : Reads wr (some ⟨g2, 0, none⟩) 16384 (L.map B8) := ⟨by rw [List.length_map, hLl], fun _ => ⟨g2, 0, rfl, hrowL.lt, fun j _ => by rw [Nat.zero_add]; exact hrowL.cell j⟩⟩
          have hconv := run_bytes_str wr 25 9 5 Tryz.underlying25 Tryz.underlying5 Tryz.underlying9 (some ⟨g2, 0, none⟩) 16384 16384 L hrd
          have hbr := HK.out.2
          have HLL := Lib.hid hLl
          have KT : Hid (∀ w' X, X.length ≤ 20000 → Below w.heap.size w w' → Calls Tryz.prog 4 #[.string (bstr X)] w' fun e w'' => e = .returned (.bool true) ∧ Below w.heap.size w w'') := Lib.hid (fun w' X hX hb => (scanTokens_walk w' X (by omega) (HT.out.next hb) (HE.out.next hb)).mono fun e w'' h => ⟨h.1, hb.trans (h.2.mono hb.size)⟩)
          have KU : Hid (∀ w' X, X.length ≤ 20000 → Below w.heap.size w w' → Calls Tryz.prog 5 #[.string (bstr X)] w' fun e w'' => e = .returned (.bool true) ∧ Below w.heap.size w w'') := Lib.hid (fun w' X hX hb => (scanUnquotes_walk w' X (by omega) (HT.out.next hb) (HE.out.next hb)).mono fun e w'' h => ⟨h.1, hb.trans (h.2.mono hb.size)⟩)
          have KW : Hid (∀ w', Below w.heap.size w w' → Calls Tryz.prog 11 #[] w' fun e w'' => e = .returned (.bool true) ∧ Below w.heap.size w w'') := Lib.hid (fun w' hb => (worksC w' (HT.out.next hb)).mono fun e w'' h => ⟨h.1, hb.trans (h.2.mono hb.size)⟩)
          have KP : ∀ (TL : List Tok), 0 < TL.length → tokSum TL ≤ 1048576 → (∀ t ∈ TL, TokOk t) → ∀ w', Below w.heap.size w w' → Calls Tryz.prog 10 #[.slice (some ⟨w'.heap.size, 0, none⟩) TL.length TL.length] (w'.alloc (.cells (TL.flatMap tokCells).toArray 28)) fun e w'' => e = .returned (.bool true) ∧ Below w.heap.size w w'' := fun TL h0 h1 h2 w' hb => by
            have hb2 : Below w.heap.size w (w'.alloc (.cells (TL.flatMap tokCells).toArray 28)) := hb.alloc hb.size _
            exact (scanPrints_walk _ _ _ _ TL (readsT_lit w' TL h0) h1 h2 (HT.out.next hb2)).mono fun e w'' h => ⟨h.1, hb2.trans (h.2.mono hb2.size)⟩
          have P1 : Hid (∀ w', Below w.heap.size w w' → Calls Tryz.prog 10 #[.slice (some ⟨w'.heap.size, 0, none⟩) 1 1] (w'.alloc (.cells #[.int .i64 1, .int .i64 0, .string (bstr L), .int .i64 0] 28)) fun e w'' => e = .returned (.bool true) ∧ Below w.heap.size w w'') := Lib.hid (KP [⟨1, 0, L, 0⟩] (Nat.succ_pos _) (by simp [tokSum]; omega) (by intro t ht; simp only [List.mem_singleton] at ht; subst ht; exact ⟨by dsimp only; omega, by dsimp only; decide, by dsimp only; decide⟩))
          have P2 : Hid (∀ w', Below w.heap.size w w' → Calls Tryz.prog 10 #[.slice (some ⟨w'.heap.size, 0, none⟩) 2 2] (w'.alloc (.cells #[.int .i64 1, .int .i64 0, .string (bstr L), .int .i64 0, .int .i64 2, .int .i64 0, .string ⟨#[]⟩, .int .i64 0] 28)) fun e w'' => e = .returned (.bool true) ∧ Below w.heap.size w w'') := Lib.hid (KP [⟨1, 0, L, 0⟩, ⟨2, 0, [], 0⟩] (Nat.succ_pos _) (by simp [tokSum]; omega) (by intro t ht; simp only [List.mem_cons, List.not_mem_nil, or_false] at ht; rcases ht with rfl | rfl <;> exact ⟨by dsimp only; first | omega | decide, by dsimp only; decide, by dsimp only; decide⟩))
          have P3 : Hid (∀ w', Below w.heap.size w w' → Calls Tryz.prog 10 #[.slice (some ⟨w'.heap.size, 0, none⟩) 1 1] (w'.alloc (.cells #[.int .i64 1, .int .i64 0, .string ⟨#[49, 50]⟩, .int .i64 0] 28)) fun e w'' => e = .returned (.bool true) ∧ Below w.heap.size w w'') := Lib.hid (KP [⟨1, 0, [49, 50], 0⟩] (by decide) (by decide) (by intro t ht; simp only [List.mem_singleton] at ht; subst ht; exact ⟨by decide, by decide, by decide⟩))
          have hszL := bstr_size L
          have hLge : 16384 ≤ L.length := by omega
          have i1 : (16382 : Int) ≤ (L.length : Int) := by omega
          have i2 : (16383 : Int) ≤ (L.length : Int) := by omega
          have n1 : 16382 ≤ L.length := by omega
          have n2 : 16383 ≤ L.length := by omega
          clear KP hL hrowL hrd hLl HK
          obtain ⟨B1, hB1⟩ : ∃ B1 : List UInt8, [32] = B1 := ⟨_, rfl⟩
          have hs32 : ({ data := #[32] } : ByteArray) = bstr B1 := by rw [← hB1]; rfl
          have hB1l : B1.length = 1 := by rw [← hB1]; rfl
          obtain ⟨Q, hQ⟩ : ∃ Q : List UInt8, [34] = Q := ⟨_, rfl⟩
          have hs34 : ({ data := #[34] } : ByteArray) = bstr Q := by rw [← hQ]; rfl
          have hQl : Q.length = 1 := by rw [← hQ]; rfl
          clear hB1 hQ
          obtain ⟨D1, hD1⟩ : ∃ D1, L ++ B1 = D1 := ⟨_, rfl⟩
          obtain ⟨E1, hE1⟩ : ∃ E1, L.take 16382 = E1 := ⟨_, rfl⟩
          obtain ⟨E2, hE2⟩ : ∃ E2, L.take 16383 = E2 := ⟨_, rfl⟩
          obtain ⟨F1, hF1⟩ : ∃ F1, Q ++ E1 = F1 := ⟨_, rfl⟩
          obtain ⟨F2, hF2⟩ : ∃ F2, Q ++ E2 = F2 := ⟨_, rfl⟩
          obtain ⟨G1, hG1⟩ : ∃ G1, F1 ++ Q = G1 := ⟨_, rfl⟩
          obtain ⟨G2, hG2⟩ : ∃ G2, F2 ++ Q = G2 := ⟨_, rfl⟩
          have lL := HLL.out
          have l1 : D1.length ≤ 20000 := by rw [← hD1, List.length_append]; omega
          have l2 : E1.length ≤ 16384 := by rw [← hE1, List.length_take]; omega
          have l3 : E2.length ≤ 16384 := by rw [← hE2, List.length_take]; omega
          have l4 : F1.length ≤ 16385 := by rw [← hF1, List.length_append]; omega
          have l5 : F2.length ≤ 16385 := by rw [← hF2, List.length_append]; omega
          have l6 : G1.length ≤ 20000 := by rw [← hG1, List.length_append]; omega
          have l7 : G2.length ≤ 20000 := by rw [← hG2, List.length_append]; omega
          have l0 : L.length ≤ 20000 := by omega
          have q1 : ¬ 9223372036854775807 < L.length + B1.length := by omega
          have q2 : ¬ 9223372036854775807 < Q.length + E1.length := by omega
          have q3 : ¬ 9223372036854775807 < Q.length + E2.length := by omega
          have q4 : ¬ 9223372036854775807 < F1.length + Q.length := by omega
          have q5 : ¬ 9223372036854775807 < F2.length + Q.length := by omega
          have HL7 := Lib.hid (And.intro l0 (And.intro l1 (And.intro l6 l7)))
          clear lL l0 l1 l2 l3 l4 l5 l6 l7 hB1l hQl
          go_wp2_with (first
            | (go_at_call 4; (with_reducible refine (KT.out _ _ (by first | exact HL7.out.1 | exact HL7.out.2.1) (by assumption)).mono ?_); rintro e wa ⟨rfl, hba⟩)
            | (go_at_call 5; (with_reducible refine (KU.out _ _ (by first | exact HL7.out.2.2.1 | exact HL7.out.2.2.2) (by assumption)).mono ?_); rintro e wb ⟨rfl, hbb⟩)
            | (go_at_call 10; (with_reducible refine (P1.out _ (by assumption)).mono ?_); rintro e wc ⟨rfl, hbc⟩)
            | (go_at_call 10; (with_reducible refine (P2.out _ (by assumption)).mono ?_); rintro e wd ⟨rfl, hbd⟩)
            | (go_at_call 10; (with_reducible refine (P3.out _ (by assumption)).mono ?_); rintro e we ⟨rfl, hbe⟩)
            | (go_at_call 11; refine (KW.out _ (by assumption)).mono ?_; rintro e wf ⟨rfl, hbf⟩))
          go_ret
          exact ⟨rfl, by assumption⟩
end Go.Proofs.YtmhemahkcbgaoaaGreatDoor
/- What the row's list gives: the tables in the world. -/
namespace Go.Proofs.YtmhemahkcbgaoaaGreatDoor
set_option linter.unusedVariables false
set_option linter.unusedSimpArgs false
open Go.Lib Go.RowKit
theorem tab_cells {w : World} {n : String} {k : IntKind} {zs : List Int} {d : DataW Unit} (hd0 : d = tabData k zs) (h : VarReads Tryz.prog w n d) {g : Nat} {t e : TypeId} {m : Nat} (hg : Tryz.prog.globalNamed n = some g) (hty : (Tryz.prog.globals[g]?).map (·.type) = some t)
    (ht : Tryz.prog.underlying t = some (.array m e)) (he : Tryz.prog.underlying e = some (.int k)) (hce : Tryz.prog.cellsOf e = 1) (hct : Tryz.prog.cellsOf t = m) : TabIs Tryz.prog w n k zs := by
  subst hd0
  obtain ⟨g', t', cs, fuel, p, hg', ht', hvar, hd⟩ := h
  obtain rfl := Option.some.inj (hg.symm.trans hg')
  obtain rfl := Option.some.inj (hty.symm.trans ht')
  unfold TabIs
  rw [hvar, ← cells_of_tab ht he hce hct hd]
theorem first_data : Rows.laid_unicode_utf8_first = tabData .u8 firstTab := by kernel_rfl
theorem accept_data : (Rows.laid_unicode_utf8_acceptRanges : DataW Unit) = acceptData := by kernel_rfl
theorem tabs_of {l : List (String × DataW Unit)} {w : World} (h : laidMet Tryz.prog l w) (m1 : ("unicode/utf8.first", Rows.laid_unicode_utf8_first) ∈ l) (m2 : ("unicode/utf8.acceptRanges", Rows.laid_unicode_utf8_acceptRanges) ∈ l) (m3 : ("internal/strconv.uint64pow10", Rows.laid_internal_strconv_uint64pow10) ∈ l) (m4 : ("math/bits.deBruijn64tab", Rows.laid_math_bits_deBruijn64tab) ∈ l) : Tabs w := by
  have t1 : TabIs Tryz.prog w "unicode/utf8.first" .u8 firstTab := tab_cells first_data (laidMet.reads h m1) (g := 2) (t := 160) (e := 5) (by kernel_rfl) (by kernel_rfl) Tryz.underlying160 Tryz.underlying5 (by kernel_rfl) (by kernel_rfl)
  have t3 : TabIs Tryz.prog w "internal/strconv.uint64pow10" .u64 pow10Tab := tab_cells (by kernel_rfl) (laidMet.reads h m3) globalPow (t := 153) (e := 136) (by kernel_rfl) Tryz.underlying153 Tryz.underlying136 (by kernel_rfl) (by kernel_rfl)
  have t4 := tab_cells (zs := [0, 1, 56, 2, 57, 49, 28, 3, 61, 58, 42, 50, 38, 29, 17, 4, 62, 47, 59, 36, 45, 43, 51, 22, 53, 39, 33, 30, 24, 18, 12, 5, 63, 55, 48, 27, 60, 41, 37, 16, 46, 35, 44, 21, 52, 32, 23, 11, 54, 26, 40, 15, 34, 20, 31, 10, 25, 14, 19, 9, 13, 8, 7, 6]) (k := .u8) (by kernel_rfl) (laidMet.reads h m4) (g := 6) (t := 166) (e := 5) (by kernel_rfl) (by kernel_rfl) Tryz.underlying166 Tryz.underlying5 (by kernel_rfl) (by kernel_rfl)
  have c4 : w.cell? ⟨6, 15, none⟩ = some (.int .u8 4) := t4.cell (by kernel_rfl) 15 (by decide)
  refine ⟨⟨fun c hc => ?_, fun i hi => ?_⟩, t3, c4, ?_⟩
  · have := t1.cell (g := 2) (by kernel_rfl) c (by simpa [firstTab] using hc)
    rw [this]
    simp [firstTab, List.getD, hc]
  · have h4 := laidMet.reads h m2
    rw [accept_data] at h4
    obtain ⟨g, t, cs, fuel, p, hg, hty, hvar, hd⟩ := h4
    obtain rfl := Option.some.inj ((show Tryz.prog.globalNamed "unicode/utf8.acceptRanges" = some 3 by kernel_rfl).symm.trans hg)
    obtain rfl := Option.some.inj ((show (Tryz.prog.globals[3]?).map (·.type) = some 163 by kernel_rfl).symm.trans hty)
    have c138 : Tryz.prog.cellsOf 162 = 2 := by kernel_rfl
    have c5 : Tryz.prog.cellsOf 5 = 1 := by kernel_rfl
    obtain ⟨fuel', d, q, hdi, he⟩ := array_elem Tryz.underlying163 hd i hi
    simp only [List.getElem?_map, List.getElem?_range hi, Option.map_some, Option.some.injEq] at hdi
    subst hdi
    rw [c138] at he
    have hcs := ints_of_struct Tryz.underlying162 (fun j f hj => by
      match j, hj with
      | 0, hj => simp at hj; subst hj; exact ⟨Tryz.underlying5, rfl, c5⟩
      | 1, hj => simp at hj; subst hj; exact ⟨Tryz.underlying5, rfl, c5⟩
      | j + 2, hj => simp at hj) (by rw [c138]; rfl) he
    have e0 := congrArg (·[0]?) hcs
    have e1 := congrArg (·[1]?) hcs
    simp only [List.getElem?_take, List.getElem?_drop] at e0 e1
    constructor
    · rw [World.var?_cell hg hvar (2 * i), ← Array.getElem?_toList]
      simpa [Nat.mul_comm] using e0
    · rw [World.var?_cell hg hvar (2 * i + 1), ← Array.getElem?_toList]
      simpa [Nat.mul_comm] using e1
  · rcases Nat.lt_or_ge 6 w.heap.size with h | h
    · exact h
    · simp [World.cell?, Array.getElem?_eq_none h] at c4
end Go.Proofs.YtmhemahkcbgaoaaGreatDoor
/- What the row's list gives where it holds a type's handle: the variable that errors.As reads. -/
namespace Go.Proofs.YtmhemahkcbgaoaaGreatDoor
set_option linter.unusedVariables false
set_option linter.unusedSimpArgs false
open Go.Lib Go.RowKit
theorem rt7 : (Tryz.prog.cutTypes.find? (·.1 == "internal/reflectlite.rtype")).map (·.2) = some 118 := by kernel_rfl
theorem oneRow7 : ((List.range Tryz.prog.types.size).filter fun t => Tryz.prog.rowNamed t [101, 114, 114, 111, 114]) = [32] := by kernel_rfl
theorem err_of {l : List (String × DataW Unit)} {W : World} (h : laidMetH Tryz.prog l W) (m : (l.filter fun x => x.2.handleName?.isSome) = [("errors.errorType", Rows.laid_errors_errorType)]) : ErrT W := by
  unfold laidMetH at h
  rw [m] at h
  obtain ⟨name, u, ty, e1, e2, e3, e4, e5⟩ := h.2 _ (List.mem_singleton.2 rfl)
  have en : name = [101, 114, 114, 111, 114] := (Option.some.inj e1).symm
  subst en
  obtain rfl := Option.some.inj (rt7.symm.trans e2)
  have hm : ty ∈ (List.range Tryz.prog.types.size).filter fun t => Tryz.prog.rowNamed t [101, 114, 114, 111, 114] := List.mem_filter.2 ⟨List.mem_range.2 e3, e4⟩
  rw [oneRow7] at hm
  obtain rfl := List.mem_singleton.1 hm
  have hh : typeHandle Tryz.prog 32 = .pointer (some ⟨7, 32, none⟩) := by kernel_rfl
  rw [hh] at e5
  have := World.var?_cell (show Tryz.prog.globalNamed "errors.errorType" = some 0 by kernel_rfl) e5 0
  unfold ErrT
  simpa using this
/-- the world in which the variable holds the handle, ahead of the tables -/
noncomputable def hBase (os : Os) : World :=
  { World.holding Tryz.prog os ⟨#[], #[], []⟩ with heap := (World.holding Tryz.prog os ⟨#[], #[], []⟩).heap.modify 0 fun
      | .cells _ t frozen => .cells #[.iface 118 (.agg #[.pointer (some ⟨7, 32, none⟩)])] t frozen
      | o => o }
noncomputable def hWorld (os : Os) (l : List (String × DataW Unit)) : World := (hBase os).layVars Tryz.prog (l.filter fun x => x.2.handleName?.isNone)
theorem hWorld_os (os : Os) (l : List (String × DataW Unit)) : (hWorld os l).os = os := World.layVars_os _ _ _
theorem laidMet_hWorld {os : Os} {l : List (String × DataW Unit)} (args : Array Value)
    (hf : (hBase os).layFits Tryz.prog (l.filter fun x => x.2.handleName?.isNone) [] = true)
    (hi : (hBase os).layIfaces Tryz.prog (l.filter fun x => x.2.handleName?.isNone) (hWorld os l) = true) :
    laidMet Tryz.prog (l.filter fun x => x.2.handleName?.isNone) ((hWorld os l).forCall (fun _ _ => 0) ⟨#[], args, []⟩).memory := by
  unfold hWorld at *
  generalize (l.filter fun x => x.2.handleName?.isNone) = laid at *
  have e1 : (laid.filter fun x => (laid.map (·.1)).contains x.1) = laid := List.filter_eq_self.2 fun x hx => List.contains_iff_mem.2 (List.mem_map.2 ⟨x, hx, rfl⟩)
  have e2 : (laid.filter fun x => !(laid.map (·.1)).contains x.1) = [] := List.filter_eq_nil_iff.2 fun x hx => by rw [List.contains_iff_mem.2 (List.mem_map.2 ⟨x, hx, rfl⟩)]; simp
  have h : laidMet Tryz.prog laid ((hBase os).layVars Tryz.prog laid) := laidMet_layVars (w0 := hBase os) (laid.map (·.1)) [] (by rw [e1]) (by rw [e1]; exact hf) (by rw [e1]; exact hi) (by rw [e2]; exact LaidIn.none)
  exact h.of_heap (by simp [World.memory, World.forCall, Input.heap])
end Go.Proofs.YtmhemahkcbgaoaaGreatDoor
