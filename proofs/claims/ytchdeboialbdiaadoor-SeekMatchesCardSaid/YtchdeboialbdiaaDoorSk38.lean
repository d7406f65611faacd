/- Texts joined, one behind the other (LSeekMatches, Laid31, OpenLk). -/
import Derived.Test.YtchdeboialbdiaaDoorSk37
import Derived.LaidEql
import Derived.Stop.Asserts
import Derived.RowKitTokens
import Derived.Deep.RegionHeld3
import Derived.Test.YtchdeboialbdiaaDoorRows
import Derived.Lib.LaidU8
import Derived.LaidSub
import Derived.Deep.Slices
import Derived.OpenShut
import Derived.ProofKit
import Derived.JoinedCond
import Derived.SizedLaws
/- SeekMatches: what every pattern matches; answers are new memory. -/
namespace Go.Proofs.YtchdeboialbdiaaDoor
set_option linter.unusedVariables false
set_option linter.unusedSimpArgs false
open Go.RowKit
open Go.Lib hiding intOf
theorem place_two (o : Option Nat) : ∃ (y : Int) (b : Bool), placeV o = .tuple #[.int .i64 y, .bool b] := by
  cases o with
  | none => exact ⟨0, false, rfl⟩
  | some y => exact ⟨_, true, rfl⟩
theorem piece_two (A : List Nat) (o : Option (Nat × Nat)) : ∃ (x y : Int) (b : Bool), pieceV A o = .tuple #[.agg #[.int .i64 x, .int .i64 y], .bool b] := by
  rcases o with _ | ⟨i, j⟩
  · exact ⟨0, 0, false, rfl⟩
  · exact ⟨_, _, true, rfl⟩
set_option maxHeartbeats 8000000 in
set_option maxRecDepth 100000 in
/-- a text that is no pattern: both say so -/
theorem matches_bad (w : World) (l s : List UInt8) (i1 i2 i3 c q : Int) (hc0 : (c == 0) = false) (hT : Tabs w)
    (h1 : ∀ W, Below w.heap.size w W → Calls Tryd.prog 10 #[.string (bstr l)] W fun e w' => ∃ g, e = .returned (.tuple #[.pointer none, .iface 68 (.pointer (some ⟨g, 0, none⟩))]) ∧ Below W.heap.size W w')
    (h2 : ∀ W, Calls Tryd.prog 11 #[.string (bstr l)] W fun e w' => e = .returned (.tuple #[.agg #[.string { data := #[] }, .bool false, .slice none 0 0], .int .i64 q, .int .i64 c]) ∧ Below W.heap.size W w') :
    Calls Tryd.prog 3 #[.agg #[.string (bstr l), .string (bstr s), .int .i64 i1, .int .i64 i2, .int .i64 i3]] w fun e w' => e = .returned (.bool true) ∧ Below w.heap.size w w' := by
  have hb0 : Below w.heap.size w (w.alloc (.cells #[.string (bstr l), .string (bstr s), .int .i64 i1, .int .i64 i2, .int .i64 i3] 23)) := (Below.refl _ w).alloc (Nat.le_refl _) _
  have hrow : Row (w.alloc (.cells #[.string (bstr l), .string (bstr s), .int .i64 i1, .int .i64 i2, .int .i64 i3] 23)) w.heap.size 23 [.string (bstr l), .string (bstr s), .int .i64 i1, .int .i64 i2, .int .i64 i3] := row_new w [.string (bstr l), .string (bstr s), .int .i64 i1, .int .i64 i2, .int .i64 i3] _
  obtain ⟨W0, hW0⟩ : ∃ W, W = w.alloc (.cells #[.string (bstr l), .string (bstr s), .int .i64 i1, .int .i64 i2, .int .i64 i3] 23) := ⟨_, rfl⟩
  rw [← hW0] at hb0 hrow
  have r0 := hrow.cell 0
  have rl := hrow.lt
  have H1 := Lib.hid (h1 W0 hb0)
  have H2 := Lib.hid h2
  have HT := Lib.hid hT
  have HB0 := Lib.hid hb0
  have HROW := Lib.hid hrow
  have HW0 := Lib.hid hW0
  have hc1 : (c != 0) = true := by simp only [bne, hc0]; rfl
  clear h1 h2 hT hb0 hrow hW0
  go_enter Tryd.func3, Tryd.ntmps3
  go_upto_region 1 with fail
  rw [← HW0.out]
  go_wp2_with (first
    | (go_at_call 10; refine (H1.out).mono ?_; rintro e w1 ⟨g, rfl, hb1⟩; have s0 := (HROW.out.keep hb1 HROW.out.lt).cell 0; have sl := (HROW.out.keep hb1 HROW.out.lt).lt; have HB1 := Lib.hid (HB0.out.trans (hb1.mono HB0.out.size)); clear hb1)
    | (go_at_call 11; refine (H2.out _).mono ?_; rintro e w2 ⟨rfl, hb2⟩; have HB2 : Hid (Below w.heap.size w (w2.alloc (.cells #[.string { data := #[] }, .bool false, .slice none 0 0] 31))) := Lib.hid (HB1.out.trans ((hb2.alloc hb2.size _).mono HB1.out.size)); clear hb2)
    | (go_at_call 12; refine (worksC _ (HT.out.next HB2.out)).mono ?_; rintro e w4 ⟨rfl, hb4⟩; have HB4 := Lib.hid (HB2.out.trans (hb4.mono HB2.out.size)); clear hb4))
  go_ret
  exact ⟨rfl, HB4.out⟩
set_option maxHeartbeats 8000000 in
set_option maxRecDepth 100000 in
/-- a pattern: both match alike -/
theorem matches_good (w : World) (l s : List UInt8) (i1 i2 i3 : Int) (fo : Bool) (its : List Itm) (hT : Tabs w) (hok : ∀ it ∈ its, OkI it) (hil : its.length ≤ 1000000)
    (h1 : ∀ W, Below w.heap.size w W → Calls Tryd.prog 10 #[.string (bstr l)] W fun e w' => ∃ g, e = .returned (.tuple #[.pointer (some ⟨g, 0, none⟩), .nilIface]) ∧ PatFrom W.heap.size w' g l fo its ∧ Below W.heap.size W w')
    (h2 : ∀ W, Calls Tryd.prog 11 #[.string (bstr l)] W fun e w' => ∃ a m c, e = .returned (.tuple #[.agg #[.string (bstr l), .bool fo, .slice a m c], .int .i64 0, .int .i64 0]) ∧ ItRd w' (.slice a m c) its ∧ Below W.heap.size W w') :
    Calls Tryd.prog 3 #[.agg #[.string (bstr l), .string (bstr s), .int .i64 i1, .int .i64 i2, .int .i64 i3]] w fun e w' => e = .returned (.bool true) ∧ Below w.heap.size w w' := by
  have hb0 : Below w.heap.size w (w.alloc (.cells #[.string (bstr l), .string (bstr s), .int .i64 i1, .int .i64 i2, .int .i64 i3] 23)) := (Below.refl _ w).alloc (Nat.le_refl _) _
  have hrow : Row (w.alloc (.cells #[.string (bstr l), .string (bstr s), .int .i64 i1, .int .i64 i2, .int .i64 i3] 23)) w.heap.size 23 [.string (bstr l), .string (bstr s), .int .i64 i1, .int .i64 i2, .int .i64 i3] := row_new w [.string (bstr l), .string (bstr s), .int .i64 i1, .int .i64 i2, .int .i64 i3] _
  have hsz : (w.alloc (.cells #[.string (bstr l), .string (bstr s), .int .i64 i1, .int .i64 i2, .int .i64 i3] 23)).heap.size = w.heap.size + 1 := by simp
  obtain ⟨W0, hW0⟩ : ∃ W, W = w.alloc (.cells #[.string (bstr l), .string (bstr s), .int .i64 i1, .int .i64 i2, .int .i64 i3] 23) := ⟨_, rfl⟩
  rw [← hW0] at hb0 hrow hsz
  have r0 := hrow.cell 0
  have rl := hrow.lt
  have hp0 := h1 W0 hb0
  rw [hsz] at hp0
  have H1 := Lib.hid hp0
  have H2 := Lib.hid h2
  have HT := Lib.hid hT
  have HB0 := Lib.hid hb0
  have HROW := Lib.hid hrow
  have HW0 := Lib.hid hW0
  have HOK := Lib.hid hok
  have HSZ := Lib.hid hsz
  clear h1 h2 hT hb0 hrow hW0 hp0 hok hsz
  go_enter Tryd.func3, Tryd.ntmps3
  go_upto_region 1 with fail
  rw [← HW0.out]
  go_wp2_with (first
    | (go_at_call 10; refine (H1.out).mono ?_; rintro e w1 ⟨g, rfl, hp1, hb1⟩; rw [← HSZ.out] at hb1; have s0 := (HROW.out.keep hb1 HROW.out.lt).cell 0; have s1 := (HROW.out.keep hb1 HROW.out.lt).cell 1; have sl := (HROW.out.keep hb1 HROW.out.lt).lt; have HP1 := Lib.hid hp1; have HL1 := Lib.hid (HROW.out.keep hb1 HROW.out.lt); have HB1 := Lib.hid (HB0.out.trans (hb1.mono HB0.out.size)); clear hb1 hp1)
    | (go_at_call 11; refine (H2.out _).mono ?_; rintro e w2 ⟨a, m, c, rfl, hi2, hb2⟩; have HB2 := Lib.hid hb2; have HI2 := Lib.hid hi2; have x1 := (HL1.out.keep hb2 HL1.out.lt).cell 1; have xl := (HL1.out.keep hb2 HL1.out.lt).lt; have xf := (HL1.out.keep hb2 HL1.out.lt).frozen 1; clear hb2 hi2)
    | (go_at_call 13; refine (cutC _ s 300 (by decide)).mono ?_; rintro e w3 ⟨rfl, rfl⟩))
  have hsm : ∀ W, W = (w2.setCell ⟨w.heap.size, 1, none⟩ (.string (bstr (s.take 300)))).alloc (.cells #[.string (bstr l), .bool fo, .slice a m c] 31) → SmW w W w2.heap.size [.string (bstr l), .string (bstr (s.take 300)), .int .i64 i1, .int .i64 i2, .int .i64 i3] [.string (bstr l), .bool fo, .slice a m c] g l fo its (.slice a m c) := by
    rintro W rfl
    have hal : Below w2.heap.size w2 (w2.alloc (.cells #[.string (bstr l), .bool fo, .slice a m c] 31)) := (Below.refl _ w2).alloc (Nat.le_refl _) _
    have hb := HB2.out.trans (hal.mono HB2.out.size)
    have h0 : SmW w (w2.alloc (.cells #[.string (bstr l), .bool fo, .slice a m c] 31)) w2.heap.size [.string (bstr l), .string (bstr s), .int .i64 i1, .int .i64 i2, .int .i64 i3] [.string (bstr l), .bool fo, .slice a m c] g l fo its (.slice a m c) :=
      ⟨HL1.out.keep hb HL1.out.lt, row_new w2 [.string (bstr l), .bool fo, .slice a m c] _, HP1.out.keep hb, HI2.out.below hal, HB1.out.trans (hb.mono HB1.out.size)⟩
    have he : (w2.alloc (.cells #[.string (bstr l), .bool fo, .slice a m c] 31)).setCell ⟨w.heap.size, 1, none⟩ (.string (bstr (s.take 300))) = (w2.setCell ⟨w.heap.size, 1, none⟩ (.string (bstr (s.take 300)))).alloc (.cells #[.string (bstr l), .bool fo, .slice a m c] 31) := World.setCell_alloc_past _ _ _ _ xl
    rw [← he]
    exact h0.put 1 _
  have HSM := Lib.hid hsm
  clear hsm
  obtain ⟨S, hS⟩ : ∃ S, s.take 300 = S := ⟨_, rfl⟩
  have hSl : S.length ≤ 300 := by rw [← hS, List.length_take]; omega
  rw [hS] at HSM
  rw [hS]
  clear hS
  go_loopw [8] (fun uk wr => ∃ z : Int, uk = .int .i64 z ∧ -1 ≤ z ∧ z ≤ (S.length : Int) + 2 ∧ Hid (SmW w wr w2.heap.size [.string (bstr l), .string (bstr S), .int .i64 i1, .int .i64 i2, .int .i64 i3] [.string (bstr l), .bool fo, .slice a m c] g l fo its (.slice a m c))) (fun uk _ => ((S.length : Int) + 3 - RowKit.intOf uk).toNat)
  case atStart => exact ⟨-1, rfl, by omega, by omega, Lib.hid (HSM.out _ rfl)⟩
  case round =>
    obtain ⟨z, rfl, hz0, hz1, HR⟩ := hrel
    have q1 := HR.out.look.cell 1
    have ql := HR.out.look.lt
    have u0 := HR.out.pat.cell 0
    have u1 := HR.out.pat.cell 1
    have u2 := HR.out.pat.cell 2
    have ul := HR.out.pat.lt
    by_cases hlt : z ≤ (S.length : Int) + 1
    · obtain ⟨y, b, hpl⟩ := place_two (matchP fo S its z)
      have hA := matchPC wr g l S fo its z HR.out.frm.is (by omega) (by omega) (HT.out.next HR.out.below)
      have hB := fun W (h : SmW w W w2.heap.size [.string (bstr l), .string (bstr S), .int .i64 i1, .int .i64 i2, .int .i64 i3] [.string (bstr l), .bool fo, .slice a m c] g l fo its (.slice a m c)) => matchR6 W l S fo its a m c z h.it HOK.out (by have := it_len h.it; omega) (by omega)
      rw [hpl] at hA hB
      have HA := Lib.hid hA
      have HB := Lib.hid hB
      have hyy : (y != y) = false := by simp
      have hbb : (b != b) = false := by simp
      clear hA hB hpl
      go_wp2_with (first
        | (go_at_call 14; refine (HA.out).mono ?_; rintro e w5 ⟨rfl, hb5⟩; have h5 := HR.out.next hb5; have v0 := h5.pat.cell 0; have v1 := h5.pat.cell 1; have v2 := h5.pat.cell 2; have vl := h5.pat.lt; have v3 := h5.look.cell 1; have v4 := h5.look.lt; have H5 := Lib.hid h5; clear hb5 h5)
        | (go_at_call 15; refine (HB.out w5 H5.out).mono ?_; rintro e w6 ⟨rfl, hb6⟩; have H6 := Lib.hid (H5.out.next hb6); clear hb6))
      go_roundw
      case rel => exact ⟨z + 1, by go_num, by omega, by omega, H6⟩
      case measure => simp [RowKit.intOf]; omega
    · have hgt : ¬ z ≤ (S.length : Int) + 1 := hlt
      have q2 := HR.out.look.cell 2
      have q3 := HR.out.look.cell 3
      have q4 := HR.out.look.cell 4
      obtain ⟨y1, b1, hp1⟩ := place_two (matchP fo S its i1)
      obtain ⟨x2, y2, b2, hp2⟩ := piece_two (atsL S) (findP fo S its i2)
      obtain ⟨x3, y3, b3, hp3⟩ := piece_two (atsL S) (lastP fo S its i3)
      have hA := fun W (h : SmW w W w2.heap.size [.string (bstr l), .string (bstr S), .int .i64 i1, .int .i64 i2, .int .i64 i3] [.string (bstr l), .bool fo, .slice a m c] g l fo its (.slice a m c)) => matchPC W g l S fo its i1 h.frm.is (by omega) (by omega) (HT.out.next h.below)
      have hB := fun W (h : SmW w W w2.heap.size [.string (bstr l), .string (bstr S), .int .i64 i1, .int .i64 i2, .int .i64 i3] [.string (bstr l), .bool fo, .slice a m c] g l fo its (.slice a m c)) => matchR6 W l S fo its a m c i1 h.it HOK.out (by have := it_len h.it; omega) (by omega)
      have hC := fun W (h : SmW w W w2.heap.size [.string (bstr l), .string (bstr S), .int .i64 i1, .int .i64 i2, .int .i64 i3] [.string (bstr l), .bool fo, .slice a m c] g l fo its (.slice a m c)) => findC W g l S fo its i2 h.frm.is (by omega) (by omega) (HT.out.next h.below)
      have hD := fun W (h : SmW w W w2.heap.size [.string (bstr l), .string (bstr S), .int .i64 i1, .int .i64 i2, .int .i64 i3] [.string (bstr l), .bool fo, .slice a m c] g l fo its (.slice a m c)) => findR6 W l S fo its a m c i2 h.it HOK.out (by have := it_len h.it; omega) (by omega)
      have hE := fun W (h : SmW w W w2.heap.size [.string (bstr l), .string (bstr S), .int .i64 i1, .int .i64 i2, .int .i64 i3] [.string (bstr l), .bool fo, .slice a m c] g l fo its (.slice a m c)) => lastC W g l S fo its i3 h.frm.is (by omega) (by omega) (HT.out.next h.below)
      have hF := fun W (h : SmW w W w2.heap.size [.string (bstr l), .string (bstr S), .int .i64 i1, .int .i64 i2, .int .i64 i3] [.string (bstr l), .bool fo, .slice a m c] g l fo its (.slice a m c)) => lastR6 W l S fo its a m c i3 h.it HOK.out (by have := it_len h.it; omega) (by omega)
      rw [hp1] at hA hB
      rw [hp2] at hC hD
      rw [hp3] at hE hF
      have HA := Lib.hid hA
      have HB := Lib.hid hB
      have HC := Lib.hid hC
      have HD := Lib.hid hD
      have HE := Lib.hid hE
      have HF := Lib.hid hF
      clear hA hB hC hD hE hF hp1 hp2 hp3
      have e1 : (y1 == y1) = true := by simp
      have e2 : (b1 == b1) = true := by simp
      have e3 : (b2 == b2) = true := by simp
      have e4 : (b3 == b3) = true := by simp
      have e5 : (x2 == x2) = true := by simp
      have e6 : (y2 == y2) = true := by simp
      have e7 : (x3 == x3) = true := by simp
      have e8 : (y3 == y3) = true := by simp
      go_wp2_with (first
        | (go_at_call 14; refine (HA.out wr HR.out).mono ?_; rintro e w5 ⟨rfl, hb⟩; have h := HR.out.next hb; have v0 := h.pat.cell 0; have v1 := h.pat.cell 1; have v2 := h.pat.cell 2; have vl := h.pat.lt; have v3 := h.look.cell 1; have v4 := h.look.lt; have v5 := h.look.cell 2; have v6 := h.look.cell 3; have v7 := h.look.cell 4; have H5 := Lib.hid h; clear h hb)
        | (go_at_call 15; refine (HB.out w5 H5.out).mono ?_; rintro e w6 ⟨rfl, hb⟩; have h := H5.out.next hb; have v0 := h.pat.cell 0; have v1 := h.pat.cell 1; have v2 := h.pat.cell 2; have vl := h.pat.lt; have v3 := h.look.cell 1; have v4 := h.look.lt; have v5 := h.look.cell 2; have v6 := h.look.cell 3; have v7 := h.look.cell 4; have H6 := Lib.hid h; clear h hb)
        | (go_at_call 16; refine (HC.out w6 H6.out).mono ?_; rintro e w7 ⟨rfl, hb⟩; have h := H6.out.next hb; have ha : Below w7.heap.size w7 (w7.alloc (.cells #[.int .i64 x2, .int .i64 y2] 40)) := (Below.refl _ w7).alloc (Nat.le_refl _) _; have h' := h.next ha; have Rw7 := Lib.hid (show Row (w7.alloc (.cells #[.int .i64 x2, .int .i64 y2] 40)) w7.heap.size 40 [.int .i64 x2, .int .i64 y2] from row_new w7 [.int .i64 x2, .int .i64 y2] _); have v0 := h'.pat.cell 0; have v1 := h'.pat.cell 1; have v2 := h'.pat.cell 2; have vl := h'.pat.lt; have v3 := h'.look.cell 1; have v4 := h'.look.lt; have v5 := h'.look.cell 2; have v6 := h'.look.cell 3; have v7 := h'.look.cell 4; have H7 := Lib.hid h'; clear ha h' h hb)
        | (go_at_call 17; refine (HD.out (w7.alloc (.cells #[.int .i64 x2, .int .i64 y2] 40)) H7.out).mono ?_; rintro e w8 ⟨rfl, hb⟩; have h := H7.out.next hb; have Rw7 := Lib.hid (Rw7.out.keep hb Rw7.out.lt); have ha : Below w8.heap.size w8 (w8.alloc (.cells #[.int .i64 x2, .int .i64 y2] 40)) := (Below.refl _ w8).alloc (Nat.le_refl _) _; have h' := h.next ha; have Rw7 := Lib.hid (Rw7.out.keep ha Rw7.out.lt); have Rw8 := Lib.hid (show Row (w8.alloc (.cells #[.int .i64 x2, .int .i64 y2] 40)) w8.heap.size 40 [.int .i64 x2, .int .i64 y2] from row_new w8 [.int .i64 x2, .int .i64 y2] _); have v0 := h'.pat.cell 0; have v1 := h'.pat.cell 1; have v2 := h'.pat.cell 2; have vl := h'.pat.lt; have v3 := h'.look.cell 1; have v4 := h'.look.lt; have v5 := h'.look.cell 2; have v6 := h'.look.cell 3; have v7 := h'.look.cell 4; have H8 := Lib.hid h'; clear ha h' h hb)
        | (go_at_call 18; refine (HE.out (w8.alloc (.cells #[.int .i64 x2, .int .i64 y2] 40)) H8.out).mono ?_; rintro e w9 ⟨rfl, hb⟩; have h := H8.out.next hb; have Rw7 := Lib.hid (Rw7.out.keep hb Rw7.out.lt); have Rw8 := Lib.hid (Rw8.out.keep hb Rw8.out.lt); have ha : Below w9.heap.size w9 (w9.alloc (.cells #[.int .i64 x3, .int .i64 y3] 40)) := (Below.refl _ w9).alloc (Nat.le_refl _) _; have h' := h.next ha; have Rw7 := Lib.hid (Rw7.out.keep ha Rw7.out.lt); have Rw8 := Lib.hid (Rw8.out.keep ha Rw8.out.lt); have Rw9 := Lib.hid (show Row (w9.alloc (.cells #[.int .i64 x3, .int .i64 y3] 40)) w9.heap.size 40 [.int .i64 x3, .int .i64 y3] from row_new w9 [.int .i64 x3, .int .i64 y3] _); have v0 := h'.pat.cell 0; have v1 := h'.pat.cell 1; have v2 := h'.pat.cell 2; have vl := h'.pat.lt; have v3 := h'.look.cell 1; have v4 := h'.look.lt; have v5 := h'.look.cell 2; have v6 := h'.look.cell 3; have v7 := h'.look.cell 4; have H9 := Lib.hid h'; clear ha h' h hb)
        | (go_at_call 19; refine (HF.out (w9.alloc (.cells #[.int .i64 x3, .int .i64 y3] 40)) H9.out).mono ?_; rintro e w10 ⟨rfl, hb⟩; have h := H9.out.next hb; have Rw7 := Lib.hid (Rw7.out.keep hb Rw7.out.lt); have Rw8 := Lib.hid (Rw8.out.keep hb Rw8.out.lt); have Rw9 := Lib.hid (Rw9.out.keep hb Rw9.out.lt); have ha : Below w10.heap.size w10 (w10.alloc (.cells #[.int .i64 x3, .int .i64 y3] 40)) := (Below.refl _ w10).alloc (Nat.le_refl _) _; have h' := h.next ha; have Rw7 := Lib.hid (Rw7.out.keep ha Rw7.out.lt); have Rw8 := Lib.hid (Rw8.out.keep ha Rw8.out.lt); have Rw9 := Lib.hid (Rw9.out.keep ha Rw9.out.lt); have Rw10 := Lib.hid (show Row (w10.alloc (.cells #[.int .i64 x3, .int .i64 y3] 40)) w10.heap.size 40 [.int .i64 x3, .int .i64 y3] from row_new w10 [.int .i64 x3, .int .i64 y3] _); have v0 := h'.pat.cell 0; have v1 := h'.pat.cell 1; have v2 := h'.pat.cell 2; have vl := h'.pat.lt; have v3 := h'.look.cell 1; have v4 := h'.look.lt; have v5 := h'.look.cell 2; have v6 := h'.look.cell 3; have v7 := h'.look.cell 4; have H10 := Lib.hid h'; clear ha h' h hb; have aw70 := Rw7.out.cell 0; have aw71 := Rw7.out.cell 1; have aw7l := Rw7.out.lt; have aw80 := Rw8.out.cell 0; have aw81 := Rw8.out.cell 1; have aw8l := Rw8.out.lt; have aw90 := Rw9.out.cell 0; have aw91 := Rw9.out.cell 1; have aw9l := Rw9.out.lt; have aw100 := Rw10.out.cell 0; have aw101 := Rw10.out.cell 1; have aw10l := Rw10.out.lt)
        | (go_at_call 12; refine (worksC _ (HT.out.next H10.out.below)).mono ?_; rintro e w11 ⟨rfl, hb11⟩; have HBE := Lib.hid (H10.out.below.trans (hb11.mono H10.out.below.size)); clear hb11))
      go_ret
      exact ⟨rfl, HBE.out⟩
theorem items_len : ∀ (V : List Nat) (f i : Nat) (acc its : List Itm), itemsGo V f i acc = .inr its → its.length ≤ acc.length + f
  | V, 0, i, acc, its, h => by
    rw [itemsGo] at h
    simp only [Sum.inr.injEq] at h
    rw [← h]; exact Nat.le_refl _
  | V, f + 1, i, acc, its, h => by
    rw [itemsGo] at h
    split at h
    · simp only [Sum.inr.injEq] at h
      rw [← h]; omega
    · split at h
      · cases h
      · have := items_len V f _ _ _ h
        rw [List.length_append, List.length_singleton] at this
        omega
theorem seekMatches_walk (w : World) (l s : List UInt8) (i1 i2 i3 : Int) (hm : l.length ≤ 140737488351232) (hT : Tabs w) :
    Calls Tryd.prog 3 #[.agg #[.string (bstr l), .string (bstr s), .int .i64 i1, .int .i64 i2, .int .i64 i3]] w fun e w' => e = .returned (.bool true) ∧ Below w.heap.size w w' := by
  have hC := fun W (h : Below w.heap.size w W) => compileF W l (by omega) (hT.next h)
  have hR := fun W => compR6 W l (by omega)
  unfold CompF at hC
  unfold RComp at hR
  by_cases hbig : 256 < l.length
  · simp only [if_pos hbig] at hC hR
    refine matches_bad w l s i1 i2 i3 4 0 rfl hT (fun W h => (hC W h).mono ?_) (fun W => (hR W).mono ?_)
    · rintro e w' ⟨hb, g, rfl, _, hr⟩
      exact ⟨g, rfl, hb⟩
    · rintro e w' ⟨hb, rfl⟩
      exact ⟨rfl, hb⟩
  · simp only [if_neg hbig] at hC hR
    cases hI : itemsP (valsL l) with
    | inl b =>
      simp only [hI] at hC hR
      refine matches_bad w l s i1 i2 i3 60 ((atsL l).getD b 0 : Int) rfl hT (fun W h => (hC W h).mono ?_) (fun W => (hR W).mono ?_)
      · rintro e w' ⟨hb, g, rfl, _, hr⟩
        exact ⟨g, rfl, hb⟩
      · rintro e w' ⟨hb, rfl⟩
        exact ⟨rfl, hb⟩
    | inr its =>
      simp only [hI] at hC hR
      have hvl := vals_len l
      have hil := items_len _ _ _ _ _ hI
      rw [List.length_nil] at hil
      refine matches_good w l s i1 i2 i3 (foldedP (valsL l)) its hT (items_ok (vals_ok l) (by omega) hI) (by omega) (fun W h => (hC W h).mono ?_) (fun W => (hR W).mono ?_)
      · rintro e w' ⟨hb, g, rfl, _, hp⟩
        exact ⟨g, rfl, hp, hb⟩
      · rintro e w' ⟨hb, a, m, c, rfl, hi⟩
        exact ⟨a, m, c, rfl, hi, hb⟩
end Go.Proofs.YtchdeboialbdiaaDoor
/- What the row's list gives: the tables in the world. -/
namespace Go.Proofs.YtchdeboialbdiaaDoor
set_option linter.unusedVariables false
set_option linter.unusedSimpArgs false
open Go.Lib Go.RowKit
theorem tab_cells {w : World} {n : String} {k : IntKind} {zs : List Int} {d : DataW Unit} (hd0 : d = tabData k zs) (h : VarReads Tryd.prog w n d) {g : Nat} {t e : TypeId} {m : Nat} (hg : Tryd.prog.globalNamed n = some g) (hty : (Tryd.prog.globals[g]?).map (·.type) = some t)
    (ht : Tryd.prog.underlying t = some (.array m e)) (he : Tryd.prog.underlying e = some (.int k)) (hce : Tryd.prog.cellsOf e = 1) (hct : Tryd.prog.cellsOf t = m) : TabIs Tryd.prog w n k zs := by
  subst hd0
  obtain ⟨g', t', cs, fuel, p, hg', ht', hvar, hd⟩ := h
  obtain rfl := Option.some.inj (hg.symm.trans hg')
  obtain rfl := Option.some.inj (hty.symm.trans ht')
  unfold TabIs
  rw [hvar, ← cells_of_tab ht he hce hct hd]
theorem first_data : Rows.laid_unicode_utf8_first = tabData .u8 firstTab := by kernel_rfl
theorem accept_data : (Rows.laid_unicode_utf8_acceptRanges : DataW Unit) = acceptData := by kernel_rfl
theorem tabs_of {l : List (String × DataW Unit)} {w : World} (h : laidMet Tryd.prog l w) (m1 : ("unicode/utf8.first", Rows.laid_unicode_utf8_first) ∈ l) (m2 : ("unicode/utf8.acceptRanges", Rows.laid_unicode_utf8_acceptRanges) ∈ l) : Tabs w := by
  have t1 : TabIs Tryd.prog w "unicode/utf8.first" .u8 firstTab := tab_cells first_data (laidMet.reads h m1) (g := 2) (t := 189) (e := 5) (by kernel_rfl) (by kernel_rfl) Tryd.underlying189 Tryd.underlying5 (by kernel_rfl) (by kernel_rfl)
  have key : ∀ i, i < 16 → w.cell? ⟨3, 2 * i, none⟩ = some (.int .u8 (accLo i : Int)) ∧ w.cell? ⟨3, 2 * i + 1, none⟩ = some (.int .u8 (accHi i : Int)) := fun i hi => by
    have h4 := laidMet.reads h m2
    rw [accept_data] at h4
    obtain ⟨g, t, cs, fuel, p, hg, hty, hvar, hd⟩ := h4
    obtain rfl := Option.some.inj ((show Tryd.prog.globalNamed "unicode/utf8.acceptRanges" = some 3 by kernel_rfl).symm.trans hg)
    obtain rfl := Option.some.inj ((show (Tryd.prog.globals[3]?).map (·.type) = some 193 by kernel_rfl).symm.trans hty)
    have c138 : Tryd.prog.cellsOf 192 = 2 := by kernel_rfl
    have c5 : Tryd.prog.cellsOf 5 = 1 := by kernel_rfl
    obtain ⟨fuel', d, q, hdi, he⟩ := array_elem Tryd.underlying193 hd i hi
    simp only [List.getElem?_map, List.getElem?_range hi, Option.map_some, Option.some.injEq] at hdi
    subst hdi
    rw [c138] at he
    have hcs := ints_of_struct Tryd.underlying192 (fun j f hj => by
      match j, hj with
      | 0, hj => simp at hj; subst hj; exact ⟨Tryd.underlying5, rfl, c5⟩
      | 1, hj => simp at hj; subst hj; exact ⟨Tryd.underlying5, rfl, c5⟩
      | j + 2, hj => simp at hj) (by rw [c138]; rfl) he
    have e0 := congrArg (·[0]?) hcs
    have e1 := congrArg (·[1]?) hcs
    simp only [List.getElem?_take, List.getElem?_drop] at e0 e1
    constructor
    · rw [World.var?_cell hg hvar (2 * i), ← Array.getElem?_toList]
      simpa [Nat.mul_comm] using e0
    · rw [World.var?_cell hg hvar (2 * i + 1), ← Array.getElem?_toList]
      simpa [Nat.mul_comm] using e1
  refine ⟨⟨fun c hc => ?_, fun i hi => ?_⟩, ?_⟩
  · have := t1.cell (g := 2) (by kernel_rfl) c (by simpa [firstTab] using hc)
    rw [this]
    simp [firstTab, List.getD, hc]
  · exact key i hi
  · have := World.block_lt_of_cell? w _ (key 0 (by decide)).1
    exact this
end Go.Proofs.YtchdeboialbdiaaDoor
/- A Look that came in. -/
namespace Go.Proofs.YtchdeboialbdiaaDoor
set_option linter.unusedVariables false
set_option linter.unusedSimpArgs false
open Go.ChangeShapes Go.WideShapes Go.ChangeAt Go.RowKit Go.Deep
theorem look_cells : Tryd.prog.cellsOf 23 = 5 := by kernel_rfl
theorem look_fields : ∃ hf : Array Field, Tryd.prog.underlying 23 = some (.struct hf) ∧ hf.size = 5 ∧ hf[0]?.map (fun f => (f.offset, Tryd.prog.cellsOf f.type, Tryd.prog.underlying f.type)) = some (0, 1, some .string) ∧ hf[1]?.map (fun f => (f.offset, Tryd.prog.cellsOf f.type, Tryd.prog.underlying f.type)) = some (1, 1, some .string) ∧ hf[2]?.map (fun f => (f.offset, Tryd.prog.cellsOf f.type, Tryd.prog.underlying f.type)) = some (2, 1, some (.int .i64)) ∧ hf[3]?.map (fun f => (f.offset, Tryd.prog.cellsOf f.type, Tryd.prog.underlying f.type)) = some (3, 1, some (.int .i64)) ∧ hf[4]?.map (fun f => (f.offset, Tryd.prog.cellsOf f.type, Tryd.prog.underlying f.type)) = some (4, 1, some (.int .i64)) := by
  refine ⟨Tryd.prog.fieldsOf 23, by kernel_rfl, by kernel_rfl, by kernel_rfl, by kernel_rfl, by kernel_rfl, by kernel_rfl, by kernel_rfl⟩
theorem field_lk {o : Option Field} {P : Program} {a b : Nat} {c : Option TypeDesc} (h : o.map (fun f => (f.offset, P.cellsOf f.type, P.underlying f.type)) = some (a, b, c)) : ∃ f, o = some f ∧ f.offset = a ∧ P.cellsOf f.type = b ∧ P.underlying f.type = c := by
  cases o with
  | none => cases h
  | some f =>
    simp only [Option.map_some, Option.some.injEq, Prod.mk.injEq] at h
    exact ⟨f, rfl, h.1, h.2.1, h.2.2⟩
theorem drop_lk {cs : List Value} {k : Nat} (h : k < cs.length) : (cs.drop k).take 1 = [cs[k]] := by
  rw [List.drop_eq_getElem_cons h]; rfl
set_option maxRecDepth 100000 in
/-- a Look out of its cells -/
theorem open_look {H : Type} {enc : TypeId × Value → H} {W : World} {base : Nat} {spare : Nat → Bool} {held : Bool} {cs : Array Value} {d : DataW H} {ps : List MemPlace}
    (hd : DataW.Trod enc Tryd.prog W base spare held 23 (.agg cs) d ps) :
    ∃ (l s : List UInt8) (i1 i2 i3 : Int), cs = #[.string (bstr l), .string (bstr s), .int .i64 i1, .int .i64 i2, .int .i64 i3] ∧ l.length ∈ DataW.weights Tryd.prog 23 d := by
  rcases cs with ⟨cl⟩
  obtain ⟨fuel, h⟩ := hd
  change DataW.trod enc Tryd.prog W base spare held fuel 23 cl = some (d, ps) at h
  obtain ⟨hf, uf, fsz, s0, s1, s2, s3, s4⟩ := look_fields
  obtain ⟨ys, n, _, hx, hcl, hyl, hfd⟩ := DataW.trod_struct uf h
  rw [look_cells] at hcl
  rw [fsz] at hyl
  obtain ⟨f0, g0, o0, k0, u0⟩ := field_lk s0
  obtain ⟨f1, g1, o1, k1, u1⟩ := field_lk s1
  obtain ⟨f2, g2, o2, k2, u2⟩ := field_lk s2
  obtain ⟨f3, g3, o3, k3, u3⟩ := field_lk s3
  obtain ⟨f4, g4, o4, k4, u4⟩ := field_lk s4
  have t0 := hfd 0 f0 g0
  have t1 := hfd 1 f1 g1
  have t2 := hfd 2 f2 g2
  have t3 := hfd 3 f3 g3
  have t4 := hfd 4 f4 g4
  rw [o0, k0, drop_lk (by omega), List.getElem?_eq_getElem (by omega)] at t0
  rw [o1, k1, drop_lk (by omega), List.getElem?_eq_getElem (by omega)] at t1
  rw [o2, k2, drop_lk (by omega), List.getElem?_eq_getElem (by omega)] at t2
  rw [o3, k3, drop_lk (by omega), List.getElem?_eq_getElem (by omega)] at t3
  rw [o4, k4, drop_lk (by omega), List.getElem?_eq_getElem (by omega)] at t4
  obtain ⟨b0, e0, y0, _⟩ := DataW.trod_string u0 t0
  obtain ⟨b1, e1, y1, _⟩ := DataW.trod_string u1 t1
  obtain ⟨n2, e2, y2, _⟩ := DataW.trod_int u2 t2
  obtain ⟨n3, e3, y3, _⟩ := DataW.trod_int u3 t3
  obtain ⟨n4, e4, y4, _⟩ := DataW.trod_int u4 t4
  refine ⟨b0.data.toList, b1.data.toList, n2, n3, n4, ?_, ?_⟩
  · have q0 : bstr b0.data.toList = b0 := (bstr_of b0).symm
    have q1 : bstr b1.data.toList = b1 := (bstr_of b1).symm
    rw [q0, q1]
    match cl, hcl, e0, e1, e2, e3, e4 with
    | [c0, c1, c2, c3, c4], _, e0, e1, e2, e3, e4 =>
      obtain rfl : c0 = .string b0 := (List.cons.inj e0).1
      obtain rfl : c1 = .string b1 := (List.cons.inj e1).1
      obtain rfl : c2 = .int .i64 n2 := (List.cons.inj e2).1
      obtain rfl : c3 = .int .i64 n3 := (List.cons.inj e3).1
      obtain rfl : c4 = .int .i64 n4 := (List.cons.inj e4).1
      rfl
  · obtain ⟨rfl, _⟩ := Prod.mk.inj hx
    unfold DataW.weights
    rw [uf]
    refine DataW.weights_mem_each (j := 0) (t := f0.type) (d := (ys[0]'(by omega)).1) ?_ ?_ _ ?_
    · rw [List.getElem?_map, Array.getElem?_toList, g0]; rfl
    · rw [List.getElem?_map, List.getElem?_eq_getElem (by omega)]; rfl
    · rw [y0]; simp [DataW.weights]
end Go.Proofs.YtchdeboialbdiaaDoor
