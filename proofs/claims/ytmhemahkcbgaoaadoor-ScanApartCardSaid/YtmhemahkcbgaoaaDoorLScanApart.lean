/- ScanApart: a line and another one, a blank between. -/
import Derived.Test.YtmhemahkcbgaoaaDoorApartG
namespace Go.Proofs.YtmhemahkcbgaoaaDoor
set_option linter.unusedVariables false
set_option linter.unusedSimpArgs false
open Go.RowKit
open Go.Lib hiding intOf
theorem isFault_yes (w : World) (err : Value) (c p : Nat) (ci : Int) (hci : ci = (c : Int)) (h : ErrIs w (.error (c, p)) err) (hE : ErrT w) :
    Calls Tryd.prog 21 #[err, .int .i64 ci, .int .i64 (p : Int)] w fun ev w' => ev = .returned (.bool true) ∧ Below w.heap.size w w' := by
  subst hci
  exact isFault_same w (.error (c, p)) err h hE
set_option maxHeartbeats 4000000 in
set_option maxRecDepth 100000 in
theorem apartW_long (w : World) (A B : List UInt8) (hA : A.length ≤ 140737488351232) (hB : B.length ≤ 140737488351232) (hT : Tabs w) (hE : ErrT w) (hl : 16384 < A.length + 1 + B.length) : ApartSaid w A B := by
  obtain ⟨C, hC2⟩ : ∃ C, A ++ 32 :: B = C := ⟨_, rfl⟩
  obtain ⟨D, hD⟩ : ∃ D, A ++ [32] = D := ⟨_, rfl⟩
  have hC : D ++ B = C := by rw [← hD, ← hC2]; simp
  have hCl : C.length = A.length + 1 + B.length := by rw [← hC2, List.length_append, List.length_cons]; omega
  have hDl : D.length = A.length + 1 := by rw [← hD, List.length_append]; rfl
  have h1 := scanC2 w A (by omega) hT
  have h2 := fun w1 (h : Tabs w1) => scanC2 w1 B (by omega) h
  have h3 := fun w1 (h : Tabs w1) => scanC2_long w1 C (by omega) (by omega)
  have H1 := Lib.hid h1
  have H2 := Lib.hid h2
  have H3 := Lib.hid h3
  have HT := Lib.hid hT
  have HE := Lib.hid hE
  have q1 : ¬ 9223372036854775807 < A.length + ([32] : List UInt8).length := by simp; omega
  have q2 : ¬ 9223372036854775807 < D.length + B.length := by omega
  have hsA := bstr_size A
  have hsB := bstr_size B
  clear hT hE h1 h2 h3 hC2 hCl hDl
  unfold ApartSaid
  go_enter Tryd.func8, Tryd.ntmps8
  go_upto_region 2 with (go_at_call 18; refine (H1.out).mono ?_; rintro e w1 ⟨v1, err1, rfl, hb1, hO1, hI1⟩)
  have HB1 := Lib.hid hb1
  have HO1 := Lib.hid hO1
  have HI1 := Lib.hid hI1
  clear hb1 hO1 hI1
  go_upto_region 3 with (go_at_call 18; refine (H2.out _ (HT.out.next HB1.out)).mono ?_; rintro e w2 ⟨v2, err2, rfl, hb2, hO2, hI2⟩)
  have HB12 := Lib.hid hb2
  have HB2 : Hid (Below w.heap.size w w2) := Lib.hid (HB1.out.trans (hb2.mono HB1.out.size))
  have HO2 := Lib.hid hO2
  have HI2 := Lib.hid hI2
  clear hb2 hO2 hI2
  have hcat : ({ data := #[32] } : ByteArray) = bstr [32] := rfl
  go_upto_region 4 with (go_at_call 18; refine (H3.out _ (HT.out.next HB2.out)).mono ?_; rintro e w3 ⟨v3, err3, rfl, hb3, hO3, hI3⟩)
  have HB23 := Lib.hid hb3
  have HB3 : Hid (Below w.heap.size w w3) := Lib.hid (HB2.out.trans (hb3.mono HB2.out.size))
  have HF := Lib.hid (isFault_yes w3 err3 4 0 4 rfl hI3 (HE.out.next HB3.out))
  clear hb3 hI3 hO3
  go_wp2_with (first
    | (go_at_call 21; refine (HF.out).mono ?_; rintro e w4 ⟨rfl, hb4⟩; have HB4 : Hid (Below w.heap.size w w4) := Lib.hid (HB3.out.trans (hb4.mono HB3.out.size)); have HW := Lib.hid (worksC w4 (HT.out.next HB4.out)))
    | (go_at_call 13; refine (HW.out).mono ?_; rintro e w5 ⟨rfl, hb5⟩))
  go_ret
  exact ⟨rfl, HB4.out.trans (hb5.mono HB4.out.size)⟩
set_option maxHeartbeats 4000000 in
set_option maxRecDepth 100000 in
theorem apartW_quote (w : World) (A B : List UInt8) (hA : A.length ≤ 140737488351232) (hB : B.length ≤ 140737488351232) (hT : Tabs w) (hE : ErrT w) (hl : A.length + 1 + B.length ≤ 16384) (hr1 : scanOf A = .error (71, A.length)) : ApartSaid w A B := by
  obtain ⟨C, hC2⟩ : ∃ C, A ++ 32 :: B = C := ⟨_, rfl⟩
  obtain ⟨D, hD⟩ : ∃ D, A ++ [32] = D := ⟨_, rfl⟩
  have hC : D ++ B = C := by rw [← hD, ← hC2]; simp
  have hCl : C.length = A.length + 1 + B.length := by rw [← hC2, List.length_append, List.length_cons]; omega
  have hDl : D.length = A.length + 1 := by rw [← hD, List.length_append]; rfl
  have h1 := scanC2 w A (by omega) hT
  have h2 := fun w1 (h : Tabs w1) => scanC2 w1 B (by omega) h
  have h3 := fun w1 (h : Tabs w1) => scanC2 w1 C (by omega) h
  rw [hr1] at h1
  have H1 := Lib.hid h1
  have H2 := Lib.hid h2
  have H3 := Lib.hid h3
  have HT := Lib.hid hT
  have HE := Lib.hid hE
  have q1 : ¬ 9223372036854775807 < A.length + ([32] : List UInt8).length := by simp; omega
  have q2 : ¬ 9223372036854775807 < D.length + B.length := by omega
  have hsA := bstr_size A
  have hsB := bstr_size B
  clear hT hE h1 h2 h3 hC2 hCl hDl
  unfold ApartSaid
  go_enter Tryd.func8, Tryd.ntmps8
  go_upto_region 2 with (go_at_call 18; refine (H1.out).mono ?_; rintro e w1 ⟨v1, err1, rfl, hb1, hO1, hI1⟩)
  have HB1 := Lib.hid hb1
  have HO1 := Lib.hid hO1
  have HI1 := Lib.hid hI1
  clear hb1 hO1 hI1
  go_upto_region 3 with (go_at_call 18; refine (H2.out _ (HT.out.next HB1.out)).mono ?_; rintro e w2 ⟨v2, err2, rfl, hb2, hO2, hI2⟩)
  have HB12 := Lib.hid hb2
  have HB2 : Hid (Below w.heap.size w w2) := Lib.hid (HB1.out.trans (hb2.mono HB1.out.size))
  have HO2 := Lib.hid hO2
  have HI2 := Lib.hid hI2
  clear hb2 hO2 hI2
  have hcat : ({ data := #[32] } : ByteArray) = bstr [32] := rfl
  go_upto_region 4 with (go_at_call 18; refine (H3.out _ (HT.out.next HB2.out)).mono ?_; rintro e w3 ⟨v3, err3, rfl, hb3, hO3, hI3⟩)
  have HB23 := Lib.hid hb3
  have HB3 : Hid (Below w.heap.size w w3) := Lib.hid (HB2.out.trans (hb3.mono HB2.out.size))
  have HF := Lib.hid (isFault_yes w3 _ 71 A.length 71 rfl (HI1.out.next (HB12.out.trans (HB23.out.mono HB12.out.size))) (HE.out.next HB3.out))
  clear hb3 hI3 hO3
  go_wp2_with (first
    | (go_at_call 21; refine (HF.out).mono ?_; rintro e w4 ⟨rfl, hb4⟩; have HB4 : Hid (Below w.heap.size w w4) := Lib.hid (HB3.out.trans (hb4.mono HB3.out.size)); have HW := Lib.hid (worksC w4 (HT.out.next HB4.out)))
    | (go_at_call 13; refine (HW.out).mono ?_; rintro e w5 ⟨rfl, hb5⟩))
  go_ret
  exact ⟨rfl, HB4.out.trans (hb5.mono HB4.out.size)⟩
set_option maxHeartbeats 4000000 in
set_option maxRecDepth 100000 in
theorem apartW_first (w : World) (A B : List UInt8) (hA : A.length ≤ 140737488351232) (hB : B.length ≤ 140737488351232) (hT : Tabs w) (hE : ErrT w) (hl : A.length + 1 + B.length ≤ 16384) (c p : Nat) (hr1 : scanOf A = .error (c, p)) (hne : (Except.error (c, p) : Except (Nat × Nat) (List Tok)) ≠ .error (71, A.length)) (c3 p3 : Nat) (hr3 : scanOf (A ++ 32 :: B) = .error (c3, p3)) : ApartSaid w A B := by
  obtain ⟨C, hC2⟩ : ∃ C, A ++ 32 :: B = C := ⟨_, rfl⟩
  obtain ⟨D, hD⟩ : ∃ D, A ++ [32] = D := ⟨_, rfl⟩
  have hC : D ++ B = C := by rw [← hD, ← hC2]; simp
  have hCl : C.length = A.length + 1 + B.length := by rw [← hC2, List.length_append, List.length_cons]; omega
  have hDl : D.length = A.length + 1 := by rw [← hD, List.length_append]; rfl
  have h1 := scanC2 w A (by omega) hT
  have h2 := fun w1 (h : Tabs w1) => scanC2 w1 B (by omega) h
  have h3 := fun w1 (h : Tabs w1) => scanC2 w1 C (by omega) h
  rw [hC2] at hr3
  rw [hr1] at h1
  rw [hr3] at h3
  have H1 := Lib.hid h1
  have H2 := Lib.hid h2
  have H3 := Lib.hid h3
  have HT := Lib.hid hT
  have HE := Lib.hid hE
  have q1 : ¬ 9223372036854775807 < A.length + ([32] : List UInt8).length := by simp; omega
  have q2 : ¬ 9223372036854775807 < D.length + B.length := by omega
  have hsA := bstr_size A
  have hsB := bstr_size B
  clear hT hE h1 h2 h3 hC2 hCl hDl
  unfold ApartSaid
  go_enter Tryd.func8, Tryd.ntmps8
  go_upto_region 2 with (go_at_call 18; refine (H1.out).mono ?_; rintro e w1 ⟨v1, err1, rfl, hb1, hO1, hI1⟩)
  have HB1 := Lib.hid hb1
  have HO1 := Lib.hid hO1
  have HI1 := Lib.hid hI1
  clear hb1 hO1 hI1
  go_upto_region 3 with (go_at_call 18; refine (H2.out _ (HT.out.next HB1.out)).mono ?_; rintro e w2 ⟨v2, err2, rfl, hb2, hO2, hI2⟩)
  have HB12 := Lib.hid hb2
  have HB2 : Hid (Below w.heap.size w w2) := Lib.hid (HB1.out.trans (hb2.mono HB1.out.size))
  have HO2 := Lib.hid hO2
  have HI2 := Lib.hid hI2
  clear hb2 hO2 hI2
  have hcat : ({ data := #[32] } : ByteArray) = bstr [32] := rfl
  go_upto_region 4 with (go_at_call 18; refine (H3.out _ (HT.out.next HB2.out)).mono ?_; rintro e w3 ⟨v3, err3, rfl, hb3, hO3, hI3⟩)
  have HB23 := Lib.hid hb3
  have HB3 : Hid (Below w.heap.size w w3) := Lib.hid (HB2.out.trans (hb3.mono HB2.out.size))
  have HF := Lib.hid (isFault_no w3 _ _ (HI1.out.next (HB12.out.trans (HB23.out.mono HB12.out.size))) (HE.out.next HB3.out) 71 A.length 71 rfl (by decide) hne)
  have hI3 : ErrIs w3 (.error (c3, p3)) err3 := hI3
  have hO3 : OwnT w2.heap.size v3 [] w3 := hO3
  obtain ⟨a3, cc3, hv3, _, _, _⟩ := readsT_own hO3
  change v3 = .slice a3 0 cc3 at hv3
  subst hv3
  obtain ⟨_, g3, rfl, _⟩ := hI3
  clear hO3 hb3
  obtain ⟨_, g1, he1, _⟩ := HI1.out
  subst he1
  go_wp2_with (first
    | (go_at_call 21; refine (HF.out).mono ?_; rintro e w4 ⟨rfl, hb4⟩; have HB4 : Hid (Below w.heap.size w w4) := Lib.hid (HB3.out.trans (hb4.mono HB3.out.size)); have HW := Lib.hid (worksC w4 (HT.out.next HB4.out)))
    | (go_at_call 13; refine (HW.out).mono ?_; rintro e w5 ⟨rfl, hb5⟩))
  go_ret
  exact ⟨rfl, HB4.out.trans (hb5.mono HB4.out.size)⟩
set_option maxHeartbeats 4000000 in
set_option maxRecDepth 100000 in
theorem apartW_second (w : World) (A B : List UInt8) (hA : A.length ≤ 140737488351232) (hB : B.length ≤ 140737488351232) (hT : Tabs w) (hE : ErrT w) (hl : A.length + 1 + B.length ≤ 16384) (L : List Tok) (hr1 : scanOf A = .ok L) (c p : Nat) (hr2 : scanOf B = .error (c, p)) (c3 p3 : Nat) (hr3 : scanOf (A ++ 32 :: B) = .error (c3, p3)) : ApartSaid w A B := by
  obtain ⟨C, hC2⟩ : ∃ C, A ++ 32 :: B = C := ⟨_, rfl⟩
  obtain ⟨D, hD⟩ : ∃ D, A ++ [32] = D := ⟨_, rfl⟩
  have hC : D ++ B = C := by rw [← hD, ← hC2]; simp
  have hCl : C.length = A.length + 1 + B.length := by rw [← hC2, List.length_append, List.length_cons]; omega
  have hDl : D.length = A.length + 1 := by rw [← hD, List.length_append]; rfl
  have h1 := scanC2 w A (by omega) hT
  have h2 := fun w1 (h : Tabs w1) => scanC2 w1 B (by omega) h
  have h3 := fun w1 (h : Tabs w1) => scanC2 w1 C (by omega) h
  have hne : (Except.ok L : Except (Nat × Nat) (List Tok)) ≠ .error (71, A.length) := by intro h; cases h
  rw [hC2] at hr3
  rw [hr1] at h1
  rw [hr2] at h2
  rw [hr3] at h3
  have H1 := Lib.hid h1
  have H2 := Lib.hid h2
  have H3 := Lib.hid h3
  have HT := Lib.hid hT
  have HE := Lib.hid hE
  have q1 : ¬ 9223372036854775807 < A.length + ([32] : List UInt8).length := by simp; omega
  have q2 : ¬ 9223372036854775807 < D.length + B.length := by omega
  have hsA := bstr_size A
  have hsB := bstr_size B
  clear hT hE h1 h2 h3 hC2 hCl hDl
  unfold ApartSaid
  go_enter Tryd.func8, Tryd.ntmps8
  go_upto_region 2 with (go_at_call 18; refine (H1.out).mono ?_; rintro e w1 ⟨v1, err1, rfl, hb1, hO1, hI1⟩)
  have HB1 := Lib.hid hb1
  have HO1 := Lib.hid hO1
  have HI1 := Lib.hid hI1
  clear hb1 hO1 hI1
  go_upto_region 3 with (go_at_call 18; refine (H2.out _ (HT.out.next HB1.out)).mono ?_; rintro e w2 ⟨v2, err2, rfl, hb2, hO2, hI2⟩)
  have HB12 := Lib.hid hb2
  have HB2 : Hid (Below w.heap.size w w2) := Lib.hid (HB1.out.trans (hb2.mono HB1.out.size))
  have HO2 := Lib.hid hO2
  have HI2 := Lib.hid hI2
  clear hb2 hO2 hI2
  have hcat : ({ data := #[32] } : ByteArray) = bstr [32] := rfl
  go_upto_region 4 with (go_at_call 18; refine (H3.out _ (HT.out.next HB2.out)).mono ?_; rintro e w3 ⟨v3, err3, rfl, hb3, hO3, hI3⟩)
  have HB23 := Lib.hid hb3
  have HB3 : Hid (Below w.heap.size w w3) := Lib.hid (HB2.out.trans (hb3.mono HB2.out.size))
  have HF := Lib.hid (isFault_no w3 _ _ (HI1.out.next (HB12.out.trans (HB23.out.mono HB12.out.size))) (HE.out.next HB3.out) 71 A.length 71 rfl (by decide) hne)
  have hI3 : ErrIs w3 (.error (c3, p3)) err3 := hI3
  have hO3 : OwnT w2.heap.size v3 [] w3 := hO3
  obtain ⟨a3, cc3, hv3, _, _, _⟩ := readsT_own hO3
  change v3 = .slice a3 0 cc3 at hv3
  subst hv3
  obtain ⟨_, g3, rfl, _⟩ := hI3
  clear hO3 hb3
  obtain ⟨_, g2, he2, _⟩ := HI2.out
  subst he2
  have he1 : err1 = .nilIface := HI1.out
  subst he1
  go_wp2_with (first
    | (go_at_call 21; refine (HF.out).mono ?_; rintro e w4 ⟨rfl, hb4⟩; have HB4 : Hid (Below w.heap.size w w4) := Lib.hid (HB3.out.trans (hb4.mono HB3.out.size)); have HW := Lib.hid (worksC w4 (HT.out.next HB4.out)))
    | (go_at_call 13; refine (HW.out).mono ?_; rintro e w5 ⟨rfl, hb5⟩))
  go_ret
  exact ⟨rfl, HB4.out.trans (hb5.mono HB4.out.size)⟩
theorem scanApart_walk (w : World) (A : List UInt8) (hA : A.length ≤ 140737488351232) (B : List UInt8) (hB : B.length ≤ 140737488351232) (hT : Tabs w) (hE : ErrT w) : ApartSaid w A B := by
  by_cases hl : 16384 < A.length + 1 + B.length
  · exact apartW_long w A B hA hB hT hE hl
  have hl : A.length + 1 + B.length ≤ 16384 := by omega
  cases h1 : scanOf A with
  | error e =>
    by_cases hne : e = (71, A.length)
    · subst hne; exact apartW_quote w A B hA hB hT hE hl h1
    · obtain ⟨e', h3⟩ := apart_first hl h1 hne
      exact apartW_first w A B hA hB hT hE hl e.1 e.2 h1 (fun h => hne (by injection h)) e'.1 e'.2 h3
  | ok L =>
    cases h2 : scanOf B with
    | error e =>
      obtain ⟨e', h3⟩ := apart_second hl h1 h2
      exact apartW_second w A B hA hB hT hE hl L h1 e.1 e.2 h2 e'.1 e'.2 h3
    | ok M => exact apart_good w A B hA hB hT hE hl L M h1 h2
end Go.Proofs.YtmhemahkcbgaoaaDoor
