/- Texts joined, one behind the other (DCheckR, DFit, DChg, DChgE, DChgO). -/
import Derived.Test.YtnbihjocdlpplaaGreatDoorKq08
/- May a patch be: by the reference. -/
namespace Go.Proofs.YtnbihjocdlpplaaGreatDoor
set_option linter.unusedVariables false
set_option linter.unusedSimpArgs false
open Go.RowKit
open Go.Lib
/-- the kind of the hunk ahead of place i -/
def WasAt (X : List HkI) (i : Nat) (was : Int) : Prop := (i = 0 ∧ was = 0) ∨ ∃ i' y, i = i' + 1 ∧ X[i']? = some y ∧ y.1 = was
theorem not_err (b : Bool) : (errP b == 0) = b := by cases b <;> rfl
set_option maxHeartbeats 8000000 in
set_option maxRecDepth 100000 in
theorem checkR (w : World) (a : Option Addr) (n c : Nat) (X : List HkI) (hX : ReadsK w a n X) (hF : Fit X) :
    Calls Tryz.prog 26 #[.slice a n c] w fun e w' => e = .returned (.int .i64 (errP (checkB X))) ∧ Below w.heap.size w w' := by
  have HX := Lib.hid hX
  have HN := Lib.hid hX.len
  have HF := Lib.hid hF
  have hn : n ≤ 16777216 := by rw [← hX.len]; exact hF.1
  clear hX hF
  go_enter Tryz.func26, Tryz.ntmps26
  go_wp2
  go_loopw [3] (fun ui wr => ∃ (i : Nat) (was : Int), ui = .int .i64 (i : Int) ∧ i ≤ n ∧ Hid (WasAt X i was ∧ okB 0 X = okB was (X.drop i) ∧ Below w.heap.size w wr)) (fun ui _ => n - (RowKit.intOf ui).toNat)
  case atStart => exact ⟨0, 0, rfl, Nat.zero_le _, Lib.hid ⟨.inl ⟨rfl, rfl⟩, rfl, Below.refl _ _⟩⟩
  case round =>
    obtain ⟨i, was, rfl, hi, HR⟩ := hrel
    have hwb := HR.out.2.2.size
    by_cases hlt : i < n
    · have HXR := HX.out.keep HR.out.2.2 (Nat.le_refl _)
      obtain ⟨b, off, x, ad, m, cm, rfl, hb, hx, hc0, hc1, hrs, hmc, hcm, hm⟩ := HXR.at hlt
      have HO := Lib.hid (okB_drop (was := was) hx)
      have HA := Lib.hid (@okAtB_iff was x)
      have HX2 := Lib.hid hx
      obtain ⟨kd, hkd⟩ : ∃ kd, kd = x.1 := ⟨_, rfl⟩
      have HKD := Lib.hid hkd
      have hm0 : x.2 = [] ↔ m = 0 := by rw [← hm]; exact ⟨fun h => by rw [h]; rfl, List.eq_nil_of_length_eq_zero⟩
      have HM0 := Lib.hid hm0
      rw [← hkd] at hc0 HO HA
      have hit : (i : Int) < (n : Int) := by omega
      have hfalse : okAtB was x = false → errP (checkB X) = 310 := fun h => by
        unfold checkB
        rw [HR.out.2.1, HO.out, h]
        rfl
      have HFL := Lib.hid hfalse
      clear hx hrs hm hmc hcm hkd hm0 hfalse
      by_cases h1 : kd < 1
      · have hR : Hid (errP (checkB X) = 310) := Lib.hid (HFL.out (by rw [Bool.eq_false_iff]; intro h; have := HA.out.1 h; omega))
        clear HXR
        go_wp2
        go_ret
        exact ⟨by rw [hR.out]; rfl, HR.out.2.2⟩
      have h1' : 1 ≤ kd := by omega
      by_cases h2 : 3 < kd
      · have hR : Hid (errP (checkB X) = 310) := Lib.hid (HFL.out (by rw [Bool.eq_false_iff]; intro h; have := HA.out.1 h; omega))
        clear HXR
        go_wp2
        go_ret
        exact ⟨by rw [hR.out]; rfl, HR.out.2.2⟩
      have h2' : kd ≤ 3 := by omega
      by_cases h3 : m = 0
      · have hR : Hid (errP (checkB X) = 310) := Lib.hid (HFL.out (by rw [Bool.eq_false_iff]; intro h; exact (HA.out.1 h).2.1 (HM0.out.2 h3)))
        subst h3
        clear HXR
        go_wp2
        go_ret
        exact ⟨by rw [hR.out]; rfl, HR.out.2.2⟩
      have h3' : ((m : Int) == 0) = false := by rw [beq_eq_false_iff_ne]; omega
      have h3'' : (m : Int) ≠ 0 := by omega
      by_cases h4 : kd = was
      · have hR : Hid (errP (checkB X) = 310) := Lib.hid (HFL.out (by rw [Bool.eq_false_iff]; intro h; exact (HA.out.1 h).2.2.1 h4))
        rcases HR.out.1 with ⟨_, e0⟩ | ⟨i', y, hi', hy, hyw⟩
        · omega
        · obtain ⟨b2, o2, y2, ad2, m2, cm2, ea2, _, hy2, hd0, _, _, _, _, _⟩ := HXR.at (i := i') (by omega)
          cases ea2
          rw [hy] at hy2
          cases hy2
          rw [hyw] at hd0
          have hw : IntKind.i64.wrap ((i : Int) - 1) = (i' : Int) := by rw [show (i : Int) - 1 = (i' : Int) by omega]; exact IntWalk.i64_in _ (by omega)
          have hb' : (i' : Int) < (n : Int) := by omega
          have h0i : 0 < (i : Int) := by omega
          have h0n : 0 < i := by omega
          have h4' : (kd == was) = true := by rw [beq_iff_eq]; exact h4
          have HI := Lib.hid hi'
          clear h4 HXR hy hyw hi'
          go_wp2
          go_quiet (fail)
          go_wp2
          go_ret
          exact ⟨by rw [hR.out]; rfl, below_drewN HR.out.2.2 _⟩
      have h4' : (kd == was) = false := by rw [beq_eq_false_iff_ne]; exact h4
      by_cases h5 : kd = 2 ∧ was = 3
      · have hR : Hid (errP (checkB X) = 310) := Lib.hid (HFL.out (by rw [Bool.eq_false_iff]; intro h; exact (HA.out.1 h).2.2.2 h5))
        obtain ⟨e5, e6⟩ := h5
        rcases HR.out.1 with ⟨_, e0⟩ | ⟨i', y, hi', hy, hyw⟩
        · omega
        · obtain ⟨b2, o2, y2, ad2, m2, cm2, ea2, _, hy2, hd0, _, _, _, _, _⟩ := HXR.at (i := i') (by omega)
          cases ea2
          rw [hy] at hy2
          cases hy2
          rw [hyw] at hd0
          have hw : IntKind.i64.wrap ((i : Int) - 1) = (i' : Int) := by rw [show (i : Int) - 1 = (i' : Int) by omega]; exact IntWalk.i64_in _ (by omega)
          have hb' : (i' : Int) < (n : Int) := by omega
          have h0i : 0 < (i : Int) := by omega
          have h0n : 0 < i := by omega
          have HI := Lib.hid hi'
          clear h4 HXR hy hyw hi'
          subst e5 e6
          go_wp2
          go_quiet (fail)
          go_wp2
          go_ret
          exact ⟨by rw [hR.out]; rfl, below_drewN HR.out.2.2 _⟩
      have hok : okAtB was x = true := HA.out.2 ⟨⟨h1', h2'⟩, fun e => h3 (HM0.out.1 e), h4, h5⟩
      have HN2 : Hid (okB 0 X = okB x.1 (X.drop (i + 1))) := Lib.hid (by rw [HR.out.2.1, HO.out, hok, HKD.out]; rfl)
      have HNW : Hid (WasAt X (i + 1) x.1) := Lib.hid (.inr ⟨i, x, rfl, HX2.out, rfl⟩)
      have h6 : ((kd == 2) = true ∧ (was == 3) = false) ∨ (kd == 2) = false := by
        by_cases e : kd = 2
        · exact .inl ⟨by rw [e]; rfl, by rw [beq_eq_false_iff_ne]; exact fun e2 => h5 ⟨e, e2⟩⟩
        · exact .inr (by rw [beq_eq_false_iff_ne]; exact e)
      rcases HR.out.1 with ⟨e0, e1⟩ | ⟨i', y, hi', hy, hyw⟩
      · have hi0 : ¬ 0 < i := by omega
        have HE0 := Lib.hid e0
        clear h4 h5 hok h1 h2 h3 HXR h6 e0
        go_wp2
        go_quiet (fail)
        go_wp2
        go_roundw
        case rel => exact ⟨i + 1, x.1, by go_num, hlt, Lib.hid ⟨HNW.out, HN2.out, below_drewN HR.out.2.2 _⟩⟩
        case measure => simp [RowKit.intOf]; omega
      · obtain ⟨b2, o2, y2, ad2, m2, cm2, ea2, _, hy2, hd0, _, _, _, _, _⟩ := HXR.at (i := i') (by omega)
        cases ea2
        rw [hy] at hy2
        cases hy2
        rw [hyw] at hd0
        have hw : IntKind.i64.wrap ((i : Int) - 1) = (i' : Int) := by rw [show (i : Int) - 1 = (i' : Int) by omega]; exact IntWalk.i64_in _ (by omega)
        have hb' : (i' : Int) < (n : Int) := by omega
        have h0i : 0 < (i : Int) := by omega
        have h0n : 0 < i := by omega
        have HI := Lib.hid hi'
        clear h4 h5 hok h1 h2 h3 HXR hy hyw hi'
        rcases h6 with ⟨q1, q2⟩ | q1
        all_goals
          go_wp2
          go_quiet (fail)
          go_wp2
          go_roundw
          case rel => exact ⟨i + 1, x.1, by go_num, hlt, Lib.hid ⟨HNW.out, HN2.out, below_drewN HR.out.2.2 _⟩⟩
          case measure => simp [RowKit.intOf]; omega
    · obtain rfl : i = n := by omega
      have hd : X.drop i = [] := List.drop_of_length_le (by rw [HN.out]; exact Nat.le_refl _)
      have hck : checkB X = (wholeB (sideI 2 X) && wholeB (sideI 3 X)) := by
        unfold checkB
        rw [HR.out.2.1, hd]
        simp [okB]
      obtain ⟨A, hA⟩ : ∃ A, A = sideI 2 X := ⟨_, rfl⟩
      obtain ⟨C, hC⟩ : ∃ C, C = sideI 3 X := ⟨_, rfl⟩
      have lA : A.flatten.length ≤ 67108864 := by rw [hA]; exact Nat.le_trans (sideI_bytes _ _) HF.out.2.2
      have lC : C.flatten.length ≤ 67108864 := by rw [hC]; exact Nat.le_trans (sideI_bytes _ _) HF.out.2.2
      rw [← hA, ← hC] at hck
      have HXR : Hid (ReadsK wr a i X) := Lib.hid (HX.out.keep HR.out.2.2 (Nat.le_refl _))
      have hwA : wholeB A = (decide (A.length ≤ 512) && (splitD A.flatten == A)) := rfl
      have hwC : wholeB C = (decide (C.length ≤ 512) && (splitD C.flatten == C)) := rfl
      rw [hwA, hwC] at hck
      have HCK := Lib.hid hck
      have HEA := Lib.hid hA
      have HEC := Lib.hid hC
      have HLA := Lib.hid lA
      have HLC := Lib.hid lC
      clear hd hck hA hC hwA hwC lA lC
      go_upto_region 9 with (first
        | (go_at_call_of 64 (Value.int .i64 2); refine (sideR wr a i c X 2 HXR.out (by omega) (by have := HF.out.2.1; omega)).mono ?_; rintro e w1 ⟨v1, rfl, hO1, hb1⟩; rw [← HEA.out] at hO1; obtain ⟨a1, c1, rfl, hr1, hc1, hm1⟩ := readsS_own hO1; have HR1 := Lib.hid hr1; have HC1 := Lib.hid hc1; have HM1 := Lib.hid hm1; have HB1 := Lib.hid hb1; clear hO1 hb1 hr1 hc1 hm1; obtain ⟨n1, hn1⟩ : ∃ n1, n1 = A.length := ⟨_, rfl⟩; rw [← hn1] at HR1 HC1 HCK ⊢; clear hn1)
        | (go_at_call_of 64 (Value.int .i64 3); refine (sideR w1 a i c X 3 (HXR.out.keep HB1.out (Nat.le_refl _)) (by omega) (by have := HF.out.2.1; omega)).mono ?_; rintro e w3 ⟨v3, rfl, hO3, hb3⟩; rw [← HEC.out] at hO3; obtain ⟨a3, c3, rfl, hr3, hc3, hm3⟩ := readsS_own hO3; have HR3 := Lib.hid hr3; have HC3 := Lib.hid hc3; have HM3 := Lib.hid hm3; have HB3 := Lib.hid (HB1.out.trans (hb3.mono HB1.out.size)); have HR13 := Lib.hid (HR1.out.keep hb3 (Nat.le_refl _)); clear hO3 hb3 hr3 hc3 hm3; obtain ⟨n3, hn3⟩ : ∃ n3, n3 = C.length := ⟨_, rfl⟩; rw [← hn3] at HR3 HC3 HCK ⊢; clear hn3))
      have HBW : Hid (Below w.heap.size w w3) := Lib.hid (HR.out.2.2.trans (HB3.out.mono hwb))
      have hw3 := HBW.out.size
      by_cases l1 : 512 < n1
      · rw [decide_eq_false (show ¬ n1 ≤ 512 by omega)] at HCK
        have l1' : (512 : Int) < (n1 : Int) := by omega
        go_wp2
        go_ret
        exact ⟨by rw [HCK.out]; rfl, HBW.out⟩
      have l1' : (n1 : Int) ≤ 512 := by omega
      by_cases l3 : 512 < n3
      · rw [decide_eq_false (show ¬ n3 ≤ 512 by omega)] at HCK
        have l3' : (512 : Int) < (n3 : Int) := by omega
        go_wp2
        go_ret
        exact ⟨by rw [HCK.out]; simp [errP], HBW.out⟩
      have l3' : (n3 : Int) ≤ 512 := by omega
      rw [decide_eq_true (show n1 ≤ 512 by omega), decide_eq_true (show n3 ≤ 512 by omega), Bool.true_and, Bool.true_and] at HCK
      by_cases g1 : (splitD A.flatten == A) = true
      · by_cases g3 : (splitD C.flatten == C) = true
        all_goals try rw [Bool.not_eq_true] at g3
        all_goals
          rw [g1, g3] at HCK
          have HG1 := Lib.hid g1
          have HG3 := Lib.hid g3
          clear g1 g3
          go_wp2_with (first
            | (go_at_call_of 65 (Value.slice a1 n1 c1); refine (joinR w3 a1 n1 c1 A HR13.out (by omega) (Nat.le_trans HLA.out (by omega))).mono ?_; rintro e w4 ⟨rfl, hb4⟩; have HB4 := Lib.hid hb4; clear hb4)
            | (go_at_call_of 42 (Value.string (bstr A.flatten)); refine (splitR w4 A.flatten HLA.out).mono ?_; rintro e w5 ⟨a5, n5, c5, rfl, hn5, hc5, hm5, hR5, hb5⟩; have HR5 := Lib.hid hR5; have HM5 := Lib.hid hm5; have hq5 : n5 ≤ 4611686018427387904 := by { have h1 := hn5; have h2 := splitD_len2 A.flatten; have h3 := HLA.out; omega }; have HB5 := Lib.hid (HB4.out.trans (hb5.mono HB4.out.size)); clear hR5 hm5 hb5 hn5)
            | (go_at_call_of 45 (Value.slice a1 n1 c1); refine (eqTexts w5 a5 a1 n5 n1 c5 c1 _ A HR5.out (HR13.out.keep HB5.out (Nat.le_refl _)) hq5 (by omega)).mono ?_; rw [HG1.out]; rintro e w6 ⟨rfl, hq6⟩; have HB6 := Lib.hid (HB5.out.trans ((hq6.below _).mono (Nat.le_refl _))); clear hq6)
            | (go_at_call_of 65 (Value.slice a3 n3 c3); refine (joinR w6 a3 n3 c3 C (HR3.out.keep HB6.out (Nat.le_refl _)) (by omega) (Nat.le_trans HLC.out (by omega))).mono ?_; rintro e w7 ⟨rfl, hb7⟩; have HB7 := Lib.hid (HB6.out.trans (hb7.mono HB6.out.size)); clear hb7)
            | (go_at_call_of 42 (Value.string (bstr C.flatten)); refine (splitR w7 C.flatten HLC.out).mono ?_; rintro e w8 ⟨a8, n8, c8, rfl, hn8, hc8, hm8, hR8, hb8⟩; have HR8 := Lib.hid hR8; have HM8 := Lib.hid hm8; have hq8 : n8 ≤ 4611686018427387904 := by { have h1 := hn8; have h2 := splitD_len2 C.flatten; have h3 := HLC.out; omega }; have HB8 := Lib.hid (HB7.out.trans (hb8.mono HB7.out.size)); clear hR8 hm8 hb8 hn8)
            | (go_at_call_of 45 (Value.slice a3 n3 c3); refine (eqTexts w8 a8 a3 n8 n3 c8 c3 _ C HR8.out (HR3.out.keep HB8.out (Nat.le_refl _)) hq8 (by omega)).mono ?_; rw [HG3.out]; rintro e w9 ⟨rfl, hq9⟩; have HB9 := Lib.hid (HB8.out.trans ((hq9.below _).mono (Nat.le_refl _))); clear hq9))
          go_ret
          exact ⟨by rw [HCK.out]; rfl, HBW.out.trans (HB9.out.mono hw3)⟩
      · rw [Bool.not_eq_true] at g1
        rw [g1] at HCK
        have HG1 := Lib.hid g1
        clear g1
        go_wp2_with (first
          | (go_at_call_of 65 (Value.slice a1 n1 c1); refine (joinR w3 a1 n1 c1 A HR13.out (by omega) (Nat.le_trans HLA.out (by omega))).mono ?_; rintro e w4 ⟨rfl, hb4⟩; have HB4 := Lib.hid hb4; clear hb4)
          | (go_at_call_of 42 (Value.string (bstr A.flatten)); refine (splitR w4 A.flatten HLA.out).mono ?_; rintro e w5 ⟨a5, n5, c5, rfl, hn5, hc5, hm5, hR5, hb5⟩; have HR5 := Lib.hid hR5; have HM5 := Lib.hid hm5; have hq5 : n5 ≤ 4611686018427387904 := by { have h1 := hn5; have h2 := splitD_len2 A.flatten; have h3 := HLA.out; omega }; have HB5 := Lib.hid (HB4.out.trans (hb5.mono HB4.out.size)); clear hR5 hm5 hb5 hn5)
          | (go_at_call_of 45 (Value.slice a1 n1 c1); refine (eqTexts w5 a5 a1 n5 n1 c5 c1 _ A HR5.out (HR13.out.keep HB5.out (Nat.le_refl _)) hq5 (by omega)).mono ?_; rw [HG1.out]; rintro e w6 ⟨rfl, hq6⟩; have HB6 := Lib.hid (HB5.out.trans ((hq6.below _).mono (Nat.le_refl _))); clear hq6))
        go_ret
        exact ⟨by rw [HCK.out]; rfl, HBW.out.trans (HB6.out.mono hw3)⟩
end Go.Proofs.YtnbihjocdlpplaaGreatDoor
/- Does a patch fit, what does it make, how many lines go and come: by both. -/
namespace Go.Proofs.YtnbihjocdlpplaaGreatDoor
set_option linter.unusedVariables false
set_option linter.unusedSimpArgs false
open Go.RowKit
open Go.Lib
set_option maxHeartbeats 4000000 in
set_option maxRecDepth 100000 in
theorem fitsC (w : World) (s : List UInt8) (a : Option Addr) (n c : Nat) (X : List HkI) (hX : ReadsK w a n X) (hF : Fit X) (hT : Tabs w) :
    Calls Tryz.prog 48 #[.string (bstr s), .slice a n c] w fun e w' => e = .returned (.bool (fitsB s X)) ∧ Below w.heap.size w w' := by
  have HX := Lib.hid hX
  have HF := Lib.hid hF
  have hn : n ≤ 16777216 := by rw [← hX.len]; exact hF.1
  have HC := Lib.hid (checkC w a n c X hX hF hT)
  obtain ⟨A, hA⟩ : ∃ A, A = sideI 2 X := ⟨_, rfl⟩
  have lA : A.flatten.length ≤ 67108864 := by rw [hA]; exact Nat.le_trans (sideI_bytes _ _) hF.2.2
  have hfb : fitsB s X = (checkB X && (A.flatten == s)) := by rw [hA]; rfl
  have HEA := Lib.hid hA
  have HFB := Lib.hid hfb
  clear hX hF hT hA hfb
  by_cases hk : checkB X = true
  · rw [hk, Bool.true_and] at HFB
    have HK : Hid (errP (checkB X) = 0) := Lib.hid (by rw [hk]; rfl)
    rw [HK.out] at HC
    clear hk
    have hcases : (A.flatten == s) = true ∨ (A.flatten == s) = false := by cases (A.flatten == s) <;> simp
    rcases hcases with q | q
    all_goals
      rw [q] at HFB
      have hbe := q
      go_enter Tryz.func48, Tryz.ntmps48
      go_wp2_with (first
        | (go_at_call 18; refine (HC.out).mono ?_; rintro e w1 ⟨rfl, hb1⟩; have HB1 := Lib.hid hb1; clear hb1)
        | (go_at_call 50; refine (sideC w1 a n c X 2 (HX.out.keep HB1.out (Nat.le_refl _)) (by omega) (by have := HF.out.2.1; omega)).mono ?_; rintro e w2 ⟨v2, rfl, hO2, hb2⟩; rw [← HEA.out] at hO2; obtain ⟨a2, c2, rfl, hr2, hc2, hm2⟩ := readsS_own hO2; have HR2 := Lib.hid hr2; have HC2 := Lib.hid hc2; have hlA2 : A.length ≤ 16777216 := by { have h1 := HF.out.2.1; have h2 := sideI_len 2 X; rw [← HEA.out] at h2; omega }; have HB2 := Lib.hid (HB1.out.trans (hb2.mono HB1.out.size)); clear hO2 hb2 hr2 hc2 hm2; obtain ⟨n2, hn2⟩ : ∃ n2, n2 = A.length := ⟨_, rfl⟩; rw [← hn2] at HR2 HC2 hlA2 ⊢; clear hn2)
        | (go_at_call 49; refine (joinC w2 a2 n2 c2 A HR2.out HC2.out (by omega) (by omega)).mono ?_; rintro e w3 ⟨rfl, hb3⟩; have HB3 := Lib.hid (HB2.out.trans (hb3.mono HB2.out.size)); clear hb3))
      go_ret
      exact ⟨by rw [HFB.out]; rfl, HB3.out⟩
  · rw [Bool.not_eq_true] at hk
    rw [hk, Bool.false_and] at HFB
    have HK : Hid (errP (checkB X) = 310) := Lib.hid (by rw [hk]; rfl)
    rw [HK.out] at HC
    clear hk
    go_enter Tryz.func48, Tryz.ntmps48
    go_wp2_with (go_at_call 18; refine (HC.out).mono ?_; rintro e w1 ⟨rfl, hb1⟩; have HB1 := Lib.hid hb1; clear hb1)
    go_ret
    exact ⟨by rw [HFB.out]; rfl, HB1.out⟩
/-- what Apply answers -/
def applyE (s : List UInt8) (X : List HkI) : Ending := if fitsB s X = true then .returned (.tuple #[.string (bstr (sideI 3 X).flatten), .int .i64 0]) else .returned (.tuple #[.string (bstr []), .int .i64 310])
set_option maxHeartbeats 4000000 in
set_option maxRecDepth 100000 in
theorem applyC (w : World) (s : List UInt8) (a : Option Addr) (n c : Nat) (X : List HkI) (hX : ReadsK w a n X) (hF : Fit X) (hT : Tabs w) :
    Calls Tryz.prog 16 #[.string (bstr s), .slice a n c] w fun e w' => e = applyE s X ∧ Below w.heap.size w w' := by
  have HX := Lib.hid hX
  have HF := Lib.hid hF
  have hn : n ≤ 16777216 := by rw [← hX.len]; exact hF.1
  have HC := Lib.hid (fitsC w s a n c X hX hF hT)
  obtain ⟨A, hA⟩ : ∃ A, A = sideI 3 X := ⟨_, rfl⟩
  have lA : A.flatten.length ≤ 67108864 := by rw [hA]; exact Nat.le_trans (sideI_bytes _ _) hF.2.2
  have HEA := Lib.hid hA
  by_cases hk : fitsB s X = true
  · have HE : Hid (applyE s X = .returned (.tuple #[.string (bstr A.flatten), .int .i64 0])) := Lib.hid (by unfold applyE; rw [if_pos hk, hA])
    rw [hk] at HC
    clear hX hF hT hA hk
    go_enter Tryz.func16, Tryz.ntmps16
    go_wp2_with (first
      | (go_at_call 48; refine (HC.out).mono ?_; rintro e w1 ⟨rfl, hb1⟩; have HB1 := Lib.hid hb1; clear hb1)
      | (go_at_call 50; refine (sideC w1 a n c X 3 (HX.out.keep HB1.out (Nat.le_refl _)) (by omega) (by have := HF.out.2.1; omega)).mono ?_; rintro e w2 ⟨v2, rfl, hO2, hb2⟩; rw [← HEA.out] at hO2; obtain ⟨a2, c2, rfl, hr2, hc2, hm2⟩ := readsS_own hO2; have HR2 := Lib.hid hr2; have HC2 := Lib.hid hc2; have hlA2 : A.length ≤ 16777216 := by { have h1 := HF.out.2.1; have h2 := sideI_len 3 X; rw [← HEA.out] at h2; omega }; have HB2 := Lib.hid (HB1.out.trans (hb2.mono HB1.out.size)); clear hO2 hb2 hr2 hc2 hm2; obtain ⟨n2, hn2⟩ : ∃ n2, n2 = A.length := ⟨_, rfl⟩; rw [← hn2] at HR2 HC2 hlA2 ⊢; clear hn2)
      | (go_at_call 49; refine (joinC w2 a2 n2 c2 A HR2.out HC2.out (by omega) (by omega)).mono ?_; rintro e w3 ⟨rfl, hb3⟩; have HB3 := Lib.hid (HB2.out.trans (hb3.mono HB2.out.size)); clear hb3))
    go_ret2
    exact ⟨by rw [HE.out]; rfl, HB3.out⟩
  · have HE : Hid (applyE s X = .returned (.tuple #[.string (bstr []), .int .i64 310])) := Lib.hid (by unfold applyE; rw [if_neg hk])
    rw [Bool.not_eq_true] at hk
    rw [hk] at HC
    clear hX hF hT hA hk
    go_enter Tryz.func16, Tryz.ntmps16
    go_wp2_with (go_at_call 48; refine (HC.out).mono ?_; rintro e w1 ⟨rfl, hb1⟩; have HB1 := Lib.hid hb1; clear hb1)
    go_ret2
    exact ⟨by rw [HE.out]; rfl, HB1.out⟩
set_option maxHeartbeats 4000000 in
set_option maxRecDepth 100000 in
theorem applyR (w : World) (s : List UInt8) (a : Option Addr) (n c : Nat) (X : List HkI) (hX : ReadsK w a n X) (hF : Fit X) :
    Calls Tryz.prog 28 #[.string (bstr s), .slice a n c] w fun e w' => e = applyE s X ∧ Below w.heap.size w w' := by
  have HX := Lib.hid hX
  have HF := Lib.hid hF
  have hn : n ≤ 16777216 := by rw [← hX.len]; exact hF.1
  have HC := Lib.hid (checkR w a n c X hX hF)
  obtain ⟨A, hA⟩ : ∃ A, A = sideI 2 X := ⟨_, rfl⟩
  obtain ⟨C, hC⟩ : ∃ C, C = sideI 3 X := ⟨_, rfl⟩
  have lA : A.flatten.length ≤ 67108864 := by rw [hA]; exact Nat.le_trans (sideI_bytes _ _) hF.2.2
  have lC : C.flatten.length ≤ 67108864 := by rw [hC]; exact Nat.le_trans (sideI_bytes _ _) hF.2.2
  have hfb : fitsB s X = (checkB X && (A.flatten == s)) := by rw [hA]; rfl
  have HEA := Lib.hid hA
  have HEC := Lib.hid hC
  have HFB := Lib.hid hfb
  have hE1 : fitsB s X = true → applyE s X = .returned (.tuple #[.string (bstr C.flatten), .int .i64 0]) := fun h => by unfold applyE; rw [if_pos h, hC]
  have hE2 : fitsB s X = false → applyE s X = .returned (.tuple #[.string (bstr []), .int .i64 310]) := fun h => by unfold applyE; rw [h]; rfl
  have HE1 := Lib.hid hE1
  have HE2 := Lib.hid hE2
  clear hX hF hA hfb hC hE1 hE2
  by_cases hk : checkB X = true
  · rw [hk, Bool.true_and] at HFB
    have HK : Hid (errP (checkB X) = 0) := Lib.hid (by rw [hk]; rfl)
    rw [HK.out] at HC
    clear hk
    by_cases q : A.flatten = s
    · have hbe : (A.flatten == s) = true := by rw [beq_iff_eq]; exact q
      have hbn : (A.flatten != s) = false := by rw [q]; simp
      rw [hbe] at HFB
      have HEE := Lib.hid (HE1.out HFB.out)
      clear q
      go_enter Tryz.func28, Tryz.ntmps28
      go_wp2_with (first
        | (go_at_call 26; refine (HC.out).mono ?_; rintro e w1 ⟨rfl, hb1⟩; have HB1 := Lib.hid hb1; clear hb1)
        | (go_at_call_of 64 (Value.int .i64 2); refine (sideR w1 a n c X 2 (HX.out.keep HB1.out (Nat.le_refl _)) (by omega) (by have := HF.out.2.1; omega)).mono ?_; rintro e w2 ⟨v2, rfl, hO2, hb2⟩; rw [← HEA.out] at hO2; obtain ⟨a2, c2, rfl, hr2, hc2, hm2⟩ := readsS_own hO2; have HR2 := Lib.hid hr2; have hlA2 : A.length ≤ 16777216 := by { have h1 := HF.out.2.1; have h2 := sideI_len 2 X; rw [← HEA.out] at h2; omega }; have HB2 := Lib.hid (HB1.out.trans (hb2.mono HB1.out.size)); clear hO2 hb2 hr2 hc2 hm2; obtain ⟨n2, hn2⟩ : ∃ n2, n2 = A.length := ⟨_, rfl⟩; rw [← hn2] at HR2 hlA2 ⊢; clear hn2)
        | (go_at_call_of 65 (Value.slice a2 n2 c2); refine (joinR w2 a2 n2 c2 A HR2.out (by omega) (by omega)).mono ?_; rintro e w3 ⟨rfl, hb3⟩; have HB3 := Lib.hid (HB2.out.trans (hb3.mono HB2.out.size)); clear hb3)
        | (go_at_call_of 64 (Value.int .i64 3); refine (sideR w3 a n c X 3 (HX.out.keep HB3.out (Nat.le_refl _)) (by omega) (by have := HF.out.2.1; omega)).mono ?_; rintro e w4 ⟨v4, rfl, hO4, hb4⟩; rw [← HEC.out] at hO4; obtain ⟨a4, c4, rfl, hr4, hc4, hm4⟩ := readsS_own hO4; have HR4 := Lib.hid hr4; have hlA4 : C.length ≤ 16777216 := by { have h1 := HF.out.2.1; have h2 := sideI_len 3 X; rw [← HEC.out] at h2; omega }; have HB4 := Lib.hid (HB3.out.trans (hb4.mono HB3.out.size)); clear hO4 hb4 hr4 hc4 hm4; obtain ⟨n4, hn4⟩ : ∃ n4, n4 = C.length := ⟨_, rfl⟩; rw [← hn4] at HR4 hlA4 ⊢; clear hn4)
        | (go_at_call_of 65 (Value.slice a4 n4 c4); refine (joinR w4 a4 n4 c4 C HR4.out (by omega) (by omega)).mono ?_; rintro e w5 ⟨rfl, hb5⟩; have HB5 := Lib.hid (HB4.out.trans (hb5.mono HB4.out.size)); clear hb5))
      go_ret2
      exact ⟨by rw [HEE.out]; rfl, HB5.out⟩
    · have hbe : (A.flatten == s) = false := by rw [beq_eq_false_iff_ne]; exact q
      have hbn : (A.flatten != s) = true := by rw [bne_iff_ne]; exact q
      rw [hbe] at HFB
      have HEE := Lib.hid (HE2.out HFB.out)
      clear q
      go_enter Tryz.func28, Tryz.ntmps28
      go_wp2_with (first
        | (go_at_call 26; refine (HC.out).mono ?_; rintro e w1 ⟨rfl, hb1⟩; have HB1 := Lib.hid hb1; clear hb1)
        | (go_at_call_of 64 (Value.int .i64 2); refine (sideR w1 a n c X 2 (HX.out.keep HB1.out (Nat.le_refl _)) (by omega) (by have := HF.out.2.1; omega)).mono ?_; rintro e w2 ⟨v2, rfl, hO2, hb2⟩; rw [← HEA.out] at hO2; obtain ⟨a2, c2, rfl, hr2, hc2, hm2⟩ := readsS_own hO2; have HR2 := Lib.hid hr2; have hlA2 : A.length ≤ 16777216 := by { have h1 := HF.out.2.1; have h2 := sideI_len 2 X; rw [← HEA.out] at h2; omega }; have HB2 := Lib.hid (HB1.out.trans (hb2.mono HB1.out.size)); clear hO2 hb2 hr2 hc2 hm2; obtain ⟨n2, hn2⟩ : ∃ n2, n2 = A.length := ⟨_, rfl⟩; rw [← hn2] at HR2 hlA2 ⊢; clear hn2)
        | (go_at_call_of 65 (Value.slice a2 n2 c2); refine (joinR w2 a2 n2 c2 A HR2.out (by omega) (by omega)).mono ?_; rintro e w3 ⟨rfl, hb3⟩; have HB3 := Lib.hid (HB2.out.trans (hb3.mono HB2.out.size)); clear hb3))
      go_ret2
      exact ⟨by rw [HEE.out]; rfl, HB3.out⟩
  · rw [Bool.not_eq_true] at hk
    rw [hk, Bool.false_and] at HFB
    have HK : Hid (errP (checkB X) = 310) := Lib.hid (by rw [hk]; rfl)
    rw [HK.out] at HC
    have HEE := Lib.hid (HE2.out HFB.out)
    clear hk
    go_enter Tryz.func28, Tryz.ntmps28
    go_wp2_with (go_at_call 26; refine (HC.out).mono ?_; rintro e w1 ⟨rfl, hb1⟩; have HB1 := Lib.hid hb1; clear hb1)
    go_ret2
    exact ⟨by rw [HEE.out]; rfl, HB1.out⟩
theorem distI_next {X : List HkI} {i : Nat} {x : HkI} (h : X[i]? = some x) : distI (X.take (i + 1)) = distI (X.take i) + (if x.1 = 2 ∨ x.1 = 3 then x.2.length else 0) := by
  rw [take_next h]
  unfold distI
  simp
theorem distI_le (X : List HkI) : distI X ≤ linesK X := by
  induction X with
  | nil => exact Nat.le_refl _
  | cons x X ih =>
    unfold distI linesK at *
    rw [List.map_cons, List.sum_cons, List.map_cons, List.sum_cons]
    have h2 : (if x.1 = 2 ∨ x.1 = 3 then x.2.length else 0) ≤ x.2.length := by split <;> omega
    omega
set_option maxHeartbeats 4000000 in
set_option maxRecDepth 100000 in
theorem distC (w : World) (a : Option Addr) (n c : Nat) (X : List HkI) (hX : ReadsK w a n X) (hF : Fit X) :
    Calls Tryz.prog 21 #[.slice a n c] w fun e w' => e = .returned (.int .i64 (distI X : Int)) ∧ Below w.heap.size w w' := by
  have HX := Lib.hid hX
  have HN := Lib.hid hX.len
  have HL := Lib.hid hF.2.1
  have hn : n ≤ 16777216 := by rw [← hX.len]; exact hF.1
  clear hX hF
  go_enter Tryz.func21, Tryz.ntmps21
  go_wp2
  go_loopw [3, 8] (fun ut ui wr => ∃ i t : Nat, ut = .int .i64 (t : Int) ∧ ui = .int .i64 (i : Int) ∧ i ≤ n ∧ Hid (t = distI (X.take i) ∧ Below w.heap.size w wr)) (fun _ ui _ => n - (RowKit.intOf ui).toNat)
  case atStart => exact ⟨0, 0, rfl, rfl, Nat.zero_le _, Lib.hid ⟨rfl, Below.refl _ _⟩⟩
  case round =>
    obtain ⟨i, t, rfl, rfl, hi, HR⟩ := hrel
    by_cases hlt : i < n
    · obtain ⟨b, off, x, ad, m, cm, rfl, hb, hx, hc0, hc1, hrs, hmc, hcm, hm⟩ := (HX.out.keep HR.out.2 (Nat.le_refl _)).at hlt
      have hnx := distI_next hx
      rw [← HR.out.1, hm] at hnx
      have hlx : distI (X.take (i + 1)) ≤ 16777216 := Nat.le_trans (distI_le _) (Nat.le_trans (linesK_take _ _) HL.out)
      obtain ⟨kd, hkd⟩ : ∃ kd, kd = x.1 := ⟨_, rfl⟩
      rw [← hkd] at hc0 hnx
      have hwb := HR.out.2.size
      have hBA : Below w.heap.size w (wr.alloc (.cells #[.int .i64 kd, .slice ad m cm] 25)) := HR.out.2.alloc hwb _
      have HBA := Lib.hid hBA
      have hit : (i : Int) < (n : Int) := by omega
      clear hx hrs hm hmc hcm hkd hBA
      by_cases h1 : kd = 2 ∨ kd = 3
      · rw [if_pos h1] at hnx
        rw [hnx] at hlx
        have HNX := Lib.hid hnx
        have hbe : (kd == 2) = true ∨ ((kd == 2) = false ∧ (kd == 3) = true) := by
          rcases h1 with e | e
          · exact .inl (by rw [e]; rfl)
          · exact .inr ⟨by rw [e]; rfl, by rw [e]; rfl⟩
        clear h1 hnx
        rcases hbe with q1 | ⟨q1, q2⟩
        all_goals
          go_wp2
          go_roundw
          case rel => exact ⟨i + 1, t + m, by go_num, by go_num, hlt, Lib.hid ⟨HNX.out.symm, HBA.out⟩⟩
          case measure => simp [RowKit.intOf]; omega
      · rw [if_neg h1, Nat.add_zero] at hnx
        have HNX := Lib.hid hnx
        have q1 : (kd == 2) = false := by rw [beq_eq_false_iff_ne]; exact fun e => h1 (.inl e)
        have q2 : (kd == 3) = false := by rw [beq_eq_false_iff_ne]; exact fun e => h1 (.inr e)
        clear h1 hnx
        go_wp2
        go_roundw
        case rel => exact ⟨i + 1, t, rfl, by go_num, hlt, Lib.hid ⟨HNX.out.symm, HBA.out⟩⟩
        case measure => simp [RowKit.intOf]; omega
    · obtain rfl : i = n := by omega
      have hd : X.take i = X := List.take_of_length_le (by rw [HN.out]; exact Nat.le_refl _)
      have HD := Lib.hid hd
      clear hd
      go_wp2
      go_ret
      have h9 := HR.out.1
      rw [HD.out] at h9
      exact ⟨by rw [← h9]; rfl, HR.out.2⟩
set_option maxHeartbeats 4000000 in
set_option maxRecDepth 100000 in
theorem distR (w : World) (a : Option Addr) (n c : Nat) (X : List HkI) (hX : ReadsK w a n X) (hF : Fit X) :
    Calls Tryz.prog 27 #[.slice a n c] w fun e w' => e = .returned (.int .i64 (distI X : Int)) ∧ Below w.heap.size w w' := by
  have HX := Lib.hid hX
  have HN := Lib.hid hX.len
  have HL := Lib.hid hF.2.1
  have hn : n ≤ 16777216 := by rw [← hX.len]; exact hF.1
  clear hX hF
  go_enter Tryz.func27, Tryz.ntmps27
  go_wp2
  go_loopw [3, 4] (fun ut ui wr => ∃ i t : Nat, ut = .int .i64 (t : Int) ∧ ui = .int .i64 (i : Int) ∧ i ≤ n ∧ Hid (t = distI (X.take i) ∧ Below w.heap.size w wr)) (fun _ ui _ => n - (RowKit.intOf ui).toNat)
  case atStart => exact ⟨0, 0, rfl, rfl, Nat.zero_le _, Lib.hid ⟨rfl, Below.refl _ _⟩⟩
  case round =>
    obtain ⟨i, t, rfl, rfl, hi, HR⟩ := hrel
    by_cases hlt : i < n
    · obtain ⟨b, off, x, ad, m, cm, rfl, hb, hx, hc0, hc1, hrs, hmc, hcm, hm⟩ := (HX.out.keep HR.out.2 (Nat.le_refl _)).at hlt
      have hnx := distI_next hx
      rw [← HR.out.1, hm] at hnx
      have hlx : distI (X.take (i + 1)) ≤ 16777216 := Nat.le_trans (distI_le _) (Nat.le_trans (linesK_take _ _) HL.out)
      obtain ⟨kd, hkd⟩ : ∃ kd, kd = x.1 := ⟨_, rfl⟩
      rw [← hkd] at hc0 hnx
      have hit : (i : Int) < (n : Int) := by omega
      clear hx hrs hm hmc hcm hkd
      by_cases h1 : kd = 2 ∨ kd = 3
      · rw [if_pos h1] at hnx
        rw [hnx] at hlx
        have HNX := Lib.hid hnx
        have hbe : (kd == 2) = true ∨ ((kd == 2) = false ∧ (kd == 3) = true) := by
          rcases h1 with e | e
          · exact .inl (by rw [e]; rfl)
          · exact .inr ⟨by rw [e]; rfl, by rw [e]; rfl⟩
        clear h1 hnx
        rcases hbe with q1 | ⟨q1, q2⟩
        all_goals
          go_wp2
          go_roundw
          case rel => exact ⟨i + 1, t + m, by go_num, by go_num, hlt, Lib.hid ⟨HNX.out.symm, HR.out.2⟩⟩
          case measure => simp [RowKit.intOf]; omega
      · rw [if_neg h1, Nat.add_zero] at hnx
        have HNX := Lib.hid hnx
        have q1 : (kd == 2) = false := by rw [beq_eq_false_iff_ne]; exact fun e => h1 (.inl e)
        have q2 : (kd == 3) = false := by rw [beq_eq_false_iff_ne]; exact fun e => h1 (.inr e)
        clear h1 hnx
        go_wp2
        go_roundw
        case rel => exact ⟨i + 1, t, rfl, by go_num, hlt, Lib.hid ⟨HNX.out.symm, HR.out.2⟩⟩
        case measure => simp [RowKit.intOf]; omega
    · obtain rfl : i = n := by omega
      have hd : X.take i = X := List.take_of_length_le (by rw [HN.out]; exact Nat.le_refl _)
      have HD := Lib.hid hd
      clear hd
      go_wp2
      go_ret
      have h9 := HR.out.1
      rw [HD.out] at h9
      exact ⟨by rw [← h9]; rfl, HR.out.2⟩
end Go.Proofs.YtnbihjocdlpplaaGreatDoor
/- A patch's changes: plain law. -/
namespace Go.Proofs.YtnbihjocdlpplaaGreatDoor
set_option linter.unusedVariables false
set_option linter.unusedSimpArgs false
open Go.Lib
/-- a change: where, what went, what came -/
abbrev Ch := Nat × List UInt8 × List UInt8
structure CSt where
  pos : Nat
  was : Int
  out : List Ch
def setNew (out : List Ch) (s : List UInt8) : List Ch :=
  match out.getLast? with
  | none => []
  | some c => out.dropLast ++ [(c.1, c.2.1, s)]
def stepCh (st : CSt) (h : HkI) : CSt :=
  if h.1 = 2 then ⟨st.pos, 2, st.out ++ [(st.pos, h.2.flatten, [])]⟩
  else if h.1 = 3 then (if st.was = 2 then ⟨st.pos + h.2.flatten.length, 3, setNew st.out h.2.flatten⟩ else ⟨st.pos + h.2.flatten.length, 3, st.out ++ [(st.pos, [], h.2.flatten)]⟩)
  else ⟨st.pos + h.2.flatten.length, h.1, st.out⟩
def chSt (X : List HkI) : CSt := X.foldl stepCh ⟨0, 0, []⟩
theorem chSt_app (X : List HkI) (x : HkI) : chSt (X ++ [x]) = stepCh (chSt X) x := by unfold chSt; rw [List.foldl_append]; rfl
theorem chSt_next {X : List HkI} {i : Nat} {x : HkI} (h : X[i]? = some x) : chSt (X.take (i + 1)) = stepCh (chSt (X.take i)) x := by
  rw [take_next h, chSt_app]
theorem step_was (st : CSt) (h : HkI) : (stepCh st h).was = h.1 := by
  unfold stepCh
  by_cases h2 : h.1 = 2
  · rw [if_pos h2, h2]
  · rw [if_neg h2]
    by_cases h3 : h.1 = 3
    · rw [if_pos h3, h3]; split <;> rfl
    · rw [if_neg h3]
theorem setNew_snoc (out : List Ch) (c : Ch) (s : List UInt8) : setNew (out ++ [c]) s = out ++ [(c.1, c.2.1, s)] := by
  unfold setNew
  rw [List.getLast?_concat, List.dropLast_concat]
def ChOk (st : CSt) : Prop := st.was = 2 → ∃ out c, st.out = out ++ [c]
theorem chOk_step (st : CSt) (h : HkI) : ChOk (stepCh st h) := by
  intro hw
  rw [step_was] at hw
  unfold stepCh
  rw [if_pos hw]
  exact ⟨_, _, rfl⟩
theorem chOk : ∀ (X : List HkI), ChOk (X.foldl stepCh ⟨0, 0, []⟩) := by
  intro X
  rcases List.eq_nil_or_concat X with rfl | ⟨Y, x, rfl⟩
  · intro h; exact absurd h (by decide)
  · rw [List.concat_eq_append]
    show ChOk (chSt (Y ++ [x]))
    rw [chSt_app]
    exact chOk_step _ _
theorem setNew_len (out : List Ch) (s : List UInt8) : (setNew out s).length ≤ out.length := by
  rcases List.eq_nil_or_concat out with rfl | ⟨o, c, rfl⟩
  · exact Nat.le_refl _
  · rw [List.concat_eq_append, setNew_snoc, List.length_append, List.length_append]; exact Nat.le_refl _
theorem step_len (st : CSt) (h : HkI) : (stepCh st h).out.length ≤ st.out.length + 1 ∧ (stepCh st h).pos ≤ st.pos + h.2.flatten.length := by
  have h9 := setNew_len st.out h.2.flatten
  unfold stepCh
  repeat' split
  all_goals constructor <;> simp only [List.length_append, List.length_singleton] <;> omega
end Go.Proofs.YtnbihjocdlpplaaGreatDoor
/- Lists of changes that are read: the same; and clipped. -/
namespace Go.Proofs.YtnbihjocdlpplaaGreatDoor
set_option linter.unusedVariables false
set_option linter.unusedSimpArgs false
open Go.RowKit
def chCells (c : Ch) : List Value := [.int .i64 (c.1 : Int), .string (bstr c.2.1), .string (bstr c.2.2)]
/-- the slice at a of n changes reads as these -/
def ReadsC (w : World) (a : Option Addr) (n : Nat) (X : List Ch) : Prop :=
  X.length = n ∧ (0 < n → ∃ b off, a = some ⟨b, off, none⟩ ∧ b < w.heap.size ∧ ∀ i x, X[i]? = some x → w.cell? ⟨b, off + i * 3, none⟩ = some (.int .i64 (x.1 : Int)) ∧ w.cell? ⟨b, off + i * 3 + 1, none⟩ = some (.string (bstr x.2.1)) ∧ w.cell? ⟨b, off + i * 3 + 2, none⟩ = some (.string (bstr x.2.2)))
theorem ReadsC.keep {B : Nat} {w w' : World} {a : Option Addr} {n : Nat} {X : List Ch} (h : ReadsC w a n X) (hb : Below B w w') (hB : w.heap.size ≤ B) : ReadsC w' a n X := by
  obtain ⟨hl, h⟩ := h
  refine ⟨hl, fun hn => ?_⟩
  obtain ⟨b, off, ha, hlt, hc⟩ := h hn
  have hk := Nat.lt_of_lt_of_le hlt hB
  refine ⟨b, off, ha, Nat.lt_of_lt_of_le hlt hb.size, fun i x hx => ?_⟩
  obtain ⟨h1, h2, h3⟩ := hc i x hx
  exact ⟨by rw [hb.cell (p := ⟨b, off + i * 3, none⟩) hk]; exact h1, by rw [hb.cell (p := ⟨b, off + i * 3 + 1, none⟩) hk]; exact h2, by rw [hb.cell (p := ⟨b, off + i * 3 + 2, none⟩) hk]; exact h3⟩
theorem ReadsC.quiet {w w' : World} {a : Option Addr} {n : Nat} {X : List Ch} (h : ReadsC w a n X) (hq : Quiet w w') : ReadsC w' a n X := h.keep (hq.below w.heap.size) (Nat.le_refl _)
theorem ReadsC.at {w : World} {a : Option Addr} {n : Nat} {X : List Ch} (h : ReadsC w a n X) {i : Nat} (hi : i < n) :
    ∃ b off x, a = some ⟨b, off, none⟩ ∧ b < w.heap.size ∧ X[i]? = some x ∧ w.cell? ⟨b, off + i * 3, none⟩ = some (.int .i64 (x.1 : Int)) ∧ w.cell? ⟨b, off + i * 3 + 1, none⟩ = some (.string (bstr x.2.1)) ∧ w.cell? ⟨b, off + i * 3 + 2, none⟩ = some (.string (bstr x.2.2)) := by
  obtain ⟨hl, h⟩ := h
  obtain ⟨b, off, ha, hlt, hc⟩ := h (by omega)
  have hx : X[i]? = some X[i] := List.getElem?_eq_getElem (by omega)
  obtain ⟨h1, h2, h3⟩ := hc i _ hx
  exact ⟨b, off, X[i], ha, hlt, hx, h1, h2, h3⟩
theorem clipCh (w : World) (a : Option Addr) (n c : Nat) (hn : n ≤ c) (hc : c ≤ 9223372036854775807) : Calls Tryz.prog 62 #[.slice a n c] w fun e w' => e = .returned (.slice a n n) ∧ w = w' := by
  have h1 : (n : Int) ≤ (c : Int) := by omega
  go_enter Tryz.func62, Tryz.ntmps62
  go_wp2
  go_ret
  exact ⟨rfl, rfl⟩
set_option maxHeartbeats 1000000 in
theorem eqChanges (w : World) (a b : Option Addr) (n ca cb : Nat) (X : List Ch) (ha : ReadsC w a n X) (hb : ReadsC w b n X) (hn : n ≤ 4611686018427387904) :
    Calls Tryz.prog 32 #[.slice a n ca, .slice b n cb] w fun e w' => e = .returned (.bool true) ∧ Quiet w w' := by
  have HA := Lib.hid ha
  have HB := Lib.hid hb
  clear ha hb
  have hne : ((n : Int) != (n : Int)) = false := by simp
  go_enter Tryz.func32, Tryz.ntmps32
  go_wp2
  go_loopw [5] (fun i wr => ∃ k : Nat, k ≤ n ∧ i = .int .i64 k ∧ Quiet w wr) (fun i _ => n - (intOf i).toNat)
  case atStart => exact ⟨0, Nat.zero_le _, rfl, Quiet.refl _⟩
  case round =>
    obtain ⟨k, hk, rfl, hq⟩ := hrel
    by_cases hlt : k < n
    · obtain ⟨b1, o1, x, rfl, hb1, hx, h11, h12, h13⟩ := (HA.out.quiet hq).at hlt
      obtain ⟨b2, o2, y, rfl, hb2, hy, h21, h22, h23⟩ := (HB.out.quiet hq).at hlt
      obtain rfl : x = y := by rw [hx] at hy; exact Option.some.inj hy
      obtain ⟨p, s, t⟩ := x
      clear hx hy
      dsimp only at h11 h12 h13 h21 h22 h23
      have q1 : ((p : Int) == (p : Int)) = true := by simp
      have q2 : (s == s) = true := by simp
      have q3 : (t == t) = true := by simp
      go_wp2
      go_quiet (fail)
      go_wp2
      go_roundw
      case rel => exact ⟨k + 1, by omega, by go_num, hq.drewN _⟩
      case measure => simp [intOf]; omega
    · obtain rfl : k = n := by omega
      go_wp2
      go_ret
      exact ⟨rfl, hq⟩
end Go.Proofs.YtnbihjocdlpplaaGreatDoor
/- A list of changes that a call owns: one put behind, the last one's new text set. -/
namespace Go.Proofs.YtnbihjocdlpplaaGreatDoor
set_option linter.unusedVariables false
set_option linter.unusedSimpArgs false
open Go.RowKit
theorem infoCh : (Tryz.prog.info? 51).map (fun i => (i.zero, i.size, i.bytes)) = some (some (.agg #[.int .i64 0, .string ByteArray.empty, .string ByteArray.empty]), 3, 40) := by kernel_rfl
theorem chs_len : ∀ out : List Ch, (out.flatMap chCells).length = out.length * 3 := by
  intro out
  induction out with
  | nil => rfl
  | cons c r ih =>
    rw [List.flatMap_cons, List.length_append, ih, List.length_cons]
    show 3 + _ = _
    omega
theorem chCells_one (c : Ch) : ∀ u ∈ chCells c, u.oneCell' = true := by
  intro u hu
  simp only [chCells, List.mem_cons, List.not_mem_nil, or_false] at hu
  rcases hu with rfl | rfl | rfl <;> rfl
def ChOwn (B : Nat) (v : Value) (out : List Ch) (w : World) : Prop := w.ownsRow B 51 3 v out.length (out.flatMap chCells)
theorem ChOwn.push {B : Nat} {v : Value} {out : List Ch} {c : Ch} {w : World} (h : w.ownsRow B 51 3 v (out.length + 1) (out.flatMap chCells ++ chCells c)) : ChOwn B v (out ++ [c]) w := by
  unfold ChOwn
  rw [List.length_append, List.length_singleton, List.flatMap_append]
  simpa using h
theorem chs_set (o : List Ch) (c : Ch) (s : List UInt8) : ((o ++ [c]).flatMap chCells).set (o.length * 3 + 2) (.string (bstr s)) = (o ++ [(c.1, c.2.1, s)]).flatMap chCells := by
  rw [List.flatMap_append, List.flatMap_append, List.set_append_right _ _ (by rw [chs_len]; omega), chs_len, Nat.add_sub_cancel_left]
  rfl
theorem chs_at (o : List Ch) (c : Ch) : ((o ++ [c]).flatMap chCells)[o.length * 3 + 2]? = some (.string (bstr c.2.2)) := by
  rw [List.flatMap_append, List.getElem?_append_right (by rw [chs_len]; omega), chs_len, Nat.add_sub_cancel_left]
  rfl
/-- the last one's new text, set -/
theorem ChOwn.last {B : Nat} {v : Value} {o : List Ch} {c : Ch} {w : World} (h : ChOwn B v (o ++ [c]) w) (s : List UInt8) :
    ∃ g cap, v = .slice (some ⟨g, 0, none⟩) (o.length + 1) cap ∧ B ≤ g ∧ g < w.heap.size ∧ w.cell? ⟨g, o.length * 3 + 2, none⟩ = some (.string (bstr c.2.2)) ∧ w.frozen? ⟨g, o.length * 3 + 2, none⟩ = false ∧
      ChOwn B v (o ++ [(c.1, c.2.1, s)]) (w.setCell ⟨g, o.length * 3 + 2, none⟩ (.string (bstr s))) ∧ w.grownBy (w.setCell ⟨g, o.length * 3 + 2, none⟩ (.string (bstr s))) (some g) := by
  unfold ChOwn at h
  rw [List.length_append, List.length_singleton] at h
  obtain ⟨g, cap, rfl⟩ : ∃ g cap, v = .slice (some ⟨g, 0, none⟩) (o.length + 1) cap := by
    rcases h.2 with ⟨_, h0⟩ | ⟨g, cap, cur, hv, _⟩
    · omega
    · exact ⟨g, cap, hv⟩
  have hlt := h.lt g rfl
  have hc := h.cellAt (o.length * 3 + 2) (by omega)
  rw [chs_at] at hc
  have hs := h.stored (o.length * 3 + 2) (.string (bstr s))
  rw [chs_set] at hs
  refine ⟨g, cap, rfl, hlt.1, hlt.2, hc, h.frozenAt _, ?_, hs.2⟩
  unfold ChOwn
  rw [List.length_append, List.length_singleton]
  exact hs.1
theorem ChOwn.reads {B : Nat} {v : Value} {out : List Ch} {w : World} (h : ChOwn B v out w) : ∃ a c, v = .slice a out.length c ∧ ReadsC w a out.length out ∧ out.length ≤ c ∧ c ≤ maxLen := by
  unfold ChOwn at h
  rcases h.2 with ⟨rfl, h0⟩ | ⟨g, cap, cur, rfl, hb, hg, hnc, hcm, hs, ht⟩
  · rw [h0] at h ⊢
    exact ⟨none, 0, rfl, ⟨h0, fun h => absurd h (by omega)⟩, Nat.le_refl _, Nat.zero_le _⟩
  · refine ⟨_, cap, rfl, ⟨rfl, fun hn => ⟨g, 0, rfl, (h.lt g rfl).2, fun i x hx => ?_⟩⟩, hnc, hcm⟩
    have hi : i < out.length := (List.getElem?_eq_some_iff.1 hx).1
    have hk : ∀ j, j < 3 → w.cell? ⟨g, i * 3 + j, none⟩ = (chCells x)[j]? := fun j hj => by
      rw [h.cellAt (i * 3 + j) (by omega)]
      have e : out = out.take i ++ (x :: out.drop (i + 1)) := by
        rw [← List.take_append_drop i out]
        congr 1
        · simp
        · obtain ⟨h9, rfl⟩ := List.getElem?_eq_some_iff.1 hx
          rw [List.take_append_drop]
          exact List.drop_eq_getElem_cons h9
      have hl : (out.take i).length = i := by rw [List.length_take]; omega
      rw [e, List.flatMap_append, List.flatMap_cons, List.getElem?_append_right (by rw [chs_len, hl]; omega), chs_len, hl, Nat.add_sub_cancel_left, List.getElem?_append_left (by show j < 3; exact hj)]
    rw [Nat.zero_add]
    exact ⟨hk 0 (by decide), hk 1 (by decide), hk 2 (by decide)⟩
end Go.Proofs.YtnbihjocdlpplaaGreatDoor
