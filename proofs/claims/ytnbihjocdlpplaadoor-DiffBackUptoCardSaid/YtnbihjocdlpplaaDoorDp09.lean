/- Texts joined, one behind the other (DCheckR, DFit, DSep). -/
import Derived.Test.YtnbihjocdlpplaaDoorDp08
import Derived.ArgAppend
/- May a patch be: by the reference. -/
namespace Go.Proofs.YtnbihjocdlpplaaDoor
set_option linter.unusedVariables false
set_option linter.unusedSimpArgs false
open Go.RowKit
open Go.Lib
/-- the kind of the hunk ahead of place i -/
def WasAt (X : List HkI) (i : Nat) (was : Int) : Prop := (i = 0 ∧ was = 0) ∨ ∃ i' y, i = i' + 1 ∧ X[i']? = some y ∧ y.1 = was
theorem not_err (b : Bool) : (errP b == 0) = b := by cases b <;> rfl
set_option maxHeartbeats 8000000 in
set_option maxRecDepth 100000 in
theorem checkR (w : World) (a : Option Addr) (n c : Nat) (X : List HkI) (hX : ReadsK w a n X) (hF : Fit X) :
    Calls Tryd.prog 20 #[.slice a n c] w fun e w' => e = .returned (.int .i64 (errP (checkB X))) ∧ Below w.heap.size w w' := by
  have HX := Lib.hid hX
  have HN := Lib.hid hX.len
  have HF := Lib.hid hF
  have hn : n ≤ 16777216 := by rw [← hX.len]; exact hF.1
  clear hX hF
  go_enter Tryd.func20, Tryd.ntmps20
  go_wp2
  go_loopw [3] (fun ui wr => ∃ (i : Nat) (was : Int), ui = .int .i64 (i : Int) ∧ i ≤ n ∧ Hid (WasAt X i was ∧ okB 0 X = okB was (X.drop i) ∧ Below w.heap.size w wr)) (fun ui _ => n - (RowKit.intOf ui).toNat)
  case atStart => exact ⟨0, 0, rfl, Nat.zero_le _, Lib.hid ⟨.inl ⟨rfl, rfl⟩, rfl, Below.refl _ _⟩⟩
  case round =>
    obtain ⟨i, was, rfl, hi, HR⟩ := hrel
    have hwb := HR.out.2.2.size
    by_cases hlt : i < n
    · have HXR := HX.out.keep HR.out.2.2 (Nat.le_refl _)
      obtain ⟨b, off, x, ad, m, cm, rfl, hb, hx, hc0, hc1, hrs, hmc, hcm, hm⟩ := HXR.at hlt
      have HO := Lib.hid (okB_drop (was := was) hx)
      have HA := Lib.hid (@okAtB_iff was x)
      have HX2 := Lib.hid hx
      obtain ⟨kd, hkd⟩ : ∃ kd, kd = x.1 := ⟨_, rfl⟩
      have HKD := Lib.hid hkd
      have hm0 : x.2 = [] ↔ m = 0 := by rw [← hm]; exact ⟨fun h => by rw [h]; rfl, List.eq_nil_of_length_eq_zero⟩
      have HM0 := Lib.hid hm0
      rw [← hkd] at hc0 HO HA
      have hit : (i : Int) < (n : Int) := by omega
      have hfalse : okAtB was x = false → errP (checkB X) = 310 := fun h => by
        unfold checkB
        rw [HR.out.2.1, HO.out, h]
        rfl
      have HFL := Lib.hid hfalse
      clear hx hrs hm hmc hcm hkd hm0 hfalse
      by_cases h1 : kd < 1
      · have hR : Hid (errP (checkB X) = 310) := Lib.hid (HFL.out (by rw [Bool.eq_false_iff]; intro h; have := HA.out.1 h; omega))
        clear HXR
        go_wp2
        go_ret
        exact ⟨by rw [hR.out]; rfl, HR.out.2.2⟩
      have h1' : 1 ≤ kd := by omega
      by_cases h2 : 3 < kd
      · have hR : Hid (errP (checkB X) = 310) := Lib.hid (HFL.out (by rw [Bool.eq_false_iff]; intro h; have := HA.out.1 h; omega))
        clear HXR
        go_wp2
        go_ret
        exact ⟨by rw [hR.out]; rfl, HR.out.2.2⟩
      have h2' : kd ≤ 3 := by omega
      by_cases h3 : m = 0
      · have hR : Hid (errP (checkB X) = 310) := Lib.hid (HFL.out (by rw [Bool.eq_false_iff]; intro h; exact (HA.out.1 h).2.1 (HM0.out.2 h3)))
        subst h3
        clear HXR
        go_wp2
        go_ret
        exact ⟨by rw [hR.out]; rfl, HR.out.2.2⟩
      have h3' : ((m : Int) == 0) = false := by rw [beq_eq_false_iff_ne]; omega
      have h3'' : (m : Int) ≠ 0 := by omega
      by_cases h4 : kd = was
      · have hR : Hid (errP (checkB X) = 310) := Lib.hid (HFL.out (by rw [Bool.eq_false_iff]; intro h; exact (HA.out.1 h).2.2.1 h4))
        rcases HR.out.1 with ⟨_, e0⟩ | ⟨i', y, hi', hy, hyw⟩
        · omega
        · obtain ⟨b2, o2, y2, ad2, m2, cm2, ea2, _, hy2, hd0, _, _, _, _, _⟩ := HXR.at (i := i') (by omega)
          cases ea2
          rw [hy] at hy2
          cases hy2
          rw [hyw] at hd0
          have hw : IntKind.i64.wrap ((i : Int) - 1) = (i' : Int) := by rw [show (i : Int) - 1 = (i' : Int) by omega]; exact IntWalk.i64_in _ (by omega)
          have hb' : (i' : Int) < (n : Int) := by omega
          have h0i : 0 < (i : Int) := by omega
          have h0n : 0 < i := by omega
          have h4' : (kd == was) = true := by rw [beq_iff_eq]; exact h4
          have HI := Lib.hid hi'
          clear h4 HXR hy hyw hi'
          go_wp2
          go_quiet (fail)
          go_wp2
          go_ret
          exact ⟨by rw [hR.out]; rfl, below_drewN HR.out.2.2 _⟩
      have h4' : (kd == was) = false := by rw [beq_eq_false_iff_ne]; exact h4
      by_cases h5 : kd = 2 ∧ was = 3
      · have hR : Hid (errP (checkB X) = 310) := Lib.hid (HFL.out (by rw [Bool.eq_false_iff]; intro h; exact (HA.out.1 h).2.2.2 h5))
        obtain ⟨e5, e6⟩ := h5
        rcases HR.out.1 with ⟨_, e0⟩ | ⟨i', y, hi', hy, hyw⟩
        · omega
        · obtain ⟨b2, o2, y2, ad2, m2, cm2, ea2, _, hy2, hd0, _, _, _, _, _⟩ := HXR.at (i := i') (by omega)
          cases ea2
          rw [hy] at hy2
          cases hy2
          rw [hyw] at hd0
          have hw : IntKind.i64.wrap ((i : Int) - 1) = (i' : Int) := by rw [show (i : Int) - 1 = (i' : Int) by omega]; exact IntWalk.i64_in _ (by omega)
          have hb' : (i' : Int) < (n : Int) := by omega
          have h0i : 0 < (i : Int) := by omega
          have h0n : 0 < i := by omega
          have HI := Lib.hid hi'
          clear h4 HXR hy hyw hi'
          subst e5 e6
          go_wp2
          go_quiet (fail)
          go_wp2
          go_ret
          exact ⟨by rw [hR.out]; rfl, below_drewN HR.out.2.2 _⟩
      have hok : okAtB was x = true := HA.out.2 ⟨⟨h1', h2'⟩, fun e => h3 (HM0.out.1 e), h4, h5⟩
      have HN2 : Hid (okB 0 X = okB x.1 (X.drop (i + 1))) := Lib.hid (by rw [HR.out.2.1, HO.out, hok, HKD.out]; rfl)
      have HNW : Hid (WasAt X (i + 1) x.1) := Lib.hid (.inr ⟨i, x, rfl, HX2.out, rfl⟩)
      have h6 : ((kd == 2) = true ∧ (was == 3) = false) ∨ (kd == 2) = false := by
        by_cases e : kd = 2
        · exact .inl ⟨by rw [e]; rfl, by rw [beq_eq_false_iff_ne]; exact fun e2 => h5 ⟨e, e2⟩⟩
        · exact .inr (by rw [beq_eq_false_iff_ne]; exact e)
      rcases HR.out.1 with ⟨e0, e1⟩ | ⟨i', y, hi', hy, hyw⟩
      · have hi0 : ¬ 0 < i := by omega
        have HE0 := Lib.hid e0
        clear h4 h5 hok h1 h2 h3 HXR h6 e0
        go_wp2
        go_quiet (fail)
        go_wp2
        go_roundw
        case rel => exact ⟨i + 1, x.1, by go_num, hlt, Lib.hid ⟨HNW.out, HN2.out, below_drewN HR.out.2.2 _⟩⟩
        case measure => simp [RowKit.intOf]; omega
      · obtain ⟨b2, o2, y2, ad2, m2, cm2, ea2, _, hy2, hd0, _, _, _, _, _⟩ := HXR.at (i := i') (by omega)
        cases ea2
        rw [hy] at hy2
        cases hy2
        rw [hyw] at hd0
        have hw : IntKind.i64.wrap ((i : Int) - 1) = (i' : Int) := by rw [show (i : Int) - 1 = (i' : Int) by omega]; exact IntWalk.i64_in _ (by omega)
        have hb' : (i' : Int) < (n : Int) := by omega
        have h0i : 0 < (i : Int) := by omega
        have h0n : 0 < i := by omega
        have HI := Lib.hid hi'
        clear h4 h5 hok h1 h2 h3 HXR hy hyw hi'
        rcases h6 with ⟨q1, q2⟩ | q1
        all_goals
          go_wp2
          go_quiet (fail)
          go_wp2
          go_roundw
          case rel => exact ⟨i + 1, x.1, by go_num, hlt, Lib.hid ⟨HNW.out, HN2.out, below_drewN HR.out.2.2 _⟩⟩
          case measure => simp [RowKit.intOf]; omega
    · obtain rfl : i = n := by omega
      have hd : X.drop i = [] := List.drop_of_length_le (by rw [HN.out]; exact Nat.le_refl _)
      have hck : checkB X = (wholeB (sideI 2 X) && wholeB (sideI 3 X)) := by
        unfold checkB
        rw [HR.out.2.1, hd]
        simp [okB]
      obtain ⟨A, hA⟩ : ∃ A, A = sideI 2 X := ⟨_, rfl⟩
      obtain ⟨C, hC⟩ : ∃ C, C = sideI 3 X := ⟨_, rfl⟩
      have lA : A.flatten.length ≤ 67108864 := by rw [hA]; exact Nat.le_trans (sideI_bytes _ _) HF.out.2.2
      have lC : C.flatten.length ≤ 67108864 := by rw [hC]; exact Nat.le_trans (sideI_bytes _ _) HF.out.2.2
      rw [← hA, ← hC] at hck
      have HXR : Hid (ReadsK wr a i X) := Lib.hid (HX.out.keep HR.out.2.2 (Nat.le_refl _))
      have hwA : wholeB A = (decide (A.length ≤ 512) && (splitD A.flatten == A)) := rfl
      have hwC : wholeB C = (decide (C.length ≤ 512) && (splitD C.flatten == C)) := rfl
      rw [hwA, hwC] at hck
      have HCK := Lib.hid hck
      have HEA := Lib.hid hA
      have HEC := Lib.hid hC
      have HLA := Lib.hid lA
      have HLC := Lib.hid lC
      clear hd hck hA hC hwA hwC lA lC
      go_upto_region 9 with (first
        | (go_at_call_of 51 (Value.int .i64 2); refine (sideR wr a i c X 2 HXR.out (by omega) (by have := HF.out.2.1; omega)).mono ?_; rintro e w1 ⟨v1, rfl, hO1, hb1⟩; rw [← HEA.out] at hO1; obtain ⟨a1, c1, rfl, hr1, hc1, hm1⟩ := readsS_own hO1; have HR1 := Lib.hid hr1; have HC1 := Lib.hid hc1; have HM1 := Lib.hid hm1; have HB1 := Lib.hid hb1; clear hO1 hb1 hr1 hc1 hm1; obtain ⟨n1, hn1⟩ : ∃ n1, n1 = A.length := ⟨_, rfl⟩; rw [← hn1] at HR1 HC1 HCK ⊢; clear hn1)
        | (go_at_call_of 51 (Value.int .i64 3); refine (sideR w1 a i c X 3 (HXR.out.keep HB1.out (Nat.le_refl _)) (by omega) (by have := HF.out.2.1; omega)).mono ?_; rintro e w3 ⟨v3, rfl, hO3, hb3⟩; rw [← HEC.out] at hO3; obtain ⟨a3, c3, rfl, hr3, hc3, hm3⟩ := readsS_own hO3; have HR3 := Lib.hid hr3; have HC3 := Lib.hid hc3; have HM3 := Lib.hid hm3; have HB3 := Lib.hid (HB1.out.trans (hb3.mono HB1.out.size)); have HR13 := Lib.hid (HR1.out.keep hb3 (Nat.le_refl _)); clear hO3 hb3 hr3 hc3 hm3; obtain ⟨n3, hn3⟩ : ∃ n3, n3 = C.length := ⟨_, rfl⟩; rw [← hn3] at HR3 HC3 HCK ⊢; clear hn3))
      have HBW : Hid (Below w.heap.size w w3) := Lib.hid (HR.out.2.2.trans (HB3.out.mono hwb))
      have hw3 := HBW.out.size
      by_cases l1 : 512 < n1
      · rw [decide_eq_false (show ¬ n1 ≤ 512 by omega)] at HCK
        have l1' : (512 : Int) < (n1 : Int) := by omega
        go_wp2
        go_ret
        exact ⟨by rw [HCK.out]; rfl, HBW.out⟩
      have l1' : (n1 : Int) ≤ 512 := by omega
      by_cases l3 : 512 < n3
      · rw [decide_eq_false (show ¬ n3 ≤ 512 by omega)] at HCK
        have l3' : (512 : Int) < (n3 : Int) := by omega
        go_wp2
        go_ret
        exact ⟨by rw [HCK.out]; simp [errP], HBW.out⟩
      have l3' : (n3 : Int) ≤ 512 := by omega
      rw [decide_eq_true (show n1 ≤ 512 by omega), decide_eq_true (show n3 ≤ 512 by omega), Bool.true_and, Bool.true_and] at HCK
      by_cases g1 : (splitD A.flatten == A) = true
      · by_cases g3 : (splitD C.flatten == C) = true
        all_goals try rw [Bool.not_eq_true] at g3
        all_goals
          rw [g1, g3] at HCK
          have HG1 := Lib.hid g1
          have HG3 := Lib.hid g3
          clear g1 g3
          go_wp2_with (first
            | (go_at_call_of 52 (Value.slice a1 n1 c1); refine (joinR w3 a1 n1 c1 A HR13.out (by omega) (Nat.le_trans HLA.out (by omega))).mono ?_; rintro e w4 ⟨rfl, hb4⟩; have HB4 := Lib.hid hb4; clear hb4)
            | (go_at_call_of 44 (Value.string (bstr A.flatten)); refine (splitR w4 A.flatten HLA.out).mono ?_; rintro e w5 ⟨a5, n5, c5, rfl, hn5, hc5, hm5, hR5, hb5⟩; have HR5 := Lib.hid hR5; have HM5 := Lib.hid hm5; have hq5 : n5 ≤ 4611686018427387904 := by { have h1 := hn5; have h2 := splitD_len2 A.flatten; have h3 := HLA.out; omega }; have HB5 := Lib.hid (HB4.out.trans (hb5.mono HB4.out.size)); clear hR5 hm5 hb5 hn5)
            | (go_at_call_of 47 (Value.slice a1 n1 c1); refine (eqTexts w5 a5 a1 n5 n1 c5 c1 _ A HR5.out (HR13.out.keep HB5.out (Nat.le_refl _)) hq5 (by omega)).mono ?_; rw [HG1.out]; rintro e w6 ⟨rfl, hq6⟩; have HB6 := Lib.hid (HB5.out.trans ((hq6.below _).mono (Nat.le_refl _))); clear hq6)
            | (go_at_call_of 52 (Value.slice a3 n3 c3); refine (joinR w6 a3 n3 c3 C (HR3.out.keep HB6.out (Nat.le_refl _)) (by omega) (Nat.le_trans HLC.out (by omega))).mono ?_; rintro e w7 ⟨rfl, hb7⟩; have HB7 := Lib.hid (HB6.out.trans (hb7.mono HB6.out.size)); clear hb7)
            | (go_at_call_of 44 (Value.string (bstr C.flatten)); refine (splitR w7 C.flatten HLC.out).mono ?_; rintro e w8 ⟨a8, n8, c8, rfl, hn8, hc8, hm8, hR8, hb8⟩; have HR8 := Lib.hid hR8; have HM8 := Lib.hid hm8; have hq8 : n8 ≤ 4611686018427387904 := by { have h1 := hn8; have h2 := splitD_len2 C.flatten; have h3 := HLC.out; omega }; have HB8 := Lib.hid (HB7.out.trans (hb8.mono HB7.out.size)); clear hR8 hm8 hb8 hn8)
            | (go_at_call_of 47 (Value.slice a3 n3 c3); refine (eqTexts w8 a8 a3 n8 n3 c8 c3 _ C HR8.out (HR3.out.keep HB8.out (Nat.le_refl _)) hq8 (by omega)).mono ?_; rw [HG3.out]; rintro e w9 ⟨rfl, hq9⟩; have HB9 := Lib.hid (HB8.out.trans ((hq9.below _).mono (Nat.le_refl _))); clear hq9))
          go_ret
          exact ⟨by rw [HCK.out]; rfl, HBW.out.trans (HB9.out.mono hw3)⟩
      · rw [Bool.not_eq_true] at g1
        rw [g1] at HCK
        have HG1 := Lib.hid g1
        clear g1
        go_wp2_with (first
          | (go_at_call_of 52 (Value.slice a1 n1 c1); refine (joinR w3 a1 n1 c1 A HR13.out (by omega) (Nat.le_trans HLA.out (by omega))).mono ?_; rintro e w4 ⟨rfl, hb4⟩; have HB4 := Lib.hid hb4; clear hb4)
          | (go_at_call_of 44 (Value.string (bstr A.flatten)); refine (splitR w4 A.flatten HLA.out).mono ?_; rintro e w5 ⟨a5, n5, c5, rfl, hn5, hc5, hm5, hR5, hb5⟩; have HR5 := Lib.hid hR5; have HM5 := Lib.hid hm5; have hq5 : n5 ≤ 4611686018427387904 := by { have h1 := hn5; have h2 := splitD_len2 A.flatten; have h3 := HLA.out; omega }; have HB5 := Lib.hid (HB4.out.trans (hb5.mono HB4.out.size)); clear hR5 hm5 hb5 hn5)
          | (go_at_call_of 47 (Value.slice a1 n1 c1); refine (eqTexts w5 a5 a1 n5 n1 c5 c1 _ A HR5.out (HR13.out.keep HB5.out (Nat.le_refl _)) hq5 (by omega)).mono ?_; rw [HG1.out]; rintro e w6 ⟨rfl, hq6⟩; have HB6 := Lib.hid (HB5.out.trans ((hq6.below _).mono (Nat.le_refl _))); clear hq6))
        go_ret
        exact ⟨by rw [HCK.out]; rfl, HBW.out.trans (HB6.out.mono hw3)⟩
end Go.Proofs.YtnbihjocdlpplaaDoor
/- Does a patch fit, what does it make, how many lines go and come: by both. -/
namespace Go.Proofs.YtnbihjocdlpplaaDoor
set_option linter.unusedVariables false
set_option linter.unusedSimpArgs false
open Go.RowKit
open Go.Lib
set_option maxHeartbeats 4000000 in
set_option maxRecDepth 100000 in
theorem fitsC (w : World) (s : List UInt8) (a : Option Addr) (n c : Nat) (X : List HkI) (hX : ReadsK w a n X) (hF : Fit X) (hT : Tabs w) :
    Calls Tryd.prog 53 #[.string (bstr s), .slice a n c] w fun e w' => e = .returned (.bool (fitsB s X)) ∧ Below w.heap.size w w' := by
  have HX := Lib.hid hX
  have HF := Lib.hid hF
  have hn : n ≤ 16777216 := by rw [← hX.len]; exact hF.1
  have HC := Lib.hid (checkC w a n c X hX hF hT)
  obtain ⟨A, hA⟩ : ∃ A, A = sideI 2 X := ⟨_, rfl⟩
  have lA : A.flatten.length ≤ 67108864 := by rw [hA]; exact Nat.le_trans (sideI_bytes _ _) hF.2.2
  have hfb : fitsB s X = (checkB X && (A.flatten == s)) := by rw [hA]; rfl
  have HEA := Lib.hid hA
  have HFB := Lib.hid hfb
  clear hX hF hT hA hfb
  by_cases hk : checkB X = true
  · rw [hk, Bool.true_and] at HFB
    have HK : Hid (errP (checkB X) = 0) := Lib.hid (by rw [hk]; rfl)
    rw [HK.out] at HC
    clear hk
    have hcases : (A.flatten == s) = true ∨ (A.flatten == s) = false := by cases (A.flatten == s) <;> simp
    rcases hcases with q | q
    all_goals
      rw [q] at HFB
      have hbe := q
      go_enter Tryd.func53, Tryd.ntmps53
      go_wp2_with (first
        | (go_at_call 19; refine (HC.out).mono ?_; rintro e w1 ⟨rfl, hb1⟩; have HB1 := Lib.hid hb1; clear hb1)
        | (go_at_call 50; refine (sideC w1 a n c X 2 (HX.out.keep HB1.out (Nat.le_refl _)) (by omega) (by have := HF.out.2.1; omega)).mono ?_; rintro e w2 ⟨v2, rfl, hO2, hb2⟩; rw [← HEA.out] at hO2; obtain ⟨a2, c2, rfl, hr2, hc2, hm2⟩ := readsS_own hO2; have HR2 := Lib.hid hr2; have HC2 := Lib.hid hc2; have hlA2 : A.length ≤ 16777216 := by { have h1 := HF.out.2.1; have h2 := sideI_len 2 X; rw [← HEA.out] at h2; omega }; have HB2 := Lib.hid (HB1.out.trans (hb2.mono HB1.out.size)); clear hO2 hb2 hr2 hc2 hm2; obtain ⟨n2, hn2⟩ : ∃ n2, n2 = A.length := ⟨_, rfl⟩; rw [← hn2] at HR2 HC2 hlA2 ⊢; clear hn2)
        | (go_at_call 54; refine (joinC w2 a2 n2 c2 A HR2.out HC2.out (by omega) (by omega)).mono ?_; rintro e w3 ⟨rfl, hb3⟩; have HB3 := Lib.hid (HB2.out.trans (hb3.mono HB2.out.size)); clear hb3))
      go_ret
      exact ⟨by rw [HFB.out]; rfl, HB3.out⟩
  · rw [Bool.not_eq_true] at hk
    rw [hk, Bool.false_and] at HFB
    have HK : Hid (errP (checkB X) = 310) := Lib.hid (by rw [hk]; rfl)
    rw [HK.out] at HC
    clear hk
    go_enter Tryd.func53, Tryd.ntmps53
    go_wp2_with (go_at_call 19; refine (HC.out).mono ?_; rintro e w1 ⟨rfl, hb1⟩; have HB1 := Lib.hid hb1; clear hb1)
    go_ret
    exact ⟨by rw [HFB.out]; rfl, HB1.out⟩
/-- what Apply answers -/
def applyE (s : List UInt8) (X : List HkI) : Ending := if fitsB s X = true then .returned (.tuple #[.string (bstr (sideI 3 X).flatten), .int .i64 0]) else .returned (.tuple #[.string (bstr []), .int .i64 310])
set_option maxHeartbeats 4000000 in
set_option maxRecDepth 100000 in
theorem applyC (w : World) (s : List UInt8) (a : Option Addr) (n c : Nat) (X : List HkI) (hX : ReadsK w a n X) (hF : Fit X) (hT : Tabs w) :
    Calls Tryd.prog 22 #[.string (bstr s), .slice a n c] w fun e w' => e = applyE s X ∧ Below w.heap.size w w' := by
  have HX := Lib.hid hX
  have HF := Lib.hid hF
  have hn : n ≤ 16777216 := by rw [← hX.len]; exact hF.1
  have HC := Lib.hid (fitsC w s a n c X hX hF hT)
  obtain ⟨A, hA⟩ : ∃ A, A = sideI 3 X := ⟨_, rfl⟩
  have lA : A.flatten.length ≤ 67108864 := by rw [hA]; exact Nat.le_trans (sideI_bytes _ _) hF.2.2
  have HEA := Lib.hid hA
  by_cases hk : fitsB s X = true
  · have HE : Hid (applyE s X = .returned (.tuple #[.string (bstr A.flatten), .int .i64 0])) := Lib.hid (by unfold applyE; rw [if_pos hk, hA])
    rw [hk] at HC
    clear hX hF hT hA hk
    go_enter Tryd.func22, Tryd.ntmps22
    go_wp2_with (first
      | (go_at_call 53; refine (HC.out).mono ?_; rintro e w1 ⟨rfl, hb1⟩; have HB1 := Lib.hid hb1; clear hb1)
      | (go_at_call 50; refine (sideC w1 a n c X 3 (HX.out.keep HB1.out (Nat.le_refl _)) (by omega) (by have := HF.out.2.1; omega)).mono ?_; rintro e w2 ⟨v2, rfl, hO2, hb2⟩; rw [← HEA.out] at hO2; obtain ⟨a2, c2, rfl, hr2, hc2, hm2⟩ := readsS_own hO2; have HR2 := Lib.hid hr2; have HC2 := Lib.hid hc2; have hlA2 : A.length ≤ 16777216 := by { have h1 := HF.out.2.1; have h2 := sideI_len 3 X; rw [← HEA.out] at h2; omega }; have HB2 := Lib.hid (HB1.out.trans (hb2.mono HB1.out.size)); clear hO2 hb2 hr2 hc2 hm2; obtain ⟨n2, hn2⟩ : ∃ n2, n2 = A.length := ⟨_, rfl⟩; rw [← hn2] at HR2 HC2 hlA2 ⊢; clear hn2)
      | (go_at_call 54; refine (joinC w2 a2 n2 c2 A HR2.out HC2.out (by omega) (by omega)).mono ?_; rintro e w3 ⟨rfl, hb3⟩; have HB3 := Lib.hid (HB2.out.trans (hb3.mono HB2.out.size)); clear hb3))
    go_ret2
    exact ⟨by rw [HE.out]; rfl, HB3.out⟩
  · have HE : Hid (applyE s X = .returned (.tuple #[.string (bstr []), .int .i64 310])) := Lib.hid (by unfold applyE; rw [if_neg hk])
    rw [Bool.not_eq_true] at hk
    rw [hk] at HC
    clear hX hF hT hA hk
    go_enter Tryd.func22, Tryd.ntmps22
    go_wp2_with (go_at_call 53; refine (HC.out).mono ?_; rintro e w1 ⟨rfl, hb1⟩; have HB1 := Lib.hid hb1; clear hb1)
    go_ret2
    exact ⟨by rw [HE.out]; rfl, HB1.out⟩
set_option maxHeartbeats 4000000 in
set_option maxRecDepth 100000 in
theorem applyR (w : World) (s : List UInt8) (a : Option Addr) (n c : Nat) (X : List HkI) (hX : ReadsK w a n X) (hF : Fit X) :
    Calls Tryd.prog 23 #[.string (bstr s), .slice a n c] w fun e w' => e = applyE s X ∧ Below w.heap.size w w' := by
  have HX := Lib.hid hX
  have HF := Lib.hid hF
  have hn : n ≤ 16777216 := by rw [← hX.len]; exact hF.1
  have HC := Lib.hid (checkR w a n c X hX hF)
  obtain ⟨A, hA⟩ : ∃ A, A = sideI 2 X := ⟨_, rfl⟩
  obtain ⟨C, hC⟩ : ∃ C, C = sideI 3 X := ⟨_, rfl⟩
  have lA : A.flatten.length ≤ 67108864 := by rw [hA]; exact Nat.le_trans (sideI_bytes _ _) hF.2.2
  have lC : C.flatten.length ≤ 67108864 := by rw [hC]; exact Nat.le_trans (sideI_bytes _ _) hF.2.2
  have hfb : fitsB s X = (checkB X && (A.flatten == s)) := by rw [hA]; rfl
  have HEA := Lib.hid hA
  have HEC := Lib.hid hC
  have HFB := Lib.hid hfb
  have hE1 : fitsB s X = true → applyE s X = .returned (.tuple #[.string (bstr C.flatten), .int .i64 0]) := fun h => by unfold applyE; rw [if_pos h, hC]
  have hE2 : fitsB s X = false → applyE s X = .returned (.tuple #[.string (bstr []), .int .i64 310]) := fun h => by unfold applyE; rw [h]; rfl
  have HE1 := Lib.hid hE1
  have HE2 := Lib.hid hE2
  clear hX hF hA hfb hC hE1 hE2
  by_cases hk : checkB X = true
  · rw [hk, Bool.true_and] at HFB
    have HK : Hid (errP (checkB X) = 0) := Lib.hid (by rw [hk]; rfl)
    rw [HK.out] at HC
    clear hk
    by_cases q : A.flatten = s
    · have hbe : (A.flatten == s) = true := by rw [beq_iff_eq]; exact q
      have hbn : (A.flatten != s) = false := by rw [q]; simp
      rw [hbe] at HFB
      have HEE := Lib.hid (HE1.out HFB.out)
      clear q
      go_enter Tryd.func23, Tryd.ntmps23
      go_wp2_with (first
        | (go_at_call 20; refine (HC.out).mono ?_; rintro e w1 ⟨rfl, hb1⟩; have HB1 := Lib.hid hb1; clear hb1)
        | (go_at_call_of 51 (Value.int .i64 2); refine (sideR w1 a n c X 2 (HX.out.keep HB1.out (Nat.le_refl _)) (by omega) (by have := HF.out.2.1; omega)).mono ?_; rintro e w2 ⟨v2, rfl, hO2, hb2⟩; rw [← HEA.out] at hO2; obtain ⟨a2, c2, rfl, hr2, hc2, hm2⟩ := readsS_own hO2; have HR2 := Lib.hid hr2; have hlA2 : A.length ≤ 16777216 := by { have h1 := HF.out.2.1; have h2 := sideI_len 2 X; rw [← HEA.out] at h2; omega }; have HB2 := Lib.hid (HB1.out.trans (hb2.mono HB1.out.size)); clear hO2 hb2 hr2 hc2 hm2; obtain ⟨n2, hn2⟩ : ∃ n2, n2 = A.length := ⟨_, rfl⟩; rw [← hn2] at HR2 hlA2 ⊢; clear hn2)
        | (go_at_call_of 52 (Value.slice a2 n2 c2); refine (joinR w2 a2 n2 c2 A HR2.out (by omega) (by omega)).mono ?_; rintro e w3 ⟨rfl, hb3⟩; have HB3 := Lib.hid (HB2.out.trans (hb3.mono HB2.out.size)); clear hb3)
        | (go_at_call_of 51 (Value.int .i64 3); refine (sideR w3 a n c X 3 (HX.out.keep HB3.out (Nat.le_refl _)) (by omega) (by have := HF.out.2.1; omega)).mono ?_; rintro e w4 ⟨v4, rfl, hO4, hb4⟩; rw [← HEC.out] at hO4; obtain ⟨a4, c4, rfl, hr4, hc4, hm4⟩ := readsS_own hO4; have HR4 := Lib.hid hr4; have hlA4 : C.length ≤ 16777216 := by { have h1 := HF.out.2.1; have h2 := sideI_len 3 X; rw [← HEC.out] at h2; omega }; have HB4 := Lib.hid (HB3.out.trans (hb4.mono HB3.out.size)); clear hO4 hb4 hr4 hc4 hm4; obtain ⟨n4, hn4⟩ : ∃ n4, n4 = C.length := ⟨_, rfl⟩; rw [← hn4] at HR4 hlA4 ⊢; clear hn4)
        | (go_at_call_of 52 (Value.slice a4 n4 c4); refine (joinR w4 a4 n4 c4 C HR4.out (by omega) (by omega)).mono ?_; rintro e w5 ⟨rfl, hb5⟩; have HB5 := Lib.hid (HB4.out.trans (hb5.mono HB4.out.size)); clear hb5))
      go_ret2
      exact ⟨by rw [HEE.out]; rfl, HB5.out⟩
    · have hbe : (A.flatten == s) = false := by rw [beq_eq_false_iff_ne]; exact q
      have hbn : (A.flatten != s) = true := by rw [bne_iff_ne]; exact q
      rw [hbe] at HFB
      have HEE := Lib.hid (HE2.out HFB.out)
      clear q
      go_enter Tryd.func23, Tryd.ntmps23
      go_wp2_with (first
        | (go_at_call 20; refine (HC.out).mono ?_; rintro e w1 ⟨rfl, hb1⟩; have HB1 := Lib.hid hb1; clear hb1)
        | (go_at_call_of 51 (Value.int .i64 2); refine (sideR w1 a n c X 2 (HX.out.keep HB1.out (Nat.le_refl _)) (by omega) (by have := HF.out.2.1; omega)).mono ?_; rintro e w2 ⟨v2, rfl, hO2, hb2⟩; rw [← HEA.out] at hO2; obtain ⟨a2, c2, rfl, hr2, hc2, hm2⟩ := readsS_own hO2; have HR2 := Lib.hid hr2; have hlA2 : A.length ≤ 16777216 := by { have h1 := HF.out.2.1; have h2 := sideI_len 2 X; rw [← HEA.out] at h2; omega }; have HB2 := Lib.hid (HB1.out.trans (hb2.mono HB1.out.size)); clear hO2 hb2 hr2 hc2 hm2; obtain ⟨n2, hn2⟩ : ∃ n2, n2 = A.length := ⟨_, rfl⟩; rw [← hn2] at HR2 hlA2 ⊢; clear hn2)
        | (go_at_call_of 52 (Value.slice a2 n2 c2); refine (joinR w2 a2 n2 c2 A HR2.out (by omega) (by omega)).mono ?_; rintro e w3 ⟨rfl, hb3⟩; have HB3 := Lib.hid (HB2.out.trans (hb3.mono HB2.out.size)); clear hb3))
      go_ret2
      exact ⟨by rw [HEE.out]; rfl, HB3.out⟩
  · rw [Bool.not_eq_true] at hk
    rw [hk, Bool.false_and] at HFB
    have HK : Hid (errP (checkB X) = 310) := Lib.hid (by rw [hk]; rfl)
    rw [HK.out] at HC
    have HEE := Lib.hid (HE2.out HFB.out)
    clear hk
    go_enter Tryd.func23, Tryd.ntmps23
    go_wp2_with (go_at_call 20; refine (HC.out).mono ?_; rintro e w1 ⟨rfl, hb1⟩; have HB1 := Lib.hid hb1; clear hb1)
    go_ret2
    exact ⟨by rw [HEE.out]; rfl, HB1.out⟩
theorem distI_next {X : List HkI} {i : Nat} {x : HkI} (h : X[i]? = some x) : distI (X.take (i + 1)) = distI (X.take i) + (if x.1 = 2 ∨ x.1 = 3 then x.2.length else 0) := by
  rw [take_next h]
  unfold distI
  simp
theorem distI_le (X : List HkI) : distI X ≤ linesK X := by
  induction X with
  | nil => exact Nat.le_refl _
  | cons x X ih =>
    unfold distI linesK at *
    rw [List.map_cons, List.sum_cons, List.map_cons, List.sum_cons]
    have h2 : (if x.1 = 2 ∨ x.1 = 3 then x.2.length else 0) ≤ x.2.length := by split <;> omega
    omega
set_option maxHeartbeats 4000000 in
set_option maxRecDepth 100000 in
theorem distC (w : World) (a : Option Addr) (n c : Nat) (X : List HkI) (hX : ReadsK w a n X) (hF : Fit X) :
    Calls Tryd.prog 17 #[.slice a n c] w fun e w' => e = .returned (.int .i64 (distI X : Int)) ∧ Below w.heap.size w w' := by
  have HX := Lib.hid hX
  have HN := Lib.hid hX.len
  have HL := Lib.hid hF.2.1
  have hn : n ≤ 16777216 := by rw [← hX.len]; exact hF.1
  clear hX hF
  go_enter Tryd.func17, Tryd.ntmps17
  go_wp2
  go_loopw [3, 8] (fun ut ui wr => ∃ i t : Nat, ut = .int .i64 (t : Int) ∧ ui = .int .i64 (i : Int) ∧ i ≤ n ∧ Hid (t = distI (X.take i) ∧ Below w.heap.size w wr)) (fun _ ui _ => n - (RowKit.intOf ui).toNat)
  case atStart => exact ⟨0, 0, rfl, rfl, Nat.zero_le _, Lib.hid ⟨rfl, Below.refl _ _⟩⟩
  case round =>
    obtain ⟨i, t, rfl, rfl, hi, HR⟩ := hrel
    by_cases hlt : i < n
    · obtain ⟨b, off, x, ad, m, cm, rfl, hb, hx, hc0, hc1, hrs, hmc, hcm, hm⟩ := (HX.out.keep HR.out.2 (Nat.le_refl _)).at hlt
      have hnx := distI_next hx
      rw [← HR.out.1, hm] at hnx
      have hlx : distI (X.take (i + 1)) ≤ 16777216 := Nat.le_trans (distI_le _) (Nat.le_trans (linesK_take _ _) HL.out)
      obtain ⟨kd, hkd⟩ : ∃ kd, kd = x.1 := ⟨_, rfl⟩
      rw [← hkd] at hc0 hnx
      have hwb := HR.out.2.size
      have hBA : Below w.heap.size w (wr.alloc (.cells #[.int .i64 kd, .slice ad m cm] 80)) := HR.out.2.alloc hwb _
      have HBA := Lib.hid hBA
      have hit : (i : Int) < (n : Int) := by omega
      clear hx hrs hm hmc hcm hkd hBA
      by_cases h1 : kd = 2 ∨ kd = 3
      · rw [if_pos h1] at hnx
        rw [hnx] at hlx
        have HNX := Lib.hid hnx
        have hbe : (kd == 2) = true ∨ ((kd == 2) = false ∧ (kd == 3) = true) := by
          rcases h1 with e | e
          · exact .inl (by rw [e]; rfl)
          · exact .inr ⟨by rw [e]; rfl, by rw [e]; rfl⟩
        clear h1 hnx
        rcases hbe with q1 | ⟨q1, q2⟩
        all_goals
          go_wp2
          go_roundw
          case rel => exact ⟨i + 1, t + m, by go_num, by go_num, hlt, Lib.hid ⟨HNX.out.symm, HBA.out⟩⟩
          case measure => simp [RowKit.intOf]; omega
      · rw [if_neg h1, Nat.add_zero] at hnx
        have HNX := Lib.hid hnx
        have q1 : (kd == 2) = false := by rw [beq_eq_false_iff_ne]; exact fun e => h1 (.inl e)
        have q2 : (kd == 3) = false := by rw [beq_eq_false_iff_ne]; exact fun e => h1 (.inr e)
        clear h1 hnx
        go_wp2
        go_roundw
        case rel => exact ⟨i + 1, t, rfl, by go_num, hlt, Lib.hid ⟨HNX.out.symm, HBA.out⟩⟩
        case measure => simp [RowKit.intOf]; omega
    · obtain rfl : i = n := by omega
      have hd : X.take i = X := List.take_of_length_le (by rw [HN.out]; exact Nat.le_refl _)
      have HD := Lib.hid hd
      clear hd
      go_wp2
      go_ret
      have h9 := HR.out.1
      rw [HD.out] at h9
      exact ⟨by rw [← h9]; rfl, HR.out.2⟩
set_option maxHeartbeats 4000000 in
set_option maxRecDepth 100000 in
theorem distR (w : World) (a : Option Addr) (n c : Nat) (X : List HkI) (hX : ReadsK w a n X) (hF : Fit X) :
    Calls Tryd.prog 21 #[.slice a n c] w fun e w' => e = .returned (.int .i64 (distI X : Int)) ∧ Below w.heap.size w w' := by
  have HX := Lib.hid hX
  have HN := Lib.hid hX.len
  have HL := Lib.hid hF.2.1
  have hn : n ≤ 16777216 := by rw [← hX.len]; exact hF.1
  clear hX hF
  go_enter Tryd.func21, Tryd.ntmps21
  go_wp2
  go_loopw [3, 4] (fun ut ui wr => ∃ i t : Nat, ut = .int .i64 (t : Int) ∧ ui = .int .i64 (i : Int) ∧ i ≤ n ∧ Hid (t = distI (X.take i) ∧ Below w.heap.size w wr)) (fun _ ui _ => n - (RowKit.intOf ui).toNat)
  case atStart => exact ⟨0, 0, rfl, rfl, Nat.zero_le _, Lib.hid ⟨rfl, Below.refl _ _⟩⟩
  case round =>
    obtain ⟨i, t, rfl, rfl, hi, HR⟩ := hrel
    by_cases hlt : i < n
    · obtain ⟨b, off, x, ad, m, cm, rfl, hb, hx, hc0, hc1, hrs, hmc, hcm, hm⟩ := (HX.out.keep HR.out.2 (Nat.le_refl _)).at hlt
      have hnx := distI_next hx
      rw [← HR.out.1, hm] at hnx
      have hlx : distI (X.take (i + 1)) ≤ 16777216 := Nat.le_trans (distI_le _) (Nat.le_trans (linesK_take _ _) HL.out)
      obtain ⟨kd, hkd⟩ : ∃ kd, kd = x.1 := ⟨_, rfl⟩
      rw [← hkd] at hc0 hnx
      have hit : (i : Int) < (n : Int) := by omega
      clear hx hrs hm hmc hcm hkd
      by_cases h1 : kd = 2 ∨ kd = 3
      · rw [if_pos h1] at hnx
        rw [hnx] at hlx
        have HNX := Lib.hid hnx
        have hbe : (kd == 2) = true ∨ ((kd == 2) = false ∧ (kd == 3) = true) := by
          rcases h1 with e | e
          · exact .inl (by rw [e]; rfl)
          · exact .inr ⟨by rw [e]; rfl, by rw [e]; rfl⟩
        clear h1 hnx
        rcases hbe with q1 | ⟨q1, q2⟩
        all_goals
          go_wp2
          go_roundw
          case rel => exact ⟨i + 1, t + m, by go_num, by go_num, hlt, Lib.hid ⟨HNX.out.symm, HR.out.2⟩⟩
          case measure => simp [RowKit.intOf]; omega
      · rw [if_neg h1, Nat.add_zero] at hnx
        have HNX := Lib.hid hnx
        have q1 : (kd == 2) = false := by rw [beq_eq_false_iff_ne]; exact fun e => h1 (.inl e)
        have q2 : (kd == 3) = false := by rw [beq_eq_false_iff_ne]; exact fun e => h1 (.inr e)
        clear h1 hnx
        go_wp2
        go_roundw
        case rel => exact ⟨i + 1, t, rfl, by go_num, hlt, Lib.hid ⟨HNX.out.symm, HR.out.2⟩⟩
        case measure => simp [RowKit.intOf]; omega
    · obtain rfl : i = n := by omega
      have hd : X.take i = X := List.take_of_length_le (by rw [HN.out]; exact Nat.le_refl _)
      have HD := Lib.hid hd
      clear hd
      go_wp2
      go_ret
      have h9 := HR.out.1
      rw [HD.out] at h9
      exact ⟨by rw [← h9]; rfl, HR.out.2⟩
end Go.Proofs.YtnbihjocdlpplaaDoor
/- Append to one of several rows of one kind: which block the new row lies in. -/
namespace Go.Proofs.YtnbihjocdlpplaaDoor
set_option linter.unusedVariables false
set_option linter.unusedSimpArgs false
open Go.RowKit
open Go.Lib
theorem run_append_sep {P : Program} (w : World) (B : Nat) (t ty e : TypeId) (i : TypeInfo) (z : Value) (size bytes : Nat) (ht : P.underlying t = some (.slice e)) (hi : P.info? e = some i) (hz : i.zero = some z)
    (hsize : i.size = size) (hby : i.bytes = bytes) (hzs : z.cells.size = size) (hsz : 0 < size)
    (v : Value) (n : Nat) (xs : List Value) (hown : w.ownsRow B e size v n xs)
    (a : Addr) (m c : Nat) (news : List Value) (hm : 0 < m) (hl : news.length = m * size) (hnews : ∀ j u, news[j]? = some u → w.cell? (a.add j) = some u) (h1 : ∀ u ∈ news, u.oneCell' = true)
    (h63 : n + m ≤ maxLen) (hbytes : (n + m) * bytes ≤ 140737488355328) (hbase : B ≤ w.heap.size) :
    ∃ v' w', (Builtin.append_ #[t, t] ty #[v, .slice (some a) m c]).run P w = .ok v' w' ∧ w'.ownsRow B e size v' (n + m) (xs ++ news) ∧ w.grownBy w' v.ownBlock ∧ (v'.ownBlock = v.ownBlock ∨ ∀ b, v'.ownBlock = some b → w.heap.size ≤ b) := by
  have hxl := hown.1
  rcases hown.2 with ⟨rfl, rfl⟩ | ⟨g, cap, cur, rfl, _⟩
  · obtain rfl : xs = [] := List.eq_nil_of_length_eq_zero (by simpa using hxl)
    obtain ⟨v', w', hrun, r1, r2, _⟩ := run_append_own (P := P) w w.heap.size t ty e i z size bytes ht hi hz hsize hby hzs hsz (.slice none 0 0) 0 [] (World.ownsRow_nil _ _ _ _) a m c news hl hnews h1 h63 hbytes (Nat.le_refl _)
    exact ⟨v', w', hrun, own_mono_size r1 hbase, r2, .inr fun b hb => (r1.lt b hb).1⟩
  · by_cases hroom : n + m ≤ cap
    · obtain ⟨w', hrun, r1, r2⟩ := run_append_fits (P := P) w B t ty e i size ht hi hsize g n cap xs hown a m c news hl hnews h1 hroom
      exact ⟨_, w', hrun, r1, r2, .inl rfl⟩
    · obtain ⟨v', w', hrun, r1, r2⟩ := run_append_arg_grows (P := P) w t ty e i z size bytes ht hi hz hsize hby hzs hsz ⟨g, 0, none⟩ n cap xs hxl (hown.cells rfl) a m c news hl hnews (by omega) h63 hbytes
      exact ⟨v', w', hrun, own_mono_size r1 hbase, ⟨r2.os, r2.tape, r2.output, r2.size, fun k hk _ => r2.block k hk (by simp)⟩, .inr fun b hb => (r1.lt b hb).1⟩
/-- what a step that appends one element leaves -/
def AppPost (wp : World) (B : Nat) (e : TypeId) (size : Nat) (v : Value) (n : Nat) (xs cs : List Value) (v' : Value) (w' : World) : Prop :=
  w'.ownsRow B e size v' (n + 1) (xs ++ cs) ∧ wp.grownBy w' v.ownBlock ∧ (v'.ownBlock = v.ownBlock ∨ ∀ b, v'.ownBlock = some b → wp.heap.size ≤ b)
theorem run_append_one {P : Program} {T ty e : TypeId} (hT : P.underlying T = some (.slice e)) (z : Value) (size bytes : Nat) (hinfo : (P.info? e).map (fun i => (i.zero, i.size, i.bytes)) = some (some z, size, bytes)) (hz : z.cells.size = size) (hs0 : 0 < size) (hby : bytes ≤ 4096)
    (B : Nat) (wp : World) (v : Value) (n : Nat) (xs cs : List Value) (hcs : cs.length = size) (hone : ∀ u ∈ cs, u.oneCell' = true) (hown : wp.ownsRow B e size v n xs) (hl : n ≤ 1073741824) (hB : B ≤ wp.heap.size) :
    ∃ v' w', (Builtin.append_ #[T, T] ty #[v, .slice (some ⟨wp.heap.size, 0, none⟩) 1 1]).run P (wp.alloc (.cells cs.toArray e)) = .ok v' w' ∧ AppPost wp B e size v n xs cs v' w' := by
  obtain ⟨i0, hi, hz0, hz1, hz2⟩ := info_parts hinfo
  have hsz : (wp.alloc (.cells cs.toArray e)).heap.size = wp.heap.size + 1 := by simp
  have hbt : (n + 1) * bytes ≤ 140737488355328 := by
    calc (n + 1) * bytes ≤ (n + 1) * 4096 := Nat.mul_le_mul (Nat.le_refl _) hby
      _ ≤ 140737488355328 := by omega
  obtain ⟨v', w', hrun, r1, r2, r3⟩ := run_append_sep (P := P) (wp.alloc (.cells cs.toArray e)) B T ty e i0 z size bytes hT hi hz0 hz1 hz2 hz hs0 v n xs (World.ownsRow.alloc hown _) ⟨wp.heap.size, 0, none⟩ 1 1 cs (by decide) (by rw [hcs, Nat.one_mul]) (new_cells _ _ _) hone (by unfold maxLen; omega) hbt (by omega)
  exact ⟨v', w', hrun, r1, grownBy_trans (grownBy_below ((Below.refl _ wp).alloc (Nat.le_refl _) _) _) r2, r3.imp id fun h b hb => by have := h b hb; omega⟩
/-- in a plain region -/
theorem appSep {T e : TypeId} {ops : Array Oper} {rest : List Oper} {o : Oper} {a : Act} {w : World} {Q : Exit → Act → World → Prop} (hgd : o.guard = none) (sl x : Operand) (ho : o.op = .call { callee := .builtin .append, args := #[sl, x], argTypes := #[T, T] })
    (hT : Tryd.prog.underlying T = some (.slice e)) (z : Value) (size bytes : Nat) (hinfo : (Tryd.prog.info? e).map (fun i => (i.zero, i.size, i.bytes)) = some (some z, size, bytes)) (hz : z.cells.size = size) (hs0 : 0 < size) (hby : bytes ≤ 4096)
    (B : Nat) (wp : World) (v : Value) (n : Nat) (xs cs : List Value) (hcs : cs.length = size) (hone : ∀ u ∈ cs, u.oneCell' = true) (hs : a.eval sl = v) (hown : wp.ownsRow B e size v n xs) (hx : a.eval x = .slice (some ⟨wp.heap.size, 0, none⟩) 1 1) (hw : w = wp.alloc (.cells cs.toArray e)) (hl : n ≤ 1073741824) (hB : B ≤ wp.heap.size)
    (h : ∀ v' w', AppPost wp B e size v n xs cs v' w' → wpList Tryd.prog ops Q rest (a.put o.dst v') w') : wpList Tryd.prog ops Q (o :: rest) a w := by
  subst hw
  obtain ⟨v', w', hrun, hp⟩ := run_append_one (ty := o.type) hT z size bytes hinfo hz hs0 hby B wp v n xs cs hcs hone hown hl hB
  refine wpList_plain hgd fun K hK => ?_
  unfold Oper.wp
  simp [execOp, ho, resolve, invoke, builtin, hs, hx, hrun, Result.andThen]
  exact hK _ _ (h v' w' hp)
/-- as one step of a region that draws its order -/
theorem stepSep {T e : TypeId} {w : World} {ops : Array Oper} {o : Oper} {a : Act} {K : Act → World → Prop} {Q : Exit → Act → World → Prop} {E : Prop} (hgd : o.guard = none) (sl x : Operand) (ho : o.op = .call { callee := .builtin .append, args := #[sl, x], argTypes := #[T, T] })
    (hT : Tryd.prog.underlying T = some (.slice e)) (z : Value) (size bytes : Nat) (hinfo : (Tryd.prog.info? e).map (fun i => (i.zero, i.size, i.bytes)) = some (some z, size, bytes)) (hz : z.cells.size = size) (hs0 : 0 < size) (hby : bytes ≤ 4096)
    (B : Nat) (wp : World) (v : Value) (n : Nat) (xs cs : List Value) (hcs : cs.length = size) (hone : ∀ u ∈ cs, u.oneCell' = true) (hs : a.eval sl = v) (hown : wp.ownsRow B e size v n xs) (hx : a.eval x = .slice (some ⟨wp.heap.size, 0, none⟩) 1 1) (hw : w = wp.alloc (.cells cs.toArray e)) (hl : n ≤ 1073741824) (hB : B ≤ wp.heap.size)
    (h : ∀ v' w', AppPost wp B e size v n xs cs v' w' → K (a.put o.dst v') w') : if Region.wanted o (yielded ops a.tmps) = true then Oper.wp Tryd.prog o a w K Q else E := by
  subst hw
  obtain ⟨v', w', hrun, hp⟩ := run_append_one (ty := o.type) hT z size bytes hinfo hz hs0 hby B wp v n xs cs hcs hone hown hl hB
  have hwd : Region.wanted o (yielded ops a.tmps) = true := by simp [Region.wanted, hgd]
  rw [if_pos hwd]
  unfold Oper.wp
  simp [execOp, ho, resolve, invoke, builtin, hs, hx, hrun, Result.andThen]
  exact h v' w' hp
end Go.Proofs.YtnbihjocdlpplaaDoor
