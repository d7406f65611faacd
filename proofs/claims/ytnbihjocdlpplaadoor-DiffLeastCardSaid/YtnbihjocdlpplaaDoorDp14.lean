/- Texts joined, one behind the other (DFit, DBack). -/
import Derived.Test.YtnbihjocdlpplaaDoorDp13
/- Does a patch fit, what does it make, how many lines go and come: by both. -/
namespace Go.Proofs.YtnbihjocdlpplaaDoor
set_option linter.unusedVariables false
set_option linter.unusedSimpArgs false
open Go.RowKit
open Go.Lib
set_option maxHeartbeats 4000000 in
set_option maxRecDepth 100000 in
theorem fitsC (w : World) (s : List UInt8) (a : Option Addr) (n c : Nat) (X : List HkI) (hX : ReadsK w a n X) (hF : Fit X) (hT : Tabs w) :
    Calls Tryd.prog 53 #[.string (bstr s), .slice a n c] w fun e w' => e = .returned (.bool (fitsB s X)) ∧ Below w.heap.size w w' := by
  have HX := Lib.hid hX
  have HF := Lib.hid hF
  have hn : n ≤ 16777216 := by rw [← hX.len]; exact hF.1
  have HC := Lib.hid (checkC w a n c X hX hF hT)
  obtain ⟨A, hA⟩ : ∃ A, A = sideI 2 X := ⟨_, rfl⟩
  have lA : A.flatten.length ≤ 67108864 := by rw [hA]; exact Nat.le_trans (sideI_bytes _ _) hF.2.2
  have hfb : fitsB s X = (checkB X && (A.flatten == s)) := by rw [hA]; rfl
  have HEA := Lib.hid hA
  have HFB := Lib.hid hfb
  clear hX hF hT hA hfb
  by_cases hk : checkB X = true
  · rw [hk, Bool.true_and] at HFB
    have HK : Hid (errP (checkB X) = 0) := Lib.hid (by rw [hk]; rfl)
    rw [HK.out] at HC
    clear hk
    have hcases : (A.flatten == s) = true ∨ (A.flatten == s) = false := by cases (A.flatten == s) <;> simp
    rcases hcases with q | q
    all_goals
      rw [q] at HFB
      have hbe := q
      go_enter Tryd.func53, Tryd.ntmps53
      go_wp2_with (first
        | (go_at_call 19; refine (HC.out).mono ?_; rintro e w1 ⟨rfl, hb1⟩; have HB1 := Lib.hid hb1; clear hb1)
        | (go_at_call 50; refine (sideC w1 a n c X 2 (HX.out.keep HB1.out (Nat.le_refl _)) (by omega) (by have := HF.out.2.1; omega)).mono ?_; rintro e w2 ⟨v2, rfl, hO2, hb2⟩; rw [← HEA.out] at hO2; obtain ⟨a2, c2, rfl, hr2, hc2, hm2⟩ := readsS_own hO2; have HR2 := Lib.hid hr2; have HC2 := Lib.hid hc2; have hlA2 : A.length ≤ 16777216 := by { have h1 := HF.out.2.1; have h2 := sideI_len 2 X; rw [← HEA.out] at h2; omega }; have HB2 := Lib.hid (HB1.out.trans (hb2.mono HB1.out.size)); clear hO2 hb2 hr2 hc2 hm2; obtain ⟨n2, hn2⟩ : ∃ n2, n2 = A.length := ⟨_, rfl⟩; rw [← hn2] at HR2 HC2 hlA2 ⊢; clear hn2)
        | (go_at_call 54; refine (joinC w2 a2 n2 c2 A HR2.out HC2.out (by omega) (by omega)).mono ?_; rintro e w3 ⟨rfl, hb3⟩; have HB3 := Lib.hid (HB2.out.trans (hb3.mono HB2.out.size)); clear hb3))
      go_ret
      exact ⟨by rw [HFB.out]; rfl, HB3.out⟩
  · rw [Bool.not_eq_true] at hk
    rw [hk, Bool.false_and] at HFB
    have HK : Hid (errP (checkB X) = 310) := Lib.hid (by rw [hk]; rfl)
    rw [HK.out] at HC
    clear hk
    go_enter Tryd.func53, Tryd.ntmps53
    go_wp2_with (go_at_call 19; refine (HC.out).mono ?_; rintro e w1 ⟨rfl, hb1⟩; have HB1 := Lib.hid hb1; clear hb1)
    go_ret
    exact ⟨by rw [HFB.out]; rfl, HB1.out⟩
/-- what Apply answers -/
def applyE (s : List UInt8) (X : List HkI) : Ending := if fitsB s X = true then .returned (.tuple #[.string (bstr (sideI 3 X).flatten), .int .i64 0]) else .returned (.tuple #[.string (bstr []), .int .i64 310])
set_option maxHeartbeats 4000000 in
set_option maxRecDepth 100000 in
theorem applyC (w : World) (s : List UInt8) (a : Option Addr) (n c : Nat) (X : List HkI) (hX : ReadsK w a n X) (hF : Fit X) (hT : Tabs w) :
    Calls Tryd.prog 22 #[.string (bstr s), .slice a n c] w fun e w' => e = applyE s X ∧ Below w.heap.size w w' := by
  have HX := Lib.hid hX
  have HF := Lib.hid hF
  have hn : n ≤ 16777216 := by rw [← hX.len]; exact hF.1
  have HC := Lib.hid (fitsC w s a n c X hX hF hT)
  obtain ⟨A, hA⟩ : ∃ A, A = sideI 3 X := ⟨_, rfl⟩
  have lA : A.flatten.length ≤ 67108864 := by rw [hA]; exact Nat.le_trans (sideI_bytes _ _) hF.2.2
  have HEA := Lib.hid hA
  by_cases hk : fitsB s X = true
  · have HE : Hid (applyE s X = .returned (.tuple #[.string (bstr A.flatten), .int .i64 0])) := Lib.hid (by unfold applyE; rw [if_pos hk, hA])
    rw [hk] at HC
    clear hX hF hT hA hk
    go_enter Tryd.func22, Tryd.ntmps22
    go_wp2_with (first
      | (go_at_call 53; refine (HC.out).mono ?_; rintro e w1 ⟨rfl, hb1⟩; have HB1 := Lib.hid hb1; clear hb1)
      | (go_at_call 50; refine (sideC w1 a n c X 3 (HX.out.keep HB1.out (Nat.le_refl _)) (by omega) (by have := HF.out.2.1; omega)).mono ?_; rintro e w2 ⟨v2, rfl, hO2, hb2⟩; rw [← HEA.out] at hO2; obtain ⟨a2, c2, rfl, hr2, hc2, hm2⟩ := readsS_own hO2; have HR2 := Lib.hid hr2; have HC2 := Lib.hid hc2; have hlA2 : A.length ≤ 16777216 := by { have h1 := HF.out.2.1; have h2 := sideI_len 3 X; rw [← HEA.out] at h2; omega }; have HB2 := Lib.hid (HB1.out.trans (hb2.mono HB1.out.size)); clear hO2 hb2 hr2 hc2 hm2; obtain ⟨n2, hn2⟩ : ∃ n2, n2 = A.length := ⟨_, rfl⟩; rw [← hn2] at HR2 HC2 hlA2 ⊢; clear hn2)
      | (go_at_call 54; refine (joinC w2 a2 n2 c2 A HR2.out HC2.out (by omega) (by omega)).mono ?_; rintro e w3 ⟨rfl, hb3⟩; have HB3 := Lib.hid (HB2.out.trans (hb3.mono HB2.out.size)); clear hb3))
    go_ret2
    exact ⟨by rw [HE.out]; rfl, HB3.out⟩
  · have HE : Hid (applyE s X = .returned (.tuple #[.string (bstr []), .int .i64 310])) := Lib.hid (by unfold applyE; rw [if_neg hk])
    rw [Bool.not_eq_true] at hk
    rw [hk] at HC
    clear hX hF hT hA hk
    go_enter Tryd.func22, Tryd.ntmps22
    go_wp2_with (go_at_call 53; refine (HC.out).mono ?_; rintro e w1 ⟨rfl, hb1⟩; have HB1 := Lib.hid hb1; clear hb1)
    go_ret2
    exact ⟨by rw [HE.out]; rfl, HB1.out⟩
set_option maxHeartbeats 4000000 in
set_option maxRecDepth 100000 in
theorem applyR (w : World) (s : List UInt8) (a : Option Addr) (n c : Nat) (X : List HkI) (hX : ReadsK w a n X) (hF : Fit X) :
    Calls Tryd.prog 23 #[.string (bstr s), .slice a n c] w fun e w' => e = applyE s X ∧ Below w.heap.size w w' := by
  have HX := Lib.hid hX
  have HF := Lib.hid hF
  have hn : n ≤ 16777216 := by rw [← hX.len]; exact hF.1
  have HC := Lib.hid (checkR w a n c X hX hF)
  obtain ⟨A, hA⟩ : ∃ A, A = sideI 2 X := ⟨_, rfl⟩
  obtain ⟨C, hC⟩ : ∃ C, C = sideI 3 X := ⟨_, rfl⟩
  have lA : A.flatten.length ≤ 67108864 := by rw [hA]; exact Nat.le_trans (sideI_bytes _ _) hF.2.2
  have lC : C.flatten.length ≤ 67108864 := by rw [hC]; exact Nat.le_trans (sideI_bytes _ _) hF.2.2
  have hfb : fitsB s X = (checkB X && (A.flatten == s)) := by rw [hA]; rfl
  have HEA := Lib.hid hA
  have HEC := Lib.hid hC
  have HFB := Lib.hid hfb
  have hE1 : fitsB s X = true → applyE s X = .returned (.tuple #[.string (bstr C.flatten), .int .i64 0]) := fun h => by unfold applyE; rw [if_pos h, hC]
  have hE2 : fitsB s X = false → applyE s X = .returned (.tuple #[.string (bstr []), .int .i64 310]) := fun h => by unfold applyE; rw [h]; rfl
  have HE1 := Lib.hid hE1
  have HE2 := Lib.hid hE2
  clear hX hF hA hfb hC hE1 hE2
  by_cases hk : checkB X = true
  · rw [hk, Bool.true_and] at HFB
    have HK : Hid (errP (checkB X) = 0) := Lib.hid (by rw [hk]; rfl)
    rw [HK.out] at HC
    clear hk
    by_cases q : A.flatten = s
    · have hbe : (A.flatten == s) = true := by rw [beq_iff_eq]; exact q
      have hbn : (A.flatten != s) = false := by rw [q]; simp
      rw [hbe] at HFB
      have HEE := Lib.hid (HE1.out HFB.out)
      clear q
      go_enter Tryd.func23, Tryd.ntmps23
      go_wp2_with (first
        | (go_at_call 20; refine (HC.out).mono ?_; rintro e w1 ⟨rfl, hb1⟩; have HB1 := Lib.hid hb1; clear hb1)
        | (go_at_call_of 51 (Value.int .i64 2); refine (sideR w1 a n c X 2 (HX.out.keep HB1.out (Nat.le_refl _)) (by omega) (by have := HF.out.2.1; omega)).mono ?_; rintro e w2 ⟨v2, rfl, hO2, hb2⟩; rw [← HEA.out] at hO2; obtain ⟨a2, c2, rfl, hr2, hc2, hm2⟩ := readsS_own hO2; have HR2 := Lib.hid hr2; have hlA2 : A.length ≤ 16777216 := by { have h1 := HF.out.2.1; have h2 := sideI_len 2 X; rw [← HEA.out] at h2; omega }; have HB2 := Lib.hid (HB1.out.trans (hb2.mono HB1.out.size)); clear hO2 hb2 hr2 hc2 hm2; obtain ⟨n2, hn2⟩ : ∃ n2, n2 = A.length := ⟨_, rfl⟩; rw [← hn2] at HR2 hlA2 ⊢; clear hn2)
        | (go_at_call_of 52 (Value.slice a2 n2 c2); refine (joinR w2 a2 n2 c2 A HR2.out (by omega) (by omega)).mono ?_; rintro e w3 ⟨rfl, hb3⟩; have HB3 := Lib.hid (HB2.out.trans (hb3.mono HB2.out.size)); clear hb3)
        | (go_at_call_of 51 (Value.int .i64 3); refine (sideR w3 a n c X 3 (HX.out.keep HB3.out (Nat.le_refl _)) (by omega) (by have := HF.out.2.1; omega)).mono ?_; rintro e w4 ⟨v4, rfl, hO4, hb4⟩; rw [← HEC.out] at hO4; obtain ⟨a4, c4, rfl, hr4, hc4, hm4⟩ := readsS_own hO4; have HR4 := Lib.hid hr4; have hlA4 : C.length ≤ 16777216 := by { have h1 := HF.out.2.1; have h2 := sideI_len 3 X; rw [← HEC.out] at h2; omega }; have HB4 := Lib.hid (HB3.out.trans (hb4.mono HB3.out.size)); clear hO4 hb4 hr4 hc4 hm4; obtain ⟨n4, hn4⟩ : ∃ n4, n4 = C.length := ⟨_, rfl⟩; rw [← hn4] at HR4 hlA4 ⊢; clear hn4)
        | (go_at_call_of 52 (Value.slice a4 n4 c4); refine (joinR w4 a4 n4 c4 C HR4.out (by omega) (by omega)).mono ?_; rintro e w5 ⟨rfl, hb5⟩; have HB5 := Lib.hid (HB4.out.trans (hb5.mono HB4.out.size)); clear hb5))
      go_ret2
      exact ⟨by rw [HEE.out]; rfl, HB5.out⟩
    · have hbe : (A.flatten == s) = false := by rw [beq_eq_false_iff_ne]; exact q
      have hbn : (A.flatten != s) = true := by rw [bne_iff_ne]; exact q
      rw [hbe] at HFB
      have HEE := Lib.hid (HE2.out HFB.out)
      clear q
      go_enter Tryd.func23, Tryd.ntmps23
      go_wp2_with (first
        | (go_at_call 20; refine (HC.out).mono ?_; rintro e w1 ⟨rfl, hb1⟩; have HB1 := Lib.hid hb1; clear hb1)
        | (go_at_call_of 51 (Value.int .i64 2); refine (sideR w1 a n c X 2 (HX.out.keep HB1.out (Nat.le_refl _)) (by omega) (by have := HF.out.2.1; omega)).mono ?_; rintro e w2 ⟨v2, rfl, hO2, hb2⟩; rw [← HEA.out] at hO2; obtain ⟨a2, c2, rfl, hr2, hc2, hm2⟩ := readsS_own hO2; have HR2 := Lib.hid hr2; have hlA2 : A.length ≤ 16777216 := by { have h1 := HF.out.2.1; have h2 := sideI_len 2 X; rw [← HEA.out] at h2; omega }; have HB2 := Lib.hid (HB1.out.trans (hb2.mono HB1.out.size)); clear hO2 hb2 hr2 hc2 hm2; obtain ⟨n2, hn2⟩ : ∃ n2, n2 = A.length := ⟨_, rfl⟩; rw [← hn2] at HR2 hlA2 ⊢; clear hn2)
        | (go_at_call_of 52 (Value.slice a2 n2 c2); refine (joinR w2 a2 n2 c2 A HR2.out (by omega) (by omega)).mono ?_; rintro e w3 ⟨rfl, hb3⟩; have HB3 := Lib.hid (HB2.out.trans (hb3.mono HB2.out.size)); clear hb3))
      go_ret2
      exact ⟨by rw [HEE.out]; rfl, HB3.out⟩
  · rw [Bool.not_eq_true] at hk
    rw [hk, Bool.false_and] at HFB
    have HK : Hid (errP (checkB X) = 310) := Lib.hid (by rw [hk]; rfl)
    rw [HK.out] at HC
    have HEE := Lib.hid (HE2.out HFB.out)
    clear hk
    go_enter Tryd.func23, Tryd.ntmps23
    go_wp2_with (go_at_call 20; refine (HC.out).mono ?_; rintro e w1 ⟨rfl, hb1⟩; have HB1 := Lib.hid hb1; clear hb1)
    go_ret2
    exact ⟨by rw [HEE.out]; rfl, HB1.out⟩
theorem distI_next {X : List HkI} {i : Nat} {x : HkI} (h : X[i]? = some x) : distI (X.take (i + 1)) = distI (X.take i) + (if x.1 = 2 ∨ x.1 = 3 then x.2.length else 0) := by
  rw [take_next h]
  unfold distI
  simp
theorem distI_le (X : List HkI) : distI X ≤ linesK X := by
  induction X with
  | nil => exact Nat.le_refl _
  | cons x X ih =>
    unfold distI linesK at *
    rw [List.map_cons, List.sum_cons, List.map_cons, List.sum_cons]
    have h2 : (if x.1 = 2 ∨ x.1 = 3 then x.2.length else 0) ≤ x.2.length := by split <;> omega
    omega
set_option maxHeartbeats 4000000 in
set_option maxRecDepth 100000 in
theorem distC (w : World) (a : Option Addr) (n c : Nat) (X : List HkI) (hX : ReadsK w a n X) (hF : Fit X) :
    Calls Tryd.prog 17 #[.slice a n c] w fun e w' => e = .returned (.int .i64 (distI X : Int)) ∧ Below w.heap.size w w' := by
  have HX := Lib.hid hX
  have HN := Lib.hid hX.len
  have HL := Lib.hid hF.2.1
  have hn : n ≤ 16777216 := by rw [← hX.len]; exact hF.1
  clear hX hF
  go_enter Tryd.func17, Tryd.ntmps17
  go_wp2
  go_loopw [3, 8] (fun ut ui wr => ∃ i t : Nat, ut = .int .i64 (t : Int) ∧ ui = .int .i64 (i : Int) ∧ i ≤ n ∧ Hid (t = distI (X.take i) ∧ Below w.heap.size w wr)) (fun _ ui _ => n - (RowKit.intOf ui).toNat)
  case atStart => exact ⟨0, 0, rfl, rfl, Nat.zero_le _, Lib.hid ⟨rfl, Below.refl _ _⟩⟩
  case round =>
    obtain ⟨i, t, rfl, rfl, hi, HR⟩ := hrel
    by_cases hlt : i < n
    · obtain ⟨b, off, x, ad, m, cm, rfl, hb, hx, hc0, hc1, hrs, hmc, hcm, hm⟩ := (HX.out.keep HR.out.2 (Nat.le_refl _)).at hlt
      have hnx := distI_next hx
      rw [← HR.out.1, hm] at hnx
      have hlx : distI (X.take (i + 1)) ≤ 16777216 := Nat.le_trans (distI_le _) (Nat.le_trans (linesK_take _ _) HL.out)
      obtain ⟨kd, hkd⟩ : ∃ kd, kd = x.1 := ⟨_, rfl⟩
      rw [← hkd] at hc0 hnx
      have hwb := HR.out.2.size
      have hBA : Below w.heap.size w (wr.alloc (.cells #[.int .i64 kd, .slice ad m cm] 80)) := HR.out.2.alloc hwb _
      have HBA := Lib.hid hBA
      have hit : (i : Int) < (n : Int) := by omega
      clear hx hrs hm hmc hcm hkd hBA
      by_cases h1 : kd = 2 ∨ kd = 3
      · rw [if_pos h1] at hnx
        rw [hnx] at hlx
        have HNX := Lib.hid hnx
        have hbe : (kd == 2) = true ∨ ((kd == 2) = false ∧ (kd == 3) = true) := by
          rcases h1 with e | e
          · exact .inl (by rw [e]; rfl)
          · exact .inr ⟨by rw [e]; rfl, by rw [e]; rfl⟩
        clear h1 hnx
        rcases hbe with q1 | ⟨q1, q2⟩
        all_goals
          go_wp2
          go_roundw
          case rel => exact ⟨i + 1, t + m, by go_num, by go_num, hlt, Lib.hid ⟨HNX.out.symm, HBA.out⟩⟩
          case measure => simp [RowKit.intOf]; omega
      · rw [if_neg h1, Nat.add_zero] at hnx
        have HNX := Lib.hid hnx
        have q1 : (kd == 2) = false := by rw [beq_eq_false_iff_ne]; exact fun e => h1 (.inl e)
        have q2 : (kd == 3) = false := by rw [beq_eq_false_iff_ne]; exact fun e => h1 (.inr e)
        clear h1 hnx
        go_wp2
        go_roundw
        case rel => exact ⟨i + 1, t, rfl, by go_num, hlt, Lib.hid ⟨HNX.out.symm, HBA.out⟩⟩
        case measure => simp [RowKit.intOf]; omega
    · obtain rfl : i = n := by omega
      have hd : X.take i = X := List.take_of_length_le (by rw [HN.out]; exact Nat.le_refl _)
      have HD := Lib.hid hd
      clear hd
      go_wp2
      go_ret
      have h9 := HR.out.1
      rw [HD.out] at h9
      exact ⟨by rw [← h9]; rfl, HR.out.2⟩
set_option maxHeartbeats 4000000 in
set_option maxRecDepth 100000 in
theorem distR (w : World) (a : Option Addr) (n c : Nat) (X : List HkI) (hX : ReadsK w a n X) (hF : Fit X) :
    Calls Tryd.prog 21 #[.slice a n c] w fun e w' => e = .returned (.int .i64 (distI X : Int)) ∧ Below w.heap.size w w' := by
  have HX := Lib.hid hX
  have HN := Lib.hid hX.len
  have HL := Lib.hid hF.2.1
  have hn : n ≤ 16777216 := by rw [← hX.len]; exact hF.1
  clear hX hF
  go_enter Tryd.func21, Tryd.ntmps21
  go_wp2
  go_loopw [3, 4] (fun ut ui wr => ∃ i t : Nat, ut = .int .i64 (t : Int) ∧ ui = .int .i64 (i : Int) ∧ i ≤ n ∧ Hid (t = distI (X.take i) ∧ Below w.heap.size w wr)) (fun _ ui _ => n - (RowKit.intOf ui).toNat)
  case atStart => exact ⟨0, 0, rfl, rfl, Nat.zero_le _, Lib.hid ⟨rfl, Below.refl _ _⟩⟩
  case round =>
    obtain ⟨i, t, rfl, rfl, hi, HR⟩ := hrel
    by_cases hlt : i < n
    · obtain ⟨b, off, x, ad, m, cm, rfl, hb, hx, hc0, hc1, hrs, hmc, hcm, hm⟩ := (HX.out.keep HR.out.2 (Nat.le_refl _)).at hlt
      have hnx := distI_next hx
      rw [← HR.out.1, hm] at hnx
      have hlx : distI (X.take (i + 1)) ≤ 16777216 := Nat.le_trans (distI_le _) (Nat.le_trans (linesK_take _ _) HL.out)
      obtain ⟨kd, hkd⟩ : ∃ kd, kd = x.1 := ⟨_, rfl⟩
      rw [← hkd] at hc0 hnx
      have hit : (i : Int) < (n : Int) := by omega
      clear hx hrs hm hmc hcm hkd
      by_cases h1 : kd = 2 ∨ kd = 3
      · rw [if_pos h1] at hnx
        rw [hnx] at hlx
        have HNX := Lib.hid hnx
        have hbe : (kd == 2) = true ∨ ((kd == 2) = false ∧ (kd == 3) = true) := by
          rcases h1 with e | e
          · exact .inl (by rw [e]; rfl)
          · exact .inr ⟨by rw [e]; rfl, by rw [e]; rfl⟩
        clear h1 hnx
        rcases hbe with q1 | ⟨q1, q2⟩
        all_goals
          go_wp2
          go_roundw
          case rel => exact ⟨i + 1, t + m, by go_num, by go_num, hlt, Lib.hid ⟨HNX.out.symm, HR.out.2⟩⟩
          case measure => simp [RowKit.intOf]; omega
      · rw [if_neg h1, Nat.add_zero] at hnx
        have HNX := Lib.hid hnx
        have q1 : (kd == 2) = false := by rw [beq_eq_false_iff_ne]; exact fun e => h1 (.inl e)
        have q2 : (kd == 3) = false := by rw [beq_eq_false_iff_ne]; exact fun e => h1 (.inr e)
        clear h1 hnx
        go_wp2
        go_roundw
        case rel => exact ⟨i + 1, t, rfl, by go_num, hlt, Lib.hid ⟨HNX.out.symm, HR.out.2⟩⟩
        case measure => simp [RowKit.intOf]; omega
    · obtain rfl : i = n := by omega
      have hd : X.take i = X := List.take_of_length_le (by rw [HN.out]; exact Nat.le_refl _)
      have HD := Lib.hid hd
      clear hd
      go_wp2
      go_ret
      have h9 := HR.out.1
      rw [HD.out] at h9
      exact ⟨by rw [← h9]; rfl, HR.out.2⟩
end Go.Proofs.YtnbihjocdlpplaaDoor
/- The patch the other way, by the program. -/
namespace Go.Proofs.YtnbihjocdlpplaaDoor
set_option linter.unusedVariables false
set_option linter.unusedSimpArgs false
open Go.RowKit
open Go.Lib
theorem lines_sides (X : List HkI) (h : ∀ x ∈ X, 1 ≤ x.1 ∧ x.1 ≤ 3) : linesK X ≤ (sideI 2 X).length + (sideI 3 X).length := by
  induction X with
  | nil => exact Nat.le_refl _
  | cons x X ih =>
    have h1 := ih (fun y hy => h y (List.mem_cons_of_mem _ hy))
    have h2 := h x (by simp)
    unfold sideI linesK at *
    rw [List.map_cons, List.sum_cons, List.flatMap_cons, List.flatMap_cons, List.length_append, List.length_append]
    have h3 : x.2.length ≤ (if x.1 = 1 ∨ x.1 = 2 then x.2 else []).length + (if x.1 = 1 ∨ x.1 = 3 then x.2 else []).length := by
      by_cases e : x.1 = 3
      · rw [if_pos (show x.1 = 1 ∨ x.1 = 3 from .inr e)]; omega
      · rw [if_pos (show x.1 = 1 ∨ x.1 = 2 by omega)]; omega
    omega
theorem bytes_sides (X : List HkI) (h : ∀ x ∈ X, 1 ≤ x.1 ∧ x.1 ≤ 3) : bytesK X ≤ (sideI 2 X).flatten.length + (sideI 3 X).flatten.length := by
  induction X with
  | nil => exact Nat.le_refl _
  | cons x X ih =>
    have h1 := ih (fun y hy => h y (List.mem_cons_of_mem _ hy))
    have h2 := h x (by simp)
    unfold sideI bytesK at *
    rw [List.map_cons, List.sum_cons, List.flatMap_cons, List.flatMap_cons, List.flatten_append, List.flatten_append, List.length_append, List.length_append]
    have h3 : x.2.flatten.length ≤ (if x.1 = 1 ∨ x.1 = 2 then x.2 else []).flatten.length + (if x.1 = 1 ∨ x.1 = 3 then x.2 else []).flatten.length := by
      by_cases e : x.1 = 3
      · rw [if_pos (show x.1 = 1 ∨ x.1 = 3 from .inr e)]; omega
      · rw [if_pos (show x.1 = 1 ∨ x.1 = 2 by omega)]; omega
    omega
theorem check_lines {X : List HkI} (h : checkB X = true) : linesK X ≤ 1024 := by
  unfold checkB at h
  rw [Bool.and_eq_true, Bool.and_eq_true] at h
  have h1 := lines_sides X (fun x hx => (okB_mem X 0 h.1.1 x hx).1)
  have h2 : (sideI 2 X).length ≤ 512 := by
    have := h.1.2
    unfold wholeB at this
    rw [Bool.and_eq_true, decide_eq_true_eq] at this
    exact this.1
  have h3 : (sideI 3 X).length ≤ 512 := by
    have := h.2
    unfold wholeB at this
    rw [Bool.and_eq_true, decide_eq_true_eq] at this
    exact this.1
  omega
theorem opsB_drop {X : List HkI} {i : Nat} {x : HkI} (h : X[i]? = some x) : opsB (X.drop i) = x.2.map (opB x.1) ++ opsB (X.drop (i + 1)) := by
  obtain ⟨h1, h2⟩ := List.getElem?_eq_some_iff.1 h
  rw [List.drop_eq_getElem_cons h1, h2, opsB_cons]
theorem mapd {L : List (List UInt8)} {j : Nat} {s : List UInt8} {k : Int} (h : L[j]? = some s) : (L.drop j).map (opB k) = opB k s :: (L.drop (j + 1)).map (opB k) := by
  obtain ⟨h1, h2⟩ := List.getElem?_eq_some_iff.1 h
  rw [List.drop_eq_getElem_cons h1, h2]
  rfl
/-- how much a state holds -/
def heldSt (st : St7) (m : Nat) : Prop := st.out.length ≤ 2 * m ∧ st.same.length ≤ m ∧ st.gone.length ≤ m ∧ st.come.length ≤ m
theorem held_step {st : St7} {m : Nat} (h : heldSt st m) (o : Op7) : heldSt (stepW st o) (m + 1) := by
  obtain ⟨h1, h2, h3, h4⟩ := h
  have k1 := putK_le 2 st.gone st.out
  have k2 := putK_le 3 st.come (putK 2 st.gone st.out)
  have k3 := putK_le 1 st.same st.out
  cases o with
  | same s =>
    refine ⟨?_, ?_, Nat.zero_le _, Nat.zero_le _⟩
    · show (putK 3 st.come (putK 2 st.gone st.out)).length ≤ _; omega
    · show (st.same ++ [s]).length ≤ _; rw [List.length_append, List.length_singleton]; omega
  | gone s =>
    refine ⟨?_, Nat.zero_le _, ?_, ?_⟩
    · show (putK 1 st.same st.out).length ≤ _; omega
    · show (st.gone ++ [s]).length ≤ _; rw [List.length_append, List.length_singleton]; omega
    · show st.come.length ≤ _; omega
  | come s =>
    refine ⟨?_, Nat.zero_le _, ?_, ?_⟩
    · show (putK 1 st.same st.out).length ≤ _; omega
    · show st.gone.length ≤ _; omega
    · show (st.come ++ [s]).length ≤ _; rw [List.length_append, List.length_singleton]; omega
/-- what a call that turns a patch answers -/
def BackP (w : World) (X : List HkI) (e : Ending) (w' : World) : Prop :=
  (checkB X = false ∧ e = .returned (.tuple #[.slice none 0 0, .int .i64 310]) ∧ Below w.heap.size w w') ∨
  (checkB X = true ∧ ∃ v B, e = .returned (.tuple #[v, .int .i64 0]) ∧ PatchAt B w' v (backI X) ∧ w.heap.size ≤ B ∧ B ≤ w'.heap.size ∧ Below w.heap.size w w')
set_option maxHeartbeats 16000000 in
set_option maxRecDepth 100000 in
theorem backC (w : World) (a : Option Addr) (n c : Nat) (X : List HkI) (hX : ReadsK w a n X) (hF : Fit X) (hT : Tabs w) :
    Calls Tryd.prog 24 #[.slice a n c] w (BackP w X) := by
  have HX := Lib.hid hX
  have HN := Lib.hid hX.len
  have hn : n ≤ 16777216 := by rw [← hX.len]; exact hF.1
  have HC := Lib.hid (checkC w a n c X hX hF hT)
  have HBY := Lib.hid hF.2.2
  clear hX hF hT
  by_cases hk : checkB X = true
  · have HK : Hid (errP (checkB X) = 0) := Lib.hid (by rw [hk]; rfl)
    rw [HK.out] at HC
    have HCK := Lib.hid hk
    have hl := check_lines hk
    have HL := Lib.hid hl
    clear hk
    go_enter Tryd.func24, Tryd.ntmps24
    go_upto_region 4 with (go_at_call 19; refine (HC.out).mono ?_; rintro e w3 ⟨rfl, hb3⟩; have HB3 := Lib.hid hb3; clear hb3)
    obtain ⟨p, hp⟩ : ∃ p, p = w3.heap.size := ⟨_, rfl⟩
    go_upto_region 5 with (fail)
    rw [← hp]
    obtain ⟨w6, hw6⟩ : ∃ x, x = w3.alloc (Obj.cells #[Value.slice none 0 0, Value.slice none 0 0, Value.slice none 0 0, Value.slice none 0 0] 68) := ⟨_, rfl⟩
    rw [← hw6]
    have HW6 : Hid (WS (p + 1) w6 p ⟨[], [], [], []⟩ ∧ Below p w3 w6) := by
      rw [hw6, hp]
      refine Lib.hid ⟨⟨[], nilV, nilV, nilV, nilV, ?_, by omega, by simp, SW.start _ _ _ (fun q hq => ?_), fun h hh => by cases hh⟩, (Below.refl _ w3).alloc (Nat.le_refl _) _⟩
      · exact row_new w3 [nilV, nilV, nilV, nilV] 68
      · simp only [List.mem_cons, List.not_mem_nil, or_false] at hq
        rcases hq with rfl | rfl | rfl <;> rfl
    have HE := Lib.hid hp
    have HX3 : Hid (ReadsK w3 a n X) := Lib.hid (HX.out.keep HB3.out (Nat.le_refl _))
    clear hw6 hp
    go_wp2
    go_loopw [19] (fun ui wr => ∃ (i : Nat) (st : St7), ui = .int .i64 (i : Int) ∧ i ≤ n ∧ Hid (WS (p + 1) wr p st ∧ Below p w3 wr ∧ doneW ((opsB (X.drop i)).foldl stepW st) = backI X ∧ heldSt st (linesK (X.take i)))) (fun ui _ => n - (RowKit.intOf ui).toNat)
    case atStart => exact ⟨0, _, rfl, Nat.zero_le _, Lib.hid ⟨HW6.out.1, HW6.out.2, rfl, Nat.zero_le _, Nat.zero_le _, Nat.zero_le _, Nat.zero_le _⟩⟩
    case round =>
      obtain ⟨i, st, rfl, hi, HR⟩ := hrel
      have hps : p ≤ wr.heap.size := Nat.le_trans (by omega) HR.out.1.size.1
      by_cases hlt : i < n
      · obtain ⟨b, off, x, ad, m, cm, rfl, hb, hx, hc0, hc1, hrs, hmc, hcm, hm⟩ := HX3.out.at hlt
        rw [← HE.out] at hb
        have hd0 : wr.cell? ⟨b, off + i * 2, none⟩ = some (.int .i64 x.1) := (HR.out.2.1.cell (p := ⟨b, off + i * 2, none⟩) hb).trans hc0
        have hd1 : wr.cell? ⟨b, off + i * 2 + 1, none⟩ = some (.slice ad m cm) := (HR.out.2.1.cell (p := ⟨b, off + i * 2 + 1, none⟩) hb).trans hc1
        have hkx : 1 ≤ x.1 ∧ x.1 ≤ 3 := by
          have h1 := HCK.out
          unfold checkB at h1
          rw [Bool.and_eq_true, Bool.and_eq_true] at h1
          exact (okB_mem X 0 h1.1.1 x (List.mem_of_getElem? hx)).1
        have hlx : linesK (X.take (i + 1)) = linesK (X.take i) + m := by
          rw [take_next hx, linesK_app]
          simp [linesK, hm]
        have hl2 : linesK (X.take (i + 1)) ≤ 1024 := Nat.le_trans (linesK_take _ _) HL.out
        rw [hlx] at hl2
        have hxb : ∀ s ∈ x.2, s.length ≤ 1099511627776 := fun s hs => by
          have h1 := flat_le2 hs
          have h2 := bytesK_mem (List.mem_of_getElem? hx)
          have h3 := HBY.out
          omega
        have hops := opsB_drop hx
        obtain ⟨kd, hkd⟩ : ∃ kd, kd = x.1 := ⟨_, rfl⟩
        rw [← hkd] at hd0 hkx hops
        obtain ⟨T, hT⟩ : ∃ T, T = linesK (X.take i) := ⟨_, rfl⟩
        rw [← hT] at hl2
        have hst := HR.out.2.2.2
        have hfold := HR.out.2.2.1
        rw [hops] at hfold
        rw [← hT] at hst hlx
        have HST := Lib.hid hst
        have HFO := Lib.hid hfold
        have HLX := Lib.hid hlx
        have HXB := Lib.hid hxb
        have HRS := Lib.hid hrs
        have HM := Lib.hid hm
        have HKX := Lib.hid hkx
        have hit : (i : Int) < (n : Int) := by omega
        have hmle : m ≤ 1024 := by omega
        clear hx hrs hm hmc hc0 hc1 hkd hops hst hfold hlx hT hxb hkx hb
        obtain ⟨hb, hhb⟩ : ∃ hb, hb = wr.heap.size := ⟨_, rfl⟩
        go_upto_region 8 with (fail)
        rw [← hhb]
        obtain ⟨w7, hw7⟩ : ∃ x, x = wr.alloc (Obj.cells #[Value.int IntKind.i64 kd, Value.slice ad m cm] 80) := ⟨_, rfl⟩
        rw [← hw7]
        have hrow7 : Row w7 hb 80 [Value.int IntKind.i64 kd, Value.slice ad m cm] := by
          rw [hw7, hhb]; exact row_new wr [Value.int IntKind.i64 kd, Value.slice ad m cm] 80
        have HW7 : Hid (WZ (fun k => k = hb) (p + 1) w7 p st ∧ Below p w3 w7) := by
          rw [hw7, hhb]
          exact Lib.hid ⟨HR.out.1.fresh _, HR.out.2.1.alloc hps _⟩
        have HROW7 := Lib.hid hrow7
        have f0 : w7.cell? ⟨hb, 0, none⟩ = some (Value.int IntKind.i64 kd) := hrow7.cell 0
        have f1 : w7.cell? ⟨hb, 1, none⟩ = some (Value.slice ad m cm) := hrow7.cell 1
        clear hw7 hhb hrow7 hd0 hd1 HR hps
        go_wp2
        go_loopw [26] (fun uj wq => ∃ (j : Nat) (st' : St7), uj = .int .i64 (j : Int) ∧ j ≤ m ∧ Hid (WZ (fun k => k = hb) (p + 1) wq p st' ∧ Below p w3 wq ∧ Row wq hb 80 [Value.int IntKind.i64 kd, Value.slice ad m cm] ∧ doneW (((x.2.drop j).map (opB kd) ++ opsB (X.drop (i + 1))).foldl stepW st') = backI X ∧ heldSt st' (T + j))) (fun uj _ => m - (RowKit.intOf uj).toNat)
        case atStart => exact ⟨0, st, rfl, Nat.zero_le _, Lib.hid ⟨HW7.out.1, HW7.out.2, HROW7.out, HFO.out, HST.out⟩⟩
        case round =>
          obtain ⟨j, st', rfl, hj, HQ⟩ := hrel
          have g0 : wr.cell? ⟨hb, 0, none⟩ = some (Value.int IntKind.i64 kd) := HQ.out.2.2.1.cell 0
          have g1 : wr.cell? ⟨hb, 1, none⟩ = some (Value.slice ad m cm) := HQ.out.2.2.1.cell 1
          have hpq : p ≤ wr.heap.size := Nat.le_trans (by omega) HQ.out.1.forget.size.1
          by_cases hjl : j < m
          · obtain ⟨bl, ol, s, rfl, hbl, hs, hcs⟩ := (HRS.out.keep HQ.out.2.1 (Nat.le_of_eq HE.out.symm)).at hjl
            have hls := HXB.out s (List.mem_of_getElem? hs)
            have hfo := HQ.out.2.2.2.1
            rw [mapd hs, List.cons_append, List.foldl_cons] at hfo
            obtain ⟨q1, q2, q3, q4⟩ := HQ.out.2.2.2.2
            have HNF := Lib.hid hfo
            have HNH := Lib.hid (held_step (o := opB kd s) HQ.out.2.2.2.2)
            have hjt : (j : Int) < (m : Int) := by omega
            clear hs hfo hbl
            have hk3 : kd = 1 ∨ kd = 2 ∨ kd = 3 := by have := HKX.out; omega
            rcases hk3 with rfl | rfl | rfl
            · have e1 : opB 1 s = .same s := rfl
              rw [e1] at HNF HNH
              go_wp2_with (go_at_call 40; refine (staysZ (fun k => k = hb) wr (p + 1) p st' s HQ.out.1 (by omega) (by omega) hls).mono ?_; rintro e w8 ⟨⟨u8, rfl⟩, hS, hkb8, hz8⟩; have HS := Lib.hid hS; have HKB := Lib.hid hkb8; have HZ := Lib.hid (hz8 hb rfl); clear hS hkb8 hz8)
              have HNX : Hid (WZ (fun k => k = hb) (p + 1) w8 p (stepW st' (.same s)) ∧ Below p w3 w8 ∧ Row w8 hb 80 [Value.int IntKind.i64 1, Value.slice (some ⟨bl, ol, none⟩) m cm]) := Lib.hid ⟨HS.out, HQ.out.2.1.trans (HKB.out.below (by omega) (Nat.le_refl _) hpq), HZ.out.trans HQ.out.2.2.1⟩
              go_roundw
              case rel => exact ⟨j + 1, _, by go_num, hjl, Lib.hid ⟨HNX.out.1, HNX.out.2.1, HNX.out.2.2, HNF.out, HNH.out⟩⟩
              case measure => simp [RowKit.intOf]; omega
            · have e1 : opB 2 s = .come s := rfl
              rw [e1] at HNF HNH
              go_wp2_with (go_at_call 42; refine (comesZ (fun k => k = hb) wr (p + 1) p st' s HQ.out.1 (by omega) (by omega) hls).mono ?_; rintro e w8 ⟨⟨u8, rfl⟩, hS, hkb8, hz8⟩; have HS := Lib.hid hS; have HKB := Lib.hid hkb8; have HZ := Lib.hid (hz8 hb rfl); clear hS hkb8 hz8)
              have HNX : Hid (WZ (fun k => k = hb) (p + 1) w8 p (stepW st' (.come s)) ∧ Below p w3 w8 ∧ Row w8 hb 80 [Value.int IntKind.i64 2, Value.slice (some ⟨bl, ol, none⟩) m cm]) := Lib.hid ⟨HS.out, HQ.out.2.1.trans (HKB.out.below (by omega) (Nat.le_refl _) hpq), HZ.out.trans HQ.out.2.2.1⟩
              go_roundw
              case rel => exact ⟨j + 1, _, by go_num, hjl, Lib.hid ⟨HNX.out.1, HNX.out.2.1, HNX.out.2.2, HNF.out, HNH.out⟩⟩
              case measure => simp [RowKit.intOf]; omega
            · have e1 : opB 3 s = .gone s := rfl
              rw [e1] at HNF HNH
              go_wp2_with (go_at_call 41; refine (goesZ (fun k => k = hb) wr (p + 1) p st' s HQ.out.1 (by omega) (by omega) hls).mono ?_; rintro e w8 ⟨⟨u8, rfl⟩, hS, hkb8, hz8⟩; have HS := Lib.hid hS; have HKB := Lib.hid hkb8; have HZ := Lib.hid (hz8 hb rfl); clear hS hkb8 hz8)
              have HNX : Hid (WZ (fun k => k = hb) (p + 1) w8 p (stepW st' (.gone s)) ∧ Below p w3 w8 ∧ Row w8 hb 80 [Value.int IntKind.i64 3, Value.slice (some ⟨bl, ol, none⟩) m cm]) := Lib.hid ⟨HS.out, HQ.out.2.1.trans (HKB.out.below (by omega) (Nat.le_refl _) hpq), HZ.out.trans HQ.out.2.2.1⟩
              go_roundw
              case rel => exact ⟨j + 1, _, by go_num, hjl, Lib.hid ⟨HNX.out.1, HNX.out.2.1, HNX.out.2.2, HNF.out, HNH.out⟩⟩
              case measure => simp [RowKit.intOf]; omega
          · obtain rfl : j = m := by omega
            have hdr : x.2.drop j = [] := List.drop_of_length_le (by rw [HM.out]; exact Nat.le_refl _)
            have HNX : Hid (WS (p + 1) wr p st' ∧ Below p w3 wr ∧ doneW ((opsB (X.drop (i + 1))).foldl stepW st') = backI X ∧ heldSt st' (linesK (X.take (i + 1)))) := by
              have h1 := HQ.out.2.2.2
              rw [hdr] at h1
              exact Lib.hid ⟨HQ.out.1.forget, HQ.out.2.1, h1.1, by rw [HLX.out]; exact h1.2⟩
            clear hdr
            go_wp2
            go_roundw
            case rel => exact ⟨i + 1, _, by go_num, hlt, HNX⟩
            case measure => simp [RowKit.intOf]; omega
      · obtain rfl : i = n := by omega
        have hd : X.drop i = [] := List.drop_of_length_le (by rw [HN.out]; exact Nat.le_refl _)
        have hout := HR.out.2.2.1
        rw [hd] at hout
        have hout2 : doneW st = backI X := hout
        have HOUT := Lib.hid hout2
        have hlo : st.out.length ≤ 2048 := by
          have h1 := HR.out.2.2.2.1
          have h2 := linesK_take X i
          have h3 := HL.out
          omega
        clear hd hout hout2
        go_wp2_with (go_at_call 43; refine (doneC wr (p + 1) p st HR.out.1 (by omega)).mono ?_; rintro e w8 ⟨v8, rfl, hP, hkb, hsz⟩; have HP := Lib.hid hP; have HKB := Lib.hid hkb; have HSZ := Lib.hid hsz; clear hP hkb hsz)
        go_ret2
        have hP := HP.out
        rw [HOUT.out] at hP
        refine .inr ⟨HCK.out, v8, p + 1, rfl, hP, by have h1 := HB3.out.size; have h2 := HE.out; omega, HSZ.out, ?_⟩
        have hbp : Below p w3 w8 := HR.out.2.1.trans (HKB.out.below (by omega) (Nat.le_refl _) hps)
        exact HB3.out.trans (hbp.mono (by rw [HE.out]; exact HB3.out.size))
  · rw [Bool.not_eq_true] at hk
    have HK : Hid (errP (checkB X) = 310) := Lib.hid (by rw [hk]; rfl)
    rw [HK.out] at HC
    have HCK := Lib.hid hk
    clear hk
    go_enter Tryd.func24, Tryd.ntmps24
    go_wp2_with (go_at_call 19; refine (HC.out).mono ?_; rintro e w3 ⟨rfl, hb3⟩; have HB3 := Lib.hid hb3; clear hb3)
    go_ret2
    exact .inl ⟨HCK.out, rfl, HB3.out⟩
end Go.Proofs.YtnbihjocdlpplaaDoor
