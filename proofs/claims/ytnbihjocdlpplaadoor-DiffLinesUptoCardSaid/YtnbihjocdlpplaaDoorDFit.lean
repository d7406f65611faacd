/- Does a patch fit, what does it make, how many lines go and come: by both. -/
import Derived.Test.YtnbihjocdlpplaaDoorDCheckR
namespace Go.Proofs.YtnbihjocdlpplaaDoor
set_option linter.unusedVariables false
set_option linter.unusedSimpArgs false
open Go.RowKit
open Go.Lib
set_option maxHeartbeats 4000000 in
set_option maxRecDepth 100000 in
theorem fitsC (w : World) (s : List UInt8) (a : Option Addr) (n c : Nat) (X : List HkI) (hX : ReadsK w a n X) (hF : Fit X) (hT : Tabs w) :
    Calls Tryd.prog 53 #[.string (bstr s), .slice a n c] w fun e w' => e = .returned (.bool (fitsB s X)) ∧ Below w.heap.size w w' := by
  have HX := Lib.hid hX
  have HF := Lib.hid hF
  have hn : n ≤ 16777216 := by rw [← hX.len]; exact hF.1
  have HC := Lib.hid (checkC w a n c X hX hF hT)
  obtain ⟨A, hA⟩ : ∃ A, A = sideI 2 X := ⟨_, rfl⟩
  have lA : A.flatten.length ≤ 67108864 := by rw [hA]; exact Nat.le_trans (sideI_bytes _ _) hF.2.2
  have hfb : fitsB s X = (checkB X && (A.flatten == s)) := by rw [hA]; rfl
  have HEA := Lib.hid hA
  have HFB := Lib.hid hfb
  clear hX hF hT hA hfb
  by_cases hk : checkB X = true
  · rw [hk, Bool.true_and] at HFB
    have HK : Hid (errP (checkB X) = 0) := Lib.hid (by rw [hk]; rfl)
    rw [HK.out] at HC
    clear hk
    have hcases : (A.flatten == s) = true ∨ (A.flatten == s) = false := by cases (A.flatten == s) <;> simp
    rcases hcases with q | q
    all_goals
      rw [q] at HFB
      have hbe := q
      go_enter Tryd.func53, Tryd.ntmps53
      go_wp2_with (first
        | (go_at_call 19; refine (HC.out).mono ?_; rintro e w1 ⟨rfl, hb1⟩; have HB1 := Lib.hid hb1; clear hb1)
        | (go_at_call 50; refine (sideC w1 a n c X 2 (HX.out.keep HB1.out (Nat.le_refl _)) (by omega) (by have := HF.out.2.1; omega)).mono ?_; rintro e w2 ⟨v2, rfl, hO2, hb2⟩; rw [← HEA.out] at hO2; obtain ⟨a2, c2, rfl, hr2, hc2, hm2⟩ := readsS_own hO2; have HR2 := Lib.hid hr2; have HC2 := Lib.hid hc2; have hlA2 : A.length ≤ 16777216 := by { have h1 := HF.out.2.1; have h2 := sideI_len 2 X; rw [← HEA.out] at h2; omega }; have HB2 := Lib.hid (HB1.out.trans (hb2.mono HB1.out.size)); clear hO2 hb2 hr2 hc2 hm2; obtain ⟨n2, hn2⟩ : ∃ n2, n2 = A.length := ⟨_, rfl⟩; rw [← hn2] at HR2 HC2 hlA2 ⊢; clear hn2)
        | (go_at_call 54; refine (joinC w2 a2 n2 c2 A HR2.out HC2.out (by omega) (by omega)).mono ?_; rintro e w3 ⟨rfl, hb3⟩; have HB3 := Lib.hid (HB2.out.trans (hb3.mono HB2.out.size)); clear hb3))
      go_ret
      exact ⟨by rw [HFB.out]; rfl, HB3.out⟩
  · rw [Bool.not_eq_true] at hk
    rw [hk, Bool.false_and] at HFB
    have HK : Hid (errP (checkB X) = 310) := Lib.hid (by rw [hk]; rfl)
    rw [HK.out] at HC
    clear hk
    go_enter Tryd.func53, Tryd.ntmps53
    go_wp2_with (go_at_call 19; refine (HC.out).mono ?_; rintro e w1 ⟨rfl, hb1⟩; have HB1 := Lib.hid hb1; clear hb1)
    go_ret
    exact ⟨by rw [HFB.out]; rfl, HB1.out⟩
/-- what Apply answers -/
def applyE (s : List UInt8) (X : List HkI) : Ending := if fitsB s X = true then .returned (.tuple #[.string (bstr (sideI 3 X).flatten), .int .i64 0]) else .returned (.tuple #[.string (bstr []), .int .i64 310])
set_option maxHeartbeats 4000000 in
set_option maxRecDepth 100000 in
theorem applyC (w : World) (s : List UInt8) (a : Option Addr) (n c : Nat) (X : List HkI) (hX : ReadsK w a n X) (hF : Fit X) (hT : Tabs w) :
    Calls Tryd.prog 22 #[.string (bstr s), .slice a n c] w fun e w' => e = applyE s X ∧ Below w.heap.size w w' := by
  have HX := Lib.hid hX
  have HF := Lib.hid hF
  have hn : n ≤ 16777216 := by rw [← hX.len]; exact hF.1
  have HC := Lib.hid (fitsC w s a n c X hX hF hT)
  obtain ⟨A, hA⟩ : ∃ A, A = sideI 3 X := ⟨_, rfl⟩
  have lA : A.flatten.length ≤ 67108864 := by rw [hA]; exact Nat.le_trans (sideI_bytes _ _) hF.2.2
  have HEA := Lib.hid hA
  by_cases hk : fitsB s X = true
  · have HE : Hid (applyE s X = .returned (.tuple #[.string (bstr A.flatten), .int .i64 0])) := Lib.hid (by unfold applyE; rw [if_pos hk, hA])
    rw [hk] at HC
    clear hX hF hT hA hk
    go_enter Tryd.func22, Tryd.ntmps22
    go_wp2_with (first
      | (go_at_call 53; refine (HC.out).mono ?_; rintro e w1 ⟨rfl, hb1⟩; have HB1 := Lib.hid hb1; clear hb1)
      | (go_at_call 50; refine (sideC w1 a n c X 3 (HX.out.keep HB1.out (Nat.le_refl _)) (by omega) (by have := HF.out.2.1; omega)).mono ?_; rintro e w2 ⟨v2, rfl, hO2, hb2⟩; rw [← HEA.out] at hO2; obtain ⟨a2, c2, rfl, hr2, hc2, hm2⟩ := readsS_own hO2; have HR2 := Lib.hid hr2; have HC2 := Lib.hid hc2; have hlA2 : A.length ≤ 16777216 := by { have h1 := HF.out.2.1; have h2 := sideI_len 3 X; rw [← HEA.out] at h2; omega }; have HB2 := Lib.hid (HB1.out.trans (hb2.mono HB1.out.size)); clear hO2 hb2 hr2 hc2 hm2; obtain ⟨n2, hn2⟩ : ∃ n2, n2 = A.length := ⟨_, rfl⟩; rw [← hn2] at HR2 HC2 hlA2 ⊢; clear hn2)
      | (go_at_call 54; refine (joinC w2 a2 n2 c2 A HR2.out HC2.out (by omega) (by omega)).mono ?_; rintro e w3 ⟨rfl, hb3⟩; have HB3 := Lib.hid (HB2.out.trans (hb3.mono HB2.out.size)); clear hb3))
    go_ret2
    exact ⟨by rw [HE.out]; rfl, HB3.out⟩
  · have HE : Hid (applyE s X = .returned (.tuple #[.string (bstr []), .int .i64 310])) := Lib.hid (by unfold applyE; rw [if_neg hk])
    rw [Bool.not_eq_true] at hk
    rw [hk] at HC
    clear hX hF hT hA hk
    go_enter Tryd.func22, Tryd.ntmps22
    go_wp2_with (go_at_call 53; refine (HC.out).mono ?_; rintro e w1 ⟨rfl, hb1⟩; have HB1 := Lib.hid hb1; clear hb1)
    go_ret2
    exact ⟨by rw [HE.out]; rfl, HB1.out⟩
set_option maxHeartbeats 4000000 in
set_option maxRecDepth 100000 in
theorem applyR (w : World) (s : List UInt8) (a : Option Addr) (n c : Nat) (X : List HkI) (hX : ReadsK w a n X) (hF : Fit X) :
    Calls Tryd.prog 23 #[.string (bstr s), .slice a n c] w fun e w' => e = applyE s X ∧ Below w.heap.size w w' := by
  have HX := Lib.hid hX
  have HF := Lib.hid hF
  have hn : n ≤ 16777216 := by rw [← hX.len]; exact hF.1
  have HC := Lib.hid (checkR w a n c X hX hF)
  obtain ⟨A, hA⟩ : ∃ A, A = sideI 2 X := ⟨_, rfl⟩
  obtain ⟨C, hC⟩ : ∃ C, C = sideI 3 X := ⟨_, rfl⟩
  have lA : A.flatten.length ≤ 67108864 := by rw [hA]; exact Nat.le_trans (sideI_bytes _ _) hF.2.2
  have lC : C.flatten.length ≤ 67108864 := by rw [hC]; exact Nat.le_trans (sideI_bytes _ _) hF.2.2
  have hfb : fitsB s X = (checkB X && (A.flatten == s)) := by rw [hA]; rfl
  have HEA := Lib.hid hA
  have HEC := Lib.hid hC
  have HFB := Lib.hid hfb
  have hE1 : fitsB s X = true → applyE s X = .returned (.tuple #[.string (bstr C.flatten), .int .i64 0]) := fun h => by unfold applyE; rw [if_pos h, hC]
  have hE2 : fitsB s X = false → applyE s X = .returned (.tuple #[.string (bstr []), .int .i64 310]) := fun h => by unfold applyE; rw [h]; rfl
  have HE1 := Lib.hid hE1
  have HE2 := Lib.hid hE2
  clear hX hF hA hfb hC hE1 hE2
  by_cases hk : checkB X = true
  · rw [hk, Bool.true_and] at HFB
    have HK : Hid (errP (checkB X) = 0) := Lib.hid (by rw [hk]; rfl)
    rw [HK.out] at HC
    clear hk
    by_cases q : A.flatten = s
    · have hbe : (A.flatten == s) = true := by rw [beq_iff_eq]; exact q
      have hbn : (A.flatten != s) = false := by rw [q]; simp
      rw [hbe] at HFB
      have HEE := Lib.hid (HE1.out HFB.out)
      clear q
      go_enter Tryd.func23, Tryd.ntmps23
      go_wp2_with (first
        | (go_at_call 20; refine (HC.out).mono ?_; rintro e w1 ⟨rfl, hb1⟩; have HB1 := Lib.hid hb1; clear hb1)
        | (go_at_call_of 51 (Value.int .i64 2); refine (sideR w1 a n c X 2 (HX.out.keep HB1.out (Nat.le_refl _)) (by omega) (by have := HF.out.2.1; omega)).mono ?_; rintro e w2 ⟨v2, rfl, hO2, hb2⟩; rw [← HEA.out] at hO2; obtain ⟨a2, c2, rfl, hr2, hc2, hm2⟩ := readsS_own hO2; have HR2 := Lib.hid hr2; have hlA2 : A.length ≤ 16777216 := by { have h1 := HF.out.2.1; have h2 := sideI_len 2 X; rw [← HEA.out] at h2; omega }; have HB2 := Lib.hid (HB1.out.trans (hb2.mono HB1.out.size)); clear hO2 hb2 hr2 hc2 hm2; obtain ⟨n2, hn2⟩ : ∃ n2, n2 = A.length := ⟨_, rfl⟩; rw [← hn2] at HR2 hlA2 ⊢; clear hn2)
        | (go_at_call_of 52 (Value.slice a2 n2 c2); refine (joinR w2 a2 n2 c2 A HR2.out (by omega) (by omega)).mono ?_; rintro e w3 ⟨rfl, hb3⟩; have HB3 := Lib.hid (HB2.out.trans (hb3.mono HB2.out.size)); clear hb3)
        | (go_at_call_of 51 (Value.int .i64 3); refine (sideR w3 a n c X 3 (HX.out.keep HB3.out (Nat.le_refl _)) (by omega) (by have := HF.out.2.1; omega)).mono ?_; rintro e w4 ⟨v4, rfl, hO4, hb4⟩; rw [← HEC.out] at hO4; obtain ⟨a4, c4, rfl, hr4, hc4, hm4⟩ := readsS_own hO4; have HR4 := Lib.hid hr4; have hlA4 : C.length ≤ 16777216 := by { have h1 := HF.out.2.1; have h2 := sideI_len 3 X; rw [← HEC.out] at h2; omega }; have HB4 := Lib.hid (HB3.out.trans (hb4.mono HB3.out.size)); clear hO4 hb4 hr4 hc4 hm4; obtain ⟨n4, hn4⟩ : ∃ n4, n4 = C.length := ⟨_, rfl⟩; rw [← hn4] at HR4 hlA4 ⊢; clear hn4)
        | (go_at_call_of 52 (Value.slice a4 n4 c4); refine (joinR w4 a4 n4 c4 C HR4.out (by omega) (by omega)).mono ?_; rintro e w5 ⟨rfl, hb5⟩; have HB5 := Lib.hid (HB4.out.trans (hb5.mono HB4.out.size)); clear hb5))
      go_ret2
      exact ⟨by rw [HEE.out]; rfl, HB5.out⟩
    · have hbe : (A.flatten == s) = false := by rw [beq_eq_false_iff_ne]; exact q
      have hbn : (A.flatten != s) = true := by rw [bne_iff_ne]; exact q
      rw [hbe] at HFB
      have HEE := Lib.hid (HE2.out HFB.out)
      clear q
      go_enter Tryd.func23, Tryd.ntmps23
      go_wp2_with (first
        | (go_at_call 20; refine (HC.out).mono ?_; rintro e w1 ⟨rfl, hb1⟩; have HB1 := Lib.hid hb1; clear hb1)
        | (go_at_call_of 51 (Value.int .i64 2); refine (sideR w1 a n c X 2 (HX.out.keep HB1.out (Nat.le_refl _)) (by omega) (by have := HF.out.2.1; omega)).mono ?_; rintro e w2 ⟨v2, rfl, hO2, hb2⟩; rw [← HEA.out] at hO2; obtain ⟨a2, c2, rfl, hr2, hc2, hm2⟩ := readsS_own hO2; have HR2 := Lib.hid hr2; have hlA2 : A.length ≤ 16777216 := by { have h1 := HF.out.2.1; have h2 := sideI_len 2 X; rw [← HEA.out] at h2; omega }; have HB2 := Lib.hid (HB1.out.trans (hb2.mono HB1.out.size)); clear hO2 hb2 hr2 hc2 hm2; obtain ⟨n2, hn2⟩ : ∃ n2, n2 = A.length := ⟨_, rfl⟩; rw [← hn2] at HR2 hlA2 ⊢; clear hn2)
        | (go_at_call_of 52 (Value.slice a2 n2 c2); refine (joinR w2 a2 n2 c2 A HR2.out (by omega) (by omega)).mono ?_; rintro e w3 ⟨rfl, hb3⟩; have HB3 := Lib.hid (HB2.out.trans (hb3.mono HB2.out.size)); clear hb3))
      go_ret2
      exact ⟨by rw [HEE.out]; rfl, HB3.out⟩
  · rw [Bool.not_eq_true] at hk
    rw [hk, Bool.false_and] at HFB
    have HK : Hid (errP (checkB X) = 310) := Lib.hid (by rw [hk]; rfl)
    rw [HK.out] at HC
    have HEE := Lib.hid (HE2.out HFB.out)
    clear hk
    go_enter Tryd.func23, Tryd.ntmps23
    go_wp2_with (go_at_call 20; refine (HC.out).mono ?_; rintro e w1 ⟨rfl, hb1⟩; have HB1 := Lib.hid hb1; clear hb1)
    go_ret2
    exact ⟨by rw [HEE.out]; rfl, HB1.out⟩
theorem distI_next {X : List HkI} {i : Nat} {x : HkI} (h : X[i]? = some x) : distI (X.take (i + 1)) = distI (X.take i) + (if x.1 = 2 ∨ x.1 = 3 then x.2.length else 0) := by
  rw [take_next h]
  unfold distI
  simp
theorem distI_le (X : List HkI) : distI X ≤ linesK X := by
  induction X with
  | nil => exact Nat.le_refl _
  | cons x X ih =>
    unfold distI linesK at *
    rw [List.map_cons, List.sum_cons, List.map_cons, List.sum_cons]
    have h2 : (if x.1 = 2 ∨ x.1 = 3 then x.2.length else 0) ≤ x.2.length := by split <;> omega
    omega
set_option maxHeartbeats 4000000 in
set_option maxRecDepth 100000 in
theorem distC (w : World) (a : Option Addr) (n c : Nat) (X : List HkI) (hX : ReadsK w a n X) (hF : Fit X) :
    Calls Tryd.prog 17 #[.slice a n c] w fun e w' => e = .returned (.int .i64 (distI X : Int)) ∧ Below w.heap.size w w' := by
  have HX := Lib.hid hX
  have HN := Lib.hid hX.len
  have HL := Lib.hid hF.2.1
  have hn : n ≤ 16777216 := by rw [← hX.len]; exact hF.1
  clear hX hF
  go_enter Tryd.func17, Tryd.ntmps17
  go_wp2
  go_loopw [3, 8] (fun ut ui wr => ∃ i t : Nat, ut = .int .i64 (t : Int) ∧ ui = .int .i64 (i : Int) ∧ i ≤ n ∧ Hid (t = distI (X.take i) ∧ Below w.heap.size w wr)) (fun _ ui _ => n - (RowKit.intOf ui).toNat)
  case atStart => exact ⟨0, 0, rfl, rfl, Nat.zero_le _, Lib.hid ⟨rfl, Below.refl _ _⟩⟩
  case round =>
    obtain ⟨i, t, rfl, rfl, hi, HR⟩ := hrel
    by_cases hlt : i < n
    · obtain ⟨b, off, x, ad, m, cm, rfl, hb, hx, hc0, hc1, hrs, hmc, hcm, hm⟩ := (HX.out.keep HR.out.2 (Nat.le_refl _)).at hlt
      have hnx := distI_next hx
      rw [← HR.out.1, hm] at hnx
      have hlx : distI (X.take (i + 1)) ≤ 16777216 := Nat.le_trans (distI_le _) (Nat.le_trans (linesK_take _ _) HL.out)
      obtain ⟨kd, hkd⟩ : ∃ kd, kd = x.1 := ⟨_, rfl⟩
      rw [← hkd] at hc0 hnx
      have hwb := HR.out.2.size
      have hBA : Below w.heap.size w (wr.alloc (.cells #[.int .i64 kd, .slice ad m cm] 80)) := HR.out.2.alloc hwb _
      have HBA := Lib.hid hBA
      have hit : (i : Int) < (n : Int) := by omega
      clear hx hrs hm hmc hcm hkd hBA
      by_cases h1 : kd = 2 ∨ kd = 3
      · rw [if_pos h1] at hnx
        rw [hnx] at hlx
        have HNX := Lib.hid hnx
        have hbe : (kd == 2) = true ∨ ((kd == 2) = false ∧ (kd == 3) = true) := by
          rcases h1 with e | e
          · exact .inl (by rw [e]; rfl)
          · exact .inr ⟨by rw [e]; rfl, by rw [e]; rfl⟩
        clear h1 hnx
        rcases hbe with q1 | ⟨q1, q2⟩
        all_goals
          go_wp2
          go_roundw
          case rel => exact ⟨i + 1, t + m, by go_num, by go_num, hlt, Lib.hid ⟨HNX.out.symm, HBA.out⟩⟩
          case measure => simp [RowKit.intOf]; omega
      · rw [if_neg h1, Nat.add_zero] at hnx
        have HNX := Lib.hid hnx
        have q1 : (kd == 2) = false := by rw [beq_eq_false_iff_ne]; exact fun e => h1 (.inl e)
        have q2 : (kd == 3) = false := by rw [beq_eq_false_iff_ne]; exact fun e => h1 (.inr e)
        clear h1 hnx
        go_wp2
        go_roundw
        case rel => exact ⟨i + 1, t, rfl, by go_num, hlt, Lib.hid ⟨HNX.out.symm, HBA.out⟩⟩
        case measure => simp [RowKit.intOf]; omega
    · obtain rfl : i = n := by omega
      have hd : X.take i = X := List.take_of_length_le (by rw [HN.out]; exact Nat.le_refl _)
      have HD := Lib.hid hd
      clear hd
      go_wp2
      go_ret
      have h9 := HR.out.1
      rw [HD.out] at h9
      exact ⟨by rw [← h9]; rfl, HR.out.2⟩
set_option maxHeartbeats 4000000 in
set_option maxRecDepth 100000 in
theorem distR (w : World) (a : Option Addr) (n c : Nat) (X : List HkI) (hX : ReadsK w a n X) (hF : Fit X) :
    Calls Tryd.prog 21 #[.slice a n c] w fun e w' => e = .returned (.int .i64 (distI X : Int)) ∧ Below w.heap.size w w' := by
  have HX := Lib.hid hX
  have HN := Lib.hid hX.len
  have HL := Lib.hid hF.2.1
  have hn : n ≤ 16777216 := by rw [← hX.len]; exact hF.1
  clear hX hF
  go_enter Tryd.func21, Tryd.ntmps21
  go_wp2
  go_loopw [3, 4] (fun ut ui wr => ∃ i t : Nat, ut = .int .i64 (t : Int) ∧ ui = .int .i64 (i : Int) ∧ i ≤ n ∧ Hid (t = distI (X.take i) ∧ Below w.heap.size w wr)) (fun _ ui _ => n - (RowKit.intOf ui).toNat)
  case atStart => exact ⟨0, 0, rfl, rfl, Nat.zero_le _, Lib.hid ⟨rfl, Below.refl _ _⟩⟩
  case round =>
    obtain ⟨i, t, rfl, rfl, hi, HR⟩ := hrel
    by_cases hlt : i < n
    · obtain ⟨b, off, x, ad, m, cm, rfl, hb, hx, hc0, hc1, hrs, hmc, hcm, hm⟩ := (HX.out.keep HR.out.2 (Nat.le_refl _)).at hlt
      have hnx := distI_next hx
      rw [← HR.out.1, hm] at hnx
      have hlx : distI (X.take (i + 1)) ≤ 16777216 := Nat.le_trans (distI_le _) (Nat.le_trans (linesK_take _ _) HL.out)
      obtain ⟨kd, hkd⟩ : ∃ kd, kd = x.1 := ⟨_, rfl⟩
      rw [← hkd] at hc0 hnx
      have hit : (i : Int) < (n : Int) := by omega
      clear hx hrs hm hmc hcm hkd
      by_cases h1 : kd = 2 ∨ kd = 3
      · rw [if_pos h1] at hnx
        rw [hnx] at hlx
        have HNX := Lib.hid hnx
        have hbe : (kd == 2) = true ∨ ((kd == 2) = false ∧ (kd == 3) = true) := by
          rcases h1 with e | e
          · exact .inl (by rw [e]; rfl)
          · exact .inr ⟨by rw [e]; rfl, by rw [e]; rfl⟩
        clear h1 hnx
        rcases hbe with q1 | ⟨q1, q2⟩
        all_goals
          go_wp2
          go_roundw
          case rel => exact ⟨i + 1, t + m, by go_num, by go_num, hlt, Lib.hid ⟨HNX.out.symm, HR.out.2⟩⟩
          case measure => simp [RowKit.intOf]; omega
      · rw [if_neg h1, Nat.add_zero] at hnx
        have HNX := Lib.hid hnx
        have q1 : (kd == 2) = false := by rw [beq_eq_false_iff_ne]; exact fun e => h1 (.inl e)
        have q2 : (kd == 3) = false := by rw [beq_eq_false_iff_ne]; exact fun e => h1 (.inr e)
        clear h1 hnx
        go_wp2
        go_roundw
        case rel => exact ⟨i + 1, t, rfl, by go_num, hlt, Lib.hid ⟨HNX.out.symm, HR.out.2⟩⟩
        case measure => simp [RowKit.intOf]; omega
    · obtain rfl : i = n := by omega
      have hd : X.take i = X := List.take_of_length_le (by rw [HN.out]; exact Nat.le_refl _)
      have HD := Lib.hid hd
      clear hd
      go_wp2
      go_ret
      have h9 := HR.out.1
      rw [HD.out] at h9
      exact ⟨by rw [← h9]; rfl, HR.out.2⟩
end Go.Proofs.YtnbihjocdlpplaaDoor
