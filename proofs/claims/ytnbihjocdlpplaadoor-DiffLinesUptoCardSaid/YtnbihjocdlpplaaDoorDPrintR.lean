/- A patch's text, by the reference. -/
import Derived.Test.YtnbihjocdlpplaaDoorDPrint
namespace Go.Proofs.YtnbihjocdlpplaaDoor
set_option linter.unusedVariables false
set_option linter.unusedSimpArgs false
open Go.RowKit
open Go.Lib hiding intOf
set_option maxHeartbeats 16000000 in
set_option maxRecDepth 100000 in
theorem printR (w : World) (a : Option Addr) (n c : Nat) (X : List HkI) (hX : ReadsK w a n X) (hF : Fit X) :
    Calls Tryd.prog 35 #[.slice a n c] w fun e w' => e = printE X ∧ Below w.heap.size w w' := by
  have HX := Lib.hid hX
  have HN := Lib.hid hX.len
  have hn : n ≤ 16777216 := by rw [← hX.len]; exact hF.1
  have HC := Lib.hid (checkR w a n c X hX hF)
  have HBY := Lib.hid hF.2.2
  clear hX hF
  by_cases hk : checkB X = true
  · have HK : Hid (errP (checkB X) = 0) := Lib.hid (by rw [hk]; rfl)
    rw [HK.out] at HC
    have HCK := Lib.hid hk
    have HPE : Hid (printE X = .returned (.tuple #[.string (bstr (printK X)), .int .i64 0])) := Lib.hid (by unfold printE; rw [if_pos hk])
    have hl := check_lines hk
    have hpl : (printK X).length ≤ 67200000 := by have := printK_len X; have := HBY.out; omega
    have HPL := Lib.hid hpl
    clear hk hpl
    go_enter Tryd.func35, Tryd.ntmps35
    go_wp2_with (go_at_call 20; refine (HC.out).mono ?_; rintro e w3 ⟨rfl, hb3⟩; have HB3 := Lib.hid hb3; clear hb3)
    have HX3 : Hid (ReadsK w3 a n X) := Lib.hid (HX.out.keep HB3.out (Nat.le_refl _))
    go_loopw [4, 5] (fun vo ui wr => ∃ (i : Nat) (acc : List UInt8), ui = .int .i64 (i : Int) ∧ i ≤ n ∧ Hid (OwnB w3.heap.size vo acc wr ∧ Below w3.heap.size w3 wr ∧ acc ++ printK (X.drop i) = printK X)) (fun _ ui _ => n - (RowKit.intOf ui).toNat)
    case atStart => exact ⟨0, [], rfl, Nat.zero_le _, Lib.hid ⟨World.ownsRow_nil _ _ _ _, Below.refl _ _, rfl⟩⟩
    case round =>
      obtain ⟨i, acc, rfl, hi, HR⟩ := hrel
      obtain ⟨vo, rfl⟩ : ∃ v : Value, v = u4 := ⟨_, rfl⟩
      by_cases hlt : i < n
      · obtain ⟨b, off, x, ad, m, cm, rfl, hb, hx, hc0, hc1, hrs, hmc, hcm, hm⟩ := HX3.out.at hlt
        have hd : ∀ W, Below w3.heap.size w3 W → W.cell? ⟨b, off + i * 2, none⟩ = some (.int .i64 x.1) ∧ W.cell? ⟨b, off + i * 2 + 1, none⟩ = some (.slice ad m cm) := fun W hW => ⟨(hW.cell (p := ⟨b, off + i * 2, none⟩) hb).trans hc0, (hW.cell (p := ⟨b, off + i * 2 + 1, none⟩) hb).trans hc1⟩
        have hkx : 1 ≤ x.1 ∧ x.1 ≤ 3 := by
          have h1 := HCK.out
          unfold checkB at h1
          rw [Bool.and_eq_true, Bool.and_eq_true] at h1
          exact (okB_mem X 0 h1.1.1 x (List.mem_of_getElem? hx)).1
        have hml : m ≤ 1024 := by
          have h1 := linesK_mem (List.mem_of_getElem? hx)
          omega
        have hxb : ∀ s ∈ x.2, s.length ≤ 67108864 := fun s hs => by
          have h1 := flat_le2 hs
          have h2 := bytesK_mem (List.mem_of_getElem? hx)
          have h3 := HBY.out
          omega
        have hfold := HR.out.2.2
        rw [printK_drop hx] at hfold
        obtain ⟨kd, hkd⟩ : ∃ kd, kd = x.1 := ⟨_, rfl⟩
        rw [← hkd] at hd hkx hfold
        have HD := Lib.hid hd
        have HFO := Lib.hid hfold
        have HXB := Lib.hid hxb
        have HRS := Lib.hid hrs
        have HM := Lib.hid hm
        have HKX := Lib.hid hkx
        have HR0 := Lib.hid HR.out
        have hit : (i : Int) < (n : Int) := by omega
        clear hx hrs hm hmc hc0 hc1 hkd hfold hxb hkx hb hd HR
        obtain ⟨acc0, hacc0⟩ : ∃ acc0, acc0 = acc := ⟨_, rfl⟩
        rw [← hacc0] at HFO HR0
        clear hacc0 acc
        go_wp2
        go_loopw [4, 6] (fun vo uj wq => ∃ (j : Nat) (acc : List UInt8), uj = .int .i64 (j : Int) ∧ j ≤ m ∧ Hid (OwnB w3.heap.size vo acc wq ∧ Below w3.heap.size w3 wq ∧ acc ++ ((x.2.drop j).flatMap (rowP kd) ++ printK (X.drop (i + 1))) = printK X)) (fun _ uj _ => m - (RowKit.intOf uj).toNat)
        case atStart => exact ⟨0, acc0, rfl, Nat.zero_le _, Lib.hid ⟨HR0.out.1, HR0.out.2.1, HFO.out⟩⟩
        case round =>
          obtain ⟨j, acc, rfl, hj, HQ⟩ := hrel
          obtain ⟨vq, rfl⟩ : ∃ v : Value, v = u4 := ⟨_, rfl⟩
          obtain ⟨g0, g1⟩ := HD.out wr HQ.out.2.1
          have hpq := HQ.out.2.1.size
          by_cases hjl : j < m
          · obtain ⟨bl, ol, s, rfl, hbl, hs, hcs⟩ := (HRS.out.keep HQ.out.2.1 (Nat.le_refl _)).at hjl
            have hls2 := HXB.out s (List.mem_of_getElem? hs)
            have hls : s.length ≤ 1099511627776 := by omega
            have hacc2 : acc.length ≤ 67200000 := by have h1 := pre_len HQ.out.2.2; have h2 := HPL.out; omega
            have hacc : acc.length ≤ 1099511627776 := by omega
            have hfo := HQ.out.2.2
            rw [rows_drop hs] at hfo
            have HNF : Hid (acc ++ (sgn kd :: (s ++ (tailP s ++ ((x.2.drop (j + 1)).flatMap (rowP kd) ++ printK (X.drop (i + 1)))))) = printK X) := Lib.hid (by rw [← hfo]; simp)
            have HEN := Lib.hid (fun W => endedR W s hls2)
            have hjt : (j : Int) < (m : Int) := by omega
            have hl1 : (acc ++ [sgn kd]).length ≤ 1099511627776 := by simp; omega
            have hl2 : ((acc ++ [sgn kd]) ++ s).length ≤ 1099511627776 := by simp; omega
            have HL1 := Lib.hid hl1
            have HL2 := Lib.hid hl2
            clear hs hfo hbl hl1 hl2
            have hk3 : kd = 1 ∨ kd = 2 ∨ kd = 3 := by have := HKX.out; omega
            have hcases : endedL s = true ∨ endedL s = false := by cases endedL s <;> simp
            rcases hk3 with rfl | rfl | rfl
            · have e1 : sgn 1 = 32 := rfl
              rw [e1] at HNF HL1 HL2
              rcases hcases with he | he
              · have ht : tailP s = [] := by unfold tailP; rw [he]; rfl
                rw [ht, List.nil_append] at HNF
                rw [he] at HEN
                clear ht he
                go_wp2_with (first
                  | (at_builtin; refine appOne rfl _ _ rfl w3.heap.size w3 wr vq acc 32 rfl HQ.out.1 rfl rfl hacc HQ.out.2.1 hpq ?_; intro v8 w8 hO8 hb8 hz8; have HO8 := Lib.hid hO8; have HB8 := Lib.hid hb8; clear hO8 hb8)
                  | (at_builtin; refine appStr rfl _ _ rfl w3.heap.size w3 v8 (acc ++ [32]) s rfl HO8.out rfl HL1.out hls HB8.out hz8 ?_; intro v9 w9 hO9 hb9 hz9; have HO9 := Lib.hid hO9; have HB9 := Lib.hid hb9; clear hO9 hb9)
                  | (go_at_call 69; refine (HEN.out w9).mono ?_; rintro e w10 ⟨rfl, h1⟩; have HO10 := Lib.hid (HO9.out.below h1); have HB10 := Lib.hid (HB9.out.trans (h1.mono hz9)); clear h1))
                have HNX : Hid (OwnB w3.heap.size v9 ((acc ++ [32]) ++ s) w10 ∧ Below w3.heap.size w3 w10) := Lib.hid ⟨HO10.out, HB10.out⟩
                go_roundw
                case rel => exact ⟨j + 1, _, by go_num, hjl, Lib.hid ⟨HNX.out.1, HNX.out.2, by rw [← HNF.out]; simp⟩⟩
                case measure => simp [RowKit.intOf]; omega
              · have ht : tailP s = [10, 92, 10] := by unfold tailP; rw [he]; rfl
                rw [ht] at HNF
                rw [he] at HEN
                clear ht he
                go_wp2_with (first
                  | (at_builtin; refine appOne rfl _ _ rfl w3.heap.size w3 wr vq acc 32 rfl HQ.out.1 rfl rfl hacc HQ.out.2.1 hpq ?_; intro v8 w8 hO8 hb8 hz8; have HO8 := Lib.hid hO8; have HB8 := Lib.hid hb8; clear hO8 hb8)
                  | (at_builtin; refine appStr rfl _ _ rfl w3.heap.size w3 v8 (acc ++ [32]) s rfl HO8.out rfl HL1.out hls HB8.out hz8 ?_; intro v9 w9 hO9 hb9 hz9; have HO9 := Lib.hid hO9; have HB9 := Lib.hid hb9; clear hO9 hb9)
                  | (go_at_call 69; refine (HEN.out w9).mono ?_; rintro e w10 ⟨rfl, h1⟩; have HO10 := Lib.hid (HO9.out.below h1); have HB10 := Lib.hid (HB9.out.trans (h1.mono hz9)); have hz10 := Nat.le_trans hz9 h1.size; clear h1)
                  | (at_builtin; refine appStr rfl _ _ rfl w3.heap.size w3 v9 ((acc ++ [32]) ++ s) [10, 92, 10] rfl HO10.out rfl HL2.out (by decide) HB10.out hz10 ?_; intro v11 w11 hO11 hb11 hz11; have HO11 := Lib.hid hO11; have HB11 := Lib.hid hb11; clear hO11 hb11))
                have HNX : Hid (OwnB w3.heap.size v11 (((acc ++ [32]) ++ s) ++ [10, 92, 10]) w11 ∧ Below w3.heap.size w3 w11) := Lib.hid ⟨HO11.out, HB11.out⟩
                go_roundw
                case rel => exact ⟨j + 1, _, by go_num, hjl, Lib.hid ⟨HNX.out.1, HNX.out.2, by rw [← HNF.out]; simp⟩⟩
                case measure => simp [RowKit.intOf]; omega
            · have e1 : sgn 2 = 45 := rfl
              rw [e1] at HNF HL1 HL2
              rcases hcases with he | he
              · have ht : tailP s = [] := by unfold tailP; rw [he]; rfl
                rw [ht, List.nil_append] at HNF
                rw [he] at HEN
                clear ht he
                go_wp2_with (first
                  | (at_builtin; refine appOne rfl _ _ rfl w3.heap.size w3 wr vq acc 45 rfl HQ.out.1 rfl rfl hacc HQ.out.2.1 hpq ?_; intro v8 w8 hO8 hb8 hz8; have HO8 := Lib.hid hO8; have HB8 := Lib.hid hb8; clear hO8 hb8)
                  | (at_builtin; refine appStr rfl _ _ rfl w3.heap.size w3 v8 (acc ++ [45]) s rfl HO8.out rfl HL1.out hls HB8.out hz8 ?_; intro v9 w9 hO9 hb9 hz9; have HO9 := Lib.hid hO9; have HB9 := Lib.hid hb9; clear hO9 hb9)
                  | (go_at_call 69; refine (HEN.out w9).mono ?_; rintro e w10 ⟨rfl, h1⟩; have HO10 := Lib.hid (HO9.out.below h1); have HB10 := Lib.hid (HB9.out.trans (h1.mono hz9)); clear h1))
                have HNX : Hid (OwnB w3.heap.size v9 ((acc ++ [45]) ++ s) w10 ∧ Below w3.heap.size w3 w10) := Lib.hid ⟨HO10.out, HB10.out⟩
                go_roundw
                case rel => exact ⟨j + 1, _, by go_num, hjl, Lib.hid ⟨HNX.out.1, HNX.out.2, by rw [← HNF.out]; simp⟩⟩
                case measure => simp [RowKit.intOf]; omega
              · have ht : tailP s = [10, 92, 10] := by unfold tailP; rw [he]; rfl
                rw [ht] at HNF
                rw [he] at HEN
                clear ht he
                go_wp2_with (first
                  | (at_builtin; refine appOne rfl _ _ rfl w3.heap.size w3 wr vq acc 45 rfl HQ.out.1 rfl rfl hacc HQ.out.2.1 hpq ?_; intro v8 w8 hO8 hb8 hz8; have HO8 := Lib.hid hO8; have HB8 := Lib.hid hb8; clear hO8 hb8)
                  | (at_builtin; refine appStr rfl _ _ rfl w3.heap.size w3 v8 (acc ++ [45]) s rfl HO8.out rfl HL1.out hls HB8.out hz8 ?_; intro v9 w9 hO9 hb9 hz9; have HO9 := Lib.hid hO9; have HB9 := Lib.hid hb9; clear hO9 hb9)
                  | (go_at_call 69; refine (HEN.out w9).mono ?_; rintro e w10 ⟨rfl, h1⟩; have HO10 := Lib.hid (HO9.out.below h1); have HB10 := Lib.hid (HB9.out.trans (h1.mono hz9)); have hz10 := Nat.le_trans hz9 h1.size; clear h1)
                  | (at_builtin; refine appStr rfl _ _ rfl w3.heap.size w3 v9 ((acc ++ [45]) ++ s) [10, 92, 10] rfl HO10.out rfl HL2.out (by decide) HB10.out hz10 ?_; intro v11 w11 hO11 hb11 hz11; have HO11 := Lib.hid hO11; have HB11 := Lib.hid hb11; clear hO11 hb11))
                have HNX : Hid (OwnB w3.heap.size v11 (((acc ++ [45]) ++ s) ++ [10, 92, 10]) w11 ∧ Below w3.heap.size w3 w11) := Lib.hid ⟨HO11.out, HB11.out⟩
                go_roundw
                case rel => exact ⟨j + 1, _, by go_num, hjl, Lib.hid ⟨HNX.out.1, HNX.out.2, by rw [← HNF.out]; simp⟩⟩
                case measure => simp [RowKit.intOf]; omega
            · have e1 : sgn 3 = 43 := rfl
              rw [e1] at HNF HL1 HL2
              rcases hcases with he | he
              · have ht : tailP s = [] := by unfold tailP; rw [he]; rfl
                rw [ht, List.nil_append] at HNF
                rw [he] at HEN
                clear ht he
                go_wp2_with (first
                  | (at_builtin; refine appOne rfl _ _ rfl w3.heap.size w3 wr vq acc 43 rfl HQ.out.1 rfl rfl hacc HQ.out.2.1 hpq ?_; intro v8 w8 hO8 hb8 hz8; have HO8 := Lib.hid hO8; have HB8 := Lib.hid hb8; clear hO8 hb8)
                  | (at_builtin; refine appStr rfl _ _ rfl w3.heap.size w3 v8 (acc ++ [43]) s rfl HO8.out rfl HL1.out hls HB8.out hz8 ?_; intro v9 w9 hO9 hb9 hz9; have HO9 := Lib.hid hO9; have HB9 := Lib.hid hb9; clear hO9 hb9)
                  | (go_at_call 69; refine (HEN.out w9).mono ?_; rintro e w10 ⟨rfl, h1⟩; have HO10 := Lib.hid (HO9.out.below h1); have HB10 := Lib.hid (HB9.out.trans (h1.mono hz9)); clear h1))
                have HNX : Hid (OwnB w3.heap.size v9 ((acc ++ [43]) ++ s) w10 ∧ Below w3.heap.size w3 w10) := Lib.hid ⟨HO10.out, HB10.out⟩
                go_roundw
                case rel => exact ⟨j + 1, _, by go_num, hjl, Lib.hid ⟨HNX.out.1, HNX.out.2, by rw [← HNF.out]; simp⟩⟩
                case measure => simp [RowKit.intOf]; omega
              · have ht : tailP s = [10, 92, 10] := by unfold tailP; rw [he]; rfl
                rw [ht] at HNF
                rw [he] at HEN
                clear ht he
                go_wp2_with (first
                  | (at_builtin; refine appOne rfl _ _ rfl w3.heap.size w3 wr vq acc 43 rfl HQ.out.1 rfl rfl hacc HQ.out.2.1 hpq ?_; intro v8 w8 hO8 hb8 hz8; have HO8 := Lib.hid hO8; have HB8 := Lib.hid hb8; clear hO8 hb8)
                  | (at_builtin; refine appStr rfl _ _ rfl w3.heap.size w3 v8 (acc ++ [43]) s rfl HO8.out rfl HL1.out hls HB8.out hz8 ?_; intro v9 w9 hO9 hb9 hz9; have HO9 := Lib.hid hO9; have HB9 := Lib.hid hb9; clear hO9 hb9)
                  | (go_at_call 69; refine (HEN.out w9).mono ?_; rintro e w10 ⟨rfl, h1⟩; have HO10 := Lib.hid (HO9.out.below h1); have HB10 := Lib.hid (HB9.out.trans (h1.mono hz9)); have hz10 := Nat.le_trans hz9 h1.size; clear h1)
                  | (at_builtin; refine appStr rfl _ _ rfl w3.heap.size w3 v9 ((acc ++ [43]) ++ s) [10, 92, 10] rfl HO10.out rfl HL2.out (by decide) HB10.out hz10 ?_; intro v11 w11 hO11 hb11 hz11; have HO11 := Lib.hid hO11; have HB11 := Lib.hid hb11; clear hO11 hb11))
                have HNX : Hid (OwnB w3.heap.size v11 (((acc ++ [43]) ++ s) ++ [10, 92, 10]) w11 ∧ Below w3.heap.size w3 w11) := Lib.hid ⟨HO11.out, HB11.out⟩
                go_roundw
                case rel => exact ⟨j + 1, _, by go_num, hjl, Lib.hid ⟨HNX.out.1, HNX.out.2, by rw [← HNF.out]; simp⟩⟩
                case measure => simp [RowKit.intOf]; omega
          · obtain rfl : j = m := by omega
            have hdr : x.2.drop j = [] := List.drop_of_length_le (by rw [HM.out]; exact Nat.le_refl _)
            have HNX : Hid (OwnB w3.heap.size vq acc wr ∧ Below w3.heap.size w3 wr ∧ acc ++ printK (X.drop (i + 1)) = printK X) := by
              have h1 := HQ.out.2.2
              rw [hdr] at h1
              exact Lib.hid ⟨HQ.out.1, HQ.out.2.1, h1⟩
            clear hdr
            go_wp2
            go_roundw
            case rel => exact ⟨i + 1, _, by go_num, hlt, HNX⟩
            case measure => simp [RowKit.intOf]; omega
      · obtain rfl : i = n := by omega
        have hd : X.drop i = [] := List.drop_of_length_le (by rw [HN.out]; exact Nat.le_refl _)
        have hout := HR.out.2.2
        rw [hd] at hout
        have hout2 : acc = printK X := by rw [← hout]; simp [printK]
        have hcv := conv_own HR.out.1
        rw [hout2] at hcv
        clear hd hout hout2
        go_wp2
        go_ret2
        exact ⟨by rw [HPE.out]; rfl, HB3.out.trans (HR.out.2.1.mono HB3.out.size)⟩
  · rw [Bool.not_eq_true] at hk
    have HK : Hid (errP (checkB X) = 310) := Lib.hid (by rw [hk]; rfl)
    rw [HK.out] at HC
    have HPE : Hid (printE X = .returned (.tuple #[.string (bstr []), .int .i64 310])) := Lib.hid (by unfold printE; rw [hk]; rfl)
    clear hk
    go_enter Tryd.func35, Tryd.ntmps35
    go_wp2_with (go_at_call 20; refine (HC.out).mono ?_; rintro e w3 ⟨rfl, hb3⟩; have HB3 := Lib.hid hb3; clear hb3)
    go_ret2
    exact ⟨by rw [HPE.out]; rfl, HB3.out⟩
end Go.Proofs.YtnbihjocdlpplaaDoor
