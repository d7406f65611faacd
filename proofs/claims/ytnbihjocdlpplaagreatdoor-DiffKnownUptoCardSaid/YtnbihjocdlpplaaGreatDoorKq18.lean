/- Texts joined, one behind the other (DPrintR, DGrid, Arr). -/
import Derived.Test.YtnbihjocdlpplaaGreatDoorKq17
import Derived.Deep.MidRow
import Derived.Deep.QuietTactic
/- A patch's text, by the reference. -/
namespace Go.Proofs.YtnbihjocdlpplaaGreatDoor
set_option linter.unusedVariables false
set_option linter.unusedSimpArgs false
open Go.RowKit
open Go.Lib hiding intOf
set_option maxHeartbeats 16000000 in
set_option maxRecDepth 100000 in
theorem printR (w : World) (a : Option Addr) (n c : Nat) (X : List HkI) (hX : ReadsK w a n X) (hF : Fit X) :
    Calls Tryz.prog 33 #[.slice a n c] w fun e w' => e = printE X ∧ Below w.heap.size w w' := by
  have HX := Lib.hid hX
  have HN := Lib.hid hX.len
  have hn : n ≤ 16777216 := by rw [← hX.len]; exact hF.1
  have HC := Lib.hid (checkR w a n c X hX hF)
  have HBY := Lib.hid hF.2.2
  clear hX hF
  by_cases hk : checkB X = true
  · have HK : Hid (errP (checkB X) = 0) := Lib.hid (by rw [hk]; rfl)
    rw [HK.out] at HC
    have HCK := Lib.hid hk
    have HPE : Hid (printE X = .returned (.tuple #[.string (bstr (printK X)), .int .i64 0])) := Lib.hid (by unfold printE; rw [if_pos hk])
    have hl := check_lines hk
    have hpl : (printK X).length ≤ 67200000 := by have := printK_len X; have := HBY.out; omega
    have HPL := Lib.hid hpl
    clear hk hpl
    go_enter Tryz.func33, Tryz.ntmps33
    go_wp2_with (go_at_call 26; refine (HC.out).mono ?_; rintro e w3 ⟨rfl, hb3⟩; have HB3 := Lib.hid hb3; clear hb3)
    have HX3 : Hid (ReadsK w3 a n X) := Lib.hid (HX.out.keep HB3.out (Nat.le_refl _))
    go_loopw [4, 5] (fun vo ui wr => ∃ (i : Nat) (acc : List UInt8), ui = .int .i64 (i : Int) ∧ i ≤ n ∧ Hid (OwnB w3.heap.size vo acc wr ∧ Below w3.heap.size w3 wr ∧ acc ++ printK (X.drop i) = printK X)) (fun _ ui _ => n - (RowKit.intOf ui).toNat)
    case atStart => exact ⟨0, [], rfl, Nat.zero_le _, Lib.hid ⟨World.ownsRow_nil _ _ _ _, Below.refl _ _, rfl⟩⟩
    case round =>
      obtain ⟨i, acc, rfl, hi, HR⟩ := hrel
      obtain ⟨vo, rfl⟩ : ∃ v : Value, v = u4 := ⟨_, rfl⟩
      by_cases hlt : i < n
      · obtain ⟨b, off, x, ad, m, cm, rfl, hb, hx, hc0, hc1, hrs, hmc, hcm, hm⟩ := HX3.out.at hlt
        have hd : ∀ W, Below w3.heap.size w3 W → W.cell? ⟨b, off + i * 2, none⟩ = some (.int .i64 x.1) ∧ W.cell? ⟨b, off + i * 2 + 1, none⟩ = some (.slice ad m cm) := fun W hW => ⟨(hW.cell (p := ⟨b, off + i * 2, none⟩) hb).trans hc0, (hW.cell (p := ⟨b, off + i * 2 + 1, none⟩) hb).trans hc1⟩
        have hkx : 1 ≤ x.1 ∧ x.1 ≤ 3 := by
          have h1 := HCK.out
          unfold checkB at h1
          rw [Bool.and_eq_true, Bool.and_eq_true] at h1
          exact (okB_mem X 0 h1.1.1 x (List.mem_of_getElem? hx)).1
        have hml : m ≤ 1024 := by
          have h1 := linesK_mem (List.mem_of_getElem? hx)
          omega
        have hxb : ∀ s ∈ x.2, s.length ≤ 67108864 := fun s hs => by
          have h1 := flat_le2 hs
          have h2 := bytesK_mem (List.mem_of_getElem? hx)
          have h3 := HBY.out
          omega
        have hfold := HR.out.2.2
        rw [printK_drop hx] at hfold
        obtain ⟨kd, hkd⟩ : ∃ kd, kd = x.1 := ⟨_, rfl⟩
        rw [← hkd] at hd hkx hfold
        have HD := Lib.hid hd
        have HFO := Lib.hid hfold
        have HXB := Lib.hid hxb
        have HRS := Lib.hid hrs
        have HM := Lib.hid hm
        have HKX := Lib.hid hkx
        have HR0 := Lib.hid HR.out
        have hit : (i : Int) < (n : Int) := by omega
        clear hx hrs hm hmc hc0 hc1 hkd hfold hxb hkx hb hd HR
        obtain ⟨acc0, hacc0⟩ : ∃ acc0, acc0 = acc := ⟨_, rfl⟩
        rw [← hacc0] at HFO HR0
        clear hacc0 acc
        go_wp2
        go_loopw [4, 6] (fun vo uj wq => ∃ (j : Nat) (acc : List UInt8), uj = .int .i64 (j : Int) ∧ j ≤ m ∧ Hid (OwnB w3.heap.size vo acc wq ∧ Below w3.heap.size w3 wq ∧ acc ++ ((x.2.drop j).flatMap (rowP kd) ++ printK (X.drop (i + 1))) = printK X)) (fun _ uj _ => m - (RowKit.intOf uj).toNat)
        case atStart => exact ⟨0, acc0, rfl, Nat.zero_le _, Lib.hid ⟨HR0.out.1, HR0.out.2.1, HFO.out⟩⟩
        case round =>
          obtain ⟨j, acc, rfl, hj, HQ⟩ := hrel
          obtain ⟨vq, rfl⟩ : ∃ v : Value, v = u4 := ⟨_, rfl⟩
          obtain ⟨g0, g1⟩ := HD.out wr HQ.out.2.1
          have hpq := HQ.out.2.1.size
          by_cases hjl : j < m
          · obtain ⟨bl, ol, s, rfl, hbl, hs, hcs⟩ := (HRS.out.keep HQ.out.2.1 (Nat.le_refl _)).at hjl
            have hls2 := HXB.out s (List.mem_of_getElem? hs)
            have hls : s.length ≤ 1099511627776 := by omega
            have hacc2 : acc.length ≤ 67200000 := by have h1 := pre_len HQ.out.2.2; have h2 := HPL.out; omega
            have hacc : acc.length ≤ 1099511627776 := by omega
            have hfo := HQ.out.2.2
            rw [rows_drop hs] at hfo
            have HNF : Hid (acc ++ (sgn kd :: (s ++ (tailP s ++ ((x.2.drop (j + 1)).flatMap (rowP kd) ++ printK (X.drop (i + 1)))))) = printK X) := Lib.hid (by rw [← hfo]; simp)
            have HEN := Lib.hid (fun W => endedR W s hls2)
            have hjt : (j : Int) < (m : Int) := by omega
            have hl1 : (acc ++ [sgn kd]).length ≤ 1099511627776 := by simp; omega
            have hl2 : ((acc ++ [sgn kd]) ++ s).length ≤ 1099511627776 := by simp; omega
            have HL1 := Lib.hid hl1
            have HL2 := Lib.hid hl2
            clear hs hfo hbl hl1 hl2
            have hk3 : kd = 1 ∨ kd = 2 ∨ kd = 3 := by have := HKX.out; omega
            have hcases : endedL s = true ∨ endedL s = false := by cases endedL s <;> simp
            rcases hk3 with rfl | rfl | rfl
            · have e1 : sgn 1 = 32 := rfl
              rw [e1] at HNF HL1 HL2
              rcases hcases with he | he
              · have ht : tailP s = [] := by unfold tailP; rw [he]; rfl
                rw [ht, List.nil_append] at HNF
                rw [he] at HEN
                clear ht he
                go_wp2_with (first
                  | (at_builtin; refine appOne rfl _ _ rfl w3.heap.size w3 wr vq acc 32 rfl HQ.out.1 rfl rfl hacc HQ.out.2.1 hpq ?_; intro v8 w8 hO8 hb8 hz8; have HO8 := Lib.hid hO8; have HB8 := Lib.hid hb8; clear hO8 hb8)
                  | (at_builtin; refine appStr rfl _ _ rfl w3.heap.size w3 v8 (acc ++ [32]) s rfl HO8.out rfl HL1.out hls HB8.out hz8 ?_; intro v9 w9 hO9 hb9 hz9; have HO9 := Lib.hid hO9; have HB9 := Lib.hid hb9; clear hO9 hb9)
                  | (go_at_call 67; refine (HEN.out w9).mono ?_; rintro e w10 ⟨rfl, h1⟩; have HO10 := Lib.hid (HO9.out.below h1); have HB10 := Lib.hid (HB9.out.trans (h1.mono hz9)); clear h1))
                have HNX : Hid (OwnB w3.heap.size v9 ((acc ++ [32]) ++ s) w10 ∧ Below w3.heap.size w3 w10) := Lib.hid ⟨HO10.out, HB10.out⟩
                go_roundw
                case rel => exact ⟨j + 1, _, by go_num, hjl, Lib.hid ⟨HNX.out.1, HNX.out.2, by rw [← HNF.out]; simp⟩⟩
                case measure => simp [RowKit.intOf]; omega
              · have ht : tailP s = [10, 92, 10] := by unfold tailP; rw [he]; rfl
                rw [ht] at HNF
                rw [he] at HEN
                clear ht he
                go_wp2_with (first
                  | (at_builtin; refine appOne rfl _ _ rfl w3.heap.size w3 wr vq acc 32 rfl HQ.out.1 rfl rfl hacc HQ.out.2.1 hpq ?_; intro v8 w8 hO8 hb8 hz8; have HO8 := Lib.hid hO8; have HB8 := Lib.hid hb8; clear hO8 hb8)
                  | (at_builtin; refine appStr rfl _ _ rfl w3.heap.size w3 v8 (acc ++ [32]) s rfl HO8.out rfl HL1.out hls HB8.out hz8 ?_; intro v9 w9 hO9 hb9 hz9; have HO9 := Lib.hid hO9; have HB9 := Lib.hid hb9; clear hO9 hb9)
                  | (go_at_call 67; refine (HEN.out w9).mono ?_; rintro e w10 ⟨rfl, h1⟩; have HO10 := Lib.hid (HO9.out.below h1); have HB10 := Lib.hid (HB9.out.trans (h1.mono hz9)); have hz10 := Nat.le_trans hz9 h1.size; clear h1)
                  | (at_builtin; refine appStr rfl _ _ rfl w3.heap.size w3 v9 ((acc ++ [32]) ++ s) [10, 92, 10] rfl HO10.out rfl HL2.out (by decide) HB10.out hz10 ?_; intro v11 w11 hO11 hb11 hz11; have HO11 := Lib.hid hO11; have HB11 := Lib.hid hb11; clear hO11 hb11))
                have HNX : Hid (OwnB w3.heap.size v11 (((acc ++ [32]) ++ s) ++ [10, 92, 10]) w11 ∧ Below w3.heap.size w3 w11) := Lib.hid ⟨HO11.out, HB11.out⟩
                go_roundw
                case rel => exact ⟨j + 1, _, by go_num, hjl, Lib.hid ⟨HNX.out.1, HNX.out.2, by rw [← HNF.out]; simp⟩⟩
                case measure => simp [RowKit.intOf]; omega
            · have e1 : sgn 2 = 45 := rfl
              rw [e1] at HNF HL1 HL2
              rcases hcases with he | he
              · have ht : tailP s = [] := by unfold tailP; rw [he]; rfl
                rw [ht, List.nil_append] at HNF
                rw [he] at HEN
                clear ht he
                go_wp2_with (first
                  | (at_builtin; refine appOne rfl _ _ rfl w3.heap.size w3 wr vq acc 45 rfl HQ.out.1 rfl rfl hacc HQ.out.2.1 hpq ?_; intro v8 w8 hO8 hb8 hz8; have HO8 := Lib.hid hO8; have HB8 := Lib.hid hb8; clear hO8 hb8)
                  | (at_builtin; refine appStr rfl _ _ rfl w3.heap.size w3 v8 (acc ++ [45]) s rfl HO8.out rfl HL1.out hls HB8.out hz8 ?_; intro v9 w9 hO9 hb9 hz9; have HO9 := Lib.hid hO9; have HB9 := Lib.hid hb9; clear hO9 hb9)
                  | (go_at_call 67; refine (HEN.out w9).mono ?_; rintro e w10 ⟨rfl, h1⟩; have HO10 := Lib.hid (HO9.out.below h1); have HB10 := Lib.hid (HB9.out.trans (h1.mono hz9)); clear h1))
                have HNX : Hid (OwnB w3.heap.size v9 ((acc ++ [45]) ++ s) w10 ∧ Below w3.heap.size w3 w10) := Lib.hid ⟨HO10.out, HB10.out⟩
                go_roundw
                case rel => exact ⟨j + 1, _, by go_num, hjl, Lib.hid ⟨HNX.out.1, HNX.out.2, by rw [← HNF.out]; simp⟩⟩
                case measure => simp [RowKit.intOf]; omega
              · have ht : tailP s = [10, 92, 10] := by unfold tailP; rw [he]; rfl
                rw [ht] at HNF
                rw [he] at HEN
                clear ht he
                go_wp2_with (first
                  | (at_builtin; refine appOne rfl _ _ rfl w3.heap.size w3 wr vq acc 45 rfl HQ.out.1 rfl rfl hacc HQ.out.2.1 hpq ?_; intro v8 w8 hO8 hb8 hz8; have HO8 := Lib.hid hO8; have HB8 := Lib.hid hb8; clear hO8 hb8)
                  | (at_builtin; refine appStr rfl _ _ rfl w3.heap.size w3 v8 (acc ++ [45]) s rfl HO8.out rfl HL1.out hls HB8.out hz8 ?_; intro v9 w9 hO9 hb9 hz9; have HO9 := Lib.hid hO9; have HB9 := Lib.hid hb9; clear hO9 hb9)
                  | (go_at_call 67; refine (HEN.out w9).mono ?_; rintro e w10 ⟨rfl, h1⟩; have HO10 := Lib.hid (HO9.out.below h1); have HB10 := Lib.hid (HB9.out.trans (h1.mono hz9)); have hz10 := Nat.le_trans hz9 h1.size; clear h1)
                  | (at_builtin; refine appStr rfl _ _ rfl w3.heap.size w3 v9 ((acc ++ [45]) ++ s) [10, 92, 10] rfl HO10.out rfl HL2.out (by decide) HB10.out hz10 ?_; intro v11 w11 hO11 hb11 hz11; have HO11 := Lib.hid hO11; have HB11 := Lib.hid hb11; clear hO11 hb11))
                have HNX : Hid (OwnB w3.heap.size v11 (((acc ++ [45]) ++ s) ++ [10, 92, 10]) w11 ∧ Below w3.heap.size w3 w11) := Lib.hid ⟨HO11.out, HB11.out⟩
                go_roundw
                case rel => exact ⟨j + 1, _, by go_num, hjl, Lib.hid ⟨HNX.out.1, HNX.out.2, by rw [← HNF.out]; simp⟩⟩
                case measure => simp [RowKit.intOf]; omega
            · have e1 : sgn 3 = 43 := rfl
              rw [e1] at HNF HL1 HL2
              rcases hcases with he | he
              · have ht : tailP s = [] := by unfold tailP; rw [he]; rfl
                rw [ht, List.nil_append] at HNF
                rw [he] at HEN
                clear ht he
                go_wp2_with (first
                  | (at_builtin; refine appOne rfl _ _ rfl w3.heap.size w3 wr vq acc 43 rfl HQ.out.1 rfl rfl hacc HQ.out.2.1 hpq ?_; intro v8 w8 hO8 hb8 hz8; have HO8 := Lib.hid hO8; have HB8 := Lib.hid hb8; clear hO8 hb8)
                  | (at_builtin; refine appStr rfl _ _ rfl w3.heap.size w3 v8 (acc ++ [43]) s rfl HO8.out rfl HL1.out hls HB8.out hz8 ?_; intro v9 w9 hO9 hb9 hz9; have HO9 := Lib.hid hO9; have HB9 := Lib.hid hb9; clear hO9 hb9)
                  | (go_at_call 67; refine (HEN.out w9).mono ?_; rintro e w10 ⟨rfl, h1⟩; have HO10 := Lib.hid (HO9.out.below h1); have HB10 := Lib.hid (HB9.out.trans (h1.mono hz9)); clear h1))
                have HNX : Hid (OwnB w3.heap.size v9 ((acc ++ [43]) ++ s) w10 ∧ Below w3.heap.size w3 w10) := Lib.hid ⟨HO10.out, HB10.out⟩
                go_roundw
                case rel => exact ⟨j + 1, _, by go_num, hjl, Lib.hid ⟨HNX.out.1, HNX.out.2, by rw [← HNF.out]; simp⟩⟩
                case measure => simp [RowKit.intOf]; omega
              · have ht : tailP s = [10, 92, 10] := by unfold tailP; rw [he]; rfl
                rw [ht] at HNF
                rw [he] at HEN
                clear ht he
                go_wp2_with (first
                  | (at_builtin; refine appOne rfl _ _ rfl w3.heap.size w3 wr vq acc 43 rfl HQ.out.1 rfl rfl hacc HQ.out.2.1 hpq ?_; intro v8 w8 hO8 hb8 hz8; have HO8 := Lib.hid hO8; have HB8 := Lib.hid hb8; clear hO8 hb8)
                  | (at_builtin; refine appStr rfl _ _ rfl w3.heap.size w3 v8 (acc ++ [43]) s rfl HO8.out rfl HL1.out hls HB8.out hz8 ?_; intro v9 w9 hO9 hb9 hz9; have HO9 := Lib.hid hO9; have HB9 := Lib.hid hb9; clear hO9 hb9)
                  | (go_at_call 67; refine (HEN.out w9).mono ?_; rintro e w10 ⟨rfl, h1⟩; have HO10 := Lib.hid (HO9.out.below h1); have HB10 := Lib.hid (HB9.out.trans (h1.mono hz9)); have hz10 := Nat.le_trans hz9 h1.size; clear h1)
                  | (at_builtin; refine appStr rfl _ _ rfl w3.heap.size w3 v9 ((acc ++ [43]) ++ s) [10, 92, 10] rfl HO10.out rfl HL2.out (by decide) HB10.out hz10 ?_; intro v11 w11 hO11 hb11 hz11; have HO11 := Lib.hid hO11; have HB11 := Lib.hid hb11; clear hO11 hb11))
                have HNX : Hid (OwnB w3.heap.size v11 (((acc ++ [43]) ++ s) ++ [10, 92, 10]) w11 ∧ Below w3.heap.size w3 w11) := Lib.hid ⟨HO11.out, HB11.out⟩
                go_roundw
                case rel => exact ⟨j + 1, _, by go_num, hjl, Lib.hid ⟨HNX.out.1, HNX.out.2, by rw [← HNF.out]; simp⟩⟩
                case measure => simp [RowKit.intOf]; omega
          · obtain rfl : j = m := by omega
            have hdr : x.2.drop j = [] := List.drop_of_length_le (by rw [HM.out]; exact Nat.le_refl _)
            have HNX : Hid (OwnB w3.heap.size vq acc wr ∧ Below w3.heap.size w3 wr ∧ acc ++ printK (X.drop (i + 1)) = printK X) := by
              have h1 := HQ.out.2.2
              rw [hdr] at h1
              exact Lib.hid ⟨HQ.out.1, HQ.out.2.1, h1⟩
            clear hdr
            go_wp2
            go_roundw
            case rel => exact ⟨i + 1, _, by go_num, hlt, HNX⟩
            case measure => simp [RowKit.intOf]; omega
      · obtain rfl : i = n := by omega
        have hd : X.drop i = [] := List.drop_of_length_le (by rw [HN.out]; exact Nat.le_refl _)
        have hout := HR.out.2.2
        rw [hd] at hout
        have hout2 : acc = printK X := by rw [← hout]; simp [printK]
        have hcv := conv_own HR.out.1
        rw [hout2] at hcv
        clear hd hout hout2
        go_wp2
        go_ret2
        exact ⟨by rw [HPE.out]; rfl, HB3.out.trans (HR.out.2.1.mono HB3.out.size)⟩
  · rw [Bool.not_eq_true] at hk
    have HK : Hid (errP (checkB X) = 310) := Lib.hid (by rw [hk]; rfl)
    rw [HK.out] at HC
    have HPE : Hid (printE X = .returned (.tuple #[.string (bstr []), .int .i64 310])) := Lib.hid (by unfold printE; rw [hk]; rfl)
    clear hk
    go_enter Tryz.func33, Tryz.ntmps33
    go_wp2_with (go_at_call 26; refine (HC.out).mono ?_; rintro e w3 ⟨rfl, hb3⟩; have HB3 := Lib.hid hb3; clear hb3)
    go_ret2
    exact ⟨by rw [HPE.out]; rfl, HB3.out⟩
end Go.Proofs.YtnbihjocdlpplaaGreatDoor
/- The memory of the table of least numbers. -/
namespace Go.Proofs.YtnbihjocdlpplaaGreatDoor
set_option linter.unusedVariables false
set_option linter.unusedSimpArgs false
open Go.RowKit
open Go.Lib
def I16 (k : Nat) : Value := .int .i16 (k : Int)
def zero16 : List Value := List.replicate 513 (.int .i16 0)
theorem zero16_len : zero16.length = 513 := List.length_replicate
theorem infoRow16 : (Tryz.prog.info? 72).map (fun i => (i.zero, i.size, i.bytes)) = some (some (.agg zero16.toArray), 513, 1026) := by kernel_rfl
theorem zero16_one : ∀ v ∈ zero16, v.oneCell' = true := fun v hv => by rw [List.eq_of_mem_replicate hv]; rfl
theorem zero16_at {j : Nat} (hj : j < 513) : zero16[j]? = some (.int .i16 0) := by unfold zero16; rw [List.getElem?_replicate, if_pos hj]
theorem size16 : (Tryz.prog.info? 72).map (·.size) = some 513 := by kernel_rfl
theorem under16 : Tryz.prog.underlying 72 = some (.array 513 70) := by kernel_rfl
theorem run_build16 (w : World) : (Instr.build 72 #[]).run Tryz.prog w = .ok (.agg zero16.toArray) w := by kernel_rfl
theorem made_rep (m : Nat) (hm : 0 < m) (z : Value) (N : Nat) : (madeCells (List.replicate m z).toArray N).toList = List.replicate N z := by
  apply List.ext_getElem?
  intro j
  by_cases hj : j < N
  · have h1 : j % m < m := Nat.mod_lt _ hm
    simp [madeCells, hj, h1]
  · simp [madeCells, hj]
theorem made16 (N : Nat) : (madeCells zero16.toArray N).toList = List.replicate N (.int .i16 0) := made_rep 513 (by decide) _ N
theorem makeL (w : World) (n : Nat) (hn : n ≤ 512) : ∃ wm, (Instr.makeSlice 63 (.int .i64 ((n : Int) + 1)) (.int .i64 ((n : Int) + 1))).run Tryz.prog w = .ok (.slice (some ⟨w.heap.size, 0, none⟩) (n + 1) (n + 1)) wm ∧ Row wm w.heap.size 72 (List.replicate ((n + 1) * 513) (.int .i16 0)) ∧ Below w.heap.size w wm := by
  obtain ⟨i0, hi, hz0, hz1, hz2⟩ := info_parts infoRow16
  have hr := run_make (P := Tryz.prog) w 63 72 i0 (.agg zero16.toArray) Tryz.underlying63 hi hz0 .i64 .i64 ((n : Int) + 1) ((n : Int) + 1) (by omega) (Int.le_refl _) (by rw [hz2]; omega) (by omega)
  rw [hz1] at hr
  have e : ((n : Int) + 1).toNat = n + 1 := by omega
  rw [e] at hr
  refine ⟨_, hr, ?_, (Below.refl _ w).alloc (Nat.le_refl _) _⟩
  have h1 := heap_alloc_new w (.cells (madeCells zero16.toArray ((n + 1) * 513)) 72)
  unfold Row
  rw [← made16]
  simpa [Value.cells] using h1
theorem Row.setCells {e : TypeId} {g : Nat} : ∀ (vs : List Value) (o : Nat) (w : World) (xs : List Value), Row w g e xs → ∃ ys, Row (w.setCells g o vs) g e ys ∧ ys.length = xs.length ∧ (∀ j, j < o ∨ o + vs.length ≤ j → ys[j]? = xs[j]?) ∧ (o + vs.length ≤ xs.length → ∀ j, j < vs.length → ys[o + j]? = vs[j]?) ∧ (∀ v ∈ ys, v ∈ xs ∨ v ∈ vs)
  | [], o, w, xs, h => ⟨xs, h, rfl, fun _ _ => rfl, fun _ j hj => absurd hj (Nat.not_lt_zero _), fun v hv => .inl hv⟩
  | v :: r, o, w, xs, h => by
    obtain ⟨ys, h1, h2, h3, h4, h5⟩ := Row.setCells r (o + 1) _ _ (h.set o v)
    refine ⟨ys, h1, by rw [h2, List.length_set], fun j hj => ?_, fun hl j hj => ?_, fun u hu => ?_⟩
    · rw [h3 j (by rw [List.length_cons] at hj; omega), List.getElem?_set_ne (by rw [List.length_cons] at hj; omega)]
    · rw [List.length_cons] at hl hj
      cases j with
      | zero =>
        rw [Nat.add_zero, h3 o (.inl (by omega)), List.getElem?_set_self (by omega)]
        rfl
      | succ j =>
        have := h4 (by rw [List.length_set]; omega) j (by omega)
        rw [show o + (j + 1) = o + 1 + j by omega, this]
        rfl
    · rcases h5 u hu with h | h
      · rcases List.mem_or_eq_of_mem_set h with h | h
        · exact .inl h
        · exact .inr (h ▸ List.mem_cons_self)
      · exact .inr (List.mem_cons_of_mem _ h)
/-- a table of rows of 513 numbers, of which some are known -/
def Grid (w : World) (g n : Nat) (K : Nat → Nat → Option Nat) : Prop := ∃ xs, Row w g 72 xs ∧ xs.length = (n + 1) * 513 ∧ (∀ v ∈ xs, v.oneCell' = true) ∧ ∀ i j k, i ≤ n → j < 513 → K i j = some k → xs[i * 513 + j]? = some (I16 k)
theorem Grid.keep {B : Nat} {w w' : World} {g n : Nat} {K : Nat → Nat → Option Nat} (h : Grid w g n K) (hb : Below B w w') (hB : g < B) : Grid w' g n K := by
  obtain ⟨xs, h1, h2, h0, h3⟩ := h
  exact ⟨xs, h1.keep hb hB, h2, h0, h3⟩
theorem pos_inj {i j i' j' : Nat} (h : i * 513 + j = i' * 513 + j') (hj : j < 513) (hj' : j' < 513) : i = i' ∧ j = j' := by omega
theorem pos_lt {i j n : Nat} (hi : i ≤ n) (hj : j < 513) : i * 513 + j < (n + 1) * 513 := by omega
theorem Grid.cell {w : World} {g n : Nat} {K : Nat → Nat → Option Nat} (h : Grid w g n K) {i j : Nat} (hi : i ≤ n) (hj : j < 513) : ∃ v, w.cell? ⟨g, i * 513 + j, none⟩ = some v ∧ w.frozen? ⟨g, i * 513 + j, none⟩ = false ∧ ∀ k, K i j = some k → v = I16 k := by
  obtain ⟨xs, h1, h2, h0, h3⟩ := h
  have hl := pos_lt hi hj
  have hv : xs[i * 513 + j]? = some (xs[i * 513 + j]'(by omega)) := List.getElem?_eq_getElem _
  refine ⟨_, (h1.cell _).trans hv, h1.frozen _, fun k hk => ?_⟩
  have := h3 i j k hi hj hk
  rw [hv] at this
  exact Option.some.inj this
theorem Grid.lt {w : World} {g n : Nat} {K : Nat → Nat → Option Nat} (h : Grid w g n K) : g < w.heap.size := by
  obtain ⟨xs, h1, _⟩ := h
  exact h1.lt
theorem Grid.set {w : World} {g n : Nat} {K : Nat → Nat → Option Nat} (h : Grid w g n K) {i j k : Nat} (hi : i ≤ n) (hj : j < 513) : Grid (w.setCell ⟨g, i * 513 + j, none⟩ (I16 k)) g n (fun i' j' => if i' = i ∧ j' = j then some k else K i' j') := by
  obtain ⟨xs, h1, h2, h0, h3⟩ := h
  refine ⟨_, h1.set _ _, by rw [List.length_set, h2], fun v hv => (List.mem_or_eq_of_mem_set hv).elim (h0 v) (fun e => by subst e; rfl), fun i' j' k' hi' hj' hk => ?_⟩
  have hl := pos_lt hi hj
  by_cases he : i' = i ∧ j' = j
  · obtain ⟨rfl, rfl⟩ := he
    simp only [and_self, if_true] at hk
    cases hk
    exact List.getElem?_set_self (by omega)
  · simp only [if_neg he] at hk
    rw [List.getElem?_set_ne (fun e => he (by have := pos_inj e hj hj'; exact ⟨this.1.symm, this.2.symm⟩))]
    exact h3 i' j' k' hi' hj' hk
theorem Grid.less {w : World} {g n : Nat} {K K' : Nat → Nat → Option Nat} (h : Grid w g n K) (hk : ∀ i j k, i ≤ n → j < 513 → K' i j = some k → K i j = some k) : Grid w g n K' := by
  obtain ⟨xs, h1, h2, h0, h3⟩ := h
  exact ⟨xs, h1, h2, h0, fun i j k hi hj he => h3 i j k hi hj (hk i j k hi hj he)⟩
theorem Grid.there {w : World} {g n : Nat} {K : Nat → Nat → Option Nat} (h : Grid w g n K) {i : Nat} (hi : i ≤ n) : w.there g (i * 513) 513 := by
  intro j hj
  obtain ⟨v, h1, h2, _⟩ := h.cell hi hj
  exact ⟨by rw [h1]; rfl, h2⟩
/-- a whole row is stored -/
theorem Grid.row {w : World} {g n : Nat} {K : Nat → Nat → Option Nat} (h : Grid w g n K) {i : Nat} (hi : i ≤ n) (vs : List Value) (hv : vs.length = 513) (hv1 : ∀ v ∈ vs, v.oneCell' = true) (R : Nat → Option Nat) (hR : ∀ j k, j < 513 → R j = some k → vs[j]? = some (I16 k)) : Grid (w.setCells g (i * 513) vs) g n (fun i' j' => if i' = i then R j' else K i' j') := by
  obtain ⟨xs, h1, h2, h0, h3⟩ := h
  obtain ⟨ys, g1, g2, g3, g4, g5⟩ := Row.setCells vs (i * 513) w xs h1
  refine ⟨ys, g1, by rw [g2, h2], fun v h => (g5 v h).elim (h0 v) (hv1 v), fun i' j' k' hi' hj' hk => ?_⟩
  by_cases he : i' = i
  · subst he
    simp only [if_true] at hk
    rw [g4 (by rw [hv, h2]; omega) j' (by omega)]
    exact hR j' k' hj' hk
  · simp only [if_neg he] at hk
    rw [g3 _ (by rw [hv]; omega)]
    exact h3 i' j' k' hi' hj' hk
/-- a row of the table, read whole -/
theorem Grid.read {w : World} {g n : Nat} {K : Nat → Nat → Option Nat} (h : Grid w g n K) {i : Nat} (hi : i ≤ n) : ∃ cs : List Value, w.rangeAt g (i * 513) cs ∧ cs.length = 513 ∧ (∀ v ∈ cs, v.oneCell' = true) ∧ (∀ j k, j < 513 → K i j = some k → cs[j]? = some (I16 k)) := by
  obtain ⟨xs, h1, h2, h0, h3⟩ := h
  refine ⟨(xs.drop (i * 513)).take 513, fun j v hj => ?_, by rw [List.length_take, List.length_drop, h2]; omega, fun v hv => h0 v (List.mem_of_mem_drop (List.mem_of_mem_take hv)), fun j k hj hk => ?_⟩
  · have hl : j < 513 := by
      have := (List.getElem?_eq_some_iff.1 hj).1
      rw [List.length_take] at this
      omega
    rw [List.getElem?_take, if_pos hl, List.getElem?_drop] at hj
    rw [h1.cell, hj]
  · rw [List.getElem?_take, if_pos hj, List.getElem?_drop]
    exact h3 i j k hi hj hk
end Go.Proofs.YtnbihjocdlpplaaGreatDoor
/- Arrays by value: read, built into a struct, stored, compared. -/
namespace Go.Proofs.YtnbihjocdlpplaaGreatDoor
open Go.RowKit
theorem exec_load {P : Program} {o : Oper} {a : Act} {w w' : World} {v : Value} (ty : TypeId) (x : Operand) (ho : o.op = .load ty x) (h : (Instr.loadAt ty (a.eval x)).run P w = .ok v w') : (execOp a.eval o).run P w = .ok (.value v) w' := by
  simp [execOp, ho, h, Result.andThen]
theorem exec_build {P : Program} {o : Oper} {a : Act} {w w' : World} {v : Value} (t : TypeId) (ps : Array (Nat × Operand)) (ho : o.op = .build t ps) (vs : Array (Nat × Value)) (hv : ps.map (fun x => (x.1, a.eval x.2)) = vs) (h : (Instr.build t vs).run P w = .ok v w') : (execOp a.eval o).run P w = .ok (.value v) w' := by
  subst hv
  simp [execOp, ho, h, Result.andThen]
/-- an array within a block, as an operation -/
theorem wpList_load_arr {P : Program} {w : World} {ops : Array Oper} {rest : List Oper} {o : Oper} {a : Act} {Q : Exit → Act → World → Prop} (hgd : o.guard = none) (ty : TypeId) (x : Operand) (ho : o.op = .load ty x)
    (g off e n : Nat) (hx : a.eval x = .pointer (some ⟨g, off, none⟩)) (cur : Array Value) (t : TypeId) (fr : Nat × Nat) (hg : w.heap[g]? = some (.cells cur t fr)) (hu : P.underlying ty = some (.array n e)) (hi : (P.info? ty).map (·.size) = some n)
    (cs : List Value) (hn : cs.length = n) (hcs : ∀ j v, cs[j]? = some v → cur[off + j]? = some v)
    (h : wpList P ops Q rest (a.put o.dst (.agg cs.toArray)) w) : wpList P ops Q (o :: rest) a w :=
  wpList_run hgd _ w (exec_load ty x ho (by rw [hx]; exact run_loadAt_part w g off ty e n cur t fr hg hu hi cs hn hcs)) h
/-- an array out of cells that are known one by one -/
theorem run_loadAt_cells {P : Program} (w : World) (ad : Addr) (ty e n : Nat) (hu : P.underlying ty = some (.array n e)) (hi : (P.info? ty).map (·.size) = some n)
    (cs : List Value) (hn : cs.length = n) (hcs : ∀ j v, cs[j]? = some v → w.cell? (ad.add j) = some v) :
    (Instr.loadAt ty (.pointer (some ad))).run P w = .ok (.agg cs.toArray) w := by
  have hl := run_loadCells_list (P := P) w ad cs hcs
  rw [hn] at hl
  cases hq : P.info? ty with
  | none => simp [hq] at hi
  | some i =>
    have hs : i.size = n := by simpa [hq] using hi
    have hagg : (isAgg ty).run P w = .ok true w := by
      unfold isAgg
      rw [Sem.run_bind, run_underlying hu w]
      rfl
    simp [Instr.loadAt, Instr.sureAddr, loadVar, Sem.run_bind, hagg, sizeOf, typeInfo, hq, hs, hl]
theorem wpList_load_cells {P : Program} {w : World} {ops : Array Oper} {rest : List Oper} {o : Oper} {a : Act} {Q : Exit → Act → World → Prop} (hgd : o.guard = none) (ty : TypeId) (x : Operand) (ho : o.op = .load ty x)
    (ad : Addr) (e n : Nat) (hx : a.eval x = .pointer (some ad)) (hu : P.underlying ty = some (.array n e)) (hi : (P.info? ty).map (·.size) = some n)
    (cs : List Value) (hn : cs.length = n) (hcs : ∀ j v, cs[j]? = some v → w.cell? (ad.add j) = some v)
    (h : wpList P ops Q rest (a.put o.dst (.agg cs.toArray)) w) : wpList P ops Q (o :: rest) a w :=
  wpList_run hgd _ w (exec_load ty x ho (by rw [hx]; exact run_loadAt_cells w ad ty e n hu hi cs hn hcs)) h
/-- an operation of a region that only reads, its run known in every world of the class -/
theorem wpQuiet_run {P : Program} {ops : Array Oper} {C : World → Prop} {Q : Act → Prop} {o : Oper} {rest : List Oper} {a : Act} (hgd : o.guard = none) (v : Value) (h : ∀ w, C w → (execOp a.eval o).run P w = .ok (.value v) w)
    (hk : wpQuiet P ops C Q rest (a.put o.dst v)) : wpQuiet P ops C Q (o :: rest) a := by
  refine wpQuiet_step fun K hK => ?_
  have hw : Region.wanted o (yielded ops a.tmps) = true := by simp [Region.wanted, hgd]
  rw [if_pos hw]
  exact ⟨v, fun w hw => by unfold Oper.quietAt; rw [h w hw]; exact ⟨rfl, rfl⟩, hK _ hk⟩
/-- a whole row is stored -/
theorem wpList_store_arr {P : Program} {w : World} {ops : Array Oper} {rest : List Oper} {o : Oper} {a : Act} {Q : Exit → Act → World → Prop} (hgd : o.guard = none) (ty : TypeId) (x y : Operand) (ho : o.op = .store ty x y)
    (g : Nat) (cs : List Value) (hx : a.eval x = .pointer (some ⟨g, 0, none⟩)) (hy : a.eval y = .agg cs.toArray)
    (t : TypeId) (old : List Value) (hg : w.heap[g]? = some (.cells old.toArray t (0, 0))) (hi : (P.info? ty).map (·.size) = some cs.length) (hold : old.length = cs.length) (h1 : ∀ v ∈ cs, v.oneCell' = true)
    (h : ∀ w', Hid (w'.heap[g]? = some (.cells cs.toArray t (0, 0))) → w.grownBy w' (some g) → wpList P ops Q rest (a.put o.dst undef) w') : wpList P ops Q (o :: rest) a w := by
  refine wpList_plain hgd fun K hK => ?_
  have hrun := run_storeVar_row (P := P) w g t ty old.toArray cs.toArray hg (by simpa using hi) (by simpa using hold) (by rw [Array.all_eq_true_iff_forall_mem]; intro v hv; exact h1 v (by simpa using hv))
  unfold Oper.wp
  simp [execOp, ho, hx, hy, Instr.storeAt, Instr.sureAddr, hrun, Result.andThen]
  exact hK _ _ (h _ (show _ = _ by exact setRow_heap w g _ _ t _ hg) (grownBy_setRow _ _ _))
theorem fold_set (off : Nat) : ∀ (cs : List Value) (i : Nat) (A : Array Value), off + i + cs.length ≤ A.size →
    ((cs.zipIdx i).foldl (fun (r : Array Value) (x : Value × Nat) => r.setIfInBounds (off + x.2) x.1) A).toList = A.toList.take (off + i) ++ cs ++ A.toList.drop (off + i + cs.length)
  | [], i, A, _ => by simp
  | c :: cs, i, A, h => by
    rw [List.zipIdx_cons, List.foldl_cons, fold_set off cs (i + 1) _ (by simp at h ⊢; omega)]
    have e := list_seg_step A.toList (off + i) c cs (by simp at h ⊢; omega)
    simpa [Array.toList_setIfInBounds, Nat.add_assoc] using e
theorem run_eq_bytes {P : Program} (w : World) (t e : TypeId) (n : Nat) (ht : P.underlying t = some (.array n e)) (he : P.underlying e = some (.int .u8)) (hsz : ∀ w, (sizeOf e).run P w = .ok 1 w)
    (xs ys : List UInt8) (hx : xs.length = n) (hy : ys.length = n) : (Op.equalIn 10000 t (.agg (xs.map B8).toArray) (.agg (ys.map B8).toArray)).run P w = .ok (xs == ys) w :=
  run_equalIn_bytes w 9998 t e n ht he hsz xs ys hx hy
end Go.Proofs.YtnbihjocdlpplaaGreatDoor
