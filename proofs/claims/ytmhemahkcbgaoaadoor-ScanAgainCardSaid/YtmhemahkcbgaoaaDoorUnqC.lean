/- A quoted text, by the reference; Unquote, by both. -/
import Derived.Test.YtmhemahkcbgaoaaDoorUnqB
namespace Go.Proofs.YtmhemahkcbgaoaaDoor
set_option linter.unusedVariables false
set_option linter.unusedSimpArgs false
open Go.RowKit
open Go.Lib hiding intOf
set_option maxHeartbeats 4000000 in
set_option maxRecDepth 100000 in
theorem quotedR (w : World) (l : List UInt8) (hm : l.length ≤ 1048576) :
    Calls Tryd.prog 45 #[.string (bstr l)] w fun e w' => e = .returned (.tuple #[.string (bstr (quotedOf l).1), .int .i64 ((quotedOf l).2.1 : Int), .bool (quotedOf l).2.2]) ∧ Below w.heap.size w w' := by
  obtain ⟨n, hn⟩ : ∃ n, n = l.length := ⟨_, rfl⟩
  have hsz : (bstr l).size = n := by rw [bstr_size, hn]
  rw [← hn] at hm
  have HN := Lib.hid hn
  have hO0 : OwnB w.heap.size (.slice none 0 0) [] w := World.ownsRow_nil _ _ _ _
  clear hn
  go_enter Tryd.func45, Tryd.ntmps45
  go_wp2
  go_loopw [5, 6] (fun rv iv wr => ∃ (i f : Nat) (acc : List UInt8), iv = .int .i64 (i : Int) ∧ i ≤ n + 1 ∧ acc.length ≤ 8 * i ∧ Hid (OwnB w.heap.size rv acc wr ∧ Below w.heap.size w wr ∧ unq l f i acc = quotedOf l ∧ 1 ≤ i ∧ n + 2 < i + f + 1)) (fun _ iv _ => n + 1 - (RowKit.intOf iv).toNat)
  case atStart => exact ⟨1, l.length + 1, [], rfl, by omega, by simp, Lib.hid ⟨hO0, Below.refl _ _, rfl, by omega, by rw [← HN.out]; omega⟩⟩
  case round =>
    obtain ⟨i, f, acc, rfl, hi2, hac, HH⟩ := hrel
    obtain ⟨rv, rfl⟩ : ∃ v : Value, v = u5 := ⟨_, rfl⟩
    clear hO0
    obtain ⟨f, rfl⟩ : ∃ g, f = g + 1 := ⟨f - 1, by have := HH.out.2.2.2.2; omega⟩
    have hb := HH.out.2.1
    have hBr := hb.size
    have hO := HH.out.1
    have hq := HH.out.2.2.1
    by_cases hlt : i < n
    · have hkl : i < l.length := by rw [← HN.out]; exact hlt
      obtain ⟨x, hx⟩ := some_at hkl
      have ii : i < (bstr l).size := by rw [hsz]; exact hlt
      have hxa : (bstr l)[i]'ii = x := bstr_at hx _
      obtain ⟨D, hD⟩ : ∃ D, l.drop i = D := ⟨_, rfl⟩
      have hDn : D ≠ [] := by rw [← hD]; intro e; have := congrArg List.length e; simp at this; omega
      have hDl : D.length = n - i := by rw [← hD, List.length_drop, ← HN.out]
      have hsl : D.take (n - i) = D := List.take_of_length_le (by omega)
      have hx0 : D[0]? = some x := by rw [← hD, List.getElem?_drop, Nat.add_zero]; exact hx
      by_cases c1 : x = 34
      · subst c1
        rw [unq_quote hx] at hq
        have HQ := Lib.hid hq
        have hcv := conv_own hO
        obtain ⟨aa, cc, hpv, _, _, _⟩ := reads_of_own hO
        rw [hpv] at hcv
        clear hq hx hx0 hDn hO
        subst hpv
        go_wp2
        go_ret3
        rw [← HQ.out]
        exact ⟨rfl, hb⟩
      have b0 : ((x.toNat : Int) == 34) = false := byte_ne (n := 34) (by decide) c1
      have b1 : ((x.toNat : Int) != 34) = true := by rw [bne, b0]; rfl
      by_cases c2 : x = 92
      · subst c2
        rw [unq_esc hx, hD] at hq
        have hle := esc_le D
        have hC := escapeR wr D (by omega) hx0
        obtain ⟨E1, hE1⟩ : ∃ E, (escOf D).1 = E := ⟨_, rfl⟩
        obtain ⟨E2, hE2⟩ : ∃ E, (escOf D).2 = E := ⟨_, rfl⟩
        rw [hE1, hE2] at hle hC
        rw [hE1, hE2] at hq
        have HC := Lib.hid hC
        have HO := Lib.hid hO
        by_cases hz : E2 = 0
        · subst hz
          rw [if_pos rfl] at hq
          have HQ := Lib.hid hq
          clear hq hx hx0 hC hE1 hE2 hle hDn c1 hO
          go_wp2_with (go_at_call 58; refine (HC.out).mono ?_; rintro e w' ⟨rfl, hb2⟩)
          go_ret3
          rw [← HQ.out]
          exact ⟨rfl, hb.trans (hb2.mono hBr)⟩
        · rw [if_neg hz] at hq
          have HQ := Lib.hid hq
          have hz2 : ((E2 : Int) == 0) = false := by rw [beq_eq_false_iff_ne]; omega
          have hE1l : E1.length ≤ 4 := hle.2
          have hE2l : E2 ≤ n - i := by rw [← hDl]; exact hle.1
          have hE2p : 0 < E2 := Nat.pos_of_ne_zero hz
          clear hq hx hx0 hC hE1 hE2 hle hz hDn c1 hO
          go_wp2_with (first
            | (go_at_call 58; refine (HC.out).mono ?_; rintro e w2 ⟨rfl, hb2⟩; have hO2 := OwnB.below HO.out hb2; have hB2 := Nat.le_trans hBr hb2.size; have hb2' := hb.trans (hb2.mono hBr))
            | (at_builtin; refine appStr rfl _ _ rfl w.heap.size w _ acc E1 rfl hO2 rfl (by omega) (by omega) hb2' hB2 ?_; intro v3 w3 hO3 hb3 hB3))
          have HNX : Hid (OwnB w.heap.size v3 (acc ++ E1) w3 ∧ Below w.heap.size w w3 ∧ unq l f (i + E2) (acc ++ E1) = quotedOf l ∧ 1 ≤ i + E2 ∧ n + 2 < i + E2 + f + 1) := Lib.hid ⟨hO3, hb3, HQ.out, by omega, by have := HH.out.2.2.2.2; omega⟩
          clear hO3 hb3 hB3
          go_roundw
          case rel => exact ⟨i + E2, f, acc ++ E1, by go_num, by omega, by rw [List.length_append]; omega, HNX⟩
          case measure => simp [RowKit.intOf]; omega
      have b2 : ((x.toNat : Int) == 92) = false := byte_ne (n := 92) (by decide) c2
      rw [unq_char hx c1 c2, hD] at hq
      have hF := charR wr D hDn (by omega)
      have hKl := dec_width hDn
      have hK1 := dec_width_one (l := D)
      have hK4 := dec_width_four (l := D)
      have HO := Lib.hid hO
      by_cases hr : RightD (decodeL D)
      · rw [decide_eq_true hr] at hF
        obtain ⟨R, hR⟩ : ∃ R, (decodeL D).1 = R := ⟨_, rfl⟩
        obtain ⟨K, hK⟩ : ∃ K, (decodeL D).2 = K := ⟨_, rfl⟩
        rw [hR, hK] at hF hq
        rw [hK] at hKl hK1 hK4
        have HF := Lib.hid hF
        by_cases hp : PlainN R
        · rw [if_pos ⟨hr, hp⟩] at hq
          have hP := fun w1 => decide_eq_true hp ▸ plainR w1 R
          have HP := Lib.hid hP
          obtain ⟨S, hS⟩ : ∃ S, D.take K = S := ⟨_, rfl⟩
          have hS2 : D.take (i + K - i) = S := by rw [← hS]; congr 1; omega
          have hSl : S.length ≤ 4 := by rw [← hS, List.length_take]; omega
          have hKn : K ≤ n - i := by rw [← hDl]; exact hKl
          rw [hS] at hq
          have HQ := Lib.hid hq
          clear hq hx hx0 hF hR hK hP hr hp c1 c2 hDn hO hKl
          go_wp2_with (first
            | (go_at_call 32; refine (HF.out).mono ?_; rintro e w2 ⟨rfl, hb2⟩; have hO2 := OwnB.below HO.out hb2; have hB2 := Nat.le_trans hBr hb2.size; have hb2' := hb.trans (hb2.mono hBr))
            | (go_at_call 34; refine (HP.out _).mono ?_; rintro e wq ⟨rfl, hwq⟩; obtain rfl := hwq.symm)
            | (at_builtin; refine appStr rfl _ _ rfl w.heap.size w _ acc S rfl hO2 (congrArg (fun z => Value.string (bstr z)) hS2) (by omega) (by omega) hb2' hB2 ?_; intro v3 w3 hO3 hb3 hB3))
          have HNX : Hid (OwnB w.heap.size v3 (acc ++ S) w3 ∧ Below w.heap.size w w3 ∧ unq l f (i + K) (acc ++ S) = quotedOf l ∧ 1 ≤ i + K ∧ n + 2 < i + K + f + 1) := Lib.hid ⟨hO3, hb3, HQ.out, by omega, by have := HH.out.2.2.2.2; omega⟩
          clear hO3 hb3 hB3
          go_roundw
          case rel => exact ⟨i + K, f, acc ++ S, by go_num, by omega, by rw [List.length_append]; omega, HNX⟩
          case measure => simp [RowKit.intOf]; omega
        · rw [if_neg (fun h => hp h.2)] at hq
          have HQ := Lib.hid hq
          have hP := fun w1 => decide_eq_false hp ▸ plainR w1 R
          have HP := Lib.hid hP
          clear hq hx hx0 hF hR hK hP hr hp c1 c2 hKl hK1 hK4 hDn hO
          go_wp2_with (first
            | (go_at_call 32; refine (HF.out).mono ?_; rintro e w2 ⟨rfl, hb2⟩)
            | (go_at_call 34; refine (HP.out _).mono ?_; rintro e wq ⟨rfl, hwq⟩; obtain rfl := hwq.symm))
          go_ret3
          rw [← HQ.out]
          exact ⟨rfl, hb.trans (hb2.mono hBr)⟩
      · rw [decide_eq_false hr] at hF
        rw [if_neg (fun h => hr h.1)] at hq
        obtain ⟨R, hR⟩ : ∃ R, (decodeL D).1 = R := ⟨_, rfl⟩
        obtain ⟨K, hK⟩ : ∃ K, (decodeL D).2 = K := ⟨_, rfl⟩
        rw [hR, hK] at hF
        have HF := Lib.hid hF
        have HQ := Lib.hid hq
        clear hq hx hx0 hF hR hK hr c1 c2 hKl hK1 hK4 hDn hO
        go_wp2_with (go_at_call 32; refine (HF.out).mono ?_; rintro e w2 ⟨rfl, hb2⟩)
        go_ret3
        rw [← HQ.out]
        exact ⟨rfl, hb.trans (hb2.mono hBr)⟩
    · rw [unq_end (by rw [← HN.out]; omega)] at hq
      have HQ := Lib.hid hq
      clear hq hO
      go_wp2
      go_ret3
      rw [← HQ.out, ← HN.out]
      exact ⟨rfl, hb⟩
end Go.Proofs.YtmhemahkcbgaoaaDoor
