/- The walk of BitsCovers. -/
import Derived.Test.YtgcgbpehedkckaaWorks
import Derived.Test.YtgcgbpehedkckaaOpen
import Derived.Test.YtgcgbpehedkckaaUref
namespace Go.Proofs.Ytgcgbpehedkckaa
open Go.RowKit
theorem unitsL_few8 {p n : Int} (h : n ≤ 4096) : (unitsL p n 8).length ≤ 1000 := by
  by_cases hc : p < 0 ∨ n < 1 ∨ n > 9223372036854775807 - p
  · unfold unitsL; rw [if_pos hc]; simp
  · rw [unitsL_len hc]; omega
theorem unitsL_few64 {p n : Int} (h : n ≤ 4096) : (unitsL p n 64).length ≤ 1000 := by
  by_cases hc : p < 0 ∨ n < 1 ∨ n > 9223372036854775807 - p
  · unfold unitsL; rw [if_pos hc]; simp
  · rw [unitsL_len hc]; omega
set_option maxHeartbeats 2000000 in
set_option maxRecDepth 100000 in
theorem covers_small (w : World) (p n : Int) (HP : Hid ((-9223372036854775808 ≤ p ∧ p ≤ 9223372036854775807) ∧ (-9223372036854775808 ≤ n ∧ n ≤ 9223372036854775807))) (hN : n ≤ 4096) :
    Calls Try.prog 11 #[.int .i64 p, .int .i64 n] w fun e w' => e = .returned (.bool true) ∧ Below w.heap.size w w' := by
  obtain ⟨i0, hi, hz0, hz1, hz2⟩ := info_parts Try.infoI64
  go_enter Try.func11, Try.ntmps11
  go_wp2_with fail
  obtain ⟨l8, hl8⟩ : ∃ l, l = unitsL p n 8 := ⟨_, rfl⟩
  obtain ⟨l64, hl64⟩ : ∃ l, l = unitsL p n 64 := ⟨_, rfl⟩
  obtain ⟨m8, hm8⟩ : ∃ m, m = l8.length := ⟨_, rfl⟩
  obtain ⟨m64, hm64⟩ : ∃ m, m = l64.length := ⟨_, rfl⟩
  have ht8 : (unitsL p n 8).take 1000 = l8 := by rw [hl8]; exact List.take_of_length_le (unitsL_few8 hN)
  have ht64 : (unitsL p n 64).take 1000 = l64 := by rw [hl64]; exact List.take_of_length_le (unitsL_few64 hN)
  have hg8 := fun (w1 : World) (s0 : Nat) b1 b2 b3 => goneWords w1 s0 p n b1 b2 b3 HP.out.1.2 HP.out.1.1 (by omega) 1000 (by decide) (by decide)
  have hg64 := fun (w1 : World) (s0 : Nat) b1 b2 => goneLines w1 s0 p n b1 b2 HP.out.1.2 HP.out.1.1 (by omega) 1000 (by decide) (by decide)
  simp only [linesOf_eq, ht8, ht64, ← hm8, ← hm64] at hg8 hg64
  have HG8 := Lib.hid hg8
  have HG64 := Lib.hid hg64
  have hle8 : m8 ≤ 1000 := by rw [hm8, hl8]; exact unitsL_few8 hN
  have hle64 : m64 ≤ 1000 := by rw [hm64, hl64]; exact unitsL_few64 hN
  have HL8 : Hid (l8 = unitsL p n 8 ∧ m8 = l8.length) := ⟨hl8, hm8⟩
  have HL64 : Hid (l64 = unitsL p n 64 ∧ m64 = l64.length) := ⟨hl64, hm64⟩
  clear hg8 hg64 ht8 ht64 hl8 hl64 hm8 hm64
  refine (wordsC _ _ _).mono ?_
  rintro e w1 ⟨rfl, hw1⟩
  have hbx := wordsW_box w p n
  have hbl := wordsW_below w p n
  rw [hw1] at hbx hbl
  have B1 := Lib.hid hbl
  have HB1 := Lib.hid hbx
  have z1 := hbl.size
  clear hbx hbl hw1
  go_wp2_with fail
  refine (HG8.out w1 _ HB1.out.1 HB1.out.2.1 HB1.out.2.2).mono ?_
  rintro e w2 ⟨v2, rfl, hown2, hb2⟩
  obtain ⟨a2, c2, rfl, hr2, _, _⟩ := reads_of_own hown2
  have HR2 := Lib.hid hr2
  have B2 := Lib.hid (B1.out.trans (hb2.mono z1))
  have z2 := hb2.size
  clear hr2 hb2 hown2 HB1
  go_wp2_with fail
  refine (linesC _ _ _).mono ?_
  rintro e w3 ⟨rfl, hw3⟩
  have hbx := linesW_box w2 p n
  have hbl := linesW_below w2 p n
  rw [hw3] at hbx hbl
  have B3 := Lib.hid (B2.out.trans (hbl.mono (by omega)))
  have HB3 := Lib.hid hbx
  have HR3 := Lib.hid (HR2.out.keep hbl (Nat.le_refl _))
  have z3 := hbl.size
  clear hbx hbl hw3 HR2
  go_wp2_with fail
  refine (HG64.out w3 _ HB3.out.1 HB3.out.2).mono ?_
  rintro e w4 ⟨v4, rfl, hown4, hb4⟩
  obtain ⟨a4, c4, rfl, hr4, _, _⟩ := reads_of_own hown4
  have HR4 := Lib.hid hr4
  have HR5 := Lib.hid (HR3.out.keep hb4 (Nat.le_refl _))
  have B4 := Lib.hid (B3.out.trans (hb4.mono (by omega)))
  have z4 := hb4.size
  clear hr4 hb4 hown4 HB3 HR3
  by_cases hc : p < 0 ∨ n < 1 ∨ n > 9223372036854775807 - p
  · have h8 : m8 = 0 := by rw [HL8.out.2, HL8.out.1]; unfold unitsL; rw [if_pos hc]; rfl
    have h64 : m64 = 0 := by rw [HL64.out.2, HL64.out.1]; unfold unitsL; rw [if_pos hc]; rfl
    subst h8
    subst h64
    have HW := Lib.hid (worksC w4)
    by_cases a1 : p < 0
    · clear hc
      go_wp2_with (go_at_call 20; refine HW.out.mono ?_; rintro e w9 ⟨rfl, hb9⟩)
      go_ret
      exact ⟨rfl, B4.out.trans (hb9.mono (by omega))⟩
    · by_cases a2 : n < 1
      · clear hc
        go_wp2_with (go_at_call 20; refine HW.out.mono ?_; rintro e w9 ⟨rfl, hb9⟩)
        go_ret
        exact ⟨rfl, B4.out.trans (hb9.mono (by omega))⟩
      · have a3 : 9223372036854775807 - p < n := by omega
        have a4 : p ≤ 9223372036854775807 := HP.out.1.2
        clear hc
        go_wp2_with (go_at_call 20; refine HW.out.mono ?_; rintro e w9 ⟨rfl, hb9⟩)
        go_ret
        exact ⟨rfl, B4.out.trans (hb9.mono (by omega))⟩
  · have q1 : 0 ≤ p := by omega
    have q2 : 1 ≤ n := by omega
    have q3 : p + n ≤ 9223372036854775807 := by omega
    have q4 : ¬ 9223372036854775807 - p < n := by omega
    have q5 : p / 8 ≤ (p + n - 1) / 8 := by omega
    have hm : (m8 : Int) = (p + n - 1) / 8 - p / 8 + 1 := by
      have h := unitsL_len (s := 8) hc
      rw [HL8.out.2, HL8.out.1, h]; omega
    have HM := Lib.hid hm
    have hpos : 0 < m8 := by omega
    have HC := Lib.hid hc
    clear hm hc
    go_wp2
    go_loopw [7, 8] (fun v i wr => ∃ k : Nat, k ≤ m8 ∧ i = .int .i64 k ∧ wr.ownsRow w4.heap.size 3 1 v (lineSt (l8.take k)).1.length ((lineSt (l8.take k)).1.map I8) ∧ Below w4.heap.size w4 wr ∧ (lineSt (l8.take k)).1.length ≤ k) (fun _ i _ => m8 - (intOf i).toNat)
    case atStart => exact ⟨0, Nat.zero_le _, rfl, by simpa [lineSt] using World.ownsRow_nil _ _ _ _, Below.refl _ _, by simp [lineSt]⟩
    case round =>
      obtain ⟨k, hk, rfl, hown, hbel, hlen⟩ := hrel
      by_cases hlt : k < m8
      · have hxa := unitsL_at (s := 8) HC.out (by decide) (k := k) (by have := HM.out; omega)
        rw [← HL8.out.1] at hxa
        have hnext : lineSt (l8.take (k + 1)) = lineStep (lineSt (l8.take k)) (p / 8 + (k : Int)) := by rw [take_next hxa, lineSt_next]
        obtain ⟨b, o, x, rfl, hb, hx, hcx⟩ := (HR5.out.keep hbel (Nat.le_refl _)).int hlt
        obtain rfl : x = p / 8 + (k : Int) := by rw [hxa] at hx; exact (Option.some.inj hx).symm
        have hsz := hbel.size
        have hne : (p / 8 + (k : Int) != p / 8 + (k : Int)) = false := by simp
        have hkm : (k : Int) ≤ (p + n - 1) / 8 - p / 8 := by have := HM.out; omega
        obtain ⟨st, hst⟩ : ∃ st, st = lineSt (l8.take k) := ⟨_, rfl⟩
        rw [← hst] at hown hnext hlen
        obtain ⟨sl, hsl⟩ : ∃ sl, sl = st.1.length := ⟨_, rfl⟩
        rw [← hsl] at hown hlen
        obtain ⟨a7, c7, rfl, _, _, _⟩ := reads_of_own hown
        have HSL := Lib.hid hsl
        have HLEN := Lib.hid hlen
        have hl9 : sl ≤ 1000 := by omega
        clear hx hxa hsl hlen
        cases k with
        | zero =>
          have hs2 : st = ([], -1) := by rw [hst]; rfl
          have hn2 : lineSt (l8.take 1) = (st.1 ++ [p / 8 / 8], p / 8 / 8) := by
            rw [hnext, lineStep, hs2, if_neg (by simp; omega)]
            simp
          have HN := Lib.hid hn2
          clear hn2 hs2 hnext hst
          simp only [Nat.add_zero, Int.natCast_zero, Int.add_zero, Nat.zero_add] at hcx hne
          go_wp2
          go_quiet (fail)
          have hown5 : (wr.drewN nq).ownsRow w4.heap.size 3 1 (.slice a7 sl c7) sl (st.1.map I8) := hown
          have hbel5 : Below w4.heap.size w4 (wr.drewN nq) := below_drewN hbel nq
          go_wp2_with (at_builtin; refine wpList_append_own _ rfl _ _ 50 rfl w4.heap.size 3 i0 (.int .i64 0) 1 8 Try.underlying50 hi hz0 hz1 hz2 rfl (by decide) _ _ _ rfl (hown5.alloc _) ⟨wr.heap.size, 0, none⟩ 1 1 [.int .i64 (p / 8 / 8)] rfl rfl (cell_one_new _ _ _) (by simp [Value.oneCell']) (by unfold maxLen; omega) (by omega) (by simp; omega) ?_; intro v' w6 hown6 hgrow6 _)
          have hb6 := below_append hbel5 (by simp; omega) hown5 hgrow6
          clear hgrow6
          go_roundw
          case rel =>
            refine ⟨0 + 1, by omega, by go_num, ?_, hb6, ?_⟩
            · rw [HN.out]
              have h1 : (st.1 ++ [p / 8 / 8]).length = sl + 1 := by simp [HSL.out]
              rw [h1, List.map_append]
              exact hown6
            · rw [HN.out]
              have h1 := HSL.out
              have h2 := HLEN.out
              rw [List.length_append, ← h1]
              exact Nat.succ_le_succ h2
          case measure => simp [intOf] <;> omega
        | succ j =>
          have hxp := unitsL_at (s := 8) HC.out (by decide) (k := j) (by omega)
          rw [← HL8.out.1] at hxp
          have hs2 : st.2 = (p / 8 + (j : Int)) / 8 := by
            rw [hst, take_next hxp, lineSt_next, lineStep]
            split
            · rename_i h; exact h.symm
            · rfl
          have hj8 : j < m8 := by omega
          obtain ⟨b', o', x', hbo', _, hx', hcp⟩ := (HR5.out.keep hbel (Nat.le_refl _)).int hj8
          obtain ⟨rfl, rfl⟩ : b' = b ∧ o' = o := by simp only [Option.some.injEq, Addr.mk.injEq] at hbo'; exact ⟨hbo'.1.symm, hbo'.2.1.symm⟩
          obtain rfl : x' = p / 8 + (j : Int) := by rw [hxp] at hx'; exact (Option.some.inj hx').symm
          have hk0 : ((j : Int) + 1 == 0) = false := by simp; omega
          have ej : ((j + 1 : Nat) : Int) = (j : Int) + 1 := by omega
          rw [ej] at hcx hne hnext
          have i1 : (j : Int) + 1 < (m8 : Int) := by omega
          have i2 : (j : Int) < (m8 : Int) := by omega
          clear hx' hbo' hxp ej
          by_cases hsame : (p / 8 + ((j : Int) + 1)) / 8 = (p / 8 + (j : Int)) / 8
          · have hn2 : lineSt (l8.take (j + 1 + 1)) = st := by rw [hnext, lineStep, if_pos (by rw [hs2]; exact hsame)]
            have HN := Lib.hid hn2
            have hbb : ((p / 8 + ((j : Int) + 1)) / 8 != (p / 8 + (j : Int)) / 8) = false := by simp only [bne_eq_false_iff_eq]; exact hsame
            clear hn2 hs2 hnext hst hsame
            go_wp2
            go_quiet (fail)
            go_wp2_with fail
            go_roundw
            case rel =>
              refine ⟨j + 1 + 1, by omega, by go_num, ?_, below_drewN hbel nq, ?_⟩
              · rw [HN.out, ← HSL.out]; exact hown
              · rw [HN.out, ← HSL.out]; have := HLEN.out; omega
            case measure => simp [intOf] <;> omega
          · have hn2 : lineSt (l8.take (j + 1 + 1)) = (st.1 ++ [(p / 8 + ((j : Int) + 1)) / 8], (p / 8 + ((j : Int) + 1)) / 8) := by rw [hnext, lineStep, if_neg (by rw [hs2]; exact hsame)]
            have HN := Lib.hid hn2
            have hbb : ((p / 8 + ((j : Int) + 1)) / 8 != (p / 8 + (j : Int)) / 8) = true := by simp only [bne_iff_ne, ne_eq]; exact hsame
            clear hn2 hs2 hnext hst hsame
            go_wp2
            go_quiet (fail)
            have hown5 : (wr.drewN nq).ownsRow w4.heap.size 3 1 (.slice a7 sl c7) sl (st.1.map I8) := hown
            have hbel5 : Below w4.heap.size w4 (wr.drewN nq) := below_drewN hbel nq
            go_wp2_with (at_builtin; refine wpList_append_own _ rfl _ _ 50 rfl w4.heap.size 3 i0 (.int .i64 0) 1 8 Try.underlying50 hi hz0 hz1 hz2 rfl (by decide) _ _ _ rfl (hown5.alloc _) ⟨wr.heap.size, 0, none⟩ 1 1 [.int .i64 ((p / 8 + ((j : Int) + 1)) / 8)] rfl rfl (cell_one_new _ _ _) (by simp [Value.oneCell']) (by unfold maxLen; omega) (by omega) (by simp; omega) ?_; intro v' w6 hown6 hgrow6 _)
            have hb6 := below_append hbel5 (by simp; omega) hown5 hgrow6
            clear hgrow6
            go_roundw
            case rel =>
              refine ⟨j + 1 + 1, by omega, by go_num, ?_, hb6, ?_⟩
              · rw [HN.out]
                have h1 : (st.1 ++ [(p / 8 + ((j : Int) + 1)) / 8]).length = sl + 1 := by simp [HSL.out]
                rw [h1, List.map_append]
                exact hown6
              · rw [HN.out]
                have h1 := HSL.out
                have h2 := HLEN.out
                rw [List.length_append, ← h1]
                exact Nat.succ_le_succ h2
            case measure => simp [intOf] <;> omega
      · obtain rfl : k = m8 := by omega
        have hall : (lineSt (l8.take k)).1 = l64 := by
          rw [List.take_of_length_le (by rw [HL8.out.2]; exact Nat.le_refl _), HL8.out.1, HL64.out.1, ← linesOf_eq]; rfl
        rw [hall] at hown hlen
        have hlast := unitsL_at (s := 8) HC.out (by decide) (k := k - 1) (by have := HM.out; omega)
        rw [← HL8.out.1] at hlast
        have he : p / 8 + ((k - 1 : Nat) : Int) = (p + (n - 1)) / 8 := by have := HM.out; omega
        rw [he] at hlast
        have hk1 : k - 1 < k := by omega
        obtain ⟨b, o, x, rfl, hb, hx, hcx⟩ := (HR5.out.keep hbel (Nat.le_refl _)).int hk1
        obtain rfl : x = (p + (n - 1)) / 8 := by rw [hlast] at hx; exact (Option.some.inj hx).symm
        rw [← HL64.out.2] at hown hlen
        obtain ⟨a7, c7, rfl, hr7, _, _⟩ := reads_of_own hown
        have hE := eqInts wr a4 a7 m64 m64 c4 c7 l64 l64 (HR4.out.keep hbel (Nat.le_refl _)) hr7 (by omega) (by omega)
        rw [show sameI l64 l64 = true from by simp [sameI]] at hE
        have HE := Lib.hid hE
        have hsz := hbel.size
        have hxx : ((p + (n - 1)) / 8 == (p + (n - 1)) / 8) = true := by simp
        have kj : ∃ j : Nat, k = j + 1 := ⟨k - 1, by omega⟩
        obtain ⟨j, rfl⟩ := kj
        have ej : j + 1 - 1 = j := by omega
        rw [ej] at hcx
        have i2 : (j : Int) < ((j + 1 : Nat) : Int) := by omega
        clear hlast he hk1 hx hE hr7 hall ej
        go_wp2_with (first | (go_at_call 37; refine HE.out.mono ?_; rintro e w7 ⟨rfl, hq7⟩; have B7 := Lib.hid (hq7.below w4.heap.size); clear hq7) | (go_at_call 20; refine (worksC _).mono ?_; rintro e w8 ⟨rfl, hb8⟩; have B8 := Lib.hid hb8; clear hb8))
        go_ret
        refine ⟨rfl, ?_⟩
        have y7 := B7.out.size
        exact (B4.out.trans ((hbel.trans B7.out).mono (by omega))).trans (B8.out.mono (by omega))
set_option maxHeartbeats 2000000 in
set_option maxRecDepth 100000 in
theorem covers_big (w : World) (p n : Int) (HP0 : Hid ((-9223372036854775808 ≤ p ∧ p ≤ 9223372036854775807) ∧ (-9223372036854775808 ≤ n ∧ n ≤ 9223372036854775807))) (hbig : 4096 < n) :
    Calls Try.prog 11 #[.int .i64 p, .int .i64 n] w fun e w' => e = .returned (.bool true) ∧ Below w.heap.size w w' := by
  obtain ⟨i0, hi, hz0, hz1, hz2⟩ := info_parts Try.infoI64
  obtain ⟨r, hr⟩ : ∃ r, r = n % 4097 := ⟨_, rfl⟩
  have hN : r ≤ 4096 := by omega
  have hr0 : 0 ≤ r := by omega
  have HP : Hid ((-9223372036854775808 ≤ p ∧ p ≤ 9223372036854775807) ∧ (0 ≤ r ∧ r ≤ 4096)) := ⟨HP0.out.1, hr0, hN⟩
  have HRR := Lib.hid hr
  clear hr HP0
  go_enter Try.func11, Try.ntmps11
  go_wp2_with fail
  rw [← HRR.out]
  obtain ⟨l8, hl8⟩ : ∃ l, l = unitsL p r 8 := ⟨_, rfl⟩
  obtain ⟨l64, hl64⟩ : ∃ l, l = unitsL p r 64 := ⟨_, rfl⟩
  obtain ⟨m8, hm8⟩ : ∃ m, m = l8.length := ⟨_, rfl⟩
  obtain ⟨m64, hm64⟩ : ∃ m, m = l64.length := ⟨_, rfl⟩
  have ht8 : (unitsL p r 8).take 1000 = l8 := by rw [hl8]; exact List.take_of_length_le (unitsL_few8 hN)
  have ht64 : (unitsL p r 64).take 1000 = l64 := by rw [hl64]; exact List.take_of_length_le (unitsL_few64 hN)
  have hg8 := fun (w1 : World) (s0 : Nat) b1 b2 b3 => goneWords w1 s0 p r b1 b2 b3 HP.out.1.2 HP.out.1.1 (by omega) 1000 (by decide) (by decide)
  have hg64 := fun (w1 : World) (s0 : Nat) b1 b2 => goneLines w1 s0 p r b1 b2 HP.out.1.2 HP.out.1.1 (by omega) 1000 (by decide) (by decide)
  simp only [linesOf_eq, ht8, ht64, ← hm8, ← hm64] at hg8 hg64
  have HG8 := Lib.hid hg8
  have HG64 := Lib.hid hg64
  have hle8 : m8 ≤ 1000 := by rw [hm8, hl8]; exact unitsL_few8 hN
  have hle64 : m64 ≤ 1000 := by rw [hm64, hl64]; exact unitsL_few64 hN
  have HL8 : Hid (l8 = unitsL p r 8 ∧ m8 = l8.length) := ⟨hl8, hm8⟩
  have HL64 : Hid (l64 = unitsL p r 64 ∧ m64 = l64.length) := ⟨hl64, hm64⟩
  clear hg8 hg64 ht8 ht64 hl8 hl64 hm8 hm64
  refine (wordsC _ _ _).mono ?_
  rintro e w1 ⟨rfl, hw1⟩
  have hbx := wordsW_box w p r
  have hbl := wordsW_below w p r
  rw [hw1] at hbx hbl
  have B1 := Lib.hid hbl
  have HB1 := Lib.hid hbx
  have z1 := hbl.size
  clear hbx hbl hw1
  go_wp2_with fail
  refine (HG8.out w1 _ HB1.out.1 HB1.out.2.1 HB1.out.2.2).mono ?_
  rintro e w2 ⟨v2, rfl, hown2, hb2⟩
  obtain ⟨a2, c2, rfl, hr2, _, _⟩ := reads_of_own hown2
  have HR2 := Lib.hid hr2
  have B2 := Lib.hid (B1.out.trans (hb2.mono z1))
  have z2 := hb2.size
  clear hr2 hb2 hown2 HB1
  go_wp2_with fail
  refine (linesC _ _ _).mono ?_
  rintro e w3 ⟨rfl, hw3⟩
  have hbx := linesW_box w2 p r
  have hbl := linesW_below w2 p r
  rw [hw3] at hbx hbl
  have B3 := Lib.hid (B2.out.trans (hbl.mono (by omega)))
  have HB3 := Lib.hid hbx
  have HR3 := Lib.hid (HR2.out.keep hbl (Nat.le_refl _))
  have z3 := hbl.size
  clear hbx hbl hw3 HR2
  go_wp2_with fail
  refine (HG64.out w3 _ HB3.out.1 HB3.out.2).mono ?_
  rintro e w4 ⟨v4, rfl, hown4, hb4⟩
  obtain ⟨a4, c4, rfl, hr4, _, _⟩ := reads_of_own hown4
  have HR4 := Lib.hid hr4
  have HR5 := Lib.hid (HR3.out.keep hb4 (Nat.le_refl _))
  have B4 := Lib.hid (B3.out.trans (hb4.mono (by omega)))
  have z4 := hb4.size
  clear hr4 hb4 hown4 HB3 HR3
  by_cases hc : p < 0 ∨ r < 1 ∨ r > 9223372036854775807 - p
  · have h8 : m8 = 0 := by rw [HL8.out.2, HL8.out.1]; unfold unitsL; rw [if_pos hc]; rfl
    have h64 : m64 = 0 := by rw [HL64.out.2, HL64.out.1]; unfold unitsL; rw [if_pos hc]; rfl
    subst h8
    subst h64
    have HW := Lib.hid (worksC w4)
    by_cases a1 : p < 0
    · clear hc
      go_wp2_with (go_at_call 20; refine HW.out.mono ?_; rintro e w9 ⟨rfl, hb9⟩)
      go_ret
      exact ⟨rfl, B4.out.trans (hb9.mono (by omega))⟩
    · by_cases a2 : r < 1
      · clear hc
        go_wp2_with (go_at_call 20; refine HW.out.mono ?_; rintro e w9 ⟨rfl, hb9⟩)
        go_ret
        exact ⟨rfl, B4.out.trans (hb9.mono (by omega))⟩
      · have a3 : 9223372036854775807 - p < r := by omega
        have a4 : p ≤ 9223372036854775807 := HP.out.1.2
        clear hc
        go_wp2_with (go_at_call 20; refine HW.out.mono ?_; rintro e w9 ⟨rfl, hb9⟩)
        go_ret
        exact ⟨rfl, B4.out.trans (hb9.mono (by omega))⟩
  · have q1 : 0 ≤ p := by omega
    have q2 : 1 ≤ r := by omega
    have q3 : p + r ≤ 9223372036854775807 := by omega
    have q4 : ¬ 9223372036854775807 - p < r := by omega
    have q5 : p / 8 ≤ (p + r - 1) / 8 := by omega
    have hm : (m8 : Int) = (p + r - 1) / 8 - p / 8 + 1 := by
      have h := unitsL_len (s := 8) hc
      rw [HL8.out.2, HL8.out.1, h]; omega
    have HM := Lib.hid hm
    have hpos : 0 < m8 := by omega
    have HC := Lib.hid hc
    clear hm hc
    go_wp2
    go_loopw [7, 8] (fun v i wr => ∃ k : Nat, k ≤ m8 ∧ i = .int .i64 k ∧ wr.ownsRow w4.heap.size 3 1 v (lineSt (l8.take k)).1.length ((lineSt (l8.take k)).1.map I8) ∧ Below w4.heap.size w4 wr ∧ (lineSt (l8.take k)).1.length ≤ k) (fun _ i _ => m8 - (intOf i).toNat)
    case atStart => exact ⟨0, Nat.zero_le _, rfl, by simpa [lineSt] using World.ownsRow_nil _ _ _ _, Below.refl _ _, by simp [lineSt]⟩
    case round =>
      obtain ⟨k, hk, rfl, hown, hbel, hlen⟩ := hrel
      by_cases hlt : k < m8
      · have hxa := unitsL_at (s := 8) HC.out (by decide) (k := k) (by have := HM.out; omega)
        rw [← HL8.out.1] at hxa
        have hnext : lineSt (l8.take (k + 1)) = lineStep (lineSt (l8.take k)) (p / 8 + (k : Int)) := by rw [take_next hxa, lineSt_next]
        obtain ⟨b, o, x, rfl, hb, hx, hcx⟩ := (HR5.out.keep hbel (Nat.le_refl _)).int hlt
        obtain rfl : x = p / 8 + (k : Int) := by rw [hxa] at hx; exact (Option.some.inj hx).symm
        have hsz := hbel.size
        have hne : (p / 8 + (k : Int) != p / 8 + (k : Int)) = false := by simp
        have hkm : (k : Int) ≤ (p + r - 1) / 8 - p / 8 := by have := HM.out; omega
        obtain ⟨st, hst⟩ : ∃ st, st = lineSt (l8.take k) := ⟨_, rfl⟩
        rw [← hst] at hown hnext hlen
        obtain ⟨sl, hsl⟩ : ∃ sl, sl = st.1.length := ⟨_, rfl⟩
        rw [← hsl] at hown hlen
        obtain ⟨a7, c7, rfl, _, _, _⟩ := reads_of_own hown
        have HSL := Lib.hid hsl
        have HLEN := Lib.hid hlen
        have hl9 : sl ≤ 1000 := by omega
        clear hx hxa hsl hlen
        cases k with
        | zero =>
          have hs2 : st = ([], -1) := by rw [hst]; rfl
          have hn2 : lineSt (l8.take 1) = (st.1 ++ [p / 8 / 8], p / 8 / 8) := by
            rw [hnext, lineStep, hs2, if_neg (by simp; omega)]
            simp
          have HN := Lib.hid hn2
          clear hn2 hs2 hnext hst
          simp only [Nat.add_zero, Int.natCast_zero, Int.add_zero, Nat.zero_add] at hcx hne
          go_wp2
          go_quiet (fail)
          have hown5 : (wr.drewN nq).ownsRow w4.heap.size 3 1 (.slice a7 sl c7) sl (st.1.map I8) := hown
          have hbel5 : Below w4.heap.size w4 (wr.drewN nq) := below_drewN hbel nq
          go_wp2_with (at_builtin; refine wpList_append_own _ rfl _ _ 50 rfl w4.heap.size 3 i0 (.int .i64 0) 1 8 Try.underlying50 hi hz0 hz1 hz2 rfl (by decide) _ _ _ rfl (hown5.alloc _) ⟨wr.heap.size, 0, none⟩ 1 1 [.int .i64 (p / 8 / 8)] rfl rfl (cell_one_new _ _ _) (by simp [Value.oneCell']) (by unfold maxLen; omega) (by omega) (by simp; omega) ?_; intro v' w6 hown6 hgrow6 _)
          have hb6 := below_append hbel5 (by simp; omega) hown5 hgrow6
          clear hgrow6
          go_roundw
          case rel =>
            refine ⟨0 + 1, by omega, by go_num, ?_, hb6, ?_⟩
            · rw [HN.out]
              have h1 : (st.1 ++ [p / 8 / 8]).length = sl + 1 := by simp [HSL.out]
              rw [h1, List.map_append]
              exact hown6
            · rw [HN.out]
              have h1 := HSL.out
              have h2 := HLEN.out
              rw [List.length_append, ← h1]
              exact Nat.succ_le_succ h2
          case measure => simp [intOf] <;> omega
        | succ j =>
          have hxp := unitsL_at (s := 8) HC.out (by decide) (k := j) (by omega)
          rw [← HL8.out.1] at hxp
          have hs2 : st.2 = (p / 8 + (j : Int)) / 8 := by
            rw [hst, take_next hxp, lineSt_next, lineStep]
            split
            · rename_i h; exact h.symm
            · rfl
          have hj8 : j < m8 := by omega
          obtain ⟨b', o', x', hbo', _, hx', hcp⟩ := (HR5.out.keep hbel (Nat.le_refl _)).int hj8
          obtain ⟨rfl, rfl⟩ : b' = b ∧ o' = o := by simp only [Option.some.injEq, Addr.mk.injEq] at hbo'; exact ⟨hbo'.1.symm, hbo'.2.1.symm⟩
          obtain rfl : x' = p / 8 + (j : Int) := by rw [hxp] at hx'; exact (Option.some.inj hx').symm
          have hk0 : ((j : Int) + 1 == 0) = false := by simp; omega
          have ej : ((j + 1 : Nat) : Int) = (j : Int) + 1 := by omega
          rw [ej] at hcx hne hnext
          have i1 : (j : Int) + 1 < (m8 : Int) := by omega
          have i2 : (j : Int) < (m8 : Int) := by omega
          clear hx' hbo' hxp ej
          by_cases hsame : (p / 8 + ((j : Int) + 1)) / 8 = (p / 8 + (j : Int)) / 8
          · have hn2 : lineSt (l8.take (j + 1 + 1)) = st := by rw [hnext, lineStep, if_pos (by rw [hs2]; exact hsame)]
            have HN := Lib.hid hn2
            have hbb : ((p / 8 + ((j : Int) + 1)) / 8 != (p / 8 + (j : Int)) / 8) = false := by simp only [bne_eq_false_iff_eq]; exact hsame
            clear hn2 hs2 hnext hst hsame
            go_wp2
            go_quiet (fail)
            go_wp2_with fail
            go_roundw
            case rel =>
              refine ⟨j + 1 + 1, by omega, by go_num, ?_, below_drewN hbel nq, ?_⟩
              · rw [HN.out, ← HSL.out]; exact hown
              · rw [HN.out, ← HSL.out]; have := HLEN.out; omega
            case measure => simp [intOf] <;> omega
          · have hn2 : lineSt (l8.take (j + 1 + 1)) = (st.1 ++ [(p / 8 + ((j : Int) + 1)) / 8], (p / 8 + ((j : Int) + 1)) / 8) := by rw [hnext, lineStep, if_neg (by rw [hs2]; exact hsame)]
            have HN := Lib.hid hn2
            have hbb : ((p / 8 + ((j : Int) + 1)) / 8 != (p / 8 + (j : Int)) / 8) = true := by simp only [bne_iff_ne, ne_eq]; exact hsame
            clear hn2 hs2 hnext hst hsame
            go_wp2
            go_quiet (fail)
            have hown5 : (wr.drewN nq).ownsRow w4.heap.size 3 1 (.slice a7 sl c7) sl (st.1.map I8) := hown
            have hbel5 : Below w4.heap.size w4 (wr.drewN nq) := below_drewN hbel nq
            go_wp2_with (at_builtin; refine wpList_append_own _ rfl _ _ 50 rfl w4.heap.size 3 i0 (.int .i64 0) 1 8 Try.underlying50 hi hz0 hz1 hz2 rfl (by decide) _ _ _ rfl (hown5.alloc _) ⟨wr.heap.size, 0, none⟩ 1 1 [.int .i64 ((p / 8 + ((j : Int) + 1)) / 8)] rfl rfl (cell_one_new _ _ _) (by simp [Value.oneCell']) (by unfold maxLen; omega) (by omega) (by simp; omega) ?_; intro v' w6 hown6 hgrow6 _)
            have hb6 := below_append hbel5 (by simp; omega) hown5 hgrow6
            clear hgrow6
            go_roundw
            case rel =>
              refine ⟨j + 1 + 1, by omega, by go_num, ?_, hb6, ?_⟩
              · rw [HN.out]
                have h1 : (st.1 ++ [(p / 8 + ((j : Int) + 1)) / 8]).length = sl + 1 := by simp [HSL.out]
                rw [h1, List.map_append]
                exact hown6
              · rw [HN.out]
                have h1 := HSL.out
                have h2 := HLEN.out
                rw [List.length_append, ← h1]
                exact Nat.succ_le_succ h2
            case measure => simp [intOf] <;> omega
      · obtain rfl : k = m8 := by omega
        have hall : (lineSt (l8.take k)).1 = l64 := by
          rw [List.take_of_length_le (by rw [HL8.out.2]; exact Nat.le_refl _), HL8.out.1, HL64.out.1, ← linesOf_eq]; rfl
        rw [hall] at hown hlen
        have hlast := unitsL_at (s := 8) HC.out (by decide) (k := k - 1) (by have := HM.out; omega)
        rw [← HL8.out.1] at hlast
        have he : p / 8 + ((k - 1 : Nat) : Int) = (p + (r - 1)) / 8 := by have := HM.out; omega
        rw [he] at hlast
        have hk1 : k - 1 < k := by omega
        obtain ⟨b, o, x, rfl, hb, hx, hcx⟩ := (HR5.out.keep hbel (Nat.le_refl _)).int hk1
        obtain rfl : x = (p + (r - 1)) / 8 := by rw [hlast] at hx; exact (Option.some.inj hx).symm
        rw [← HL64.out.2] at hown hlen
        obtain ⟨a7, c7, rfl, hr7, _, _⟩ := reads_of_own hown
        have hE := eqInts wr a4 a7 m64 m64 c4 c7 l64 l64 (HR4.out.keep hbel (Nat.le_refl _)) hr7 (by omega) (by omega)
        rw [show sameI l64 l64 = true from by simp [sameI]] at hE
        have HE := Lib.hid hE
        have hsz := hbel.size
        have hxx : ((p + (r - 1)) / 8 == (p + (r - 1)) / 8) = true := by simp
        have kj : ∃ j : Nat, k = j + 1 := ⟨k - 1, by omega⟩
        obtain ⟨j, rfl⟩ := kj
        have ej : j + 1 - 1 = j := by omega
        rw [ej] at hcx
        have i2 : (j : Int) < ((j + 1 : Nat) : Int) := by omega
        clear hlast he hk1 hx hE hr7 hall ej
        go_wp2_with (first | (go_at_call 37; refine HE.out.mono ?_; rintro e w7 ⟨rfl, hq7⟩; have B7 := Lib.hid (hq7.below w4.heap.size); clear hq7) | (go_at_call 20; refine (worksC _).mono ?_; rintro e w8 ⟨rfl, hb8⟩; have B8 := Lib.hid hb8; clear hb8))
        go_ret
        refine ⟨rfl, ?_⟩
        have y7 := B7.out.size
        exact (B4.out.trans ((hbel.trans B7.out).mono (by omega))).trans (B8.out.mono (by omega))
theorem bitsCovers_walk (w : World) (p : Int) (hp : (Lit.int .i64 p).wf = true) (n : Int) (hn : (Lit.int .i64 n).wf = true) :
    Calls Try.prog 11 #[.int .i64 p, .int .i64 n] w fun e w' => e = .returned (.bool true) ∧ Below w.heap.size w w' := by
  by_cases h : n ≤ 4096
  · exact covers_small w p n ⟨wf_i64 hp, wf_i64 hn⟩ h
  · exact covers_big w p n ⟨wf_i64 hp, wf_i64 hn⟩ (by omega)
end Go.Proofs.Ytgcgbpehedkckaa
