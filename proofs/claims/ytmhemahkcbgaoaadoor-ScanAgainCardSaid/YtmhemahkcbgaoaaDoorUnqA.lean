/- What is escaped, by the reference: braces. -/
import Derived.Test.YtmhemahkcbgaoaaDoorScanI
import Derived.Stop.FmtQuoteTie
import Derived.Laws.Runes
namespace Go.Proofs.YtmhemahkcbgaoaaDoor
set_option linter.unusedVariables false
set_option linter.unusedSimpArgs false
open Go.RowKit
open Go.Lib hiding intOf
theorem nums_back (L : List UInt8) : (Go.Extern.FmtText.nums L).map (fun x => x.toNat.toUInt8) = L := by
  unfold Go.Extern.FmtText.nums
  rw [List.map_map]
  exact (List.map_congr_left fun x _ => by simp).trans (List.map_id _)
theorem bstr_back (s : ByteArray) : s = bstr s.data.toList := by simp [bstr]
theorem bstr_encode (r : Nat) : Utf8.encode (r : Int) = bstr (encodeRune (r : Int)) := by
  have h := Go.Extern.FmtText.encode_eq r
  generalize Utf8.encode (r : Int) = s at h ⊢
  have e : encodeRune (r : Int) = s.data.toList := by
    unfold encodeRune
    rw [← h]
    exact nums_back _
  rw [e]
  exact bstr_back s
theorem hexGo_app : ∀ (l r : List UInt8) (n : Nat), hexGo (l ++ r) n = (hexGo l n).bind (hexGo r)
  | [], r, n => rfl
  | x :: l, r, n => by
    rw [List.cons_append, hexGo, hexGo]
    split
    · rfl
    · exact hexGo_app l r _
theorem hexGo_bad : ∀ (l : List UInt8) (n j : Nat) (x : UInt8), l[j]? = some x → 15 < digit16 x → hexGo l n = none
  | [], _, _, _, h, _ => by cases h
  | y :: l, n, 0, x, h, hx => by cases h; rw [hexGo, if_pos hx]
  | y :: l, n, j + 1, x, h, hx => by
    rw [hexGo]
    split
    · rfl
    · exact hexGo_bad l _ j x h hx
/-- digits of sixteen from 3 to k -/
def Hexs (l : List UInt8) (k : Nat) : Prop := ∀ j x, 3 ≤ j → j < k → l[j]? = some x → digit16 x < 16
theorem Hexs.next {l : List UInt8} {k : Nat} {x : UInt8} (h : Hexs l k) (hx : l[k]? = some x) (hd : digit16 x < 16) : Hexs l (k + 1) := by
  intro j y h3 hj hy
  rcases Nat.lt_or_ge j k with h1 | h1
  · exact h j y h3 h1 hy
  · obtain rfl : j = k := by omega
    rw [hx] at hy
    cases hy
    exact hd
theorem d125 : digit16 125 = 16 := rfl
theorem braced_no {l : List UInt8} {k : Nat} (h0 : l[0]? = some 92) (h1 : l[1]? = some 117) (h2 : l[2]? = some 123) (hh : Hexs l k) (hk : 3 ≤ k)
    (hx : l.length ≤ k ∨ (∃ x, l[k]? = some x ∧ 15 < digit16 x ∧ x ≠ 125) ∨ (k = 3 ∧ l[3]? = some 125) ∨ 10 ≤ k) : bracedOf l = ([], 0) := by
  unfold bracedOf
  by_cases hc : l.length < 3 ∨ l.getD 2 0 ≠ 123 ∨ indexByte l 125 < 4 ∨ 9 < indexByte l 125
  · rw [if_pos hc]
  rw [if_neg hc]
  rcases index_cases l 125 with hn | ⟨e, he, hel, hle⟩
  · exact absurd (.inr (.inr (.inl (by omega)))) hc
  rw [he] at hc
  have hfirst := (indexByte_some he).2
  have hek : k ≤ e := by
    rcases Nat.lt_or_ge e k with h | h
    · have := hh e 125 (by omega) h hle
      rw [d125] at this
      omega
    · exact h
  rw [he]
  simp only [Int.toNat_natCast]
  rcases hx with h | ⟨x, hx, hd, hne⟩ | ⟨rfl, h⟩ | h
  · omega
  · have hlt : k < e := by
      rcases Nat.lt_or_ge k e with h | h
      · exact h
      · obtain rfl : k = e := by omega
        rw [hx] at hle
        cases hle
        exact absurd rfl hne
    rw [hexGo_bad _ 0 (k - 3) x (by rw [List.getElem?_take, if_pos (by omega), List.getElem?_drop, show 3 + (k - 3) = k by omega]; exact hx) hd]
  · exact absurd h (hfirst 3 (by omega))
  · omega
theorem index_is {l : List UInt8} {k : Nat} (h0 : l[0]? = some 92) (h1 : l[1]? = some 117) (h2 : l[2]? = some 123) (hh : Hexs l k) (hk : 4 ≤ k) (hx : l[k]? = some 125) : indexByte l 125 = (k : Int) := by
  rcases index_cases l 125 with hn | ⟨e, he, hel, hle⟩
  · exact absurd hx (indexByte_none hn k)
  have hfirst := (indexByte_some he).2
  have h3 : e ≤ k := by
    rcases Nat.lt_or_ge k e with h | h
    · exact absurd hx (hfirst k h)
    · exact h
  have h4 : k ≤ e := by
    rcases Nat.lt_or_ge e k with h | h
    · by_cases e3 : 3 ≤ e
      · have := hh e 125 e3 h hle
        rw [d125] at this
        omega
      · have : e = 0 ∨ e = 1 ∨ e = 2 := by omega
        rcases this with rfl | rfl | rfl
        · rw [h0] at hle; cases hle
        · rw [h1] at hle; cases hle
        · rw [h2] at hle; cases hle
    · exact h
  rw [he]
  omega
theorem braced_yes {l : List UInt8} {k m : Nat} (h0 : l[0]? = some 92) (h1 : l[1]? = some 117) (h2 : l[2]? = some 123) (hh : Hexs l k) (hk : 4 ≤ k) (hk9 : k ≤ 9) (hx : l[k]? = some 125) (hg : hexGo ((l.drop 3).take (k - 3)) 0 = some m) :
    bracedOf l = if 1114111 < m ∨ 55296 ≤ m ∧ m ≤ 57343 then ([], 0) else (encodeRune m, k + 1) := by
  have hi := index_is h0 h1 h2 hh hk hx
  have hlen : k < l.length := (List.getElem?_eq_some_iff.1 hx).1
  have hg2 : l.getD 2 0 = 123 := by rw [List.getD_eq_getElem?_getD, h2]; rfl
  unfold bracedOf
  rw [hi, hg2, if_neg (by rintro (h | h | h | h); · omega
                          · exact h rfl
                          · omega
                          · omega)]
  simp only [Int.toNat_natCast]
  rw [hg]
theorem hexGo_next {l : List UInt8} {k m : Nat} {x : UInt8} (hk : 3 ≤ k) (hx : l[k]? = some x) (hd : ¬ 15 < digit16 x) (h : hexGo ((l.drop 3).take (k - 3)) 0 = some m) : hexGo ((l.drop 3).take (k + 1 - 3)) 0 = some (16 * m + digit16 x) := by
  have e : (l.drop 3).take (k + 1 - 3) = (l.drop 3).take (k - 3) ++ [x] := by
    rw [show k + 1 - 3 = (k - 3) + 1 by omega, List.take_add_one, List.getElem?_drop, show 3 + (k - 3) = k by omega, hx]
    rfl
  rw [e, hexGo_app, h]
  show hexGo [x] m = _
  rw [hexGo, if_neg hd, hexGo]
set_option maxHeartbeats 4000000 in
set_option maxRecDepth 100000 in
theorem bracedR (w : World) (l : List UInt8) (hm : l.length ≤ 140737488355328) (h0 : l[0]? = some 92) (h1 : l[1]? = some 117) :
    Calls Tryd.prog 78 #[.string (bstr l)] w fun e w' => e = .returned (.tuple #[.string (bstr (bracedOf l).1), .int .i64 ((bracedOf l).2 : Int)]) ∧ w' = w := by
  obtain ⟨n, hn⟩ : ∃ n, n = l.length := ⟨_, rfl⟩
  have hsz : (bstr l).size = n := by rw [bstr_size, hn]
  have hn2 : 2 ≤ n := by rw [hn]; exact (List.getElem?_eq_some_iff.1 h1).1
  rw [← hn] at hm
  by_cases h3 : n < 3
  · have hB : bracedOf l = ([], 0) := by unfold bracedOf; rw [if_pos (.inl (by omega))]
    rw [hB]
    clear hB hn h0 h1
    go_enter Tryd.func78, Tryd.ntmps78
    go_wp2
    go_ret2
    exact ⟨rfl, rfl⟩
  obtain ⟨c, hc⟩ := some_at (l := l) (k := 2) (by omega)
  have i2 : 2 < (bstr l).size := by rw [hsz]; omega
  have ha2 : (bstr l)[2]'i2 = c := bstr_at hc _
  by_cases hc3 : ¬ c = 123
  · have hg2 : l.getD 2 0 = c := by rw [List.getD_eq_getElem?_getD, hc]; rfl
    have hB : bracedOf l = ([], 0) := by unfold bracedOf; rw [if_pos (.inr (.inl (by rw [hg2]; exact hc3)))]
    rw [hB]
    have hcb : ((c.toNat : Int) != 123) = true := by
      rw [bne_iff_ne]; intro e; exact hc3 (UInt8.toNat_inj.1 (by simpa using (by omega : c.toNat = 123)))
    clear hB hc hg2 hc3 hn h0 h1
    go_enter Tryd.func78, Tryd.ntmps78
    go_wp2
    go_ret2
    exact ⟨rfl, rfl⟩
  obtain rfl : c = 123 := Decidable.not_not.1 hc3
  have HN := Lib.hid hn
  have H0 := Lib.hid h0
  have H1 := Lib.hid h1
  have H2 := Lib.hid hc
  clear hn h0 h1 hc hc3
  go_enter Tryd.func78, Tryd.ntmps78
  go_wp2
  go_loopw [4, 5] (fun nv iv wr => ∃ k m : Nat, 3 ≤ k ∧ k ≤ 9 ∧ k ≤ n ∧ nv = .int .i64 (m : Int) ∧ iv = .int .i64 (k : Int) ∧ m < hexB k ∧ Hid (Hexs l k ∧ hexGo ((l.drop 3).take (k - 3)) 0 = some m) ∧ wr = w) (fun _ iv _ => 10 - (RowKit.intOf iv).toNat)
  case atStart => exact ⟨3, 0, by omega, by omega, by omega, rfl, rfl, by decide, Lib.hid ⟨fun j x h3 hj _ => by omega, rfl⟩, rfl⟩
  case round =>
    obtain ⟨k, m, hk3, hk9, hkn, rfl, rfl, pb, HH, rfl⟩ := hrel
    have hmb := hexB_le (by omega) pb
    have PB := Lib.hid pb
    clear pb
    by_cases hlt : k < n
    · obtain ⟨y, hy⟩ := some_at (l := l) (k := k) (by rw [← HN.out]; omega)
      have ik : k < (bstr l).size := by rw [hsz]; omega
      have hya : (bstr l)[k]'ik = y := bstr_at hy _
      have HY := Lib.hid hy
      clear hy
      obtain ⟨d, hde⟩ : ∃ d, digit16 y = d := ⟨_, rfl⟩
      have HD := Lib.hid (fun w1 => hde ▸ digitR w1 y)
      have HDE := Lib.hid hde
      clear hde
      by_cases hd : d < 16
      · by_cases h8 : 8 < k
        · have hB : bracedOf l = ([], 0) := braced_no (k := k + 1) H0.out H1.out H2.out (HH.out.1.next HY.out (by rw [HDE.out]; exact hd)) (by omega) (.inr (.inr (.inr (by omega))))
          have HB := Lib.hid hB
          clear hB
          go_wp2_with (go_at_call 77; refine (HD.out _).mono ?_; rintro e w' ⟨rfl, hww⟩; obtain rfl := hww.symm)
          go_ret2
          rw [HB.out]
          exact ⟨rfl, rfl⟩
        · have HNX : Hid (Hexs l (k + 1) ∧ hexGo ((l.drop 3).take (k + 1 - 3)) 0 = some (16 * m + d)) := Lib.hid ⟨HH.out.1.next HY.out (by rw [HDE.out]; exact hd), by have := hexGo_next hk3 HY.out (by rw [HDE.out]; omega) HH.out.2; rwa [HDE.out] at this⟩
          go_wp2_with (go_at_call 77; refine (HD.out _).mono ?_; rintro e w' ⟨rfl, hww⟩; obtain rfl := hww.symm)
          go_roundw
          case rel => exact ⟨k + 1, 16 * m + d, by omega, by omega, by omega, by go_num, by go_num, hexB_step hk3 PB.out (by omega), HNX, trivial⟩
          case measure => simp [RowKit.intOf]; omega
      · have hd2 : 15 < digit16 y := by rw [HDE.out]; omega
        by_cases hk0 : k = 3
        · have hB : bracedOf l = ([], 0) := by
            by_cases hy5 : y = 125
            · exact braced_no (k := k) H0.out H1.out H2.out HH.out.1 hk3 (.inr (.inr (.inl ⟨hk0, by rw [← hk0, ← hy5]; exact HY.out⟩)))
            · exact braced_no (k := k) H0.out H1.out H2.out HH.out.1 hk3 (.inr (.inl ⟨y, HY.out, hd2, hy5⟩))
          subst hk0
          have HB := Lib.hid hB
          clear hB hd2
          go_wp2_with (go_at_call 77; refine (HD.out _).mono ?_; rintro e w' ⟨rfl, hww⟩; obtain rfl := hww.symm)
          all_goals go_ret2
          all_goals (rw [HB.out]; exact ⟨rfl, rfl⟩)
        · have hk3b : ((k : Int) == 3) = false := nat_ne (b := 3) hk0
          by_cases hy5 : y = 125
          · subst hy5
            have hB := braced_yes H0.out H1.out H2.out HH.out.1 (by omega) hk9 HY.out HH.out.2
            have hcv : ∀ w1, (convert 21 9 (.int .i32 (m : Int))).run Tryd.prog w1 = .ok (.string (bstr (encodeRune (m : Int)))) w1 := fun w1 => by
              rw [run_convert_int_string w1 _ _ _ _ (by kernel_rfl) Tryd.underlying9, bstr_encode]
            have HB := Lib.hid hB
            clear hB hd2 hk0
            rcases rune_cases m with ⟨c1, hbad⟩ | ⟨c1, c2, hbad⟩ | ⟨c1, hbad⟩ | ⟨c1, c2, hbad⟩
            all_goals
              have HBAD := Lib.hid hbad
              clear hbad
              go_wp2_with (go_at_call 77; refine (HD.out _).mono ?_; rintro e w' ⟨rfl, hww⟩; obtain rfl := hww.symm)
            all_goals go_ret2
            all_goals first
              | (rw [HB.out, if_pos HBAD.out]; exact ⟨rfl, rfl⟩)
              | (rw [HB.out, if_neg HBAD.out]; exact ⟨rfl, rfl⟩)
          · have hB := braced_no (k := k) H0.out H1.out H2.out HH.out.1 hk3 (.inr (.inl ⟨y, HY.out, hd2, hy5⟩))
            have hyb : ((y.toNat : Int) != 125) = true := by
              rw [bne_iff_ne]; intro e; exact hy5 (UInt8.toNat_inj.1 (by simpa using (by omega : y.toNat = 125)))
            have HB := Lib.hid hB
            clear hB hd2 hk0 hy5
            go_wp2_with (go_at_call 77; refine (HD.out _).mono ?_; rintro e w' ⟨rfl, hww⟩; obtain rfl := hww.symm)
            all_goals go_ret2
            all_goals (rw [HB.out]; exact ⟨rfl, rfl⟩)
    · obtain rfl : k = n := by omega
      have hB := braced_no (k := k) H0.out H1.out H2.out HH.out.1 hk3 (.inl (by rw [← HN.out]; exact Nat.le_refl _))
      have HB := Lib.hid hB
      clear hB
      go_wp2
      all_goals go_ret2
      all_goals (rw [HB.out]; exact ⟨rfl, rfl⟩)
end Go.Proofs.YtmhemahkcbgaoaaDoor
