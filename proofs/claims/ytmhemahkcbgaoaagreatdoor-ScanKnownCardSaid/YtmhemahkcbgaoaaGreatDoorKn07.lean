/- Texts joined, one behind the other (UnqA, UnqB, UnqC). -/
import Derived.Test.YtmhemahkcbgaoaaGreatDoorKn06
import Derived.Stop.FmtQuoteTie
import Derived.Laws.Runes
import Derived.Deep.RegionWith
/- What is escaped, by the reference: braces. -/
namespace Go.Proofs.YtmhemahkcbgaoaaGreatDoor
set_option linter.unusedVariables false
set_option linter.unusedSimpArgs false
open Go.RowKit
open Go.Lib hiding intOf
theorem nums_back (L : List UInt8) : (Go.Extern.FmtText.nums L).map (fun x => x.toNat.toUInt8) = L := by
  unfold Go.Extern.FmtText.nums
  rw [List.map_map]
  exact (List.map_congr_left fun x _ => by simp).trans (List.map_id _)
theorem bstr_back (s : ByteArray) : s = bstr s.data.toList := by simp [bstr]
theorem bstr_encode (r : Nat) : Utf8.encode (r : Int) = bstr (encodeRune (r : Int)) := by
  have h := Go.Extern.FmtText.encode_eq r
  generalize Utf8.encode (r : Int) = s at h ⊢
  have e : encodeRune (r : Int) = s.data.toList := by
    unfold encodeRune
    rw [← h]
    exact nums_back _
  rw [e]
  exact bstr_back s
theorem hexGo_app : ∀ (l r : List UInt8) (n : Nat), hexGo (l ++ r) n = (hexGo l n).bind (hexGo r)
  | [], r, n => rfl
  | x :: l, r, n => by
    rw [List.cons_append, hexGo, hexGo]
    split
    · rfl
    · exact hexGo_app l r _
theorem hexGo_bad : ∀ (l : List UInt8) (n j : Nat) (x : UInt8), l[j]? = some x → 15 < digit16 x → hexGo l n = none
  | [], _, _, _, h, _ => by cases h
  | y :: l, n, 0, x, h, hx => by cases h; rw [hexGo, if_pos hx]
  | y :: l, n, j + 1, x, h, hx => by
    rw [hexGo]
    split
    · rfl
    · exact hexGo_bad l _ j x h hx
/-- digits of sixteen from 3 to k -/
def Hexs (l : List UInt8) (k : Nat) : Prop := ∀ j x, 3 ≤ j → j < k → l[j]? = some x → digit16 x < 16
theorem Hexs.next {l : List UInt8} {k : Nat} {x : UInt8} (h : Hexs l k) (hx : l[k]? = some x) (hd : digit16 x < 16) : Hexs l (k + 1) := by
  intro j y h3 hj hy
  rcases Nat.lt_or_ge j k with h1 | h1
  · exact h j y h3 h1 hy
  · obtain rfl : j = k := by omega
    rw [hx] at hy
    cases hy
    exact hd
theorem d125 : digit16 125 = 16 := rfl
theorem braced_no {l : List UInt8} {k : Nat} (h0 : l[0]? = some 92) (h1 : l[1]? = some 117) (h2 : l[2]? = some 123) (hh : Hexs l k) (hk : 3 ≤ k)
    (hx : l.length ≤ k ∨ (∃ x, l[k]? = some x ∧ 15 < digit16 x ∧ x ≠ 125) ∨ (k = 3 ∧ l[3]? = some 125) ∨ 10 ≤ k) : bracedOf l = ([], 0) := by
  unfold bracedOf
  by_cases hc : l.length < 3 ∨ l.getD 2 0 ≠ 123 ∨ indexByte l 125 < 4 ∨ 9 < indexByte l 125
  · rw [if_pos hc]
  rw [if_neg hc]
  rcases index_cases l 125 with hn | ⟨e, he, hel, hle⟩
  · exact absurd (.inr (.inr (.inl (by omega)))) hc
  rw [he] at hc
  have hfirst := (indexByte_some he).2
  have hek : k ≤ e := by
    rcases Nat.lt_or_ge e k with h | h
    · have := hh e 125 (by omega) h hle
      rw [d125] at this
      omega
    · exact h
  rw [he]
  simp only [Int.toNat_natCast]
  rcases hx with h | ⟨x, hx, hd, hne⟩ | ⟨rfl, h⟩ | h
  · omega
  · have hlt : k < e := by
      rcases Nat.lt_or_ge k e with h | h
      · exact h
      · obtain rfl : k = e := by omega
        rw [hx] at hle
        cases hle
        exact absurd rfl hne
    rw [hexGo_bad _ 0 (k - 3) x (by rw [List.getElem?_take, if_pos (by omega), List.getElem?_drop, show 3 + (k - 3) = k by omega]; exact hx) hd]
  · exact absurd h (hfirst 3 (by omega))
  · omega
theorem index_is {l : List UInt8} {k : Nat} (h0 : l[0]? = some 92) (h1 : l[1]? = some 117) (h2 : l[2]? = some 123) (hh : Hexs l k) (hk : 4 ≤ k) (hx : l[k]? = some 125) : indexByte l 125 = (k : Int) := by
  rcases index_cases l 125 with hn | ⟨e, he, hel, hle⟩
  · exact absurd hx (indexByte_none hn k)
  have hfirst := (indexByte_some he).2
  have h3 : e ≤ k := by
    rcases Nat.lt_or_ge k e with h | h
    · exact absurd hx (hfirst k h)
    · exact h
  have h4 : k ≤ e := by
    rcases Nat.lt_or_ge e k with h | h
    · by_cases e3 : 3 ≤ e
      · have := hh e 125 e3 h hle
        rw [d125] at this
        omega
      · have : e = 0 ∨ e = 1 ∨ e = 2 := by omega
        rcases this with rfl | rfl | rfl
        · rw [h0] at hle; cases hle
        · rw [h1] at hle; cases hle
        · rw [h2] at hle; cases hle
    · exact h
  rw [he]
  omega
theorem braced_yes {l : List UInt8} {k m : Nat} (h0 : l[0]? = some 92) (h1 : l[1]? = some 117) (h2 : l[2]? = some 123) (hh : Hexs l k) (hk : 4 ≤ k) (hk9 : k ≤ 9) (hx : l[k]? = some 125) (hg : hexGo ((l.drop 3).take (k - 3)) 0 = some m) :
    bracedOf l = if 1114111 < m ∨ 55296 ≤ m ∧ m ≤ 57343 then ([], 0) else (encodeRune m, k + 1) := by
  have hi := index_is h0 h1 h2 hh hk hx
  have hlen : k < l.length := (List.getElem?_eq_some_iff.1 hx).1
  have hg2 : l.getD 2 0 = 123 := by rw [List.getD_eq_getElem?_getD, h2]; rfl
  unfold bracedOf
  rw [hi, hg2, if_neg (by rintro (h | h | h | h); · omega
                          · exact h rfl
                          · omega
                          · omega)]
  simp only [Int.toNat_natCast]
  rw [hg]
theorem hexGo_next {l : List UInt8} {k m : Nat} {x : UInt8} (hk : 3 ≤ k) (hx : l[k]? = some x) (hd : ¬ 15 < digit16 x) (h : hexGo ((l.drop 3).take (k - 3)) 0 = some m) : hexGo ((l.drop 3).take (k + 1 - 3)) 0 = some (16 * m + digit16 x) := by
  have e : (l.drop 3).take (k + 1 - 3) = (l.drop 3).take (k - 3) ++ [x] := by
    rw [show k + 1 - 3 = (k - 3) + 1 by omega, List.take_add_one, List.getElem?_drop, show 3 + (k - 3) = k by omega, hx]
    rfl
  rw [e, hexGo_app, h]
  show hexGo [x] m = _
  rw [hexGo, if_neg hd, hexGo]
set_option maxHeartbeats 4000000 in
set_option maxRecDepth 100000 in
theorem bracedR (w : World) (l : List UInt8) (hm : l.length ≤ 140737488355328) (h0 : l[0]? = some 92) (h1 : l[1]? = some 117) :
    Calls Tryz.prog 70 #[.string (bstr l)] w fun e w' => e = .returned (.tuple #[.string (bstr (bracedOf l).1), .int .i64 ((bracedOf l).2 : Int)]) ∧ w' = w := by
  obtain ⟨n, hn⟩ : ∃ n, n = l.length := ⟨_, rfl⟩
  have hsz : (bstr l).size = n := by rw [bstr_size, hn]
  have hn2 : 2 ≤ n := by rw [hn]; exact (List.getElem?_eq_some_iff.1 h1).1
  rw [← hn] at hm
  by_cases h3 : n < 3
  · have hB : bracedOf l = ([], 0) := by unfold bracedOf; rw [if_pos (.inl (by omega))]
    rw [hB]
    clear hB hn h0 h1
    go_enter Tryz.func70, Tryz.ntmps70
    go_wp2
    go_ret2
    exact ⟨rfl, rfl⟩
  obtain ⟨c, hc⟩ := some_at (l := l) (k := 2) (by omega)
  have i2 : 2 < (bstr l).size := by rw [hsz]; omega
  have ha2 : (bstr l)[2]'i2 = c := bstr_at hc _
  by_cases hc3 : ¬ c = 123
  · have hg2 : l.getD 2 0 = c := by rw [List.getD_eq_getElem?_getD, hc]; rfl
    have hB : bracedOf l = ([], 0) := by unfold bracedOf; rw [if_pos (.inr (.inl (by rw [hg2]; exact hc3)))]
    rw [hB]
    have hcb : ((c.toNat : Int) != 123) = true := by
      rw [bne_iff_ne]; intro e; exact hc3 (UInt8.toNat_inj.1 (by simpa using (by omega : c.toNat = 123)))
    clear hB hc hg2 hc3 hn h0 h1
    go_enter Tryz.func70, Tryz.ntmps70
    go_wp2
    go_ret2
    exact ⟨rfl, rfl⟩
  obtain rfl : c = 123 := Decidable.not_not.1 hc3
  have HN := Lib.hid hn
  have H0 := Lib.hid h0
  have H1 := Lib.hid h1
  have H2 := Lib.hid hc
  clear hn h0 h1 hc hc3
  go_enter Tryz.func70, Tryz.ntmps70
  go_wp2
  go_loopw [4, 5] (fun nv iv wr => ∃ k m : Nat, 3 ≤ k ∧ k ≤ 9 ∧ k ≤ n ∧ nv = .int .i64 (m : Int) ∧ iv = .int .i64 (k : Int) ∧ m < hexB k ∧ Hid (Hexs l k ∧ hexGo ((l.drop 3).take (k - 3)) 0 = some m) ∧ wr = w) (fun _ iv _ => 10 - (RowKit.intOf iv).toNat)
  case atStart => exact ⟨3, 0, by omega, by omega, by omega, rfl, rfl, by decide, Lib.hid ⟨fun j x h3 hj _ => by omega, rfl⟩, rfl⟩
  case round =>
    obtain ⟨k, m, hk3, hk9, hkn, rfl, rfl, pb, HH, rfl⟩ := hrel
    have hmb := hexB_le (by omega) pb
    have PB := Lib.hid pb
    clear pb
    by_cases hlt : k < n
    · obtain ⟨y, hy⟩ := some_at (l := l) (k := k) (by rw [← HN.out]; omega)
      have ik : k < (bstr l).size := by rw [hsz]; omega
      have hya : (bstr l)[k]'ik = y := bstr_at hy _
      have HY := Lib.hid hy
      clear hy
      obtain ⟨d, hde⟩ : ∃ d, digit16 y = d := ⟨_, rfl⟩
      have HD := Lib.hid (fun w1 => hde ▸ digitR w1 y)
      have HDE := Lib.hid hde
      clear hde
      by_cases hd : d < 16
      · by_cases h8 : 8 < k
        · have hB : bracedOf l = ([], 0) := braced_no (k := k + 1) H0.out H1.out H2.out (HH.out.1.next HY.out (by rw [HDE.out]; exact hd)) (by omega) (.inr (.inr (.inr (by omega))))
          have HB := Lib.hid hB
          clear hB
          go_wp2_with (go_at_call 69; refine (HD.out _).mono ?_; rintro e w' ⟨rfl, hww⟩; obtain rfl := hww.symm)
          go_ret2
          rw [HB.out]
          exact ⟨rfl, rfl⟩
        · have HNX : Hid (Hexs l (k + 1) ∧ hexGo ((l.drop 3).take (k + 1 - 3)) 0 = some (16 * m + d)) := Lib.hid ⟨HH.out.1.next HY.out (by rw [HDE.out]; exact hd), by have := hexGo_next hk3 HY.out (by rw [HDE.out]; omega) HH.out.2; rwa [HDE.out] at this⟩
          go_wp2_with (go_at_call 69; refine (HD.out _).mono ?_; rintro e w' ⟨rfl, hww⟩; obtain rfl := hww.symm)
          go_roundw
          case rel => exact ⟨k + 1, 16 * m + d, by omega, by omega, by omega, by go_num, by go_num, hexB_step hk3 PB.out (by omega), HNX, trivial⟩
          case measure => simp [RowKit.intOf]; omega
      · have hd2 : 15 < digit16 y := by rw [HDE.out]; omega
        by_cases hk0 : k = 3
        · have hB : bracedOf l = ([], 0) := by
            by_cases hy5 : y = 125
            · exact braced_no (k := k) H0.out H1.out H2.out HH.out.1 hk3 (.inr (.inr (.inl ⟨hk0, by rw [← hk0, ← hy5]; exact HY.out⟩)))
            · exact braced_no (k := k) H0.out H1.out H2.out HH.out.1 hk3 (.inr (.inl ⟨y, HY.out, hd2, hy5⟩))
          subst hk0
          have HB := Lib.hid hB
          clear hB hd2
          go_wp2_with (go_at_call 69; refine (HD.out _).mono ?_; rintro e w' ⟨rfl, hww⟩; obtain rfl := hww.symm)
          all_goals go_ret2
          all_goals (rw [HB.out]; exact ⟨rfl, rfl⟩)
        · have hk3b : ((k : Int) == 3) = false := nat_ne (b := 3) hk0
          by_cases hy5 : y = 125
          · subst hy5
            have hB := braced_yes H0.out H1.out H2.out HH.out.1 (by omega) hk9 HY.out HH.out.2
            have hcv : ∀ w1, (convert 21 9 (.int .i32 (m : Int))).run Tryz.prog w1 = .ok (.string (bstr (encodeRune (m : Int)))) w1 := fun w1 => by
              rw [run_convert_int_string w1 _ _ _ _ (by kernel_rfl) Tryz.underlying9, bstr_encode]
            have HB := Lib.hid hB
            clear hB hd2 hk0
            rcases rune_cases m with ⟨c1, hbad⟩ | ⟨c1, c2, hbad⟩ | ⟨c1, hbad⟩ | ⟨c1, c2, hbad⟩
            all_goals
              have HBAD := Lib.hid hbad
              clear hbad
              go_wp2_with (go_at_call 69; refine (HD.out _).mono ?_; rintro e w' ⟨rfl, hww⟩; obtain rfl := hww.symm)
            all_goals go_ret2
            all_goals first
              | (rw [HB.out, if_pos HBAD.out]; exact ⟨rfl, rfl⟩)
              | (rw [HB.out, if_neg HBAD.out]; exact ⟨rfl, rfl⟩)
          · have hB := braced_no (k := k) H0.out H1.out H2.out HH.out.1 hk3 (.inr (.inl ⟨y, HY.out, hd2, hy5⟩))
            have hyb : ((y.toNat : Int) != 125) = true := by
              rw [bne_iff_ne]; intro e; exact hy5 (UInt8.toNat_inj.1 (by simpa using (by omega : y.toNat = 125)))
            have HB := Lib.hid hB
            clear hB hd2 hk0 hy5
            go_wp2_with (go_at_call 69; refine (HD.out _).mono ?_; rintro e w' ⟨rfl, hww⟩; obtain rfl := hww.symm)
            all_goals go_ret2
            all_goals (rw [HB.out]; exact ⟨rfl, rfl⟩)
    · obtain rfl : k = n := by omega
      have hB := braced_no (k := k) H0.out H1.out H2.out HH.out.1 hk3 (.inl (by rw [← HN.out]; exact Nat.le_refl _))
      have HB := Lib.hid hB
      clear hB
      go_wp2
      all_goals go_ret2
      all_goals (rw [HB.out]; exact ⟨rfl, rfl⟩)
end Go.Proofs.YtmhemahkcbgaoaaGreatDoor
/- What is escaped, by the reference. -/
namespace Go.Proofs.YtmhemahkcbgaoaaGreatDoor
set_option linter.unusedVariables false
set_option linter.unusedSimpArgs false
open Go.RowKit
open Go.Lib hiding intOf
theorem byte_of {a b : Nat} (ha : a < 16) (hb : b < 16) : IntKind.u8.wrap (16 * (a : Int) + (b : Int)) = ((UInt8.ofNat (16 * a + b)).toNat : Int) := by
  have : ∀ a b : Fin 16, IntKind.u8.wrap (16 * (a.val : Int) + (b.val : Int)) = ((UInt8.ofNat (16 * a.val + b.val)).toNat : Int) := by decide +kernel
  exact this ⟨a, ha⟩ ⟨b, hb⟩
set_option maxHeartbeats 4000000 in
set_option maxRecDepth 100000 in
theorem escapeXR (w : World) (l : List UInt8) (hm : l.length ≤ 140737488355328) (h2 : 2 ≤ l.length) (hx1 : l[1]? = some 120) :
    Calls Tryz.prog 53 #[.string (bstr l)] w fun e w' => e = .returned (.tuple #[.string (bstr (escOf l).1), .int .i64 ((escOf l).2 : Int)]) ∧ Below w.heap.size w w' := by
  obtain ⟨n, hn⟩ : ∃ n, n = l.length := ⟨_, rfl⟩
  have hsz : (bstr l).size = n := by rw [bstr_size, hn]
  have h2n : ¬ l.length < 2 := by omega
  have i1 : 1 < (bstr l).size := by rw [hsz]; omega
  have ha1 : (bstr l)[1]'i1 = 120 := bstr_at hx1 _
  by_cases h4 : l.length < 4
  · have hE : escOf l = ([], 0) := by
      unfold escOf
      simp only [List.getD_eq_getElem?_getD, hx1, Option.getD_some]
      rw [if_neg h2n, if_neg (by decide), if_neg (by decide), if_neg (by decide), if_neg (by decide), if_pos (by decide), if_pos (.inl h4)]
    rw [← hn] at hm h2 h4
    rw [hE]
    clear hE hn hx1 h2n
    go_enter Tryz.func53, Tryz.ntmps53
    go_wp2
    go_ret2
    exact ⟨rfl, Below.refl _ _⟩
  obtain ⟨x, hx⟩ := some_at (l := l) (k := 2) (by omega)
  obtain ⟨y, hy⟩ := some_at (l := l) (k := 3) (by omega)
  rw [← hn] at hm h4
  have i2 : 2 < (bstr l).size := by rw [hsz]; omega
  have i3 : 3 < (bstr l).size := by rw [hsz]; omega
  have ha2 : (bstr l)[2]'i2 = x := bstr_at hx _
  have ha3 : (bstr l)[3]'i3 = y := bstr_at hy _
  have hE : escOf l = if 15 < digit16 x ∨ 15 < digit16 y then ([], 0) else ([UInt8.ofNat (16 * digit16 x + digit16 y)], 4) := by
    unfold escOf
    simp only [List.getD_eq_getElem?_getD, hx1, hx, hy, Option.getD_some]
    rw [if_neg h2n, if_neg (by decide), if_neg (by decide), if_neg (by decide), if_neg (by decide), if_pos (by decide)]
    simp only [← hn, h4, false_or]
  obtain ⟨a, hae⟩ : ∃ a, digit16 x = a := ⟨_, rfl⟩
  obtain ⟨b, hbe⟩ : ∃ b, digit16 y = b := ⟨_, rfl⟩
  have HX := Lib.hid (fun w1 => hae ▸ digitR w1 x)
  have HY := Lib.hid (fun w1 => hbe ▸ digitR w1 y)
  have hal : a ≤ 16 := hae ▸ digit16_le x
  have hbl : b ≤ 16 := hbe ▸ digit16_le y
  rw [hae, hbe] at hE
  rw [hE]
  clear hE hae hbe hx hy hx1 hn h2n h2
  by_cases hxb : 15 < a ∨ 15 < b
  · rw [if_pos hxb]
    by_cases ha : 15 < a
    · clear hxb
      go_enter Tryz.func53, Tryz.ntmps53
      go_wp2_with (go_at_call 69; first | ((with_reducible refine (HX.out _).mono ?_); rintro e w' ⟨rfl, hww⟩; obtain rfl := hww.symm) | ((with_reducible refine (HY.out _).mono ?_); rintro e w' ⟨rfl, hww⟩; obtain rfl := hww.symm))
      all_goals go_ret2
      all_goals exact ⟨rfl, Below.refl _ _⟩
    · have hb : 15 < b := by omega
      clear hxb
      go_enter Tryz.func53, Tryz.ntmps53
      go_wp2_with (go_at_call 69; first | ((with_reducible refine (HX.out _).mono ?_); rintro e w' ⟨rfl, hww⟩; obtain rfl := hww.symm) | ((with_reducible refine (HY.out _).mono ?_); rintro e w' ⟨rfl, hww⟩; obtain rfl := hww.symm))
      all_goals go_ret2
      all_goals exact ⟨rfl, Below.refl _ _⟩
  · rw [if_neg hxb]
    have ha : a < 16 := by omega
    have hb : b < 16 := by omega
    have hor := byte_of ha hb
    obtain ⟨c, hc⟩ : ∃ c, UInt8.ofNat (16 * a + b) = c := ⟨_, rfl⟩
    rw [hc] at hor
    rw [hc]
    have hcm : (c.toNat : Int) % 256 = (c.toNat : Int) := by have := c.toNat_lt; omega
    have hw1 : IntKind.i64.wrap (16 * (a : Int)) = 16 * (a : Int) := IntWalk.i64_in _ (by omega)
    have hw2 : IntKind.i64.wrap (16 * (a : Int) + (b : Int)) = 16 * (a : Int) + (b : Int) := IntWalk.i64_in _ (by omega)
    have hcv0 : (convert 25 9 (.slice (some ⟨w.heap.size, 0, none⟩) 1 1)).run Tryz.prog (w.alloc (.cells #[.int .u8 (c.toNat : Int)] 5)).drew = .ok (.string (bstr [c])) (w.alloc (.cells #[.int .u8 (c.toNat : Int)] 5)).drew := conv_one w.drew c
    clear hc hxb
    go_enter Tryz.func53, Tryz.ntmps53
    go_wp2_with (go_at_call 69; first | ((with_reducible refine (HX.out _).mono ?_); rintro e w' ⟨rfl, hww⟩; obtain rfl := hww.symm) | ((with_reducible refine (HY.out _).mono ?_); rintro e w' ⟨rfl, hww⟩; obtain rfl := hww.symm))
    go_region_with ((go_at_call 69; first | ((with_reducible refine (HX.out _).mono ?_); rintro e w' ⟨rfl, hww⟩; obtain rfl := hww.symm) | ((with_reducible refine (HY.out _).mono ?_); rintro e w' ⟨rfl, hww⟩; obtain rfl := hww.symm)))
    all_goals go_wp2
    all_goals go_ret2
    all_goals exact ⟨rfl, bl_drewN ((Below.refl _ w).alloc (Nat.le_refl _) _) 1⟩
set_option maxHeartbeats 2000000 in
set_option maxRecDepth 100000 in
theorem escapeR (w : World) (l : List UInt8) (hm : l.length ≤ 140737488355328) (h0 : l[0]? = some 92) :
    Calls Tryz.prog 53 #[.string (bstr l)] w fun e w' => e = .returned (.tuple #[.string (bstr (escOf l).1), .int .i64 ((escOf l).2 : Int)]) ∧ Below w.heap.size w w' := by
  obtain ⟨n, hn⟩ : ∃ n, n = l.length := ⟨_, rfl⟩
  have hsz : (bstr l).size = n := by rw [bstr_size, hn]
  by_cases h2 : l.length < 2
  · have hE : escOf l = ([], 0) := by unfold escOf; rw [if_pos h2]
    rw [hE]
    rw [← hn] at hm h2
    clear hE hn h0
    go_enter Tryz.func53, Tryz.ntmps53
    go_wp2
    go_ret2
    exact ⟨rfl, Below.refl _ _⟩
  obtain ⟨x, hx⟩ := some_at (l := l) (k := 1) (by omega)
  have i1 : 1 < (bstr l).size := by rw [hsz, hn]; omega
  have ha1 : (bstr l)[1]'i1 = x := bstr_at hx _
  by_cases hX : x = 120
  · subst hX
    exact escapeXR w l hm (by omega) hx
  by_cases hu : x = 117
  · subst hu
    have hE : escOf l = bracedOf l := by
      unfold escOf
      simp only [List.getD_eq_getElem?_getD, hx, Option.getD_some]
      rw [if_neg h2, if_neg (by decide), if_neg (by decide), if_neg (by decide), if_neg (by decide), if_neg (by decide), if_pos (by decide)]
    have HB := Lib.hid (fun w1 => bracedR w1 l hm h0 hx)
    rw [hE]
    rw [← hn] at hm h2
    clear hE hn hx h0 hX
    go_enter Tryz.func53, Tryz.ntmps53
    go_wp2_with (go_at_call 70; refine (HB.out _).mono ?_; rintro e w' ⟨rfl, hww⟩; obtain rfl := hww.symm)
    go_ret2
    exact ⟨rfl, Below.refl _ _⟩
  have hE : escOf l = if x = 34 ∨ x = 92 then ([x], 2) else if x = 110 then ([10], 2) else if x = 114 then ([13], 2) else if x = 116 then ([9], 2) else ([], 0) := by
    unfold escOf
    simp only [List.getD_eq_getElem?_getD, hx, Option.getD_some]
    rw [if_neg h2, if_neg hX, if_neg hu]
  rw [← hn] at hm h2
  rw [hE]
  clear hE hn hx h0
  by_cases c1 : x = 34
  · subst c1
    go_enter Tryz.func53, Tryz.ntmps53
    go_wp2
    go_ret2
    exact ⟨rfl, Below.refl _ _⟩
  by_cases c2 : x = 92
  · subst c2
    go_enter Tryz.func53, Tryz.ntmps53
    go_wp2
    go_ret2
    exact ⟨rfl, Below.refl _ _⟩
  by_cases c3 : x = 110
  · subst c3
    go_enter Tryz.func53, Tryz.ntmps53
    go_wp2
    go_ret2
    exact ⟨rfl, Below.refl _ _⟩
  by_cases c4 : x = 114
  · subst c4
    go_enter Tryz.func53, Tryz.ntmps53
    go_wp2
    go_ret2
    exact ⟨rfl, Below.refl _ _⟩
  by_cases c5 : x = 116
  · subst c5
    go_enter Tryz.func53, Tryz.ntmps53
    go_wp2
    go_ret2
    exact ⟨rfl, Below.refl _ _⟩
  rw [if_neg (by rintro (h | h); · exact c1 h
                 · exact c2 h), if_neg c3, if_neg c4, if_neg c5]
  have b1 : ((x.toNat : Int) == 34) = false := byte_ne (n := 34) (by decide) c1
  have b2 : ((x.toNat : Int) == 92) = false := byte_ne (n := 92) (by decide) c2
  have b3 : ((x.toNat : Int) == 110) = false := byte_ne (n := 110) (by decide) c3
  have b4 : ((x.toNat : Int) == 114) = false := byte_ne (n := 114) (by decide) c4
  have b5 : ((x.toNat : Int) == 116) = false := byte_ne (n := 116) (by decide) c5
  have b6 : ((x.toNat : Int) == 120) = false := byte_ne (n := 120) (by decide) hX
  have b7 : ((x.toNat : Int) == 117) = false := byte_ne (n := 117) (by decide) hu
  clear c1 c2 c3 c4 c5 hX hu
  go_enter Tryz.func53, Tryz.ntmps53
  go_wp2
  go_ret2
  exact ⟨rfl, Below.refl _ _⟩
end Go.Proofs.YtmhemahkcbgaoaaGreatDoor
/- A quoted text, by the reference; Unquote, by both. -/
namespace Go.Proofs.YtmhemahkcbgaoaaGreatDoor
set_option linter.unusedVariables false
set_option linter.unusedSimpArgs false
open Go.RowKit
open Go.Lib hiding intOf
set_option maxHeartbeats 4000000 in
set_option maxRecDepth 100000 in
theorem quotedR (w : World) (l : List UInt8) (hm : l.length ≤ 1048576) :
    Calls Tryz.prog 32 #[.string (bstr l)] w fun e w' => e = .returned (.tuple #[.string (bstr (quotedOf l).1), .int .i64 ((quotedOf l).2.1 : Int), .bool (quotedOf l).2.2]) ∧ Below w.heap.size w w' := by
  obtain ⟨n, hn⟩ : ∃ n, n = l.length := ⟨_, rfl⟩
  have hsz : (bstr l).size = n := by rw [bstr_size, hn]
  rw [← hn] at hm
  have HN := Lib.hid hn
  have hO0 : OwnB w.heap.size (.slice none 0 0) [] w := World.ownsRow_nil _ _ _ _
  clear hn
  go_enter Tryz.func32, Tryz.ntmps32
  go_wp2
  go_loopw [5, 6] (fun rv iv wr => ∃ (i f : Nat) (acc : List UInt8), iv = .int .i64 (i : Int) ∧ i ≤ n + 1 ∧ acc.length ≤ 8 * i ∧ Hid (OwnB w.heap.size rv acc wr ∧ Below w.heap.size w wr ∧ unq l f i acc = quotedOf l ∧ 1 ≤ i ∧ n + 2 < i + f + 1)) (fun _ iv _ => n + 1 - (RowKit.intOf iv).toNat)
  case atStart => exact ⟨1, l.length + 1, [], rfl, by omega, by simp, Lib.hid ⟨hO0, Below.refl _ _, rfl, by omega, by rw [← HN.out]; omega⟩⟩
  case round =>
    obtain ⟨i, f, acc, rfl, hi2, hac, HH⟩ := hrel
    obtain ⟨rv, rfl⟩ : ∃ v : Value, v = u5 := ⟨_, rfl⟩
    clear hO0
    obtain ⟨f, rfl⟩ : ∃ g, f = g + 1 := ⟨f - 1, by have := HH.out.2.2.2.2; omega⟩
    have hb := HH.out.2.1
    have hBr := hb.size
    have hO := HH.out.1
    have hq := HH.out.2.2.1
    by_cases hlt : i < n
    · have hkl : i < l.length := by rw [← HN.out]; exact hlt
      obtain ⟨x, hx⟩ := some_at hkl
      have ii : i < (bstr l).size := by rw [hsz]; exact hlt
      have hxa : (bstr l)[i]'ii = x := bstr_at hx _
      obtain ⟨D, hD⟩ : ∃ D, l.drop i = D := ⟨_, rfl⟩
      have hDn : D ≠ [] := by rw [← hD]; intro e; have := congrArg List.length e; simp at this; omega
      have hDl : D.length = n - i := by rw [← hD, List.length_drop, ← HN.out]
      have hsl : D.take (n - i) = D := List.take_of_length_le (by omega)
      have hx0 : D[0]? = some x := by rw [← hD, List.getElem?_drop, Nat.add_zero]; exact hx
      by_cases c1 : x = 34
      · subst c1
        rw [unq_quote hx] at hq
        have HQ := Lib.hid hq
        have hcv := conv_own hO
        obtain ⟨aa, cc, hpv, _, _, _⟩ := reads_of_own hO
        rw [hpv] at hcv
        clear hq hx hx0 hDn hO
        subst hpv
        go_wp2
        go_ret3
        rw [← HQ.out]
        exact ⟨rfl, hb⟩
      have b0 : ((x.toNat : Int) == 34) = false := byte_ne (n := 34) (by decide) c1
      have b1 : ((x.toNat : Int) != 34) = true := by rw [bne, b0]; rfl
      by_cases c2 : x = 92
      · subst c2
        rw [unq_esc hx, hD] at hq
        have hle := esc_le D
        have hC := escapeR wr D (by omega) hx0
        obtain ⟨E1, hE1⟩ : ∃ E, (escOf D).1 = E := ⟨_, rfl⟩
        obtain ⟨E2, hE2⟩ : ∃ E, (escOf D).2 = E := ⟨_, rfl⟩
        rw [hE1, hE2] at hle hC
        rw [hE1, hE2] at hq
        have HC := Lib.hid hC
        have HO := Lib.hid hO
        by_cases hz : E2 = 0
        · subst hz
          rw [if_pos rfl] at hq
          have HQ := Lib.hid hq
          clear hq hx hx0 hC hE1 hE2 hle hDn c1 hO
          go_wp2_with (go_at_call 53; refine (HC.out).mono ?_; rintro e w' ⟨rfl, hb2⟩)
          go_ret3
          rw [← HQ.out]
          exact ⟨rfl, hb.trans (hb2.mono hBr)⟩
        · rw [if_neg hz] at hq
          have HQ := Lib.hid hq
          have hz2 : ((E2 : Int) == 0) = false := by rw [beq_eq_false_iff_ne]; omega
          have hE1l : E1.length ≤ 4 := hle.2
          have hE2l : E2 ≤ n - i := by rw [← hDl]; exact hle.1
          have hE2p : 0 < E2 := Nat.pos_of_ne_zero hz
          clear hq hx hx0 hC hE1 hE2 hle hz hDn c1 hO
          go_wp2_with (first
            | (go_at_call 53; refine (HC.out).mono ?_; rintro e w2 ⟨rfl, hb2⟩; have hO2 := OwnB.below HO.out hb2; have hB2 := Nat.le_trans hBr hb2.size; have hb2' := hb.trans (hb2.mono hBr))
            | (at_builtin; refine appStr rfl _ _ rfl w.heap.size w _ acc E1 rfl hO2 rfl (by omega) (by omega) hb2' hB2 ?_; intro v3 w3 hO3 hb3 hB3))
          have HNX : Hid (OwnB w.heap.size v3 (acc ++ E1) w3 ∧ Below w.heap.size w w3 ∧ unq l f (i + E2) (acc ++ E1) = quotedOf l ∧ 1 ≤ i + E2 ∧ n + 2 < i + E2 + f + 1) := Lib.hid ⟨hO3, hb3, HQ.out, by omega, by have := HH.out.2.2.2.2; omega⟩
          clear hO3 hb3 hB3
          go_roundw
          case rel => exact ⟨i + E2, f, acc ++ E1, by go_num, by omega, by rw [List.length_append]; omega, HNX⟩
          case measure => simp [RowKit.intOf]; omega
      have b2 : ((x.toNat : Int) == 92) = false := byte_ne (n := 92) (by decide) c2
      rw [unq_char hx c1 c2, hD] at hq
      have hF := charR wr D hDn (by omega)
      have hKl := dec_width hDn
      have hK1 := dec_width_one (l := D)
      have hK4 := dec_width_four (l := D)
      have HO := Lib.hid hO
      by_cases hr : RightD (decodeL D)
      · rw [decide_eq_true hr] at hF
        obtain ⟨R, hR⟩ : ∃ R, (decodeL D).1 = R := ⟨_, rfl⟩
        obtain ⟨K, hK⟩ : ∃ K, (decodeL D).2 = K := ⟨_, rfl⟩
        rw [hR, hK] at hF hq
        rw [hK] at hKl hK1 hK4
        have HF := Lib.hid hF
        by_cases hp : PlainN R
        · rw [if_pos ⟨hr, hp⟩] at hq
          have hP := fun w1 => decide_eq_true hp ▸ plainR w1 R
          have HP := Lib.hid hP
          obtain ⟨S, hS⟩ : ∃ S, D.take K = S := ⟨_, rfl⟩
          have hS2 : D.take (i + K - i) = S := by rw [← hS]; congr 1; omega
          have hSl : S.length ≤ 4 := by rw [← hS, List.length_take]; omega
          have hKn : K ≤ n - i := by rw [← hDl]; exact hKl
          rw [hS] at hq
          have HQ := Lib.hid hq
          clear hq hx hx0 hF hR hK hP hr hp c1 c2 hDn hO hKl
          go_wp2_with (first
            | (go_at_call 42; refine (HF.out).mono ?_; rintro e w2 ⟨rfl, hb2⟩; have hO2 := OwnB.below HO.out hb2; have hB2 := Nat.le_trans hBr hb2.size; have hb2' := hb.trans (hb2.mono hBr))
            | (go_at_call 44; refine (HP.out _).mono ?_; rintro e wq ⟨rfl, hwq⟩; obtain rfl := hwq.symm)
            | (at_builtin; refine appStr rfl _ _ rfl w.heap.size w _ acc S rfl hO2 (congrArg (fun z => Value.string (bstr z)) hS2) (by omega) (by omega) hb2' hB2 ?_; intro v3 w3 hO3 hb3 hB3))
          have HNX : Hid (OwnB w.heap.size v3 (acc ++ S) w3 ∧ Below w.heap.size w w3 ∧ unq l f (i + K) (acc ++ S) = quotedOf l ∧ 1 ≤ i + K ∧ n + 2 < i + K + f + 1) := Lib.hid ⟨hO3, hb3, HQ.out, by omega, by have := HH.out.2.2.2.2; omega⟩
          clear hO3 hb3 hB3
          go_roundw
          case rel => exact ⟨i + K, f, acc ++ S, by go_num, by omega, by rw [List.length_append]; omega, HNX⟩
          case measure => simp [RowKit.intOf]; omega
        · rw [if_neg (fun h => hp h.2)] at hq
          have HQ := Lib.hid hq
          have hP := fun w1 => decide_eq_false hp ▸ plainR w1 R
          have HP := Lib.hid hP
          clear hq hx hx0 hF hR hK hP hr hp c1 c2 hKl hK1 hK4 hDn hO
          go_wp2_with (first
            | (go_at_call 42; refine (HF.out).mono ?_; rintro e w2 ⟨rfl, hb2⟩)
            | (go_at_call 44; refine (HP.out _).mono ?_; rintro e wq ⟨rfl, hwq⟩; obtain rfl := hwq.symm))
          go_ret3
          rw [← HQ.out]
          exact ⟨rfl, hb.trans (hb2.mono hBr)⟩
      · rw [decide_eq_false hr] at hF
        rw [if_neg (fun h => hr h.1)] at hq
        obtain ⟨R, hR⟩ : ∃ R, (decodeL D).1 = R := ⟨_, rfl⟩
        obtain ⟨K, hK⟩ : ∃ K, (decodeL D).2 = K := ⟨_, rfl⟩
        rw [hR, hK] at hF
        have HF := Lib.hid hF
        have HQ := Lib.hid hq
        clear hq hx hx0 hF hR hK hr c1 c2 hKl hK1 hK4 hDn hO
        go_wp2_with (go_at_call 42; refine (HF.out).mono ?_; rintro e w2 ⟨rfl, hb2⟩)
        go_ret3
        rw [← HQ.out]
        exact ⟨rfl, hb.trans (hb2.mono hBr)⟩
    · rw [unq_end (by rw [← HN.out]; omega)] at hq
      have HQ := Lib.hid hq
      clear hq hO
      go_wp2
      go_ret3
      rw [← HQ.out, ← HN.out]
      exact ⟨rfl, hb⟩
end Go.Proofs.YtmhemahkcbgaoaaGreatDoor
