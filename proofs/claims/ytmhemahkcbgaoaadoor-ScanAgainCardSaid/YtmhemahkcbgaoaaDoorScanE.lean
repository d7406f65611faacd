/- What is escaped, by the program. -/
import Derived.Test.YtmhemahkcbgaoaaDoorScanD
namespace Go.Proofs.YtmhemahkcbgaoaaDoor
set_option linter.unusedVariables false
set_option linter.unusedSimpArgs false
open Go.RowKit
open Go.Lib hiding intOf
theorem index_cases (l : List UInt8) (c : UInt8) : indexByte l c = -1 ∨ ∃ e : Nat, indexByte l c = (e : Int) ∧ e < l.length ∧ l[e]? = some c := by
  have h := indexByte_ge l c
  by_cases h0 : indexByte l c < 0
  · left; omega
  · right
    obtain ⟨e, he⟩ := Int.eq_ofNat_of_zero_le (Int.not_lt.1 h0)
    have := indexByte_some he
    exact ⟨e, he, (List.getElem?_eq_some_iff.1 this.1).1, this.1⟩
def hexB (k : Nat) : Nat := 16 ^ (k - 3)
theorem hexB_step {k m d : Nat} (hk : 3 ≤ k) (h : m < hexB k) (hd : d < 16) : 16 * m + d < hexB (k + 1) := by
  unfold hexB at *
  rw [show k + 1 - 3 = (k - 3) + 1 by omega, Nat.pow_succ]
  omega
theorem hexB_le {k m : Nat} (hk : k ≤ 9) (h : m < hexB k) : m < 16777216 := by
  unfold hexB at h
  have : 16 ^ (k - 3) ≤ 16 ^ 6 := Nat.pow_le_pow_right (by omega) (by omega)
  have h6 : (16 : Nat) ^ 6 = 16777216 := by decide
  omega
theorem rune_cases (m : Nat) : (1114111 < m ∧ (1114111 < m ∨ 55296 ≤ m ∧ m ≤ 57343)) ∨ (55296 ≤ m ∧ m ≤ 57343 ∧ (1114111 < m ∨ 55296 ≤ m ∧ m ≤ 57343)) ∨ (m < 55296 ∧ ¬ (1114111 < m ∨ 55296 ≤ m ∧ m ≤ 57343)) ∨ (57343 < m ∧ m ≤ 1114111 ∧ ¬ (1114111 < m ∨ 55296 ≤ m ∧ m ≤ 57343)) := by omega
theorem piece_at {l : List UInt8} {k e : Nat} {y : UInt8} (hy : l[k]? = some y) (h : k < e) : (l.drop k).take (e - k) = y :: (l.drop (k + 1)).take (e - (k + 1)) := by
  rw [drop_at hy]
  obtain ⟨d, rfl⟩ : ∃ d, e = k + 1 + d := ⟨e - (k + 1), by omega⟩
  rw [show k + 1 + d - k = d + 1 by omega, show k + 1 + d - (k + 1) = d by omega, List.take_succ_cons]
set_option maxHeartbeats 4000000 in
set_option maxRecDepth 100000 in
theorem escapedU (w : World) (l : List UInt8) (hm : l.length ≤ 140737488355328) (h2 : 2 ≤ l.length) (hx1 : l[1]? = some 117) :
    Calls Tryd.prog 57 #[.string (bstr l)] w fun e w' => e = .returned (.tuple #[.string (bstr (escOf l).1), .int .i64 ((escOf l).2 : Int)]) ∧ Below w.heap.size w w' := by
  obtain ⟨n, hn⟩ : ∃ n, n = l.length := ⟨_, rfl⟩
  have hsz : (bstr l).size = n := by rw [bstr_size, hn]
  have h2n : ¬ l.length < 2 := by omega
  rw [← hn] at hm h2
  have i1 : 1 < (bstr l).size := by rw [hsz]; omega
  have ha1 : (bstr l)[1]'i1 = 117 := bstr_at hx1 _
  have hE : escOf l = bracedOf l := by
    unfold escOf
    simp only [List.getD_eq_getElem?_getD, hx1, Option.getD_some]
    rw [if_neg h2n, if_neg (by decide), if_neg (by decide), if_neg (by decide), if_neg (by decide), if_neg (by decide), if_pos (by decide)]
  rw [hE]
  have hI : ∀ w, Calls Tryd.prog 75 #[.string (bstr l), .int .u8 125] w fun e w' => e = .returned (.int .i64 (indexByte l 125)) ∧ w' = w := fun w => Tryd.strings_IndexByte (bstr l) 125 w
  by_cases h3 : n < 3
  · have hB : bracedOf l = ([], 0) := by unfold bracedOf; rw [if_pos (.inl (by omega))]
    rw [hB]
    have HI := Lib.hid hI
    clear hI hB hE hx1
    go_enter Tryd.func57, Tryd.ntmps57
    go_wp2_with (go_at_call 75; refine (HI.out _).mono ?_; rintro e w' ⟨rfl, rfl⟩)
    all_goals go_ret2
    all_goals exact ⟨rfl, Below.refl _ _⟩
  obtain ⟨c, hc⟩ := some_at (l := l) (k := 2) (by omega)
  have i2 : 2 < (bstr l).size := by rw [hsz]; omega
  have ha2 : (bstr l)[2]'i2 = c := bstr_at hc _
  have hg2 : l.getD 2 0 = c := by rw [List.getD_eq_getElem?_getD, hc]; rfl
  by_cases hc3 : ¬ c = 123
  · have hB : bracedOf l = ([], 0) := by unfold bracedOf; rw [if_pos (.inr (.inl (by rw [hg2]; exact hc3)))]
    rw [hB]
    have HI := Lib.hid hI
    have hcb : ((c.toNat : Int) != 123) = true := by
      rw [bne_iff_ne]; intro e; exact hc3 (UInt8.toNat_inj.1 (by simpa using (by omega : c.toNat = 123)))
    clear hI hB hE hx1 hc hg2 hc3
    go_enter Tryd.func57, Tryd.ntmps57
    go_wp2_with (go_at_call 75; refine (HI.out _).mono ?_; rintro e w' ⟨rfl, rfl⟩)
    all_goals go_ret2
    all_goals exact ⟨rfl, Below.refl _ _⟩
  obtain rfl : c = 123 := Decidable.not_not.1 hc3
  have hl3 : ¬ l.length < 3 := by omega
  by_cases hbad : indexByte l 125 < 4 ∨ 9 < indexByte l 125
  · have hB : bracedOf l = ([], 0) := by unfold bracedOf; rw [if_pos (.inr (.inr hbad))]
    rw [hB]
    obtain ⟨z, hz⟩ : ∃ z, indexByte l 125 = z := ⟨_, rfl⟩
    rw [hz] at hbad
    have HI := Lib.hid (fun w => hz ▸ hI w)
    clear hI hB hE hx1 hc hg2 hz
    go_enter Tryd.func57, Tryd.ntmps57
    go_wp2_with (go_at_call 75; refine (HI.out _).mono ?_; rintro e w' ⟨rfl, rfl⟩)
    all_goals try (exfalso; omega)
    all_goals go_ret2
    all_goals exact ⟨rfl, Below.refl _ _⟩
  rcases index_cases l 125 with hneg | ⟨e, he, hel, hle⟩
  · exfalso; omega
  rw [he] at hbad
  have he4 : 4 ≤ e := by omega
  have he9 : e ≤ 9 := by omega
  have hen : e < n := by omega
  have hB : bracedOf l = match hexGo ((l.drop 3).take (e - 3)) 0 with
    | none => ([], 0)
    | some n => if 1114111 < n ∨ 55296 ≤ n ∧ n ≤ 57343 then ([], 0) else (encodeRune n, e + 1) := by
    unfold bracedOf
    rw [hg2, he, if_neg (by rintro (h | h | h | h); · exact hl3 h
                            · exact h rfl
                            · omega
                            · omega)]
    rfl
  have HI := Lib.hid (fun w => he ▸ hI w)
  have HB := Lib.hid hB
  have HN := Lib.hid hn
  clear hI hB hE hx1 hc hg2 hbad hl3 h2n hle hel hn he
  go_enter Tryd.func57, Tryd.ntmps57
  go_wp2_with (go_at_call 75; refine (HI.out _).mono ?_; rintro e w' ⟨rfl, hww⟩; obtain rfl := hww.symm)
  go_loopw [7, 8] (fun nv iv wr => ∃ k m : Nat, 3 ≤ k ∧ k ≤ e ∧ nv = .int .i64 (m : Int) ∧ iv = .int .i64 (k : Int) ∧ m < hexB k ∧ hexGo ((l.drop k).take (e - k)) m = hexGo ((l.drop 3).take (e - 3)) 0 ∧ wr = w) (fun _ iv _ => e - (RowKit.intOf iv).toNat)
  case atStart => exact ⟨3, 0, by omega, by omega, rfl, rfl, by decide, rfl, rfl⟩
  case round =>
    obtain ⟨k, m, hk3, hke, rfl, rfl, pb, hgo, rfl⟩ := hrel
    have hmb := hexB_le (by omega) pb
    have PB := Lib.hid pb
    clear pb
    by_cases hlt : k < e
    · obtain ⟨y, hy⟩ := some_at (l := l) (k := k) (by rw [← HN.out]; omega)
      have ik : k < (bstr l).size := by rw [hsz]; omega
      have hya : (bstr l)[k]'ik = y := bstr_at hy _
      rw [piece_at hy hlt, hexGo] at hgo
      by_cases hd : 15 < digit16 y
      · rw [if_pos hd] at hgo
        have hyI : hexI y = -1 := by unfold hexI; rw [if_neg (by omega)]
        have HY := Lib.hid (fun w => hyI ▸ hexIdx w y)
        have HGO := Lib.hid hgo
        clear hgo hy hyI
        go_wp2_with (go_at_call 75; refine (HY.out _).mono ?_; rintro e w' ⟨rfl, rfl⟩)
        all_goals go_ret2
        all_goals (rw [HB.out, ← HGO.out]; exact ⟨rfl, Below.refl _ _⟩)
      · rw [if_neg hd] at hgo
        obtain ⟨d, hde⟩ : ∃ d, digit16 y = d := ⟨_, rfl⟩
        rw [hde] at hgo hd
        have hyI : hexI y = (d : Int) := by unfold hexI; rw [hde, if_pos (by omega)]
        have hor := or64 (by omega : m < 2 ^ 40) (by omega : d < 16)
        have HY := Lib.hid (fun w => hyI ▸ hexIdx w y)
        have HGO := Lib.hid hgo
        clear hgo hy hyI hde
        go_wp2_with (go_at_call 75; refine (HY.out _).mono ?_; rintro e w' ⟨rfl, rfl⟩)
        go_roundw
        case rel => exact ⟨k + 1, 16 * m + d, by omega, by omega, by go_num, by go_num, hexB_step hk3 PB.out (by omega), HGO.out, trivial⟩
        case measure => simp [RowKit.intOf]; omega
    · obtain rfl : k = e := by omega
      have hgo2 : hexGo ((l.drop 3).take (k - 3)) 0 = some m := by rw [← hgo, Nat.sub_self, List.take_zero]; rfl
      have HB2 := HB.out
      rw [hgo2] at HB2
      have HC := Lib.hid HB2
      clear hgo hgo2 HB HB2
      rcases rune_cases m with ⟨c1, hbad⟩ | ⟨c1, c2, hbad⟩ | ⟨c1, hbad⟩ | ⟨c1, c2, hbad⟩
      · have HBAD := Lib.hid hbad
        clear hbad
        go_wp2
        all_goals go_ret2
        all_goals (rw [HC.out]; simp only [if_pos HBAD.out]; exact ⟨rfl, Below.refl _ _⟩)
      · have HBAD := Lib.hid hbad
        clear hbad
        go_wp2
        all_goals go_ret2
        all_goals (rw [HC.out]; simp only [if_pos HBAD.out]; exact ⟨rfl, Below.refl _ _⟩)
      · have HBAD := Lib.hid hbad
        have hm1 : m ≤ 1114111 := by omega
        have hE := encodeC (wr.alloc (.cells #[.int .i32 (m : Int)] 21)) wr.heap.size m hm1 (by simp) (by simp)
        have HEc := Lib.hid hE
        clear hE hbad
        go_wp2_with (go_at_call 76; refine (HEc.out).mono ?_; rintro e w' ⟨rfl, hb⟩)
        all_goals go_ret2
        all_goals (rw [HC.out]; simp only [if_neg HBAD.out]; refine ⟨rfl, ?_⟩)
        all_goals exact ((Below.refl _ wr).alloc (Nat.le_refl _) _).trans (hb.mono (by simp))
      · have HBAD := Lib.hid hbad
        have hm1 : m ≤ 1114111 := by omega
        have hE := encodeC (wr.alloc (.cells #[.int .i32 (m : Int)] 21)) wr.heap.size m hm1 (by simp) (by simp)
        have HEc := Lib.hid hE
        clear hE hbad
        go_wp2_with (go_at_call 76; refine (HEc.out).mono ?_; rintro e w' ⟨rfl, hb⟩)
        all_goals go_ret2
        all_goals (rw [HC.out]; simp only [if_neg HBAD.out]; refine ⟨rfl, ?_⟩)
        all_goals exact ((Below.refl _ wr).alloc (Nat.le_refl _) _).trans (hb.mono (by simp))
end Go.Proofs.YtmhemahkcbgaoaaDoor
