/- Texts joined, one behind the other (ScanH). -/
import Derived.Test.YtmhemahkcbgaoaaGreatDoorKn04
/- The quoted form of bytes, by the program. -/
namespace Go.Proofs.YtmhemahkcbgaoaaGreatDoor
set_option linter.unusedVariables false
set_option linter.unusedSimpArgs false
open Go.RowKit
open Go.Lib hiding intOf
/-- a builder that holds these bytes -/
def IsB (B : Nat) (acc : List UInt8) (w : World) : Prop := Lib.IsBuilderF 66 5 B B (Lib.byteCells acc) w
theorem IsB.below {B : Nat} {acc : List UInt8} {w w' : World} (h : IsB B acc w) (b : Below w.heap.size w w') : IsB B acc w' := builder_below h b
theorem isB_fresh (w : World) : IsB w.heap.size [] (w.alloc (.cells #[.pointer none, .slice none 0 0] 66)) := Lib.IsBuilderF.of (Lib.fresh_isBuilder _ _ w)
theorem writeByteC (B : Nat) (acc : List UInt8) (x : UInt8) (w : World) (h : IsB B acc w) (hl : acc.length ≤ 1099511627776) (hB : B ≤ w.heap.size) :
    Calls Tryz.prog 36 #[.pointer (some ⟨B, 0, none⟩), .int .u8 (x.toNat : Int)] w fun e w' => e = .returned .nilIface ∧ IsB B (acc ++ [x]) w' ∧ Below B w w' := by
  refine (Tryz.Builder_WriteByte_k B B _ (x.toNat : Int) w h (by rw [Lib.byteCells_length]; omega) hB).mono ?_
  rintro e w' ⟨rfl, h1, b1, _⟩
  exact ⟨rfl, by unfold IsB; rw [Lib.byteCells_append]; exact Or.inr h1, b1⟩
theorem writeStrC (B : Nat) (acc s : List UInt8) (w : World) (h : IsB B acc w) (hl : acc.length ≤ 1099511627776) (hs : s.length ≤ 1099511627776) (hB : B ≤ w.heap.size) :
    Calls Tryz.prog 38 #[.pointer (some ⟨B, 0, none⟩), .string (bstr s)] w fun e w' => e = .returned (.tuple #[.int .i64 (s.length : Int), .nilIface]) ∧ IsB B (acc ++ s) w' ∧ Below B w w' := by
  refine (Tryz.Builder_WriteString_k B B _ (bstr s) w h (by rw [Lib.byteCells_length, bstr_size]; omega) hB).mono ?_
  rintro e w' ⟨rfl, h1, b1, _⟩
  exact ⟨by rw [bstr_size], by unfold IsB; rw [Lib.byteCells_append]; exact Or.inr h1, b1⟩
theorem stringC (B : Nat) (acc : List UInt8) (w : World) (h : IsB B acc w) (hB : B ≤ w.heap.size) :
    Calls Tryz.prog 41 #[.pointer (some ⟨B, 0, none⟩)] w fun e w' => e = .returned (.string (bstr acc)) ∧ Below B w w' := by
  refine (Tryz.Builder_String_any_k B B acc w h hB).mono ?_
  rintro e w' ⟨rfl, _, b1, _⟩
  exact ⟨rfl, b1⟩
theorem piece_len (l : List UInt8) : (qpiece l).length ≤ 8 := by
  unfold qpiece hexOf
  have h4 := dec_width_four (l := l)
  repeat' split
  all_goals (try simp)
  all_goals omega
theorem quo_end {l : List UInt8} {f i : Nat} (h : l.length ≤ i) : quo l f i = [] := by
  cases f with
  | zero => rfl
  | succ f => rw [quo, if_pos h]
theorem quo_step {l : List UInt8} {f i : Nat} (h : i < l.length) : quo l (f + 1) i = qpiece (l.drop i) ++ quo l f (i + (decodeL (l.drop i)).2) := by
  rw [quo, if_neg (by omega)]
theorem and15_all : ∀ n : Fin 256, bits .and .u8 (n.val : Int) 15 = ((n.val % 16 : Nat) : Int) := by decide +kernel
theorem and15_8 (x : UInt8) : bits .and .u8 (x.toNat : Int) 15 = ((x.toNat % 16 : Nat) : Int) := and15_all ⟨x.toNat, x.toNat_lt⟩
def digitsB : ByteArray := ⟨#[48, 49, 50, 51, 52, 53, 54, 55, 56, 57, 97, 98, 99, 100, 101, 102]⟩
theorem hexc_all : ∀ p : Fin 16, digitsB.data[p.val]'(p.isLt) = hexc p.val := by decide +kernel
/-- the ten ways of a character's quoted form -/
theorem qcase (D : List UInt8) (hD : D ≠ []) (R K : Nat) (x : UInt8) (hR : (decodeL D).1 = R) (hK : (decodeL D).2 = K) (hx : D.getD 0 0 = x) :
    (R = 34 ∧ x = 34 ∧ qpiece D = [92, 34]) ∨ (R = 92 ∧ x = 92 ∧ qpiece D = [92, 92]) ∨ (R = 10 ∧ qpiece D = [92, 110]) ∨ (R = 13 ∧ qpiece D = [92, 114]) ∨ (R = 9 ∧ qpiece D = [92, 116]) ∨
    (R = 65533 ∧ decide (RightD (decodeL D)) = false ∧ qpiece D = [92, 120, hexc (x.toNat / 16), hexc (x.toNat % 16)]) ∨
    (R < 32 ∧ R ≠ 10 ∧ R ≠ 13 ∧ R ≠ 9 ∧ decide (RightD (decodeL D)) = true ∧ qpiece D = [92, 120, hexc (x.toNat / 16), hexc (x.toNat % 16)]) ∨
    (R = 127 ∧ decide (RightD (decodeL D)) = true ∧ qpiece D = [92, 120, hexc (x.toNat / 16), hexc (x.toNat % 16)]) ∨
    ((R = 133 ∨ R = 8232 ∨ R = 8233) ∧ decide (RightD (decodeL D)) = true ∧ qpiece D = [92, 117, 123] ++ hexOf R ++ [125]) ∨
    (PlainN R ∧ decide (RightD (decodeL D)) = true ∧ qpiece D = D.take K) := by
  have hb : R < 128 → x.toNat = R := by
    intro h
    have := (dec_fst_byte hD (by rw [hR]; exact h)).2
    rw [hx, hR] at this
    exact this
  unfold qpiece
  rw [hR, hK, hx]
  by_cases c1 : R = 34
  · left
    have hx34 : x = 34 := UInt8.toNat_inj.1 (by rw [hb (by omega), c1]; rfl)
    exact ⟨c1, hx34, by rw [if_pos (.inl c1), hx34]⟩
  by_cases c2 : R = 92
  · right; left
    have hx92 : x = 92 := UInt8.toNat_inj.1 (by rw [hb (by omega), c2]; rfl)
    exact ⟨c2, hx92, by rw [if_pos (.inr c2), hx92]⟩
  rw [if_neg (by omega)]
  by_cases c3 : R = 10
  · right; right; left; exact ⟨c3, by rw [if_pos c3]⟩
  by_cases c4 : R = 13
  · right; right; right; left; exact ⟨c4, by rw [if_neg c3, if_pos c4]⟩
  by_cases c5 : R = 9
  · right; right; right; right; left; exact ⟨c5, by rw [if_neg c3, if_neg c4, if_pos c5]⟩
  rw [if_neg c3, if_neg c4, if_neg c5]
  by_cases c6 : RightD (decodeL D)
  · by_cases c7 : R < 32
    · right; right; right; right; right; right; left
      exact ⟨c7, c3, c4, c5, decide_eq_true c6, by rw [if_pos (.inr (.inl c7))]⟩
    by_cases c8 : R = 127
    · right; right; right; right; right; right; right; left
      exact ⟨c8, decide_eq_true c6, by rw [if_pos (.inr (.inr c8))]⟩
    rw [if_neg (by rintro (h | h | h); · exact h c6
                   · exact c7 h
                   · exact c8 h)]
    by_cases c9 : PlainN R
    · right; right; right; right; right; right; right; right; right
      exact ⟨c9, decide_eq_true c6, by rw [if_neg (fun h => h c9)]⟩
    · right; right; right; right; right; right; right; right; left
      refine ⟨?_, decide_eq_true c6, by rw [if_pos c9]⟩
      unfold PlainN at c9
      omega
  · right; right; right; right; right; left
    refine ⟨?_, decide_eq_false c6, by rw [if_pos (.inl c6)]⟩
    unfold RightD at c6
    rw [hR] at c6
    omega
theorem nat_ne {a : Nat} {b : Nat} (h : a ≠ b) : ((a : Int) == (b : Int)) = false := by rw [beq_eq_false_iff_ne]; omega
/-- how the walk of a round goes on behind the first character -/
theorem head_at {l D : List UInt8} {i : Nat} {x : UInt8} (hx : l[i]? = some x) (hD : l.drop i = D) : D.getD 0 0 = x := by
  rw [← hD, drop_at hx]; rfl
set_option maxHeartbeats 4000000 in
set_option maxRecDepth 100000 in
theorem quoteC (w : World) (l : List UInt8) (hm : l.length ≤ 1048576) (hT : Tabs w) :
    Calls Tryz.prog 18 #[.string (bstr l)] w fun e w' => e = .returned (.string (bstr (quoteOf l))) ∧ Below w.heap.size w w' := by
  obtain ⟨n, hn⟩ : ∃ n, n = l.length := ⟨_, rfl⟩
  have hsz : (bstr l).size = n := by rw [bstr_size, hn]
  rw [← hn] at hm
  have HN := Lib.hid hn
  clear hn
  have hB0 := isB_fresh w
  have hb0 : Below w.heap.size w (w.alloc (.cells #[.pointer none, .slice none 0 0] 66)) := (Below.refl _ w).alloc (Nat.le_refl _) _
  have HW := Lib.hid (writeByteC w.heap.size [] 34 _ hB0 (by simp) hb0.size)
  go_enter Tryz.func18, Tryz.ntmps18
  go_wp2_with (go_at_call 36; refine (HW.out).mono ?_; rintro e w1 ⟨rfl, hB1, hb1⟩)
  go_loopw [4] (fun iv wr => ∃ (i f : Nat) (acc : List UInt8), iv = .int .i64 (i : Int) ∧ IsB w.heap.size acc wr ∧ Below w.heap.size w wr ∧ acc ++ quo l f i = 34 :: quo l (l.length + 1) 0 ∧ i ≤ n ∧ n < i + f ∧ acc.length ≤ 1 + 8 * i) (fun iv _ => n - (RowKit.intOf iv).toNat)
  case atStart => exact ⟨0, l.length + 1, [34], rfl, hB1, hb0.trans hb1, rfl, by omega, by rw [← HN.out]; omega, by simp⟩
  case round =>
    obtain ⟨i, f, acc, rfl, hI, hb, hq, hi, hif, hac⟩ := hrel
    have hBr := hb.size
    by_cases hlt : i < n
    · obtain ⟨f, rfl⟩ : ∃ g, f = g + 1 := ⟨f - 1, by omega⟩
      have hkl : i < l.length := by rw [← HN.out]; exact hlt
      obtain ⟨x, hx⟩ := some_at hkl
      have ii : i < (bstr l).size := by rw [hsz]; exact hlt
      have hxa : (bstr l)[i]'ii = x := bstr_at hx _
      obtain ⟨D, hD⟩ : ∃ D, l.drop i = D := ⟨_, rfl⟩
      have hDn : D ≠ [] := by rw [← hD]; intro e; have := congrArg List.length e; simp at this; omega
      have hDl : D.length = n - i := by rw [← hD, List.length_drop, ← HN.out]
      have hsl : D.take (n - i) = D := List.take_of_length_le (by omega)
      have hg := head_at hx hD
      rw [quo_step hkl, hD] at hq
      have hF := firstC wr D hDn (hT.below hb hT.size)
      have hKl := dec_width hDn
      have hK1 := dec_width_one (l := D)
      have hP8 := piece_len D
      obtain ⟨R, hR⟩ : ∃ R, (decodeL D).1 = R := ⟨_, rfl⟩
      obtain ⟨K, hK⟩ : ∃ K, (decodeL D).2 = K := ⟨_, rfl⟩
      have hK4 := dec_width_four (l := D)
      have hqc := qcase D hDn R K x hR hK hg
      obtain ⟨rb, hrb⟩ : ∃ b, decide (RightD (decodeL D)) = b := ⟨_, rfl⟩
      rw [hR, hK, hrb] at hF
      rw [hK] at hKl hK1 hq hK4
      rw [hDl] at hKl
      have HI := Lib.hid hI
      have HF := Lib.hid hF
      rcases hqc with ⟨hR0, hx0, hqp⟩ | ⟨hR0, hx0, hqp⟩ | ⟨hR0, hqp⟩ | ⟨hR0, hqp⟩ | ⟨hR0, hqp⟩ | ⟨hR0, hr0, hqp⟩ | ⟨hR0, c3, c4, c5, hr0, hqp⟩ | ⟨hR0, hr0, hqp⟩ | ⟨hR0 | hR0 | hR0, hr0, hqp⟩ | ⟨hR0, hr0, hqp⟩
      · obtain rfl := hR0
        obtain rfl := hx0
        rw [hqp] at hq hP8
        have HQ := Lib.hid hq
        clear hq hF hx hg hI hR hK hqp hkl
        go_wp2_with (first | (go_at_call 37; refine (HF.out).mono ?_; rintro e w2 ⟨rfl, hb2⟩; have hI2 := HI.out.below hb2; have hB2 := Nat.le_trans hBr hb2.size) | (go_at_call 36; (with_reducible show Calls _ _ _ w2 _); refine (writeByteC w.heap.size acc 92 w2 hI2 (by first | omega | (simp; omega)) hB2).mono ?_; rintro e w3 ⟨rfl, hI3, hb3⟩; have hB3 := Nat.le_trans hB2 hb3.size) | (go_at_call 36; (with_reducible show Calls _ _ _ w3 _); refine (writeByteC w.heap.size (acc ++ [92]) 34 w3 hI3 (by first | omega | (simp; omega)) hB3).mono ?_; rintro e w4 ⟨rfl, hI4, hb4⟩; have hB4 := Nat.le_trans hB3 hb4.size))
        go_roundw
        case rel => exact ⟨i + K, f, acc ++ [92, 34], by go_num, by first | exact hI4 | (simpa using hI4), ((hb.trans (hb2.mono hBr)).trans hb3).trans hb4, by rw [List.append_assoc]; exact HQ.out, by omega, by omega, by rw [List.length_append]; omega⟩
        case measure => simp [RowKit.intOf]; omega
      · obtain rfl := hR0
        obtain rfl := hx0
        rw [hqp] at hq hP8
        have HQ := Lib.hid hq
        clear hq hF hx hg hI hR hK hqp hkl
        go_wp2_with (first | (go_at_call 37; refine (HF.out).mono ?_; rintro e w2 ⟨rfl, hb2⟩; have hI2 := HI.out.below hb2; have hB2 := Nat.le_trans hBr hb2.size) | (go_at_call 36; (with_reducible show Calls _ _ _ w2 _); refine (writeByteC w.heap.size acc 92 w2 hI2 (by first | omega | (simp; omega)) hB2).mono ?_; rintro e w3 ⟨rfl, hI3, hb3⟩; have hB3 := Nat.le_trans hB2 hb3.size) | (go_at_call 36; (with_reducible show Calls _ _ _ w3 _); refine (writeByteC w.heap.size (acc ++ [92]) 92 w3 hI3 (by first | omega | (simp; omega)) hB3).mono ?_; rintro e w4 ⟨rfl, hI4, hb4⟩; have hB4 := Nat.le_trans hB3 hb4.size))
        go_roundw
        case rel => exact ⟨i + K, f, acc ++ [92, 92], by go_num, by first | exact hI4 | (simpa using hI4), ((hb.trans (hb2.mono hBr)).trans hb3).trans hb4, by rw [List.append_assoc]; exact HQ.out, by omega, by omega, by rw [List.length_append]; omega⟩
        case measure => simp [RowKit.intOf]; omega
      · obtain rfl := hR0
        rw [hqp] at hq hP8
        have HQ := Lib.hid hq
        clear hq hF hx hg hI hR hK hqp hkl
        go_wp2_with (first | (go_at_call 37; refine (HF.out).mono ?_; rintro e w2 ⟨rfl, hb2⟩; have hI2 := HI.out.below hb2; have hB2 := Nat.le_trans hBr hb2.size) | (go_at_call 38; (with_reducible show Calls _ _ _ w2 _); refine (writeStrC w.heap.size acc [92, 110] w2 hI2 (by first | omega | (simp; omega)) (by simp) hB2).mono ?_; rintro e w3 ⟨rfl, hI3, hb3⟩; have hB3 := Nat.le_trans hB2 hb3.size))
        go_roundw
        case rel => exact ⟨i + K, f, acc ++ [92, 110], by go_num, by first | exact hI3 | (simpa using hI3), (hb.trans (hb2.mono hBr)).trans hb3, by rw [List.append_assoc]; exact HQ.out, by omega, by omega, by rw [List.length_append]; omega⟩
        case measure => simp [RowKit.intOf]; omega
      · obtain rfl := hR0
        rw [hqp] at hq hP8
        have HQ := Lib.hid hq
        clear hq hF hx hg hI hR hK hqp hkl
        go_wp2_with (first | (go_at_call 37; refine (HF.out).mono ?_; rintro e w2 ⟨rfl, hb2⟩; have hI2 := HI.out.below hb2; have hB2 := Nat.le_trans hBr hb2.size) | (go_at_call 38; (with_reducible show Calls _ _ _ w2 _); refine (writeStrC w.heap.size acc [92, 114] w2 hI2 (by first | omega | (simp; omega)) (by simp) hB2).mono ?_; rintro e w3 ⟨rfl, hI3, hb3⟩; have hB3 := Nat.le_trans hB2 hb3.size))
        go_roundw
        case rel => exact ⟨i + K, f, acc ++ [92, 114], by go_num, by first | exact hI3 | (simpa using hI3), (hb.trans (hb2.mono hBr)).trans hb3, by rw [List.append_assoc]; exact HQ.out, by omega, by omega, by rw [List.length_append]; omega⟩
        case measure => simp [RowKit.intOf]; omega
      · obtain rfl := hR0
        rw [hqp] at hq hP8
        have HQ := Lib.hid hq
        clear hq hF hx hg hI hR hK hqp hkl
        go_wp2_with (first | (go_at_call 37; refine (HF.out).mono ?_; rintro e w2 ⟨rfl, hb2⟩; have hI2 := HI.out.below hb2; have hB2 := Nat.le_trans hBr hb2.size) | (go_at_call 38; (with_reducible show Calls _ _ _ w2 _); refine (writeStrC w.heap.size acc [92, 116] w2 hI2 (by first | omega | (simp; omega)) (by simp) hB2).mono ?_; rintro e w3 ⟨rfl, hI3, hb3⟩; have hB3 := Nat.le_trans hB2 hb3.size))
        go_roundw
        case rel => exact ⟨i + K, f, acc ++ [92, 116], by go_num, by first | exact hI3 | (simpa using hI3), (hb.trans (hb2.mono hBr)).trans hb3, by rw [List.append_assoc]; exact HQ.out, by omega, by omega, by rw [List.length_append]; omega⟩
        case measure => simp [RowKit.intOf]; omega
      · obtain rfl := hR0
        rw [hr0] at hrb
        obtain rfl := hrb
        have hxl := x.toNat_lt
        obtain ⟨p, hp⟩ : ∃ p, p = x.toNat / 16 := ⟨_, rfl⟩
        obtain ⟨q, hqq⟩ : ∃ q, q = x.toNat % 16 := ⟨_, rfl⟩
        have hp16 : p < 16 := by omega
        have hq16 : q < 16 := by omega
        have hpi : (x.toNat : Int) / 16 = (p : Int) := by omega
        have hqi : bits .and .u8 (x.toNat : Int) 15 = (q : Int) := by rw [hqq]; exact and15_8 x
        rw [← hp, ← hqq] at hqp
        have ip : p < (ByteArray.mk #[48, 49, 50, 51, 52, 53, 54, 55, 56, 57, 97, 98, 99, 100, 101, 102]).size := hp16
        have iq : q < (ByteArray.mk #[48, 49, 50, 51, 52, 53, 54, 55, 56, 57, 97, 98, 99, 100, 101, 102]).size := hq16
        have dp : (ByteArray.mk #[48, 49, 50, 51, 52, 53, 54, 55, 56, 57, 97, 98, 99, 100, 101, 102])[p]'ip = hexc p := hexc_all ⟨p, hp16⟩
        have dq : (ByteArray.mk #[48, 49, 50, 51, 52, 53, 54, 55, 56, 57, 97, 98, 99, 100, 101, 102])[q]'iq = hexc q := hexc_all ⟨q, hq16⟩
        clear hp hqq
        rw [hqp] at hq hP8
        have HQ := Lib.hid hq
        clear hq hF hx hg hI hR hK hqp hkl
        go_wp2_with (first | (go_at_call 37; refine (HF.out).mono ?_; rintro e w2 ⟨rfl, hb2⟩; have hI2 := HI.out.below hb2; have hB2 := Nat.le_trans hBr hb2.size) | (go_at_call 38; (with_reducible show Calls _ _ _ w2 _); refine (writeStrC w.heap.size acc [92, 120] w2 hI2 (by first | omega | (simp; omega)) (by simp) hB2).mono ?_; rintro e w3 ⟨rfl, hI3, hb3⟩; have hB3 := Nat.le_trans hB2 hb3.size) | (go_at_call 36; (with_reducible show Calls _ _ _ w3 _); refine (writeByteC w.heap.size (acc ++ [92, 120]) (hexc p) w3 hI3 (by first | omega | (simp; omega)) hB3).mono ?_; rintro e w4 ⟨rfl, hI4, hb4⟩; have hB4 := Nat.le_trans hB3 hb4.size) | (go_at_call 36; (with_reducible show Calls _ _ _ w4 _); refine (writeByteC w.heap.size (acc ++ [92, 120] ++ [hexc p]) (hexc q) w4 hI4 (by first | omega | (simp; omega)) hB4).mono ?_; rintro e w5 ⟨rfl, hI5, hb5⟩; have hB5 := Nat.le_trans hB4 hb5.size))
        go_roundw
        case rel => exact ⟨i + K, f, acc ++ [92, 120, hexc p, hexc q], by go_num, by first | exact hI5 | (simpa using hI5), (((hb.trans (hb2.mono hBr)).trans hb3).trans hb4).trans hb5, by rw [List.append_assoc]; exact HQ.out, by omega, by omega, by rw [List.length_append]; omega⟩
        case measure => simp [RowKit.intOf]; omega
      · rw [hr0] at hrb
        obtain rfl := hrb
        have hxl := x.toNat_lt
        obtain ⟨p, hp⟩ : ∃ p, p = x.toNat / 16 := ⟨_, rfl⟩
        obtain ⟨q, hqq⟩ : ∃ q, q = x.toNat % 16 := ⟨_, rfl⟩
        have hp16 : p < 16 := by omega
        have hq16 : q < 16 := by omega
        have hpi : (x.toNat : Int) / 16 = (p : Int) := by omega
        have hqi : bits .and .u8 (x.toNat : Int) 15 = (q : Int) := by rw [hqq]; exact and15_8 x
        rw [← hp, ← hqq] at hqp
        have ip : p < (ByteArray.mk #[48, 49, 50, 51, 52, 53, 54, 55, 56, 57, 97, 98, 99, 100, 101, 102]).size := hp16
        have iq : q < (ByteArray.mk #[48, 49, 50, 51, 52, 53, 54, 55, 56, 57, 97, 98, 99, 100, 101, 102]).size := hq16
        have dp : (ByteArray.mk #[48, 49, 50, 51, 52, 53, 54, 55, 56, 57, 97, 98, 99, 100, 101, 102])[p]'ip = hexc p := hexc_all ⟨p, hp16⟩
        have dq : (ByteArray.mk #[48, 49, 50, 51, 52, 53, 54, 55, 56, 57, 97, 98, 99, 100, 101, 102])[q]'iq = hexc q := hexc_all ⟨q, hq16⟩
        clear hp hqq
        have n1 : ((R : Int) == 34) = false := nat_ne (b := 34) (by omega)
        have n2 : ((R : Int) == 92) = false := nat_ne (b := 92) (by omega)
        have n3 : ((R : Int) == 10) = false := nat_ne (b := 10) c3
        have n4 : ((R : Int) == 13) = false := nat_ne (b := 13) c4
        have n5 : ((R : Int) == 9) = false := nat_ne (b := 9) c5
        rw [hqp] at hq hP8
        have HQ := Lib.hid hq
        clear hq hF hx hg hI hR hK hqp hkl
        go_wp2_with (first | (go_at_call 37; refine (HF.out).mono ?_; rintro e w2 ⟨rfl, hb2⟩; have hI2 := HI.out.below hb2; have hB2 := Nat.le_trans hBr hb2.size) | (go_at_call 38; (with_reducible show Calls _ _ _ w2 _); refine (writeStrC w.heap.size acc [92, 120] w2 hI2 (by first | omega | (simp; omega)) (by simp) hB2).mono ?_; rintro e w3 ⟨rfl, hI3, hb3⟩; have hB3 := Nat.le_trans hB2 hb3.size) | (go_at_call 36; (with_reducible show Calls _ _ _ w3 _); refine (writeByteC w.heap.size (acc ++ [92, 120]) (hexc p) w3 hI3 (by first | omega | (simp; omega)) hB3).mono ?_; rintro e w4 ⟨rfl, hI4, hb4⟩; have hB4 := Nat.le_trans hB3 hb4.size) | (go_at_call 36; (with_reducible show Calls _ _ _ w4 _); refine (writeByteC w.heap.size (acc ++ [92, 120] ++ [hexc p]) (hexc q) w4 hI4 (by first | omega | (simp; omega)) hB4).mono ?_; rintro e w5 ⟨rfl, hI5, hb5⟩; have hB5 := Nat.le_trans hB4 hb5.size))
        go_roundw
        case rel => exact ⟨i + K, f, acc ++ [92, 120, hexc p, hexc q], by go_num, by first | exact hI5 | (simpa using hI5), (((hb.trans (hb2.mono hBr)).trans hb3).trans hb4).trans hb5, by rw [List.append_assoc]; exact HQ.out, by omega, by omega, by rw [List.length_append]; omega⟩
        case measure => simp [RowKit.intOf]; omega
      · obtain rfl := hR0
        rw [hr0] at hrb
        obtain rfl := hrb
        have hxl := x.toNat_lt
        obtain ⟨p, hp⟩ : ∃ p, p = x.toNat / 16 := ⟨_, rfl⟩
        obtain ⟨q, hqq⟩ : ∃ q, q = x.toNat % 16 := ⟨_, rfl⟩
        have hp16 : p < 16 := by omega
        have hq16 : q < 16 := by omega
        have hpi : (x.toNat : Int) / 16 = (p : Int) := by omega
        have hqi : bits .and .u8 (x.toNat : Int) 15 = (q : Int) := by rw [hqq]; exact and15_8 x
        rw [← hp, ← hqq] at hqp
        have ip : p < (ByteArray.mk #[48, 49, 50, 51, 52, 53, 54, 55, 56, 57, 97, 98, 99, 100, 101, 102]).size := hp16
        have iq : q < (ByteArray.mk #[48, 49, 50, 51, 52, 53, 54, 55, 56, 57, 97, 98, 99, 100, 101, 102]).size := hq16
        have dp : (ByteArray.mk #[48, 49, 50, 51, 52, 53, 54, 55, 56, 57, 97, 98, 99, 100, 101, 102])[p]'ip = hexc p := hexc_all ⟨p, hp16⟩
        have dq : (ByteArray.mk #[48, 49, 50, 51, 52, 53, 54, 55, 56, 57, 97, 98, 99, 100, 101, 102])[q]'iq = hexc q := hexc_all ⟨q, hq16⟩
        clear hp hqq
        rw [hqp] at hq hP8
        have HQ := Lib.hid hq
        clear hq hF hx hg hI hR hK hqp hkl
        go_wp2_with (first | (go_at_call 37; refine (HF.out).mono ?_; rintro e w2 ⟨rfl, hb2⟩; have hI2 := HI.out.below hb2; have hB2 := Nat.le_trans hBr hb2.size) | (go_at_call 38; (with_reducible show Calls _ _ _ w2 _); refine (writeStrC w.heap.size acc [92, 120] w2 hI2 (by first | omega | (simp; omega)) (by simp) hB2).mono ?_; rintro e w3 ⟨rfl, hI3, hb3⟩; have hB3 := Nat.le_trans hB2 hb3.size) | (go_at_call 36; (with_reducible show Calls _ _ _ w3 _); refine (writeByteC w.heap.size (acc ++ [92, 120]) (hexc p) w3 hI3 (by first | omega | (simp; omega)) hB3).mono ?_; rintro e w4 ⟨rfl, hI4, hb4⟩; have hB4 := Nat.le_trans hB3 hb4.size) | (go_at_call 36; (with_reducible show Calls _ _ _ w4 _); refine (writeByteC w.heap.size (acc ++ [92, 120] ++ [hexc p]) (hexc q) w4 hI4 (by first | omega | (simp; omega)) hB4).mono ?_; rintro e w5 ⟨rfl, hI5, hb5⟩; have hB5 := Nat.le_trans hB4 hb5.size))
        go_roundw
        case rel => exact ⟨i + K, f, acc ++ [92, 120, hexc p, hexc q], by go_num, by first | exact hI5 | (simpa using hI5), (((hb.trans (hb2.mono hBr)).trans hb3).trans hb4).trans hb5, by rw [List.append_assoc]; exact HQ.out, by omega, by omega, by rw [List.length_append]; omega⟩
        case measure => simp [RowKit.intOf]; omega
      · obtain rfl := hR0
        rw [hr0] at hrb
        obtain rfl := hrb
        have hlx : (hexOf 133).length ≤ 4 := by decide
        have HPl := fun w1 => (show decide (PlainN 133) = false by decide) ▸ plainC w1 133
        rw [hqp] at hq hP8
        have HQ := Lib.hid hq
        clear hq hF hx hg hI hR hK hqp hkl
        go_wp2_with (first | (go_at_call 37; refine (HF.out).mono ?_; rintro e w2 ⟨rfl, hb2⟩; have hI2 := HI.out.below hb2; have hB2 := Nat.le_trans hBr hb2.size) | (go_at_call 39; refine (HPl _).mono ?_; rintro e wq ⟨rfl, hwq⟩; obtain rfl := hwq.symm) | (go_at_call 40; refine (fmt16 w2 (hT.below (hb.trans (hb2.mono hBr)) hT.size) 133 (by simp)).mono ?_; rintro e w3 ⟨rfl, hb3⟩; have hI3 := hI2.below hb3; have hB3 := Nat.le_trans hB2 hb3.size) | (go_at_call 38; (with_reducible show Calls _ _ _ w3 _); refine (writeStrC w.heap.size acc ([92, 117, 123] ++ hexOf 133 ++ [125]) w3 hI3 (by first | omega | (simp; omega)) (by simp; omega) hB3).mono ?_; rintro e w4 ⟨rfl, hI4, hb4⟩; have hB4 := Nat.le_trans hB3 hb4.size))
        go_roundw
        case rel => exact ⟨i + K, f, acc ++ ([92, 117, 123] ++ hexOf 133 ++ [125]), by go_num, by first | exact hI4 | (simpa using hI4), ((hb.trans (hb2.mono hBr)).trans (hb3.mono hB2)).trans hb4, by rw [List.append_assoc]; exact HQ.out, by omega, by omega, by rw [List.length_append]; omega⟩
        case measure => simp [RowKit.intOf]; omega
      · obtain rfl := hR0
        rw [hr0] at hrb
        obtain rfl := hrb
        have hlx : (hexOf 8232).length ≤ 4 := by decide
        have HPl := fun w1 => (show decide (PlainN 8232) = false by decide) ▸ plainC w1 8232
        rw [hqp] at hq hP8
        have HQ := Lib.hid hq
        clear hq hF hx hg hI hR hK hqp hkl
        go_wp2_with (first | (go_at_call 37; refine (HF.out).mono ?_; rintro e w2 ⟨rfl, hb2⟩; have hI2 := HI.out.below hb2; have hB2 := Nat.le_trans hBr hb2.size) | (go_at_call 39; refine (HPl _).mono ?_; rintro e wq ⟨rfl, hwq⟩; obtain rfl := hwq.symm) | (go_at_call 40; refine (fmt16 w2 (hT.below (hb.trans (hb2.mono hBr)) hT.size) 8232 (by simp)).mono ?_; rintro e w3 ⟨rfl, hb3⟩; have hI3 := hI2.below hb3; have hB3 := Nat.le_trans hB2 hb3.size) | (go_at_call 38; (with_reducible show Calls _ _ _ w3 _); refine (writeStrC w.heap.size acc ([92, 117, 123] ++ hexOf 8232 ++ [125]) w3 hI3 (by first | omega | (simp; omega)) (by simp; omega) hB3).mono ?_; rintro e w4 ⟨rfl, hI4, hb4⟩; have hB4 := Nat.le_trans hB3 hb4.size))
        go_roundw
        case rel => exact ⟨i + K, f, acc ++ ([92, 117, 123] ++ hexOf 8232 ++ [125]), by go_num, by first | exact hI4 | (simpa using hI4), ((hb.trans (hb2.mono hBr)).trans (hb3.mono hB2)).trans hb4, by rw [List.append_assoc]; exact HQ.out, by omega, by omega, by rw [List.length_append]; omega⟩
        case measure => simp [RowKit.intOf]; omega
      · obtain rfl := hR0
        rw [hr0] at hrb
        obtain rfl := hrb
        have hlx : (hexOf 8233).length ≤ 4 := by decide
        have HPl := fun w1 => (show decide (PlainN 8233) = false by decide) ▸ plainC w1 8233
        rw [hqp] at hq hP8
        have HQ := Lib.hid hq
        clear hq hF hx hg hI hR hK hqp hkl
        go_wp2_with (first | (go_at_call 37; refine (HF.out).mono ?_; rintro e w2 ⟨rfl, hb2⟩; have hI2 := HI.out.below hb2; have hB2 := Nat.le_trans hBr hb2.size) | (go_at_call 39; refine (HPl _).mono ?_; rintro e wq ⟨rfl, hwq⟩; obtain rfl := hwq.symm) | (go_at_call 40; refine (fmt16 w2 (hT.below (hb.trans (hb2.mono hBr)) hT.size) 8233 (by simp)).mono ?_; rintro e w3 ⟨rfl, hb3⟩; have hI3 := hI2.below hb3; have hB3 := Nat.le_trans hB2 hb3.size) | (go_at_call 38; (with_reducible show Calls _ _ _ w3 _); refine (writeStrC w.heap.size acc ([92, 117, 123] ++ hexOf 8233 ++ [125]) w3 hI3 (by first | omega | (simp; omega)) (by simp; omega) hB3).mono ?_; rintro e w4 ⟨rfl, hI4, hb4⟩; have hB4 := Nat.le_trans hB3 hb4.size))
        go_roundw
        case rel => exact ⟨i + K, f, acc ++ ([92, 117, 123] ++ hexOf 8233 ++ [125]), by go_num, by first | exact hI4 | (simpa using hI4), ((hb.trans (hb2.mono hBr)).trans (hb3.mono hB2)).trans hb4, by rw [List.append_assoc]; exact HQ.out, by omega, by omega, by rw [List.length_append]; omega⟩
        case measure => simp [RowKit.intOf]; omega
      · rw [hr0] at hrb
        obtain rfl := hrb
        have hP := fun w1 => decide_eq_true hR0 ▸ plainC w1 R
        have HP := Lib.hid hP
        have hpl := hR0
        unfold PlainN at hpl
        have n1 : ((R : Int) == 34) = false := nat_ne (b := 34) (by omega)
        have n2 : ((R : Int) == 92) = false := nat_ne (b := 92) (by omega)
        have n3 : ((R : Int) == 10) = false := nat_ne (b := 10) (by omega)
        have n4 : ((R : Int) == 13) = false := nat_ne (b := 13) (by omega)
        have n5 : ((R : Int) == 9) = false := nat_ne (b := 9) (by omega)
        have n6 : ((R : Int) == 127) = false := nat_ne (b := 127) (by omega)
        have n7 : (32 : Int) ≤ (R : Int) := by omega
        obtain ⟨S, hS⟩ : ∃ S, D.take K = S := ⟨_, rfl⟩
        have hS2 : D.take (i + K - i) = S := by rw [← hS]; congr 1; omega
        rw [hS] at hqp
        have hSl : S.length ≤ 4 := by rw [← hS, List.length_take]; omega
        clear hP hpl hR0
        rw [hqp] at hq hP8
        have HQ := Lib.hid hq
        clear hq hF hx hg hI hR hK hqp hkl
        go_wp2_with (first | (go_at_call 37; refine (HF.out).mono ?_; rintro e w2 ⟨rfl, hb2⟩; have hI2 := HI.out.below hb2; have hB2 := Nat.le_trans hBr hb2.size) | (go_at_call 39; refine (HP.out _).mono ?_; rintro e wq ⟨rfl, hwq⟩; obtain rfl := hwq.symm) | (go_at_call 38; (with_reducible show Calls _ _ _ w2 _); refine (writeStrC w.heap.size acc S w2 hI2 (by first | omega | (simp; omega)) (by omega) hB2).mono ?_; rintro e w3 ⟨rfl, hI3, hb3⟩; have hB3 := Nat.le_trans hB2 hb3.size))
        go_roundw
        case rel => exact ⟨i + K, f, acc ++ S, by go_num, by first | exact hI3 | (simpa using hI3), (hb.trans (hb2.mono hBr)).trans hb3, by rw [List.append_assoc]; exact HQ.out, by omega, by omega, by rw [List.length_append]; omega⟩
        case measure => simp [RowKit.intOf]; omega
    · obtain rfl : i = n := by omega
      rw [quo_end (by rw [← HN.out]; exact Nat.le_refl _), List.append_nil] at hq
      have HQ := Lib.hid hq
      have HS := Lib.hid (fun w2 (h2 : IsB w.heap.size (acc ++ [34]) w2) (b2 : w.heap.size ≤ w2.heap.size) => stringC w.heap.size (acc ++ [34]) w2 h2 b2)
      have HW2 := Lib.hid (writeByteC w.heap.size acc 34 wr hI (by omega) hBr)
      clear hq hI
      go_wp2_with (first | (go_at_call 36; refine (HW2.out).mono ?_; rintro e w2 ⟨rfl, hB2, hb2⟩) | (go_at_call 41; refine (HS.out _ hB2 (Nat.le_trans hBr hb2.size)).mono ?_; rintro e w3 ⟨rfl, hb3⟩))
      go_ret
      rw [HQ.out]
      exact ⟨rfl, (hb.trans hb2).trans hb3⟩
end Go.Proofs.YtmhemahkcbgaoaaGreatDoor
