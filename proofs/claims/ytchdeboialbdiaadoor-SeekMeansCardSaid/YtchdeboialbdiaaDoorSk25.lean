/- Texts joined, one behind the other (SQuote, SChrP, SPartP). -/
import Derived.Test.YtchdeboialbdiaaDoorSk24
import Derived.Lib.IndexAny
import Derived.Lib.MapLaws
/- Quote, the program's and the reference's. -/
namespace Go.Proofs.YtchdeboialbdiaaDoor
set_option linter.unusedVariables false
set_option linter.unusedSimpArgs false
open Go.RowKit
open Go.Lib hiding intOf
def qMarks : List UInt8 := [46, 91, 93, 42, 43, 63, 94, 36, 92]
def qm (x : UInt8) : Bool := qMarks.contains x
def qOne (x : UInt8) : List UInt8 := if qm x = true then [92, x] else [x]
def quoteL (l : List UInt8) : List UInt8 := l.flatMap qOne
def IsBq (B : Nat) (acc : List UInt8) (w : World) : Prop := Lib.IsBuilderF 109 5 B B (Lib.byteCells acc) w
theorem isBq_fresh (w : World) : IsBq w.heap.size [] (w.alloc (.cells #[.pointer none, .slice none 0 0] 109)) := Lib.IsBuilderF.of (Lib.fresh_isBuilder _ _ w)
theorem writeB (B : Nat) (acc : List UInt8) (x : UInt8) (w : World) (h : IsBq B acc w) (hl : acc.length ≤ 1099511627776) (hB : B ≤ w.heap.size) :
    Calls Tryd.prog 46 #[.pointer (some ⟨B, 0, none⟩), .int .u8 (x.toNat : Int)] w fun e w' => e = .returned .nilIface ∧ IsBq B (acc ++ [x]) w' ∧ Below B w w' := by
  refine (writeByteC B B _ (x.toNat : Int) w h (by rw [Lib.byteCells_length]; omega) hB).mono ?_
  rintro e w' ⟨rfl, h1, b1, _⟩
  exact ⟨rfl, by unfold IsBq; rw [Lib.byteCells_append]; exact Or.inr h1, b1⟩
theorem stringB (B : Nat) (acc : List UInt8) (w : World) (h : IsBq B acc w) (hB : B ≤ w.heap.size) :
    Calls Tryd.prog 47 #[.pointer (some ⟨B, 0, none⟩)] w fun e w' => e = .returned (.string (bstr acc)) ∧ Below B w w' := by
  refine (Tryd.Builder_String_any_k B B acc w h hB).mono ?_
  rintro e w' ⟨rfl, _, b1, _⟩
  exact ⟨rfl, b1⟩
theorem indexB (w : World) (x : UInt8) : Calls Tryd.prog 45 #[.string { data := #[46, 91, 93, 42, 43, 63, 94, 36, 92] }, .int .u8 (x.toNat : Int)] w fun e w' => e = .returned (.int .i64 (Lib.indexByte qMarks x)) ∧ w' = w := by
  have h := Tryd.strings_IndexByte (bstr qMarks) (x.toNat : Int) w
  have e1 : ((x.toNat : Nat) : Int).toNat.toUInt8 = x := by
    rw [Int.toNat_natCast]
    exact UInt8.ofNat_toNat
  rw [e1] at h
  exact h
theorem qOne_len (x : UInt8) : (qOne x).length ≤ 2 := by unfold qOne; split <;> simp
set_option maxHeartbeats 4000000 in
set_option maxRecDepth 100000 in
theorem quoteC (w : World) (l : List UInt8) (hm : l.length ≤ 67108864) : Calls Tryd.prog 24 #[.string (bstr l)] w fun e w' => e = .returned (.string (bstr (quoteL l))) ∧ Below w.heap.size w w' := by
  obtain ⟨n, hn⟩ : ∃ n, l.length = n := ⟨_, rfl⟩
  have hsz : (bstr l).size = n := by rw [bstr_size, hn]
  have HB0 := Lib.hid (isBq_fresh w)
  have HN := Lib.hid hn
  rw [hn] at hm
  have hln : (l.length : Int) = (n : Int) := by rw [hn]
  clear hn
  go_enter Tryd.func24, Tryd.ntmps24
  go_wp2_with fail
  go_loopw [7] (fun uk wr => ∃ (i : Nat) (acc : List UInt8), uk = .int .i64 (i : Int) ∧ i ≤ n ∧ acc.length ≤ 2 * i ∧ Hid (IsBq w.heap.size acc wr ∧ Below w.heap.size w wr ∧ acc ++ quoteL (l.drop i) = quoteL l)) (fun uk _ => n - (RowKit.intOf uk).toNat)
  case atStart => exact ⟨0, [], rfl, Nat.zero_le _, Nat.le_refl _, Lib.hid ⟨HB0.out, (Below.refl _ w).alloc (Nat.le_refl _) _, rfl⟩⟩
  case round =>
    obtain ⟨i, acc, rfl, hi, hacc, HR⟩ := hrel
    have hBr := HR.out.2.1.size
    by_cases hlt : i < n
    · obtain ⟨x, hx⟩ := some_at (l := l) (k := i) (by have := HN.out; omega)
      have i1 : i < (bstr l).size := by rw [hsz]; exact hlt
      have hxa : (bstr l)[i]'i1 = x := bstr_at hx _
      have hdrop : l.drop i = x :: l.drop (i + 1) := by
        have h2 := (List.getElem?_eq_some_iff.1 hx).1
        have h3 : l[i] = x := Option.some.inj ((List.getElem?_eq_getElem h2).symm.trans hx)
        rw [List.drop_eq_getElem_cons h2, h3]
      have hq := HR.out.2.2
      rw [hdrop] at hq
      change acc ++ (qOne x ++ quoteL (l.drop (i + 1))) = quoteL l at hq
      rw [← List.append_assoc] at hq
      have HQ := Lib.hid hq
      have HIX := Lib.hid (fun w => indexB w x)
      have hqm : qm x = decide (0 ≤ Lib.indexByte qMarks x) := Lib.contains_iff_indexByte qMarks x
      obtain ⟨ix, hix⟩ : ∃ ix, Lib.indexByte qMarks x = ix := ⟨_, rfl⟩
      rw [hix] at HIX hqm
      have hlk : (i : Int) < (n : Int) := by omega
      have hxl := x.toNat_lt
      have hW1 := fun (W : World) (h : IsBq w.heap.size acc W) (hb : w.heap.size ≤ W.heap.size) => writeB w.heap.size acc 92 W h (by omega) hb
      have hW2 := fun (W : World) (acc2 : List UInt8) (h : IsBq w.heap.size acc2 W) (hb : w.heap.size ≤ W.heap.size) (hl : acc2.length ≤ 1099511627776) => writeB w.heap.size acc2 x W h hl hb
      have HW1 := Lib.hid hW1
      have HW2 := Lib.hid hW2
      have hql := qOne_len x
      clear hx hdrop hq hW1 hW2 hix
      by_cases hc : 0 ≤ ix
      · have e : qOne x = [92, x] := by unfold qOne; rw [hqm, if_pos (decide_eq_true hc)]
        have HE := Lib.hid e
        have hc2 : ¬ ix < 0 := by omega
        clear hqm e hql
        go_wp2_with (first
          | (go_at_call 45; with_reducible refine (HIX.out _).mono ?_; rintro e w9 ⟨rfl, rfl⟩)
          | (go_at_call 46; (with_reducible show Calls _ _ _ w9 _); refine (HW1.out _ HR.out.1 hBr).mono ?_; rintro e w3 ⟨rfl, hI3, hb3⟩; have HI3 := Lib.hid hI3; have HB3 := Lib.hid hb3; clear hI3 hb3)
          | (go_at_call 46; (with_reducible show Calls _ _ _ w3 _); refine (HW2.out _ _ HI3.out (Nat.le_trans hBr HB3.out.size) (by rw [List.length_append, List.length_singleton]; omega)).mono ?_; rintro e w4 ⟨rfl, hI4, hb4⟩; have HI4 := Lib.hid hI4; have HB4 := Lib.hid hb4; clear hI4 hb4))
        go_roundw
        case rel => exact ⟨i + 1, acc ++ qOne x, by go_num, by omega, by rw [HE.out, List.length_append]; simp; omega, Lib.hid ⟨by rw [HE.out]; have := HI4.out; rwa [List.append_assoc] at this, (HR.out.2.1.trans HB3.out).trans HB4.out, HQ.out⟩⟩
        case measure => simp [RowKit.intOf]; omega
      · have e : qOne x = [x] := by unfold qOne; rw [hqm, if_neg (by rw [decide_eq_false hc]; decide)]
        have HE := Lib.hid e
        have hc2 : ix < 0 := by omega
        clear hqm e hql
        go_wp2_with (first
          | (go_at_call 45; with_reducible refine (HIX.out _).mono ?_; rintro e w9 ⟨rfl, rfl⟩)
          | (go_at_call 46; (with_reducible show Calls _ _ _ w9 _); refine (HW2.out _ _ HR.out.1 hBr (by omega)).mono ?_; rintro e w4 ⟨rfl, hI4, hb4⟩; have HI4 := Lib.hid hI4; have HB4 := Lib.hid hb4; clear hI4 hb4))
        go_roundw
        case rel => exact ⟨i + 1, acc ++ qOne x, by go_num, by omega, by rw [HE.out, List.length_append]; simp; omega, Lib.hid ⟨by rw [HE.out]; exact HI4.out, HR.out.2.1.trans HB4.out, HQ.out⟩⟩
        case measure => simp [RowKit.intOf]; omega
    · obtain rfl : i = n := by omega
      have hq := HR.out.2.2
      rw [List.drop_of_length_le (by rw [HN.out]; exact Nat.le_refl _)] at hq
      change acc ++ [] = quoteL l at hq
      rw [List.append_nil] at hq
      have HQ := Lib.hid hq
      have HS := Lib.hid (stringB w.heap.size acc wr HR.out.1 hBr)
      have hnl : ¬ (i : Int) < (i : Int) := by omega
      clear hq hlt hi
      go_wp2_with (go_at_call 47; refine (HS.out).mono ?_; rintro e w3 ⟨rfl, hb3⟩)
      go_ret
      rw [← HQ.out]
      exact ⟨rfl, HR.out.2.1.trans hb3⟩
end Go.Proofs.YtchdeboialbdiaaDoor
/- Characters one by one: a text's numbers and places, from the front; a quoted text's numbers: plain law. -/
namespace Go.Proofs.YtchdeboialbdiaaDoor
set_option linter.unusedVariables false
set_option linter.unusedSimpArgs false
open Go.Lib hiding intOf
theorem charsGo_fuel : ∀ (f g : Nat) (l : List UInt8) (a : Nat), l.length ≤ f → l.length ≤ g → charsGo f l a = charsGo g l a
  | 0, g, l, a, h, _ => by
    obtain rfl : l = [] := List.eq_nil_of_length_eq_zero (by omega)
    rw [charsGo_stop, charsGo_stop]
  | f + 1, 0, l, a, _, h => by
    obtain rfl : l = [] := List.eq_nil_of_length_eq_zero (by omega)
    rw [charsGo_stop, charsGo_stop]
  | f + 1, g + 1, l, a, h1, h2 => by
    by_cases hl : l = []
    · subst hl; rw [charsGo_stop, charsGo_stop]
    · have hw := chr1_width hl
      rw [charsGo_next hl, charsGo_next hl, charsGo_fuel f g _ _ (by rw [List.length_drop]; omega) (by rw [List.length_drop]; omega)]
theorem charsGo_shift : ∀ (f : Nat) (l : List UInt8) (a b : Nat), charsGo f l (a + b) = (charsGo f l a).map fun p => (p.1, p.2 + b)
  | 0, l, a, b => rfl
  | f + 1, l, a, b => by
    by_cases hl : l = []
    · subst hl; rw [charsGo_stop, charsGo_stop]; rfl
    · rw [charsGo_next hl, charsGo_next hl, List.map_cons, ← charsGo_shift f _ (a + (chr1 l).2) b, show a + b + (chr1 l).2 = a + (chr1 l).2 + b by omega]
theorem charsL_cons {l : List UInt8} (hl : l ≠ []) : charsL l = ((chr1 l).1, 0) :: (charsL (l.drop (chr1 l).2)).map fun p => (p.1, p.2 + (chr1 l).2) := by
  have hw := chr1_width hl
  unfold charsL
  obtain ⟨n, hn⟩ : ∃ n, l.length = n + 1 := ⟨l.length - 1, by omega⟩
  rw [hn, charsGo_next hl, charsGo_fuel n (l.drop (chr1 l).2).length _ _ (by rw [List.length_drop]; omega) (Nat.le_refl _), charsGo_shift _ _ 0]
theorem vals_nil : valsL [] = [] := rfl
theorem ats_nil : atsL [] = [0] := rfl
theorem vals_cons {l : List UInt8} (hl : l ≠ []) : valsL l = (chr1 l).1 :: valsL (l.drop (chr1 l).2) := by
  unfold valsL
  rw [charsL_cons hl, List.map_cons, List.map_map]
  rfl
theorem ats_cons {l : List UInt8} (hl : l ≠ []) : atsL l = 0 :: (atsL (l.drop (chr1 l).2)).map (· + (chr1 l).2) := by
  have hw := chr1_width hl
  unfold atsL
  rw [charsL_cons hl, List.map_cons, List.map_map, List.map_append, List.map_map]
  have : (l.drop (chr1 l).2).length + (chr1 l).2 = l.length := by rw [List.length_drop]; omega
  simp only [List.map_cons, List.map_nil, this]
  rfl
/-- the bytes of a number -/
def chB (v : Nat) : List UInt8 := if v < wrongN then encodeRune (v : Int) else [UInt8.ofNat (v - wrongN)]
theorem chr1_right {l : List UInt8} (h : RightD (decodeL l)) : chr1 l = decodeL l := if_pos h
theorem chr1_wrong {l : List UInt8} (h : ¬ RightD (decodeL l)) : chr1 l = (wrongN + bN l 0, 1) := if_neg h
theorem right_not {l : List UInt8} (h : RightD (decodeL l)) : ¬ ((decodeL l).1 = 65533 ∧ (decodeL l).2 = 1) := by
  unfold RightD at h
  omega
theorem chr_bytes {l : List UInt8} (hl : l ≠ []) : l.take (chr1 l).2 = chB (chr1 l).1 := by
  by_cases h : RightD (decodeL l)
  · rw [chr1_right h]
    have := dec_rune_le (l := l)
    unfold chB
    rw [if_pos (by unfold wrongN; omega), encode_decode l hl (right_not h)]
  · rw [chr1_wrong h]
    unfold chB
    rw [if_neg (by dsimp only; omega), take_one hl, show wrongN + bN l 0 - wrongN = bN l 0 by omega]
    unfold bN
    rw [UInt8.ofNat_toNat]
theorem chr_len {l : List UInt8} (hl : l ≠ []) : (chB (chr1 l).1).length = (chr1 l).2 := by
  rw [← chr_bytes hl, List.length_take]
  have := chr1_width hl
  omega
/-- a text that is cut ahead of a byte of ASCII, or ends: what follows does not tell -/
theorem dec_cut {X a a' : List UInt8} (hX : X ≠ []) (ha : ∀ x r, a = x :: r → x.toNat < 128) (ha' : ∀ x r, a' = x :: r → x.toNat < 128) : decodeL (X ++ a) = decodeL (X ++ a') := by
  have low : ∀ (b : List UInt8), (∀ x r, b = x :: r → x.toNat < 128) → bN b 0 < 128 := by
    intro b hb
    cases b with
    | nil => show (0 : Nat) < 128; decide
    | cons x r => exact hb x r rfl
  have l1 := low a ha
  have l2 := low a' ha'
  have at1 : ∀ (b : List UInt8) i, bN (X ++ b) i = if i < X.length then bN X i else bN b (i - X.length) := by
    intro b i
    unfold bN
    rw [List.getD_eq_getElem?_getD, List.getD_eq_getElem?_getD, List.getD_eq_getElem?_getD]
    by_cases hi : i < X.length
    · rw [if_pos hi, List.getElem?_append_left hi]
    · rw [if_neg hi, List.getElem?_append_right (by omega)]
  have e1 : decodeL (X ++ a) = decodeN (X.length + a.length) (bN (X ++ a) 0) (bN (X ++ a) 1) (bN (X ++ a) 2) (bN (X ++ a) 3) := by rw [← List.length_append]; exact decodeL_N _
  have e2 : decodeL (X ++ a') = decodeN (X.length + a'.length) (bN (X ++ a') 0) (bN (X ++ a') 1) (bN (X ++ a') 2) (bN (X ++ a') 3) := by rw [← List.length_append]; exact decodeL_N _
  rw [e1, e2]
  simp only [at1]
  have h1 : 1 ≤ X.length := List.length_pos_iff.2 hX
  rw [if_pos (show 0 < X.length by omega), if_pos (show 0 < X.length by omega)]
  generalize bN X 0 = b0
  by_cases h2 : X.length = 1
  · rw [h2]
    simp only [show ¬ (1 : Nat) < 1 by omega, show ¬ (2 : Nat) < 1 by omega, show ¬ (3 : Nat) < 1 by omega, if_false, Nat.sub_self]
    generalize bN a 0 = c1 at *
    generalize bN a' 0 = c2 at *
    unfold decodeN
    have q1 : ¬ c1 / 64 = 2 := by omega
    have q2 : ¬ c2 / 64 = 2 := by omega
    simp only [q1, q2, and_false, false_and, if_false]
  · by_cases h3 : X.length = 2
    · rw [h3]
      simp only [show (1 : Nat) < 2 by omega, show ¬ (2 : Nat) < 2 by omega, show ¬ (3 : Nat) < 2 by omega, if_false, if_true, Nat.sub_self]
      generalize bN a 0 = c1 at *
      generalize bN a' 0 = c2 at *
      unfold decodeN
      have q1 : ¬ c1 / 64 = 2 := by omega
      have q2 : ¬ c2 / 64 = 2 := by omega
      simp only [q1, q2, and_false, false_and, if_false, show (1 : Nat) < 2 + a.length by omega, show (1 : Nat) < 2 + a'.length by omega, true_and]
    · by_cases h4 : X.length = 3
      · rw [h4]
        simp only [show (1 : Nat) < 3 by omega, show (2 : Nat) < 3 by omega, show ¬ (3 : Nat) < 3 by omega, if_false, if_true, Nat.sub_self]
        generalize bN a 0 = c1 at *
        generalize bN a' 0 = c2 at *
        unfold decodeN
        have q1 : ¬ c1 / 64 = 2 := by omega
        have q2 : ¬ c2 / 64 = 2 := by omega
        simp only [q1, q2, and_false, false_and, if_false, show (1 : Nat) < 3 + a.length by omega, show (1 : Nat) < 3 + a'.length by omega, show (2 : Nat) < 3 + a.length by omega, show (2 : Nat) < 3 + a'.length by omega, true_and]
      · rw [if_pos (show 1 < X.length by omega), if_pos (show 1 < X.length by omega), if_pos (show 2 < X.length by omega), if_pos (show 2 < X.length by omega), if_pos (show 3 < X.length by omega), if_pos (show 3 < X.length by omega)]
        unfold decodeN
        simp only [show 1 < X.length + a.length by omega, show 1 < X.length + a'.length by omega, show 2 < X.length + a.length by omega, show 2 < X.length + a'.length by omega, show 3 < X.length + a.length by omega, show 3 < X.length + a'.length by omega, true_and]
theorem chr_cut {X a a' : List UInt8} (hX : X ≠ []) (ha : ∀ x r, a = x :: r → x.toNat < 128) (ha' : ∀ x r, a' = x :: r → x.toNat < 128) : chr1 (X ++ a) = chr1 (X ++ a') := by
  unfold chr1
  rw [dec_cut hX ha ha']
  have : bN (X ++ a) 0 = bN (X ++ a') 0 := by
    cases X with
    | nil => exact absurd rfl hX
    | cons x r => rfl
  rw [this]
theorem chr_low {x : UInt8} {r : List UInt8} (h : x.toNat < 128) : chr1 (x :: r) = (x.toNat, 1) := by
  have e : decodeL (x :: r) = (x.toNat, 1) := dec_low (l := x :: r) h
  unfold chr1
  rw [e, if_pos (by unfold RightD; left; show x.toNat ≠ 65533; omega)]
/-- the marks that are quoted -/
def qmN (v : Nat) : Bool := decide (v = 46 ∨ v = 91 ∨ v = 93 ∨ v = 42 ∨ v = 43 ∨ v = 63 ∨ v = 94 ∨ v = 36 ∨ v = 92)
def qV (v : Nat) : List Nat := if qmN v = true then [92, v] else [v]
theorem qm_N : ∀ y : Fin 256, qm (UInt8.ofNat y.val) = qmN y.val := by decide +kernel
theorem qm_eq (x : UInt8) : qm x = qmN x.toNat := by
  have := qm_N ⟨x.toNat, x.toNat_lt⟩
  rw [UInt8.ofNat_toNat] at this
  exact this
theorem quote_app (a b : List UInt8) : quoteL (a ++ b) = quoteL a ++ quoteL b := List.flatMap_append ..
theorem quote_cons (x : UInt8) (r : List UInt8) : quoteL (x :: r) = qOne x ++ quoteL r := rfl
theorem qOne_high {x : UInt8} (h : 128 ≤ x.toNat) : qOne x = [x] := by
  unfold qOne
  rw [qm_eq, if_neg]
  unfold qmN
  rw [decide_eq_true_iff]
  omega
theorem quote_high : ∀ (a : List UInt8), (∀ x ∈ a, 128 ≤ x.toNat) → quoteL a = a
  | [], _ => rfl
  | x :: r, h => by
    rw [quote_cons, qOne_high (h x (List.mem_cons_self ..)), quote_high r (fun y hy => h y (List.mem_cons_of_mem _ hy))]
    rfl
theorem quote_len (l : List UInt8) : (quoteL l).length ≤ 2 * l.length := by
  induction l with
  | nil => exact Nat.le_refl _
  | cons x r ih =>
    rw [quote_cons, List.length_append, List.length_cons]
    have := qOne_len x
    omega
/-- a text's high bytes at the front, and what comes behind -/
theorem split_high : ∀ (l : List UInt8), ∃ X a, l = X ++ a ∧ (∀ x ∈ X, 128 ≤ x.toNat) ∧ ∀ x r, a = x :: r → x.toNat < 128
  | [] => ⟨[], [], rfl, (fun x h => by cases h), fun x r h => by cases h⟩
  | x :: l => by
    by_cases h : x.toNat < 128
    · exact ⟨[], x :: l, rfl, (fun y hy => by cases hy), fun y r e => by cases e; exact h⟩
    · obtain ⟨X, a, h1, h2, h3⟩ := split_high l
      refine ⟨x :: X, a, by rw [h1]; rfl, fun y hy => ?_, h3⟩
      rcases List.mem_cons.1 hy with rfl | hy
      · omega
      · exact h2 y hy
theorem quote_front {a : List UInt8} (h : ∀ x r, a = x :: r → x.toNat < 128) : ∀ x r, quoteL a = x :: r → x.toNat < 128 := by
  intro x r e
  cases a with
  | nil => cases e
  | cons y s =>
    have hy := h y s rfl
    rw [quote_cons] at e
    unfold qOne at e
    split at e
    · cases e
      decide
    · cases e
      exact hy
/-- a quoted text's numbers -/
theorem vals_quote : ∀ (n : Nat) (l : List UInt8), l.length ≤ n → valsL (quoteL l) = (valsL l).flatMap qV
  | 0, l, h => by
    obtain rfl : l = [] := List.eq_nil_of_length_eq_zero (by omega)
    rfl
  | n + 1, l, h => by
    cases l with
    | nil => rfl
    | cons x r =>
      have hl : x :: r ≠ [] := List.cons_ne_nil _ _
      rw [vals_cons hl, List.flatMap_cons]
      by_cases hx : x.toNat < 128
      · rw [chr_low hx]
        have ih := vals_quote n r (by rw [List.length_cons] at h; omega)
        show valsL (quoteL (x :: r)) = qV x.toNat ++ (valsL r).flatMap qV
        rw [quote_cons, ← ih]
        unfold qOne qV
        rw [qm_eq]
        by_cases hq : qmN x.toNat = true
        · rw [if_pos hq, if_pos hq]
          show valsL (92 :: x :: quoteL r) = _
          rw [vals_cons (List.cons_ne_nil _ _), chr_low (x := 92) (by decide)]
          show 92 :: valsL (x :: quoteL r) = _
          rw [vals_cons (List.cons_ne_nil _ _), chr_low hx]
          rfl
        · rw [if_neg hq, if_neg hq]
          show valsL (x :: quoteL r) = _
          rw [vals_cons (List.cons_ne_nil _ _), chr_low hx]
          rfl
      · have hw := chr1_width hl
        obtain ⟨X, a, hXa, hX, ha⟩ := split_high (x :: r)
        have hXn : X ≠ [] := by
          rintro rfl
          exact hx (ha x r hXa.symm)
        have hq : quoteL (x :: r) = X ++ quoteL a := by rw [hXa, quote_app, quote_high X hX]
        have hc : chr1 (quoteL (x :: r)) = chr1 (x :: r) := by
          rw [hq, hXa]
          exact chr_cut hXn (quote_front ha) ha
        obtain ⟨k, hk⟩ : ∃ k, (chr1 (x :: r)).2 = k := ⟨_, rfl⟩
        rw [hk] at hw
        have hin : ∀ y ∈ (x :: r).take k, 128 ≤ y.toNat := by
          intro y hy
          obtain ⟨j, hj1, hj2⟩ := List.mem_iff_getElem.1 hy
          have hjk : j < k := by rw [List.length_take] at hj1; omega
          by_cases hj0 : j = 0
          · subst hj0
            have : y = x := by rw [← hj2]; simp
            rw [this]
            omega
          · have h5 := chr_inner (l := x :: r) (j := j) (by omega) (by omega)
            have h6 : bN (x :: r) j = y.toNat := by
              unfold bN
              rw [← hj2, List.getD_eq_getElem?_getD, List.getElem_take, List.getElem?_eq_getElem (by rw [List.length_take] at hj1; omega)]
              rfl
            rw [h6] at h5
            have := of_decide_eq_true h5
            omega
        have hqk : quoteL (x :: r) = (x :: r).take k ++ quoteL ((x :: r).drop k) := by
          conv => lhs; rw [← List.take_append_drop k (x :: r)]
          rw [quote_app, quote_high _ hin]
        have hqn : quoteL (x :: r) ≠ [] := by
          rw [hq]
          intro e
          exact hXn (List.append_eq_nil_iff.1 e).1
        rw [vals_cons hqn, hc]
        have hnot : qV (chr1 (x :: r)).1 = [(chr1 (x :: r)).1] := by
          unfold qV
          rw [if_neg]
          unfold qmN
          rw [decide_eq_true_iff]
          have h7 : 128 ≤ (chr1 (x :: r)).1 := by
            by_cases hR : RightD (decodeL (x :: r))
            · rw [chr1_right hR]
              apply Decidable.byContradiction
              intro hc2
              have := (dec_fst_byte hl (by omega : (decodeL (x :: r)).1 < 128)).2
              have h8 : ((x :: r).getD 0 0).toNat = x.toNat := rfl
              omega
            · rw [chr1_wrong hR]
              show 128 ≤ wrongN + _
              unfold wrongN
              omega
          omega
        rw [hnot]
        show _ :: valsL ((quoteL (x :: r)).drop (chr1 (x :: r)).2) = _ :: (valsL ((x :: r).drop (chr1 (x :: r)).2)).flatMap qV
        rw [hk, ← vals_quote n ((x :: r).drop k) (by rw [List.length_drop]; rw [List.length_cons] at h ⊢; omega), hqk]
        have hlk : ((x :: r).take k).length = k := by rw [List.length_take]; omega
        congr 2
        conv => lhs; arg 1; rw [← hlk]
        exact List.drop_left
end Go.Proofs.YtchdeboialbdiaaDoor
/- Patterns of plain parts: what is written is read again; which places they lead to: plain law. -/
namespace Go.Proofs.YtchdeboialbdiaaDoor
set_option linter.unusedVariables false
set_option linter.unusedSimpArgs false
open Go.Lib hiding intOf
/-- a part: a character (or any one), and how many: one, or by '?', '*', '+' (0 to 3) -/
structure BitN where
  r : Nat
  any : Bool
  how : Nat
def sgn (how : Nat) : List Nat := if how = 1 then [63] else if how = 2 then [42] else if how = 3 then [43] else []
def bitV (b : BitN) : List Nat := (if b.any = true then [46] else qV b.r) ++ sgn b.how
def itB (b : BitN) : Itm := ⟨if b.any = true then 46 else 99, false, if b.any = true then [] else [.rng b.r b.r], if b.how = 1 ∨ b.how = 2 then 0 else 1, decide (b.how = 2 ∨ b.how = 3)⟩
def partsV (l : List BitN) : List Nat := l.flatMap bitV
theorem at_pre (pre X : List Nat) (k : Nat) : (pre ++ X)[pre.length + k]? = X[k]? := by
  rw [List.getElem?_append_right (by omega), Nat.add_sub_cancel_left]
theorem count_sgn {V rest : List Nat} {j : Nat} (how : Nat) (hj : ∀ k, V[j + k]? = (sgn how ++ rest)[k]?) (hr : ∀ x t, rest = x :: t → x ≠ 42 ∧ x ≠ 43 ∧ x ≠ 63) :
    countP V j = (if how = 1 ∨ how = 2 then 0 else 1, decide (how = 2 ∨ how = 3), j + (sgn how).length) := by
  have h0 := hj 0
  rw [Nat.add_zero] at h0
  unfold countP
  rw [h0]
  by_cases h1 : how = 1
  · subst h1; rfl
  · by_cases h2 : how = 2
    · subst h2; rfl
    · by_cases h3 : how = 3
      · subst h3; rfl
      · have e : sgn how = [] := by unfold sgn; rw [if_neg h1, if_neg h2, if_neg h3]
        rw [e, if_neg (by omega : ¬ (how = 1 ∨ how = 2)), decide_eq_false (by omega : ¬ (how = 2 ∨ how = 3))]
        cases rest with
        | nil => rfl
        | cons x t =>
          obtain ⟨a1, a2, a3⟩ := hr x t rfl
          show (if some x = some 42 then _ else _) = _
          rw [if_neg (by intro h; exact a1 (Option.some.inj h)), if_neg (by intro h; exact a2 (Option.some.inj h)), if_neg (by intro h; exact a3 (Option.some.inj h))]
          rfl
theorem bitV_front (b : BitN) (s : List Nat) : ∀ x t, bitV b ++ s = x :: t → x ≠ 42 ∧ x ≠ 43 ∧ x ≠ 63 := by
  intro x t e
  unfold bitV at e
  by_cases h : b.any = true
  · rw [if_pos h] at e
    cases e
    decide
  · rw [if_neg h] at e
    unfold qV at e
    by_cases hq : qmN b.r = true
    · rw [if_pos hq] at e
      cases e
      decide
    · rw [if_neg hq] at e
      have hx : x = b.r := by
        have := congrArg List.head? e
        simpa using this.symm
      unfold qmN at hq
      rw [decide_eq_true_iff] at hq
      omega
theorem parts_front (l : List BitN) : ∀ x t, partsV l = x :: t → x ≠ 42 ∧ x ≠ 43 ∧ x ≠ 63 := by
  intro x t e
  cases l with
  | nil => cases e
  | cons b r => exact bitV_front b _ x t e
theorem mark_of {v : Nat} (h : qmN v = true) : markN v = true := by
  unfold qmN at h
  rw [decide_eq_true_iff] at h
  unfold markN
  rcases h with rfl | rfl | rfl | rfl | rfl | rfl | rfl | rfl | rfl <;> rfl
theorem item_part (pre rest : List Nat) (b : BitN) (hr : ∀ x t, rest = x :: t → x ≠ 42 ∧ x ≠ 43 ∧ x ≠ 63) :
    itemP (pre ++ (bitV b ++ rest)) pre.length = .inr (itB b, pre.length + (bitV b).length) := by
  obtain ⟨V, hV⟩ : ∃ V, pre ++ (bitV b ++ rest) = V := ⟨_, rfl⟩
  have hat : ∀ k, V[pre.length + k]? = (bitV b ++ rest)[k]? := fun k => by rw [← hV]; exact at_pre _ _ _
  rw [hV]
  by_cases h : b.any = true
  · have e : bitV b ++ rest = 46 :: (sgn b.how ++ rest) := by unfold bitV; rw [if_pos h]; rfl
    have h0 : V[pre.length]? = some 46 := by have := hat 0; rw [e] at this; exact this
    have hc := count_sgn (V := V) (j := pre.length + 1) b.how (fun k => by have := hat (1 + k); rw [e, Nat.add_comm 1 k, List.getElem?_cons_succ] at this; rw [← this]; congr 1; omega) hr
    unfold itemP
    rw [h0]
    have hl : (bitV b).length = 1 + (sgn b.how).length := by unfold bitV; rw [if_pos h, List.length_append]; rfl
    show Sum.inr (withCount V 46 false [] (pre.length + 1)) = _
    unfold withCount
    rw [hc, hl]
    unfold itB
    rw [if_pos h, if_pos h, ← Nat.add_assoc]
  · by_cases hq : qmN b.r = true
    · have e : bitV b ++ rest = 92 :: b.r :: (sgn b.how ++ rest) := by unfold bitV qV; rw [if_neg h, if_pos hq]; rfl
      have h0 : V[pre.length]? = some 92 := by have := hat 0; rw [e] at this; exact this
      have h1 : V[pre.length + 1]? = some b.r := by have := hat 1; rw [e] at this; exact this
      have hc := count_sgn (V := V) (j := pre.length + 2) b.how (fun k => by have := hat (k + 2); rw [e, List.getElem?_cons_succ, List.getElem?_cons_succ] at this; rw [← this]; congr 1; omega) hr
      have hl : (bitV b).length = 2 + (sgn b.how).length := by unfold bitV qV; rw [if_neg h, if_pos hq, List.length_append]; rfl
      have ho : oneP V pre.length = .inr (0, b.r, pre.length + 2) := by
        unfold oneP
        rw [h0]
        dsimp only
        rw [if_pos rfl, h1]
        dsimp only
        rw [if_pos (mark_of hq)]
      unfold itemP
      rw [h0]
      show (match oneP V pre.length with | .inl b => _ | .inr (k, v, j) => _) = _
      rw [ho]
      show Sum.inr (withCount V 99 false [if 0 = 0 then El.rng b.r b.r else El.kind 0] (pre.length + 2)) = _
      unfold withCount
      rw [hc, hl, if_pos rfl]
      unfold itB
      rw [if_neg h, if_neg h, ← Nat.add_assoc]
    · have e : bitV b ++ rest = b.r :: (sgn b.how ++ rest) := by unfold bitV qV; rw [if_neg h, if_neg hq]; rfl
      have h0 : V[pre.length]? = some b.r := by have := hat 0; rw [e] at this; exact this
      have hc := count_sgn (V := V) (j := pre.length + 1) b.how (fun k => by have := hat (1 + k); rw [e, Nat.add_comm 1 k, List.getElem?_cons_succ] at this; rw [← this]; congr 1; omega) hr
      have hl : (bitV b).length = 1 + (sgn b.how).length := by unfold bitV qV; rw [if_neg h, if_neg hq, List.length_append]; rfl
      have hn := hq
      unfold qmN at hn
      rw [decide_eq_true_iff] at hn
      have ho : oneP V pre.length = .inr (0, b.r, pre.length + 1) := by
        unfold oneP
        rw [h0]
        dsimp only
        rw [if_neg (by omega)]
      unfold itemP
      rw [h0]
      dsimp only
      rw [if_neg (by omega), if_neg (by omega), if_neg (by omega), if_neg (by omega), ho]
      dsimp only
      unfold withCount
      rw [hc, hl, if_pos rfl]
      unfold itB
      rw [if_neg h, if_neg h, ← Nat.add_assoc]
theorem bitV_pos (b : BitN) : 1 ≤ (bitV b).length := by
  unfold bitV
  rw [List.length_append]
  split
  · show 1 ≤ 1 + _; omega
  · unfold qV
    split
    · show 1 ≤ 2 + _; omega
    · show 1 ≤ 1 + _; omega
theorem items_parts : ∀ (l : List BitN) (pre : List Nat) (acc : List Itm) (f : Nat), l.length < f → itemsGo (pre ++ partsV l) f pre.length acc = .inr (acc ++ l.map itB)
  | [], pre, acc, 0, h => by rw [itemsGo, List.map_nil, List.append_nil]
  | [], pre, acc, f + 1, h => by
    rw [itemsGo, if_pos (by show (pre ++ []).length ≤ pre.length; rw [List.append_nil]; exact Nat.le_refl _), List.map_nil, List.append_nil]
  | b :: r, pre, acc, 0, h => by cases h
  | b :: r, pre, acc, f + 1, h => by
    have hp := bitV_pos b
    have e : pre ++ partsV (b :: r) = pre ++ (bitV b ++ partsV r) := rfl
    rw [itemsGo, e, if_neg (by rw [List.length_append, List.length_append]; omega), item_part pre (partsV r) b (parts_front r)]
    dsimp only
    have ih := items_parts r (pre ++ bitV b) (acc ++ [itB b]) f (by rw [List.length_cons] at h; omega)
    rw [List.append_assoc, List.length_append] at ih
    rw [ih, List.append_assoc, List.map_cons]
    rfl
theorem parts_len : ∀ (l : List BitN), l.length ≤ (partsV l).length
  | [] => Nat.le_refl _
  | b :: r => by
    have := parts_len r
    have := bitV_pos b
    show r.length + 1 ≤ (bitV b ++ partsV r).length
    rw [List.length_append]
    omega
theorem fold_parts (l : List BitN) : foldedP (partsV l) = false := by
  unfold foldedP
  rw [decide_eq_false_iff_not]
  rintro ⟨h0, h1⟩
  cases l with
  | nil => cases h0
  | cons b r =>
    change (bitV b ++ partsV r)[0]? = some 92 at h0
    change (bitV b ++ partsV r)[1]? = some 105 at h1
    unfold bitV at h0 h1
    by_cases h : b.any = true
    · rw [if_pos h] at h0
      cases h0
    · rw [if_neg h] at h0 h1
      unfold qV at h0 h1
      by_cases hq : qmN b.r = true
      · rw [if_pos hq] at h0 h1
        have : b.r = 105 := Option.some.inj h1
        rw [this] at hq
        cases hq
      · rw [if_neg hq] at h0
        have : b.r = 92 := Option.some.inj h0
        rw [this] at hq
        exact hq rfl
theorem parts_items (l : List BitN) : itemsP (partsV l) = .inr (l.map itB) := by
  unfold itemsP
  rw [fold_parts, if_neg (by decide)]
  have := items_parts l [] [] ((partsV l).length + 1) (by have := parts_len l; omega)
  exact this
/-- the places to which items lead, one behind the other -/
def chainR (fo : Bool) (V : List Nat) : List Itm → Nat → Nat → Prop
  | [], i, j => i = j
  | it :: r, i, j => ∃ m, Reach (atP fo V it) (decide (it.least = 0)) it.many i m ∧ chainR fo V r m j
theorem reach_chain (fo : Bool) (V : List Nat) : ∀ (its : List Itm), (∀ it ∈ its, isEdge it = false) → ∀ (S : Nat → Bool) (j : Nat), reachP fo V its S j = true ↔ ∃ i, S i = true ∧ chainR fo V its i j
  | [], _, S, j => by
    show S j = true ↔ ∃ i, S i = true ∧ i = j
    constructor
    · intro h; exact ⟨j, h, rfl⟩
    · rintro ⟨i, h, rfl⟩; exact h
  | it :: r, h, S, j => by
    rw [reachP, reach_chain fo V r (fun x hx => h x (List.mem_cons_of_mem _ hx))]
    constructor
    · rintro ⟨m, h1, h2⟩
      obtain ⟨i, h3, h4⟩ := (led_iff fo V it S (h it (List.mem_cons_self ..)) m).1 h1
      exact ⟨i, h3, m, h4, h2⟩
    · rintro ⟨i, h3, m, h4, h2⟩
      exact ⟨m, (led_iff fo V it S (h it (List.mem_cons_self ..)) m).2 ⟨i, h3, h4⟩, h2⟩
theorem reachR_le {at_ : Nat → Bool} {zero many : Bool} {i m : Nat} (h : Reach at_ zero many i m) : i ≤ m := by
  rcases h with h | h
  · omega
  · omega
theorem chain_le (fo : Bool) (V : List Nat) : ∀ (its : List Itm) (i j : Nat), chainR fo V its i j → i ≤ j
  | [], i, j, h => Nat.le_of_eq h
  | it :: r, i, j, ⟨m, h1, h2⟩ => Nat.le_trans (reachR_le h1) (chain_le fo V r m j h2)
theorem part_edge (b : BitN) : isEdge (itB b) = false := by
  unfold isEdge itB
  rw [decide_eq_false_iff_not]
  dsimp only
  split <;> omega
theorem parts_edge (l : List BitN) : ∀ it ∈ l.map itB, isEdge it = false := by
  intro it h
  obtain ⟨b, _, rfl⟩ := List.mem_map.1 h
  exact part_edge b
/-- from i: the last place that can be come to -/
theorem longest_chain (fo : Bool) (V : List Nat) (its : List Itm) (h : ∀ it ∈ its, isEdge it = false) (i : Nat) : match longestP fo V its i with
    | some j => j ≤ V.length ∧ chainR fo V its i j ∧ ∀ k, j < k → k ≤ V.length → ¬ chainR fo V its i k
    | none => ∀ k, k ≤ V.length → ¬ chainR fo V its i k := by
  have hs := lastTrue_spec (reachP fo V its fun j => decide (j = i)) V.length
  have hc : ∀ k, (reachP fo V its (fun j => decide (j = i)) k = true) ↔ chainR fo V its i k := by
    intro k
    rw [reach_chain fo V its h]
    constructor
    · rintro ⟨a, h1, h2⟩
      have : a = i := of_decide_eq_true h1
      rw [← this]; exact h2
    · intro h2
      exact ⟨i, decide_eq_true rfl, h2⟩
  unfold longestP
  cases hl : lastTrue (reachP fo V its fun j => decide (j = i)) V.length with
  | none =>
    rw [hl] at hs
    intro k hk hck
    have := hs k hk
    rw [(hc k).2 hck] at this
    cases this
  | some j =>
    rw [hl] at hs
    refine ⟨hs.1, (hc j).1 hs.2.1, fun k h1 h2 hck => ?_⟩
    have := hs.2.2 k h1 h2
    rw [(hc k).2 hck] at this
    cases this
/-- is the character at t one of the part's? -/
def hereB (V : List Nat) (b : BitN) (t : Nat) : Bool := atP false V (itB b) t
theorem chain_zero (V : List Nat) (b : BitN) (r : List Itm) (t j : Nat) (h1 : b.how ≠ 1) (h2 : b.how ≠ 2) (h3 : b.how ≠ 3) : chainR false V (itB b :: r) t j ↔ (hereB V b t = true ∧ chainR false V r (t + 1) j) := by
  have e1 : decide ((itB b).least = 0) = false := by
    rw [decide_eq_false_iff_not]
    show ¬ (if b.how = 1 ∨ b.how = 2 then 0 else 1) = 0
    rw [if_neg (by omega)]
    decide
  have e2 : (itB b).many = false := decide_eq_false (by omega)
  show (∃ m, Reach (atP false V (itB b)) (decide ((itB b).least = 0)) (itB b).many t m ∧ chainR false V r m j) ↔ _
  rw [e1, e2]
  constructor
  · rintro ⟨m, h | ⟨h4, h5, h6⟩, hr⟩
    · cases h.2
    · rcases h5 with h5 | h5
      · cases h5
      · subst h5
        exact ⟨h6 t (Nat.le_refl _) (by omega), hr⟩
  · rintro ⟨h4, h5⟩
    exact ⟨t + 1, .inr ⟨by omega, .inr rfl, fun k k1 k2 => by obtain rfl : k = t := (by omega); exact h4⟩, h5⟩
theorem chain_maybe (V : List Nat) (b : BitN) (r : List Itm) (t j : Nat) (h1 : b.how = 1) : chainR false V (itB b :: r) t j ↔ (chainR false V r t j ∨ (hereB V b t = true ∧ chainR false V r (t + 1) j)) := by
  have e1 : decide ((itB b).least = 0) = true := by
    rw [decide_eq_true_iff]
    show (if b.how = 1 ∨ b.how = 2 then 0 else 1) = 0
    rw [if_pos (by omega)]
  have e2 : (itB b).many = false := decide_eq_false (by omega)
  show (∃ m, Reach (atP false V (itB b)) (decide ((itB b).least = 0)) (itB b).many t m ∧ chainR false V r m j) ↔ _
  rw [e1, e2]
  constructor
  · rintro ⟨m, h | ⟨h4, h5, h6⟩, hr⟩
    · left; rw [← h.1]; exact hr
    · rcases h5 with h5 | h5
      · cases h5
      · subst h5
        exact .inr ⟨h6 t (Nat.le_refl _) (by omega), hr⟩
  · rintro (h | ⟨h4, h5⟩)
    · exact ⟨t, .inl ⟨rfl, rfl⟩, h⟩
    · exact ⟨t + 1, .inr ⟨by omega, .inr rfl, fun k k1 k2 => by obtain rfl : k = t := (by omega); exact h4⟩, h5⟩
theorem chain_star (V : List Nat) (b : BitN) (r : List Itm) (t j : Nat) (h1 : b.how = 2) : chainR false V (itB b :: r) t j ↔ (chainR false V r t j ∨ (hereB V b t = true ∧ chainR false V (itB b :: r) (t + 1) j)) := by
  have e1 : decide ((itB b).least = 0) = true := by
    rw [decide_eq_true_iff]
    show (if b.how = 1 ∨ b.how = 2 then 0 else 1) = 0
    rw [if_pos (by omega)]
  have e2 : (itB b).many = true := decide_eq_true (by omega)
  show (∃ m, Reach (atP false V (itB b)) (decide ((itB b).least = 0)) (itB b).many t m ∧ chainR false V r m j) ↔ (_ ∨ (_ ∧ ∃ m, Reach (atP false V (itB b)) (decide ((itB b).least = 0)) (itB b).many (t + 1) m ∧ chainR false V r m j))
  rw [e1, e2]
  constructor
  · rintro ⟨m, h | ⟨h4, h5, h6⟩, hr⟩
    · left; rw [← h.1]; exact hr
    · right
      refine ⟨h6 t (Nat.le_refl _) h4, m, ?_, hr⟩
      by_cases hm : m = t + 1
      · exact .inl ⟨hm, rfl⟩
      · exact .inr ⟨by omega, .inl rfl, fun k k1 k2 => h6 k (by omega) k2⟩
  · rintro (h | ⟨h4, m, h5, h6⟩)
    · exact ⟨t, .inl ⟨rfl, rfl⟩, h⟩
    · refine ⟨m, .inr ?_, h6⟩
      have hle := reachR_le h5
      refine ⟨by omega, .inl rfl, fun k k1 k2 => ?_⟩
      by_cases hk : k = t
      · rw [hk]; exact h4
      · rcases h5 with h5 | ⟨_, _, h5⟩
        · omega
        · exact h5 k (by omega) k2
theorem chain_plus (V : List Nat) (b : BitN) (r : List Itm) (t j : Nat) (h1 : b.how = 3) : chainR false V (itB b :: r) t j ↔ (hereB V b t = true ∧ (chainR false V r (t + 1) j ∨ chainR false V (itB b :: r) (t + 1) j)) := by
  have e1 : decide ((itB b).least = 0) = false := by
    rw [decide_eq_false_iff_not]
    show ¬ (if b.how = 1 ∨ b.how = 2 then 0 else 1) = 0
    rw [if_neg (by omega)]
    decide
  have e2 : (itB b).many = true := decide_eq_true (by omega)
  show (∃ m, Reach (atP false V (itB b)) (decide ((itB b).least = 0)) (itB b).many t m ∧ chainR false V r m j) ↔ (_ ∧ (_ ∨ ∃ m, Reach (atP false V (itB b)) (decide ((itB b).least = 0)) (itB b).many (t + 1) m ∧ chainR false V r m j))
  rw [e1, e2]
  constructor
  · rintro ⟨m, h | ⟨h4, h5, h6⟩, hr⟩
    · cases h.2
    · refine ⟨h6 t (Nat.le_refl _) h4, ?_⟩
      by_cases hm : m = t + 1
      · left; rw [← hm]; exact hr
      · right
        exact ⟨m, .inr ⟨by omega, .inl rfl, fun k k1 k2 => h6 k (by omega) k2⟩, hr⟩
  · rintro ⟨h4, h | ⟨m, h5, h6⟩⟩
    · exact ⟨t + 1, .inr ⟨by omega, .inl rfl, fun k k1 k2 => by obtain rfl : k = t := (by omega); exact h4⟩, h⟩
    · refine ⟨m, .inr ?_, h6⟩
      have hle := reachR_le h5
      refine ⟨by omega, .inl rfl, fun k k1 k2 => ?_⟩
      by_cases hk : k = t
      · rw [hk]; exact h4
      · rcases h5 with h5 | ⟨_, _, h5⟩
        · cases h5.2
        · exact h5 k (by omega) k2
theorem atP_lt {fo : Bool} {V : List Nat} {it : Itm} {t : Nat} (h : atP fo V it t = true) : t < V.length := by
  unfold atP at h
  cases hv : V[t]? with
  | none => rw [hv] at h; cases h
  | some v => exact lt_of_some hv
/-- plain characters one behind the other -/
def plainP (vs : List Nat) : List BitN := vs.map fun v => ⟨v, false, 0⟩
theorem here_sing (V : List Nat) (v t : Nat) : hereB V ⟨v, false, 0⟩ t = true ↔ V[t]? = some v := by
  unfold hereB atP
  cases h : V[t]? with
  | none => simp
  | some x =>
    show atomIs false (itB ⟨v, false, 0⟩) x = true ↔ _
    have : atomIs false (itB ⟨v, false, 0⟩) x = (decide (v ≤ x) && decide (x ≤ v)) := rfl
    rw [this, Bool.and_eq_true, decide_eq_true_iff, decide_eq_true_iff, Option.some.injEq]
    omega
theorem chain_sing (V : List Nat) : ∀ (vs : List Nat) (i j : Nat), chainR false V ((plainP vs).map itB) i j ↔ (j = i + vs.length ∧ vs <+: V.drop i)
  | [], i, j => by
    show i = j ↔ (j = i + 0 ∧ [] <+: V.drop i)
    exact ⟨fun h => ⟨h.symm, List.nil_prefix⟩, fun h => h.1.symm⟩
  | v :: vs, i, j => by
    show chainR false V (itB ⟨v, false, 0⟩ :: (plainP vs).map itB) i j ↔ _
    rw [chain_zero V ⟨v, false, 0⟩ _ i j (show (0 : Nat) ≠ 1 by decide) (show (0 : Nat) ≠ 2 by decide) (show (0 : Nat) ≠ 3 by decide), here_sing, chain_sing V vs (i + 1) j]
    constructor
    · rintro ⟨h1, h2, h3⟩
      have hlt := lt_of_some h1
      refine ⟨by rw [List.length_cons]; omega, ?_⟩
      rw [List.drop_eq_getElem_cons hlt]
      have : V[i] = v := Option.some.inj ((List.getElem?_eq_getElem hlt).symm.trans h1)
      rw [this]
      exact List.cons_prefix_cons.2 ⟨rfl, h3⟩
    · rintro ⟨h1, h2⟩
      have hlt : i < V.length := by
        apply Decidable.byContradiction
        intro hc
        rw [List.drop_of_length_le (by omega)] at h2
        have := h2.length_le
        simp at this
      rw [List.drop_eq_getElem_cons hlt] at h2
      obtain ⟨h3, h4⟩ := List.cons_prefix_cons.1 h2
      exact ⟨by rw [List.getElem?_eq_getElem hlt, h3], by rw [List.length_cons] at h1; omega, h4⟩
theorem longest_sing (V vs : List Nat) (i : Nat) : longestP false V ((plainP vs).map itB) i = if vs <+: V.drop i ∧ i ≤ V.length then some (i + vs.length) else none := by
  have h := longest_chain false V ((plainP vs).map itB) (parts_edge _) i
  cases hl : longestP false V ((plainP vs).map itB) i with
  | none =>
    rw [hl] at h
    rw [if_neg]
    rintro ⟨h1, h2⟩
    have h3 := h1.length_le
    rw [List.length_drop] at h3
    exact h (i + vs.length) (by omega) ((chain_sing V vs i _).2 ⟨rfl, h1⟩)
  | some j =>
    rw [hl] at h
    obtain ⟨h1, h2⟩ := (chain_sing V vs i j).1 h.2.1
    rw [if_pos ⟨h2, by omega⟩, h1]
theorem quote_items (s : List UInt8) : itemsP (valsL (quoteL s)) = .inr ((plainP (valsL s)).map itB) ∧ foldedP (valsL (quoteL s)) = false := by
  have e : valsL (quoteL s) = partsV (plainP (valsL s)) := by
    rw [vals_quote _ s (Nat.le_refl _)]
    unfold partsV plainP
    rw [List.flatMap_map]
    congr 1
    funext v
    show qV v = qV v ++ sgn 0
    rw [show sgn 0 = [] from rfl, List.append_nil]
  rw [e]
  exact ⟨parts_items _, fold_parts _⟩
end Go.Proofs.YtchdeboialbdiaaDoor
