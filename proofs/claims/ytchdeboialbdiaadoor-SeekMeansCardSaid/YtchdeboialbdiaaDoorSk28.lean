/- Texts joined, one behind the other (SEncP, SPcOwn, SEq). -/
import Derived.Test.YtchdeboialbdiaaDoorSk27
import Derived.Lib.MapLaws
/- A rune's bytes are read again, whatever stands behind them: plain law. -/
namespace Go.Proofs.YtchdeboialbdiaaDoor
set_option linter.unusedVariables false
set_option linter.unusedSimpArgs false
open Go.Lib hiding intOf
theorem byte_of {z : Int} {n : Nat} (h : z = (n : Int)) (hn : n < 256) : (z.toNat.toUInt8).toNat = n := by
  subst h
  rw [Int.toNat_natCast]
  show (UInt8.ofNat n).toNat = n
  rw [UInt8.toNat_ofNat']
  omega
theorem dec_enc (r : Nat) (h1 : r < 1114112) (h2 : r < 55296 ∨ 57343 < r) (rest : List UInt8) : decodeL (encodeRune (r : Int) ++ rest) = (r, (encodeRune (r : Int)).length) := by
  rw [decodeL_N]
  unfold encodeRune
  by_cases c1 : r < 128
  · rw [encodeRuneZ_one (by omega) (by omega)]
    simp only [List.map_cons, List.map_nil, List.cons_append, List.nil_append, List.length_cons, List.length_nil, List.getD_cons_zero]
    rw [byte_of rfl (by omega)]
    unfold decodeN
    rw [if_pos c1]
  · by_cases c2 : r < 2048
    · rw [encodeRuneZ_two (by omega) (by omega)]
      simp only [List.map_cons, List.map_nil, List.cons_append, List.nil_append, List.length_cons, List.length_nil, List.getD_cons_zero, List.getD_cons_succ]
      rw [byte_of (n := 192 + r / 64) (by omega) (by omega), byte_of (n := 128 + r % 64) (by omega) (by omega)]
      unfold decodeN
      rw [if_neg (by omega), if_pos (by omega), if_pos (by omega)]
      refine Prod.ext ?_ rfl
      show (192 + r / 64) % 32 * 64 + (128 + r % 64) % 64 = r
      omega
    · by_cases c3 : r < 65536
      · rw [encodeRuneZ_three (by omega)]
        simp only [List.map_cons, List.map_nil, List.cons_append, List.nil_append, List.length_cons, List.length_nil, List.getD_cons_zero, List.getD_cons_succ]
        rw [byte_of (n := 224 + r / 4096) (by omega) (by omega), byte_of (n := 128 + r / 64 % 64) (by omega) (by omega), byte_of (n := 128 + r % 64) (by omega) (by omega)]
        unfold decodeN
        rw [if_neg (by omega), if_neg (by omega), if_pos (by omega), if_pos (by omega)]
        refine Prod.ext ?_ rfl
        show (224 + r / 4096) % 16 * 4096 + (128 + r / 64 % 64) % 64 * 64 + (128 + r % 64) % 64 = r
        omega
      · rw [encodeRuneZ_four (by omega) (by omega)]
        simp only [List.map_cons, List.map_nil, List.cons_append, List.nil_append, List.length_cons, List.length_nil, List.getD_cons_zero, List.getD_cons_succ]
        rw [byte_of (n := 240 + r / 262144) (by omega) (by omega), byte_of (n := 128 + r / 4096 % 64) (by omega) (by omega), byte_of (n := 128 + r / 64 % 64) (by omega) (by omega), byte_of (n := 128 + r % 64) (by omega) (by omega)]
        unfold decodeN
        rw [if_neg (by omega), if_neg (by omega), if_neg (by omega), if_pos (by omega), if_pos (by omega)]
        refine Prod.ext ?_ rfl
        show (240 + r / 262144) % 8 * 262144 + (128 + r / 4096 % 64) % 64 * 4096 + (128 + r / 64 % 64) % 64 * 64 + (128 + r % 64) % 64 = r
        omega
/-- a rune that may be -/
def MayN (r : Nat) : Prop := r < 1114112 ∧ (r < 55296 ∨ 57343 < r)
theorem enc_len (r : Nat) (h : MayN r) : 1 ≤ (encodeRune (r : Int)).length ∧ (r = 65533 → (encodeRune (r : Int)).length = 3) := by
  obtain ⟨h1, h2⟩ := h
  unfold encodeRune
  rw [List.length_map]
  by_cases c1 : r < 128
  · rw [encodeRuneZ_one (by omega) (by omega)]; exact ⟨Nat.le_refl _, fun h => by omega⟩
  · by_cases c2 : r < 2048
    · rw [encodeRuneZ_two (by omega) (by omega)]; exact ⟨by simp, fun h => by omega⟩
    · by_cases c3 : r < 65536
      · rw [encodeRuneZ_three (by omega)]; exact ⟨by simp, fun _ => rfl⟩
      · rw [encodeRuneZ_four (by omega) (by omega)]; exact ⟨by simp, fun h => by omega⟩
theorem vals_enc (r : Nat) (h : MayN r) (rest : List UInt8) : valsL (encodeRune (r : Int) ++ rest) = r :: valsL rest := by
  obtain ⟨hl, hl3⟩ := enc_len r h
  have hd := dec_enc r h.1 h.2 rest
  have hne : encodeRune (r : Int) ++ rest ≠ [] := by
    intro e
    have := congrArg List.length e
    rw [List.length_append, List.length_nil] at this
    omega
  have hr : RightD (decodeL (encodeRune (r : Int) ++ rest)) := by
    rw [hd]
    by_cases h5 : r = 65533
    · exact .inr (by rw [hl3 h5]; show 1 < 3; decide)
    · exact .inl h5
  rw [vals_cons hne, chr1_right hr, hd]
  rw [List.drop_left]
theorem vals_low (x : UInt8) (hx : x.toNat < 128) (rest : List UInt8) : valsL (x :: rest) = x.toNat :: valsL rest := by
  rw [vals_cons (by simp), chr_low hx]
  rfl
/-- a part as it is written -/
def bitL (b : BitN) : List UInt8 := (if b.any = true then [46] else quoteL (encodeRune (b.r : Int))) ++ (sgn b.how).map UInt8.ofNat
def writL (l : List BitN) : List UInt8 := l.flatMap bitL
theorem sgn_low (how : Nat) (rest : List UInt8) : valsL ((sgn how).map UInt8.ofNat ++ rest) = sgn how ++ valsL rest := by
  unfold sgn
  by_cases h1 : how = 1
  · rw [if_pos h1]; exact vals_low 63 (by decide) rest
  · rw [if_neg h1]
    by_cases h2 : how = 2
    · rw [if_pos h2]; exact vals_low 42 (by decide) rest
    · rw [if_neg h2]
      by_cases h3 : how = 3
      · rw [if_pos h3]; exact vals_low 43 (by decide) rest
      · rw [if_neg h3]; rfl
theorem enc_high (r : Nat) (h : MayN r) (hr : 128 ≤ r) : ∀ x ∈ encodeRune (r : Int), 128 ≤ x.toNat := by
  obtain ⟨h1, h2⟩ := h
  unfold encodeRune
  by_cases c2 : r < 2048
  · rw [encodeRuneZ_two (by omega) (by omega)]
    intro x hx
    simp only [List.map_cons, List.map_nil, List.mem_cons, List.not_mem_nil, or_false] at hx
    rcases hx with rfl | rfl
    · rw [byte_of (n := 192 + r / 64) (by omega) (by omega)]; omega
    · rw [byte_of (n := 128 + r % 64) (by omega) (by omega)]; omega
  · by_cases c3 : r < 65536
    · rw [encodeRuneZ_three (by omega)]
      intro x hx
      simp only [List.map_cons, List.map_nil, List.mem_cons, List.not_mem_nil, or_false] at hx
      rcases hx with rfl | rfl | rfl
      · rw [byte_of (n := 224 + r / 4096) (by omega) (by omega)]; omega
      · rw [byte_of (n := 128 + r / 64 % 64) (by omega) (by omega)]; omega
      · rw [byte_of (n := 128 + r % 64) (by omega) (by omega)]; omega
    · rw [encodeRuneZ_four (by omega) (by omega)]
      intro x hx
      simp only [List.map_cons, List.map_nil, List.mem_cons, List.not_mem_nil, or_false] at hx
      rcases hx with rfl | rfl | rfl | rfl
      · rw [byte_of (n := 240 + r / 262144) (by omega) (by omega)]; omega
      · rw [byte_of (n := 128 + r / 4096 % 64) (by omega) (by omega)]; omega
      · rw [byte_of (n := 128 + r / 64 % 64) (by omega) (by omega)]; omega
      · rw [byte_of (n := 128 + r % 64) (by omega) (by omega)]; omega
theorem quote_enc (r : Nat) (h : MayN r) (rest : List UInt8) : valsL (quoteL (encodeRune (r : Int)) ++ rest) = qV r ++ valsL rest := by
  by_cases c1 : r < 128
  · have he : encodeRune (r : Int) = [UInt8.ofNat r] := by
      unfold encodeRune
      rw [encodeRuneZ_one (by omega) (by omega)]
      simp only [List.map_cons, List.map_nil, Int.toNat_natCast]
    have hn : (UInt8.ofNat r).toNat = r := by rw [UInt8.toNat_ofNat']; omega
    have hq : qm (UInt8.ofNat r) = qmN r := by rw [qm_eq, hn]
    rw [he]
    show valsL ((qOne (UInt8.ofNat r) ++ []) ++ rest) = _
    unfold qOne qV
    rw [hq]
    by_cases hm : qmN r = true
    · rw [if_pos hm, if_pos hm]
      show valsL (92 :: UInt8.ofNat r :: rest) = _
      rw [vals_low 92 (by decide), vals_low _ (by rw [hn]; exact c1), hn]
      rfl
    · rw [if_neg hm, if_neg hm]
      show valsL (UInt8.ofNat r :: rest) = _
      rw [vals_low _ (by rw [hn]; exact c1), hn]; try rfl
  · rw [quote_high _ (enc_high r h (by omega)), vals_enc r h]
    unfold qV
    rw [if_neg (by unfold qmN; rw [decide_eq_true_iff]; omega)]
    rfl
theorem vals_writ : ∀ (l : List BitN), (∀ b ∈ l, MayN b.r) → valsL (writL l) = partsV l
  | [], _ => rfl
  | b :: r, h => by
    have ih := vals_writ r (fun b hb => h b (List.mem_cons_of_mem _ hb))
    show valsL (bitL b ++ writL r) = bitV b ++ partsV r
    unfold bitL bitV
    rw [List.append_assoc, List.append_assoc]
    by_cases ha : b.any = true
    · rw [if_pos ha, if_pos ha]
      show valsL (46 :: ((sgn b.how).map UInt8.ofNat ++ writL r)) = _
      rw [vals_low 46 (by decide), sgn_low, ih]
      rfl
    · rw [if_neg ha, if_neg ha, quote_enc _ (h b (List.mem_cons_self ..)), sgn_low, ih]
theorem enc_le4 (r : Nat) : (encodeRune (r : Int)).length ≤ 4 := by
  unfold encodeRune encodeRuneZ
  rw [List.length_map]
  repeat' split
  all_goals simp
theorem bitL_len (b : BitN) (h : MayN b.r) : (bitL b).length ≤ 5 := by
  have hs : ((sgn b.how).map UInt8.ofNat).length ≤ 1 := by
    unfold sgn
    repeat' split
    all_goals simp
  unfold bitL
  rw [List.length_append]
  by_cases ha : b.any = true
  · rw [if_pos ha]
    show 1 + _ ≤ 5
    omega
  · rw [if_neg ha]
    have : (quoteL (encodeRune (b.r : Int))).length ≤ 4 := by
      by_cases c1 : b.r < 128
      · have h1 : (encodeRune (b.r : Int)).length = 1 := by
          unfold encodeRune
          rw [encodeRuneZ_one (by omega) (by omega)]
          rfl
        have := quote_len (encodeRune (b.r : Int))
        omega
      · rw [quote_high _ (enc_high b.r h (by omega))]
        exact enc_le4 b.r
    omega
theorem writL_len : ∀ (l : List BitN), (∀ b ∈ l, MayN b.r) → (writL l).length ≤ 5 * l.length
  | [], _ => Nat.zero_le _
  | b :: r, h => by
    have ih := writL_len r (fun b hb => h b (List.mem_cons_of_mem _ hb))
    have h1 := bitL_len b (h b (List.mem_cons_self ..))
    show (bitL b ++ writL r).length ≤ 5 * (r.length + 1)
    rw [List.length_append]
    omega
/-- the pattern that is written is read as these parts, and is not folded -/
theorem writ_items (l : List BitN) (h : ∀ b ∈ l, MayN b.r) : itemsP (valsL (writL l)) = .inr (l.map itB) ∧ foldedP (valsL (writL l)) = false := by
  rw [vals_writ l h]
  exact ⟨parts_items l, fold_parts l⟩
end Go.Proofs.YtchdeboialbdiaaDoor
/- Rows of pieces of the call's own. -/
namespace Go.Proofs.YtchdeboialbdiaaDoor
set_option linter.unusedVariables false
open Go.RowKit
def pcCells (A : List Nat) (x : Nat × Nat) : List Value := [.int .i64 ((A.getD x.1 0 : Nat) : Int), .int .i64 ((A.getD x.2 0 : Nat) : Int)]
theorem infoPc : (Tryd.prog.info? 40).map (fun i => (i.zero, i.size, i.bytes)) = some (some (.agg #[.int .i64 0, .int .i64 0]), 2, 16) := by kernel_rfl
def PcOwn (B : Nat) (v : Value) (A : List Nat) (L : List (Nat × Nat)) (w : World) : Prop := w.ownsRow B 40 2 v L.length (L.flatMap (pcCells A))
theorem own_slice6 {w : World} {B : Nat} {e : TypeId} {size : Nat} {v : Value} {n : Nat} {xs : List Value} (h : w.ownsRow B e size v n xs) : ∃ a c, v = .slice a n c := by
  rcases h.2 with ⟨rfl, rfl⟩ | ⟨g, cap, cur, rfl, _⟩
  · exact ⟨_, _, rfl⟩
  · exact ⟨_, _, rfl⟩
end Go.Proofs.YtchdeboialbdiaaDoor
/- Rows of pieces that are read: the same? -/
namespace Go.Proofs.YtchdeboialbdiaaDoor
set_option linter.unusedVariables false
set_option linter.unusedSimpArgs false
open Go.RowKit
open Go.Lib
theorem pc_at {A : List Nat} : ∀ {L : List (Nat × Nat)} {k : Nat} {x : Nat × Nat}, L[k]? = some x → (L.flatMap (pcCells A))[k * 2]? = some (.int .i64 ((A.getD x.1 0 : Nat) : Int)) ∧ (L.flatMap (pcCells A))[k * 2 + 1]? = some (.int .i64 ((A.getD x.2 0 : Nat) : Int))
  | [], k, x, h => by simp at h
  | y :: r, 0, x, h => by
    simp only [List.getElem?_cons_zero, Option.some.injEq] at h
    subst h
    exact ⟨rfl, rfl⟩
  | y :: r, k + 1, x, h => by
    rw [List.getElem?_cons_succ] at h
    obtain ⟨h1, h2⟩ := pc_at (A := A) h
    rw [List.flatMap_cons, show (k + 1) * 2 = (pcCells A y).length + k * 2 from by simp [pcCells]; omega, show (pcCells A y).length + k * 2 + 1 = (pcCells A y).length + (k * 2 + 1) from by omega]
    rw [List.getElem?_append_right (by omega), List.getElem?_append_right (by omega)]
    rw [show (pcCells A y).length + k * 2 - (pcCells A y).length = k * 2 by omega, show (pcCells A y).length + (k * 2 + 1) - (pcCells A y).length = k * 2 + 1 by omega]
    exact ⟨h1, h2⟩
theorem PcOwn.at {B : Nat} {a : Option Addr} {n c : Nat} {A : List Nat} {L : List (Nat × Nat)} {w : World} (h : PcOwn B (.slice a n c) A L w) (hn : L.length = n) {k : Nat} (hk : k < n) :
    ∃ g x y, a = some ⟨g, 0, none⟩ ∧ g < w.heap.size ∧ w.cell? ⟨g, k * 2, none⟩ = some (.int .i64 x) ∧ w.cell? ⟨g, k * 2 + 1, none⟩ = some (.int .i64 y) ∧ ∃ q, L[k]? = some q ∧ x = ((A.getD q.1 0 : Nat) : Int) ∧ y = ((A.getD q.2 0 : Nat) : Int) := by
  unfold PcOwn at h
  rw [hn] at h
  obtain ⟨g, h1, h2, h3⟩ := own_cell h (by omega)
  have hx : L[k]? = some L[k] := List.getElem?_eq_getElem (by omega)
  obtain ⟨h4, h5⟩ := pc_at (A := A) hx
  exact ⟨g, _, _, h1, h2, h3 _ _ h4, h3 _ _ h5, _, hx, rfl, rfl⟩
theorem PcOwn.quiet {B : Nat} {v : Value} {A : List Nat} {L : List (Nat × Nat)} {w w' : World} (h : PcOwn B v A L w) (hq : Quiet w w') : PcOwn B v A L w' := own_below h (hq.below w.heap.size)
theorem PcOwn.take {B : Nat} {a : Option Addr} {n c m : Nat} {A : List Nat} {L : List (Nat × Nat)} {w : World} (h : PcOwn B (.slice a n c) A L w) (hn : L.length = n) (hm : m ≤ n) : PcOwn B (.slice a m c) A (L.take m) w := by
  have hl : (L.take m).length = m := by rw [List.length_take]; omega
  have hf : ∀ (X : List (Nat × Nat)), (X.flatMap (pcCells A)).length = X.length * 2 := by
    intro X
    induction X with
    | nil => rfl
    | cons x r ih => rw [List.flatMap_cons, List.length_append, ih, List.length_cons, show (pcCells A x).length = 2 from rfl]; omega
  have hs : L.flatMap (pcCells A) = (L.take m).flatMap (pcCells A) ++ (L.drop m).flatMap (pcCells A) := by rw [← List.flatMap_append, List.take_append_drop]
  unfold PcOwn at h ⊢
  rw [hn] at h
  obtain ⟨h1, h2⟩ := h
  rw [hl]
  refine ⟨by rw [hf, hl], ?_⟩
  rcases h2 with ⟨h3, h4⟩ | ⟨g, cap, cur, h3, h4, h5, h6, h7, h8, h9⟩
  · left
    subst h4
    obtain rfl : m = 0 := by omega
    exact ⟨h3, rfl⟩
  · cases h3
    refine .inr ⟨g, c, cur, rfl, h4, h5, by omega, h7, h8, ?_⟩
    have h10 := congrArg (List.take (m * 2)) h9
    rw [List.take_take, hs, Nat.min_eq_left (by omega)] at h10
    rw [h10, List.take_append_of_le_length (by rw [hf, hl]; exact Nat.le_refl _), List.take_of_length_le (by rw [hf, hl]; exact Nat.le_refl _)]
set_option maxHeartbeats 4000000 in
theorem eqC (w : World) (A : List Nat) (L : List (Nat × Nat)) (B1 B2 : Nat) (a1 a2 : Option Addr) (n c1 c2 : Nat) (h1 : PcOwn B1 (.slice a1 n c1) A L w) (h2 : PcOwn B2 (.slice a2 n c2) A L w) (hn : L.length = n) (hb : n ≤ 1073741824) :
    Calls Tryd.prog 22 #[.slice a1 n c1, .slice a2 n c2] w fun e w' => e = .returned (.bool true) ∧ Quiet w w' := by
  have HA := Lib.hid h1
  have HB := Lib.hid h2
  have HN := Lib.hid hn
  clear h1 h2 hn
  have hne : ((n : Int) != (n : Int)) = false := by simp
  go_enter Tryd.func22, Tryd.ntmps22
  go_wp2
  go_loopw [5] (fun i wr => ∃ k : Nat, k ≤ n ∧ i = .int .i64 k ∧ Quiet w wr) (fun i _ => n - (RowKit.intOf i).toNat)
  case atStart => exact ⟨0, Nat.zero_le _, rfl, Quiet.refl _⟩
  case round =>
    obtain ⟨k, hk, rfl, hq⟩ := hrel
    by_cases hlt : k < n
    · obtain ⟨g1, x, y, rfl, g1l, c11, c12, q, hq1, hx1, hy1⟩ := (HA.out.quiet hq).at HN.out hlt
      obtain ⟨g2, x2, y2, rfl, g2l, c21, c22, q2, hq2, hx2, hy2⟩ := (HB.out.quiet hq).at HN.out hlt
      obtain rfl : q = q2 := by rw [hq1] at hq2; exact Option.some.inj hq2
      obtain rfl : x2 = x := by rw [hx1, hx2]
      obtain rfl : y2 = y := by rw [hy1, hy2]
      have e1 : (x2 != x2) = false := by simp
      have e2 : (y2 != y2) = false := by simp
      have e3 : (x2 == x2) = true := by simp
      have e4 : (y2 == y2) = true := by simp
      clear hq1 hq2 hx1 hy1 hx2 hy2
      go_wp2
      go_quiet (fail)
      go_wp2
      go_roundw
      case rel => exact ⟨k + 1, by omega, by go_num, hq.drewN _⟩
      case measure => simp [RowKit.intOf]; omega
    · obtain rfl : k = n := by omega
      go_wp2
      go_ret
      exact ⟨rfl, hq⟩
theorem withinC (w : World) (x n : Int) (hn : 1 ≤ n) (hn2 : n ≤ 1073741824) :
    Calls Tryd.prog 23 #[.int .i64 x, .int .i64 n] w fun e w' => (∃ k : Nat, e = .returned (.int .i64 (k : Int)) ∧ (k : Int) < n) ∧ w' = w := by
  have htl : (x.tmod n).natAbs < n.natAbs := by rw [Int.natAbs_tmod]; exact Nat.mod_lt _ (by omega)
  obtain ⟨t, ht⟩ : ∃ t, x.tmod n = t := ⟨_, rfl⟩
  rw [ht] at htl
  have h1 : -n < t := by omega
  have h2 : t < n := by omega
  have hb0 : ¬ n = 0 := by omega
  by_cases h0 : t < 0
  · go_enter Tryd.func23, Tryd.ntmps23
    go_wp2
    go_ret
    exact ⟨⟨(t + n).toNat, by rw [Int.toNat_of_nonneg (by omega)]; rfl, by omega⟩, rfl⟩
  · go_enter Tryd.func23, Tryd.ntmps23
    go_wp2
    go_ret
    exact ⟨⟨t.toNat, by rw [Int.toNat_of_nonneg (by omega)]; rfl, by omega⟩, rfl⟩
end Go.Proofs.YtchdeboialbdiaaDoor
