/- Texts joined, one behind the other (ScanG, Hexf). -/
import Derived.Test.YtmhemahkcbgaoaaGreatDoorKn03
import Derived.BigCall
/- A quoted text, by the program. -/
namespace Go.Proofs.YtmhemahkcbgaoaaGreatDoor
set_option linter.unusedVariables false
set_option linter.unusedSimpArgs false
open Go.RowKit
open Go.Lib hiding intOf
theorem braced_le (l : List UInt8) : (bracedOf l).2 ≤ l.length ∧ (bracedOf l).1.length ≤ 4 := by
  unfold bracedOf
  split
  · exact ⟨by simp, by simp⟩
  · rename_i h
    rcases index_cases l 125 with hneg | ⟨e, he, hel, _⟩
    · exact absurd (.inr (.inr (.inl (by omega)))) h
    · split
      · exact ⟨by simp, by simp⟩
      · split
        · exact ⟨by simp, by simp⟩
        · rename_i n _ _
          refine ⟨by simp only [he, Int.toNat_natCast]; omega, ?_⟩
          have := (encodeRuneZ_length n).2
          simpa [encodeRune] using this
theorem esc_le (l : List UInt8) : (escOf l).2 ≤ l.length ∧ (escOf l).1.length ≤ 4 := by
  unfold escOf
  split
  · exact ⟨by simp, by simp⟩
  · split
    · exact ⟨by simp only; omega, by simp⟩
    · split
      · exact ⟨by simp only; omega, by simp⟩
      · split
        · exact ⟨by simp only; omega, by simp⟩
        · split
          · exact ⟨by simp only; omega, by simp⟩
          · split
            · split
              · exact ⟨by simp, by simp⟩
              · exact ⟨by simp only; omega, by simp⟩
            · split
              · exact braced_le l
              · exact ⟨by simp, by simp⟩
theorem unq_end {l : List UInt8} {f i : Nat} {acc : List UInt8} (h : l.length ≤ i) : unq l (f + 1) i acc = ([], l.length, false) := by
  rw [unq, if_pos h]
theorem unq_quote {l : List UInt8} {f i : Nat} {acc : List UInt8} (hx : l[i]? = some 34) : unq l (f + 1) i acc = (acc, i + 1, true) := by
  have h := (List.getElem?_eq_some_iff.1 hx).1
  rw [unq, if_neg (by omega), if_pos (by rw [List.getD_eq_getElem?_getD, hx]; rfl)]
theorem unq_esc {l : List UInt8} {f i : Nat} {acc : List UInt8} (hx : l[i]? = some 92) : unq l (f + 1) i acc = if (escOf (l.drop i)).2 = 0 then ([], i, false) else unq l f (i + (escOf (l.drop i)).2) (acc ++ (escOf (l.drop i)).1) := by
  have h := (List.getElem?_eq_some_iff.1 hx).1
  rw [unq, if_neg (by omega), if_neg (by rw [List.getD_eq_getElem?_getD, hx]; decide), if_pos (by rw [List.getD_eq_getElem?_getD, hx]; rfl)]
theorem unq_char {l : List UInt8} {f i : Nat} {acc : List UInt8} {x : UInt8} (hx : l[i]? = some x) (h1 : x ≠ 34) (h2 : x ≠ 92) : unq l (f + 1) i acc = if RightD (decodeL (l.drop i)) ∧ PlainN (decodeL (l.drop i)).1 then unq l f (i + (decodeL (l.drop i)).2) (acc ++ (l.drop i).take (decodeL (l.drop i)).2) else ([], i, false) := by
  have h := (List.getElem?_eq_some_iff.1 hx).1
  have hg : l.getD i 0 = x := by rw [List.getD_eq_getElem?_getD, hx]; rfl
  rw [unq, if_neg (by omega), hg, if_neg h1, if_neg h2]
theorem owns_below {w w' : World} {B : Nat} {e : TypeId} {v : Value} {n : Nat} {xs : List Value} (h : w.ownsRowF B e 1 v n xs) (b : Below w.heap.size w w') : w'.ownsRowF B e 1 v n xs := by
  refine ⟨h.1, ?_⟩
  rcases h.2 with hn | ⟨g, cap, cur, fz, rfl, hb, hgg, rest⟩
  · exact .inl hn
  · exact .inr ⟨g, cap, cur, fz, rfl, hb, (b.block g (Array.getElem?_eq_some_iff.1 hgg).1).trans hgg, rest⟩
theorem builder_below {T e : TypeId} {B b : Nat} {bs : List Value} {w w' : World} (h : Lib.IsBuilderF T e B b bs w) (hb : Below w.heap.size w w') : Lib.IsBuilderF T e B b bs w' := by
  have one : ∀ p, Lib.BuilderAtF T e B b p bs w → Lib.BuilderAtF T e B b p bs w' := by
    rintro p ⟨h1, v, h2, h3, h4⟩
    exact ⟨h1, v, (hb.block b (Array.getElem?_eq_some_iff.1 h2).1).trans h2, owns_below h3 hb, h4⟩
  exact h.elim (fun x => .inl (one _ x)) (fun x => .inr (one _ x))
/-- what holds wherever the program goes to 'part' -/
def QJ (l : List UInt8) (B : Nat) (w : World) (lab : Nat) (a : Act) (wr : World) : Prop :=
  lab = 0 ∧ ∃ (i f : Nat) (acc : List UInt8) (u1 u2 u3 u4 u7 u8 u9 u10 u11 u12 u13 u14 u15 u16 u17 u18 u19 u20 u21 u22 u23 u24 u25 u26 u27 u28 u29 u30 u31 u32 u33 u34 u35 u36 u37 u38 u39 u40 u41 u42 u43 u44 u45 u46 u47 u48 u49 u50 u51 u52 u53 u54 u55 u56 u57 u58 u59 u60 u61 u62 u63 u64 u65 u66 u67 u68 : Value), a = ⟨#[.string (bstr l), u1, u2, u3, u4, .pointer (some ⟨B, 0, none⟩), .int .i64 (i : Int), u7, u8, u9, u10, u11, u12, u13, u14, u15, u16, u17, u18, u19, u20, u21, u22, u23, u24, u25, u26, u27, u28, u29, u30, u31, u32, u33, u34, u35, u36, u37, u38, u39, u40, u41, u42, u43, u44, u45, u46, u47, u48, u49, u50, u51, u52, u53, u54, u55, u56, u57, u58, u59, u60, u61, u62, u63, u64, u65, u66, u67, u68], []⟩ ∧ Lib.IsBuilderF 66 5 B B (Lib.byteCells acc) wr ∧ Below B w wr ∧ unq l f i acc = quotedOf l ∧ 1 ≤ i ∧ i ≤ l.length + 1 ∧ l.length + 1 < i + f ∧ acc.length ≤ 4 * i
def QM (l : List UInt8) (lab : Nat) (a : Act) (wr : World) : Nat := l.length + 1 - (RowKit.intOf (a.tmps.getD 6 undef)).toNat
set_option maxHeartbeats 4000000 in
set_option maxRecDepth 100000 in
theorem quoted_pass (w : World) (l : List UInt8) (hm : l.length ≤ 1048576) (hT : Tabs w) :
    ∃ X, findLabel (scopeOf Tryz.f30.body) 0 = some (.seq .skip X) ∧ ∀ a wr, QJ l w.heap.size w 0 a wr → X.wp Tryz.prog (jumps (fun l' a' w' => QJ l w.heap.size w l' a' w' ∧ QM l l' a' w' < QM l 0 a wr)
      (bodyPost Tryz.prog Tryz.f30 fun e w' => e = .returned (.tuple #[.string (bstr (quotedOf l).1), .int .i64 ((quotedOf l).2.1 : Int), .bool (quotedOf l).2.2]) ∧ Below w.heap.size w w')) a wr := by
  refine ⟨?X, ?h, ?_⟩
  case h =>
    simp only [Tryz.f30, scopeOf, findLabel, beq_self_eq_true, if_true]
    rfl
  intro a wr hJ
  obtain ⟨_, i, f, acc, u1, u2, u3, u4, u7, u8, u9, u10, u11, u12, u13, u14, u15, u16, u17, u18, u19, u20, u21, u22, u23, u24, u25, u26, u27, u28, u29, u30, u31, u32, u33, u34, u35, u36, u37, u38, u39, u40, u41, u42, u43, u44, u45, u46, u47, u48, u49, u50, u51, u52, u53, u54, u55, u56, u57, u58, u59, u60, u61, u62, u63, u64, u65, u66, u67, u68, rfl, hI, hb, hq, hi1, hi2, hif, hac⟩ := hJ
  obtain ⟨f, rfl⟩ : ∃ g, f = g + 1 := ⟨f - 1, by omega⟩
  obtain ⟨B, hBe⟩ : ∃ B, B = w.heap.size := ⟨_, rfl⟩
  obtain ⟨n, hn⟩ : ∃ n, n = l.length := ⟨_, rfl⟩
  have hsz : (bstr l).size = n := by rw [bstr_size, hn]
  have HN := Lib.hid hn
  by_cases hend : l.length ≤ i
  · rw [unq_end hend] at hq
    have HQ := Lib.hid hq
    rw [← hn] at hend hm hi2
    clear hq hn hif
    go_wp2
    try rw [jumps_ret]
    go_ret3
    rw [← HQ.out, ← HN.out]
    exact ⟨rfl, hb⟩
  obtain ⟨x, hx⟩ := some_at (l := l) (k := i) (by omega)
  have hlt : i < n := by omega
  have ii : i < (bstr l).size := by rw [hsz]; exact hlt
  have hxa : (bstr l)[i]'ii = x := bstr_at hx _
  rw [← hn] at hm
  have hB := hb.size
  by_cases c1 : x = 34
  · subst c1
    rw [unq_quote hx] at hq
    have HQ := Lib.hid hq
    have hS := Tryz.Builder_String_any_k w.heap.size w.heap.size acc wr hI hB
    have HS := Lib.hid hS
    clear hq hx hn hend hif hi2 hS hI
    go_wp2_with (go_at_call 41; refine (HS.out).mono ?_; rintro e w' ⟨rfl, _, hb2, _⟩)
    try rw [jumps_ret]
    go_ret3
    rw [← HQ.out]
    exact ⟨rfl, hb.trans hb2⟩
  obtain ⟨D, hD⟩ : ∃ D, l.drop i = D := ⟨_, rfl⟩
  have hDn : D ≠ [] := by rw [← hD]; intro e; have := congrArg List.length e; simp at this; omega
  have hDl : D.length = n - i := by rw [← hD, List.length_drop, ← hn]
  have hsl : (D).take (n - i) = D := List.take_of_length_le (by omega)
  by_cases c2 : x = 92
  · subst c2
    rw [unq_esc hx, hD] at hq
    have hle := esc_le D
    have hC := escapedC wr D (by omega)
    obtain ⟨E1, hE1⟩ : ∃ E, (escOf D).1 = E := ⟨_, rfl⟩
    obtain ⟨E2, hE2⟩ : ∃ E, (escOf D).2 = E := ⟨_, rfl⟩
    rw [hE1, hE2] at hle hC
    rw [hE1, hE2] at hq
    have HC := Lib.hid hC
    by_cases hz : E2 = 0
    · subst hz
      rw [if_pos rfl] at hq
      have HQ := Lib.hid hq
      clear hq hx hn hend hif hi2 hC hI hE1 hE2 hle
      go_wp2_with (go_at_call 52; refine (HC.out).mono ?_; rintro e w' ⟨rfl, hb2⟩)
      try rw [jumps_ret]
      go_ret3
      rw [← HQ.out]
      exact ⟨rfl, hb.trans (hb2.mono hB)⟩
    · rw [if_neg hz] at hq
      have HQ := Lib.hid hq
      have hz2 : ((E2 : Int) == 0) = false := by rw [beq_eq_false_iff_ne]; omega
      have hWS := fun w2 (b2 : Below wr.heap.size wr w2) => Tryz.Builder_WriteString_k w.heap.size w.heap.size _ (bstr E1) w2 (builder_below hI b2) (by rw [Lib.byteCells_length, bstr_size]; omega) (Nat.le_trans hB b2.size)
      have HWS := Lib.hid hWS
      have hE1l : E1.length ≤ 4 := hle.2
      have hE2l : E2 ≤ n - i := by rw [← hDl]; exact hle.1
      have hE2p : 0 < E2 := Nat.pos_of_ne_zero hz
      clear hq hx hn hend hC hI hE1 hE2 hle hWS hz
      go_wp2_with (first | (go_at_call 52; refine (HC.out).mono ?_; rintro e w' ⟨rfl, hb2⟩) | (go_at_call 38; refine (HWS.out _ hb2).mono ?_; rintro e w3 ⟨rfl, h1, b1, _⟩))
      go_step3
      have hcast : ((i : Int) + (E2 : Int)) = ((i + E2 : Nat) : Int) := by omega
      rw [hcast]
      show QJ l w.heap.size w 0 _ _ ∧ QM l 0 _ _ < QM l 0 _ _
      refine ⟨⟨rfl, i + E2, f, acc ++ E1, _, _, _, _, _, _, _, _, _, _, _, _, _, _, _, _, _, _, _, _, _, _, _, _, _, _, _, _, _, _, _, _, _, _, _, _, _, _, _, _, _, _, _, _, _, _, _, _, _, _, _, _, _, _, _, _, _, _, _, _, _, _, _, _, _, _, rfl, ?_, hb.trans ((hb2.mono hB).trans b1), HQ.out, by omega, by rw [← HN.out]; omega, by omega, by rw [List.length_append]; omega⟩, ?_⟩
      · rw [Lib.byteCells_append]; exact Or.inr h1
      · show l.length + 1 - ((i + E2 : Nat) : Int).toNat < l.length + 1 - ((i : Nat) : Int).toNat
        rw [← HN.out]
        omega
  have hq2 := hq
  rw [unq_char hx c1 c2, hD] at hq
  have hF := firstC wr D hDn (hT.below hb hT.size)
  have hKl := dec_width hDn
  have hK1 := dec_width_one (l := D)
  have hK4 := dec_width_four (l := D)
  have b1 : ((x.toNat : Int) == 34) = false := byte_ne (n := 34) (by decide) c1
  have b2 : ((x.toNat : Int) == 92) = false := byte_ne (n := 92) (by decide) c2
  by_cases hr : RightD (decodeL D)
  · rw [decide_eq_true hr] at hF
    obtain ⟨R, hR⟩ : ∃ R, (decodeL D).1 = R := ⟨_, rfl⟩
    obtain ⟨K, hK⟩ : ∃ K, (decodeL D).2 = K := ⟨_, rfl⟩
    rw [hR, hK] at hF hq
    rw [hK] at hKl hK1 hK4
    have HF := Lib.hid hF
    by_cases hp : PlainN R
    · rw [if_pos ⟨hr, hp⟩] at hq
      have HQ := Lib.hid hq
      have hP := fun w1 => decide_eq_true hp ▸ plainC w1 R
      have HP := Lib.hid hP
      obtain ⟨S, hS⟩ : ∃ S, D.take K = S := ⟨_, rfl⟩
      have hS2 : D.take (i + K - i) = S := by rw [← hS]; congr 1; omega
      have hSl : S.length ≤ 4 := by rw [← hS, List.length_take]; omega
      have hWS := fun w2 (b2 : Below wr.heap.size wr w2) => Tryz.Builder_WriteString_k w.heap.size w.heap.size _ (bstr S) w2 (builder_below hI b2) (by rw [Lib.byteCells_length, bstr_size]; omega) (Nat.le_trans hB b2.size)
      have HWS := Lib.hid hWS
      have hKn : K ≤ n - i := by rw [← hDl]; exact hKl
      rw [hS] at HQ
      clear hq hx hn hend hF hI hR hK hWS hP hr hp c1 c2 hq2
      go_wp2_with (first | (go_at_call 37; refine (HF.out).mono ?_; rintro e w' ⟨rfl, hb2⟩) | (go_at_call 39; refine (HP.out _).mono ?_; rintro e _ ⟨rfl, rfl⟩) | (go_at_call 38; refine (HWS.out _ hb2).mono ?_; rintro e w3 ⟨rfl, h1, b1, _⟩))
      go_step3
      have hcast : ((i : Int) + (K : Int)) = ((i + K : Nat) : Int) := by omega
      rw [hcast]
      show QJ l w.heap.size w 0 _ _ ∧ QM l 0 _ _ < QM l 0 _ _
      refine ⟨⟨rfl, i + K, f, acc ++ S, _, _, _, _, _, _, _, _, _, _, _, _, _, _, _, _, _, _, _, _, _, _, _, _, _, _, _, _, _, _, _, _, _, _, _, _, _, _, _, _, _, _, _, _, _, _, _, _, _, _, _, _, _, _, _, _, _, _, _, _, _, _, _, _, _, _, rfl, ?_, hb.trans ((hb2.mono hB).trans b1), HQ.out, by omega, by rw [← HN.out]; omega, by omega, by rw [List.length_append]; omega⟩, ?_⟩
      · rw [Lib.byteCells_append]; exact Or.inr h1
      · show l.length + 1 - ((i + K : Nat) : Int).toNat < l.length + 1 - ((i : Nat) : Int).toNat
        rw [← HN.out]
        omega
    · rw [if_neg (fun h => hp h.2)] at hq
      have HQ := Lib.hid hq
      have hP := fun w1 => decide_eq_false hp ▸ plainC w1 R
      have HP := Lib.hid hP
      clear hq hx hn hend hif hi2 hF hI hR hK hP hr hp c1 c2 hq2 hKl hK1 hK4
      go_wp2_with (first | (go_at_call 37; refine (HF.out).mono ?_; rintro e w' ⟨rfl, hb2⟩) | (go_at_call 39; refine (HP.out _).mono ?_; rintro e _ ⟨rfl, rfl⟩))
      try rw [jumps_ret]
      go_ret3
      rw [← HQ.out]
      exact ⟨rfl, hb.trans (hb2.mono hB)⟩
  · rw [decide_eq_false hr] at hF
    rw [if_neg (fun h => hr h.1)] at hq
    obtain ⟨R, hR⟩ : ∃ R, (decodeL D).1 = R := ⟨_, rfl⟩
    obtain ⟨K, hK⟩ : ∃ K, (decodeL D).2 = K := ⟨_, rfl⟩
    rw [hR, hK] at hF
    have HF := Lib.hid hF
    have HQ := Lib.hid hq
    clear hq hx hn hend hif hi2 hF hI hR hK hr c1 c2 hq2 hKl hK1 hK4
    go_wp2_with (go_at_call 37; refine (HF.out).mono ?_; rintro e w' ⟨rfl, hb2⟩)
    try rw [jumps_ret]
    go_ret3
    rw [← HQ.out]
    exact ⟨rfl, hb.trans (hb2.mono hB)⟩
set_option maxHeartbeats 1000000 in
set_option maxRecDepth 100000 in
theorem quotedC (w : World) (l : List UInt8) (hm : l.length ≤ 1048576) (hT : Tabs w) :
    Calls Tryz.prog 30 #[.string (bstr l)] w fun e w' => e = .returned (.tuple #[.string (bstr (quotedOf l).1), .int .i64 ((quotedOf l).2.1 : Int), .bool (quotedOf l).2.2]) ∧ Below w.heap.size w w' := by
  obtain ⟨X, hX, hpass⟩ := quoted_pass w l hm hT
  go_enter Tryz.func30, Tryz.ntmps30
  go_wp2
  refine wp_scope_labels (QJ l w.heap.size w) (QM l) ?_ ?_
  · intro lab a wr hJ
    obtain rfl : lab = 0 := hJ.1
    exact ⟨_, hX, wp_seq (wp_skip (hpass a wr hJ))⟩
  · go_wp2
    go_step3
    rename_i hK
    refine hK _ _ ?_
    have e : Code.seq .skip X = _ := Option.some.inj hX.symm
    obtain rfl := (Code.seq.inj e).2
    refine wp_mono (hpass _ _ ?_) ?_
    · exact ⟨rfl, 1, l.length + 1, [], _, _, _, _, _, _, _, _, _, _, _, _, _, _, _, _, _, _, _, _, _, _, _, _, _, _, _, _, _, _, _, _, _, _, _, _, _, _, _, _, _, _, _, _, _, _, _, _, _, _, _, _, _, _, _, _, _, _, _, _, _, _, _, _, _, _, rfl, Lib.IsBuilderF.of (Lib.fresh_isBuilder _ _ w), (Below.refl _ w).alloc (Nat.le_refl _) _, rfl, by omega, by omega, by omega, by simp⟩
    · intro e a w hh
      cases e <;> first | exact hh | exact hh.1
end Go.Proofs.YtmhemahkcbgaoaaGreatDoor
/- The library's FormatInt at base 16, of the three characters that are not plain and stand in the quoted form by their number. -/
namespace Go.Proofs.YtmhemahkcbgaoaaGreatDoor
set_option linter.unusedVariables false
set_option linter.unusedSimpArgs false
open Go.RowKit
open Go.Lib hiding intOf
theorem and16 : bits .and .u64 16 18446744073709551600 = 16 := by decide
theorem wneg16 : IntKind.u64.wrap (-16) = 18446744073709551600 := by decide
theorem wmul16 : IntKind.u64.wrap (16 * 285870213051353865) = 4573923408821661840 := by decide
theorem and15 : bits .and .i64 16 15 = 0 := by decide
set_option maxHeartbeats 1000000 in
theorem tz16 (w : World) (hT : Tabs w) : Calls Tryz.prog 102 #[.int .u64 16] w fun e w' => e = .returned (.int .i64 4) ∧ w' = w := by
  have hl := hT.lsb
  have hs := hT.size
  have h1 := and16
  have h2 := wneg16
  have h3 := wmul16
  go_enter Tryz.func102, Tryz.ntmps102
  go_wp2
  go_ret
  exact ⟨rfl, rfl⟩
set_option maxHeartbeats 1000000 in
theorem tzU (w : World) (hT : Tabs w) : Calls Tryz.prog 95 #[.int .u64 16] w fun e w' => e = .returned (.int .i64 4) ∧ w' = w := by
  go_enter Tryz.func95, Tryz.ntmps95
  go_wp2_with (go_at_call 102; refine (tz16 w hT).mono ?_; rintro e w' ⟨rfl, rfl⟩)
  go_ret
  exact ⟨rfl, rfl⟩
set_option maxHeartbeats 1000000 in
theorem pow2 (w : World) : Calls Tryz.prog 94 #[.int .i64 16] w fun e w' => e = .returned (.bool true) ∧ w' = w := by
  have h1 := and15
  go_enter Tryz.func94, Tryz.ntmps94
  go_wp2
  go_ret
  exact ⟨rfl, rfl⟩
set_option maxHeartbeats 4000000 in
set_option maxRecDepth 100000 in
theorem bits133 (w : World) (hT : Tabs w) : Calls Tryz.prog 80 #[.slice none 0 0, .int .u64 133, .int .i64 16, .bool false, .bool false] w fun e w' => e = .returned (.tuple #[.slice none 0 0, .string (bstr [56, 53])]) ∧ Below w.heap.size w w' := by
  go_enter Tryz.func80, Tryz.ntmps80
  go_wp2_with (first | (go_at_call 94; refine (pow2 _).mono ?_; rintro e w' ⟨rfl, rfl⟩) | (go_at_call 95; refine (tzU _ (hT.next ((Below.refl _ _).alloc (Nat.le_refl _) _))).mono ?_; rintro e w' ⟨rfl, rfl⟩))
  have a0 : bits .and .u64 133 15 = 5 := by decide
  refine wp_loop_rounds 3 ?_
  rw [rounds_succ]
  go_wp2
  rw [rounds_succ]
  go_wp2
  rw [run_bytes_str (P := Tryz.prog) _ 25 9 5 Tryz.underlying25 Tryz.underlying5 Tryz.underlying9 (some ⟨w.heap.size, 63, none⟩) 2 2 [56, 53] ?hr]
  case hr =>
    refine ⟨rfl, fun _ => ⟨w.heap.size, 63, rfl, by simp, fun j hj => ?_⟩⟩
    rcases j with _ | (_ | j)
    all_goals first | omega | (simp; rfl) | rfl
  go_wp2
  go_ret2
  exact ⟨rfl, (Below.refl _ w).alloc (Nat.le_refl _) _⟩
set_option maxHeartbeats 4000000 in
set_option maxRecDepth 100000 in
theorem bits8232 (w : World) (hT : Tabs w) : Calls Tryz.prog 80 #[.slice none 0 0, .int .u64 8232, .int .i64 16, .bool false, .bool false] w fun e w' => e = .returned (.tuple #[.slice none 0 0, .string (bstr [50, 48, 50, 56])]) ∧ Below w.heap.size w w' := by
  go_enter Tryz.func80, Tryz.ntmps80
  go_wp2_with (first | (go_at_call 94; refine (pow2 _).mono ?_; rintro e w' ⟨rfl, rfl⟩) | (go_at_call 95; refine (tzU _ (hT.next ((Below.refl _ _).alloc (Nat.le_refl _) _))).mono ?_; rintro e w' ⟨rfl, rfl⟩))
  have a0 : bits .and .u64 8232 15 = 8 := by decide
  have a1 : bits .and .u64 514 15 = 2 := by decide
  have a2 : bits .and .u64 32 15 = 0 := by decide
  refine wp_loop_rounds 5 ?_
  rw [rounds_succ]
  go_wp2
  rw [rounds_succ]
  go_wp2
  rw [rounds_succ]
  go_wp2
  rw [rounds_succ]
  go_wp2
  rw [run_bytes_str (P := Tryz.prog) _ 25 9 5 Tryz.underlying25 Tryz.underlying5 Tryz.underlying9 (some ⟨w.heap.size, 61, none⟩) 4 4 [50, 48, 50, 56] ?hr]
  case hr =>
    refine ⟨rfl, fun _ => ⟨w.heap.size, 61, rfl, by simp, fun j hj => ?_⟩⟩
    rcases j with _ | (_ | (_ | (_ | j)))
    all_goals first | omega | (simp; rfl) | rfl
  go_wp2
  go_ret2
  exact ⟨rfl, (Below.refl _ w).alloc (Nat.le_refl _) _⟩
set_option maxHeartbeats 4000000 in
set_option maxRecDepth 100000 in
theorem bits8233 (w : World) (hT : Tabs w) : Calls Tryz.prog 80 #[.slice none 0 0, .int .u64 8233, .int .i64 16, .bool false, .bool false] w fun e w' => e = .returned (.tuple #[.slice none 0 0, .string (bstr [50, 48, 50, 57])]) ∧ Below w.heap.size w w' := by
  go_enter Tryz.func80, Tryz.ntmps80
  go_wp2_with (first | (go_at_call 94; refine (pow2 _).mono ?_; rintro e w' ⟨rfl, rfl⟩) | (go_at_call 95; refine (tzU _ (hT.next ((Below.refl _ _).alloc (Nat.le_refl _) _))).mono ?_; rintro e w' ⟨rfl, rfl⟩))
  have a0 : bits .and .u64 8233 15 = 9 := by decide
  have a1 : bits .and .u64 514 15 = 2 := by decide
  have a2 : bits .and .u64 32 15 = 0 := by decide
  refine wp_loop_rounds 5 ?_
  rw [rounds_succ]
  go_wp2
  rw [rounds_succ]
  go_wp2
  rw [rounds_succ]
  go_wp2
  rw [rounds_succ]
  go_wp2
  rw [run_bytes_str (P := Tryz.prog) _ 25 9 5 Tryz.underlying25 Tryz.underlying5 Tryz.underlying9 (some ⟨w.heap.size, 61, none⟩) 4 4 [50, 48, 50, 57] ?hr]
  case hr =>
    refine ⟨rfl, fun _ => ⟨w.heap.size, 61, rfl, by simp, fun j hj => ?_⟩⟩
    rcases j with _ | (_ | (_ | (_ | j)))
    all_goals first | omega | (simp; rfl) | rfl
  go_wp2
  go_ret2
  exact ⟨rfl, (Below.refl _ w).alloc (Nat.le_refl _) _⟩
set_option maxHeartbeats 1000000 in
theorem fmtI (w : World) (hT : Tabs w) (r : Nat) (hr : r = 133 ∨ r = 8232 ∨ r = 8233) : Calls Tryz.prog 60 #[.int .i64 (r : Int), .int .i64 16] w fun e w' => e = .returned (.string (bstr (hexOf r))) ∧ Below w.heap.size w w' := by
  rcases hr with rfl | rfl | rfl
  · go_enter Tryz.func60, Tryz.ntmps60
    go_wp2_with (go_at_call 80; refine (bits133 _ hT).mono ?_; rintro e w' ⟨rfl, hb⟩)
    go_ret
    exact ⟨rfl, hb⟩
  · go_enter Tryz.func60, Tryz.ntmps60
    go_wp2_with (go_at_call 80; refine (bits8232 _ hT).mono ?_; rintro e w' ⟨rfl, hb⟩)
    go_ret
    exact ⟨rfl, hb⟩
  · go_enter Tryz.func60, Tryz.ntmps60
    go_wp2_with (go_at_call 80; refine (bits8233 _ hT).mono ?_; rintro e w' ⟨rfl, hb⟩)
    go_ret
    exact ⟨rfl, hb⟩
/-- the number at base 16 -/
theorem fmt16 (w : World) (hT : Tabs w) (r : Nat) (hr : r = 133 ∨ r = 8232 ∨ r = 8233) : Calls Tryz.prog 40 #[.int .i64 (r : Int), .int .i64 16] w fun e w' => e = .returned (.string (bstr (hexOf r))) ∧ Below w.heap.size w w' := by
  go_enter Tryz.func40, Tryz.ntmps40
  go_wp2_with (go_at_call 60; refine (fmtI _ hT r hr).mono ?_; rintro e w' ⟨rfl, hb⟩)
  go_ret
  exact ⟨rfl, hb⟩
end Go.Proofs.YtmhemahkcbgaoaaGreatDoor
