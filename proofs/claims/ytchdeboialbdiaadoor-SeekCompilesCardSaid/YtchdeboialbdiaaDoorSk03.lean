/- Texts joined, one behind the other (ScanQ, LineP, DUtf). -/
import Derived.Test.YtchdeboialbdiaaDoorSk02
import Derived.Test.YtchdeboialbdiaaDoorShelf
import Derived.Lib.QuoteLoop
/- The plain law of the scan, by the texts' own beginnings: a token is told by its own bytes and the one behind it. -/
namespace Go.Proofs.YtchdeboialbdiaaDoor
set_option linter.unusedVariables false
set_option linter.unusedSimpArgs false
open Go.Lib
theorem take_pre {α : Type} {D : List α} {n k : Nat} (h : n ≤ k) (r : List α) : D.take k ++ r = D.take n ++ ((D.drop n).take (k - n) ++ r) := by
  rw [← List.append_assoc]
  congr 1
  obtain ⟨m, rfl⟩ := Nat.exists_eq_add_of_le h
  rw [Nat.add_sub_cancel_left, List.take_add]
theorem decode_strong {D : List UInt8} {k : Nat} (r : List UInt8) (hD : D ≠ []) (hR : RightD (decodeL D)) (hk : (decodeL D).2 ≤ k) : decodeL (D.take k ++ r) = decodeL D := by
  rw [take_pre hk]
  exact decode_local _ hD hR
theorem getD_takeR {l r : List UInt8} {k j : Nat} (hj : j < k) (hl : j < l.length) : (l.take k ++ r).getD j 0 = l.getD j 0 := by
  rw [List.getD_eq_getElem?_getD, List.getD_eq_getElem?_getD, List.getElem?_append_left (by rw [List.length_take]; omega), List.getElem?_take, if_pos hj]
theorem index_app : ∀ (l r : List UInt8) (c : UInt8), indexByte l c ≠ -1 → indexByte (l ++ r) c = indexByte l c
  | [], _, _, h => by simp [indexByte] at h
  | x :: l, r, c, h => by
    simp only [indexByte, List.cons_append] at h ⊢
    by_cases hx : (x == c) = true
    · rw [if_pos hx, if_pos hx]
    · rw [if_neg hx] at h ⊢
      rw [if_neg hx]
      by_cases hi : indexByte l c = -1
      · rw [hi] at h; simp at h
      · rw [index_app l r c hi]
theorem index_ge : ∀ (l : List UInt8) (c : UInt8), indexByte l c = -1 ∨ 0 ≤ indexByte l c
  | [], _ => .inl rfl
  | x :: l, c => by
    have := index_ge l c
    simp only [indexByte]
    split
    · exact .inr (by omega)
    · split
      · exact .inl rfl
      · right
        rename_i h
        have : indexByte l c ≠ -1 := by simpa using h
        omega
theorem index_lt : ∀ (l : List UInt8) (c : UInt8), indexByte l c < l.length
  | [], _ => by simp [indexByte]
  | x :: l, c => by
    have := index_lt l c
    simp only [indexByte, List.length_cons]
    split
    · omega
    · split <;> omega
theorem index_take : ∀ (l : List UInt8) (c : UInt8) (k : Nat), 0 ≤ indexByte l c → indexByte l c < k → indexByte (l.take k) c = indexByte l c
  | [], c, k, h, _ => by simp [indexByte] at h
  | x :: l, c, 0, h, hk => by omega
  | x :: l, c, k + 1, h, hk => by
    rw [List.take_succ_cons]
    simp only [indexByte] at h hk ⊢
    by_cases hx : (x == c) = true
    · rw [if_pos hx, if_pos hx]
    · rw [if_neg hx] at h hk
      rw [if_neg hx, if_neg hx]
      by_cases hi : (indexByte l c == -1) = true
      · rw [if_pos hi] at h; omega
      · rw [if_neg hi] at h hk
        rw [index_take l c k (by have := index_ge l c; have : indexByte l c ≠ -1 := by simpa using hi
                                 omega) (by omega)]
theorem hexGo_mem : ∀ (l : List UInt8) (n : Nat), (∃ x ∈ l, 15 < digit16 x) → hexGo l n = none
  | [], _, h => by obtain ⟨x, hx, _⟩ := h; cases hx
  | y :: l, n, h => by
    rw [hexGo]
    by_cases hy : 15 < digit16 y
    · rw [if_pos hy]
    · rw [if_neg hy]
      obtain ⟨x, hx, hd⟩ := h
      rcases List.mem_cons.1 hx with rfl | hx
      · exact absurd hd hy
      · exact hexGo_mem l _ ⟨x, hx, hd⟩
/-- an escape is told by its own bytes -/
theorem braced_strong {D : List UInt8} {k : Nat} (r : List UInt8) (hn : (bracedOf D).2 ≠ 0) (hk : (bracedOf D).2 ≤ k) : bracedOf (D.take k ++ r) = bracedOf D := by
  unfold bracedOf at hn hk ⊢
  by_cases hc : D.length < 3 ∨ D.getD 2 0 ≠ 123 ∨ indexByte D 125 < 4 ∨ 9 < indexByte D 125
  · rw [if_pos hc] at hn; exact absurd rfl hn
  rw [if_neg hc] at hn hk ⊢
  obtain ⟨e, he⟩ : ∃ e : Nat, indexByte D 125 = (e : Int) := ⟨(indexByte D 125).toNat, by omega⟩
  rw [he] at hn hk hc ⊢
  have hlt := index_lt D 125
  rw [he] at hlt
  simp only [Int.toNat_natCast] at hn hk ⊢
  have h4 : 4 ≤ e ∧ e ≤ 9 := by omega
  cases hg : hexGo ((D.drop 3).take (e - 3)) 0 with
  | none => rw [hg] at hn; exact absurd rfl hn
  | some n =>
    rw [hg] at hn hk
    dsimp only at hn hk
    by_cases hr : 1114111 < n ∨ 55296 ≤ n ∧ n ≤ 57343
    · rw [if_pos hr] at hn; exact absurd rfl hn
    rw [if_neg hr] at hk
    dsimp only at hk
    have hek : e + 1 ≤ k := hk
    have i1 : indexByte (D.take k) 125 = (e : Int) := by rw [index_take D 125 k (by omega) (by omega), he]
    have i2 : indexByte (D.take k ++ r) 125 = (e : Int) := by rw [index_app _ _ _ (by rw [i1]; omega), i1]
    have l3 : ¬ (D.take k ++ r).length < 3 := by rw [List.length_append, List.length_take]; omega
    have g2 : (D.take k ++ r).getD 2 0 = D.getD 2 0 := getD_takeR (by omega) (by omega)
    have d3 : ((D.take k ++ r).drop 3).take (e - 3) = (D.drop 3).take (e - 3) := by
      rw [List.drop_append_of_le_length (by rw [List.length_take]; omega), List.take_append_of_le_length (by rw [List.length_drop, List.length_take]; omega), List.drop_take, List.take_take]
      congr 1
      omega
    rw [i2, g2]
    simp only [Int.toNat_natCast]
    rw [if_neg (fun h => h.elim l3 fun h => hc (.inr h)), d3, hg]
theorem index_at : ∀ (l : List UInt8) (c : UInt8), 0 ≤ indexByte l c → l.getD (indexByte l c).toNat 0 = c
  | [], c, h => by simp [indexByte] at h
  | x :: l, c, h => by
    simp only [indexByte] at h ⊢
    by_cases hx : (x == c) = true
    · rw [if_pos hx]; simpa using hx
    · rw [if_neg hx] at h ⊢
      by_cases hi : (indexByte l c == -1) = true
      · rw [if_pos hi] at h; omega
      · rw [if_neg hi] at h ⊢
        have h0 : 0 ≤ indexByte l c := by
          rcases index_ge l c with e | e
          · exact absurd (by simpa using e) hi
          · exact e
        rw [show (indexByte l c + 1).toNat = (indexByte l c).toNat + 1 by omega, List.getD_cons_succ]
        exact index_at l c h0
theorem braced_two (D : List UInt8) : (bracedOf D).2 = 0 ∨ 5 ≤ (bracedOf D).2 := by
  unfold bracedOf
  split
  · exact .inl rfl
  · rename_i hc
    split
    · exact .inl rfl
    · split
      · exact .inl rfl
      · right; dsimp only; omega
theorem esc_two (D : List UInt8) : (escOf D).2 = 0 ∨ 2 ≤ (escOf D).2 := by
  unfold escOf
  repeat' split
  all_goals first | exact .inl rfl | (right; dsimp only; omega) | (have := braced_two D; omega)
theorem esc_strong {D : List UInt8} {k : Nat} (r : List UInt8) (hn : (escOf D).2 ≠ 0) (hk : (escOf D).2 ≤ k) : escOf (D.take k ++ r) = escOf D := by
  have h2 : 2 ≤ k := by have := esc_two D; omega
  unfold escOf at hn hk ⊢
  by_cases hl : D.length < 2
  · rw [if_pos hl] at hn; exact absurd rfl hn
  rw [if_neg hl] at hn hk
  have h1 : (D.take k ++ r).getD 1 0 = D.getD 1 0 := getD_takeR (by omega) (by omega)
  have hL : ¬ (D.take k ++ r).length < 2 := by rw [List.length_append, List.length_take]; omega
  rw [if_neg hL, if_neg hl, h1]
  by_cases c1 : D.getD 1 0 = 34 ∨ D.getD 1 0 = 92
  · rw [if_pos c1, if_pos c1]
  rw [if_neg c1] at hn hk
  rw [if_neg c1, if_neg c1]
  by_cases c2 : D.getD 1 0 = 110
  · rw [if_pos c2, if_pos c2]
  rw [if_neg c2] at hn hk
  rw [if_neg c2, if_neg c2]
  by_cases c3 : D.getD 1 0 = 114
  · rw [if_pos c3, if_pos c3]
  rw [if_neg c3] at hn hk
  rw [if_neg c3, if_neg c3]
  by_cases c4 : D.getD 1 0 = 116
  · rw [if_pos c4, if_pos c4]
  rw [if_neg c4] at hn hk
  rw [if_neg c4, if_neg c4]
  by_cases c5 : D.getD 1 0 = 120
  · rw [if_pos c5] at hn hk
    rw [if_pos c5, if_pos c5]
    by_cases hx : D.length < 4 ∨ 15 < digit16 (D.getD 2 0) ∨ 15 < digit16 (D.getD 3 0)
    · rw [if_pos hx] at hn; exact absurd rfl hn
    rw [if_neg hx] at hk
    dsimp only at hk
    have hl4 : 4 ≤ D.length := by omega
    have g2 : (D.take k ++ r).getD 2 0 = D.getD 2 0 := getD_takeR (by omega) (by omega)
    have g3 : (D.take k ++ r).getD 3 0 = D.getD 3 0 := getD_takeR (by omega) (by omega)
    have hL4 : 4 ≤ (D.take k ++ r).length := by rw [List.length_append, List.length_take]; omega
    rw [g2, g3, if_neg hx, if_neg (by omega)]
  rw [if_neg c5] at hn hk
  rw [if_neg c5, if_neg c5]
  by_cases c6 : D.getD 1 0 = 117
  · rw [if_pos c6] at hn hk
    rw [if_pos c6, if_pos c6]
    exact braced_strong r hn hk
  · rw [if_neg c6] at hn; exact absurd rfl hn
/-! an escape has no blank -/
theorem hexGo_all {l : List UInt8} {n m : Nat} (h : hexGo l n = some m) : ∀ x ∈ l, digit16 x ≤ 15 := by
  intro x hx
  rcases Nat.lt_or_ge 15 (digit16 x) with h1 | h1
  · rw [hexGo_mem l n ⟨x, hx, h1⟩] at h; cases h
  · exact h1
theorem digit_blank : digit16 32 = 16 := rfl
theorem mem_getD {l : List UInt8} {j : Nat} (h : j < l.length) : l.getD j 0 ∈ l := by
  rw [List.getD_eq_getElem?_getD, List.getElem?_eq_getElem h]
  exact List.getElem_mem h
theorem braced_noblank {X : List UInt8} (hn : (bracedOf X).2 ≠ 0) : ∀ j, 2 ≤ j → j < (bracedOf X).2 → X.getD j 0 ≠ 32 := by
  intro j h2 hj
  unfold bracedOf at hn hj
  by_cases hc : X.length < 3 ∨ X.getD 2 0 ≠ 123 ∨ indexByte X 125 < 4 ∨ 9 < indexByte X 125
  · rw [if_pos hc] at hn; exact absurd rfl hn
  rw [if_neg hc] at hn hj
  obtain ⟨e, he⟩ : ∃ e : Nat, indexByte X 125 = (e : Int) := ⟨(indexByte X 125).toNat, by omega⟩
  have hat := index_at X 125 (by omega)
  have hlt := index_lt X 125
  rw [he] at hn hj hc hat hlt
  simp only [Int.toNat_natCast] at hn hj hat
  cases hg : hexGo ((X.drop 3).take (e - 3)) 0 with
  | none => rw [hg] at hn; exact absurd rfl hn
  | some n =>
    rw [hg] at hn hj
    dsimp only at hn hj
    by_cases hr : 1114111 < n ∨ 55296 ≤ n ∧ n ≤ 57343
    · rw [if_pos hr] at hn; exact absurd rfl hn
    rw [if_neg hr] at hj
    dsimp only at hj
    intro hb
    by_cases j2 : j = 2
    · subst j2
      have : X.getD 2 0 = 123 := Classical.not_not.1 fun h => hc (.inr (.inl h))
      rw [this] at hb
      exact absurd hb (by decide)
    by_cases je : j = e
    · subst je
      rw [hat] at hb
      exact absurd hb (by decide)
    · have hm : X.getD j 0 ∈ (X.drop 3).take (e - 3) := by
        have : X.getD j 0 = ((X.drop 3).take (e - 3)).getD (j - 3) 0 := by
          rw [List.getD_eq_getElem?_getD, List.getD_eq_getElem?_getD, List.getElem?_take, if_pos (by omega), List.getElem?_drop]
          congr 2
          omega
        rw [this]
        exact mem_getD (by rw [List.length_take, List.length_drop]; omega)
      have := hexGo_all hg _ hm
      rw [hb, digit_blank] at this
      omega
theorem esc_noblank {X : List UInt8} (hn : (escOf X).2 ≠ 0) : ∀ j, 1 ≤ j → j < (escOf X).2 → X.getD j 0 ≠ 32 := by
  intro j h1 hj
  unfold escOf at hn hj
  by_cases hl : X.length < 2
  · rw [if_pos hl] at hn; exact absurd rfl hn
  rw [if_neg hl] at hn hj
  have one : ∀ c : UInt8, X.getD 1 0 = c → c ≠ 32 → X.getD 1 0 ≠ 32 := fun c h h' e => h' (h.symm.trans e)
  by_cases c1 : X.getD 1 0 = 34 ∨ X.getD 1 0 = 92
  · rw [if_pos c1] at hj
    dsimp only at hj
    obtain rfl : j = 1 := by omega
    rcases c1 with c | c
    · exact one _ c (by decide)
    · exact one _ c (by decide)
  rw [if_neg c1] at hn hj
  by_cases c2 : X.getD 1 0 = 110
  · rw [if_pos c2] at hj
    dsimp only at hj
    obtain rfl : j = 1 := by omega
    exact one _ c2 (by decide)
  rw [if_neg c2] at hn hj
  by_cases c3 : X.getD 1 0 = 114
  · rw [if_pos c3] at hj
    dsimp only at hj
    obtain rfl : j = 1 := by omega
    exact one _ c3 (by decide)
  rw [if_neg c3] at hn hj
  by_cases c4 : X.getD 1 0 = 116
  · rw [if_pos c4] at hj
    dsimp only at hj
    obtain rfl : j = 1 := by omega
    exact one _ c4 (by decide)
  rw [if_neg c4] at hn hj
  by_cases c5 : X.getD 1 0 = 120
  · rw [if_pos c5] at hn hj
    by_cases hx : X.length < 4 ∨ 15 < digit16 (X.getD 2 0) ∨ 15 < digit16 (X.getD 3 0)
    · rw [if_pos hx] at hn; exact absurd rfl hn
    rw [if_neg hx] at hj
    dsimp only at hj
    intro hb
    have hj3 : j = 1 ∨ j = 2 ∨ j = 3 := by omega
    rcases hj3 with rfl | rfl | rfl
    · exact one _ c5 (by decide) hb
    · rw [hb, digit_blank] at hx; omega
    · rw [hb, digit_blank] at hx; omega
  rw [if_neg c5] at hn hj
  by_cases c6 : X.getD 1 0 = 117
  · rw [if_pos c6] at hn hj
    by_cases j1 : j = 1
    · subst j1; exact one _ c6 (by decide)
    · exact braced_noblank hn j (by omega) hj
  · rw [if_neg c6] at hn; exact absurd rfl hn
theorem getD_mid (D b : List UInt8) (x : UInt8) : (D ++ x :: b).getD D.length 0 = x := by
  rw [List.getD_eq_getElem?_getD, List.getElem?_append_right (Nat.le_refl _), Nat.sub_self]
  rfl
/-- no escape in a text that ends: none with a blank behind it -/
theorem esc_fail {D : List UInt8} (b : List UInt8) (hD : D ≠ []) (h : (escOf D).2 = 0) : (escOf (D ++ 32 :: b)).2 = 0 := by
  refine Classical.byContradiction fun hn => ?_
  have hl : (escOf (D ++ 32 :: b)).2 ≤ D.length := by
    rcases Nat.lt_or_ge D.length (escOf (D ++ 32 :: b)).2 with h1 | h1
    · exact absurd (getD_mid D b 32) (esc_noblank hn D.length (List.length_pos_iff.2 hD) h1)
    · exact h1
  have e := esc_strong (k := D.length) [] hn hl
  rw [List.take_left, List.append_nil] at e
  rw [← e] at hn
  exact hn h
theorem dec_cont {X : List UInt8} {j : Nat} (h0 : 0 < j) (hj : j < (decodeL X).2) : 128 ≤ (X.getD j 0).toNat := by
  rw [decodeL_N] at hj
  have hj4 : j = 1 ∨ j = 2 ∨ j = 3 := by have := dec_width_four (l := X); rw [decodeL_N] at this; omega
  rcases decodeN_shape X.length (X.getD 0 0).toNat (X.getD 1 0).toNat (X.getD 2 0).toNat (X.getD 3 0).toNat with ⟨c, e⟩ | ⟨c1, c2, c3, cv, e⟩ | ⟨c1, c2, c3, c4, cv, cs, e⟩ | ⟨c1, c2, c3, c4, c5, cv, cw, e⟩ | e
  all_goals (rw [e] at hj; dsimp only at hj)
  all_goals (rcases hj4 with rfl | rfl | rfl)
  all_goals omega
/-- a character that is right and stands ahead of a blank is told without it -/
theorem dec_fail {D : List UInt8} (b : List UInt8) (hD : D ≠ []) (hR : RightD (decodeL (D ++ 32 :: b))) : decodeL D = decodeL (D ++ 32 :: b) := by
  have hl : (decodeL (D ++ 32 :: b)).2 ≤ D.length := by
    rcases Nat.lt_or_ge D.length (decodeL (D ++ 32 :: b)).2 with h1 | h1
    · have := dec_cont (List.length_pos_iff.2 hD) h1
      rw [getD_mid] at this
      exact absurd this (by decide)
    · exact h1
  have e := decode_strong (k := D.length) [] (by simp) hR hl
  rwa [List.take_left, List.append_nil] at e
/-! quoted texts -/
theorem bracedP_le (l : List UInt8) : (bracedOf l).2 ≤ l.length := by
  unfold bracedOf
  have := index_lt l 125
  split
  · exact Nat.zero_le _
  · split
    · exact Nat.zero_le _
    · split
      · exact Nat.zero_le _
      · dsimp only; omega
theorem escP_le (l : List UInt8) : (escOf l).2 ≤ l.length := by
  have := bracedP_le l
  unfold escOf
  repeat' split
  all_goals first | exact Nat.zero_le _ | (dsimp only; omega) | assumption
theorem drop_ne {l : List UInt8} {i : Nat} (h : ¬ l.length ≤ i) : l.drop i ≠ [] := by
  intro e; have := congrArg List.length e; simp at this; omega
theorem unqP_bound (l : List UInt8) : ∀ (f i : Nat) (acc : List UInt8), (unq l f i acc).2.2 = true → (unq l f i acc).2.1 ≤ l.length ∧ i < (unq l f i acc).2.1
  | 0, i, acc, h => by simp [unq] at h
  | f + 1, i, acc, h => by
    rw [unq] at h ⊢
    by_cases h1 : l.length ≤ i
    · rw [if_pos h1] at h; exact absurd h (by simp)
    rw [if_neg h1] at h ⊢
    by_cases h2 : l.getD i 0 = 34
    · rw [if_pos h2]; exact ⟨by simp only; omega, by simp only; omega⟩
    rw [if_neg h2] at h ⊢
    by_cases h3 : l.getD i 0 = 92
    · rw [if_pos h3] at h ⊢
      by_cases h4 : (escOf (l.drop i)).2 = 0
      · rw [if_pos h4] at h; exact absurd h (by simp)
      · rw [if_neg h4] at h ⊢
        have := unqP_bound l f _ _ h
        exact ⟨this.1, by omega⟩
    rw [if_neg h3] at h ⊢
    by_cases h5 : RightD (decodeL (l.drop i)) ∧ PlainN (decodeL (l.drop i)).1
    · rw [if_pos h5] at h ⊢
      have := unqP_bound l f _ _ h
      exact ⟨this.1, by have := dec_width_one (l := l.drop i); omega⟩
    · rw [if_neg h5] at h; exact absurd h (by simp)
/-- enough rounds: the place of what is wrong lies in the text -/
theorem unqP_place (l : List UInt8) : ∀ (f i : Nat) (acc : List UInt8), l.length < i + f → i ≤ l.length → (unq l f i acc).2.1 ≤ l.length
  | 0, i, acc, h, h' => by omega
  | f + 1, i, acc, h, h' => by
    rw [unq]
    by_cases h1 : l.length ≤ i
    · rw [if_pos h1]; exact Nat.le_refl _
    rw [if_neg h1]
    by_cases h2 : l.getD i 0 = 34
    · rw [if_pos h2]; dsimp only; omega
    rw [if_neg h2]
    by_cases h3 : l.getD i 0 = 92
    · rw [if_pos h3]
      by_cases h4 : (escOf (l.drop i)).2 = 0
      · rw [if_pos h4]; exact h'
      · rw [if_neg h4]
        have := escP_le (l.drop i)
        rw [List.length_drop] at this
        exact unqP_place l f _ _ (by omega) (by omega)
    rw [if_neg h3]
    by_cases h5 : RightD (decodeL (l.drop i)) ∧ PlainN (decodeL (l.drop i)).1
    · rw [if_pos h5]
      have := dec_width_one (l := l.drop i)
      have hw := dec_width (drop_ne h1)
      rw [List.length_drop] at hw
      exact unqP_place l f _ _ (by omega) (by omega)
    · rw [if_neg h5]; exact h'
theorem unq_go {l : List UInt8} {f i : Nat} {acc : List UInt8} (h1 : ¬ l.length ≤ i) : unq l (f + 1) i acc =
    if l.getD i 0 = 34 then (acc, i + 1, true)
    else if l.getD i 0 = 92 then (if (escOf (l.drop i)).2 = 0 then ([], i, false) else unq l f (i + (escOf (l.drop i)).2) (acc ++ (escOf (l.drop i)).1))
    else if RightD (decodeL (l.drop i)) ∧ PlainN (decodeL (l.drop i)).1 then unq l f (i + (decodeL (l.drop i)).2) (acc ++ (l.drop i).take (decodeL (l.drop i)).2)
    else ([], i, false) := by rw [unq, if_neg h1]
theorem take_drop_app {D r : List UInt8} {k i : Nat} (h : i ≤ k) (hk : k ≤ D.length) : (D.take k ++ r).drop i = (D.drop i).take (k - i) ++ r := by
  rw [List.drop_append_of_le_length (by rw [List.length_take]; omega), List.drop_take]
theorem unq_strong {D r : List UInt8} {k : Nat} (hk : k ≤ D.length) : ∀ (f f' i : Nat) (acc : List UInt8), k < i + f' → (unq D f i acc).2.2 = true → (unq D f i acc).2.1 ≤ k → unq (D.take k ++ r) f' i acc = unq D f i acc
  | 0, f', i, acc, _, ht, _ => by simp [unq] at ht
  | f + 1, 0, i, acc, hf, ht, hb => by have := (unqP_bound D _ _ _ ht).2; omega
  | f + 1, f' + 1, i, acc, hf, ht, hb => by
    have hi := (unqP_bound D _ _ _ ht).2
    have hlen : k ≤ (D.take k ++ r).length := by rw [List.length_append, List.length_take]; omega
    have hik : i < k := by omega
    have h1 : ¬ D.length ≤ i := by omega
    have g0 : (D.take k ++ r).getD i 0 = D.getD i 0 := getD_takeR hik (by omega)
    have hd := take_drop_app (D := D) (r := r) (Nat.le_of_lt hik) hk
    rw [unq_go h1] at ht hb ⊢
    rw [unq_go (show ¬ (D.take k ++ r).length ≤ i by omega), g0, hd]
    by_cases h2 : D.getD i 0 = 34
    · rw [if_pos h2, if_pos h2]
    rw [if_neg h2] at ht hb
    rw [if_neg h2, if_neg h2]
    by_cases h3 : D.getD i 0 = 92
    · rw [if_pos h3] at ht hb
      rw [if_pos h3, if_pos h3]
      by_cases h4 : (escOf (D.drop i)).2 = 0
      · rw [if_pos h4] at ht; exact absurd ht (by simp)
      · rw [if_neg h4] at ht hb
        have hbd := unqP_bound D _ _ _ ht
        rw [esc_strong r h4 (by omega), if_neg h4, if_neg h4]
        exact unq_strong hk f f' _ _ (by omega) ht hb
    rw [if_neg h3] at ht hb
    rw [if_neg h3, if_neg h3]
    by_cases h5 : RightD (decodeL (D.drop i)) ∧ PlainN (decodeL (D.drop i)).1
    · rw [if_pos h5] at ht hb
      have hbd := unqP_bound D _ _ _ ht
      have hw := dec_width_one (l := D.drop i)
      have hwl := dec_width (drop_ne h1)
      rw [decode_strong r (drop_ne h1) h5.1 (by omega), if_pos h5, if_pos h5]
      rw [List.take_append_of_le_length (by rw [List.length_take]; omega), List.take_take, Nat.min_eq_left (by omega)]
      exact unq_strong hk f f' _ _ (by omega) ht hb
    · rw [if_neg h5] at ht; exact absurd ht (by simp)
theorem quoted_strong {D : List UInt8} {k : Nat} (r : List UInt8) (hk : k ≤ D.length) (ht : (quotedOf D).2.2 = true) (hb : (quotedOf D).2.1 ≤ k) : quotedOf (D.take k ++ r) = quotedOf D := by
  unfold quotedOf at *
  exact unq_strong hk _ _ _ _ (by rw [List.length_append, List.length_take]; omega) ht hb
/-- what is wrong stays wrong ahead of a blank -/
theorem unq_err {D b : List UInt8} : ∀ (f f' i : Nat) (acc : List UInt8), D.length < i + f → D.length < i + f' → i ≤ D.length → (unq D f i acc).2.2 = false → (unq D f i acc).2.1 < D.length → unq (D ++ 32 :: b) f' i acc = ([], (unq D f i acc).2.1, false)
  | 0, f', i, acc, h, _, hi, _, _ => by omega
  | f + 1, 0, i, acc, _, h, hi, _, _ => by omega
  | f + 1, f' + 1, i, acc, hf, hf', hi, ht, hb => by
    by_cases h1 : D.length ≤ i
    · rw [unq, if_pos h1] at hb
      exact absurd hb (Nat.lt_irrefl _)
    have hlen : (D ++ 32 :: b).length = D.length + (b.length + 1) := by rw [List.length_append, List.length_cons]
    have g0 : (D ++ 32 :: b).getD i 0 = D.getD i 0 := by
      have := getD_takeR (l := D) (r := 32 :: b) (k := D.length) (j := i) (by omega) (by omega)
      rwa [List.take_length] at this
    have hd : (D ++ 32 :: b).drop i = D.drop i ++ 32 :: b := List.drop_append_of_le_length (by omega)
    rw [unq_go h1] at ht hb ⊢
    rw [unq_go (show ¬ (D ++ 32 :: b).length ≤ i by omega), g0, hd]
    have hdn := drop_ne h1
    by_cases h2 : D.getD i 0 = 34
    · rw [if_pos h2] at ht; exact absurd ht (by simp)
    rw [if_neg h2] at ht hb
    rw [if_neg h2, if_neg h2]
    by_cases h3 : D.getD i 0 = 92
    · rw [if_pos h3] at ht hb
      rw [if_pos h3, if_pos h3]
      by_cases h4 : (escOf (D.drop i)).2 = 0
      · rw [if_pos h4, if_pos (esc_fail b hdn h4)]
      · rw [if_neg h4] at ht hb
        have hs := esc_strong (D := D.drop i) (k := (D.drop i).length) (32 :: b) h4 (escP_le _)
        rw [List.take_length] at hs
        have he := escP_le (D.drop i)
        rw [List.length_drop] at he
        rw [if_neg h4, hs, if_neg h4]
        exact unq_err f f' _ _ (by omega) (by omega) (by omega) ht hb
    rw [if_neg h3] at ht hb
    rw [if_neg h3, if_neg h3]
    by_cases h5 : RightD (decodeL (D.drop i)) ∧ PlainN (decodeL (D.drop i)).1
    · rw [if_pos h5] at ht hb
      have hw := dec_width_one (l := D.drop i)
      have hwl := dec_width hdn
      have hs := decode_strong (D := D.drop i) (k := (D.drop i).length) (32 :: b) hdn h5.1 hwl
      rw [List.take_length] at hs
      rw [hs, if_pos h5, if_pos h5, List.take_append_of_le_length hwl]
      rw [List.length_drop] at hwl
      exact unq_err f f' _ _ (by omega) (by omega) (by omega) ht hb
    · rw [if_neg h5, if_neg]
      intro h6
      rw [← dec_fail b hdn h6.1] at h6
      exact h5 h6
theorem quoted_err {D : List UInt8} (b : List UInt8) (hD : D ≠ []) (ht : (quotedOf D).2.2 = false) (hb : (quotedOf D).2.1 < D.length) : quotedOf (D ++ 32 :: b) = ([], (quotedOf D).2.1, false) := by
  have := List.length_pos_iff.2 hD
  unfold quotedOf at *
  exact unq_err _ _ _ _ (by omega) (by rw [List.length_append, List.length_cons]; omega) (by omega) ht hb
end Go.Proofs.YtchdeboialbdiaaDoor
/- The plain law of a script's lines. -/
namespace Go.Proofs.YtchdeboialbdiaaDoor
set_option linter.unusedVariables false
set_option linter.unusedSimpArgs false
open Go.Lib
/-- how wide the line end is that begins at a place (0: none) -/
def endL (l : List UInt8) (i : Nat) : Nat :=
  if l.length ≤ i then 0
  else if (l.getD i 0).toNat = 10 then (if 0 < i ∧ (l.getD (i - 1) 0).toNat = 13 then 0 else 1)
  else if (l.getD i 0).toNat = 13 then (if i + 1 < l.length ∧ (l.getD (i + 1) 0).toNat = 10 then 2 else 1)
  else if (decodeL (l.drop i)).1 = 133 ∨ (decodeL (l.drop i)).1 = 8232 ∨ (decodeL (l.drop i)).1 = 8233 then (decodeL (l.drop i)).2 else 0
theorem getD_drop (l : List UInt8) (i j : Nat) : (l.drop i).getD j 0 = l.getD (i + j) 0 := by
  rw [List.getD_eq_getElem?_getD, List.getD_eq_getElem?_getD, List.getElem?_drop]
/-- the three characters that end a line, by their bytes -/
theorem dec_sep {D : List UInt8} :
    ((decodeL D).1 = 133 ∧ (decodeL D).2 = 2 ∧ 1 < D.length ∧ (D.getD 0 0).toNat = 194 ∧ (D.getD 1 0).toNat = 133) ∨
    (((decodeL D).1 = 8232 ∨ (decodeL D).1 = 8233) ∧ (decodeL D).2 = 3 ∧ 2 < D.length ∧ (D.getD 0 0).toNat = 226 ∧ (D.getD 1 0).toNat = 128 ∧ ((D.getD 2 0).toNat = 168 ∨ (D.getD 2 0).toNat = 169)) ∨
    (¬ ((decodeL D).1 = 133 ∨ (decodeL D).1 = 8232 ∨ (decodeL D).1 = 8233) ∧ ¬ (1 < D.length ∧ (D.getD 0 0).toNat = 194 ∧ (D.getD 1 0).toNat = 133) ∧ ¬ (2 < D.length ∧ (D.getD 0 0).toNat = 226 ∧ (D.getD 1 0).toNat = 128 ∧ ((D.getD 2 0).toNat = 168 ∨ (D.getD 2 0).toNat = 169))) := by
  rw [decodeL_N]
  have k0 := (D.getD 0 0).toNat_lt
  have k1 := (D.getD 1 0).toNat_lt
  have k2 := (D.getD 2 0).toNat_lt
  have k3 := (D.getD 3 0).toNat_lt
  generalize (D.getD 0 0).toNat = b0 at *
  generalize (D.getD 1 0).toNat = b1 at *
  generalize (D.getD 2 0).toNat = b2 at *
  generalize (D.getD 3 0).toNat = b3 at *
  generalize D.length = n at *
  by_cases h1 : 1 < n ∧ b0 = 194 ∧ b1 = 133
  · obtain ⟨h, rfl, rfl⟩ := h1
    left
    unfold decodeN
    rw [if_neg (by omega), if_pos (by omega), if_pos (by omega)]
    exact ⟨rfl, rfl, h, rfl, rfl⟩
  · by_cases h2 : 2 < n ∧ b0 = 226 ∧ b1 = 128 ∧ (b2 = 168 ∨ b2 = 169)
    · obtain ⟨h, rfl, rfl, h3⟩ := h2
      right; left
      unfold decodeN
      rw [if_neg (by omega), if_neg (by omega), if_pos (by omega), if_pos (by omega)]
      refine ⟨?_, rfl, h, rfl, rfl, h3⟩
      dsimp only
      omega
    · right; right
      refine ⟨?_, h1, h2⟩
      rcases decodeN_shape n b0 b1 b2 b3 with ⟨h, e⟩ | ⟨c1, c2, c3, cv, e⟩ | ⟨c1, c2, c3, c4, cv, cs, e⟩ | ⟨c1, c2, c3, c4, c5, cv, cw, e⟩ | e
      all_goals (rw [e]; dsimp only; omega)
/-- where a line end is, is room for it -/
theorem endL_le (l : List UInt8) (i : Nat) : endL l i = 0 ∨ i + endL l i ≤ l.length := by
  unfold endL
  split
  · exact .inl rfl
  · rename_i h
    have hd : l.drop i ≠ [] := drop_ne h
    have hw := dec_width hd
    rw [List.length_drop] at hw
    repeat' split
    all_goals omega
/-- a place of a line: from, to, how wide the end is -/
def linesGo (l : List UInt8) : Nat → Nat → Nat → List (Nat × Nat × Nat)
  | 0, _, _ => []
  | f + 1, a, i => if l.length ≤ i then [(a, l.length, 0)] else if endL l i = 0 then linesGo l f a (i + 1) else (a, i, endL l i) :: linesGo l f (i + endL l i) (i + endL l i)
def linesL (l : List UInt8) : List (Nat × Nat × Nat) := linesGo l (l.length + 1) 0 0
/-- more fuel tells no more -/
theorem linesGo_fuel (l : List UInt8) : ∀ f g a i, i ≤ l.length → l.length < i + f → l.length < i + g → linesGo l f a i = linesGo l g a i
  | 0, g, a, i, hi, h, h' => by omega
  | f + 1, 0, a, i, hi, h, h' => by omega
  | f + 1, g + 1, a, i, hi, h, h' => by
    rw [linesGo, linesGo]
    split
    · rfl
    · split
      · exact linesGo_fuel l f g a (i + 1) (by omega) (by omega) (by omega)
      · rename_i h1 h2
        rw [linesGo_fuel l f g _ _ ((endL_le l i).resolve_left h2) (by omega) (by omega)]
theorem linesGo_ok (l : List UInt8) : ∀ f a i, a ≤ i → i ≤ l.length → ∀ x ∈ linesGo l f a i, a ≤ x.1 ∧ x.1 ≤ x.2.1 ∧ x.2.1 ≤ l.length
  | 0, a, i, _, _ => fun x hx => by rw [linesGo] at hx; cases hx
  | f + 1, a, i, hai, hil => by
    intro x hx
    rw [linesGo] at hx
    by_cases h1 : l.length ≤ i
    · rw [if_pos h1] at hx
      have : x = (a, l.length, 0) := by simpa using hx
      subst this
      exact ⟨Nat.le_refl _, by dsimp only; omega, Nat.le_refl _⟩
    rw [if_neg h1] at hx
    by_cases h2 : endL l i = 0
    · rw [if_pos h2] at hx
      exact linesGo_ok l f a (i + 1) (by omega) (by omega) x hx
    rw [if_neg h2] at hx
    have h3 := (endL_le l i).resolve_left h2
    rcases List.mem_cons.1 hx with rfl | hx
    · exact ⟨Nat.le_refl _, hai, by dsimp only; omega⟩
    · have := linesGo_ok l f _ _ (Nat.le_refl _) h3 x hx
      exact ⟨by omega, this.2⟩
theorem linesGo_len (l : List UInt8) : ∀ f a i, (linesGo l f a i).length ≤ f
  | 0, a, i => Nat.le_refl _
  | f + 1, a, i => by
    rw [linesGo]
    repeat' split
    · simp
    · have := linesGo_len l f a (i + 1); omega
    · have := linesGo_len l f (i + endL l i) (i + endL l i); rw [List.length_cons]; omega
theorem linesL_ok (l : List UInt8) : ∀ x ∈ linesL l, x.1 ≤ x.2.1 ∧ x.2.1 ≤ l.length := fun x hx => (linesGo_ok l _ 0 0 (Nat.le_refl _) (Nat.zero_le _) x hx).2
theorem linesL_len (l : List UInt8) : (linesL l).length ≤ l.length + 1 := linesGo_len l _ 0 0
/-- what has been told, and how many lines have been -/
def pieceL (l : List UInt8) (x : Nat × Nat × Nat) : List UInt8 := (l.drop x.1).take (x.2.1 - x.1)
def BlankB (x : UInt8) : Bool := x == 32 || x == 9
def saysL (s : List UInt8) : Bool := match s.dropWhile BlankB with | [] => false | c :: _ => c != 35
def rowStep (l : List UInt8) (s : List (Nat × List UInt8) × Nat) (x : Nat × Nat × Nat) : List (Nat × List UInt8) × Nat :=
  if saysL (pieceL l x) then (s.1 ++ [(s.2 + 1, pieceL l x)], s.2 + 1) else (s.1, s.2 + 1)
def rowSt (l : List UInt8) (xs : List (Nat × Nat × Nat)) : List (Nat × List UInt8) × Nat := xs.foldl (rowStep l) ([], 0)
def rowsL (l : List UInt8) : List (Nat × List UInt8) := (rowSt l (linesL l)).1
theorem rowSt_next (l : List UInt8) (xs : List (Nat × Nat × Nat)) (x : Nat × Nat × Nat) : rowSt l (xs ++ [x]) = rowStep l (rowSt l xs) x := by simp [rowSt]
theorem rowSt_prefix (l : List UInt8) (a b : List (Nat × Nat × Nat)) : (rowSt l a).1 <+: (rowSt l (a ++ b)).1 := by
  induction b generalizing a with
  | nil => simp
  | cons x b ih =>
    have h := ih (a ++ [x])
    rw [List.append_assoc, List.singleton_append] at h
    refine List.IsPrefix.trans ?_ h
    rw [rowSt_next, rowStep]
    split
    · exact List.prefix_append _ _
    · exact List.prefix_refl _
theorem rowSt_num (l : List UInt8) (xs : List (Nat × Nat × Nat)) : (rowSt l xs).2 = xs.length ∧ (rowSt l xs).1.length ≤ xs.length := by
  suffices h : ∀ (ys : List (Nat × Nat × Nat)) s, (ys.foldl (rowStep l) s).2 = s.2 + ys.length ∧ (ys.foldl (rowStep l) s).1.length ≤ s.1.length + ys.length by
    have := h xs ([], 0)
    unfold rowSt
    refine ⟨by rw [this.1]; simp, by have := this.2; simpa using this⟩
  intro ys
  induction ys with
  | nil => intro s; simp
  | cons y ys ih =>
    intro s
    rw [List.foldl_cons]
    have := ih (rowStep l s y)
    rw [this.1]
    have h2 := this.2
    have e1 : (rowStep l s y).2 = s.2 + 1 := by unfold rowStep; split <;> rfl
    have e2 : (rowStep l s y).1.length ≤ s.1.length + 1 := by unfold rowStep; split <;> simp
    rw [List.length_cons]
    omega
theorem rowsL_len (l : List UInt8) : (rowsL l).length ≤ l.length + 1 := by
  have := (rowSt_num l (linesL l)).2
  have := linesL_len l
  unfold rowsL
  omega
end Go.Proofs.YtchdeboialbdiaaDoor
/- The library's tables in the world; the first character of a text. -/
namespace Go.Proofs.YtchdeboialbdiaaDoor
set_option linter.unusedVariables false
set_option linter.unusedSimpArgs false
open Go.RowKit Go.Lib
/-- the tables of the library that are read here -/
structure Tabs (w : World) : Prop where
  utf : Lib.Utf8Tabs 2 3 w
  size : 4 ≤ w.heap.size
theorem Tabs.below {B : Nat} {w w' : World} (h : Tabs w) (b : Below B w w') (hB : 4 ≤ B) : Tabs w' := by
  refine ⟨⟨fun c hc => ?_, fun i hi => ?_⟩, Nat.le_trans h.size b.size⟩
  · rw [b.cell (by simp; omega)]; exact h.utf.1 c hc
  · rw [b.cell (by simp; omega), b.cell (by simp; omega)]; exact h.utf.2 i hi
theorem Tabs.next {w w' : World} (h : Tabs w) (b : Below w.heap.size w w') : Tabs w' := h.below b h.size
theorem cell_rows {w w' : World} {p : Addr} (h : w'.heap[p.block]? = w.heap[p.block]?) : w'.cell? p = w.cell? p := by
  unfold World.cell?
  rw [h]
theorem Tabs.rows {w w' : World} (h : Tabs w) (hr : ∀ r, r < 4 → w'.heap[r]? = w.heap[r]?) (hs : w.heap.size ≤ w'.heap.size) : Tabs w' := by
  refine ⟨⟨fun c hc => ?_, fun i hi => ?_⟩, Nat.le_trans h.size hs⟩
  · rw [cell_rows (hr _ (by simp))]; exact h.utf.1 c hc
  · rw [cell_rows (hr _ (by simp)), cell_rows (hr _ (by simp))]; exact h.utf.2 i hi
theorem decodeGo_L {l : List UInt8} (hl : l ≠ []) : Lib.decodeGo (bstr l) = decodeL l := by
  have : (bstr l).size ≠ 0 := by rw [bstr_size]; exact fun e => hl (List.eq_nil_of_length_eq_zero e)
  simp only [Lib.decodeGo, if_neg this]
  rfl
set_option maxHeartbeats 400000 in
theorem wideC (w : World) (l : List UInt8) (hl : l ≠ []) (hT : Tabs w) :
    Calls Tryd.prog 74 #[.string (bstr l), .int .i32 ((decodeL l).1 : Int)] w fun e w' => e = .returned (.int .i64 ((decodeL l).2 : Int)) ∧ Below w.heap.size w w' := by
  have hlen := runeLen_decode l
  have hgo := decodeGo_L hl
  have hR := dec_rune_le (l := l)
  obtain ⟨R, hRe⟩ : ∃ R, (decodeL l).1 = R := ⟨_, rfl⟩
  obtain ⟨K, hKe⟩ : ∃ K, (decodeL l).2 = K := ⟨_, rfl⟩
  rw [hRe] at hlen hR ⊢
  rw [hKe] at hlen ⊢
  by_cases h : R = 65533
  · have c := Tryd.utf8_DecodeRuneInString (bstr l) w hT.utf
    rw [hgo, hRe, hKe] at c
    subst h
    clear hgo hlen hR hRe hKe
    have C := Lib.hid c
    clear c
    go_enter Tryd.func74, Tryd.ntmps74
    go_wp2_with (go_at_call 98; refine (C.out).mono ?_; rintro e w' ⟨rfl, hb⟩)
    go_ret
    exact ⟨rfl, hb⟩
  · have hh : ((R : Int) != 65533) = true := by simp; omega
    have HL := Lib.hid (hlen h)
    clear hgo hlen hRe hKe
    go_enter Tryd.func74, Tryd.ntmps74
    go_wp2_with (go_at_call 97; refine (Tryd.utf8_RuneLen _ _).mono ?_; rintro e w' ⟨rfl, rfl⟩)
    go_ret
    rw [HL.out]
    exact ⟨rfl, Below.refl _ _⟩
theorem iter_below (w : World) (s : ByteArray) (p : Nat) : Below w.heap.size w (w.iter s p) := (Below.refl _ w).alloc (Nat.le_refl _) _
theorem iter_size (w : World) (s : ByteArray) (p : Nat) : (w.iter s p).heap.size = w.heap.size + 1 := by simp [World.iter]
theorem next_first (w : World) (l : List UInt8) (hl : l ≠ []) (ty : TypeId) :
    (Instr.next (.pointer (some ⟨w.heap.size, 0, none⟩)) true ty).run Tryd.prog (w.iter (bstr l) 0) = .ok (.tuple #[.bool true, .int .i64 0, .int .i32 ((decodeL l).1 : Int)]) (w.iter (bstr l) (decodeL l).2) := by
  have hpos : 0 < (bstr l).size := by rw [bstr_size]; exact List.length_pos_iff.2 hl
  have := run_next_any (P := Tryd.prog) w (bstr l) 0 ty hpos
  have hd : Utf8.decode (bstr l) 0 = decodeL l := rfl
  rw [hd] at this
  simpa using this
theorem right_bool (l : List UInt8) : decide (RightD (decodeL l)) = (((decodeL l).1 : Int) != 65533 || decide ((1 : Int) < ((decodeL l).2 : Int))) := by
  rw [Bool.eq_iff_iff]
  simp only [decide_eq_true_eq, Bool.or_eq_true, bne_iff_ne, ne_eq]
  unfold RightD
  omega
set_option maxHeartbeats 400000 in
/-- the first character -/
theorem firstC (w : World) (l : List UInt8) (hl : l ≠ []) (hT : Tabs w) :
    Calls Tryd.prog 52 #[.string (bstr l)] w fun e w' => e = .returned (.tuple #[.int .i32 ((decodeL l).1 : Int), .int .i64 ((decodeL l).2 : Int), .bool (decide (RightD (decodeL l)))]) ∧ Below w.heap.size w w' := by
  have hnx := next_first w l hl
  have hw := wideC (w.iter (bstr l) (decodeL l).2) l hl (hT.next (iter_below _ _ _))
  have hr := right_bool l
  have hb0 := iter_below w (bstr l) (decodeL l).2
  rw [iter_size] at hw
  obtain ⟨R, hRe⟩ : ∃ R, (decodeL l).1 = R := ⟨_, rfl⟩
  obtain ⟨K, hKe⟩ : ∃ K, (decodeL l).2 = K := ⟨_, rfl⟩
  rw [hr]
  rw [hRe, hKe] at hnx hw ⊢
  rw [hKe] at hb0
  clear hRe hKe hr
  have HW := Lib.hid hw
  have HB := Lib.hid hb0
  clear hw hb0
  go_enter Tryd.func52, Tryd.ntmps52
  go_wp2
  refine wp_loop_rounds 1 ?_
  rw [rounds_succ]
  go_wp2_with fail
  refine (HW.out).mono ?_
  rintro e w' ⟨rfl, hb⟩
  go_wp2
  all_goals go_ret3
  all_goals first
    | exact ⟨rfl, HB.out.trans (hb.mono (by omega))⟩
    | (refine ⟨?_, HB.out.trans (hb.mono (by omega))⟩; simp_all)
@[go_sem, simp] theorem bstr_toList (l : List UInt8) : (bstr l).toList = l := by
  rw [Lib.toList_data]; rfl
theorem bstr_get (l : List UInt8) (k : Nat) (h : k < (bstr l).size) : (bstr l)[k] = l[k]'(by simpa using h) := rfl
theorem bstr_at {l : List UInt8} {k : Nat} {x : UInt8} (hx : l[k]? = some x) (h : k < (bstr l).size) : (bstr l)[k] = x := by
  rw [bstr_get]
  rw [List.getElem?_eq_some_iff] at hx
  exact hx.2
theorem some_at {l : List UInt8} {k : Nat} (h : k < l.length) : ∃ x, l[k]? = some x := ⟨l[k], List.getElem?_eq_getElem h⟩
theorem byte_ne {x : UInt8} {n : Nat} (hn : n < 256) (h : x ≠ UInt8.ofNat n) : ((x.toNat : Int) == (n : Int)) = false := by
  rw [beq_eq_false_iff_ne]
  intro e
  apply h
  apply UInt8.toNat_inj.1
  rw [UInt8.toNat_ofNat_of_lt' (by simpa using hn)]
  omega
theorem nat_ne {a : Nat} {b : Nat} (h : a ≠ b) : ((a : Int) == (b : Int)) = false := by rw [beq_eq_false_iff_ne]; omega
end Go.Proofs.YtchdeboialbdiaaDoor
