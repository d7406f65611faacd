/- Texts joined, one behind the other (ScanP, QuoteP). -/
import Derived.Test.YtchdeboialbdiaaDoorSk01
import Derived.Lib.MapLaws
import Derived.Lib.ItoaNum
import Derived.Lib.Bytealg
/- The plain law of the scan: no program in sight: what a line's tokens are, what a quoted text stands for, the quoted form of bytes, the line of tokens. -/
namespace Go.Proofs.YtchdeboialbdiaaDoor
set_option linter.unusedVariables false
set_option linter.unusedSimpArgs false
open Go.Lib
def BlankN (n : Nat) : Prop := n = 32 ∨ n = 9
instance (n : Nat) : Decidable (BlankN n) := by unfold BlankN; infer_instance
def RunN (n : Nat) : Prop := (97 ≤ n ∧ n ≤ 122) ∨ (48 ≤ n ∧ n ≤ 57) ∨ n = 46 ∨ n = 95 ∨ n = 45
instance (n : Nat) : Decidable (RunN n) := by unfold RunN; infer_instance
def PlainN (r : Nat) : Prop := 32 ≤ r ∧ r ≠ 34 ∧ r ≠ 92 ∧ r ≠ 127 ∧ r ≠ 133 ∧ r ≠ 8232 ∧ r ≠ 8233
instance (n : Nat) : Decidable (PlainN n) := by unfold PlainN; infer_instance
/-- is the character right? -/
def RightD (d : Nat × Nat) : Prop := d.1 ≠ 65533 ∨ 1 < d.2
instance (d : Nat × Nat) : Decidable (RightD d) := by unfold RightD; infer_instance
/-! a run's end -/
def endOf (p : Nat → Prop) [DecidablePred p] (l : List UInt8) (i : Nat) : Nat := i + ((l.drop i).takeWhile fun x => decide (p x.toNat)).length
theorem endOf_step {p : Nat → Prop} [DecidablePred p] {l : List UInt8} {i : Nat} {x : UInt8} (hx : l[i]? = some x) (hp : p x.toNat) : endOf p l (i + 1) = endOf p l i := by
  obtain ⟨h, rfl⟩ := List.getElem?_eq_some_iff.1 hx
  unfold endOf
  rw [List.drop_eq_getElem_cons h, List.takeWhile_cons_of_pos (by simpa using hp), List.length_cons]
  omega
theorem endOf_stop {p : Nat → Prop} [DecidablePred p] {l : List UInt8} {i : Nat} {x : UInt8} (hx : l[i]? = some x) (hp : ¬ p x.toNat) : endOf p l i = i := by
  obtain ⟨h, rfl⟩ := List.getElem?_eq_some_iff.1 hx
  unfold endOf
  rw [List.drop_eq_getElem_cons h, List.takeWhile_cons_of_neg (by simpa using hp)]
  rfl
theorem endOf_end {p : Nat → Prop} [DecidablePred p] {l : List UInt8} {i : Nat} (h : l.length ≤ i) : endOf p l i = i := by
  unfold endOf
  rw [List.drop_eq_nil_of_le h]
  rfl
theorem endOf_ge {p : Nat → Prop} [DecidablePred p] (l : List UInt8) (i : Nat) : i ≤ endOf p l i := Nat.le_add_right _ _
theorem endOf_le {p : Nat → Prop} [DecidablePred p] {l : List UInt8} {i : Nat} (h : i ≤ l.length) : endOf p l i ≤ l.length := by
  have := (List.takeWhile_sublist (fun x : UInt8 => decide (p x.toNat)) (l := l.drop i)).length_le
  simp only [List.length_drop] at this
  unfold endOf
  omega
/-! numbers -/
def numGo : List UInt8 → Nat → Option Nat
  | [], n => some n
  | x :: r, n => if x.toNat < 48 ∨ 57 < x.toNat then none else if (9223372036854775807 - (x.toNat - 48)) / 10 < n then none else numGo r (10 * n + (x.toNat - 48))
def numOf (l : List UInt8) : Option Nat := if l.length = 0 ∨ 1 < l.length ∧ l.getD 0 0 = 48 then none else numGo l 0
/-! what is escaped -/
def digit16 (c : UInt8) : Nat := if 48 ≤ c.toNat ∧ c.toNat ≤ 57 then c.toNat - 48 else if 97 ≤ c.toNat ∧ c.toNat ≤ 102 then c.toNat - 87 else 16
def hexGo : List UInt8 → Nat → Option Nat
  | [], n => some n
  | x :: r, n => if 15 < digit16 x then none else hexGo r (16 * n + digit16 x)
def bracedOf (l : List UInt8) : List UInt8 × Nat :=
  if l.length < 3 ∨ l.getD 2 0 ≠ 123 ∨ indexByte l 125 < 4 ∨ 9 < indexByte l 125 then ([], 0)
  else match hexGo ((l.drop 3).take ((indexByte l 125).toNat - 3)) 0 with
  | none => ([], 0)
  | some n => if 1114111 < n ∨ 55296 ≤ n ∧ n ≤ 57343 then ([], 0) else (encodeRune n, (indexByte l 125).toNat + 1)
def escOf (l : List UInt8) : List UInt8 × Nat :=
  if l.length < 2 then ([], 0)
  else if l.getD 1 0 = 34 ∨ l.getD 1 0 = 92 then ([l.getD 1 0], 2)
  else if l.getD 1 0 = 110 then ([10], 2)
  else if l.getD 1 0 = 114 then ([13], 2)
  else if l.getD 1 0 = 116 then ([9], 2)
  else if l.getD 1 0 = 120 then (if l.length < 4 ∨ 15 < digit16 (l.getD 2 0) ∨ 15 < digit16 (l.getD 3 0) then ([], 0) else ([UInt8.ofNat (16 * digit16 (l.getD 2 0) + digit16 (l.getD 3 0))], 4))
  else if l.getD 1 0 = 117 then bracedOf l
  else ([], 0)
/-! a quoted text: what it stands for, how many bytes it has, whether it is one -/
def unq (l : List UInt8) : Nat → Nat → List UInt8 → List UInt8 × Nat × Bool
  | 0, i, _ => ([], i, false)
  | f + 1, i, acc =>
    if l.length ≤ i then ([], l.length, false)
    else if l.getD i 0 = 34 then (acc, i + 1, true)
    else if l.getD i 0 = 92 then (if (escOf (l.drop i)).2 = 0 then ([], i, false) else unq l f (i + (escOf (l.drop i)).2) (acc ++ (escOf (l.drop i)).1))
    else if RightD (decodeL (l.drop i)) ∧ PlainN (decodeL (l.drop i)).1 then unq l f (i + (decodeL (l.drop i)).2) (acc ++ (l.drop i).take (decodeL (l.drop i)).2)
    else ([], i, false)
def quotedOf (l : List UInt8) : List UInt8 × Nat × Bool := unq l (l.length + 1) 1 []
/-! the quoted form -/
def hexc (n : Nat) : UInt8 := UInt8.ofNat (if n < 10 then 48 + n else 87 + n)
def hexOf (r : Nat) : List UInt8 := if r = 133 then [56, 53] else if r = 8232 then [50, 48, 50, 56] else [50, 48, 50, 57]
def qpiece (l : List UInt8) : List UInt8 :=
  if (decodeL l).1 = 34 ∨ (decodeL l).1 = 92 then [92, l.getD 0 0]
  else if (decodeL l).1 = 10 then [92, 110]
  else if (decodeL l).1 = 13 then [92, 114]
  else if (decodeL l).1 = 9 then [92, 116]
  else if ¬ RightD (decodeL l) ∨ (decodeL l).1 < 32 ∨ (decodeL l).1 = 127 then [92, 120, hexc ((l.getD 0 0).toNat / 16), hexc ((l.getD 0 0).toNat % 16)]
  else if ¬ PlainN (decodeL l).1 then [92, 117, 123] ++ hexOf (decodeL l).1 ++ [125]
  else l.take (decodeL l).2
def quo (l : List UInt8) : Nat → Nat → List UInt8
  | 0, _ => []
  | f + 1, i => if l.length ≤ i then [] else qpiece (l.drop i) ++ quo l f (i + (decodeL (l.drop i)).2)
def quoteOf (l : List UInt8) : List UInt8 := 34 :: (quo l (l.length + 1) 0 ++ [34])
/-! tokens -/
structure Tok where
  kind : Int
  at' : Int
  text : List UInt8
  num : Int
deriving DecidableEq
def wordTok (l : List UInt8) (i k : Nat) : Tok :=
  match numOf ((l.drop i).take (k - i)) with
  | some n => ⟨2, i, [], n⟩
  | none => ⟨1, i, (l.drop i).take (k - i), 0⟩
/-- the tokens, or the error's number and its place -/
def scanGo (l : List UInt8) : Nat → Nat → List Tok → Except (Nat × Nat) (List Tok)
  | 0, i, _ => .error (70, i)
  | f + 1, i0, acc =>
    let i := endOf BlankN l i0
    if l.length ≤ i then .ok acc
    else if l.getD i 0 = 34 then
      (if (quotedOf (l.drop i)).2.2 = false then .error (71, i + (quotedOf (l.drop i)).2.1)
       else if l.length ≤ i + (quotedOf (l.drop i)).2.1 ∨ BlankN (l.getD (i + (quotedOf (l.drop i)).2.1) 0).toNat then scanGo l f (i + (quotedOf (l.drop i)).2.1) (acc ++ [⟨3, i, (quotedOf (l.drop i)).1, 0⟩])
       else .error (70, i + (quotedOf (l.drop i)).2.1))
    else if endOf RunN l i = i then .error (70, i)
    else if l.length ≤ endOf RunN l i ∨ BlankN (l.getD (endOf RunN l i) 0).toNat then scanGo l f (endOf RunN l i) (acc ++ [wordTok l i (endOf RunN l i)])
    else .error (70, endOf RunN l i)
def scanOf (l : List UInt8) : Except (Nat × Nat) (List Tok) := if 16384 < l.length then .error (4, 0) else scanGo l (l.length + 1) 0 []
/-- what a quoted text stands for, or the error's number and its place -/
def unquoteOf (l : List UInt8) : Except (Nat × Nat) (List UInt8) :=
  if 16384 < l.length then .error (4, 0)
  else if l.length = 0 ∨ l.getD 0 0 ≠ 34 then .error (71, 0)
  else if (quotedOf l).2.2 = false ∨ (quotedOf l).2.1 < l.length then .error (71, (quotedOf l).2.1)
  else .ok (quotedOf l).1
/-- a token's bytes, if it may be -/
def printed (t : Tok) : Option (List UInt8) :=
  if t.kind = 1 then (if t.text.length = 0 ∨ (numOf t.text).isSome = true ∨ (∃ x ∈ t.text, ¬ RunN x.toNat) ∨ t.num ≠ 0 then none else some t.text)
  else if t.kind = 2 then (if t.text.length ≠ 0 ∨ t.num < 0 then none else some (itoa t.num))
  else if t.kind = 3 then (if t.num ≠ 0 then none else some (quoteOf t.text))
  else none
def joinB : List (List UInt8) → List UInt8
  | [] => []
  | [a] => a
  | a :: b :: r => a ++ 32 :: joinB (b :: r)
/-- the line of tokens, or the error's number -/
def printOf (l : List Tok) : Except Nat (List UInt8) :=
  match l.mapM printed with
  | none => .error 70
  | some ps => if 16384 < (joinB ps).length then .error 4 else .ok (joinB ps)
/-! one of the character -/
theorem dec_fst_byte {l : List UInt8} (hl : l ≠ []) (h : (decodeL l).1 < 128) : (decodeL l).2 = 1 ∧ (l.getD 0 0).toNat = (decodeL l).1 := by
  rw [decodeL_N] at h ⊢
  rcases decodeN_shape l.length (l.getD 0 0).toNat (l.getD 1 0).toNat (l.getD 2 0).toNat (l.getD 3 0).toNat with ⟨c, e⟩ | ⟨c1, c2, c3, cv, e⟩ | ⟨c1, c2, c3, c4, cv, cs, e⟩ | ⟨c1, c2, c3, c4, c5, cv, cw, e⟩ | e
  all_goals (rw [e] at h ⊢; dsimp only at h ⊢)
  all_goals first | exact ⟨rfl, rfl⟩ | omega
theorem dec_low {l : List UInt8} (h : (l.getD 0 0).toNat < 128) : decodeL l = ((l.getD 0 0).toNat, 1) := by
  rw [decodeL_N]; exact decodeN_ascii _ _ _ _ _ h
theorem dec_width_one {l : List UInt8} : 1 ≤ (decodeL l).2 := by rw [decodeL_N]; exact decodeN_ge1 _ _ _ _ _
theorem dec_width {l : List UInt8} (hl : l ≠ []) : (decodeL l).2 ≤ l.length := decodeL_le l hl
theorem dec_width_four {l : List UInt8} : (decodeL l).2 ≤ 4 := by
  rw [decodeL_N]
  rcases decodeN_shape l.length (l.getD 0 0).toNat (l.getD 1 0).toNat (l.getD 2 0).toNat (l.getD 3 0).toNat with ⟨c, e⟩ | ⟨c1, c2, c3, cv, e⟩ | ⟨c1, c2, c3, c4, cv, cs, e⟩ | ⟨c1, c2, c3, c4, c5, cv, cw, e⟩ | e
  all_goals (rw [e]; dsimp only; omega)
theorem dec_rune_le {l : List UInt8} : (decodeL l).1 ≤ 1114111 := by rw [decodeL_N]; exact decodeN_rune_le _ _ _ _ _ (UInt8.toNat_lt _)
/-- a character FFFD has one byte or three -/
theorem dec_bad {l : List UInt8} (h : (decodeL l).1 = 65533) : (decodeL l).2 = 1 ∨ (decodeL l).2 = 3 := by
  rw [decodeL_N] at h ⊢
  have k0 := (l.getD 0 0).toNat_lt
  rcases decodeN_shape l.length (l.getD 0 0).toNat (l.getD 1 0).toNat (l.getD 2 0).toNat (l.getD 3 0).toNat with ⟨c, e⟩ | ⟨c1, c2, c3, cv, e⟩ | ⟨c1, c2, c3, c4, cv, cs, e⟩ | ⟨c1, c2, c3, c4, c5, cv, cw, e⟩ | e
  all_goals (rw [e] at h ⊢; dsimp only at h ⊢)
  all_goals omega
theorem dec_right_iff (l : List UInt8) : RightD (decodeL l) ↔ ((decodeL l).1 ≠ 65533 ∨ (decodeL l).2 = 3) := by
  unfold RightD
  constructor
  · rintro (h | h)
    · exact .inl h
    · by_cases h1 : (decodeL l).1 = 65533
      · exact .inr (by have := dec_bad h1; omega)
      · exact .inl h1
  · rintro (h | h)
    · exact .inl h
    · exact .inr (by omega)
end Go.Proofs.YtchdeboialbdiaaDoor
/- The plain law of the quoted form: all bytes come back. -/
namespace Go.Proofs.YtchdeboialbdiaaDoor
set_option linter.unusedVariables false
set_option linter.unusedSimpArgs false
open Go.Lib
theorem decodeN_local (n n' b0 b1 b2 b3 c1 c2 c3 : Nat) (hR : RightD (decodeN n b0 b1 b2 b3)) (hn' : (decodeN n b0 b1 b2 b3).2 ≤ n') (e1 : 1 < (decodeN n b0 b1 b2 b3).2 → c1 = b1) (e2 : 2 < (decodeN n b0 b1 b2 b3).2 → c2 = b2) (e3 : 3 < (decodeN n b0 b1 b2 b3).2 → c3 = b3) :
    decodeN n' b0 c1 c2 c3 = decodeN n b0 b1 b2 b3 := by
  unfold RightD at hR
  rcases decodeN_shape n b0 b1 b2 b3 with ⟨h, e⟩ | ⟨h0, h1, h2, h3, e⟩ | ⟨h0, h1, h2, h3, h4, h5, e⟩ | ⟨h0, h1, h2, h3, h4, h5, h6, e⟩ | e
  · rw [e]; exact decodeN_ascii _ _ _ _ _ h
  · rw [e] at hn' e1 ⊢
    obtain rfl := e1 (by dsimp only; omega)
    dsimp only at hn'
    unfold decodeN
    rw [if_neg (by omega), if_pos ⟨h0, by omega, h2⟩, if_pos (by omega)]
  · rw [e] at hn' e1 e2 ⊢
    obtain rfl := e1 (by dsimp only; omega)
    obtain rfl := e2 (by dsimp only; omega)
    dsimp only at hn'
    unfold decodeN
    rw [if_neg (by omega), if_neg (by omega), if_pos ⟨h0, ⟨by omega, h2⟩, by omega, h3⟩, if_pos ⟨by omega, by omega⟩]
  · rw [e] at hn' e1 e2 e3 ⊢
    obtain rfl := e1 (by dsimp only; omega)
    obtain rfl := e2 (by dsimp only; omega)
    obtain rfl := e3 (by dsimp only; omega)
    dsimp only at hn'
    unfold decodeN
    rw [if_neg (by omega), if_neg (by omega), if_neg (by omega), if_pos ⟨h0, ⟨by omega, h2⟩, ⟨by omega, h3⟩, by omega, h4⟩, if_pos ⟨by omega, by omega⟩]
  · rw [e] at hR; simp at hR
theorem getD_take {l r : List UInt8} {k j : Nat} (hj : j < k) (hk : k ≤ l.length) : (l.take k ++ r).getD j 0 = l.getD j 0 := by
  rw [List.getD_eq_getElem?_getD, List.getD_eq_getElem?_getD, List.getElem?_append_left (by rw [List.length_take]; omega), List.getElem?_take, if_pos hj]
/-- a right character is told by its own bytes -/
theorem decode_local {D : List UInt8} (r : List UInt8) (hD : D ≠ []) (hR : RightD (decodeL D)) : decodeL (D.take (decodeL D).2 ++ r) = decodeL D := by
  have hw := dec_width hD
  have h1 := dec_width_one (l := D)
  have h0 : (D.take (decodeL D).2 ++ r).getD 0 0 = D.getD 0 0 := getD_take (by omega) hw
  have hl : (decodeL D).2 ≤ (D.take (decodeL D).2 ++ r).length := by rw [List.length_append, List.length_take]; omega
  obtain ⟨E, hE⟩ : ∃ E, D.take (decodeL D).2 ++ r = E := ⟨_, rfl⟩
  have key : ∀ j, j < (decodeL D).2 → (E.getD j 0).toNat = (D.getD j 0).toNat := fun j hj => by rw [← hE, getD_take hj hw]
  rw [hE] at h0 hl ⊢
  have e := decodeL_N D
  rw [decodeL_N E, e, h0]
  rw [e] at hR hl key
  exact decodeN_local _ _ _ _ _ _ _ _ _ hR hl (fun h => key 1 h) (fun h => key 2 h) (fun h => key 3 h)
theorem drop_pre (pre E : List UInt8) : (pre ++ E).drop pre.length = E := List.drop_left
theorem getD_pre (pre E : List UInt8) : (pre ++ E).getD pre.length 0 = E.getD 0 0 := by
  rw [List.getD_eq_getElem?_getD, List.getD_eq_getElem?_getD, List.getElem?_append_right (Nat.le_refl _), Nat.sub_self]
theorem digit_hexc : ∀ a : Fin 16, digit16 (hexc a.val) = a.val := by decide +kernel
theorem take_one {D : List UInt8} (hD : D ≠ []) : D.take 1 = [D.getD 0 0] := by
  cases D with
  | nil => exact absurd rfl hD
  | cons x D => rfl
theorem idx5 (r : List UInt8) : indexByte (92 :: 117 :: 123 :: 56 :: 53 :: 125 :: r) 125 = 5 := by simp [indexByte]
theorem idx7a (r : List UInt8) : indexByte (92 :: 117 :: 123 :: 50 :: 48 :: 50 :: 56 :: 125 :: r) 125 = 7 := by simp [indexByte]
theorem idx7b (r : List UInt8) : indexByte (92 :: 117 :: 123 :: 50 :: 48 :: 50 :: 57 :: 125 :: r) 125 = 7 := by simp [indexByte]
theorem esc_braced (r : List UInt8) (R : Nat) (hR : R = 133 ∨ R = 8232 ∨ R = 8233) : escOf ([92, 117, 123] ++ hexOf R ++ [125] ++ r) = (encodeRune (R : Int), 4 + (hexOf R).length) := by
  rcases hR with rfl | rfl | rfl
  · have e : [92, 117, 123] ++ hexOf 133 ++ [125] ++ r = 92 :: 117 :: 123 :: 56 :: 53 :: 125 :: r := rfl
    rw [e]
    unfold escOf
    simp only [List.length_cons, List.getD_cons_succ, List.getD_cons_zero]
    rw [if_neg (by omega), if_neg (by decide), if_neg (by decide), if_neg (by decide), if_neg (by decide), if_neg (by decide), if_pos (by decide)]
    unfold bracedOf
    rw [idx5]
    simp only [List.length_cons, List.getD_cons_succ, List.getD_cons_zero]
    rw [if_neg (by simp)]
    rfl
  · have e : [92, 117, 123] ++ hexOf 8232 ++ [125] ++ r = 92 :: 117 :: 123 :: 50 :: 48 :: 50 :: 56 :: 125 :: r := rfl
    rw [e]
    unfold escOf
    simp only [List.length_cons, List.getD_cons_succ, List.getD_cons_zero]
    rw [if_neg (by omega), if_neg (by decide), if_neg (by decide), if_neg (by decide), if_neg (by decide), if_neg (by decide), if_pos (by decide)]
    unfold bracedOf
    rw [idx7a]
    simp only [List.length_cons, List.getD_cons_succ, List.getD_cons_zero]
    rw [if_neg (by simp)]
    rfl
  · have e : [92, 117, 123] ++ hexOf 8233 ++ [125] ++ r = 92 :: 117 :: 123 :: 50 :: 48 :: 50 :: 57 :: 125 :: r := rfl
    rw [e]
    unfold escOf
    simp only [List.length_cons, List.getD_cons_succ, List.getD_cons_zero]
    rw [if_neg (by omega), if_neg (by decide), if_neg (by decide), if_neg (by decide), if_neg (by decide), if_neg (by decide), if_pos (by decide)]
    unfold bracedOf
    rw [idx7b]
    simp only [List.length_cons, List.getD_cons_succ, List.getD_cons_zero]
    rw [if_neg (by simp)]
    rfl
/-- what a character's quoted form is read as -/
theorem qpiece_case (D r : List UInt8) (hD : D ≠ []) :
    ((qpiece D).getD 0 0 = 92 ∧ (qpiece D ++ r).getD 0 0 = 92 ∧ escOf (qpiece D ++ r) = (D.take (decodeL D).2, (qpiece D).length) ∧ 0 < (qpiece D).length) ∨
    (qpiece D = D.take (decodeL D).2 ∧ RightD (decodeL D) ∧ PlainN (decodeL D).1) := by
  have hx := fun h => dec_fst_byte (l := D) hD h
  have t1 := take_one hD
  unfold qpiece
  by_cases c1 : (decodeL D).1 = 34 ∨ (decodeL D).1 = 92
  · rw [if_pos c1]
    obtain ⟨hw, hb⟩ := hx (by omega)
    left
    refine ⟨rfl, rfl, ?_, by simp⟩
    have hc : D.getD 0 0 = 34 ∨ D.getD 0 0 = 92 := by
      rcases c1 with c | c
      · exact .inl (UInt8.toNat_inj.1 (by rw [hb, c]; rfl))
      · exact .inr (UInt8.toNat_inj.1 (by rw [hb, c]; rfl))
    rw [hw, t1]
    unfold escOf
    simp only [List.cons_append, List.nil_append, List.length_cons, List.getD_cons_succ, List.getD_cons_zero]
    rw [if_neg (by omega), if_pos hc]
    rfl
  rw [if_neg c1]
  have simpleEsc : ∀ (v : Nat) (k x : UInt8), (decodeL D).1 = v → v < 128 → UInt8.ofNat v = x → x.toNat = v → (escOf ([92, k] ++ r) = ([x], 2)) → ((([92, k] : List UInt8)).getD 0 0 = 92 ∧ (([92, k] : List UInt8) ++ r).getD 0 0 = 92 ∧ escOf ([92, k] ++ r) = (D.take (decodeL D).2, ([92, k] : List UInt8).length) ∧ 0 < ([92, k] : List UInt8).length) := by
    intro v k x hv hlt _ hxv he
    obtain ⟨hw, hb⟩ := hx (by omega)
    refine ⟨rfl, rfl, ?_, by simp⟩
    rw [he, hw, t1]
    have : D.getD 0 0 = x := UInt8.toNat_inj.1 (by rw [hb, hv, hxv])
    rw [this]
    rfl
  by_cases c2 : (decodeL D).1 = 10
  · rw [if_pos c2]; exact .inl (simpleEsc 10 110 10 c2 (by omega) rfl rfl (by unfold escOf; simp))
  rw [if_neg c2]
  by_cases c3 : (decodeL D).1 = 13
  · rw [if_pos c3]; exact .inl (simpleEsc 13 114 13 c3 (by omega) rfl rfl (by unfold escOf; simp))
  rw [if_neg c3]
  by_cases c4 : (decodeL D).1 = 9
  · rw [if_pos c4]; exact .inl (simpleEsc 9 116 9 c4 (by omega) rfl rfl (by unfold escOf; simp))
  rw [if_neg c4]
  by_cases c5 : ¬ RightD (decodeL D) ∨ (decodeL D).1 < 32 ∨ (decodeL D).1 = 127
  · rw [if_pos c5]
    have hw : (decodeL D).2 = 1 := by
      rcases c5 with c | c | c
      · have := dec_width_one (l := D)
        unfold RightD at c
        omega
      · exact (hx (by omega)).1
      · exact (hx (by omega)).1
    left
    refine ⟨rfl, rfl, ?_, by simp⟩
    rw [hw, t1]
    obtain ⟨x, hxx⟩ : ∃ x, D.getD 0 0 = x := ⟨_, rfl⟩
    rw [hxx]
    have hlt := x.toNat_lt
    have d1 : digit16 (hexc (x.toNat / 16)) = x.toNat / 16 := digit_hexc ⟨x.toNat / 16, by omega⟩
    have d2 : digit16 (hexc (x.toNat % 16)) = x.toNat % 16 := digit_hexc ⟨x.toNat % 16, by omega⟩
    unfold escOf
    simp only [List.cons_append, List.nil_append, List.length_cons, List.getD_cons_succ, List.getD_cons_zero]
    rw [if_neg (by omega), if_neg (by decide), if_neg (by decide), if_neg (by decide), if_neg (by decide), if_pos (by decide), d1, d2, if_neg (by omega)]
    have : UInt8.ofNat (16 * (x.toNat / 16) + x.toNat % 16) = x := by
      rw [show 16 * (x.toNat / 16) + x.toNat % 16 = x.toNat by omega]
      exact UInt8.ofNat_toNat
    rw [this]
    rfl
  rw [if_neg c5]
  have hRt : RightD (decodeL D) := Classical.not_not.1 fun h => c5 (.inl h)
  by_cases c6 : ¬ PlainN (decodeL D).1
  · rw [if_pos c6]
    have hr : (decodeL D).1 = 133 ∨ (decodeL D).1 = 8232 ∨ (decodeL D).1 = 8233 := by
      unfold PlainN at c6
      omega
    left
    have he := esc_braced r (decodeL D).1 hr
    refine ⟨rfl, rfl, ?_, by simp⟩
    rw [he, encode_decode D hD (by unfold RightD at hRt; omega)]
    simp
    omega
  · rw [if_neg c6]
    exact .inr ⟨rfl, hRt, Classical.not_not.1 c6⟩
/-- a character's quoted form is read as one step -/
theorem unq_step (pre D r acc : List UInt8) (g : Nat) (hD : D ≠ []) : unq (pre ++ (qpiece D ++ r)) (g + 1) pre.length acc = unq (pre ++ (qpiece D ++ r)) g (pre.length + (qpiece D).length) (acc ++ D.take (decodeL D).2) ∧ 0 < (qpiece D).length := by
  have hq : 0 < (qpiece D).length := by
    rcases qpiece_case D r hD with ⟨_, _, _, h⟩ | ⟨h, _⟩
    · exact h
    · rw [h, List.length_take]
      have := dec_width hD
      have := dec_width_one (l := D)
      omega
  refine ⟨?_, hq⟩
  rw [unq, if_neg (by simp only [List.length_append]; omega), drop_pre, getD_pre]
  rcases qpiece_case D r hD with ⟨_, h1, h2, h3⟩ | ⟨h1, h2, h3⟩
  · rw [h1, if_neg (by decide), if_pos rfl, h2, if_neg (by dsimp only; omega)]
  · have hb : (qpiece D ++ r).getD 0 0 = D.getD 0 0 := by
      rw [h1]
      exact getD_take (by have := dec_width_one (l := D); omega) (dec_width hD)
    have n34 : D.getD 0 0 ≠ 34 := fun e => by
      have := dec_low (l := D) (by rw [e]; decide)
      rw [this, e] at h3
      exact absurd h3 (by decide)
    have n92 : D.getD 0 0 ≠ 92 := fun e => by
      have := dec_low (l := D) (by rw [e]; decide)
      rw [this, e] at h3
      exact absurd h3 (by decide)
    rw [hb, if_neg n34, if_neg n92, h1, decode_local r hD h2, if_pos ⟨h2, h3⟩]
    have hl : (D.take (decodeL D).2).length = (decodeL D).2 := by rw [List.length_take]; have := dec_width hD; omega
    rw [hl]
    congr 2
    rw [List.take_append_of_le_length (by omega), List.take_take, Nat.min_self]
/-- THERE AND BACK, at any place of a longer text -/
theorem unq_quo (s r : List UInt8) : ∀ (f i : Nat) (pre acc : List UInt8) (g : Nat), s.length < i + f → i ≤ s.length → (quo s f i).length < g →
    unq (pre ++ (quo s f i ++ 34 :: r)) g pre.length acc = (acc ++ s.drop i, pre.length + (quo s f i).length + 1, true)
  | 0, i, pre, acc, g, h1, h2, _ => by omega
  | f + 1, i, pre, acc, g, h1, h2, hg => by
    obtain ⟨g, rfl⟩ : ∃ k, g = k + 1 := ⟨g - 1, by omega⟩
    rw [quo] at hg ⊢
    by_cases hi : s.length ≤ i
    · rw [if_pos hi, List.nil_append]
      rw [unq, if_neg (by simp only [List.length_append, List.length_cons]; omega), getD_pre]
      have : s.drop i = [] := List.drop_eq_nil_of_le hi
      rw [this, List.append_nil]
      rfl
    rw [if_neg hi] at hg ⊢
    have hne : s.drop i ≠ [] := by intro e; have := congrArg List.length e; simp at this; omega
    have hw := dec_width hne
    rw [List.length_drop] at hw
    rw [List.append_assoc]
    obtain ⟨e, hq⟩ := unq_step pre (s.drop i) (quo s f (i + (decodeL (s.drop i)).2) ++ 34 :: r) acc g hne
    rw [e, ← List.append_assoc pre, ← List.length_append]
    rw [List.length_append] at hg
    have h1w := dec_width_one (l := s.drop i)
    rw [unq_quo s r f _ (pre ++ qpiece (s.drop i)) _ g (by omega) (by omega) (by omega)]
    rw [List.append_assoc acc]
    have hd : List.take (decodeL (s.drop i)).2 (s.drop i) ++ s.drop (i + (decodeL (s.drop i)).2) = s.drop i := by
      rw [← List.drop_drop, List.take_append_drop]
    rw [hd, List.length_append, List.length_append]
    simp only [Nat.add_assoc]
theorem quotedOf_quote (s r : List UInt8) : quotedOf (quoteOf s ++ r) = (s, (quoteOf s).length, true) := by
  unfold quotedOf quoteOf
  have := unq_quo s r (s.length + 1) 0 [34] [] ((34 :: (quo s (s.length + 1) 0 ++ [34]) ++ r).length + 1) (by omega) (Nat.zero_le _) (by simp; omega)
  rw [show ([34] : List UInt8) ++ (quo s (s.length + 1) 0 ++ 34 :: r) = 34 :: (quo s (s.length + 1) 0 ++ [34]) ++ r by simp] at this
  rw [show ([34] : List UInt8).length = 1 from rfl] at this
  rw [this]
  simp
  omega
end Go.Proofs.YtchdeboialbdiaaDoor
