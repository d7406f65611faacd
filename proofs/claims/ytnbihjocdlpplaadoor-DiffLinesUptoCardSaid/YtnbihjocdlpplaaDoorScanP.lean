/- The plain law of the scan: no program in sight: what a line's tokens are, what a quoted text stands for, the quoted form of bytes, the line of tokens. -/
import Derived.Lib.MapLaws
import Derived.Lib.ItoaNum
import Derived.Lib.Bytealg
namespace Go.Proofs.YtnbihjocdlpplaaDoor
set_option linter.unusedVariables false
set_option linter.unusedSimpArgs false
open Go.Lib
def BlankN (n : Nat) : Prop := n = 32 ∨ n = 9
instance (n : Nat) : Decidable (BlankN n) := by unfold BlankN; infer_instance
def RunN (n : Nat) : Prop := (97 ≤ n ∧ n ≤ 122) ∨ (48 ≤ n ∧ n ≤ 57) ∨ n = 46 ∨ n = 95 ∨ n = 45
instance (n : Nat) : Decidable (RunN n) := by unfold RunN; infer_instance
def PlainN (r : Nat) : Prop := 32 ≤ r ∧ r ≠ 34 ∧ r ≠ 92 ∧ r ≠ 127 ∧ r ≠ 133 ∧ r ≠ 8232 ∧ r ≠ 8233
instance (n : Nat) : Decidable (PlainN n) := by unfold PlainN; infer_instance
/-- is the character right? -/
def RightD (d : Nat × Nat) : Prop := d.1 ≠ 65533 ∨ 1 < d.2
instance (d : Nat × Nat) : Decidable (RightD d) := by unfold RightD; infer_instance
/-! a run's end -/
def endOf (p : Nat → Prop) [DecidablePred p] (l : List UInt8) (i : Nat) : Nat := i + ((l.drop i).takeWhile fun x => decide (p x.toNat)).length
theorem endOf_step {p : Nat → Prop} [DecidablePred p] {l : List UInt8} {i : Nat} {x : UInt8} (hx : l[i]? = some x) (hp : p x.toNat) : endOf p l (i + 1) = endOf p l i := by
  obtain ⟨h, rfl⟩ := List.getElem?_eq_some_iff.1 hx
  unfold endOf
  rw [List.drop_eq_getElem_cons h, List.takeWhile_cons_of_pos (by simpa using hp), List.length_cons]
  omega
theorem endOf_stop {p : Nat → Prop} [DecidablePred p] {l : List UInt8} {i : Nat} {x : UInt8} (hx : l[i]? = some x) (hp : ¬ p x.toNat) : endOf p l i = i := by
  obtain ⟨h, rfl⟩ := List.getElem?_eq_some_iff.1 hx
  unfold endOf
  rw [List.drop_eq_getElem_cons h, List.takeWhile_cons_of_neg (by simpa using hp)]
  rfl
theorem endOf_end {p : Nat → Prop} [DecidablePred p] {l : List UInt8} {i : Nat} (h : l.length ≤ i) : endOf p l i = i := by
  unfold endOf
  rw [List.drop_eq_nil_of_le h]
  rfl
theorem endOf_ge {p : Nat → Prop} [DecidablePred p] (l : List UInt8) (i : Nat) : i ≤ endOf p l i := Nat.le_add_right _ _
theorem endOf_le {p : Nat → Prop} [DecidablePred p] {l : List UInt8} {i : Nat} (h : i ≤ l.length) : endOf p l i ≤ l.length := by
  have := (List.takeWhile_sublist (fun x : UInt8 => decide (p x.toNat)) (l := l.drop i)).length_le
  simp only [List.length_drop] at this
  unfold endOf
  omega
/-! numbers -/
def numGo : List UInt8 → Nat → Option Nat
  | [], n => some n
  | x :: r, n => if x.toNat < 48 ∨ 57 < x.toNat then none else if (9223372036854775807 - (x.toNat - 48)) / 10 < n then none else numGo r (10 * n + (x.toNat - 48))
def numOf (l : List UInt8) : Option Nat := if l.length = 0 ∨ 1 < l.length ∧ l.getD 0 0 = 48 then none else numGo l 0
/-! what is escaped -/
def digit16 (c : UInt8) : Nat := if 48 ≤ c.toNat ∧ c.toNat ≤ 57 then c.toNat - 48 else if 97 ≤ c.toNat ∧ c.toNat ≤ 102 then c.toNat - 87 else 16
def hexGo : List UInt8 → Nat → Option Nat
  | [], n => some n
  | x :: r, n => if 15 < digit16 x then none else hexGo r (16 * n + digit16 x)
def bracedOf (l : List UInt8) : List UInt8 × Nat :=
  if l.length < 3 ∨ l.getD 2 0 ≠ 123 ∨ indexByte l 125 < 4 ∨ 9 < indexByte l 125 then ([], 0)
  else match hexGo ((l.drop 3).take ((indexByte l 125).toNat - 3)) 0 with
  | none => ([], 0)
  | some n => if 1114111 < n ∨ 55296 ≤ n ∧ n ≤ 57343 then ([], 0) else (encodeRune n, (indexByte l 125).toNat + 1)
def escOf (l : List UInt8) : List UInt8 × Nat :=
  if l.length < 2 then ([], 0)
  else if l.getD 1 0 = 34 ∨ l.getD 1 0 = 92 then ([l.getD 1 0], 2)
  else if l.getD 1 0 = 110 then ([10], 2)
  else if l.getD 1 0 = 114 then ([13], 2)
  else if l.getD 1 0 = 116 then ([9], 2)
  else if l.getD 1 0 = 120 then (if l.length < 4 ∨ 15 < digit16 (l.getD 2 0) ∨ 15 < digit16 (l.getD 3 0) then ([], 0) else ([UInt8.ofNat (16 * digit16 (l.getD 2 0) + digit16 (l.getD 3 0))], 4))
  else if l.getD 1 0 = 117 then bracedOf l
  else ([], 0)
/-! a quoted text: what it stands for, how many bytes it has, whether it is one -/
def unq (l : List UInt8) : Nat → Nat → List UInt8 → List UInt8 × Nat × Bool
  | 0, i, _ => ([], i, false)
  | f + 1, i, acc =>
    if l.length ≤ i then ([], l.length, false)
    else if l.getD i 0 = 34 then (acc, i + 1, true)
    else if l.getD i 0 = 92 then (if (escOf (l.drop i)).2 = 0 then ([], i, false) else unq l f (i + (escOf (l.drop i)).2) (acc ++ (escOf (l.drop i)).1))
    else if RightD (decodeL (l.drop i)) ∧ PlainN (decodeL (l.drop i)).1 then unq l f (i + (decodeL (l.drop i)).2) (acc ++ (l.drop i).take (decodeL (l.drop i)).2)
    else ([], i, false)
def quotedOf (l : List UInt8) : List UInt8 × Nat × Bool := unq l (l.length + 1) 1 []
/-! the quoted form -/
def hexc (n : Nat) : UInt8 := UInt8.ofNat (if n < 10 then 48 + n else 87 + n)
def hexOf (r : Nat) : List UInt8 := if r = 133 then [56, 53] else if r = 8232 then [50, 48, 50, 56] else [50, 48, 50, 57]
def qpiece (l : List UInt8) : List UInt8 :=
  if (decodeL l).1 = 34 ∨ (decodeL l).1 = 92 then [92, l.getD 0 0]
  else if (decodeL l).1 = 10 then [92, 110]
  else if (decodeL l).1 = 13 then [92, 114]
  else if (decodeL l).1 = 9 then [92, 116]
  else if ¬ RightD (decodeL l) ∨ (decodeL l).1 < 32 ∨ (decodeL l).1 = 127 then [92, 120, hexc ((l.getD 0 0).toNat / 16), hexc ((l.getD 0 0).toNat % 16)]
  else if ¬ PlainN (decodeL l).1 then [92, 117, 123] ++ hexOf (decodeL l).1 ++ [125]
  else l.take (decodeL l).2
def quo (l : List UInt8) : Nat → Nat → List UInt8
  | 0, _ => []
  | f + 1, i => if l.length ≤ i then [] else qpiece (l.drop i) ++ quo l f (i + (decodeL (l.drop i)).2)
def quoteOf (l : List UInt8) : List UInt8 := 34 :: (quo l (l.length + 1) 0 ++ [34])
/-! tokens -/
structure Tok where
  kind : Int
  at' : Int
  text : List UInt8
  num : Int
deriving DecidableEq
def wordTok (l : List UInt8) (i k : Nat) : Tok :=
  match numOf ((l.drop i).take (k - i)) with
  | some n => ⟨2, i, [], n⟩
  | none => ⟨1, i, (l.drop i).take (k - i), 0⟩
/-- the tokens, or the error's number and its place -/
def scanGo (l : List UInt8) : Nat → Nat → List Tok → Except (Nat × Nat) (List Tok)
  | 0, i, _ => .error (70, i)
  | f + 1, i0, acc =>
    let i := endOf BlankN l i0
    if l.length ≤ i then .ok acc
    else if l.getD i 0 = 34 then
      (if (quotedOf (l.drop i)).2.2 = false then .error (71, i + (quotedOf (l.drop i)).2.1)
       else if l.length ≤ i + (quotedOf (l.drop i)).2.1 ∨ BlankN (l.getD (i + (quotedOf (l.drop i)).2.1) 0).toNat then scanGo l f (i + (quotedOf (l.drop i)).2.1) (acc ++ [⟨3, i, (quotedOf (l.drop i)).1, 0⟩])
       else .error (70, i + (quotedOf (l.drop i)).2.1))
    else if endOf RunN l i = i then .error (70, i)
    else if l.length ≤ endOf RunN l i ∨ BlankN (l.getD (endOf RunN l i) 0).toNat then scanGo l f (endOf RunN l i) (acc ++ [wordTok l i (endOf RunN l i)])
    else .error (70, endOf RunN l i)
def scanOf (l : List UInt8) : Except (Nat × Nat) (List Tok) := if 16384 < l.length then .error (4, 0) else scanGo l (l.length + 1) 0 []
/-- what a quoted text stands for, or the error's number and its place -/
def unquoteOf (l : List UInt8) : Except (Nat × Nat) (List UInt8) :=
  if 16384 < l.length then .error (4, 0)
  else if l.length = 0 ∨ l.getD 0 0 ≠ 34 then .error (71, 0)
  else if (quotedOf l).2.2 = false ∨ (quotedOf l).2.1 < l.length then .error (71, (quotedOf l).2.1)
  else .ok (quotedOf l).1
/-- a token's bytes, if it may be -/
def printed (t : Tok) : Option (List UInt8) :=
  if t.kind = 1 then (if t.text.length = 0 ∨ (numOf t.text).isSome = true ∨ (∃ x ∈ t.text, ¬ RunN x.toNat) ∨ t.num ≠ 0 then none else some t.text)
  else if t.kind = 2 then (if t.text.length ≠ 0 ∨ t.num < 0 then none else some (itoa t.num))
  else if t.kind = 3 then (if t.num ≠ 0 then none else some (quoteOf t.text))
  else none
def joinB : List (List UInt8) → List UInt8
  | [] => []
  | [a] => a
  | a :: b :: r => a ++ 32 :: joinB (b :: r)
/-- the line of tokens, or the error's number -/
def printOf (l : List Tok) : Except Nat (List UInt8) :=
  match l.mapM printed with
  | none => .error 70
  | some ps => if 16384 < (joinB ps).length then .error 4 else .ok (joinB ps)
/-! one of the character -/
theorem dec_fst_byte {l : List UInt8} (hl : l ≠ []) (h : (decodeL l).1 < 128) : (decodeL l).2 = 1 ∧ (l.getD 0 0).toNat = (decodeL l).1 := by
  rw [decodeL_N] at h ⊢
  rcases decodeN_shape l.length (l.getD 0 0).toNat (l.getD 1 0).toNat (l.getD 2 0).toNat (l.getD 3 0).toNat with ⟨c, e⟩ | ⟨c1, c2, c3, cv, e⟩ | ⟨c1, c2, c3, c4, cv, cs, e⟩ | ⟨c1, c2, c3, c4, c5, cv, cw, e⟩ | e
  all_goals (rw [e] at h ⊢; dsimp only at h ⊢)
  all_goals first | exact ⟨rfl, rfl⟩ | omega
theorem dec_low {l : List UInt8} (h : (l.getD 0 0).toNat < 128) : decodeL l = ((l.getD 0 0).toNat, 1) := by
  rw [decodeL_N]; exact decodeN_ascii _ _ _ _ _ h
theorem dec_width_one {l : List UInt8} : 1 ≤ (decodeL l).2 := by rw [decodeL_N]; exact decodeN_ge1 _ _ _ _ _
theorem dec_width {l : List UInt8} (hl : l ≠ []) : (decodeL l).2 ≤ l.length := decodeL_le l hl
theorem dec_width_four {l : List UInt8} : (decodeL l).2 ≤ 4 := by
  rw [decodeL_N]
  rcases decodeN_shape l.length (l.getD 0 0).toNat (l.getD 1 0).toNat (l.getD 2 0).toNat (l.getD 3 0).toNat with ⟨c, e⟩ | ⟨c1, c2, c3, cv, e⟩ | ⟨c1, c2, c3, c4, cv, cs, e⟩ | ⟨c1, c2, c3, c4, c5, cv, cw, e⟩ | e
  all_goals (rw [e]; dsimp only; omega)
theorem dec_rune_le {l : List UInt8} : (decodeL l).1 ≤ 1114111 := by rw [decodeL_N]; exact decodeN_rune_le _ _ _ _ _ (UInt8.toNat_lt _)
/-- a character FFFD has one byte or three -/
theorem dec_bad {l : List UInt8} (h : (decodeL l).1 = 65533) : (decodeL l).2 = 1 ∨ (decodeL l).2 = 3 := by
  rw [decodeL_N] at h ⊢
  have k0 := (l.getD 0 0).toNat_lt
  rcases decodeN_shape l.length (l.getD 0 0).toNat (l.getD 1 0).toNat (l.getD 2 0).toNat (l.getD 3 0).toNat with ⟨c, e⟩ | ⟨c1, c2, c3, cv, e⟩ | ⟨c1, c2, c3, c4, cv, cs, e⟩ | ⟨c1, c2, c3, c4, c5, cv, cw, e⟩ | e
  all_goals (rw [e] at h ⊢; dsimp only at h ⊢)
  all_goals omega
theorem dec_right_iff (l : List UInt8) : RightD (decodeL l) ↔ ((decodeL l).1 ≠ 65533 ∨ (decodeL l).2 = 3) := by
  unfold RightD
  constructor
  · rintro (h | h)
    · exact .inl h
    · by_cases h1 : (decodeL l).1 = 65533
      · exact .inr (by have := dec_bad h1; omega)
      · exact .inl h1
  · rintro (h | h)
    · exact .inl h
    · exact .inr (by omega)
end Go.Proofs.YtnbihjocdlpplaaDoor
