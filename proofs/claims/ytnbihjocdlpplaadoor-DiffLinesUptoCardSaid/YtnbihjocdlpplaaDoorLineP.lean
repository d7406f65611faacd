/- The plain law of a script's lines. -/
import Derived.Test.YtnbihjocdlpplaaDoorScanQ
namespace Go.Proofs.YtnbihjocdlpplaaDoor
set_option linter.unusedVariables false
set_option linter.unusedSimpArgs false
open Go.Lib
/-- how wide the line end is that begins at a place (0: none) -/
def endL (l : List UInt8) (i : Nat) : Nat :=
  if l.length ≤ i then 0
  else if (l.getD i 0).toNat = 10 then (if 0 < i ∧ (l.getD (i - 1) 0).toNat = 13 then 0 else 1)
  else if (l.getD i 0).toNat = 13 then (if i + 1 < l.length ∧ (l.getD (i + 1) 0).toNat = 10 then 2 else 1)
  else if (decodeL (l.drop i)).1 = 133 ∨ (decodeL (l.drop i)).1 = 8232 ∨ (decodeL (l.drop i)).1 = 8233 then (decodeL (l.drop i)).2 else 0
theorem getD_drop (l : List UInt8) (i j : Nat) : (l.drop i).getD j 0 = l.getD (i + j) 0 := by
  rw [List.getD_eq_getElem?_getD, List.getD_eq_getElem?_getD, List.getElem?_drop]
/-- the three characters that end a line, by their bytes -/
theorem dec_sep {D : List UInt8} :
    ((decodeL D).1 = 133 ∧ (decodeL D).2 = 2 ∧ 1 < D.length ∧ (D.getD 0 0).toNat = 194 ∧ (D.getD 1 0).toNat = 133) ∨
    (((decodeL D).1 = 8232 ∨ (decodeL D).1 = 8233) ∧ (decodeL D).2 = 3 ∧ 2 < D.length ∧ (D.getD 0 0).toNat = 226 ∧ (D.getD 1 0).toNat = 128 ∧ ((D.getD 2 0).toNat = 168 ∨ (D.getD 2 0).toNat = 169)) ∨
    (¬ ((decodeL D).1 = 133 ∨ (decodeL D).1 = 8232 ∨ (decodeL D).1 = 8233) ∧ ¬ (1 < D.length ∧ (D.getD 0 0).toNat = 194 ∧ (D.getD 1 0).toNat = 133) ∧ ¬ (2 < D.length ∧ (D.getD 0 0).toNat = 226 ∧ (D.getD 1 0).toNat = 128 ∧ ((D.getD 2 0).toNat = 168 ∨ (D.getD 2 0).toNat = 169))) := by
  rw [decodeL_N]
  have k0 := (D.getD 0 0).toNat_lt
  have k1 := (D.getD 1 0).toNat_lt
  have k2 := (D.getD 2 0).toNat_lt
  have k3 := (D.getD 3 0).toNat_lt
  generalize (D.getD 0 0).toNat = b0 at *
  generalize (D.getD 1 0).toNat = b1 at *
  generalize (D.getD 2 0).toNat = b2 at *
  generalize (D.getD 3 0).toNat = b3 at *
  generalize D.length = n at *
  by_cases h1 : 1 < n ∧ b0 = 194 ∧ b1 = 133
  · obtain ⟨h, rfl, rfl⟩ := h1
    left
    unfold decodeN
    rw [if_neg (by omega), if_pos (by omega), if_pos (by omega)]
    exact ⟨rfl, rfl, h, rfl, rfl⟩
  · by_cases h2 : 2 < n ∧ b0 = 226 ∧ b1 = 128 ∧ (b2 = 168 ∨ b2 = 169)
    · obtain ⟨h, rfl, rfl, h3⟩ := h2
      right; left
      unfold decodeN
      rw [if_neg (by omega), if_neg (by omega), if_pos (by omega), if_pos (by omega)]
      refine ⟨?_, rfl, h, rfl, rfl, h3⟩
      dsimp only
      omega
    · right; right
      refine ⟨?_, h1, h2⟩
      rcases decodeN_shape n b0 b1 b2 b3 with ⟨h, e⟩ | ⟨c1, c2, c3, cv, e⟩ | ⟨c1, c2, c3, c4, cv, cs, e⟩ | ⟨c1, c2, c3, c4, c5, cv, cw, e⟩ | e
      all_goals (rw [e]; dsimp only; omega)
/-- where a line end is, is room for it -/
theorem endL_le (l : List UInt8) (i : Nat) : endL l i = 0 ∨ i + endL l i ≤ l.length := by
  unfold endL
  split
  · exact .inl rfl
  · rename_i h
    have hd : l.drop i ≠ [] := drop_ne h
    have hw := dec_width hd
    rw [List.length_drop] at hw
    repeat' split
    all_goals omega
/-- a place of a line: from, to, how wide the end is -/
def linesGo (l : List UInt8) : Nat → Nat → Nat → List (Nat × Nat × Nat)
  | 0, _, _ => []
  | f + 1, a, i => if l.length ≤ i then [(a, l.length, 0)] else if endL l i = 0 then linesGo l f a (i + 1) else (a, i, endL l i) :: linesGo l f (i + endL l i) (i + endL l i)
def linesL (l : List UInt8) : List (Nat × Nat × Nat) := linesGo l (l.length + 1) 0 0
/-- more fuel tells no more -/
theorem linesGo_fuel (l : List UInt8) : ∀ f g a i, i ≤ l.length → l.length < i + f → l.length < i + g → linesGo l f a i = linesGo l g a i
  | 0, g, a, i, hi, h, h' => by omega
  | f + 1, 0, a, i, hi, h, h' => by omega
  | f + 1, g + 1, a, i, hi, h, h' => by
    rw [linesGo, linesGo]
    split
    · rfl
    · split
      · exact linesGo_fuel l f g a (i + 1) (by omega) (by omega) (by omega)
      · rename_i h1 h2
        rw [linesGo_fuel l f g _ _ ((endL_le l i).resolve_left h2) (by omega) (by omega)]
theorem linesGo_ok (l : List UInt8) : ∀ f a i, a ≤ i → i ≤ l.length → ∀ x ∈ linesGo l f a i, a ≤ x.1 ∧ x.1 ≤ x.2.1 ∧ x.2.1 ≤ l.length
  | 0, a, i, _, _ => fun x hx => by rw [linesGo] at hx; cases hx
  | f + 1, a, i, hai, hil => by
    intro x hx
    rw [linesGo] at hx
    by_cases h1 : l.length ≤ i
    · rw [if_pos h1] at hx
      have : x = (a, l.length, 0) := by simpa using hx
      subst this
      exact ⟨Nat.le_refl _, by dsimp only; omega, Nat.le_refl _⟩
    rw [if_neg h1] at hx
    by_cases h2 : endL l i = 0
    · rw [if_pos h2] at hx
      exact linesGo_ok l f a (i + 1) (by omega) (by omega) x hx
    rw [if_neg h2] at hx
    have h3 := (endL_le l i).resolve_left h2
    rcases List.mem_cons.1 hx with rfl | hx
    · exact ⟨Nat.le_refl _, hai, by dsimp only; omega⟩
    · have := linesGo_ok l f _ _ (Nat.le_refl _) h3 x hx
      exact ⟨by omega, this.2⟩
theorem linesGo_len (l : List UInt8) : ∀ f a i, (linesGo l f a i).length ≤ f
  | 0, a, i => Nat.le_refl _
  | f + 1, a, i => by
    rw [linesGo]
    repeat' split
    · simp
    · have := linesGo_len l f a (i + 1); omega
    · have := linesGo_len l f (i + endL l i) (i + endL l i); rw [List.length_cons]; omega
theorem linesL_ok (l : List UInt8) : ∀ x ∈ linesL l, x.1 ≤ x.2.1 ∧ x.2.1 ≤ l.length := fun x hx => (linesGo_ok l _ 0 0 (Nat.le_refl _) (Nat.zero_le _) x hx).2
theorem linesL_len (l : List UInt8) : (linesL l).length ≤ l.length + 1 := linesGo_len l _ 0 0
/-- what has been told, and how many lines have been -/
def pieceL (l : List UInt8) (x : Nat × Nat × Nat) : List UInt8 := (l.drop x.1).take (x.2.1 - x.1)
def BlankB (x : UInt8) : Bool := x == 32 || x == 9
def saysL (s : List UInt8) : Bool := match s.dropWhile BlankB with | [] => false | c :: _ => c != 35
def rowStep (l : List UInt8) (s : List (Nat × List UInt8) × Nat) (x : Nat × Nat × Nat) : List (Nat × List UInt8) × Nat :=
  if saysL (pieceL l x) then (s.1 ++ [(s.2 + 1, pieceL l x)], s.2 + 1) else (s.1, s.2 + 1)
def rowSt (l : List UInt8) (xs : List (Nat × Nat × Nat)) : List (Nat × List UInt8) × Nat := xs.foldl (rowStep l) ([], 0)
def rowsL (l : List UInt8) : List (Nat × List UInt8) := (rowSt l (linesL l)).1
theorem rowSt_next (l : List UInt8) (xs : List (Nat × Nat × Nat)) (x : Nat × Nat × Nat) : rowSt l (xs ++ [x]) = rowStep l (rowSt l xs) x := by simp [rowSt]
theorem rowSt_prefix (l : List UInt8) (a b : List (Nat × Nat × Nat)) : (rowSt l a).1 <+: (rowSt l (a ++ b)).1 := by
  induction b generalizing a with
  | nil => simp
  | cons x b ih =>
    have h := ih (a ++ [x])
    rw [List.append_assoc, List.singleton_append] at h
    refine List.IsPrefix.trans ?_ h
    rw [rowSt_next, rowStep]
    split
    · exact List.prefix_append _ _
    · exact List.prefix_refl _
theorem rowSt_num (l : List UInt8) (xs : List (Nat × Nat × Nat)) : (rowSt l xs).2 = xs.length ∧ (rowSt l xs).1.length ≤ xs.length := by
  suffices h : ∀ (ys : List (Nat × Nat × Nat)) s, (ys.foldl (rowStep l) s).2 = s.2 + ys.length ∧ (ys.foldl (rowStep l) s).1.length ≤ s.1.length + ys.length by
    have := h xs ([], 0)
    unfold rowSt
    refine ⟨by rw [this.1]; simp, by have := this.2; simpa using this⟩
  intro ys
  induction ys with
  | nil => intro s; simp
  | cons y ys ih =>
    intro s
    rw [List.foldl_cons]
    have := ih (rowStep l s y)
    rw [this.1]
    have h2 := this.2
    have e1 : (rowStep l s y).2 = s.2 + 1 := by unfold rowStep; split <;> rfl
    have e2 : (rowStep l s y).1.length ≤ s.1.length + 1 := by unfold rowStep; split <;> simp
    rw [List.length_cons]
    omega
theorem rowsL_len (l : List UInt8) : (rowsL l).length ≤ l.length + 1 := by
  have := (rowSt_num l (linesL l)).2
  have := linesL_len l
  unfold rowsL
  omega
end Go.Proofs.YtnbihjocdlpplaaDoor
