/- The plain law of patches: the lines of a text, the least numbers, the script, the hunks. -/
import Derived.Test.YtnbihjocdlpplaaDoorLineP
namespace Go.Proofs.YtnbihjocdlpplaaDoor
set_option linter.unusedVariables false
set_option linter.unusedSimpArgs false
/-- a line with its end -/
def pieceE (l : List UInt8) (x : Nat × Nat × Nat) : List UInt8 := (l.drop x.1).take (x.2.1 + x.2.2 - x.1)
def splitA (l : List UInt8) : List (List UInt8) := (linesL l).map (pieceE l)
def splitD (l : List UInt8) : List (List UInt8) := if (splitA l).getLast? = some [] then (splitA l).dropLast else splitA l
/-- the least number of lines that go and come -/
def dist : List (List UInt8) → List (List UInt8) → Nat
  | [], b => b.length
  | _ :: a, [] => a.length + 1
  | x :: a, y :: b => if x = y then dist a b else 1 + min (dist a (y :: b)) (dist (x :: a) b)
termination_by a b => a.length + b.length
inductive Op7 where
  | same (s : List UInt8)
  | gone (s : List UInt8)
  | come (s : List UInt8)
def script : List (List UInt8) → List (List UInt8) → List Op7
  | [], [] => []
  | [], y :: b => .come y :: script [] b
  | x :: a, [] => .gone x :: script a []
  | x :: a, y :: b => if x = y then .same x :: script a b else if dist a (y :: b) ≤ dist (x :: a) b then .gone x :: script a (y :: b) else .come y :: script (x :: a) b
termination_by a b => a.length + b.length
/-- a hunk: its kind, its lines -/
abbrev Hk := Nat × List (List UInt8)
structure St7 where
  out : List Hk
  same : List (List UInt8)
  gone : List (List UInt8)
  come : List (List UInt8)
def putK (k : Nat) (l : List (List UInt8)) (out : List Hk) : List Hk := if l = [] then out else out ++ [(k, l)]
def stepW (st : St7) : Op7 → St7
  | .same s => ⟨putK 3 st.come (putK 2 st.gone st.out), st.same ++ [s], [], []⟩
  | .gone s => ⟨putK 1 st.same st.out, [], st.gone ++ [s], st.come⟩
  | .come s => ⟨putK 1 st.same st.out, [], st.gone, st.come ++ [s]⟩
def doneW (st : St7) : List Hk := putK 3 st.come (putK 2 st.gone (putK 1 st.same st.out))
def patchOf (ops : List Op7) : List Hk := doneW (ops.foldl stepW ⟨[], [], [], []⟩)
def patchL (a b : List (List UInt8)) : List Hk := patchOf (script a b)
/-- either the same lines wait, or those that go and come -/
def OneW (st : St7) : Prop := st.same = [] ∨ (st.gone = [] ∧ st.come = [])
theorem oneW_step (st : St7) (o : Op7) : OneW (stepW st o) := by
  cases o
  · exact .inr ⟨rfl, rfl⟩
  · exact .inl rfl
  · exact .inl rfl
theorem doneW_ref {st : St7} (h : OneW st) : putK 1 st.same (putK 3 st.come (putK 2 st.gone st.out)) = doneW st := by
  unfold doneW
  rcases h with h | ⟨h1, h2⟩
  · rw [h]; rfl
  · rw [h1, h2]; rfl
theorem dist_nil (a : List (List UInt8)) : dist a [] = a.length := by
  cases a <;> simp [dist]
theorem dist_le (a b : List (List UInt8)) : dist a b ≤ a.length + b.length := by
  induction a generalizing b with
  | nil => simp [dist]
  | cons x a ih =>
    induction b with
    | nil => simp [dist]
    | cons y b ih2 =>
      rw [dist]
      have h1 := ih b
      have h2 := ih (y :: b)
      split
      · simp; omega
      · simp at *; omega
theorem pieceE_last (l : List UInt8) (x : Nat × Nat × Nat) (h : x.1 ≤ x.2.1) : pieceE l x = pieceL l x ++ ((l.drop x.2.1).take x.2.2) := by
  unfold pieceE pieceL
  rw [show x.2.1 + x.2.2 - x.1 = (x.2.1 - x.1) + x.2.2 by omega, List.take_add, List.drop_drop, show x.1 + (x.2.1 - x.1) = x.2.1 by omega]
/-- all lines with their ends are the text -/
theorem linesGo_flat (l : List UInt8) : ∀ f a i, a ≤ i → i ≤ l.length → l.length < i + f → ((linesGo l f a i).map (pieceE l)).flatten = l.drop a
  | 0, a, i, hai, hil, hf => by omega
  | f + 1, a, i, hai, hil, hf => by
    rw [linesGo]
    by_cases h1 : l.length ≤ i
    · rw [if_pos h1]
      simp only [List.map_cons, List.map_nil, List.flatten_cons, List.flatten_nil, List.append_nil]
      unfold pieceE
      exact List.take_of_length_le (by rw [List.length_drop]; dsimp only; omega)
    · rw [if_neg h1]
      by_cases h2 : endL l i = 0
      · rw [if_pos h2]
        exact linesGo_flat l f a (i + 1) (by omega) (by omega) (by omega)
      · rw [if_neg h2]
        have h3 := (endL_le l i).resolve_left h2
        rw [List.map_cons, List.flatten_cons, linesGo_flat l f _ _ (Nat.le_refl _) h3 (by omega)]
        unfold pieceE
        dsimp only
        rw [show l.drop (i + endL l i) = (l.drop a).drop (i + endL l i - a) by rw [List.drop_drop]; congr 1; omega]
        exact List.take_append_drop _ _
theorem splitA_flat (l : List UInt8) : (splitA l).flatten = l := by
  have := linesGo_flat l (l.length + 1) 0 0 (Nat.le_refl _) (Nat.zero_le _) (by omega)
  rw [List.drop_zero] at this
  exact this
theorem splitA_ne (l : List UInt8) : splitA l ≠ [] := by
  unfold splitA linesL
  suffices h : ∀ f a i, l.length < i + f → i ≤ l.length → linesGo l f a i ≠ [] by
    intro e
    exact h (l.length + 1) 0 0 (by omega) (Nat.zero_le _) (by simpa using e)
  intro f
  induction f with
  | zero => intro a i h1 h2; omega
  | succ f ih =>
    intro a i h1 h2
    rw [linesGo]
    split
    · simp
    · split
      · exact ih a (i + 1) (by omega) (by omega)
      · simp
theorem splitD_flat (l : List UInt8) : (splitD l).flatten = l := by
  unfold splitD
  split
  · rename_i h
    have h1 := splitA_flat l
    have h2 := List.dropLast_concat_getLast (splitA_ne l)
    rw [← h2, List.flatten_append] at h1
    have h3 : (splitA l).getLast (splitA_ne l) = [] := by
      rw [List.getLast?_eq_some_getLast (splitA_ne l)] at h
      exact Option.some.inj h
    rw [h3] at h1
    simpa using h1
  · exact splitA_flat l
end Go.Proofs.YtnbihjocdlpplaaDoor
