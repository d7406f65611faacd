/- The plain law of patches: none has a lesser distance; the distance of the patch. -/
import Derived.Test.YtnbihjocdlpplaaDoorDiffP
namespace Go.Proofs.YtnbihjocdlpplaaDoor
set_option linter.unusedVariables false
set_option linter.unusedSimpArgs false
theorem dist_cons (x : List UInt8) (a : List (List UInt8)) (y : List UInt8) (b : List (List UInt8)) : dist (x :: a) (y :: b) = if x = y then dist a b else 1 + min (dist a (y :: b)) (dist (x :: a) b) := by rw [dist]
theorem dist_both (a : List (List UInt8)) : (∀ b y, dist a b ≤ 1 + dist a (y :: b)) ∧ (∀ x b, dist (x :: a) b ≤ 1 + dist a b) := by
  induction a with
  | nil =>
    have h1 : ∀ b y, dist [] b ≤ 1 + dist [] (y :: b) := fun b y => by simp [dist]; omega
    refine ⟨h1, fun x b => ?_⟩
    cases b with
    | nil => simp [dist]
    | cons y b =>
      rw [dist_cons]
      split
      · exact h1 b y
      · have := Nat.min_le_left (dist [] (y :: b)) (dist [x] b); omega
  | cons z a ih =>
    have h1 : ∀ b y, dist (z :: a) b ≤ 1 + dist (z :: a) (y :: b) := fun b y => by
      have q := ih.2 z b
      have l := ih.1 b y
      rw [dist_cons z a y b]
      split
      · exact q
      · rcases Nat.le_total (dist a (y :: b)) (dist (z :: a) b) with h | h
        · rw [Nat.min_eq_left h]; omega
        · rw [Nat.min_eq_right h]; omega
    refine ⟨h1, fun x b => ?_⟩
    cases b with
    | nil => simp [dist]; omega
    | cons y b =>
      rw [dist_cons x (z :: a) y b]
      split
      · exact h1 b y
      · have := Nat.min_le_left (dist (z :: a) (y :: b)) (dist (x :: z :: a) b); omega
theorem dist_same (x : List UInt8) (a b : List (List UInt8)) : dist (x :: a) (x :: b) = dist a b := by
  rw [dist_cons, if_pos rfl]
theorem dist_left (x : List UInt8) (a b : List (List UInt8)) : dist (x :: a) b ≤ 1 + dist a b := (dist_both a).2 x b
theorem dist_symm_go : ∀ (n : Nat) (a b : List (List UInt8)), a.length + b.length ≤ n → dist a b = dist b a
  | 0, a, b, h => by
    obtain rfl : a = [] := List.eq_nil_of_length_eq_zero (by omega)
    obtain rfl : b = [] := List.eq_nil_of_length_eq_zero (by omega)
    rfl
  | n + 1, [], b, h => by rw [dist_nil]; simp [dist]
  | n + 1, x :: a, [], h => by simp [dist]
  | n + 1, x :: a, y :: b, h => by
    simp only [List.length_cons] at h
    rw [dist_cons, dist_cons]
    by_cases e : x = y
    · rw [if_pos e, if_pos e.symm]
      exact dist_symm_go n a b (by omega)
    · rw [if_neg e, if_neg (fun e' => e e'.symm), dist_symm_go n a (y :: b) (by simp; omega), dist_symm_go n (x :: a) b (by simp; omega), Nat.min_comm]
theorem dist_symm (a b : List (List UInt8)) : dist a b = dist b a := dist_symm_go _ a b (Nat.le_refl _)
theorem dist_right (a b : List (List UInt8)) (y : List UInt8) : dist a (y :: b) ≤ 1 + dist a b := by
  rw [dist_symm a (y :: b), dist_symm a b]
  exact dist_left y b a
/-- how many lines a script takes away and puts in -/
def costOp : Op7 → Nat
  | .same _ => 0
  | _ => 1
def costOps (l : List Op7) : Nat := (l.map costOp).sum
theorem script_cost_go : ∀ (n : Nat) (a b : List (List UInt8)), a.length + b.length ≤ n → costOps (script a b) = dist a b
  | 0, a, b, h => by
    obtain rfl : a = [] := List.eq_nil_of_length_eq_zero (by omega)
    obtain rfl : b = [] := List.eq_nil_of_length_eq_zero (by omega)
    simp [script, dist, costOps]
  | n + 1, [], [], h => by simp [script, dist, costOps]
  | n + 1, [], y :: b, h => by
    simp only [List.length_cons] at h
    have := script_cost_go n [] b (by omega)
    rw [script]
    unfold costOps at *
    simp only [List.map_cons, List.sum_cons, this, costOp]
    simp [dist]
    omega
  | n + 1, x :: a, [], h => by
    simp only [List.length_cons] at h
    have := script_cost_go n a [] (by omega)
    rw [script]
    unfold costOps at *
    simp only [List.map_cons, List.sum_cons, this, costOp]
    rw [dist_nil, dist_nil, List.length_cons]
    omega
  | n + 1, x :: a, y :: b, h => by
    simp only [List.length_cons] at h
    rw [script, dist_cons]
    by_cases e : x = y
    · rw [if_pos e, if_pos e]
      have := script_cost_go n a b (by omega)
      unfold costOps at *
      simp only [List.map_cons, List.sum_cons, this, costOp]
      omega
    · rw [if_neg e, if_neg e]
      split
      · rename_i hle
        have := script_cost_go n a (y :: b) (by simp; omega)
        unfold costOps at *
        simp only [List.map_cons, List.sum_cons, this, costOp]
        rw [Nat.min_eq_left hle]
      · rename_i hle
        have := script_cost_go n (x :: a) b (by simp; omega)
        unfold costOps at *
        simp only [List.map_cons, List.sum_cons, this, costOp]
        rw [Nat.min_eq_right (by omega)]
theorem script_cost (a b : List (List UInt8)) : costOps (script a b) = dist a b := script_cost_go _ a b (Nat.le_refl _)
def distH (l : List Hk) : Nat := (l.map fun h => if h.1 = 2 ∨ h.1 = 3 then h.2.length else 0).sum
theorem distH_app (a b : List Hk) : distH (a ++ b) = distH a + distH b := by unfold distH; simp
theorem distH_put (k : Nat) (l : List (List UInt8)) (out : List Hk) : distH (putK k l out) = distH out + (if k = 2 ∨ k = 3 then l.length else 0) := by
  unfold putK
  split
  · rename_i h; subst h; simp
  · rw [distH_app]; simp [distH]
def distSt (st : St7) : Nat := distH st.out + st.gone.length + st.come.length
theorem distSt_step (st : St7) (o : Op7) : distSt (stepW st o) = distSt st + costOp o := by
  cases o <;> simp [stepW, distSt, distH_put, costOp] <;> omega
theorem distSt_fold (ops : List Op7) (st : St7) : distSt (ops.foldl stepW st) = distSt st + costOps ops := by
  induction ops generalizing st with
  | nil => simp [costOps]
  | cons o ops ih => rw [List.foldl_cons, ih, distSt_step]; unfold costOps; simp; omega
theorem distH_done (st : St7) : distH (doneW st) = distSt st := by
  unfold doneW distSt
  rw [distH_put, distH_put, distH_put]
  simp
theorem patch_dist (a b : List (List UInt8)) : distH (patchL a b) = dist a b := by
  unfold patchL patchOf
  rw [distH_done, distSt_fold, script_cost]
  simp [distSt, distH]
end Go.Proofs.YtnbihjocdlpplaaDoor
