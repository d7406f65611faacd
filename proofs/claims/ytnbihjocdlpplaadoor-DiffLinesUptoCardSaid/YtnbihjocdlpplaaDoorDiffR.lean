/- The plain law of patches: the two sides of a patch, and that it may be. -/
import Derived.Test.YtnbihjocdlpplaaDoorDiffQ
namespace Go.Proofs.YtnbihjocdlpplaaDoor
set_option linter.unusedVariables false
set_option linter.unusedSimpArgs false
def sideL (k : Nat) (l : List Hk) : List (List UInt8) := l.flatMap fun h => if h.1 = 1 ∨ h.1 = k then h.2 else []
theorem side_app (k : Nat) (a b : List Hk) : sideL k (a ++ b) = sideL k a ++ sideL k b := by unfold sideL; simp
theorem side_put (k q : Nat) (l : List (List UInt8)) (out : List Hk) : sideL k (putK q l out) = sideL k out ++ (if q = 1 ∨ q = k then l else []) := by
  unfold putK
  split
  · rename_i h; subst h; simp
  · rw [side_app]; simp [sideL]
def lineA : Op7 → List (List UInt8)
  | .same s => [s]
  | .gone s => [s]
  | .come _ => []
def lineB : Op7 → List (List UInt8)
  | .same s => [s]
  | .gone _ => []
  | .come s => [s]
def sideSt (k : Nat) (st : St7) : List (List UInt8) := sideL k st.out ++ st.same ++ (if k = 2 then st.gone else st.come)
theorem sideA_step (st : St7) (o : Op7) (h : OneW st) : sideSt 2 (stepW st o) = sideSt 2 st ++ lineA o := by
  rcases h with h | ⟨h1, h2⟩ <;> cases o <;> simp_all [stepW, sideSt, side_put, lineA]
theorem sideB_step (st : St7) (o : Op7) (h : OneW st) : sideSt 3 (stepW st o) = sideSt 3 st ++ lineB o := by
  rcases h with h | ⟨h1, h2⟩ <;> cases o <;> simp_all [stepW, sideSt, side_put, lineB]
theorem fold_one (ops : List Op7) (st : St7) (h : OneW st) : OneW (ops.foldl stepW st) := by
  induction ops generalizing st with
  | nil => exact h
  | cons o ops ih => exact ih _ (oneW_step st o)
theorem sideA_fold (ops : List Op7) (st : St7) (h : OneW st) : sideSt 2 (ops.foldl stepW st) = sideSt 2 st ++ ops.flatMap lineA := by
  induction ops generalizing st with
  | nil => simp
  | cons o ops ih => rw [List.foldl_cons, ih _ (oneW_step st o), sideA_step st o h, List.flatMap_cons, List.append_assoc]
theorem sideB_fold (ops : List Op7) (st : St7) (h : OneW st) : sideSt 3 (ops.foldl stepW st) = sideSt 3 st ++ ops.flatMap lineB := by
  induction ops generalizing st with
  | nil => simp
  | cons o ops ih => rw [List.foldl_cons, ih _ (oneW_step st o), sideB_step st o h, List.flatMap_cons, List.append_assoc]
theorem side_done {st : St7} (h : OneW st) : sideL 2 (doneW st) = sideSt 2 st ∧ sideL 3 (doneW st) = sideSt 3 st := by
  unfold doneW sideSt
  simp [side_put]
theorem oneW_start : OneW ⟨[], [], [], []⟩ := .inl rfl
theorem patchOf_sides (ops : List Op7) : sideL 2 (patchOf ops) = ops.flatMap lineA ∧ sideL 3 (patchOf ops) = ops.flatMap lineB := by
  unfold patchOf
  have h := side_done (fold_one ops _ oneW_start)
  rw [h.1, h.2, sideA_fold ops _ oneW_start, sideB_fold ops _ oneW_start]
  simp [sideSt, sideL]
theorem script_lines_go : ∀ (n : Nat) (a b : List (List UInt8)), a.length + b.length ≤ n → (script a b).flatMap lineA = a ∧ (script a b).flatMap lineB = b
  | 0, a, b, h => by
    obtain rfl : a = [] := List.eq_nil_of_length_eq_zero (by omega)
    obtain rfl : b = [] := List.eq_nil_of_length_eq_zero (by omega)
    simp [script]
  | n + 1, [], [], h => by simp [script]
  | n + 1, [], y :: b, h => by
    simp only [List.length_cons] at h
    have := script_lines_go n [] b (by omega)
    rw [script]
    simp [List.flatMap_cons, this.1, this.2, lineA, lineB]
  | n + 1, x :: a, [], h => by
    simp only [List.length_cons] at h
    have := script_lines_go n a [] (by omega)
    rw [script]
    simp [List.flatMap_cons, this.1, this.2, lineA, lineB]
  | n + 1, x :: a, y :: b, h => by
    simp only [List.length_cons] at h
    rw [script]
    by_cases e : x = y
    · rw [if_pos e]
      have := script_lines_go n a b (by omega)
      subst e
      simp [List.flatMap_cons, this.1, this.2, lineA, lineB]
    · rw [if_neg e]
      split
      · have := script_lines_go n a (y :: b) (by simp; omega)
        simp [List.flatMap_cons, this.1, this.2, lineA, lineB]
      · have := script_lines_go n (x :: a) b (by simp; omega)
        simp [List.flatMap_cons, this.1, this.2, lineA, lineB]
theorem patch_sides (a b : List (List UInt8)) : sideL 2 (patchL a b) = a ∧ sideL 3 (patchL a b) = b := by
  have h := patchOf_sides (script a b)
  have h2 := script_lines_go _ a b (Nat.le_refl _)
  rw [h2.1, h2.2] at h
  exact h
/-- may a hunk stand behind one of that kind? -/
def okAt (was : Nat) (h : Hk) : Prop := (1 ≤ h.1 ∧ h.1 ≤ 3) ∧ h.2 ≠ [] ∧ h.1 ≠ was ∧ ¬ (h.1 = 2 ∧ was = 3)
def okKinds : Nat → List Hk → Prop
  | _, [] => True
  | was, h :: l => okAt was h ∧ okKinds h.1 l
def lastK : Nat → List Hk → Nat
  | was, [] => was
  | _, h :: l => lastK h.1 l
theorem lastK_app (a : List Hk) (k : Nat) (x : List (List UInt8)) : ∀ was, lastK was (a ++ [(k, x)]) = k := by
  induction a with
  | nil => intro was; rfl
  | cons h a ih => intro was; exact ih h.1
theorem okKinds_app (a : List Hk) (h : Hk) : ∀ was, okKinds was (a ++ [h]) ↔ okKinds was a ∧ okAt (lastK was a) h := by
  induction a with
  | nil => intro was; simp [okKinds, lastK]
  | cons x a ih =>
    intro was
    rw [List.cons_append, okKinds, okKinds, ih]
    exact and_assoc.symm
theorem ok_put {k : Nat} {l : List (List UInt8)} {out : List Hk} (ho : okKinds 0 out) (hk : 1 ≤ k ∧ k ≤ 3) (hl : l ≠ [] → k ≠ lastK 0 out ∧ ¬ (k = 2 ∧ lastK 0 out = 3)) : okKinds 0 (putK k l out) := by
  unfold putK
  split
  · exact ho
  · rename_i h
    rw [okKinds_app]
    exact ⟨ho, hk, h, (hl h).1, (hl h).2⟩
theorem last_put {k : Nat} {l : List (List UInt8)} {out : List Hk} : lastK 0 (putK k l out) = if l = [] then lastK 0 out else k := by
  unfold putK
  split
  · rfl
  · rw [lastK_app]
/-- what is kept while hunks are gathered -/
structure OkSt (st : St7) : Prop where
  one : OneW st
  ok : okKinds 0 st.out
  le : lastK 0 st.out ≤ 3
  same : st.same ≠ [] → lastK 0 st.out ≠ 1
  chg : (st.gone ≠ [] ∨ st.come ≠ []) → lastK 0 st.out ≤ 1
  none : st.same = [] → st.gone = [] → st.come = [] → lastK 0 st.out = 0
theorem okSt_start : OkSt ⟨[], [], [], []⟩ := ⟨.inl rfl, trivial, by simp [lastK], fun h => absurd rfl h, fun h => by simp at h, fun _ _ _ => rfl⟩
theorem okSt_step (st : St7) (o : Op7) (h : OkSt st) : OkSt (stepW st o) := by
  obtain ⟨h1, h2, h3, h4, h5, h6⟩ := h
  have key2 : okKinds 0 (putK 2 st.gone st.out) := ok_put h2 (by omega) (fun hg => by have := h5 (.inl hg); omega)
  have key23 : okKinds 0 (putK 3 st.come (putK 2 st.gone st.out)) := ok_put key2 (by omega) (fun hc => by
    rw [last_put]
    have := h5 (.inr hc)
    split <;> omega)
  have key1 : okKinds 0 (putK 1 st.same st.out) := ok_put h2 (by omega) (fun hs => ⟨(h4 hs).symm, by omega⟩)
  cases o with
  | same s =>
    refine ⟨.inr ⟨rfl, rfl⟩, key23, ?_, fun _ => ?_, fun h => by simp [stepW] at h, fun h => by simp [stepW] at h⟩
    · show lastK 0 (putK 3 st.come (putK 2 st.gone st.out)) ≤ 3
      rw [last_put, last_put]; repeat' split
      all_goals omega
    · show lastK 0 (putK 3 st.come (putK 2 st.gone st.out)) ≠ 1
      rw [last_put, last_put]
      by_cases hc : st.come = []
      · rw [if_pos hc]
        by_cases hg : st.gone = []
        · rw [if_pos hg]
          by_cases hs : st.same = []
          · have := h6 hs hg hc; omega
          · exact h4 hs
        · rw [if_neg hg]; omega
      · rw [if_neg hc]; omega
  | gone s =>
    refine ⟨.inl rfl, key1, ?_, fun h => absurd rfl h, fun _ => ?_, fun _ h => by simp [stepW] at h⟩
    · show lastK 0 (putK 1 st.same st.out) ≤ 3
      rw [last_put]; split <;> omega
    · show lastK 0 (putK 1 st.same st.out) ≤ 1
      rw [last_put]
      split
      · rename_i hs
        by_cases hg : st.gone = []
        · by_cases hc : st.come = []
          · have := h6 hs hg hc; omega
          · exact h5 (.inr hc)
        · exact h5 (.inl hg)
      · omega
  | come s =>
    refine ⟨.inl rfl, key1, ?_, fun h => absurd rfl h, fun _ => ?_, fun _ _ h => by simp [stepW] at h⟩
    · show lastK 0 (putK 1 st.same st.out) ≤ 3
      rw [last_put]; split <;> omega
    · show lastK 0 (putK 1 st.same st.out) ≤ 1
      rw [last_put]
      split
      · rename_i hs
        by_cases hg : st.gone = []
        · by_cases hc : st.come = []
          · have := h6 hs hg hc; omega
          · exact h5 (.inr hc)
        · exact h5 (.inl hg)
      · omega
theorem okSt_fold (ops : List Op7) : ∀ st, OkSt st → OkSt (ops.foldl stepW st) := by
  induction ops with
  | nil => intro st h; exact h
  | cons o ops ih => intro st h; exact ih _ (okSt_step st o h)
theorem ok_done {st : St7} (h : OkSt st) : okKinds 0 (doneW st) := by
  obtain ⟨h1, h2, h3, h4, h5, h6⟩ := h
  unfold doneW
  rcases h1 with h1 | ⟨h1, h1'⟩
  · rw [h1]
    have e : putK 1 [] st.out = st.out := rfl
    rw [e]
    refine ok_put (ok_put h2 (by omega) (fun hg => by have := h5 (.inl hg); omega)) (by omega) (fun hc => ?_)
    rw [last_put]
    have := h5 (.inr hc)
    split <;> omega
  · rw [h1, h1']
    show okKinds 0 (putK 1 st.same st.out)
    exact ok_put h2 (by omega) (fun hs => ⟨(h4 hs).symm, by omega⟩)
theorem patchOf_ok (ops : List Op7) : okKinds 0 (patchOf ops) := ok_done (okSt_fold ops _ okSt_start)
end Go.Proofs.YtnbihjocdlpplaaDoor
