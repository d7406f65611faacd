/- Texts joined, one behind the other (DiffR, DiffS, DSpl, DSplB). -/
import Derived.Test.YtnbihjocdlpplaaDoorDp02
/- The plain law of patches: the two sides of a patch, and that it may be. -/
namespace Go.Proofs.YtnbihjocdlpplaaDoor
set_option linter.unusedVariables false
set_option linter.unusedSimpArgs false
def sideL (k : Nat) (l : List Hk) : List (List UInt8) := l.flatMap fun h => if h.1 = 1 ∨ h.1 = k then h.2 else []
theorem side_app (k : Nat) (a b : List Hk) : sideL k (a ++ b) = sideL k a ++ sideL k b := by unfold sideL; simp
theorem side_put (k q : Nat) (l : List (List UInt8)) (out : List Hk) : sideL k (putK q l out) = sideL k out ++ (if q = 1 ∨ q = k then l else []) := by
  unfold putK
  split
  · rename_i h; subst h; simp
  · rw [side_app]; simp [sideL]
def lineA : Op7 → List (List UInt8)
  | .same s => [s]
  | .gone s => [s]
  | .come _ => []
def lineB : Op7 → List (List UInt8)
  | .same s => [s]
  | .gone _ => []
  | .come s => [s]
def sideSt (k : Nat) (st : St7) : List (List UInt8) := sideL k st.out ++ st.same ++ (if k = 2 then st.gone else st.come)
theorem sideA_step (st : St7) (o : Op7) (h : OneW st) : sideSt 2 (stepW st o) = sideSt 2 st ++ lineA o := by
  rcases h with h | ⟨h1, h2⟩ <;> cases o <;> simp_all [stepW, sideSt, side_put, lineA]
theorem sideB_step (st : St7) (o : Op7) (h : OneW st) : sideSt 3 (stepW st o) = sideSt 3 st ++ lineB o := by
  rcases h with h | ⟨h1, h2⟩ <;> cases o <;> simp_all [stepW, sideSt, side_put, lineB]
theorem fold_one (ops : List Op7) (st : St7) (h : OneW st) : OneW (ops.foldl stepW st) := by
  induction ops generalizing st with
  | nil => exact h
  | cons o ops ih => exact ih _ (oneW_step st o)
theorem sideA_fold (ops : List Op7) (st : St7) (h : OneW st) : sideSt 2 (ops.foldl stepW st) = sideSt 2 st ++ ops.flatMap lineA := by
  induction ops generalizing st with
  | nil => simp
  | cons o ops ih => rw [List.foldl_cons, ih _ (oneW_step st o), sideA_step st o h, List.flatMap_cons, List.append_assoc]
theorem sideB_fold (ops : List Op7) (st : St7) (h : OneW st) : sideSt 3 (ops.foldl stepW st) = sideSt 3 st ++ ops.flatMap lineB := by
  induction ops generalizing st with
  | nil => simp
  | cons o ops ih => rw [List.foldl_cons, ih _ (oneW_step st o), sideB_step st o h, List.flatMap_cons, List.append_assoc]
theorem side_done {st : St7} (h : OneW st) : sideL 2 (doneW st) = sideSt 2 st ∧ sideL 3 (doneW st) = sideSt 3 st := by
  unfold doneW sideSt
  simp [side_put]
theorem oneW_start : OneW ⟨[], [], [], []⟩ := .inl rfl
theorem patchOf_sides (ops : List Op7) : sideL 2 (patchOf ops) = ops.flatMap lineA ∧ sideL 3 (patchOf ops) = ops.flatMap lineB := by
  unfold patchOf
  have h := side_done (fold_one ops _ oneW_start)
  rw [h.1, h.2, sideA_fold ops _ oneW_start, sideB_fold ops _ oneW_start]
  simp [sideSt, sideL]
theorem script_lines_go : ∀ (n : Nat) (a b : List (List UInt8)), a.length + b.length ≤ n → (script a b).flatMap lineA = a ∧ (script a b).flatMap lineB = b
  | 0, a, b, h => by
    obtain rfl : a = [] := List.eq_nil_of_length_eq_zero (by omega)
    obtain rfl : b = [] := List.eq_nil_of_length_eq_zero (by omega)
    simp [script]
  | n + 1, [], [], h => by simp [script]
  | n + 1, [], y :: b, h => by
    simp only [List.length_cons] at h
    have := script_lines_go n [] b (by omega)
    rw [script]
    simp [List.flatMap_cons, this.1, this.2, lineA, lineB]
  | n + 1, x :: a, [], h => by
    simp only [List.length_cons] at h
    have := script_lines_go n a [] (by omega)
    rw [script]
    simp [List.flatMap_cons, this.1, this.2, lineA, lineB]
  | n + 1, x :: a, y :: b, h => by
    simp only [List.length_cons] at h
    rw [script]
    by_cases e : x = y
    · rw [if_pos e]
      have := script_lines_go n a b (by omega)
      subst e
      simp [List.flatMap_cons, this.1, this.2, lineA, lineB]
    · rw [if_neg e]
      split
      · have := script_lines_go n a (y :: b) (by simp; omega)
        simp [List.flatMap_cons, this.1, this.2, lineA, lineB]
      · have := script_lines_go n (x :: a) b (by simp; omega)
        simp [List.flatMap_cons, this.1, this.2, lineA, lineB]
theorem patch_sides (a b : List (List UInt8)) : sideL 2 (patchL a b) = a ∧ sideL 3 (patchL a b) = b := by
  have h := patchOf_sides (script a b)
  have h2 := script_lines_go _ a b (Nat.le_refl _)
  rw [h2.1, h2.2] at h
  exact h
/-- may a hunk stand behind one of that kind? -/
def okAt (was : Nat) (h : Hk) : Prop := (1 ≤ h.1 ∧ h.1 ≤ 3) ∧ h.2 ≠ [] ∧ h.1 ≠ was ∧ ¬ (h.1 = 2 ∧ was = 3)
def okKinds : Nat → List Hk → Prop
  | _, [] => True
  | was, h :: l => okAt was h ∧ okKinds h.1 l
def lastK : Nat → List Hk → Nat
  | was, [] => was
  | _, h :: l => lastK h.1 l
theorem lastK_app (a : List Hk) (k : Nat) (x : List (List UInt8)) : ∀ was, lastK was (a ++ [(k, x)]) = k := by
  induction a with
  | nil => intro was; rfl
  | cons h a ih => intro was; exact ih h.1
theorem okKinds_app (a : List Hk) (h : Hk) : ∀ was, okKinds was (a ++ [h]) ↔ okKinds was a ∧ okAt (lastK was a) h := by
  induction a with
  | nil => intro was; simp [okKinds, lastK]
  | cons x a ih =>
    intro was
    rw [List.cons_append, okKinds, okKinds, ih]
    exact and_assoc.symm
theorem ok_put {k : Nat} {l : List (List UInt8)} {out : List Hk} (ho : okKinds 0 out) (hk : 1 ≤ k ∧ k ≤ 3) (hl : l ≠ [] → k ≠ lastK 0 out ∧ ¬ (k = 2 ∧ lastK 0 out = 3)) : okKinds 0 (putK k l out) := by
  unfold putK
  split
  · exact ho
  · rename_i h
    rw [okKinds_app]
    exact ⟨ho, hk, h, (hl h).1, (hl h).2⟩
theorem last_put {k : Nat} {l : List (List UInt8)} {out : List Hk} : lastK 0 (putK k l out) = if l = [] then lastK 0 out else k := by
  unfold putK
  split
  · rfl
  · rw [lastK_app]
/-- what is kept while hunks are gathered -/
structure OkSt (st : St7) : Prop where
  one : OneW st
  ok : okKinds 0 st.out
  le : lastK 0 st.out ≤ 3
  same : st.same ≠ [] → lastK 0 st.out ≠ 1
  chg : (st.gone ≠ [] ∨ st.come ≠ []) → lastK 0 st.out ≤ 1
  none : st.same = [] → st.gone = [] → st.come = [] → lastK 0 st.out = 0
theorem okSt_start : OkSt ⟨[], [], [], []⟩ := ⟨.inl rfl, trivial, by simp [lastK], fun h => absurd rfl h, fun h => by simp at h, fun _ _ _ => rfl⟩
theorem okSt_step (st : St7) (o : Op7) (h : OkSt st) : OkSt (stepW st o) := by
  obtain ⟨h1, h2, h3, h4, h5, h6⟩ := h
  have key2 : okKinds 0 (putK 2 st.gone st.out) := ok_put h2 (by omega) (fun hg => by have := h5 (.inl hg); omega)
  have key23 : okKinds 0 (putK 3 st.come (putK 2 st.gone st.out)) := ok_put key2 (by omega) (fun hc => by
    rw [last_put]
    have := h5 (.inr hc)
    split <;> omega)
  have key1 : okKinds 0 (putK 1 st.same st.out) := ok_put h2 (by omega) (fun hs => ⟨(h4 hs).symm, by omega⟩)
  cases o with
  | same s =>
    refine ⟨.inr ⟨rfl, rfl⟩, key23, ?_, fun _ => ?_, fun h => by simp [stepW] at h, fun h => by simp [stepW] at h⟩
    · show lastK 0 (putK 3 st.come (putK 2 st.gone st.out)) ≤ 3
      rw [last_put, last_put]; repeat' split
      all_goals omega
    · show lastK 0 (putK 3 st.come (putK 2 st.gone st.out)) ≠ 1
      rw [last_put, last_put]
      by_cases hc : st.come = []
      · rw [if_pos hc]
        by_cases hg : st.gone = []
        · rw [if_pos hg]
          by_cases hs : st.same = []
          · have := h6 hs hg hc; omega
          · exact h4 hs
        · rw [if_neg hg]; omega
      · rw [if_neg hc]; omega
  | gone s =>
    refine ⟨.inl rfl, key1, ?_, fun h => absurd rfl h, fun _ => ?_, fun _ h => by simp [stepW] at h⟩
    · show lastK 0 (putK 1 st.same st.out) ≤ 3
      rw [last_put]; split <;> omega
    · show lastK 0 (putK 1 st.same st.out) ≤ 1
      rw [last_put]
      split
      · rename_i hs
        by_cases hg : st.gone = []
        · by_cases hc : st.come = []
          · have := h6 hs hg hc; omega
          · exact h5 (.inr hc)
        · exact h5 (.inl hg)
      · omega
  | come s =>
    refine ⟨.inl rfl, key1, ?_, fun h => absurd rfl h, fun _ => ?_, fun _ _ h => by simp [stepW] at h⟩
    · show lastK 0 (putK 1 st.same st.out) ≤ 3
      rw [last_put]; split <;> omega
    · show lastK 0 (putK 1 st.same st.out) ≤ 1
      rw [last_put]
      split
      · rename_i hs
        by_cases hg : st.gone = []
        · by_cases hc : st.come = []
          · have := h6 hs hg hc; omega
          · exact h5 (.inr hc)
        · exact h5 (.inl hg)
      · omega
theorem okSt_fold (ops : List Op7) : ∀ st, OkSt st → OkSt (ops.foldl stepW st) := by
  induction ops with
  | nil => intro st h; exact h
  | cons o ops ih => intro st h; exact ih _ (okSt_step st o h)
theorem ok_done {st : St7} (h : OkSt st) : okKinds 0 (doneW st) := by
  obtain ⟨h1, h2, h3, h4, h5, h6⟩ := h
  unfold doneW
  rcases h1 with h1 | ⟨h1, h1'⟩
  · rw [h1]
    have e : putK 1 [] st.out = st.out := rfl
    rw [e]
    refine ok_put (ok_put h2 (by omega) (fun hg => by have := h5 (.inl hg); omega)) (by omega) (fun hc => ?_)
    rw [last_put]
    have := h5 (.inr hc)
    split <;> omega
  · rw [h1, h1']
    show okKinds 0 (putK 1 st.same st.out)
    exact ok_put h2 (by omega) (fun hs => ⟨(h4 hs).symm, by omega⟩)
theorem patchOf_ok (ops : List Op7) : okKinds 0 (patchOf ops) := ok_done (okSt_fold ops _ okSt_start)
end Go.Proofs.YtnbihjocdlpplaaDoor
/- The plain law of patches of any kinds: the sides, may it be, the other way. -/
namespace Go.Proofs.YtnbihjocdlpplaaDoor
set_option linter.unusedVariables false
set_option linter.unusedSimpArgs false
abbrev HkI := Int × List (List UInt8)
def toI (h : Hk) : HkI := ((h.1 : Int), h.2)
def sideI (k : Int) (l : List HkI) : List (List UInt8) := l.flatMap fun h => if h.1 = 1 ∨ h.1 = k then h.2 else []
theorem sideI_to (k : Nat) (l : List Hk) : sideI (k : Int) (l.map toI) = sideL k l := by
  induction l with
  | nil => rfl
  | cons h l ih =>
    unfold sideI sideL at ih ⊢
    rw [List.map_cons, List.flatMap_cons, List.flatMap_cons, ih]
    congr 1
    have e1 : ((toI h).1 = 1) = (h.1 = 1) := by simp only [toI]; exact propext ⟨fun h => by omega, fun h => by omega⟩
    have e2 : ((toI h).1 = (k : Int)) = (h.1 = k) := by simp only [toI]; exact propext ⟨fun h => by omega, fun h => by omega⟩
    simp only [e1, e2]
    rfl
theorem sideI_app (k : Int) (a b : List HkI) : sideI k (a ++ b) = sideI k a ++ sideI k b := by unfold sideI; simp
def okAtB (was : Int) (h : HkI) : Bool := decide (1 ≤ h.1) && decide (h.1 ≤ 3) && !h.2.isEmpty && !(h.1 == was) && !(h.1 == 2 && was == 3)
def okB : Int → List HkI → Bool
  | _, [] => true
  | was, h :: l => okAtB was h && okB h.1 l
def wholeB (L : List (List UInt8)) : Bool := decide (L.length ≤ 512) && (splitD L.flatten == L)
def checkB (l : List HkI) : Bool := okB 0 l && wholeB (sideI 2 l) && wholeB (sideI 3 l)
def errP (b : Bool) : Int := if b then 0 else 310
def fitsB (s : List UInt8) (l : List HkI) : Bool := checkB l && ((sideI 2 l).flatten == s)
def distI (l : List HkI) : Nat := (l.map fun h => if h.1 = 2 ∨ h.1 = 3 then h.2.length else 0).sum
theorem okAtB_iff {was : Int} {h : HkI} : okAtB was h = true ↔ (1 ≤ h.1 ∧ h.1 ≤ 3) ∧ h.2 ≠ [] ∧ h.1 ≠ was ∧ ¬ (h.1 = 2 ∧ was = 3) := by
  unfold okAtB
  simp only [Bool.and_eq_true, decide_eq_true_eq, Bool.not_eq_true', List.isEmpty_eq_false_iff, beq_eq_false_iff_ne, Bool.and_eq_false_iff, ne_eq]
  constructor
  · rintro ⟨⟨⟨⟨h1, h2⟩, h3⟩, h4⟩, h5⟩
    exact ⟨⟨h1, h2⟩, h3, h4, fun ⟨a, b⟩ => h5.elim (fun h => h a) (fun h => h b)⟩
  · rintro ⟨⟨h1, h2⟩, h3, h4, h5⟩
    refine ⟨⟨⟨⟨h1, h2⟩, h3⟩, h4⟩, ?_⟩
    by_cases e : h.1 = 2
    · exact .inr fun e2 => h5 ⟨e, e2⟩
    · exact .inl e
theorem okB_to (l : List Hk) : ∀ was : Nat, okB (was : Int) (l.map toI) = true ↔ okKinds was l := by
  induction l with
  | nil => intro was; simp [okB, okKinds]
  | cons h l ih =>
    intro was
    rw [List.map_cons, okB, Bool.and_eq_true, okAtB_iff, okKinds]
    have := ih h.1
    rw [show (toI h).1 = ((h.1 : Nat) : Int) from rfl, this]
    unfold okAt
    rw [show (toI h).2 = h.2 from rfl]
    constructor
    · rintro ⟨⟨⟨a, b⟩, c, d, e⟩, f⟩
      exact ⟨⟨⟨by omega, by omega⟩, c, by omega, by omega⟩, f⟩
    · rintro ⟨⟨⟨a, b⟩, c, d, e⟩, f⟩
      exact ⟨⟨⟨by omega, by omega⟩, c, by omega, by omega⟩, f⟩
theorem distI_to (l : List Hk) : distI (l.map toI) = distH l := by
  unfold distI distH
  rw [List.map_map]
  congr 1
  refine List.map_congr_left fun h _ => ?_
  simp only [Function.comp, toI]
  have e1 : ((h.1 : Int) = 2) = (h.1 = 2) := propext ⟨fun h => by omega, fun h => by omega⟩
  have e2 : ((h.1 : Int) = 3) = (h.1 = 3) := propext ⟨fun h => by omega, fun h => by omega⟩
  simp only [e1, e2]
/-- kinds that may be are numbers from 1 to 3 -/
theorem okB_nat : ∀ (l : List HkI) (was : Int), okB was l = true → ∃ H : List Hk, l = H.map toI
  | [], _, _ => ⟨[], rfl⟩
  | h :: l, was, e => by
    rw [okB, Bool.and_eq_true, okAtB_iff] at e
    obtain ⟨H, rfl⟩ := okB_nat l h.1 e.2
    refine ⟨(h.1.toNat, h.2) :: H, ?_⟩
    rw [List.map_cons]
    congr 1
    have := e.1.1.1
    obtain ⟨k, L⟩ := h
    simp only [toI]
    congr 1
    dsimp only at this ⊢
    omega
theorem okB_mem : ∀ (l : List HkI) (was : Int), okB was l = true → ∀ h ∈ l, (1 ≤ h.1 ∧ h.1 ≤ 3) ∧ h.2 ≠ []
  | x :: l, was, e, h, hm => by
    rw [okB, Bool.and_eq_true, okAtB_iff] at e
    rcases List.mem_cons.1 hm with rfl | hm
    · exact ⟨e.1.1, e.1.2.1⟩
    · exact okB_mem l x.1 e.2 h hm
/-- the other way, line by line -/
def opB (k : Int) (s : List UInt8) : Op7 := if k = 1 then .same s else if k = 2 then .come s else .gone s
def opsB (l : List HkI) : List Op7 := l.flatMap fun h => h.2.map (opB h.1)
def backI (l : List HkI) : List Hk := patchOf (opsB l)
/-- the other way, hunk by hunk -/
def backGo : List HkI → List Hk → List Hk
  | [], out => out
  | h :: r, out =>
    if h.1 = 1 then backGo r (putK 1 h.2 out)
    else if h.1 = 3 then backGo r (putK 2 h.2 out)
    else match r with
      | [] => putK 3 h.2 out
      | g :: r' => if g.1 = 3 then backGo r' (putK 3 h.2 (putK 2 g.2 out)) else backGo (g :: r') (putK 3 h.2 out)
termination_by l => l.length
decreasing_by all_goals simp_wf <;> omega
theorem fold_same : ∀ (L : List (List UInt8)) (st : St7), L ≠ [] → (L.map (opB 1)).foldl stepW st = ⟨putK 3 st.come (putK 2 st.gone st.out), st.same ++ L, [], []⟩
  | [s], st, _ => by simp [opB, stepW]
  | s :: t :: L, st, _ => by
    rw [List.map_cons, List.foldl_cons, fold_same (t :: L) _ (by simp)]
    simp [opB, stepW, putK]
theorem fold_come : ∀ (L : List (List UInt8)) (st : St7), L ≠ [] → (L.map (opB 2)).foldl stepW st = ⟨putK 1 st.same st.out, [], st.gone, st.come ++ L⟩
  | [s], st, _ => by simp [opB, stepW]
  | s :: t :: L, st, _ => by
    rw [List.map_cons, List.foldl_cons, fold_come (t :: L) _ (by simp)]
    simp [opB, stepW, putK]
theorem fold_gone : ∀ (L : List (List UInt8)) (st : St7), L ≠ [] → (L.map (opB 3)).foldl stepW st = ⟨putK 1 st.same st.out, [], st.gone ++ L, st.come⟩
  | [s], st, _ => by simp [opB, stepW]
  | s :: t :: L, st, _ => by
    rw [List.map_cons, List.foldl_cons, fold_gone (t :: L) _ (by simp)]
    simp [opB, stepW, putK]
theorem opsB_cons (h : HkI) (l : List HkI) : opsB (h :: l) = h.2.map (opB h.1) ++ opsB l := by simp [opsB]
theorem back_go : ∀ (n : Nat) (l : List HkI) (was : Int) (st : St7), l.length ≤ n → okB was l = true → (was ≠ 1 → st.same = []) → (was = 0 ∨ was = 1 → st.gone = [] ∧ st.come = []) → 0 ≤ was → was ≤ 3 → (was = 2 → ∀ g r, l = g :: r → g.1 ≠ 3) → doneW ((opsB l).foldl stepW st) = backGo l (doneW st)
  | _, [], was, st, _, _, _, _, _, _, _ => by simp [opsB, backGo]
  | n + 1, h :: r, was, st, hn, hok, hs, hg, hw0, hw3, hw2 => by
    simp only [List.length_cons] at hn
    rw [okB, Bool.and_eq_true, okAtB_iff] at hok
    obtain ⟨⟨⟨k1, k3⟩, hne, hwas, hno⟩, hokr⟩ := hok
    obtain ⟨k, L⟩ := h
    dsimp only at k1 k3 hne hwas hno hokr
    rw [opsB_cons, List.foldl_append, backGo.eq_def]
    dsimp only
    by_cases e1 : k = 1
    · subst e1
      rw [if_pos rfl, fold_same L st hne]
      have hss := hs (fun e => hwas e.symm)
      have hd : putK 1 L (doneW st) = doneW ⟨putK 3 st.come (putK 2 st.gone st.out), st.same ++ L, [], []⟩ := by
        unfold doneW
        rw [hss]
        rfl
      rw [hd]
      exact back_go n r 1 _ (by omega) hokr (fun h => absurd rfl h) (fun _ => ⟨rfl, rfl⟩) (by omega) (by omega) (fun h => by omega)
    · rw [if_neg e1]
      by_cases e3 : k = 3
      · subst e3
        rw [if_pos rfl, fold_gone L st hne]
        have hw : was = 0 ∨ was = 1 := by
          by_cases e : was = 2
          · exact absurd rfl (hw2 e _ _ rfl)
          · omega
        obtain ⟨g1, g2⟩ := hg hw
        have hd : putK 2 L (doneW st) = doneW ⟨putK 1 st.same st.out, [], st.gone ++ L, st.come⟩ := by
          unfold doneW
          rw [g1, g2]
          rfl
        rw [hd]
        exact back_go n r 3 _ (by omega) hokr (fun _ => rfl) (fun h => by omega) (by omega) (by omega) (fun h => by omega)
      · rw [if_neg e3]
        obtain rfl : k = 2 := by omega
        have hw : was = 0 ∨ was = 1 := by
          by_cases e : was = 3
          · exact absurd ⟨rfl, e⟩ hno
          · omega
        obtain ⟨g1, g2⟩ := hg hw
        rw [fold_come L st hne]
        have hd : putK 3 L (doneW st) = doneW ⟨putK 1 st.same st.out, [], st.gone, st.come ++ L⟩ := by
          unfold doneW
          rw [g1, g2]
          rfl
        cases r with
        | nil => simp only [opsB, List.flatMap_nil, List.foldl_nil]; exact hd.symm
        | cons g r' =>
          dsimp only
          by_cases e : g.1 = 3
          · rw [if_pos e]
            rw [okB, Bool.and_eq_true, okAtB_iff] at hokr
            obtain ⟨⟨_, gne, _, _⟩, hokr'⟩ := hokr
            obtain ⟨kg, M⟩ := g
            dsimp only at e gne hokr' ⊢
            subst e
            rw [opsB_cons, List.foldl_append]
            dsimp only
            rw [fold_gone M _ gne]
            have hd2 : putK 3 L (putK 2 M (doneW st)) = doneW ⟨putK 1 [] (putK 1 st.same st.out), [], st.gone ++ M, st.come ++ L⟩ := by
              unfold doneW
              rw [g1, g2]
              rfl
            rw [hd2]
            simp only [List.length_cons] at hn
            exact back_go n r' 3 _ (by omega) hokr' (fun _ => rfl) (fun h => by omega) (by omega) (by omega) (fun h => by omega)
          · rw [if_neg e, hd]
            exact back_go n (g :: r') 2 _ (by omega) hokr (fun _ => rfl) (fun h => by omega) (by omega) (by omega) (fun _ g' r'' he => by cases he; exact e)
theorem back_ref {l : List HkI} (h : okB 0 l = true) : backGo l [] = backI l := by
  have := back_go l.length l 0 ⟨[], [], [], []⟩ (Nat.le_refl _) h (fun _ => rfl) (fun _ => ⟨rfl, rfl⟩) (by omega) (by omega) (fun h => by omega)
  exact this.symm
end Go.Proofs.YtnbihjocdlpplaaDoor
/- The plain law of a text's lines, from the front: where a line ends is told by four bytes. -/
namespace Go.Proofs.YtnbihjocdlpplaaDoor
set_option linter.unusedVariables false
set_option linter.unusedSimpArgs false
open Go.Lib
/-- how wide the line end is that begins with byte b0, behind byte p, ahead of b1, b2 -/
def E4 (p b0 b1 b2 : Nat) : Nat :=
  if b0 = 10 then (if p = 13 then 0 else 1)
  else if b0 = 13 then (if b1 = 10 then 2 else 1)
  else if b0 = 194 ∧ b1 = 133 then 2
  else if b0 = 226 ∧ b1 = 128 ∧ (b2 = 168 ∨ b2 = 169) then 3 else 0
def byteN (l : List UInt8) (i : Nat) : Nat := (l.getD i 0).toNat
def prevN (l : List UInt8) (i : Nat) : Nat := if i = 0 then 0 else byteN l (i - 1)
theorem byteN_out {l : List UInt8} {i : Nat} (h : l.length ≤ i) : byteN l i = 0 := by
  unfold byteN
  rw [List.getD_eq_getElem?_getD, List.getElem?_eq_none h]
  rfl
theorem byteN_lt {l : List UInt8} {i : Nat} (h : byteN l i ≠ 0) : i < l.length := by
  rcases Nat.lt_or_ge i l.length with h1 | h1
  · exact h1
  · exact absurd (byteN_out h1) h
theorem endL_E4 (l : List UInt8) (i : Nat) : endL l i = E4 (prevN l i) (byteN l i) (byteN l (i + 1)) (byteN l (i + 2)) := by
  by_cases hi : l.length ≤ i
  · unfold endL
    rw [if_pos hi, byteN_out hi]
    rfl
  · have hs := dec_sep (D := l.drop i)
    simp only [getD_drop, List.length_drop] at hs
    unfold endL
    rw [if_neg hi]
    unfold E4
    show (if byteN l i = 10 then _ else _) = _
    by_cases h1 : byteN l i = 10
    · rw [if_pos h1, if_pos h1]
      unfold prevN
      by_cases h0 : i = 0
      · rw [if_pos h0, if_neg (by omega), if_neg (by omega)]
      · rw [if_neg h0]
        show (if 0 < i ∧ byteN l (i - 1) = 13 then _ else _) = _
        by_cases h2 : byteN l (i - 1) = 13
        · rw [if_pos ⟨by omega, h2⟩, if_pos h2]
        · rw [if_neg (fun h => h2 h.2), if_neg h2]
    · rw [if_neg h1, if_neg h1]
      show (if byteN l i = 13 then _ else _) = _
      by_cases h2 : byteN l i = 13
      · rw [if_pos h2, if_pos h2]
        show (if i + 1 < l.length ∧ byteN l (i + 1) = 10 then _ else _) = _
        by_cases h3 : byteN l (i + 1) = 10
        · rw [if_pos ⟨byteN_lt (by omega), h3⟩, if_pos h3]
        · rw [if_neg (fun h => h3 h.2), if_neg h3]
      · rw [if_neg h2, if_neg h2]
        have e0 : ((l.getD (i + 0) 0).toNat) = byteN l i := rfl
        have e1 : ((l.getD (i + 1) 0).toNat) = byteN l (i + 1) := rfl
        have e2 : ((l.getD (i + 2) 0).toNat) = byteN l (i + 2) := rfl
        rw [e0, e1, e2] at hs
        rcases hs with ⟨q1, q2, q3, q4, q5⟩ | ⟨q1, q2, q3, q4, q5, q6⟩ | ⟨q1, q2, q3⟩
        · rw [if_pos (.inl q1), if_pos ⟨q4, q5⟩, q2]
        · rw [if_pos (.inr q1), if_neg (by omega), if_pos ⟨q4, q5, q6⟩, q2]
        · rw [if_neg q1, if_neg (fun h => q2 ⟨by have := byteN_lt (l := l) (i := i + 1) (by omega); omega, h.1, h.2⟩), if_neg (fun h => q3 ⟨by have := byteN_lt (l := l) (i := i + 2) (by omega); omega, h.1, h.2.1, h.2.2⟩)]
/-- a byte ahead of the first line -/
def consH (b : UInt8) : List (List UInt8) → List (List UInt8)
  | [] => [[b]]
  | x :: r => (b :: x) :: r
/-- the lines with their ends, behind byte p -/
def spl (p : Nat) : List UInt8 → List (List UInt8)
  | [] => [[]]
  | b0 :: r =>
    match E4 p b0.toNat (byteN r 0) (byteN r 1), r with
    | 0, r => consH b0 (spl b0.toNat r)
    | 1, r => [b0] :: spl b0.toNat r
    | 2, b1 :: r => [b0, b1] :: spl b1.toNat r
    | _, b1 :: b2 :: r => [b0, b1, b2] :: spl b2.toNat r
    | _, r => [b0] :: spl b0.toNat r
termination_by l => l.length
theorem E4_le (p b0 b1 b2 : Nat) : E4 p b0 b1 b2 ≤ 3 := by
  unfold E4
  repeat' split
  all_goals omega
theorem spl_zero {p : Nat} {b0 : UInt8} {r : List UInt8} (h : E4 p b0.toNat (byteN r 0) (byteN r 1) = 0) : spl p (b0 :: r) = consH b0 (spl b0.toNat r) := by
  rw [spl.eq_def]
  simp only [h]
theorem spl_one {p : Nat} {b0 : UInt8} {r : List UInt8} (h : E4 p b0.toNat (byteN r 0) (byteN r 1) = 1) : spl p (b0 :: r) = [b0] :: spl b0.toNat r := by
  rw [spl.eq_def]
  simp only [h]
theorem spl_two {p : Nat} {b0 b1 : UInt8} {r : List UInt8} (h : E4 p b0.toNat (byteN (b1 :: r) 0) (byteN (b1 :: r) 1) = 2) : spl p (b0 :: b1 :: r) = [b0, b1] :: spl b1.toNat r := by
  rw [spl.eq_def]
  simp only [h]
theorem spl_three {p : Nat} {b0 b1 b2 : UInt8} {r : List UInt8} (h : E4 p b0.toNat (byteN (b1 :: b2 :: r) 0) (byteN (b1 :: b2 :: r) 1) = 3) : spl p (b0 :: b1 :: b2 :: r) = [b0, b1, b2] :: spl b2.toNat r := by
  rw [spl.eq_def]
  simp only [h]
theorem E4_two {p b0 b1 b2 : Nat} (h : E4 p b0 b1 b2 = 2) : b1 ≠ 0 := by
  unfold E4 at h
  repeat' split at h
  all_goals omega
theorem E4_three {p b0 b1 b2 : Nat} (h : E4 p b0 b1 b2 = 3) : b1 ≠ 0 ∧ b2 ≠ 0 := by
  unfold E4 at h
  repeat' split at h
  all_goals omega
theorem byteN_drop (l : List UInt8) (i j : Nat) : byteN (l.drop i) j = byteN l (i + j) := by
  unfold byteN
  rw [getD_drop]
theorem byteN_zero {l : List UInt8} {i : Nat} {b : UInt8} (h : l[i]? = some b) : byteN l i = b.toNat := by
  unfold byteN
  rw [List.getD_eq_getElem?_getD, h]
  rfl
/-- the two ways to tell the lines say the same -/
theorem linesGo_spl (l : List UInt8) : ∀ (f a i : Nat), a ≤ i → i ≤ l.length → l.length < i + f →
    (linesGo l f a i).map (pieceE l) = (match spl (prevN l i) (l.drop i) with | [] => [] | x :: r => ((l.drop a).take (i - a) ++ x) :: r)
  | 0, a, i, _, _, h => by omega
  | f + 1, a, i, hai, hil, hf => by
    rw [linesGo]
    by_cases h1 : l.length ≤ i
    · rw [if_pos h1, List.drop_of_length_le h1]
      have : i = l.length := by omega
      subst this
      simp only [spl, List.map_cons, List.map_nil, List.append_nil]
      unfold pieceE
      dsimp only
      rw [Nat.add_zero]
    · rw [if_neg h1]
      have hi : i < l.length := by omega
      have hd : l.drop i = l[i] :: l.drop (i + 1) := List.drop_eq_getElem_cons hi
      have hb0 : byteN l i = (l[i]).toNat := byteN_zero (by simp)
      have hE : E4 (prevN l i) (l[i]).toNat (byteN (l.drop (i + 1)) 0) (byteN (l.drop (i + 1)) 1) = endL l i := by
        rw [endL_E4, hb0, byteN_drop, byteN_drop]
      have hp1 : prevN l (i + 1) = (l[i]).toNat := by
        unfold prevN
        rw [if_neg (by omega), Nat.add_sub_cancel, hb0]
      by_cases h2 : endL l i = 0
      · rw [if_pos h2, linesGo_spl l f a (i + 1) (by omega) hi (by omega), hd, spl_zero (hE.trans h2), hp1]
        cases hs : spl (l[i]).toNat (l.drop (i + 1)) with
        | nil => exfalso; exact spl_ne _ _ hs
        | cons x r =>
          simp only [consH]
          congr 1
          rw [show i + 1 - a = (i - a) + 1 by omega, List.take_add_one, List.getElem?_drop, show a + (i - a) = i by omega, List.getElem?_eq_getElem hi]
          simp
      · rw [if_neg h2]
        have h3 := (endL_le l i).resolve_left h2
        have h4 := E4_le (prevN l i) (l[i]).toNat (byteN (l.drop (i + 1)) 0) (byteN (l.drop (i + 1)) 1)
        rw [hE] at h4
        have hrec := linesGo_spl l f (i + endL l i) (i + endL l i) (Nat.le_refl _) h3 (by omega)
        rw [List.map_cons, hrec]
        have key : ∀ k, endL l i = k → 0 < k → spl (prevN l i) (l.drop i) = ((l.drop i).take k) :: spl (prevN l (i + k)) (l.drop (i + k)) := fun k hk hk0 => by
          have hk3 : k = 1 ∨ k = 2 ∨ k = 3 := by omega
          rcases hk3 with rfl | rfl | rfl
          · rw [hd, spl_one (hE.trans hk), hp1]
            rfl
          · have hi2 : i + 1 < l.length := by omega
            have hd2 : l.drop (i + 1) = l[i + 1] :: l.drop (i + 2) := List.drop_eq_getElem_cons hi2
            have hp2 : prevN l (i + 2) = (l[i + 1]).toNat := by
              unfold prevN
              rw [if_neg (by omega), show i + 2 - 1 = i + 1 by omega]
              exact byteN_zero (by simp)
            rw [hd, hd2, spl_two (by rw [← hd2]; exact hE.trans hk), hp2]
            rfl
          · have hi2 : i + 1 < l.length := by omega
            have hi3 : i + 2 < l.length := by omega
            have hd2 : l.drop (i + 1) = l[i + 1] :: l.drop (i + 2) := List.drop_eq_getElem_cons hi2
            have hd3 : l.drop (i + 2) = l[i + 2] :: l.drop (i + 3) := List.drop_eq_getElem_cons hi3
            have hp3 : prevN l (i + 3) = (l[i + 2]).toNat := by
              unfold prevN
              rw [if_neg (by omega), show i + 3 - 1 = i + 2 by omega]
              exact byteN_zero (by simp)
            rw [hd, hd2, hd3, spl_three (by rw [← hd3, ← hd2]; exact hE.trans hk), hp3]
            rfl
        obtain ⟨k, hk⟩ : ∃ k, endL l i = k := ⟨_, rfl⟩
        rw [hk] at h2 h3 ⊢
        rw [key k hk (by omega)]
        cases hs : spl (prevN l (i + k)) (l.drop (i + k)) with
        | nil => exfalso; exact spl_ne _ _ hs
        | cons x r =>
          simp only [Nat.sub_self, List.take_zero, List.nil_append]
          congr 1
          unfold pieceE
          dsimp only
          rw [show i + k - a = (i - a) + k by omega, List.take_add, List.drop_drop, show a + (i - a) = i by omega]
where
  spl_ne (p : Nat) (l : List UInt8) : spl p l ≠ [] := by
    rw [spl.eq_def]
    split
    · simp
    · split
      · unfold consH; split <;> simp
      all_goals simp
theorem splitA_spl (l : List UInt8) : splitA l = spl 0 l := by
  have h := linesGo_spl l (l.length + 1) 0 0 (Nat.le_refl _) (Nat.zero_le _) (by omega)
  unfold splitA linesL
  rw [h]
  rw [List.drop_zero]
  show (match spl 0 l with | [] => [] | x :: r => ((l.take 0) ++ x) :: r) = _
  cases spl 0 l with
  | nil => rfl
  | cons x r => rfl
end Go.Proofs.YtnbihjocdlpplaaDoor
/- Lines put together: a line that ends is a line of whatever stands behind it. -/
namespace Go.Proofs.YtnbihjocdlpplaaDoor
set_option linter.unusedVariables false
set_option linter.unusedSimpArgs false
open Go.Lib
theorem spl_ne (p : Nat) (l : List UInt8) : spl p l ≠ [] := by
  rw [spl.eq_def]
  split
  · simp
  · split
    · unfold consH; split <;> simp
    all_goals simp
theorem consH_inj {b : UInt8} {L : List (List UInt8)} {x : List UInt8} {r : List (List UInt8)} (hL : L ≠ []) (h : consH b L = (b :: x) :: r) : L = x :: r := by
  cases L with
  | nil => exact absurd rfl hL
  | cons y s =>
    simp only [consH, List.cons.injEq, true_and] at h
    rw [h.1, h.2]
def lastN (s : List UInt8) : Nat := byteN s (s.length - 1)
theorem lastN_cons {b : UInt8} {r : List UInt8} (h : r ≠ []) : lastN (b :: r) = lastN r := by
  have hl : 0 < r.length := List.length_pos_iff.2 h
  unfold lastN byteN
  rw [List.length_cons, List.getD_eq_getElem?_getD, List.getD_eq_getElem?_getD, show r.length + 1 - 1 = (r.length - 1) + 1 by omega, List.getElem?_cons_succ]
/-- bytes that neither end a line nor go on with an end -/
def free (b : Nat) : Prop := b ≠ 10 ∧ b ≠ 133 ∧ b ≠ 128 ∧ b ≠ 168 ∧ b ≠ 169
def okAfter (s post : List UInt8) : Prop := lastN s = 10 ∨ free (byteN post 0)
theorem byteN_app_left {a b : List UInt8} {i : Nat} (h : i < a.length) : byteN (a ++ b) i = byteN a i := by
  unfold byteN
  rw [List.getD_eq_getElem?_getD, List.getD_eq_getElem?_getD, List.getElem?_append_left h]
theorem byteN_app_right {a b : List UInt8} {i : Nat} (h : a.length ≤ i) : byteN (a ++ b) i = byteN b (i - a.length) := by
  unfold byteN
  rw [List.getD_eq_getElem?_getD, List.getD_eq_getElem?_getD, List.getElem?_append_right h]
theorem byteN_cons_zero {b : UInt8} {r : List UInt8} : byteN (b :: r) 0 = b.toNat := rfl
theorem byteN_cons_succ {b : UInt8} {r : List UInt8} {i : Nat} : byteN (b :: r) (i + 1) = byteN r i := by
  unfold byteN
  rw [List.getD_eq_getElem?_getD, List.getD_eq_getElem?_getD, List.getElem?_cons_succ]
theorem E4_ten {p b1 b2 : Nat} : E4 p 10 b1 b2 = if p = 13 then 0 else 1 := by unfold E4; rw [if_pos rfl]
theorem E4_one {p b0 b1 b2 : Nat} (h : E4 p b0 b1 b2 = 1) : (b0 = 10 ∧ p ≠ 13) ∨ (b0 = 13 ∧ b1 ≠ 10) := by
  unfold E4 at h
  repeat' split at h
  all_goals first | omega | (left; constructor <;> assumption) | (right; constructor <;> assumption)
theorem spl_cat : ∀ (n : Nat) (s : List UInt8), s.length ≤ n → ∀ (p : Nat) (post : List UInt8), spl p s = [s, []] → okAfter s post → spl p (s ++ post) = s :: spl (lastN s) post
  | _, [], _, p, post, h, _ => by simp [spl] at h
  | 0, b0 :: r, hn, _, _, _, _ => by simp at hn
  | n + 1, b0 :: r, hn, p, post, h, ho => by
    have hE := E4_le p b0.toNat (byteN r 0) (byteN r 1)
    obtain ⟨e, he⟩ : ∃ e, E4 p b0.toNat (byteN r 0) (byteN r 1) = e := ⟨_, rfl⟩
    have hcases : e = 0 ∨ e = 1 ∨ e = 2 ∨ e = 3 := by omega
    rcases hcases with rfl | rfl | rfl | rfl
    · rw [spl_zero he] at h
      have h2 := consH_inj (spl_ne _ _) h
      have hr : r ≠ [] := by
        rintro rfl
        simp [spl] at h2
      have hrl : 0 < r.length := List.length_pos_iff.2 hr
      have ho2 : okAfter r post := by
        unfold okAfter at ho ⊢
        rwa [lastN_cons hr] at ho
      have hE2 : E4 p b0.toNat (byteN (r ++ post) 0) (byteN (r ++ post) 1) = 0 := by
        rw [byteN_app_left hrl]
        by_cases hr1 : 1 < r.length
        · rw [byteN_app_left hr1]; exact he
        · have hr1' : r.length = 1 := by omega
          obtain ⟨b1, rfl⟩ : ∃ b, r = [b] := by
            match r, hr1' with
            | [b], _ => exact ⟨b, rfl⟩
          rw [byteN_app_right (by simp), byteN_cons_zero]
          rw [byteN_cons_zero, byteN_out (by simp)] at he
          have hp0 : byteN post 0 ≠ 168 ∧ byteN post 0 ≠ 169 ∨ b1.toNat = 10 := by
            rcases ho2 with q | q
            · exact .inr q
            · exact .inl ⟨q.2.2.2.1, q.2.2.2.2⟩
          unfold E4 at he ⊢
          simp only [List.length_singleton, Nat.sub_self] at *
          repeat' split at he
          all_goals (repeat' split) <;> omega
      rw [List.cons_append, spl_zero hE2, spl_cat n r (by simp at hn; omega) b0.toNat post h2 ho2, lastN_cons hr]
      rfl
    · rw [spl_one he] at h
      have h2 : r = [] ∧ spl b0.toNat r = [[]] := by
        simp only [List.cons.injEq, true_and] at h
        exact ⟨h.1.symm, h.2⟩
      obtain ⟨rfl, _⟩ := h2
      have hE2 : E4 p b0.toNat (byteN ([] ++ post) 0) (byteN ([] ++ post) 1) = 1 := by
        rw [List.nil_append]
        rcases E4_one he with ⟨q, hp⟩ | ⟨q, _⟩
        · rw [q, E4_ten, if_neg hp]
        · have hf : free (byteN post 0) := by
            rcases ho with ho | ho
            · exact absurd (show b0.toNat = 10 from ho) (by omega)
            · exact ho
          unfold E4
          rw [q, if_neg (by omega), if_pos rfl, if_neg hf.1]
      show spl p (b0 :: ([] ++ post)) = _
      rw [spl_one hE2]
      rfl
    · have hb1 := E4_two he
      have hr0 := byteN_lt hb1
      obtain ⟨b1, r', rfl⟩ : ∃ b r', r = b :: r' := by
        cases r with
        | nil => simp at hr0
        | cons b r' => exact ⟨b, r', rfl⟩
      rw [spl_two he] at h
      obtain ⟨rfl⟩ : r' = [] := by
        simp only [List.cons.injEq, true_and] at h
        exact h.1.symm
      have hE2 : E4 p b0.toNat (byteN (b1 :: ([] ++ post)) 0) (byteN (b1 :: ([] ++ post)) 1) = 2 := by
        rw [byteN_cons_zero]
        rw [byteN_cons_zero] at he
        unfold E4 at he ⊢
        repeat' split at he
        all_goals (repeat' split) <;> omega
      show spl p (b0 :: b1 :: ([] ++ post)) = _
      rw [spl_two hE2]
      rfl
    · obtain ⟨hb1, hb2⟩ := E4_three he
      have hr1 := byteN_lt hb2
      obtain ⟨b1, b2, r', rfl⟩ : ∃ b b2 r', r = b :: b2 :: r' := by
        match r, hr1 with
        | b :: b2 :: r', _ => exact ⟨b, b2, r', rfl⟩
      rw [spl_three he] at h
      obtain ⟨rfl⟩ : r' = [] := by
        simp only [List.cons.injEq, true_and] at h
        exact h.1.symm
      have hE3 : E4 p b0.toNat (byteN (b1 :: b2 :: ([] ++ post)) 0) (byteN (b1 :: b2 :: ([] ++ post)) 1) = 3 := he
      show spl p (b0 :: b1 :: b2 :: ([] ++ post)) = _
      rw [spl_three hE3]
      rfl
/-- all of them lines that end -/
theorem spl_flat : ∀ (L : List (List UInt8)) (p : Nat) (post : List UInt8), (∀ s ∈ L, ∀ q, q ≠ 13 → spl q s = [s, []]) → (∀ s ∈ L, lastN s = 10) → p ≠ 13 → spl p (L.flatten ++ post) = L ++ spl (if L = [] then p else 10) post
  | [], p, post, _, _, hp => by rw [if_pos rfl]; rfl
  | s :: L, p, post, h1, h2, hp => by
    have hs := h2 s (by simp)
    have hrec := spl_flat L 10 post (fun x hx => h1 x (List.mem_cons_of_mem _ hx)) (fun x hx => h2 x (List.mem_cons_of_mem _ hx)) (by decide)
    have h10 : (if L = [] then 10 else 10) = 10 := by split <;> rfl
    rw [h10] at hrec
    have hc := spl_cat _ s (Nat.le_refl _) p (L.flatten ++ post) (h1 s (by simp) p hp) (.inl hs)
    have hne : (if s :: L = [] then p else 10) = 10 := if_neg (fun e => by cases e)
    rw [List.flatten_cons, List.append_assoc, hc, hs, hrec, hne]
    rfl
/-- a line of plain bytes and a byte 0A -/
def plainB (b : UInt8) : Prop := 32 ≤ b.toNat ∧ b.toNat < 127
theorem spl_good : ∀ (s : List UInt8) (p : Nat), (∀ b ∈ s, plainB b) → (s = [] → p ≠ 13) → spl p (s ++ [10]) = [s ++ [10], []]
  | [], p, _, hp => by
    have hE : E4 p (10 : UInt8).toNat (byteN [] 0) (byteN [] 1) = 1 := by
      show E4 p 10 _ _ = 1
      rw [E4_ten, if_neg (hp rfl)]
    show spl p [10] = _
    rw [spl_one hE]
    simp [spl]
  | b :: s, p, hs, _ => by
    have hb := hs b (by simp)
    unfold plainB at hb
    have hE : E4 p b.toNat (byteN (s ++ [10]) 0) (byteN (s ++ [10]) 1) = 0 := by
      unfold E4
      rw [if_neg (by omega), if_neg (by omega), if_neg (by omega), if_neg (by omega)]
    rw [List.cons_append, spl_zero hE, spl_good s b.toNat (fun x hx => hs x (List.mem_cons_of_mem _ hx)) (fun _ => by omega)]
    rfl
theorem lastN_ten (s : List UInt8) : lastN (s ++ [10]) = 10 := by
  unfold lastN
  rw [List.length_append, List.length_singleton, Nat.add_sub_cancel, byteN_app_right (Nat.le_refl _), Nat.sub_self]
  rfl
/-- texts made of such lines have these lines -/
theorem splitD_good (L : List (List UInt8)) (h : ∀ s ∈ L, ∃ t, s = t ++ [10] ∧ ∀ b ∈ t, plainB b) : splitD L.flatten = L := by
  have h1 : splitA L.flatten = L ++ [[]] := by
    have := spl_flat L 0 [] (fun s hs q hq => by obtain ⟨t, rfl, ht⟩ := h s hs; exact spl_good t q ht (fun _ => hq)) (fun s hs => by obtain ⟨t, rfl, ht⟩ := h s hs; exact lastN_ten t) (by decide)
    rw [List.append_nil] at this
    rw [splitA_spl, this]
    simp [spl]
  unfold splitD
  rw [h1, List.getLast?_concat, if_pos rfl, List.dropLast_concat]
/-- whatever is laid down by hand is no better -/
theorem dist_min (ops : List Op7) : dist (ops.flatMap lineA) (ops.flatMap lineB) ≤ costOps ops := by
  induction ops with
  | nil => simp [dist, costOps]
  | cons o ops ih =>
    unfold costOps at ih ⊢
    rw [List.flatMap_cons, List.flatMap_cons, List.map_cons, List.sum_cons]
    cases o with
    | same s =>
      show dist (s :: ops.flatMap lineA) (s :: ops.flatMap lineB) ≤ 0 + _
      rw [dist_same]; omega
    | gone s =>
      show dist (s :: ops.flatMap lineA) (ops.flatMap lineB) ≤ 1 + _
      have := dist_left s (ops.flatMap lineA) (ops.flatMap lineB)
      omega
    | come s =>
      show dist (ops.flatMap lineA) (s :: ops.flatMap lineB) ≤ 1 + _
      have := dist_right (ops.flatMap lineA) (ops.flatMap lineB) s
      omega
end Go.Proofs.YtnbihjocdlpplaaDoor
