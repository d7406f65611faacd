/- Texts joined, one behind the other (DiffR, DiffS, DEq, OwnB, DSide). -/
import Derived.Test.YtnbihjocdlpplaaGreatDoorKq04
import Derived.Lib.AppendZeros
/- The plain law of patches: the two sides of a patch, and that it may be. -/
namespace Go.Proofs.YtnbihjocdlpplaaGreatDoor
set_option linter.unusedVariables false
set_option linter.unusedSimpArgs false
def sideL (k : Nat) (l : List Hk) : List (List UInt8) := l.flatMap fun h => if h.1 = 1 ∨ h.1 = k then h.2 else []
theorem side_app (k : Nat) (a b : List Hk) : sideL k (a ++ b) = sideL k a ++ sideL k b := by unfold sideL; simp
theorem side_put (k q : Nat) (l : List (List UInt8)) (out : List Hk) : sideL k (putK q l out) = sideL k out ++ (if q = 1 ∨ q = k then l else []) := by
  unfold putK
  split
  · rename_i h; subst h; simp
  · rw [side_app]; simp [sideL]
def lineA : Op7 → List (List UInt8)
  | .same s => [s]
  | .gone s => [s]
  | .come _ => []
def lineB : Op7 → List (List UInt8)
  | .same s => [s]
  | .gone _ => []
  | .come s => [s]
def sideSt (k : Nat) (st : St7) : List (List UInt8) := sideL k st.out ++ st.same ++ (if k = 2 then st.gone else st.come)
theorem sideA_step (st : St7) (o : Op7) (h : OneW st) : sideSt 2 (stepW st o) = sideSt 2 st ++ lineA o := by
  rcases h with h | ⟨h1, h2⟩ <;> cases o <;> simp_all [stepW, sideSt, side_put, lineA]
theorem sideB_step (st : St7) (o : Op7) (h : OneW st) : sideSt 3 (stepW st o) = sideSt 3 st ++ lineB o := by
  rcases h with h | ⟨h1, h2⟩ <;> cases o <;> simp_all [stepW, sideSt, side_put, lineB]
theorem fold_one (ops : List Op7) (st : St7) (h : OneW st) : OneW (ops.foldl stepW st) := by
  induction ops generalizing st with
  | nil => exact h
  | cons o ops ih => exact ih _ (oneW_step st o)
theorem sideA_fold (ops : List Op7) (st : St7) (h : OneW st) : sideSt 2 (ops.foldl stepW st) = sideSt 2 st ++ ops.flatMap lineA := by
  induction ops generalizing st with
  | nil => simp
  | cons o ops ih => rw [List.foldl_cons, ih _ (oneW_step st o), sideA_step st o h, List.flatMap_cons, List.append_assoc]
theorem sideB_fold (ops : List Op7) (st : St7) (h : OneW st) : sideSt 3 (ops.foldl stepW st) = sideSt 3 st ++ ops.flatMap lineB := by
  induction ops generalizing st with
  | nil => simp
  | cons o ops ih => rw [List.foldl_cons, ih _ (oneW_step st o), sideB_step st o h, List.flatMap_cons, List.append_assoc]
theorem side_done {st : St7} (h : OneW st) : sideL 2 (doneW st) = sideSt 2 st ∧ sideL 3 (doneW st) = sideSt 3 st := by
  unfold doneW sideSt
  simp [side_put]
theorem oneW_start : OneW ⟨[], [], [], []⟩ := .inl rfl
theorem patchOf_sides (ops : List Op7) : sideL 2 (patchOf ops) = ops.flatMap lineA ∧ sideL 3 (patchOf ops) = ops.flatMap lineB := by
  unfold patchOf
  have h := side_done (fold_one ops _ oneW_start)
  rw [h.1, h.2, sideA_fold ops _ oneW_start, sideB_fold ops _ oneW_start]
  simp [sideSt, sideL]
theorem script_lines_go : ∀ (n : Nat) (a b : List (List UInt8)), a.length + b.length ≤ n → (script a b).flatMap lineA = a ∧ (script a b).flatMap lineB = b
  | 0, a, b, h => by
    obtain rfl : a = [] := List.eq_nil_of_length_eq_zero (by omega)
    obtain rfl : b = [] := List.eq_nil_of_length_eq_zero (by omega)
    simp [script]
  | n + 1, [], [], h => by simp [script]
  | n + 1, [], y :: b, h => by
    simp only [List.length_cons] at h
    have := script_lines_go n [] b (by omega)
    rw [script]
    simp [List.flatMap_cons, this.1, this.2, lineA, lineB]
  | n + 1, x :: a, [], h => by
    simp only [List.length_cons] at h
    have := script_lines_go n a [] (by omega)
    rw [script]
    simp [List.flatMap_cons, this.1, this.2, lineA, lineB]
  | n + 1, x :: a, y :: b, h => by
    simp only [List.length_cons] at h
    rw [script]
    by_cases e : x = y
    · rw [if_pos e]
      have := script_lines_go n a b (by omega)
      subst e
      simp [List.flatMap_cons, this.1, this.2, lineA, lineB]
    · rw [if_neg e]
      split
      · have := script_lines_go n a (y :: b) (by simp; omega)
        simp [List.flatMap_cons, this.1, this.2, lineA, lineB]
      · have := script_lines_go n (x :: a) b (by simp; omega)
        simp [List.flatMap_cons, this.1, this.2, lineA, lineB]
theorem patch_sides (a b : List (List UInt8)) : sideL 2 (patchL a b) = a ∧ sideL 3 (patchL a b) = b := by
  have h := patchOf_sides (script a b)
  have h2 := script_lines_go _ a b (Nat.le_refl _)
  rw [h2.1, h2.2] at h
  exact h
/-- may a hunk stand behind one of that kind? -/
def okAt (was : Nat) (h : Hk) : Prop := (1 ≤ h.1 ∧ h.1 ≤ 3) ∧ h.2 ≠ [] ∧ h.1 ≠ was ∧ ¬ (h.1 = 2 ∧ was = 3)
def okKinds : Nat → List Hk → Prop
  | _, [] => True
  | was, h :: l => okAt was h ∧ okKinds h.1 l
def lastK : Nat → List Hk → Nat
  | was, [] => was
  | _, h :: l => lastK h.1 l
theorem lastK_app (a : List Hk) (k : Nat) (x : List (List UInt8)) : ∀ was, lastK was (a ++ [(k, x)]) = k := by
  induction a with
  | nil => intro was; rfl
  | cons h a ih => intro was; exact ih h.1
theorem okKinds_app (a : List Hk) (h : Hk) : ∀ was, okKinds was (a ++ [h]) ↔ okKinds was a ∧ okAt (lastK was a) h := by
  induction a with
  | nil => intro was; simp [okKinds, lastK]
  | cons x a ih =>
    intro was
    rw [List.cons_append, okKinds, okKinds, ih]
    exact and_assoc.symm
theorem ok_put {k : Nat} {l : List (List UInt8)} {out : List Hk} (ho : okKinds 0 out) (hk : 1 ≤ k ∧ k ≤ 3) (hl : l ≠ [] → k ≠ lastK 0 out ∧ ¬ (k = 2 ∧ lastK 0 out = 3)) : okKinds 0 (putK k l out) := by
  unfold putK
  split
  · exact ho
  · rename_i h
    rw [okKinds_app]
    exact ⟨ho, hk, h, (hl h).1, (hl h).2⟩
theorem last_put {k : Nat} {l : List (List UInt8)} {out : List Hk} : lastK 0 (putK k l out) = if l = [] then lastK 0 out else k := by
  unfold putK
  split
  · rfl
  · rw [lastK_app]
/-- what is kept while hunks are gathered -/
structure OkSt (st : St7) : Prop where
  one : OneW st
  ok : okKinds 0 st.out
  le : lastK 0 st.out ≤ 3
  same : st.same ≠ [] → lastK 0 st.out ≠ 1
  chg : (st.gone ≠ [] ∨ st.come ≠ []) → lastK 0 st.out ≤ 1
  none : st.same = [] → st.gone = [] → st.come = [] → lastK 0 st.out = 0
theorem okSt_start : OkSt ⟨[], [], [], []⟩ := ⟨.inl rfl, trivial, by simp [lastK], fun h => absurd rfl h, fun h => by simp at h, fun _ _ _ => rfl⟩
theorem okSt_step (st : St7) (o : Op7) (h : OkSt st) : OkSt (stepW st o) := by
  obtain ⟨h1, h2, h3, h4, h5, h6⟩ := h
  have key2 : okKinds 0 (putK 2 st.gone st.out) := ok_put h2 (by omega) (fun hg => by have := h5 (.inl hg); omega)
  have key23 : okKinds 0 (putK 3 st.come (putK 2 st.gone st.out)) := ok_put key2 (by omega) (fun hc => by
    rw [last_put]
    have := h5 (.inr hc)
    split <;> omega)
  have key1 : okKinds 0 (putK 1 st.same st.out) := ok_put h2 (by omega) (fun hs => ⟨(h4 hs).symm, by omega⟩)
  cases o with
  | same s =>
    refine ⟨.inr ⟨rfl, rfl⟩, key23, ?_, fun _ => ?_, fun h => by simp [stepW] at h, fun h => by simp [stepW] at h⟩
    · show lastK 0 (putK 3 st.come (putK 2 st.gone st.out)) ≤ 3
      rw [last_put, last_put]; repeat' split
      all_goals omega
    · show lastK 0 (putK 3 st.come (putK 2 st.gone st.out)) ≠ 1
      rw [last_put, last_put]
      by_cases hc : st.come = []
      · rw [if_pos hc]
        by_cases hg : st.gone = []
        · rw [if_pos hg]
          by_cases hs : st.same = []
          · have := h6 hs hg hc; omega
          · exact h4 hs
        · rw [if_neg hg]; omega
      · rw [if_neg hc]; omega
  | gone s =>
    refine ⟨.inl rfl, key1, ?_, fun h => absurd rfl h, fun _ => ?_, fun _ h => by simp [stepW] at h⟩
    · show lastK 0 (putK 1 st.same st.out) ≤ 3
      rw [last_put]; split <;> omega
    · show lastK 0 (putK 1 st.same st.out) ≤ 1
      rw [last_put]
      split
      · rename_i hs
        by_cases hg : st.gone = []
        · by_cases hc : st.come = []
          · have := h6 hs hg hc; omega
          · exact h5 (.inr hc)
        · exact h5 (.inl hg)
      · omega
  | come s =>
    refine ⟨.inl rfl, key1, ?_, fun h => absurd rfl h, fun _ => ?_, fun _ _ h => by simp [stepW] at h⟩
    · show lastK 0 (putK 1 st.same st.out) ≤ 3
      rw [last_put]; split <;> omega
    · show lastK 0 (putK 1 st.same st.out) ≤ 1
      rw [last_put]
      split
      · rename_i hs
        by_cases hg : st.gone = []
        · by_cases hc : st.come = []
          · have := h6 hs hg hc; omega
          · exact h5 (.inr hc)
        · exact h5 (.inl hg)
      · omega
theorem okSt_fold (ops : List Op7) : ∀ st, OkSt st → OkSt (ops.foldl stepW st) := by
  induction ops with
  | nil => intro st h; exact h
  | cons o ops ih => intro st h; exact ih _ (okSt_step st o h)
theorem ok_done {st : St7} (h : OkSt st) : okKinds 0 (doneW st) := by
  obtain ⟨h1, h2, h3, h4, h5, h6⟩ := h
  unfold doneW
  rcases h1 with h1 | ⟨h1, h1'⟩
  · rw [h1]
    have e : putK 1 [] st.out = st.out := rfl
    rw [e]
    refine ok_put (ok_put h2 (by omega) (fun hg => by have := h5 (.inl hg); omega)) (by omega) (fun hc => ?_)
    rw [last_put]
    have := h5 (.inr hc)
    split <;> omega
  · rw [h1, h1']
    show okKinds 0 (putK 1 st.same st.out)
    exact ok_put h2 (by omega) (fun hs => ⟨(h4 hs).symm, by omega⟩)
theorem patchOf_ok (ops : List Op7) : okKinds 0 (patchOf ops) := ok_done (okSt_fold ops _ okSt_start)
end Go.Proofs.YtnbihjocdlpplaaGreatDoor
/- The plain law of patches of any kinds: the sides, may it be, the other way. -/
namespace Go.Proofs.YtnbihjocdlpplaaGreatDoor
set_option linter.unusedVariables false
set_option linter.unusedSimpArgs false
abbrev HkI := Int × List (List UInt8)
def toI (h : Hk) : HkI := ((h.1 : Int), h.2)
def sideI (k : Int) (l : List HkI) : List (List UInt8) := l.flatMap fun h => if h.1 = 1 ∨ h.1 = k then h.2 else []
theorem sideI_to (k : Nat) (l : List Hk) : sideI (k : Int) (l.map toI) = sideL k l := by
  induction l with
  | nil => rfl
  | cons h l ih =>
    unfold sideI sideL at ih ⊢
    rw [List.map_cons, List.flatMap_cons, List.flatMap_cons, ih]
    congr 1
    have e1 : ((toI h).1 = 1) = (h.1 = 1) := by simp only [toI]; exact propext ⟨fun h => by omega, fun h => by omega⟩
    have e2 : ((toI h).1 = (k : Int)) = (h.1 = k) := by simp only [toI]; exact propext ⟨fun h => by omega, fun h => by omega⟩
    simp only [e1, e2]
    rfl
theorem sideI_app (k : Int) (a b : List HkI) : sideI k (a ++ b) = sideI k a ++ sideI k b := by unfold sideI; simp
def okAtB (was : Int) (h : HkI) : Bool := decide (1 ≤ h.1) && decide (h.1 ≤ 3) && !h.2.isEmpty && !(h.1 == was) && !(h.1 == 2 && was == 3)
def okB : Int → List HkI → Bool
  | _, [] => true
  | was, h :: l => okAtB was h && okB h.1 l
def wholeB (L : List (List UInt8)) : Bool := decide (L.length ≤ 512) && (splitD L.flatten == L)
def checkB (l : List HkI) : Bool := okB 0 l && wholeB (sideI 2 l) && wholeB (sideI 3 l)
def errP (b : Bool) : Int := if b then 0 else 310
def fitsB (s : List UInt8) (l : List HkI) : Bool := checkB l && ((sideI 2 l).flatten == s)
def distI (l : List HkI) : Nat := (l.map fun h => if h.1 = 2 ∨ h.1 = 3 then h.2.length else 0).sum
theorem okAtB_iff {was : Int} {h : HkI} : okAtB was h = true ↔ (1 ≤ h.1 ∧ h.1 ≤ 3) ∧ h.2 ≠ [] ∧ h.1 ≠ was ∧ ¬ (h.1 = 2 ∧ was = 3) := by
  unfold okAtB
  simp only [Bool.and_eq_true, decide_eq_true_eq, Bool.not_eq_true', List.isEmpty_eq_false_iff, beq_eq_false_iff_ne, Bool.and_eq_false_iff, ne_eq]
  constructor
  · rintro ⟨⟨⟨⟨h1, h2⟩, h3⟩, h4⟩, h5⟩
    exact ⟨⟨h1, h2⟩, h3, h4, fun ⟨a, b⟩ => h5.elim (fun h => h a) (fun h => h b)⟩
  · rintro ⟨⟨h1, h2⟩, h3, h4, h5⟩
    refine ⟨⟨⟨⟨h1, h2⟩, h3⟩, h4⟩, ?_⟩
    by_cases e : h.1 = 2
    · exact .inr fun e2 => h5 ⟨e, e2⟩
    · exact .inl e
theorem okB_to (l : List Hk) : ∀ was : Nat, okB (was : Int) (l.map toI) = true ↔ okKinds was l := by
  induction l with
  | nil => intro was; simp [okB, okKinds]
  | cons h l ih =>
    intro was
    rw [List.map_cons, okB, Bool.and_eq_true, okAtB_iff, okKinds]
    have := ih h.1
    rw [show (toI h).1 = ((h.1 : Nat) : Int) from rfl, this]
    unfold okAt
    rw [show (toI h).2 = h.2 from rfl]
    constructor
    · rintro ⟨⟨⟨a, b⟩, c, d, e⟩, f⟩
      exact ⟨⟨⟨by omega, by omega⟩, c, by omega, by omega⟩, f⟩
    · rintro ⟨⟨⟨a, b⟩, c, d, e⟩, f⟩
      exact ⟨⟨⟨by omega, by omega⟩, c, by omega, by omega⟩, f⟩
theorem distI_to (l : List Hk) : distI (l.map toI) = distH l := by
  unfold distI distH
  rw [List.map_map]
  congr 1
  refine List.map_congr_left fun h _ => ?_
  simp only [Function.comp, toI]
  have e1 : ((h.1 : Int) = 2) = (h.1 = 2) := propext ⟨fun h => by omega, fun h => by omega⟩
  have e2 : ((h.1 : Int) = 3) = (h.1 = 3) := propext ⟨fun h => by omega, fun h => by omega⟩
  simp only [e1, e2]
/-- kinds that may be are numbers from 1 to 3 -/
theorem okB_nat : ∀ (l : List HkI) (was : Int), okB was l = true → ∃ H : List Hk, l = H.map toI
  | [], _, _ => ⟨[], rfl⟩
  | h :: l, was, e => by
    rw [okB, Bool.and_eq_true, okAtB_iff] at e
    obtain ⟨H, rfl⟩ := okB_nat l h.1 e.2
    refine ⟨(h.1.toNat, h.2) :: H, ?_⟩
    rw [List.map_cons]
    congr 1
    have := e.1.1.1
    obtain ⟨k, L⟩ := h
    simp only [toI]
    congr 1
    dsimp only at this ⊢
    omega
theorem okB_mem : ∀ (l : List HkI) (was : Int), okB was l = true → ∀ h ∈ l, (1 ≤ h.1 ∧ h.1 ≤ 3) ∧ h.2 ≠ []
  | x :: l, was, e, h, hm => by
    rw [okB, Bool.and_eq_true, okAtB_iff] at e
    rcases List.mem_cons.1 hm with rfl | hm
    · exact ⟨e.1.1, e.1.2.1⟩
    · exact okB_mem l x.1 e.2 h hm
/-- the other way, line by line -/
def opB (k : Int) (s : List UInt8) : Op7 := if k = 1 then .same s else if k = 2 then .come s else .gone s
def opsB (l : List HkI) : List Op7 := l.flatMap fun h => h.2.map (opB h.1)
def backI (l : List HkI) : List Hk := patchOf (opsB l)
/-- the other way, hunk by hunk -/
def backGo : List HkI → List Hk → List Hk
  | [], out => out
  | h :: r, out =>
    if h.1 = 1 then backGo r (putK 1 h.2 out)
    else if h.1 = 3 then backGo r (putK 2 h.2 out)
    else match r with
      | [] => putK 3 h.2 out
      | g :: r' => if g.1 = 3 then backGo r' (putK 3 h.2 (putK 2 g.2 out)) else backGo (g :: r') (putK 3 h.2 out)
termination_by l => l.length
decreasing_by all_goals simp_wf <;> omega
theorem fold_same : ∀ (L : List (List UInt8)) (st : St7), L ≠ [] → (L.map (opB 1)).foldl stepW st = ⟨putK 3 st.come (putK 2 st.gone st.out), st.same ++ L, [], []⟩
  | [s], st, _ => by simp [opB, stepW]
  | s :: t :: L, st, _ => by
    rw [List.map_cons, List.foldl_cons, fold_same (t :: L) _ (by simp)]
    simp [opB, stepW, putK]
theorem fold_come : ∀ (L : List (List UInt8)) (st : St7), L ≠ [] → (L.map (opB 2)).foldl stepW st = ⟨putK 1 st.same st.out, [], st.gone, st.come ++ L⟩
  | [s], st, _ => by simp [opB, stepW]
  | s :: t :: L, st, _ => by
    rw [List.map_cons, List.foldl_cons, fold_come (t :: L) _ (by simp)]
    simp [opB, stepW, putK]
theorem fold_gone : ∀ (L : List (List UInt8)) (st : St7), L ≠ [] → (L.map (opB 3)).foldl stepW st = ⟨putK 1 st.same st.out, [], st.gone ++ L, st.come⟩
  | [s], st, _ => by simp [opB, stepW]
  | s :: t :: L, st, _ => by
    rw [List.map_cons, List.foldl_cons, fold_gone (t :: L) _ (by simp)]
    simp [opB, stepW, putK]
theorem opsB_cons (h : HkI) (l : List HkI) : opsB (h :: l) = h.2.map (opB h.1) ++ opsB l := by simp [opsB]
theorem back_go : ∀ (n : Nat) (l : List HkI) (was : Int) (st : St7), l.length ≤ n → okB was l = true → (was ≠ 1 → st.same = []) → (was = 0 ∨ was = 1 → st.gone = [] ∧ st.come = []) → 0 ≤ was → was ≤ 3 → (was = 2 → ∀ g r, l = g :: r → g.1 ≠ 3) → doneW ((opsB l).foldl stepW st) = backGo l (doneW st)
  | _, [], was, st, _, _, _, _, _, _, _ => by simp [opsB, backGo]
  | n + 1, h :: r, was, st, hn, hok, hs, hg, hw0, hw3, hw2 => by
    simp only [List.length_cons] at hn
    rw [okB, Bool.and_eq_true, okAtB_iff] at hok
    obtain ⟨⟨⟨k1, k3⟩, hne, hwas, hno⟩, hokr⟩ := hok
    obtain ⟨k, L⟩ := h
    dsimp only at k1 k3 hne hwas hno hokr
    rw [opsB_cons, List.foldl_append, backGo.eq_def]
    dsimp only
    by_cases e1 : k = 1
    · subst e1
      rw [if_pos rfl, fold_same L st hne]
      have hss := hs (fun e => hwas e.symm)
      have hd : putK 1 L (doneW st) = doneW ⟨putK 3 st.come (putK 2 st.gone st.out), st.same ++ L, [], []⟩ := by
        unfold doneW
        rw [hss]
        rfl
      rw [hd]
      exact back_go n r 1 _ (by omega) hokr (fun h => absurd rfl h) (fun _ => ⟨rfl, rfl⟩) (by omega) (by omega) (fun h => by omega)
    · rw [if_neg e1]
      by_cases e3 : k = 3
      · subst e3
        rw [if_pos rfl, fold_gone L st hne]
        have hw : was = 0 ∨ was = 1 := by
          by_cases e : was = 2
          · exact absurd rfl (hw2 e _ _ rfl)
          · omega
        obtain ⟨g1, g2⟩ := hg hw
        have hd : putK 2 L (doneW st) = doneW ⟨putK 1 st.same st.out, [], st.gone ++ L, st.come⟩ := by
          unfold doneW
          rw [g1, g2]
          rfl
        rw [hd]
        exact back_go n r 3 _ (by omega) hokr (fun _ => rfl) (fun h => by omega) (by omega) (by omega) (fun h => by omega)
      · rw [if_neg e3]
        obtain rfl : k = 2 := by omega
        have hw : was = 0 ∨ was = 1 := by
          by_cases e : was = 3
          · exact absurd ⟨rfl, e⟩ hno
          · omega
        obtain ⟨g1, g2⟩ := hg hw
        rw [fold_come L st hne]
        have hd : putK 3 L (doneW st) = doneW ⟨putK 1 st.same st.out, [], st.gone, st.come ++ L⟩ := by
          unfold doneW
          rw [g1, g2]
          rfl
        cases r with
        | nil => simp only [opsB, List.flatMap_nil, List.foldl_nil]; exact hd.symm
        | cons g r' =>
          dsimp only
          by_cases e : g.1 = 3
          · rw [if_pos e]
            rw [okB, Bool.and_eq_true, okAtB_iff] at hokr
            obtain ⟨⟨_, gne, _, _⟩, hokr'⟩ := hokr
            obtain ⟨kg, M⟩ := g
            dsimp only at e gne hokr' ⊢
            subst e
            rw [opsB_cons, List.foldl_append]
            dsimp only
            rw [fold_gone M _ gne]
            have hd2 : putK 3 L (putK 2 M (doneW st)) = doneW ⟨putK 1 [] (putK 1 st.same st.out), [], st.gone ++ M, st.come ++ L⟩ := by
              unfold doneW
              rw [g1, g2]
              rfl
            rw [hd2]
            simp only [List.length_cons] at hn
            exact back_go n r' 3 _ (by omega) hokr' (fun _ => rfl) (fun h => by omega) (by omega) (by omega) (fun h => by omega)
          · rw [if_neg e, hd]
            exact back_go n (g :: r') 2 _ (by omega) hokr (fun _ => rfl) (fun h => by omega) (by omega) (by omega) (fun _ g' r'' he => by cases he; exact e)
theorem back_ref {l : List HkI} (h : okB 0 l = true) : backGo l [] = backI l := by
  have := back_go l.length l 0 ⟨[], [], [], []⟩ (Nat.le_refl _) h (fun _ => rfl) (fun _ => ⟨rfl, rfl⟩) (by omega) (by omega) (fun h => by omega)
  exact this.symm
end Go.Proofs.YtnbihjocdlpplaaGreatDoor
/- Rows of texts and lists of hunks that are read: the same? -/
namespace Go.Proofs.YtnbihjocdlpplaaGreatDoor
set_option linter.unusedVariables false
set_option linter.unusedSimpArgs false
open Go.RowKit
theorem ReadsS.quiet {w w' : World} {a : Option Addr} {n : Nat} {L : List (List UInt8)} (h : ReadsS w a n L) (hq : Quiet w w') : ReadsS w' a n L := h.keep (hq.below w.heap.size) (Nat.le_refl _)
/-- the slice at a of n hunks reads as these -/
def ReadsK (w : World) (a : Option Addr) (n : Nat) (X : List HkI) : Prop :=
  X.length = n ∧ (0 < n → ∃ b off, a = some ⟨b, off, none⟩ ∧ b < w.heap.size ∧ ∀ i x, X[i]? = some x → ∃ ad c, w.cell? ⟨b, off + i * 2, none⟩ = some (.int .i64 x.1) ∧ w.cell? ⟨b, off + i * 2 + 1, none⟩ = some (.slice ad x.2.length c) ∧ ReadsS w ad x.2.length x.2 ∧ x.2.length ≤ c ∧ c ≤ maxLen)
theorem ReadsK.len {w : World} {a : Option Addr} {n : Nat} {X : List HkI} (h : ReadsK w a n X) : X.length = n := h.1
theorem ReadsK.nil (w : World) (a : Option Addr) : ReadsK w a 0 [] := ⟨rfl, fun h => absurd h (by omega)⟩
theorem ReadsK.keep {B : Nat} {w w' : World} {a : Option Addr} {n : Nat} {X : List HkI} (h : ReadsK w a n X) (hb : Below B w w') (hB : w.heap.size ≤ B) : ReadsK w' a n X := by
  obtain ⟨hl, h⟩ := h
  refine ⟨hl, fun hn => ?_⟩
  obtain ⟨b, off, ha, hlt, hc⟩ := h hn
  refine ⟨b, off, ha, Nat.lt_of_lt_of_le hlt hb.size, fun i x hx => ?_⟩
  obtain ⟨ad, c, h1, h2, h3, h4⟩ := hc i x hx
  exact ⟨ad, c, by rw [hb.cell (p := ⟨b, off + i * 2, none⟩) (Nat.lt_of_lt_of_le hlt hB)]; exact h1, by rw [hb.cell (p := ⟨b, off + i * 2 + 1, none⟩) (Nat.lt_of_lt_of_le hlt hB)]; exact h2, h3.keep hb hB, h4⟩
theorem ReadsK.quiet {w w' : World} {a : Option Addr} {n : Nat} {X : List HkI} (h : ReadsK w a n X) (hq : Quiet w w') : ReadsK w' a n X := h.keep (hq.below w.heap.size) (Nat.le_refl _)
theorem ReadsK.at {w : World} {a : Option Addr} {n : Nat} {X : List HkI} (h : ReadsK w a n X) {i : Nat} (hi : i < n) :
    ∃ b off x ad m c, a = some ⟨b, off, none⟩ ∧ b < w.heap.size ∧ X[i]? = some x ∧ w.cell? ⟨b, off + i * 2, none⟩ = some (.int .i64 x.1) ∧ w.cell? ⟨b, off + i * 2 + 1, none⟩ = some (.slice ad m c) ∧ ReadsS w ad m x.2 ∧ m ≤ c ∧ c ≤ maxLen ∧ x.2.length = m := by
  obtain ⟨hl, h⟩ := h
  obtain ⟨b, off, ha, hlt, hc⟩ := h (by omega)
  have hx : X[i]? = some X[i] := List.getElem?_eq_getElem (by omega)
  obtain ⟨ad, c, h1, h2, h3, h4, h5⟩ := hc i _ hx
  exact ⟨b, off, X[i], ad, _, c, ha, hlt, hx, h1, h2, h3, h4, h5, rfl⟩
set_option maxHeartbeats 1000000 in
theorem eqTexts (w : World) (a b : Option Addr) (n m ca cb : Nat) (A B : List (List UInt8)) (ha : ReadsS w a n A) (hb : ReadsS w b m B) (hn : n ≤ 4611686018427387904) (hm : m ≤ 4611686018427387904) :
    Calls Tryz.prog 45 #[.slice a n ca, .slice b m cb] w fun e w' => e = .returned (.bool (A == B)) ∧ Quiet w w' := by
  have hla := ha.len
  have hlb := hb.len
  by_cases hnm : n = m
  · subst hnm
    have HL := Lib.hid hla
    have HM := Lib.hid hlb
    clear hla hlb
    have hne : ((n : Int) != (n : Int)) = false := by simp
    go_enter Tryz.func45, Tryz.ntmps45
    go_wp2
    go_loopw [5] (fun i wr => ∃ k : Nat, k ≤ n ∧ i = .int .i64 k ∧ Hid (A.take k = B.take k) ∧ Quiet w wr) (fun i _ => n - (intOf i).toNat)
    case atStart => exact ⟨0, Nat.zero_le _, rfl, rfl, Quiet.refl _⟩
    case round =>
      obtain ⟨k, hk, rfl, HE, hbel⟩ := hrel
      by_cases hlt : k < n
      · obtain ⟨b1, o1, x, rfl, hb1, hx, hcx⟩ := (ha.quiet hbel).at hlt
        obtain ⟨b2, o2, y, rfl, hb2, hy, hcy⟩ := (hb.quiet hbel).at hlt
        have HX := Lib.hid hx
        have HY := Lib.hid hy
        clear hx hy
        by_cases hxy : x = y
        · subst hxy
          have hbe : (x != x) = false := by simp
          have hbf : (x == x) = true := by simp
          go_wp2
          go_quiet (fail)
          go_wp2
          go_roundw
          case rel => exact ⟨k + 1, by omega, by go_num, by
            show _ = _
            rw [take_next HX.out, take_next HY.out, HE.out], hbel.drewN _⟩
          case measure => simp [intOf]; omega
        · have hbe : (x == y) = false := by rw [beq_eq_false_iff_ne]; exact hxy
          have hbf : (x != y) = true := by rw [bne_iff_ne]; exact hxy
          go_wp2
          go_quiet (fail)
          go_wp2
          go_ret
          refine ⟨?_, hbel.drewN _⟩
          have hd : (A == B) = false := by
            rw [beq_eq_false_iff_ne]
            intro h
            subst h
            have := HX.out.symm.trans HY.out
            simp at this
            exact hxy this
          rw [hd]; rfl
      · obtain rfl : k = n := by omega
        go_wp2
        go_ret
        refine ⟨?_, hbel⟩
        have hd : (A == B) = true := by
          rw [beq_iff_eq]
          have h := HE.out
          rw [List.take_of_length_le (by rw [HL.out]; exact Nat.le_refl _), List.take_of_length_le (by rw [HM.out]; exact Nat.le_refl _)] at h
          exact h
        rw [hd]; rfl
  · have hne : ((n : Int) != (m : Int)) = true := by simp only [bne_iff_ne, ne_eq]; omega
    have HL := Lib.hid hla
    have HM := Lib.hid hlb
    clear hla hlb
    go_enter Tryz.func45, Tryz.ntmps45
    go_wp2
    go_ret
    refine ⟨?_, Quiet.refl _⟩
    have hd : (A == B) = false := by
      rw [beq_eq_false_iff_ne]
      intro h
      subst h
      exact hnm (HL.out.symm.trans HM.out)
    rw [hd]; rfl
set_option maxHeartbeats 1000000 in
theorem eqHunks (w : World) (a b : Option Addr) (n ca cb : Nat) (X : List HkI) (ha : ReadsK w a n X) (hb : ReadsK w b n X) (hn : n ≤ 4611686018427387904) (hm : ∀ x ∈ X, x.2.length ≤ 4611686018427387904) :
    Calls Tryz.prog 13 #[.slice a n ca, .slice b n cb] w fun e w' => e = .returned (.bool true) ∧ Quiet w w' := by
  have HM := Lib.hid hm
  have HA := Lib.hid ha
  have HB := Lib.hid hb
  clear hm ha hb
  have hne : ((n : Int) != (n : Int)) = false := by simp
  go_enter Tryz.func13, Tryz.ntmps13
  go_wp2
  go_loopw [5] (fun i wr => ∃ k : Nat, k ≤ n ∧ i = .int .i64 k ∧ Quiet w wr) (fun i _ => n - (intOf i).toNat)
  case atStart => exact ⟨0, Nat.zero_le _, rfl, Quiet.refl _⟩
  case round =>
    obtain ⟨k, hk, rfl, hq⟩ := hrel
    by_cases hlt : k < n
    · obtain ⟨b1, o1, x, a1, m1, c1, rfl, hb1, hx, hk1, hl1, hr1, _, _, hm1⟩ := (HA.out.quiet hq).at hlt
      obtain ⟨b2, o2, y, a2, m2, c2, rfl, hb2, hy, hk2, hl2, hr2, _, _, hm2⟩ := (HB.out.quiet hq).at hlt
      obtain rfl : x = y := by rw [hx] at hy; exact Option.some.inj hy
      have hl := HM.out x (List.mem_of_getElem? hx)
      subst hm1
      obtain ⟨n1, hn1⟩ : ∃ n1, n1 = x.2.length := ⟨_, rfl⟩
      rw [← hn1] at hm2
      subst hm2
      rw [← hn1] at hl1 hr1 hl
      obtain ⟨kd, hkd⟩ : ∃ kd, kd = x.1 := ⟨_, rfl⟩
      rw [← hkd] at hk1 hk2
      have hcall : ∀ m, Calls Tryz.prog 45 #[.slice a1 n1 c1, .slice a2 n1 c2] (wr.drewN m) fun e w' => e = .returned (.bool true) ∧ ∃ m', w' = (wr.drewN m).drewN m' := by
        intro m
        have h := eqTexts (wr.drewN m) a1 a2 n1 n1 c1 c2 x.2 x.2 (hr1.quiet ⟨m, rfl⟩) (hr2.quiet ⟨m, rfl⟩) hl hl
        rw [show (x.2 == x.2) = true from by simp] at h
        exact h
      have HC := Lib.hid hcall
      have hbe : (kd != kd) = false := by simp
      clear hcall hx hy hr1 hr2 hn1 hkd hl
      go_wp2
      go_quiet ((go_at_call 45; exact Calls.quiet_of (HC.out _)))
      go_wp2
      go_roundw
      case rel => exact ⟨k + 1, by omega, by go_num, hq.drewN _⟩
      case measure => simp [intOf] <;> omega
    · obtain rfl : k = n := by omega
      go_wp2
      go_ret
      exact ⟨rfl, hq⟩
end Go.Proofs.YtnbihjocdlpplaaGreatDoor
/- Rows of bytes of the call's own: append of a text, of a byte; as a text. -/
namespace Go.Proofs.YtnbihjocdlpplaaGreatDoor
set_option linter.unusedVariables false
set_option linter.unusedSimpArgs false
open Go.RowKit
open Go.Lib
def OwnB (B : Nat) (v : Value) (acc : List UInt8) (w : World) : Prop := w.ownsRow B 5 1 v acc.length (acc.map B8)
theorem strCells_B8 (s : List UInt8) : Lib.strCells (bstr s) = s.map B8 := rfl
theorem OwnB.drewN {B : Nat} {v : Value} {acc : List UInt8} {w : World} (h : OwnB B v acc w) (n : Nat) : OwnB B v acc (w.drewN n) := h
theorem OwnB.below {B : Nat} {v : Value} {acc : List UInt8} {w w' : World} (h : OwnB B v acc w) (b : Below w.heap.size w w') : OwnB B v acc w' := by
  refine ⟨h.1, ?_⟩
  rcases h.2 with hn | ⟨g, cap, cur, rfl, hb, hgg, rest⟩
  · exact .inl hn
  · exact .inr ⟨g, cap, cur, rfl, hb, (b.block g (Array.getElem?_eq_some_iff.1 hgg).1).trans hgg, rest⟩
section
variable {ops : Array Oper} {rest : List Oper} {o : Oper} {a : Act} {w : World} {Q : Exit → Act → World → Prop}
/-- append of a text to a row of one's own -/
theorem appStr (hgd : o.guard = none) (sl x : Operand) (ho : o.op = .call { callee := .builtin .append, args := #[sl, x], argTypes := #[85, 9] })
    (B : Nat) (w0 : World) (v : Value) (acc s : List UInt8) (hs : a.eval sl = v) (hown : OwnB B v acc w) (hx : a.eval x = .string (bstr s)) (hl : acc.length ≤ 1099511627776) (hl2 : s.length ≤ 1099511627776) (hb : Below B w0 w) (hB : B ≤ w.heap.size)
    (h : ∀ v' w', OwnB B v' (acc ++ s) w' → Below B w0 w' → B ≤ w'.heap.size → wpList Tryz.prog ops Q rest (a.put o.dst v') w') : wpList Tryz.prog ops Q (o :: rest) a w := by
  obtain ⟨i0, hi, hz0, hz1, hz2⟩ := info_parts Tryz.infoU8
  refine Lib.wpList_append_own_string _ hgd sl x 85 9 ho B 5 i0 Tryz.underlying85 Tryz.underlying9 hi hz0 hz1 hz2 v acc.length _ hs hown (bstr s) hx (by rw [bstr_size]; unfold maxLen; omega) (by rw [bstr_size]; omega) hB ?_
  intro v' w' h1 h2 _
  have hbb : Below B w0 w' := hb.grown h2 hB (fun k hk => (World.ownsRow.lt hown k hk).1)
  refine h v' w' ?_ hbb (Nat.le_trans hB h2.size)
  unfold OwnB
  rw [List.length_append, List.map_append]
  rw [bstr_size, strCells_B8] at h1
  exact h1
/-- the same as one step of a region that draws its order -/
theorem stepAppStr {K : Act → World → Prop} {E : Prop} (hgd : o.guard = none) (sl x : Operand) (ho : o.op = .call { callee := .builtin .append, args := #[sl, x], argTypes := #[85, 9] })
    (B : Nat) (w0 : World) (v : Value) (acc s : List UInt8) (hs : a.eval sl = v) (hown : OwnB B v acc w) (hx : a.eval x = .string (bstr s)) (hl : acc.length ≤ 1099511627776) (hl2 : s.length ≤ 1099511627776) (hb : Below B w0 w) (hB : B ≤ w.heap.size)
    (h : ∀ v' w', OwnB B v' (acc ++ s) w' → Below B w0 w' → B ≤ w'.heap.size → K (a.put o.dst v') w') : if Region.wanted o (yielded ops a.tmps) = true then Oper.wp Tryz.prog o a w K Q else E := by
  obtain ⟨i0, hi, hz0, hz1, hz2⟩ := info_parts Tryz.infoU8
  have hw : Region.wanted o (yielded ops a.tmps) = true := by simp [Region.wanted, hgd]
  rw [if_pos hw]
  obtain ⟨v', w', hr, h1, h2, _⟩ := Lib.run_append_own_string (P := Tryz.prog) w B 85 9 o.type 5 i0 Tryz.underlying85 Tryz.underlying9 hi hz0 hz1 hz2 v acc.length _ hown (bstr s) (by rw [bstr_size]; unfold maxLen; omega) (by rw [bstr_size]; omega) hB
  have hbb : Below B w0 w' := hb.grown h2 hB (fun k hk => (World.ownsRow.lt hown k hk).1)
  unfold Oper.wp
  simp [execOp, ho, resolve, invoke, builtin, hs, hx, hr, Result.andThen]
  refine h _ _ ?_ hbb (Nat.le_trans hB h2.size)
  unfold OwnB
  rw [List.length_append, List.map_append]
  rw [bstr_size, strCells_B8] at h1
  exact h1
/-- append of one byte -/
theorem appOne (hgd : o.guard = none) (sl x : Operand) (ho : o.op = .call { callee := .builtin .append, args := #[sl, x], argTypes := #[85, 85] })
    (B : Nat) (w0 wp : World) (v : Value) (acc : List UInt8) (c : UInt8) (hs : a.eval sl = v) (hown : OwnB B v acc wp) (hx : a.eval x = .slice (some ⟨wp.heap.size, 0, none⟩) 1 1) (hw : w = wp.alloc (.cells #[B8 c] 5)) (hl : acc.length ≤ 1099511627776) (hb : Below B w0 wp) (hB : B ≤ wp.heap.size)
    (h : ∀ v' w', OwnB B v' (acc ++ [c]) w' → Below B w0 w' → B ≤ w'.heap.size → wpList Tryz.prog ops Q rest (a.put o.dst v') w') : wpList Tryz.prog ops Q (o :: rest) a w := by
  subst hw
  obtain ⟨i0, hi, hz0, hz1, hz2⟩ := info_parts Tryz.infoU8
  have hB' : B ≤ (wp.alloc (.cells #[B8 c] 5)).heap.size := by simp; omega
  refine wpList_append_own _ hgd sl x 85 ho B 5 i0 (.int .u8 0) 1 1 Tryz.underlying85 hi hz0 hz1 hz2 rfl (by decide) v acc.length _ hs (World.ownsRow.alloc hown _) ⟨wp.heap.size, 0, none⟩ 1 1 [B8 c] hx rfl (cell_one_new _ _ _) (by simp [Value.oneCell']) (by unfold maxLen; omega) (by omega) hB' ?_
  intro v' w' h1 h2 _
  have hbb : Below B w0 w' := below_append hb hB hown h2
  refine h v' w' ?_ hbb (Nat.le_trans hB' h2.size)
  unfold OwnB
  rw [List.length_append, List.map_append]
  exact h1
end
theorem conv_own {B : Nat} {v : Value} {acc : List UInt8} {w : World} (h : OwnB B v acc w) : (convert 85 9 v).run Tryz.prog w = .ok (.string (bstr acc)) w := by
  obtain ⟨a, c, rfl, hr, _, _⟩ := reads_of_own h
  exact run_bytes_str _ _ _ 5 Tryz.underlying85 Tryz.underlying5 Tryz.underlying9 _ _ _ acc hr
end Go.Proofs.YtnbihjocdlpplaaGreatDoor
/- Join and Equal of the library on rows of texts; the sides of a patch, by both; put together. -/
namespace Go.Proofs.YtnbihjocdlpplaaGreatDoor
set_option linter.unusedVariables false
set_option linter.unusedSimpArgs false
open Go.RowKit
open Go.Lib
theorem map_bstr_inj : ∀ {A B : List (List UInt8)}, A.map bstr = B.map bstr → A = B
  | [], [], _ => rfl
  | [], _ :: _, h => by cases h
  | _ :: _, [], h => by cases h
  | x :: A, y :: B, h => by
    rw [List.map_cons, List.map_cons, List.cons.injEq] at h
    rw [bstr_inj h.1, map_bstr_inj h.2]
theorem joinTail_flat (r : List (List UInt8)) : Lib.joinTail [] r = r.flatten := by
  unfold Lib.joinTail
  congr 1
  simp
theorem join_flat (L : List (List UInt8)) : Lib.join L [] = L.flatten := by
  cases L with
  | nil => rfl
  | cons x r => rw [Lib.join_cons, joinTail_flat, List.flatten_cons]
theorem joinC (w : World) (a : Option Addr) (n c : Nat) (L : List (List UInt8)) (h : ReadsS w a n L) (hc : n ≤ c) (hn : n ≤ 140737488355328) (hl : L.flatten.length ≤ 140737488355328) :
    Calls Tryz.prog 49 #[.slice a n c, .string (bstr [])] w fun e w' => e = .returned (.string (bstr L.flatten)) ∧ Below w.heap.size w w' := by
  by_cases h0 : n = 0
  · subst h0
    have hL : L = [] := List.eq_nil_of_length_eq_zero h.len
    subst hL
    refine (Tryz.strings_Join_none a c (bstr []) w).mono ?_
    rintro e w' ⟨rfl, rfl⟩
    exact ⟨rfl, Below.refl _ _⟩
  · obtain ⟨b, off, y, ha, hb, _, _⟩ := ReadsS.at h (k := 0) (by omega)
    subst ha
    have hlen := h.len
    have hn2 : (L.map bstr).length = n := by rw [List.length_map, hlen]
    have hm : ((L.map bstr).map (·.data.toList)) = L := by
      rw [List.map_map]
      conv => rhs; rw [← List.map_id L]
      exact List.map_congr_left fun x _ => bstr_list x
    have hcall := Tryz.strings_Join b off c (L.map bstr) (bstr []) w (fun j x hj => ?_) hb (by rw [hn2]; exact hn) (by rw [hn2]; exact hc) (by rw [hm, bstr_list, join_flat]; exact hl)
    · rw [hn2] at hcall
      refine hcall.mono ?_
      rintro e w' ⟨rfl, hb'⟩
      refine ⟨?_, hb'⟩
      rw [hm, bstr_list, join_flat]
      rfl
    · rw [List.getElem?_map] at hj
      have hjn : j < n := by
        cases hq : L[j]? with
        | none => rw [hq] at hj; cases hj
        | some z => rw [← hlen]; exact (List.getElem?_eq_some_iff.1 hq).1
      obtain ⟨b2, o2, z, ha2, _, hz, hcz⟩ := ReadsS.at h hjn
      cases ha2
      rw [hz] at hj
      cases hj
      exact hcz
theorem equalC (w : World) (a1 a2 : Option Addr) (n m c d : Nat) (A B : List (List UInt8)) (h1 : ReadsS w a1 n A) (h2 : ReadsS w a2 m B) (hn : n ≤ 9223372036854775807) (hm : m ≤ 9223372036854775807) :
    Calls Tryz.prog 78 #[.slice a1 n c, .slice a2 m d] w fun e w' => e = .returned (.bool (A == B)) ∧ ∃ q, w' = w.drewN q := by
  have hA := h1.len
  have hB := h2.len
  by_cases hnm : n = m
  · subst hnm
    by_cases h0 : n = 0
    · subst h0
      obtain rfl : A = [] := List.eq_nil_of_length_eq_zero hA
      obtain rfl : B = [] := List.eq_nil_of_length_eq_zero hB
      refine (Tryz.slices_Equal_string_empty a1 a2 c 0 d w hm).mono ?_
      rintro e w' ⟨rfl, rfl⟩
      exact ⟨rfl, 0, rfl⟩
    · obtain ⟨b1, o1, y1, e1, _, _, _⟩ := ReadsS.at h1 (k := 0) (by omega)
      obtain ⟨b2, o2, y2, e2, _, _, _⟩ := ReadsS.at h2 (k := 0) (by omega)
      subst e1 e2
      have hcell : ∀ {b o : Nat} {L : List (List UInt8)}, ReadsS w (some ⟨b, o, none⟩) n L → ∀ j, j < (L.map bstr).length → w.cell? ⟨b, o + j, none⟩ = some (.string ((L.map bstr).getD j ByteArray.empty)) := fun {b o L} h j hj => by
        have hjn : j < n := by rw [List.length_map, h.len] at hj; exact hj
        obtain ⟨b2, o2, z, ha2, _, hz, hcz⟩ := ReadsS.at h hjn
        cases ha2
        rw [hcz]
        simp [List.getD, hz]
      refine (Tryz.slices_Equal_string b1 o1 n c b2 o2 n d (A.map bstr) (B.map bstr) w (by simp; omega) (by simp; omega) hn hm (hcell h1) (hcell h2)).mono ?_
      rintro e w' ⟨rfl, hq⟩
      refine ⟨?_, hq⟩
      congr 2
      rw [List.take_of_length_le (by simp; omega), List.take_of_length_le (by simp; omega)]
      by_cases hab : A = B
      · subst hab; simp
      · rw [decide_eq_false (fun e => hab ?_), (beq_eq_false_iff_ne.2 hab)]
        exact map_bstr_inj e
  · refine (Tryz.slices_Equal_string_lens a1 a2 n c m d w hnm).mono ?_
    rintro e w' ⟨rfl, rfl⟩
    refine ⟨?_, 0, rfl⟩
    have : (A == B) = false := by
      rw [beq_eq_false_iff_ne]
      rintro rfl
      exact hnm (hA.symm.trans hB)
    rw [this]
theorem flat_le2 {s : List UInt8} : ∀ {L : List (List UInt8)}, s ∈ L → s.length ≤ L.flatten.length
  | x :: L, h => by
    rw [List.flatten_cons, List.length_append]
    rcases List.mem_cons.1 h with rfl | h
    · omega
    · have := flat_le2 h; omega
def linesK (X : List HkI) : Nat := (X.map fun h => h.2.length).sum
def bytesK (X : List HkI) : Nat := (X.map fun h => h.2.flatten.length).sum
theorem linesK_app (a b : List HkI) : linesK (a ++ b) = linesK a + linesK b := by unfold linesK; simp
theorem bytesK_app (a b : List HkI) : bytesK (a ++ b) = bytesK a + bytesK b := by unfold bytesK; simp
theorem linesK_take (X : List HkI) (i : Nat) : linesK (X.take i) ≤ linesK X := by
  have := linesK_app (X.take i) (X.drop i)
  rw [List.take_append_drop] at this
  omega
theorem linesK_mem {X : List HkI} {x : HkI} (h : x ∈ X) : x.2.length ≤ linesK X := by
  obtain ⟨a, b, rfl⟩ := List.append_of_mem h
  rw [linesK_app]
  have : linesK (x :: b) = x.2.length + linesK b := by simp [linesK]
  omega
theorem bytesK_mem {X : List HkI} {x : HkI} (h : x ∈ X) : x.2.flatten.length ≤ bytesK X := by
  obtain ⟨a, b, rfl⟩ := List.append_of_mem h
  rw [bytesK_app]
  have : bytesK (x :: b) = x.2.flatten.length + bytesK b := by simp [bytesK]
  omega
theorem sideI_len (k : Int) (X : List HkI) : (sideI k X).length ≤ linesK X := by
  induction X with
  | nil => exact Nat.le_refl _
  | cons x X ih =>
    unfold sideI linesK at *
    rw [List.flatMap_cons, List.length_append, List.map_cons, List.sum_cons]
    have h2 : (if x.1 = 1 ∨ x.1 = k then x.2 else []).length ≤ x.2.length := by split <;> simp
    omega
theorem sideI_bytes (k : Int) (X : List HkI) : (sideI k X).flatten.length ≤ bytesK X := by
  induction X with
  | nil => exact Nat.le_refl _
  | cons x X ih =>
    unfold sideI bytesK at *
    rw [List.flatMap_cons, List.flatten_append, List.length_append, List.map_cons, List.sum_cons]
    have h2 : (if x.1 = 1 ∨ x.1 = k then x.2 else []).flatten.length ≤ x.2.flatten.length := by
      split
      · exact Nat.le_refl _
      · exact Nat.zero_le _
    omega
theorem sideI_next {k : Int} {X : List HkI} {i : Nat} {x : HkI} (h : X[i]? = some x) : sideI k (X.take (i + 1)) = sideI k (X.take i) ++ (if x.1 = 1 ∨ x.1 = k then x.2 else []) := by
  rw [take_next h, sideI_app]
  simp [sideI]
theorem ReadsS.srcs {w : World} {a : Option Addr} {n : Nat} {L : List (List UInt8)} (h : ReadsS w a n L) : 0 < n → ∃ b off, a = some ⟨b, off, none⟩ ∧ ∀ j u, (L.map S1)[j]? = some u → w.cell? ⟨b, off + j, none⟩ = some u := fun hn => by
  obtain ⟨hl, h⟩ := h
  obtain ⟨b, o, rfl, _, hc⟩ := h hn
  exact ⟨b, o, rfl, fun j v hv => by rw [hc j (by rw [← hl]; exact (List.getElem?_eq_some_iff.1 hv).1), hv]⟩
theorem S1_one (L : List (List UInt8)) : ∀ u ∈ L.map S1, u.oneCell' = true := by
  intro u hu
  obtain ⟨x, _, rfl⟩ := List.mem_map.1 hu
  rfl
theorem StrOwn.apps {B : Nat} {v : Value} {L M : List (List UInt8)} {n : Nat} {w : World} (hn : n = M.length) (h : w.ownsRow B 9 1 v (L.length + n) (L.map S1 ++ M.map S1)) : StrOwn B v (L ++ M) w := by
  unfold StrOwn
  rw [List.length_append, List.map_append, ← hn]
  exact h
set_option maxHeartbeats 4000000 in
set_option maxRecDepth 100000 in
theorem sideC (w : World) (a : Option Addr) (n c : Nat) (X : List HkI) (k : Int) (hX : ReadsK w a n X) (hn : n ≤ 1073741824) (hl : linesK X ≤ 1073741824) :
    Calls Tryz.prog 50 #[.slice a n c, .int .i64 k] w fun e w' => ∃ v, e = .returned v ∧ StrOwn w.heap.size v (sideI k X) w' ∧ Below w.heap.size w w' := by
  have HX := Lib.hid hX
  have HL := Lib.hid hl
  have HN := Lib.hid hX.len
  have H0 : Hid (StrOwn w.heap.size (.slice none 0 0) [] w) := Lib.hid (World.ownsRow_nil _ _ _ _)
  clear hX hl
  go_enter Tryz.func50, Tryz.ntmps50
  go_wp2
  go_loopw [5, 10] (fun vv ui wr => ∃ i : Nat, ui = .int .i64 (i : Int) ∧ i ≤ n ∧ Hid (StrOwn w.heap.size vv (sideI k (X.take i)) wr ∧ Below w.heap.size w wr)) (fun _ ui _ => n - (RowKit.intOf ui).toNat)
  case atStart => exact ⟨0, rfl, Nat.zero_le _, Lib.hid ⟨H0.out, Below.refl _ _⟩⟩
  case round =>
    obtain ⟨i, rfl, hi, HR⟩ := hrel
    obtain ⟨vv, rfl⟩ : ∃ v : Value, v = u5 := ⟨_, rfl⟩
    by_cases hlt : i < n
    · obtain ⟨b, off, x, ad, m, cm, rfl, hb, hx, hc0, hc1, hrs, hmc, hcm, hm⟩ := (HX.out.keep HR.out.2 (Nat.le_refl _)).at hlt
      have hlx : linesK (X.take (i + 1)) ≤ 1073741824 := Nat.le_trans (linesK_take _ _) HL.out
      have hs1 : (sideI k (X.take i)).length + m ≤ 1073741824 := by
        rw [take_next hx, linesK_app] at hlx
        have h1 := sideI_len k (X.take i)
        have h2 : linesK [x] = m := by simp [linesK, hm]
        omega
      have HNX := Lib.hid (sideI_next (k := k) hx)
      obtain ⟨kd, hkd⟩ : ∃ kd, kd = x.1 := ⟨_, rfl⟩
      rw [← hkd] at hc0 HNX
      have HRS := Lib.hid hrs
      have HM := Lib.hid hm
      have hwb := HR.out.2.size
      have hit : (i : Int) < (n : Int) := by omega
      clear hx hrs hm hlx
      by_cases h1 : kd = 1 ∨ kd = k
      · rw [if_pos h1] at HNX
        have hbe : (kd == 1) = true ∨ ((kd == 1) = false ∧ (kd == k) = true) := by
          by_cases e : kd = 1
          · exact .inl (by rw [e]; rfl)
          · exact .inr ⟨by rw [beq_eq_false_iff_ne]; exact e, by rw [beq_iff_eq]; exact h1.resolve_left e⟩
        clear h1 hkd
        rcases hbe with q1 | ⟨q1, q2⟩
        all_goals
          go_wp2_with (at_builtin; refine appSlice rfl _ _ rfl Tryz.underlying22 (.string ByteArray.empty) 1 16 infoStr rfl (by decide) (by decide) w.heap.size vv (sideI k (X.take i)).length ((sideI k (X.take i)).map S1) rfl (World.ownsRow.alloc HR.out.1 _) ad m cm (x.2.map S1) rfl (by rw [List.length_map, HM.out, Nat.mul_one]) (HRS.out.keep (((Below.refl _ wr).alloc (Nat.le_refl _) _)) (Nat.le_refl _)).srcs (S1_one _) (by omega) (by simp; omega) ?_; intro v8 w8 hO8 hg8)
          have HO8 : Hid (StrOwn w.heap.size v8 (sideI k (X.take (i + 1))) w8 ∧ Below w.heap.size w w8) := by
            refine Lib.hid ⟨by rw [HNX.out]; exact StrOwn.apps HM.out.symm hO8, ?_⟩
            exact (HR.out.2.alloc hwb _).grown hg8 (by simp; omega) (fun k hk => (World.ownsRow.lt HR.out.1 k hk).1)
          clear hO8 hg8
          go_roundw
          case rel => exact ⟨i + 1, by go_num, hlt, HO8⟩
          case measure => simp [RowKit.intOf]; omega
      · rw [if_neg h1, List.append_nil] at HNX
        have q1 : (kd == 1) = false := by rw [beq_eq_false_iff_ne]; exact fun e => h1 (.inl e)
        have q2 : (kd == k) = false := by rw [beq_eq_false_iff_ne]; exact fun e => h1 (.inr e)
        have hq1 : kd ≠ 1 := fun e => h1 (.inl e)
        have hq2 : kd ≠ k := fun e => h1 (.inr e)
        clear h1 hkd
        go_wp2
        go_roundw
        case rel => exact ⟨i + 1, by go_num, hlt, Lib.hid ⟨by rw [HNX.out]; exact World.ownsRow.alloc HR.out.1 _, HR.out.2.alloc hwb _⟩⟩
        case measure => simp [RowKit.intOf]; omega
    · obtain rfl : i = n := by omega
      have hd : X.take i = X := List.take_of_length_le (by rw [HN.out]; exact Nat.le_refl _)
      have HD := Lib.hid hd
      clear hd
      go_wp2
      go_ret
      have h9 := HR.out.1
      rw [HD.out] at h9
      exact ⟨_, rfl, h9, HR.out.2⟩
end Go.Proofs.YtnbihjocdlpplaaGreatDoor
