/- The plain law of patches of any kinds: the sides, may it be, the other way. -/
import Derived.Test.YtnbihjocdlpplaaDoorDiffR
namespace Go.Proofs.YtnbihjocdlpplaaDoor
set_option linter.unusedVariables false
set_option linter.unusedSimpArgs false
abbrev HkI := Int × List (List UInt8)
def toI (h : Hk) : HkI := ((h.1 : Int), h.2)
def sideI (k : Int) (l : List HkI) : List (List UInt8) := l.flatMap fun h => if h.1 = 1 ∨ h.1 = k then h.2 else []
theorem sideI_to (k : Nat) (l : List Hk) : sideI (k : Int) (l.map toI) = sideL k l := by
  induction l with
  | nil => rfl
  | cons h l ih =>
    unfold sideI sideL at ih ⊢
    rw [List.map_cons, List.flatMap_cons, List.flatMap_cons, ih]
    congr 1
    have e1 : ((toI h).1 = 1) = (h.1 = 1) := by simp only [toI]; exact propext ⟨fun h => by omega, fun h => by omega⟩
    have e2 : ((toI h).1 = (k : Int)) = (h.1 = k) := by simp only [toI]; exact propext ⟨fun h => by omega, fun h => by omega⟩
    simp only [e1, e2]
    rfl
theorem sideI_app (k : Int) (a b : List HkI) : sideI k (a ++ b) = sideI k a ++ sideI k b := by unfold sideI; simp
def okAtB (was : Int) (h : HkI) : Bool := decide (1 ≤ h.1) && decide (h.1 ≤ 3) && !h.2.isEmpty && !(h.1 == was) && !(h.1 == 2 && was == 3)
def okB : Int → List HkI → Bool
  | _, [] => true
  | was, h :: l => okAtB was h && okB h.1 l
def wholeB (L : List (List UInt8)) : Bool := decide (L.length ≤ 512) && (splitD L.flatten == L)
def checkB (l : List HkI) : Bool := okB 0 l && wholeB (sideI 2 l) && wholeB (sideI 3 l)
def errP (b : Bool) : Int := if b then 0 else 310
def fitsB (s : List UInt8) (l : List HkI) : Bool := checkB l && ((sideI 2 l).flatten == s)
def distI (l : List HkI) : Nat := (l.map fun h => if h.1 = 2 ∨ h.1 = 3 then h.2.length else 0).sum
theorem okAtB_iff {was : Int} {h : HkI} : okAtB was h = true ↔ (1 ≤ h.1 ∧ h.1 ≤ 3) ∧ h.2 ≠ [] ∧ h.1 ≠ was ∧ ¬ (h.1 = 2 ∧ was = 3) := by
  unfold okAtB
  simp only [Bool.and_eq_true, decide_eq_true_eq, Bool.not_eq_true', List.isEmpty_eq_false_iff, beq_eq_false_iff_ne, Bool.and_eq_false_iff, ne_eq]
  constructor
  · rintro ⟨⟨⟨⟨h1, h2⟩, h3⟩, h4⟩, h5⟩
    exact ⟨⟨h1, h2⟩, h3, h4, fun ⟨a, b⟩ => h5.elim (fun h => h a) (fun h => h b)⟩
  · rintro ⟨⟨h1, h2⟩, h3, h4, h5⟩
    refine ⟨⟨⟨⟨h1, h2⟩, h3⟩, h4⟩, ?_⟩
    by_cases e : h.1 = 2
    · exact .inr fun e2 => h5 ⟨e, e2⟩
    · exact .inl e
theorem okB_to (l : List Hk) : ∀ was : Nat, okB (was : Int) (l.map toI) = true ↔ okKinds was l := by
  induction l with
  | nil => intro was; simp [okB, okKinds]
  | cons h l ih =>
    intro was
    rw [List.map_cons, okB, Bool.and_eq_true, okAtB_iff, okKinds]
    have := ih h.1
    rw [show (toI h).1 = ((h.1 : Nat) : Int) from rfl, this]
    unfold okAt
    rw [show (toI h).2 = h.2 from rfl]
    constructor
    · rintro ⟨⟨⟨a, b⟩, c, d, e⟩, f⟩
      exact ⟨⟨⟨by omega, by omega⟩, c, by omega, by omega⟩, f⟩
    · rintro ⟨⟨⟨a, b⟩, c, d, e⟩, f⟩
      exact ⟨⟨⟨by omega, by omega⟩, c, by omega, by omega⟩, f⟩
theorem distI_to (l : List Hk) : distI (l.map toI) = distH l := by
  unfold distI distH
  rw [List.map_map]
  congr 1
  refine List.map_congr_left fun h _ => ?_
  simp only [Function.comp, toI]
  have e1 : ((h.1 : Int) = 2) = (h.1 = 2) := propext ⟨fun h => by omega, fun h => by omega⟩
  have e2 : ((h.1 : Int) = 3) = (h.1 = 3) := propext ⟨fun h => by omega, fun h => by omega⟩
  simp only [e1, e2]
/-- kinds that may be are numbers from 1 to 3 -/
theorem okB_nat : ∀ (l : List HkI) (was : Int), okB was l = true → ∃ H : List Hk, l = H.map toI
  | [], _, _ => ⟨[], rfl⟩
  | h :: l, was, e => by
    rw [okB, Bool.and_eq_true, okAtB_iff] at e
    obtain ⟨H, rfl⟩ := okB_nat l h.1 e.2
    refine ⟨(h.1.toNat, h.2) :: H, ?_⟩
    rw [List.map_cons]
    congr 1
    have := e.1.1.1
    obtain ⟨k, L⟩ := h
    simp only [toI]
    congr 1
    dsimp only at this ⊢
    omega
theorem okB_mem : ∀ (l : List HkI) (was : Int), okB was l = true → ∀ h ∈ l, (1 ≤ h.1 ∧ h.1 ≤ 3) ∧ h.2 ≠ []
  | x :: l, was, e, h, hm => by
    rw [okB, Bool.and_eq_true, okAtB_iff] at e
    rcases List.mem_cons.1 hm with rfl | hm
    · exact ⟨e.1.1, e.1.2.1⟩
    · exact okB_mem l x.1 e.2 h hm
/-- the other way, line by line -/
def opB (k : Int) (s : List UInt8) : Op7 := if k = 1 then .same s else if k = 2 then .come s else .gone s
def opsB (l : List HkI) : List Op7 := l.flatMap fun h => h.2.map (opB h.1)
def backI (l : List HkI) : List Hk := patchOf (opsB l)
/-- the other way, hunk by hunk -/
def backGo : List HkI → List Hk → List Hk
  | [], out => out
  | h :: r, out =>
    if h.1 = 1 then backGo r (putK 1 h.2 out)
    else if h.1 = 3 then backGo r (putK 2 h.2 out)
    else match r with
      | [] => putK 3 h.2 out
      | g :: r' => if g.1 = 3 then backGo r' (putK 3 h.2 (putK 2 g.2 out)) else backGo (g :: r') (putK 3 h.2 out)
termination_by l => l.length
decreasing_by all_goals simp_wf <;> omega
theorem fold_same : ∀ (L : List (List UInt8)) (st : St7), L ≠ [] → (L.map (opB 1)).foldl stepW st = ⟨putK 3 st.come (putK 2 st.gone st.out), st.same ++ L, [], []⟩
  | [s], st, _ => by simp [opB, stepW]
  | s :: t :: L, st, _ => by
    rw [List.map_cons, List.foldl_cons, fold_same (t :: L) _ (by simp)]
    simp [opB, stepW, putK]
theorem fold_come : ∀ (L : List (List UInt8)) (st : St7), L ≠ [] → (L.map (opB 2)).foldl stepW st = ⟨putK 1 st.same st.out, [], st.gone, st.come ++ L⟩
  | [s], st, _ => by simp [opB, stepW]
  | s :: t :: L, st, _ => by
    rw [List.map_cons, List.foldl_cons, fold_come (t :: L) _ (by simp)]
    simp [opB, stepW, putK]
theorem fold_gone : ∀ (L : List (List UInt8)) (st : St7), L ≠ [] → (L.map (opB 3)).foldl stepW st = ⟨putK 1 st.same st.out, [], st.gone ++ L, st.come⟩
  | [s], st, _ => by simp [opB, stepW]
  | s :: t :: L, st, _ => by
    rw [List.map_cons, List.foldl_cons, fold_gone (t :: L) _ (by simp)]
    simp [opB, stepW, putK]
theorem opsB_cons (h : HkI) (l : List HkI) : opsB (h :: l) = h.2.map (opB h.1) ++ opsB l := by simp [opsB]
theorem back_go : ∀ (n : Nat) (l : List HkI) (was : Int) (st : St7), l.length ≤ n → okB was l = true → (was ≠ 1 → st.same = []) → (was = 0 ∨ was = 1 → st.gone = [] ∧ st.come = []) → 0 ≤ was → was ≤ 3 → (was = 2 → ∀ g r, l = g :: r → g.1 ≠ 3) → doneW ((opsB l).foldl stepW st) = backGo l (doneW st)
  | _, [], was, st, _, _, _, _, _, _, _ => by simp [opsB, backGo]
  | n + 1, h :: r, was, st, hn, hok, hs, hg, hw0, hw3, hw2 => by
    simp only [List.length_cons] at hn
    rw [okB, Bool.and_eq_true, okAtB_iff] at hok
    obtain ⟨⟨⟨k1, k3⟩, hne, hwas, hno⟩, hokr⟩ := hok
    obtain ⟨k, L⟩ := h
    dsimp only at k1 k3 hne hwas hno hokr
    rw [opsB_cons, List.foldl_append, backGo.eq_def]
    dsimp only
    by_cases e1 : k = 1
    · subst e1
      rw [if_pos rfl, fold_same L st hne]
      have hss := hs (fun e => hwas e.symm)
      have hd : putK 1 L (doneW st) = doneW ⟨putK 3 st.come (putK 2 st.gone st.out), st.same ++ L, [], []⟩ := by
        unfold doneW
        rw [hss]
        rfl
      rw [hd]
      exact back_go n r 1 _ (by omega) hokr (fun h => absurd rfl h) (fun _ => ⟨rfl, rfl⟩) (by omega) (by omega) (fun h => by omega)
    · rw [if_neg e1]
      by_cases e3 : k = 3
      · subst e3
        rw [if_pos rfl, fold_gone L st hne]
        have hw : was = 0 ∨ was = 1 := by
          by_cases e : was = 2
          · exact absurd rfl (hw2 e _ _ rfl)
          · omega
        obtain ⟨g1, g2⟩ := hg hw
        have hd : putK 2 L (doneW st) = doneW ⟨putK 1 st.same st.out, [], st.gone ++ L, st.come⟩ := by
          unfold doneW
          rw [g1, g2]
          rfl
        rw [hd]
        exact back_go n r 3 _ (by omega) hokr (fun _ => rfl) (fun h => by omega) (by omega) (by omega) (fun h => by omega)
      · rw [if_neg e3]
        obtain rfl : k = 2 := by omega
        have hw : was = 0 ∨ was = 1 := by
          by_cases e : was = 3
          · exact absurd ⟨rfl, e⟩ hno
          · omega
        obtain ⟨g1, g2⟩ := hg hw
        rw [fold_come L st hne]
        have hd : putK 3 L (doneW st) = doneW ⟨putK 1 st.same st.out, [], st.gone, st.come ++ L⟩ := by
          unfold doneW
          rw [g1, g2]
          rfl
        cases r with
        | nil => simp only [opsB, List.flatMap_nil, List.foldl_nil]; exact hd.symm
        | cons g r' =>
          dsimp only
          by_cases e : g.1 = 3
          · rw [if_pos e]
            rw [okB, Bool.and_eq_true, okAtB_iff] at hokr
            obtain ⟨⟨_, gne, _, _⟩, hokr'⟩ := hokr
            obtain ⟨kg, M⟩ := g
            dsimp only at e gne hokr' ⊢
            subst e
            rw [opsB_cons, List.foldl_append]
            dsimp only
            rw [fold_gone M _ gne]
            have hd2 : putK 3 L (putK 2 M (doneW st)) = doneW ⟨putK 1 [] (putK 1 st.same st.out), [], st.gone ++ M, st.come ++ L⟩ := by
              unfold doneW
              rw [g1, g2]
              rfl
            rw [hd2]
            simp only [List.length_cons] at hn
            exact back_go n r' 3 _ (by omega) hokr' (fun _ => rfl) (fun h => by omega) (by omega) (by omega) (fun h => by omega)
          · rw [if_neg e, hd]
            exact back_go n (g :: r') 2 _ (by omega) hokr (fun _ => rfl) (fun h => by omega) (by omega) (by omega) (fun _ g' r'' he => by cases he; exact e)
theorem back_ref {l : List HkI} (h : okB 0 l = true) : backGo l [] = backI l := by
  have := back_go l.length l 0 ⟨[], [], [], []⟩ (Nat.le_refl _) h (fun _ => rfl) (fun _ => ⟨rfl, rfl⟩) (by omega) (by omega) (fun h => by omega)
  exact this.symm
end Go.Proofs.YtnbihjocdlpplaaDoor
