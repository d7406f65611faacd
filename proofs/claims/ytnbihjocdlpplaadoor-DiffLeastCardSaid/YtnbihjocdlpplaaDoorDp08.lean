/- Texts joined, one behind the other (DiffS, DEq, DDone, OwnB, DMark). -/
import Derived.Test.YtnbihjocdlpplaaDoorDp07
import Derived.Lib.AppendZeros
/- The plain law of patches of any kinds: the sides, may it be, the other way. -/
namespace Go.Proofs.YtnbihjocdlpplaaDoor
set_option linter.unusedVariables false
set_option linter.unusedSimpArgs false
abbrev HkI := Int × List (List UInt8)
def toI (h : Hk) : HkI := ((h.1 : Int), h.2)
def sideI (k : Int) (l : List HkI) : List (List UInt8) := l.flatMap fun h => if h.1 = 1 ∨ h.1 = k then h.2 else []
theorem sideI_to (k : Nat) (l : List Hk) : sideI (k : Int) (l.map toI) = sideL k l := by
  induction l with
  | nil => rfl
  | cons h l ih =>
    unfold sideI sideL at ih ⊢
    rw [List.map_cons, List.flatMap_cons, List.flatMap_cons, ih]
    congr 1
    have e1 : ((toI h).1 = 1) = (h.1 = 1) := by simp only [toI]; exact propext ⟨fun h => by omega, fun h => by omega⟩
    have e2 : ((toI h).1 = (k : Int)) = (h.1 = k) := by simp only [toI]; exact propext ⟨fun h => by omega, fun h => by omega⟩
    simp only [e1, e2]
    rfl
theorem sideI_app (k : Int) (a b : List HkI) : sideI k (a ++ b) = sideI k a ++ sideI k b := by unfold sideI; simp
def okAtB (was : Int) (h : HkI) : Bool := decide (1 ≤ h.1) && decide (h.1 ≤ 3) && !h.2.isEmpty && !(h.1 == was) && !(h.1 == 2 && was == 3)
def okB : Int → List HkI → Bool
  | _, [] => true
  | was, h :: l => okAtB was h && okB h.1 l
def wholeB (L : List (List UInt8)) : Bool := decide (L.length ≤ 512) && (splitD L.flatten == L)
def checkB (l : List HkI) : Bool := okB 0 l && wholeB (sideI 2 l) && wholeB (sideI 3 l)
def errP (b : Bool) : Int := if b then 0 else 310
def fitsB (s : List UInt8) (l : List HkI) : Bool := checkB l && ((sideI 2 l).flatten == s)
def distI (l : List HkI) : Nat := (l.map fun h => if h.1 = 2 ∨ h.1 = 3 then h.2.length else 0).sum
theorem okAtB_iff {was : Int} {h : HkI} : okAtB was h = true ↔ (1 ≤ h.1 ∧ h.1 ≤ 3) ∧ h.2 ≠ [] ∧ h.1 ≠ was ∧ ¬ (h.1 = 2 ∧ was = 3) := by
  unfold okAtB
  simp only [Bool.and_eq_true, decide_eq_true_eq, Bool.not_eq_true', List.isEmpty_eq_false_iff, beq_eq_false_iff_ne, Bool.and_eq_false_iff, ne_eq]
  constructor
  · rintro ⟨⟨⟨⟨h1, h2⟩, h3⟩, h4⟩, h5⟩
    exact ⟨⟨h1, h2⟩, h3, h4, fun ⟨a, b⟩ => h5.elim (fun h => h a) (fun h => h b)⟩
  · rintro ⟨⟨h1, h2⟩, h3, h4, h5⟩
    refine ⟨⟨⟨⟨h1, h2⟩, h3⟩, h4⟩, ?_⟩
    by_cases e : h.1 = 2
    · exact .inr fun e2 => h5 ⟨e, e2⟩
    · exact .inl e
theorem okB_to (l : List Hk) : ∀ was : Nat, okB (was : Int) (l.map toI) = true ↔ okKinds was l := by
  induction l with
  | nil => intro was; simp [okB, okKinds]
  | cons h l ih =>
    intro was
    rw [List.map_cons, okB, Bool.and_eq_true, okAtB_iff, okKinds]
    have := ih h.1
    rw [show (toI h).1 = ((h.1 : Nat) : Int) from rfl, this]
    unfold okAt
    rw [show (toI h).2 = h.2 from rfl]
    constructor
    · rintro ⟨⟨⟨a, b⟩, c, d, e⟩, f⟩
      exact ⟨⟨⟨by omega, by omega⟩, c, by omega, by omega⟩, f⟩
    · rintro ⟨⟨⟨a, b⟩, c, d, e⟩, f⟩
      exact ⟨⟨⟨by omega, by omega⟩, c, by omega, by omega⟩, f⟩
theorem distI_to (l : List Hk) : distI (l.map toI) = distH l := by
  unfold distI distH
  rw [List.map_map]
  congr 1
  refine List.map_congr_left fun h _ => ?_
  simp only [Function.comp, toI]
  have e1 : ((h.1 : Int) = 2) = (h.1 = 2) := propext ⟨fun h => by omega, fun h => by omega⟩
  have e2 : ((h.1 : Int) = 3) = (h.1 = 3) := propext ⟨fun h => by omega, fun h => by omega⟩
  simp only [e1, e2]
/-- kinds that may be are numbers from 1 to 3 -/
theorem okB_nat : ∀ (l : List HkI) (was : Int), okB was l = true → ∃ H : List Hk, l = H.map toI
  | [], _, _ => ⟨[], rfl⟩
  | h :: l, was, e => by
    rw [okB, Bool.and_eq_true, okAtB_iff] at e
    obtain ⟨H, rfl⟩ := okB_nat l h.1 e.2
    refine ⟨(h.1.toNat, h.2) :: H, ?_⟩
    rw [List.map_cons]
    congr 1
    have := e.1.1.1
    obtain ⟨k, L⟩ := h
    simp only [toI]
    congr 1
    dsimp only at this ⊢
    omega
theorem okB_mem : ∀ (l : List HkI) (was : Int), okB was l = true → ∀ h ∈ l, (1 ≤ h.1 ∧ h.1 ≤ 3) ∧ h.2 ≠ []
  | x :: l, was, e, h, hm => by
    rw [okB, Bool.and_eq_true, okAtB_iff] at e
    rcases List.mem_cons.1 hm with rfl | hm
    · exact ⟨e.1.1, e.1.2.1⟩
    · exact okB_mem l x.1 e.2 h hm
/-- the other way, line by line -/
def opB (k : Int) (s : List UInt8) : Op7 := if k = 1 then .same s else if k = 2 then .come s else .gone s
def opsB (l : List HkI) : List Op7 := l.flatMap fun h => h.2.map (opB h.1)
def backI (l : List HkI) : List Hk := patchOf (opsB l)
/-- the other way, hunk by hunk -/
def backGo : List HkI → List Hk → List Hk
  | [], out => out
  | h :: r, out =>
    if h.1 = 1 then backGo r (putK 1 h.2 out)
    else if h.1 = 3 then backGo r (putK 2 h.2 out)
    else match r with
      | [] => putK 3 h.2 out
      | g :: r' => if g.1 = 3 then backGo r' (putK 3 h.2 (putK 2 g.2 out)) else backGo (g :: r') (putK 3 h.2 out)
termination_by l => l.length
decreasing_by all_goals simp_wf <;> omega
theorem fold_same : ∀ (L : List (List UInt8)) (st : St7), L ≠ [] → (L.map (opB 1)).foldl stepW st = ⟨putK 3 st.come (putK 2 st.gone st.out), st.same ++ L, [], []⟩
  | [s], st, _ => by simp [opB, stepW]
  | s :: t :: L, st, _ => by
    rw [List.map_cons, List.foldl_cons, fold_same (t :: L) _ (by simp)]
    simp [opB, stepW, putK]
theorem fold_come : ∀ (L : List (List UInt8)) (st : St7), L ≠ [] → (L.map (opB 2)).foldl stepW st = ⟨putK 1 st.same st.out, [], st.gone, st.come ++ L⟩
  | [s], st, _ => by simp [opB, stepW]
  | s :: t :: L, st, _ => by
    rw [List.map_cons, List.foldl_cons, fold_come (t :: L) _ (by simp)]
    simp [opB, stepW, putK]
theorem fold_gone : ∀ (L : List (List UInt8)) (st : St7), L ≠ [] → (L.map (opB 3)).foldl stepW st = ⟨putK 1 st.same st.out, [], st.gone ++ L, st.come⟩
  | [s], st, _ => by simp [opB, stepW]
  | s :: t :: L, st, _ => by
    rw [List.map_cons, List.foldl_cons, fold_gone (t :: L) _ (by simp)]
    simp [opB, stepW, putK]
theorem opsB_cons (h : HkI) (l : List HkI) : opsB (h :: l) = h.2.map (opB h.1) ++ opsB l := by simp [opsB]
theorem back_go : ∀ (n : Nat) (l : List HkI) (was : Int) (st : St7), l.length ≤ n → okB was l = true → (was ≠ 1 → st.same = []) → (was = 0 ∨ was = 1 → st.gone = [] ∧ st.come = []) → 0 ≤ was → was ≤ 3 → (was = 2 → ∀ g r, l = g :: r → g.1 ≠ 3) → doneW ((opsB l).foldl stepW st) = backGo l (doneW st)
  | _, [], was, st, _, _, _, _, _, _, _ => by simp [opsB, backGo]
  | n + 1, h :: r, was, st, hn, hok, hs, hg, hw0, hw3, hw2 => by
    simp only [List.length_cons] at hn
    rw [okB, Bool.and_eq_true, okAtB_iff] at hok
    obtain ⟨⟨⟨k1, k3⟩, hne, hwas, hno⟩, hokr⟩ := hok
    obtain ⟨k, L⟩ := h
    dsimp only at k1 k3 hne hwas hno hokr
    rw [opsB_cons, List.foldl_append, backGo.eq_def]
    dsimp only
    by_cases e1 : k = 1
    · subst e1
      rw [if_pos rfl, fold_same L st hne]
      have hss := hs (fun e => hwas e.symm)
      have hd : putK 1 L (doneW st) = doneW ⟨putK 3 st.come (putK 2 st.gone st.out), st.same ++ L, [], []⟩ := by
        unfold doneW
        rw [hss]
        rfl
      rw [hd]
      exact back_go n r 1 _ (by omega) hokr (fun h => absurd rfl h) (fun _ => ⟨rfl, rfl⟩) (by omega) (by omega) (fun h => by omega)
    · rw [if_neg e1]
      by_cases e3 : k = 3
      · subst e3
        rw [if_pos rfl, fold_gone L st hne]
        have hw : was = 0 ∨ was = 1 := by
          by_cases e : was = 2
          · exact absurd rfl (hw2 e _ _ rfl)
          · omega
        obtain ⟨g1, g2⟩ := hg hw
        have hd : putK 2 L (doneW st) = doneW ⟨putK 1 st.same st.out, [], st.gone ++ L, st.come⟩ := by
          unfold doneW
          rw [g1, g2]
          rfl
        rw [hd]
        exact back_go n r 3 _ (by omega) hokr (fun _ => rfl) (fun h => by omega) (by omega) (by omega) (fun h => by omega)
      · rw [if_neg e3]
        obtain rfl : k = 2 := by omega
        have hw : was = 0 ∨ was = 1 := by
          by_cases e : was = 3
          · exact absurd ⟨rfl, e⟩ hno
          · omega
        obtain ⟨g1, g2⟩ := hg hw
        rw [fold_come L st hne]
        have hd : putK 3 L (doneW st) = doneW ⟨putK 1 st.same st.out, [], st.gone, st.come ++ L⟩ := by
          unfold doneW
          rw [g1, g2]
          rfl
        cases r with
        | nil => simp only [opsB, List.flatMap_nil, List.foldl_nil]; exact hd.symm
        | cons g r' =>
          dsimp only
          by_cases e : g.1 = 3
          · rw [if_pos e]
            rw [okB, Bool.and_eq_true, okAtB_iff] at hokr
            obtain ⟨⟨_, gne, _, _⟩, hokr'⟩ := hokr
            obtain ⟨kg, M⟩ := g
            dsimp only at e gne hokr' ⊢
            subst e
            rw [opsB_cons, List.foldl_append]
            dsimp only
            rw [fold_gone M _ gne]
            have hd2 : putK 3 L (putK 2 M (doneW st)) = doneW ⟨putK 1 [] (putK 1 st.same st.out), [], st.gone ++ M, st.come ++ L⟩ := by
              unfold doneW
              rw [g1, g2]
              rfl
            rw [hd2]
            simp only [List.length_cons] at hn
            exact back_go n r' 3 _ (by omega) hokr' (fun _ => rfl) (fun h => by omega) (by omega) (by omega) (fun h => by omega)
          · rw [if_neg e, hd]
            exact back_go n (g :: r') 2 _ (by omega) hokr (fun _ => rfl) (fun h => by omega) (by omega) (by omega) (fun _ g' r'' he => by cases he; exact e)
theorem back_ref {l : List HkI} (h : okB 0 l = true) : backGo l [] = backI l := by
  have := back_go l.length l 0 ⟨[], [], [], []⟩ (Nat.le_refl _) h (fun _ => rfl) (fun _ => ⟨rfl, rfl⟩) (by omega) (by omega) (fun h => by omega)
  exact this.symm
end Go.Proofs.YtnbihjocdlpplaaDoor
/- Rows of texts and lists of hunks that are read: the same? -/
namespace Go.Proofs.YtnbihjocdlpplaaDoor
set_option linter.unusedVariables false
set_option linter.unusedSimpArgs false
open Go.RowKit
theorem ReadsS.quiet {w w' : World} {a : Option Addr} {n : Nat} {L : List (List UInt8)} (h : ReadsS w a n L) (hq : Quiet w w') : ReadsS w' a n L := h.keep (hq.below w.heap.size) (Nat.le_refl _)
/-- the slice at a of n hunks reads as these -/
def ReadsK (w : World) (a : Option Addr) (n : Nat) (X : List HkI) : Prop :=
  X.length = n ∧ (0 < n → ∃ b off, a = some ⟨b, off, none⟩ ∧ b < w.heap.size ∧ ∀ i x, X[i]? = some x → ∃ ad c, w.cell? ⟨b, off + i * 2, none⟩ = some (.int .i64 x.1) ∧ w.cell? ⟨b, off + i * 2 + 1, none⟩ = some (.slice ad x.2.length c) ∧ ReadsS w ad x.2.length x.2 ∧ x.2.length ≤ c ∧ c ≤ maxLen)
theorem ReadsK.len {w : World} {a : Option Addr} {n : Nat} {X : List HkI} (h : ReadsK w a n X) : X.length = n := h.1
theorem ReadsK.nil (w : World) (a : Option Addr) : ReadsK w a 0 [] := ⟨rfl, fun h => absurd h (by omega)⟩
theorem ReadsK.keep {B : Nat} {w w' : World} {a : Option Addr} {n : Nat} {X : List HkI} (h : ReadsK w a n X) (hb : Below B w w') (hB : w.heap.size ≤ B) : ReadsK w' a n X := by
  obtain ⟨hl, h⟩ := h
  refine ⟨hl, fun hn => ?_⟩
  obtain ⟨b, off, ha, hlt, hc⟩ := h hn
  refine ⟨b, off, ha, Nat.lt_of_lt_of_le hlt hb.size, fun i x hx => ?_⟩
  obtain ⟨ad, c, h1, h2, h3, h4⟩ := hc i x hx
  exact ⟨ad, c, by rw [hb.cell (p := ⟨b, off + i * 2, none⟩) (Nat.lt_of_lt_of_le hlt hB)]; exact h1, by rw [hb.cell (p := ⟨b, off + i * 2 + 1, none⟩) (Nat.lt_of_lt_of_le hlt hB)]; exact h2, h3.keep hb hB, h4⟩
theorem ReadsK.quiet {w w' : World} {a : Option Addr} {n : Nat} {X : List HkI} (h : ReadsK w a n X) (hq : Quiet w w') : ReadsK w' a n X := h.keep (hq.below w.heap.size) (Nat.le_refl _)
theorem ReadsK.at {w : World} {a : Option Addr} {n : Nat} {X : List HkI} (h : ReadsK w a n X) {i : Nat} (hi : i < n) :
    ∃ b off x ad m c, a = some ⟨b, off, none⟩ ∧ b < w.heap.size ∧ X[i]? = some x ∧ w.cell? ⟨b, off + i * 2, none⟩ = some (.int .i64 x.1) ∧ w.cell? ⟨b, off + i * 2 + 1, none⟩ = some (.slice ad m c) ∧ ReadsS w ad m x.2 ∧ m ≤ c ∧ c ≤ maxLen ∧ x.2.length = m := by
  obtain ⟨hl, h⟩ := h
  obtain ⟨b, off, ha, hlt, hc⟩ := h (by omega)
  have hx : X[i]? = some X[i] := List.getElem?_eq_getElem (by omega)
  obtain ⟨ad, c, h1, h2, h3, h4, h5⟩ := hc i _ hx
  exact ⟨b, off, X[i], ad, _, c, ha, hlt, hx, h1, h2, h3, h4, h5, rfl⟩
set_option maxHeartbeats 1000000 in
theorem eqTexts (w : World) (a b : Option Addr) (n m ca cb : Nat) (A B : List (List UInt8)) (ha : ReadsS w a n A) (hb : ReadsS w b m B) (hn : n ≤ 4611686018427387904) (hm : m ≤ 4611686018427387904) :
    Calls Tryd.prog 47 #[.slice a n ca, .slice b m cb] w fun e w' => e = .returned (.bool (A == B)) ∧ Quiet w w' := by
  have hla := ha.len
  have hlb := hb.len
  by_cases hnm : n = m
  · subst hnm
    have HL := Lib.hid hla
    have HM := Lib.hid hlb
    clear hla hlb
    have hne : ((n : Int) != (n : Int)) = false := by simp
    go_enter Tryd.func47, Tryd.ntmps47
    go_wp2
    go_loopw [5] (fun i wr => ∃ k : Nat, k ≤ n ∧ i = .int .i64 k ∧ Hid (A.take k = B.take k) ∧ Quiet w wr) (fun i _ => n - (intOf i).toNat)
    case atStart => exact ⟨0, Nat.zero_le _, rfl, rfl, Quiet.refl _⟩
    case round =>
      obtain ⟨k, hk, rfl, HE, hbel⟩ := hrel
      by_cases hlt : k < n
      · obtain ⟨b1, o1, x, rfl, hb1, hx, hcx⟩ := (ha.quiet hbel).at hlt
        obtain ⟨b2, o2, y, rfl, hb2, hy, hcy⟩ := (hb.quiet hbel).at hlt
        have HX := Lib.hid hx
        have HY := Lib.hid hy
        clear hx hy
        by_cases hxy : x = y
        · subst hxy
          have hbe : (x != x) = false := by simp
          have hbf : (x == x) = true := by simp
          go_wp2
          go_quiet (fail)
          go_wp2
          go_roundw
          case rel => exact ⟨k + 1, by omega, by go_num, by
            show _ = _
            rw [take_next HX.out, take_next HY.out, HE.out], hbel.drewN _⟩
          case measure => simp [intOf]; omega
        · have hbe : (x == y) = false := by rw [beq_eq_false_iff_ne]; exact hxy
          have hbf : (x != y) = true := by rw [bne_iff_ne]; exact hxy
          go_wp2
          go_quiet (fail)
          go_wp2
          go_ret
          refine ⟨?_, hbel.drewN _⟩
          have hd : (A == B) = false := by
            rw [beq_eq_false_iff_ne]
            intro h
            subst h
            have := HX.out.symm.trans HY.out
            simp at this
            exact hxy this
          rw [hd]; rfl
      · obtain rfl : k = n := by omega
        go_wp2
        go_ret
        refine ⟨?_, hbel⟩
        have hd : (A == B) = true := by
          rw [beq_iff_eq]
          have h := HE.out
          rw [List.take_of_length_le (by rw [HL.out]; exact Nat.le_refl _), List.take_of_length_le (by rw [HM.out]; exact Nat.le_refl _)] at h
          exact h
        rw [hd]; rfl
  · have hne : ((n : Int) != (m : Int)) = true := by simp only [bne_iff_ne, ne_eq]; omega
    have HL := Lib.hid hla
    have HM := Lib.hid hlb
    clear hla hlb
    go_enter Tryd.func47, Tryd.ntmps47
    go_wp2
    go_ret
    refine ⟨?_, Quiet.refl _⟩
    have hd : (A == B) = false := by
      rw [beq_eq_false_iff_ne]
      intro h
      subst h
      exact hnm (HL.out.symm.trans HM.out)
    rw [hd]; rfl
set_option maxHeartbeats 1000000 in
theorem eqHunks (w : World) (a b : Option Addr) (n ca cb : Nat) (X : List HkI) (ha : ReadsK w a n X) (hb : ReadsK w b n X) (hn : n ≤ 4611686018427387904) (hm : ∀ x ∈ X, x.2.length ≤ 4611686018427387904) :
    Calls Tryd.prog 12 #[.slice a n ca, .slice b n cb] w fun e w' => e = .returned (.bool true) ∧ Quiet w w' := by
  have HM := Lib.hid hm
  have HA := Lib.hid ha
  have HB := Lib.hid hb
  clear hm ha hb
  have hne : ((n : Int) != (n : Int)) = false := by simp
  go_enter Tryd.func12, Tryd.ntmps12
  go_wp2
  go_loopw [5] (fun i wr => ∃ k : Nat, k ≤ n ∧ i = .int .i64 k ∧ Quiet w wr) (fun i _ => n - (intOf i).toNat)
  case atStart => exact ⟨0, Nat.zero_le _, rfl, Quiet.refl _⟩
  case round =>
    obtain ⟨k, hk, rfl, hq⟩ := hrel
    by_cases hlt : k < n
    · obtain ⟨b1, o1, x, a1, m1, c1, rfl, hb1, hx, hk1, hl1, hr1, _, _, hm1⟩ := (HA.out.quiet hq).at hlt
      obtain ⟨b2, o2, y, a2, m2, c2, rfl, hb2, hy, hk2, hl2, hr2, _, _, hm2⟩ := (HB.out.quiet hq).at hlt
      obtain rfl : x = y := by rw [hx] at hy; exact Option.some.inj hy
      have hl := HM.out x (List.mem_of_getElem? hx)
      subst hm1
      obtain ⟨n1, hn1⟩ : ∃ n1, n1 = x.2.length := ⟨_, rfl⟩
      rw [← hn1] at hm2
      subst hm2
      rw [← hn1] at hl1 hr1 hl
      obtain ⟨kd, hkd⟩ : ∃ kd, kd = x.1 := ⟨_, rfl⟩
      rw [← hkd] at hk1 hk2
      have hcall : ∀ m, Calls Tryd.prog 47 #[.slice a1 n1 c1, .slice a2 n1 c2] (wr.drewN m) fun e w' => e = .returned (.bool true) ∧ ∃ m', w' = (wr.drewN m).drewN m' := by
        intro m
        have h := eqTexts (wr.drewN m) a1 a2 n1 n1 c1 c2 x.2 x.2 (hr1.quiet ⟨m, rfl⟩) (hr2.quiet ⟨m, rfl⟩) hl hl
        rw [show (x.2 == x.2) = true from by simp] at h
        exact h
      have HC := Lib.hid hcall
      have hbe : (kd != kd) = false := by simp
      clear hcall hx hy hr1 hr2 hn1 hkd hl
      go_wp2
      go_quiet ((go_at_call 47; exact Calls.quiet_of (HC.out _)))
      go_wp2
      go_roundw
      case rel => exact ⟨k + 1, by omega, by go_num, hq.drewN _⟩
      case measure => simp [intOf] <;> omega
    · obtain rfl : k = n := by omega
      go_wp2
      go_ret
      exact ⟨rfl, hq⟩
end Go.Proofs.YtnbihjocdlpplaaDoor
/- The program's writer: done; what a patch of a call's own is. -/
namespace Go.Proofs.YtnbihjocdlpplaaDoor
set_option linter.unusedVariables false
set_option linter.unusedSimpArgs false
open Go.RowKit
open Go.Lib
/-- a patch of the call's own: hunks in one block, the lines of each in a block of their own, all without spare room -/
def PatchAt (B : Nat) (w : World) (v : Value) (H : List Hk) : Prop :=
  ∃ (a : Option Addr) (c : Nat) (hs : List HCell), v = .slice a H.length H.length ∧ SW B w (.slice a H.length c) hs H [] ∧ ∀ h ∈ hs, h.2.2.1 = h.2.2.2
theorem SW.bare {B : Nat} {w : World} {vo : Value} {hs : List HCell} {H : List Hk} {vals : List Wait} (h : SW B w vo hs H vals) : SW B w vo hs H [] :=
  ⟨h.own, h.len, fun k c x h1 h2 => by
    obtain ⟨q1, q2, q3, q4, q5⟩ := h.each k c x h1 h2
    exact ⟨q1, q2, q3, q4, fun ad had => ⟨(q5 ad had).1, (q5 ad had).2.1, fun p hp => (by cases hp)⟩⟩, fun p hp => (by cases hp), fun i j p q hi hj _ => (by cases hi), h.dist⟩
theorem PatchAt.keep {B : Nat} {w w' : World} {v : Value} {H : List Hk} (h : PatchAt B w v H) (hb : Below w.heap.size w w') : PatchAt B w' v H := by
  obtain ⟨a, c, hs, h1, h2, h3⟩ := h
  exact ⟨a, c, hs, h1, h2.keep hb, h3⟩
theorem hk_len : ∀ hs : List HCell, (hs.flatMap hkCells).length = hs.length * 2 := by
  intro hs
  induction hs with
  | nil => rfl
  | cons x l ih => rw [List.flatMap_cons, List.length_append, ih, List.length_cons]; show 2 + _ = _; omega
/-- what a row of hunks reads as -/
theorem SW.reads {B : Nat} {w : World} {a : Option Addr} {c : Nat} {hs : List HCell} {H : List Hk} {vals : List Wait} {n : Nat} (h : SW B w (.slice a n c) hs H vals) : n = H.length ∧ ReadsK w a H.length (H.map toI) := by
  have hn : n = hs.length := by
    rcases h.own.2 with ⟨h1, h2⟩ | ⟨g, cap, cur, hv, _⟩
    · cases h1; exact h2.symm
    · cases hv; rfl
  subst hn
  refine ⟨h.len, by simp, fun h0 => ?_⟩
  obtain ⟨g, rfl, hg, hc⟩ := own_cell h.own (by rw [h.len]; exact h0)
  refine ⟨g, 0, rfl, hg, fun i x hx => ?_⟩
  rw [List.getElem?_map] at hx
  cases hy : H[i]? with
  | none => rw [hy] at hx; cases hx
  | some y =>
    rw [hy] at hx
    cases hx
    have hil := (List.getElem?_eq_some_iff.1 hy).1
    have hp : hs[i]? = some (hs[i]'(by rw [h.len]; exact hil)) := by simp
    obtain ⟨q1, q2, q3, q4, q5⟩ := h.each i _ y hp hy
    have hl : (hs[i]'(by rw [h.len]; exact hil)).2.2.1 = y.2.length := q4.len.symm
    have f0 := flat_at (f := hkCells) (c := 2) (fun _ => rfl) hp (j := 0) rfl
    have f1 := flat_at (f := hkCells) (c := 2) (fun _ => rfl) hp (j := 1) rfl
    refine ⟨_, _, ?_, ?_, by show ReadsS w _ y.2.length y.2; rw [← hl]; exact q4, by show y.2.length ≤ _; rw [← hl]; exact q2, q3⟩
    · rw [Nat.zero_add]
      have := hc _ _ f0
      rw [Nat.add_zero] at this
      rw [this, q1]
      rfl
    · rw [Nat.zero_add]
      rw [hc _ _ f1, hl]
      rfl
theorem PatchAt.reads {B : Nat} {w : World} {v : Value} {H : List Hk} (h : PatchAt B w v H) : ∃ a, v = .slice a H.length H.length ∧ ReadsK w a H.length (H.map toI) := by
  obtain ⟨a, c, hs, h1, h2, _⟩ := h
  exact ⟨a, h1, h2.reads.2⟩
theorem own_caps {w : World} {B : Nat} {e : TypeId} {size : Nat} {a : Option Addr} {n c m : Nat} {xs : List Value} (h : w.ownsRow B e size (.slice a n c) m xs) : n = m ∧ n ≤ c ∧ c ≤ maxLen := by
  rcases h.2 with ⟨h1, h2⟩ | ⟨g, cap, cur, hv, _, _, h3, h4, _⟩
  · cases h1; subst h2; exact ⟨rfl, Nat.le_refl _, Nat.zero_le _⟩
  · cases hv; exact ⟨rfl, h3, h4⟩
set_option maxHeartbeats 8000000 in
set_option maxRecDepth 100000 in
theorem doneC (w : World) (B p : Nat) (st : St7) (h : WS B w p st) (hH : st.out.length ≤ 1048500) :
    Calls Tryd.prog 43 #[.pointer (some ⟨p, 0, none⟩)] w fun e w' => ∃ v, e = .returned v ∧ PatchAt B w' v (doneW st) ∧ KB B p w w' ∧ B ≤ w'.heap.size := by
  obtain ⟨hs0, vo0, vs, vg, vc, h0⟩ := h
  have HW0 := Lib.hid h0
  clear h0
  have k1 := putK_le 1 st.same st.out
  have k2 := putK_le 2 st.gone (putK 1 st.same st.out)
  go_enter Tryd.func43, Tryd.ntmps43
  go_upto_region 4 with (first
    | (go_at_call_of 74 (Value.int .i64 1); refine (putC w B p hs0 st.out vo0 vs [(vs, st.same), (vg, st.gone), (vc, st.come)] 0 1 st.same HW0.out rfl (by omega)).mono ?_; rintro e w1 ⟨⟨u0, rfl⟩, vo1, hs1, v1, hw1, hb1, _⟩; have HW1 := Lib.hid hw1; have HB1 := Lib.hid hb1; clear hw1 hb1)
    | (go_at_call_of 74 (Value.int .i64 2); refine (putC w1 B p hs1 (putK 1 st.same st.out) vo1 vg [(v1, []), (vg, st.gone), (vc, st.come)] 1 2 st.gone HW1.out rfl (by omega)).mono ?_; rintro e w2 ⟨⟨u1, rfl⟩, vo2, hs2, v2, hw2, hb2, _⟩; have HW2 := Lib.hid hw2; have HB2 := Lib.hid hb2; clear hw2 hb2)
    | (go_at_call_of 74 (Value.int .i64 3); refine (putC w2 B p hs2 (putK 2 st.gone (putK 1 st.same st.out)) vo2 vc [(v1, []), (v2, []), (vc, st.come)] 2 3 st.come HW2.out rfl (by omega)).mono ?_; rintro e w3 ⟨⟨u2, rfl⟩, vo3, hs3, v3, hw3, hb3, _⟩; have HW3 := Lib.hid hw3; have HB3 := Lib.hid hb3; clear hw3 hb3))
  obtain ⟨a, c, hv⟩ := slice_own HW3.out.sw.own
  subst hv
  have d0 : w3.cell? ⟨p, 0, none⟩ = some (.slice a hs3.length c) := HW3.out.row.cell 0
  obtain ⟨_, c1, c2⟩ := own_caps HW3.out.sw.own
  have hcm : c ≤ 9223372036854775807 := by unfold maxLen at c2; omega
  have HC := Lib.hid (⟨c1, hcm⟩ : hs3.length ≤ c ∧ c ≤ 9223372036854775807)
  have hlen : hs3.length = (doneW st).length := HW3.out.sw.len
  have HFIN : Hid (PatchAt B w3 (.slice a hs3.length hs3.length) (doneW st)) := Lib.hid (by
    refine ⟨a, c, hs3, by rw [hlen], ?_, HW3.out.clip⟩
    rw [← hlen]
    exact HW3.out.sw.bare)
  obtain ⟨n, hn⟩ : ∃ n, n = hs3.length := ⟨_, rfl⟩
  rw [← hn] at d0 HC HFIN
  clear hn hlen c1 c2 k1 k2
  go_wp2_with (go_at_call 68; refine (clipH w3 a n c HC.out.1 HC.out.2).mono ?_; rintro e w4 ⟨rfl, rfl⟩)
  go_ret
  exact ⟨_, rfl, HFIN.out, (HB1.out.trans HB2.out).trans HB3.out, HW3.out.size⟩
end Go.Proofs.YtnbihjocdlpplaaDoor
/- Rows of bytes of the call's own: append of a text, of a byte; as a text. -/
namespace Go.Proofs.YtnbihjocdlpplaaDoor
set_option linter.unusedVariables false
set_option linter.unusedSimpArgs false
open Go.RowKit
open Go.Lib
def OwnB (B : Nat) (v : Value) (acc : List UInt8) (w : World) : Prop := w.ownsRow B 5 1 v acc.length (acc.map B8)
theorem strCells_B8 (s : List UInt8) : Lib.strCells (bstr s) = s.map B8 := rfl
theorem OwnB.drewN {B : Nat} {v : Value} {acc : List UInt8} {w : World} (h : OwnB B v acc w) (n : Nat) : OwnB B v acc (w.drewN n) := h
theorem OwnB.below {B : Nat} {v : Value} {acc : List UInt8} {w w' : World} (h : OwnB B v acc w) (b : Below w.heap.size w w') : OwnB B v acc w' := by
  refine ⟨h.1, ?_⟩
  rcases h.2 with hn | ⟨g, cap, cur, rfl, hb, hgg, rest⟩
  · exact .inl hn
  · exact .inr ⟨g, cap, cur, rfl, hb, (b.block g (Array.getElem?_eq_some_iff.1 hgg).1).trans hgg, rest⟩
section
variable {ops : Array Oper} {rest : List Oper} {o : Oper} {a : Act} {w : World} {Q : Exit → Act → World → Prop}
/-- append of a text to a row of one's own -/
theorem appStr (hgd : o.guard = none) (sl x : Operand) (ho : o.op = .call { callee := .builtin .append, args := #[sl, x], argTypes := #[30, 9] })
    (B : Nat) (w0 : World) (v : Value) (acc s : List UInt8) (hs : a.eval sl = v) (hown : OwnB B v acc w) (hx : a.eval x = .string (bstr s)) (hl : acc.length ≤ 1099511627776) (hl2 : s.length ≤ 1099511627776) (hb : Below B w0 w) (hB : B ≤ w.heap.size)
    (h : ∀ v' w', OwnB B v' (acc ++ s) w' → Below B w0 w' → B ≤ w'.heap.size → wpList Tryd.prog ops Q rest (a.put o.dst v') w') : wpList Tryd.prog ops Q (o :: rest) a w := by
  obtain ⟨i0, hi, hz0, hz1, hz2⟩ := info_parts Tryd.infoU8
  refine Lib.wpList_append_own_string _ hgd sl x 30 9 ho B 5 i0 Tryd.underlying30 Tryd.underlying9 hi hz0 hz1 hz2 v acc.length _ hs hown (bstr s) hx (by rw [bstr_size]; unfold maxLen; omega) (by rw [bstr_size]; omega) hB ?_
  intro v' w' h1 h2 _
  have hbb : Below B w0 w' := hb.grown h2 hB (fun k hk => (World.ownsRow.lt hown k hk).1)
  refine h v' w' ?_ hbb (Nat.le_trans hB h2.size)
  unfold OwnB
  rw [List.length_append, List.map_append]
  rw [bstr_size, strCells_B8] at h1
  exact h1
/-- the same as one step of a region that draws its order -/
theorem stepAppStr {K : Act → World → Prop} {E : Prop} (hgd : o.guard = none) (sl x : Operand) (ho : o.op = .call { callee := .builtin .append, args := #[sl, x], argTypes := #[30, 9] })
    (B : Nat) (w0 : World) (v : Value) (acc s : List UInt8) (hs : a.eval sl = v) (hown : OwnB B v acc w) (hx : a.eval x = .string (bstr s)) (hl : acc.length ≤ 1099511627776) (hl2 : s.length ≤ 1099511627776) (hb : Below B w0 w) (hB : B ≤ w.heap.size)
    (h : ∀ v' w', OwnB B v' (acc ++ s) w' → Below B w0 w' → B ≤ w'.heap.size → K (a.put o.dst v') w') : if Region.wanted o (yielded ops a.tmps) = true then Oper.wp Tryd.prog o a w K Q else E := by
  obtain ⟨i0, hi, hz0, hz1, hz2⟩ := info_parts Tryd.infoU8
  have hw : Region.wanted o (yielded ops a.tmps) = true := by simp [Region.wanted, hgd]
  rw [if_pos hw]
  obtain ⟨v', w', hr, h1, h2, _⟩ := Lib.run_append_own_string (P := Tryd.prog) w B 30 9 o.type 5 i0 Tryd.underlying30 Tryd.underlying9 hi hz0 hz1 hz2 v acc.length _ hown (bstr s) (by rw [bstr_size]; unfold maxLen; omega) (by rw [bstr_size]; omega) hB
  have hbb : Below B w0 w' := hb.grown h2 hB (fun k hk => (World.ownsRow.lt hown k hk).1)
  unfold Oper.wp
  simp [execOp, ho, resolve, invoke, builtin, hs, hx, hr, Result.andThen]
  refine h _ _ ?_ hbb (Nat.le_trans hB h2.size)
  unfold OwnB
  rw [List.length_append, List.map_append]
  rw [bstr_size, strCells_B8] at h1
  exact h1
/-- append of one byte -/
theorem appOne (hgd : o.guard = none) (sl x : Operand) (ho : o.op = .call { callee := .builtin .append, args := #[sl, x], argTypes := #[30, 30] })
    (B : Nat) (w0 wp : World) (v : Value) (acc : List UInt8) (c : UInt8) (hs : a.eval sl = v) (hown : OwnB B v acc wp) (hx : a.eval x = .slice (some ⟨wp.heap.size, 0, none⟩) 1 1) (hw : w = wp.alloc (.cells #[B8 c] 5)) (hl : acc.length ≤ 1099511627776) (hb : Below B w0 wp) (hB : B ≤ wp.heap.size)
    (h : ∀ v' w', OwnB B v' (acc ++ [c]) w' → Below B w0 w' → B ≤ w'.heap.size → wpList Tryd.prog ops Q rest (a.put o.dst v') w') : wpList Tryd.prog ops Q (o :: rest) a w := by
  subst hw
  obtain ⟨i0, hi, hz0, hz1, hz2⟩ := info_parts Tryd.infoU8
  have hB' : B ≤ (wp.alloc (.cells #[B8 c] 5)).heap.size := by simp; omega
  refine wpList_append_own _ hgd sl x 30 ho B 5 i0 (.int .u8 0) 1 1 Tryd.underlying30 hi hz0 hz1 hz2 rfl (by decide) v acc.length _ hs (World.ownsRow.alloc hown _) ⟨wp.heap.size, 0, none⟩ 1 1 [B8 c] hx rfl (cell_one_new _ _ _) (by simp [Value.oneCell']) (by unfold maxLen; omega) (by omega) hB' ?_
  intro v' w' h1 h2 _
  have hbb : Below B w0 w' := below_append hb hB hown h2
  refine h v' w' ?_ hbb (Nat.le_trans hB' h2.size)
  unfold OwnB
  rw [List.length_append, List.map_append]
  exact h1
end
theorem conv_own {B : Nat} {v : Value} {acc : List UInt8} {w : World} (h : OwnB B v acc w) : (convert 30 9 v).run Tryd.prog w = .ok (.string (bstr acc)) w := by
  obtain ⟨a, c, rfl, hr, _, _⟩ := reads_of_own h
  exact run_bytes_str _ _ _ 5 Tryd.underlying30 Tryd.underlying5 Tryd.underlying9 _ _ _ acc hr
end Go.Proofs.YtnbihjocdlpplaaDoor
/- The mark of a place of a list of texts; rows of texts that are marked. -/
namespace Go.Proofs.YtnbihjocdlpplaaDoor
set_option linter.unusedVariables false
set_option linter.unusedSimpArgs false
open Go.RowKit
open Go.Lib
def mk3 (i k : Nat) : List UInt8 := [UInt8.ofNat i, UInt8.ofNat k, UInt8.ofNat (k / 256)]
theorem wrap8 (i : Nat) : IntKind.u8.wrap (i : Int) = ((UInt8.ofNat i).toNat : Int) := by
  rw [UInt8.toNat_ofNat']
  simp [IntKind.wrap, IntKind.bits, IntKind.signed]
theorem tdiv256 (k : Nat) : (k : Int).tdiv 256 = ((k / 256 : Nat) : Int) := by
  rw [Int.tdiv_eq_ediv_of_nonneg (by omega)]
  omega
theorem conv_lit (w : World) (l : List UInt8) : (convert 30 9 (.slice (some ⟨w.heap.size, 0, none⟩) l.length l.length)).run Tryd.prog (w.alloc (.cells (l.map B8).toArray 5)) = .ok (.string (bstr l)) (w.alloc (.cells (l.map B8).toArray 5)) := by
  have hr : Row (w.alloc (.cells (l.map B8).toArray 5)) w.heap.size 5 (l.map B8) := row_new w _ _
  have h := hr.reads 0 l.length (by simp)
  rw [List.drop_zero, List.take_of_length_le (by simp)] at h
  exact run_bytes_str _ _ _ 5 Tryd.underlying30 Tryd.underlying5 Tryd.underlying9 _ _ _ l h
set_option maxHeartbeats 1000000 in
theorem textMarkC (w : World) (i k : Nat) (hi : i ≤ 1099511627776) (hk : k ≤ 1099511627776) :
    Calls Tryd.prog 77 #[.int .i64 (i : Int), .int .i64 (k : Int)] w fun e w' => e = .returned (.string (bstr (mk3 i k))) ∧ Below w.heap.size w w' := by
  have h1 := wrap8 i
  have h2 := wrap8 k
  have h3 := wrap8 (k / 256)
  have h4 := tdiv256 k
  obtain ⟨q, hq⟩ : ∃ q, k / 256 = q := ⟨_, rfl⟩
  obtain ⟨a, ha⟩ : ∃ a, UInt8.ofNat i = a := ⟨_, rfl⟩
  obtain ⟨b, hb⟩ : ∃ a, UInt8.ofNat k = a := ⟨_, rfl⟩
  rw [hq] at h3 h4
  obtain ⟨c, hc⟩ : ∃ a, UInt8.ofNat q = a := ⟨_, rfl⟩
  have hm : mk3 i k = [a, b, c] := by unfold mk3; rw [hq, ha, hb, hc]
  rw [ha] at h1
  rw [hb] at h2
  rw [hc] at h3
  have h5 : IntKind.i64.wrap (q : Int) = (q : Int) := IntWalk.i64_in _ (by omega)
  have HM := Lib.hid hm
  have hcv : (convert 30 9 (.slice (some ⟨w.heap.size, 0, none⟩) 3 3)).run Tryd.prog (w.alloc (.cells #[.int .u8 (a.toNat : Int), .int .u8 (b.toNat : Int), .int .u8 (c.toNat : Int)] 5)) = .ok (.string (bstr [a, b, c])) (w.alloc (.cells #[.int .u8 (a.toNat : Int), .int .u8 (b.toNat : Int), .int .u8 (c.toNat : Int)] 5)) := conv_lit w [a, b, c]
  clear hq ha hb hc hm
  go_enter Tryd.func77, Tryd.ntmps77
  go_wp2
  go_ret
  exact ⟨by rw [HM.out]; rfl, (Below.refl _ w).alloc (Nat.le_refl _) _⟩
/-- a row: its block, its first place, its length; there is no spare room -/
abbrev R4 := Nat × Nat × Nat
def rowT (r : R4) : Value := .slice (some ⟨r.1, r.2.1, none⟩) r.2.2 r.2.2
def DistT (rows : List R4) : Prop := ∀ (j j' : Nat) (r r' : R4), rows[j]? = some r → rows[j']? = some r' → r.1 = r'.1 → j = j'
/-- every row lies in a block of texts; of the rows ahead of i all are marked, of row i the first k places -/
def MkT (w : World) (rows : List R4) (i k : Nat) : Prop :=
  ∀ (j : Nat) (r : R4), rows[j]? = some r → ∃ cur : Array Value, w.heap[r.1]? = some (.cells cur 9 (0, 0)) ∧ r.2.1 + r.2.2 ≤ cur.size ∧ ∀ t, t < r.2.2 → (j < i ∨ (j = i ∧ t < k)) → cur[r.2.1 + t]? = some (S1 (mk3 j t))
theorem MkT.keep {w w' : World} {rows : List R4} {i k : Nat} (h : MkT w rows i k) (hb : Below w.heap.size w w') : MkT w' rows i k := by
  intro j r hj
  obtain ⟨cur, h1, h2, h3⟩ := h j r hj
  exact ⟨cur, (hb.block r.1 (Array.getElem?_eq_some_iff.1 h1).1).trans h1, h2, h3⟩
theorem MkT.nextRow {w : World} {rows : List R4} {i : Nat} {r : R4} (h : MkT w rows i r.2.2) (hr : rows[i]? = some r) : MkT w rows (i + 1) 0 := by
  intro j r' hj
  obtain ⟨cur, h3, h4, h5⟩ := h j r' hj
  refine ⟨cur, h3, h4, fun t ht hor => h5 t ht ?_⟩
  rcases hor with hor | hor
  · by_cases e : j = i
    · subst e
      rw [hr] at hj
      obtain rfl := Option.some.inj hj
      exact .inr ⟨rfl, ht⟩
    · exact .inl (by omega)
  · omega
theorem MkT.mark {w : World} {rows : List R4} {i k : Nat} {r : R4} (h : MkT w rows i k) (hd : DistT rows) (hr : rows[i]? = some r) (hk : k < r.2.2) : MkT (w.setCell ⟨r.1, r.2.1 + k, none⟩ (S1 (mk3 i k))) rows i (k + 1) := by
  intro j r' hj
  obtain ⟨cur, h3, h4, h5⟩ := h j r' hj
  by_cases e : r'.1 = r.1
  · obtain rfl := hd j i r' r hj hr e
    rw [hr] at hj
    obtain rfl := Option.some.inj hj
    refine ⟨cur.setIfInBounds (r.2.1 + k) (S1 (mk3 j k)), ?_, by simpa using h4, fun t ht hor => ?_⟩
    · simp [World.setCell, Array.getElem?_modify, h3]
    · by_cases et : t = k
      · subst et
        exact Array.getElem?_setIfInBounds_self_of_lt (by omega)
      · rw [Array.getElem?_setIfInBounds_ne (by omega)]
        exact h5 t ht (by omega)
  · refine ⟨cur, ?_, h4, fun t ht hor => h5 t ht ?_⟩
    · rw [Below.heap_setCell _ _ _ _ e]; exact h3
    · rcases hor with hor | ⟨rfl, hor⟩
      · exact .inl hor
      · rw [hr] at hj; exact absurd (congrArg (·.1) (Option.some.inj hj)).symm e
theorem MkT.cell {w : World} {rows : List R4} {i k : Nat} {r : R4} (h : MkT w rows i k) {j : Nat} (hr : rows[j]? = some r) {t : Nat} (ht : t < r.2.2) : ∃ u, w.cell? ⟨r.1, r.2.1 + t, none⟩ = some u ∧ w.frozen? ⟨r.1, r.2.1 + t, none⟩ = false := by
  obtain ⟨cur, h3, h4, h5⟩ := h j r hr
  have hlt : r.2.1 + t < cur.size := by omega
  refine ⟨cur[r.2.1 + t], ?_, ?_⟩
  · simp [World.cell?, h3]
  · simp [World.frozen?, h3]
theorem MkT.marked {w : World} {rows : List R4} {i k : Nat} {r : R4} (h : MkT w rows i k) {j : Nat} (hr : rows[j]? = some r) {t : Nat} (ht : t < r.2.2) (hj : j < i) : w.cell? ⟨r.1, r.2.1 + t, none⟩ = some (.string (bstr (mk3 j t))) := by
  obtain ⟨cur, h3, h4, h5⟩ := h j r hr
  have := h5 t ht (.inl hj)
  simp [World.cell?, h3, this, S1]
theorem MkT.lt {w : World} {rows : List R4} {i k : Nat} {r : R4} (h : MkT w rows i k) {j : Nat} (hr : rows[j]? = some r) : r.1 < w.heap.size := by
  obtain ⟨cur, h3, _⟩ := h j r hr
  exact (Array.getElem?_eq_some_iff.1 h3).1
def marks3 (i n : Nat) : List (List UInt8) := (List.range n).map fun k => mk3 i k
theorem marks3_len (i n : Nat) : (marks3 i n).length = n := by simp [marks3]
theorem marks3_next (i n : Nat) : marks3 i (n + 1) = marks3 i n ++ [mk3 i n] := by simp [marks3, List.range_succ]
theorem marks3_at (i n k : Nat) (h : k < n) : (marks3 i n)[k]? = some (mk3 i k) := by simp [marks3, h]
/-- a row that is marked whole reads as its marks -/
theorem MkT.reads {w : World} {rows : List R4} {i k : Nat} {r : R4} (h : MkT w rows i k) {j : Nat} (hr : rows[j]? = some r) (hj : j < i) : ReadsS w (some ⟨r.1, r.2.1, none⟩) r.2.2 (marks3 j r.2.2) := by
  refine ⟨by rw [List.length_map, marks3_len], fun _ => ⟨r.1, r.2.1, rfl, h.lt hr, fun t ht => ?_⟩⟩
  rw [h.marked hr ht hj, List.getElem?_map, marks3_at j _ t ht]
  rfl
theorem own_keep_ty {w w' : World} {row : Option Nat} {B : Nat} {e : TypeId} {v : Value} {n : Nat} {xs : List Value} (h : w.ownsRow B e 1 v n xs) (hg : w.grownBy w' row) (hne : ∀ b, row = some b → ∃ (cur : Array Value) (e' : TypeId) (fr : Nat × Nat), w.heap[b]? = some (.cells cur e' fr) ∧ e' ≠ e) : w'.ownsRow B e 1 v n xs := by
  refine h.kept hg ?_
  rcases h.2 with ⟨rfl, _⟩ | ⟨g, cap, cur, rfl, _, hgr, _⟩
  · exact .inl rfl
  · refine .inr fun e' => ?_
    have e' : some g = row := e'
    obtain ⟨cur', t', fr, h1, h2⟩ := hne g e'.symm
    rw [hgr] at h1
    cases h1
    exact h2 rfl
theorem own_at {w : World} {B : Nat} {e : TypeId} {b o m c : Nat} {xs : List Value} (h : w.ownsRow B e 1 (.slice (some ⟨b, o, none⟩) m c) m xs) {i : Nat} (hi : i < m) : w.cell? ⟨b, o + i, none⟩ = xs[i]? := by
  obtain ⟨a', c', hv, hr, _, _⟩ := reads_of_own h
  cases hv
  obtain ⟨_, hr⟩ := hr
  obtain ⟨b', o', he, _, hc⟩ := hr (by omega)
  cases he
  exact hc i hi
/-- one element put behind a slice without spare room: a new row -/
theorem run_append_clip {P : Program} {T ty e : TypeId} (hT : P.underlying T = some (.slice e)) (z : Value) (size bytes : Nat) (hinfo : (P.info? e).map (fun i => (i.zero, i.size, i.bytes)) = some (some z, size, bytes)) (hz : z.cells.size = size) (hs0 : 0 < size) (hby : bytes ≤ 4096)
    (wp : World) (a : Option Addr) (n : Nat) (xs cs : List Value) (hxl : xs.length = n * size) (hn0 : 0 < n) (hxs : ∃ ad, a = some ad ∧ ∀ j u, xs[j]? = some u → wp.cell? (ad.add j) = some u) (hcs : cs.length = size) (hl : n ≤ 1073741824) :
    ∃ v' w', (Builtin.append_ #[T, T] ty #[.slice a n n, .slice (some ⟨wp.heap.size, 0, none⟩) 1 1]).run P (wp.alloc (.cells cs.toArray e)) = .ok v' w' ∧ w'.ownsRow wp.heap.size e size v' (n + 1) (xs ++ cs) ∧ Below wp.heap.size wp w' := by
  obtain ⟨i0, hi, hz0, hz1, hz2⟩ := info_parts hinfo
  obtain ⟨ad, rfl, hc⟩ := hxs
  have hbt : (n + 1) * bytes ≤ 140737488355328 := by
    calc (n + 1) * bytes ≤ (n + 1) * 4096 := Nat.mul_le_mul (Nat.le_refl _) hby
      _ ≤ 140737488355328 := by omega
  have hsz : (wp.alloc (.cells cs.toArray e)).heap.size = wp.heap.size + 1 := by simp
  have hb : Below wp.heap.size wp (wp.alloc (.cells cs.toArray e)) := (Below.refl _ wp).alloc (Nat.le_refl _) _
  obtain ⟨v', w', hrun, r1, r2⟩ := run_append_arg_grows (P := P) (wp.alloc (.cells cs.toArray e)) T ty e i0 z size bytes hT hi hz0 hz1 hz2 hz hs0 ad n n xs hxl (fun j u hj => by
    have h1 := hc j u hj
    have h2 : (ad.add j).block < wp.heap.size := World.block_lt_of_cell? wp _ h1
    rw [hb.cell h2]
    exact h1) ⟨wp.heap.size, 0, none⟩ 1 1 cs (by rw [hcs, Nat.one_mul]) (new_cells _ _ _) (by omega) (by unfold maxLen; omega) hbt
  exact ⟨v', w', hrun, own_mono_size r1 (by rw [hsz]; omega), hb.grown r2 (by rw [hsz]; omega) (fun k hk => by cases hk)⟩
theorem appClip {T e : TypeId} {ops : Array Oper} {rest : List Oper} {o : Oper} {a : Act} {w : World} {Q : Exit → Act → World → Prop} (hgd : o.guard = none) (sl x : Operand) (ho : o.op = .call { callee := .builtin .append, args := #[sl, x], argTypes := #[T, T] })
    (hT : Tryd.prog.underlying T = some (.slice e)) (z : Value) (size bytes : Nat) (hinfo : (Tryd.prog.info? e).map (fun i => (i.zero, i.size, i.bytes)) = some (some z, size, bytes)) (hz : z.cells.size = size) (hs0 : 0 < size) (hby : bytes ≤ 4096)
    (wp : World) (ad : Option Addr) (n : Nat) (xs cs : List Value) (hxl : xs.length = n * size) (hn0 : 0 < n) (hxs : ∃ a, ad = some a ∧ ∀ j u, xs[j]? = some u → wp.cell? (a.add j) = some u) (hcs : cs.length = size) (hs : a.eval sl = .slice ad n n) (hx : a.eval x = .slice (some ⟨wp.heap.size, 0, none⟩) 1 1) (hw : w = wp.alloc (.cells cs.toArray e)) (hl : n ≤ 1073741824)
    (h : ∀ v' w', w'.ownsRow wp.heap.size e size v' (n + 1) (xs ++ cs) → Below wp.heap.size wp w' → wpList Tryd.prog ops Q rest (a.put o.dst v') w') : wpList Tryd.prog ops Q (o :: rest) a w := by
  subst hw
  obtain ⟨v', w', hrun, h1, h2⟩ := run_append_clip (ty := o.type) hT z size bytes hinfo hz hs0 hby wp ad n xs cs hxl hn0 hxs hcs hl
  refine wpList_plain hgd fun K hK => ?_
  unfold Oper.wp
  simp [execOp, ho, resolve, invoke, builtin, hs, hx, hrun, Result.andThen]
  exact hK _ _ (h v' w' h1 h2)
end Go.Proofs.YtnbihjocdlpplaaDoor
