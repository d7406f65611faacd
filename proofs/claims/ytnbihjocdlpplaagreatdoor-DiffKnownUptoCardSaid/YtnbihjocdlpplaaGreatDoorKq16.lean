/- Texts joined, one behind the other (DParP, DParQ, DMark). -/
import Derived.Test.YtnbihjocdlpplaaGreatDoorKq15
/- Lines of a text, each on its own; a patch as a text has the rows that were put: plain law. -/
namespace Go.Proofs.YtnbihjocdlpplaaGreatDoor
set_option linter.unusedVariables false
set_option linter.unusedSimpArgs false
open Go.Lib hiding intOf
def Piece (x : List UInt8) : Prop := ∀ q, q ≠ 13 → spl q x = [x]
def EndP (x : List UInt8) : Prop := ∀ q, q ≠ 13 → spl q x = [x, []]
theorem E4_mono {p q b0 r0 r1 x0 x1 : Nat} (h : E4 p b0 r0 r1 = 0) (hb : b0 ≠ 10) (h0 : x0 = r0 ∨ x0 = 0) (h1 : x1 = r1 ∨ x1 = 0) : E4 q b0 x0 x1 = 0 := by
  unfold E4 at h ⊢
  rw [if_neg hb] at h ⊢
  repeat' split at h
  all_goals (repeat' split) <;> omega
theorem byteN_pre {y z r : List UInt8} (h : y ++ z = r) (i : Nat) : byteN y i = byteN r i ∨ byteN y i = 0 := by
  rcases Nat.lt_or_ge i y.length with h1 | h1
  · exact .inl (by rw [← h, byteN_app_left h1])
  · exact .inr (byteN_out h1)
theorem E4_zero_ne {p b0 b1 b2 : Nat} (h : E4 p b0 b1 b2 = 0) (hp : p = 13 → b0 ≠ 10) : b0 ≠ 10 ∧ b0 ≠ 13 := by
  unfold E4 at h
  repeat' split at h
  all_goals omega
theorem spl_pieces : ∀ (n : Nat) (l : List UInt8), l.length ≤ n → ∀ p : Nat, (p = 13 → byteN l 0 ≠ 10) → ∃ L x, spl p l = L ++ [x] ∧ (∀ s ∈ L, EndP s) ∧ Piece x ∧ (L ++ [x]).flatten = l
  | _, [], _, p, _ => ⟨[], [], (by simp [spl]), fun s hs => (by cases hs), fun q _ => (by simp [spl]), rfl⟩
  | 0, b0 :: r, hn, _, _ => by simp at hn
  | n + 1, b0 :: r, hn, p, hp => by
    have hn' : r.length ≤ n := by simp at hn; omega
    have hE := E4_le p b0.toNat (byteN r 0) (byteN r 1)
    obtain ⟨e, he⟩ : ∃ e, E4 p b0.toNat (byteN r 0) (byteN r 1) = e := ⟨_, rfl⟩
    have hcases : e = 0 ∨ e = 1 ∨ e = 2 ∨ e = 3 := by omega
    rcases hcases with rfl | rfl | rfl | rfl
    · obtain ⟨n10, n13⟩ := E4_zero_ne he hp
      obtain ⟨L, x, h1, h2, h3, h4⟩ := spl_pieces n r hn' b0.toNat (fun h => absurd h n13)
      rw [spl_zero he, h1]
      cases L with
      | nil =>
        have hx : x = r := by simpa using h4
        subst hx
        refine ⟨[], b0 :: x, rfl, fun s hs => (by cases hs), fun q hq => ?_, by simp⟩
        rw [spl_zero (E4_mono he n10 (.inl rfl) (.inl rfl)), h3 _ n13]
        rfl
      | cons y L =>
        refine ⟨(b0 :: y) :: L, x, rfl, fun s hs => ?_, h3, by rw [← h4]; rfl⟩
        rcases List.mem_cons.1 hs with rfl | hs
        · intro q hq
          have hpre : y ++ (L ++ [x]).flatten = r := by rw [← h4]; rfl
          rw [spl_zero (E4_mono he n10 (byteN_pre hpre 0) (byteN_pre hpre 1)), h2 y (by simp) _ n13]
          rfl
        · exact h2 s (List.mem_cons_of_mem _ hs)
    · have hone := E4_one he
      obtain ⟨L, x, h1, h2, h3, h4⟩ := spl_pieces n r hn' b0.toNat (fun h => by rcases hone with ⟨q, _⟩ | ⟨_, q⟩ <;> omega)
      refine ⟨[b0] :: L, x, by rw [spl_one he, h1]; rfl, fun s hs => ?_, h3, by rw [← h4]; rfl⟩
      rcases List.mem_cons.1 hs with rfl | hs
      · intro q hq
        have : E4 q b0.toNat (byteN [] 0) (byteN [] 1) = 1 := by
          have e0 : byteN [] 0 = 0 := rfl
          have e1 : byteN [] 1 = 0 := rfl
          rw [e0, e1]
          unfold E4
          rcases hone with ⟨q1, _⟩ | ⟨q1, _⟩
          · rw [if_pos q1, if_neg hq]
          · rw [if_neg (by omega), if_pos q1, if_neg (by omega)]
        rw [spl_one this]
        simp [spl]
      · exact h2 s hs
    · have hb1 := E4_two he
      have hr0 := byteN_lt hb1
      obtain ⟨b1, r', rfl⟩ : ∃ b r', r = b :: r' := by
        cases r with
        | nil => simp at hr0
        | cons b r' => exact ⟨b, r', rfl⟩
      have hb : b1.toNat ≠ 13 ∧ (∀ q, E4 q b0.toNat (byteN [b1] 0) (byteN [b1] 1) = 2) := by
        have e0 : byteN [b1] 0 = b1.toNat := rfl
        have e1 : byteN [b1] 1 = 0 := rfl
        rw [byteN_cons_zero] at he
        refine ⟨?_, fun q => ?_⟩
        · unfold E4 at he
          repeat' split at he
          all_goals omega
        · rw [e0, e1]
          unfold E4 at he ⊢
          repeat' split at he
          all_goals (repeat' split) <;> omega
      obtain ⟨L, x, h1, h2, h3, h4⟩ := spl_pieces n r' (by simp at hn'; omega) b1.toNat (fun h => absurd h hb.1)
      refine ⟨[b0, b1] :: L, x, by rw [spl_two he, h1]; rfl, fun s hs => ?_, h3, by rw [← h4]; rfl⟩
      rcases List.mem_cons.1 hs with rfl | hs
      · intro q hq
        rw [spl_two (hb.2 q)]
        simp [spl]
      · exact h2 s hs
    · obtain ⟨hb1, hb2⟩ := E4_three he
      have hr1 := byteN_lt hb2
      obtain ⟨b1, b2, r', rfl⟩ : ∃ b b2 r', r = b :: b2 :: r' := by
        match r, hr1 with
        | b :: b2 :: r', _ => exact ⟨b, b2, r', rfl⟩
      have hb : b2.toNat ≠ 13 ∧ (∀ q, E4 q b0.toNat (byteN [b1, b2] 0) (byteN [b1, b2] 1) = 3) := by
        have e0 : byteN (b1 :: b2 :: r') 0 = b1.toNat := rfl
        have e1 : byteN (b1 :: b2 :: r') 1 = b2.toNat := rfl
        have f0 : byteN [b1, b2] 0 = b1.toNat := rfl
        have f1 : byteN [b1, b2] 1 = b2.toNat := rfl
        rw [e0, e1] at he
        refine ⟨?_, fun q => ?_⟩
        · unfold E4 at he
          repeat' split at he
          all_goals omega
        · rw [f0, f1]
          unfold E4 at he ⊢
          repeat' split at he
          all_goals (repeat' split) <;> omega
      obtain ⟨L, x, h1, h2, h3, h4⟩ := spl_pieces n r' (by simp at hn'; omega) b2.toNat (fun h => absurd h hb.1)
      refine ⟨[b0, b1, b2] :: L, x, by rw [spl_three he, h1]; rfl, fun s hs => ?_, h3, by rw [← h4]; rfl⟩
      rcases List.mem_cons.1 hs with rfl | hs
      · intro q hq
        rw [spl_three (hb.2 q)]
        simp [spl]
      · exact h2 s hs
/-- a line: with its end, or the last one without -/
def LineP (s : List UInt8) : Prop := s ≠ [] ∧ (EndP s ∨ Piece s)
theorem endP_ne {s : List UInt8} (h : EndP s) : s ≠ [] := by
  rintro rfl
  have := h 0 (by decide)
  simp [spl] at this
theorem line_splitD {t s : List UInt8} (h : s ∈ splitD t) : LineP s := by
  obtain ⟨L, x, h1, h2, h3, _⟩ := spl_pieces t.length t (Nat.le_refl _) 0 (fun h => by omega)
  unfold splitD at h
  rw [splitA_spl, h1, List.getLast?_concat, List.dropLast_concat] at h
  by_cases hx : x = []
  · rw [if_pos (by rw [hx])] at h
    exact ⟨endP_ne (h2 s h), .inl (h2 s h)⟩
  · rw [if_neg (by simpa using hx)] at h
    rcases List.mem_append.1 h with h | h
    · exact ⟨endP_ne (h2 s h), .inl (h2 s h)⟩
    · rw [List.mem_singleton] at h
      subst h
      exact ⟨hx, .inr h3⟩
theorem ended_spl (s : List UInt8) : endedL s = decide (1 < (spl 0 s).length) := by
  rw [← splitA_spl]
  unfold endedL splitA
  rw [List.length_map]
theorem endP_ended {s : List UInt8} (h : EndP s) : endedL s = true := by rw [ended_spl, h 0 (by decide)]; rfl
theorem piece_ended {s : List UInt8} (h : Piece s) : endedL s = false := by rw [ended_spl, h 0 (by decide)]; rfl
theorem line_checkB {X : List HkI} (h : checkB X = true) : ∀ x ∈ X, ∀ s ∈ x.2, LineP s := by
  intro x hx s hs
  unfold checkB at h
  rw [Bool.and_eq_true, Bool.and_eq_true] at h
  have hk := (okB_mem X 0 h.1.1 x hx).1
  have side : ∀ k : Int, (x.1 = 1 ∨ x.1 = k) → wholeB (sideI k X) = true → LineP s := fun k hk hw => by
    unfold wholeB at hw
    rw [Bool.and_eq_true, beq_iff_eq] at hw
    refine line_splitD (t := (sideI k X).flatten) ?_
    rw [hw.2]
    unfold sideI
    exact List.mem_flatMap.2 ⟨x, hx, by rw [if_pos hk]; exact hs⟩
  by_cases h2 : x.1 = 1 ∨ x.1 = 2
  · exact side 2 h2 h.1.2
  · exact side 3 (by omega) h.2
/-- a line's rows in a patch's text -/
def rowsP (k : Int) (s : List UInt8) : List (List UInt8) := if endedL s = true then [sgn k :: s] else [sgn k :: (s ++ [10]), [92, 10]]
theorem rowP_flat (k : Int) (s : List UInt8) : rowP k s = (rowsP k s).flatten := by
  unfold rowP rowsP tailP
  split <;> simp
theorem sgn_free (k : Int) : sgn k = 32 ∨ sgn k = 45 ∨ sgn k = 43 := by
  unfold sgn
  repeat' split
  all_goals simp
theorem sgn_spl {k : Int} {s : List UInt8} {q : Nat} : spl q (sgn k :: s) = consH (sgn k) (spl (sgn k).toNat s) ∧ (sgn k).toNat ≠ 13 ∧ free (byteN (sgn k :: s) 0) := by
  have h : (sgn k).toNat = 32 ∨ (sgn k).toNat = 45 ∨ (sgn k).toNat = 43 := by
    rcases sgn_free k with e | e | e <;> rw [e] <;> decide
  refine ⟨spl_zero ?_, by omega, ?_⟩
  · unfold E4
    rw [if_neg (by omega), if_neg (by omega), if_neg (by omega), if_neg (by omega)]
  · rw [byteN_cons_zero]
    unfold free
    omega
theorem piece_ten : ∀ (s : List UInt8) (q : Nat), spl q s = [s] → s ≠ [] → spl q (s ++ [10]) = [s ++ [10], []]
  | [], _, _, h => absurd rfl h
  | b0 :: r, q, h, _ => by
    have hE := E4_le q b0.toNat (byteN r 0) (byteN r 1)
    obtain ⟨e, he⟩ : ∃ e, E4 q b0.toNat (byteN r 0) (byteN r 1) = e := ⟨_, rfl⟩
    have hcases : e = 0 ∨ e = 1 ∨ e = 2 ∨ e = 3 := by omega
    have hlen : ∀ (x : List UInt8) (p : Nat) (l : List UInt8), x :: spl p l = [b0 :: r] → False := fun x p l hh => by
      have := spl_ne p l
      simp only [List.cons.injEq] at hh
      exact this hh.2
    rcases hcases with rfl | rfl | rfl | rfl
    · rw [spl_zero he] at h
      have h2 := consH_inj (spl_ne _ _) h
      by_cases hr : r = []
      · subst hr
        have e0 : byteN ([] : List UInt8) 0 = 0 := rfl
        have e1 : byteN ([] : List UInt8) 1 = 0 := rfl
        rw [e0, e1] at he
        have hq : E4 q b0.toNat (byteN [10] 0) (byteN [10] 1) = 0 ∧ b0.toNat ≠ 13 := by
          have f0 : byteN [10] 0 = 10 := rfl
          have f1 : byteN [10] 1 = 0 := rfl
          rw [f0, f1]
          unfold E4 at he ⊢
          repeat' split at he
          all_goals constructor <;> (repeat' split) <;> omega
        show spl q (b0 :: [10]) = _
        rw [spl_zero hq.1]
        have h10 : spl b0.toNat [10] = [[10], []] := by
          rw [spl_one (by show E4 _ 10 _ _ = 1; rw [E4_ten, if_neg hq.2])]
          simp [spl]
        rw [h10]
        rfl
      · have hrl : 0 < r.length := List.length_pos_iff.2 hr
        have hE2 : E4 q b0.toNat (byteN (r ++ [10]) 0) (byteN (r ++ [10]) 1) = 0 := by
          rw [byteN_app_left hrl]
          by_cases hr1 : 1 < r.length
          · rw [byteN_app_left hr1]; exact he
          · rw [byteN_app_right (by omega), show 1 - r.length = 0 by omega]
            have f0 : byteN [10] 0 = 10 := rfl
            rw [f0]
            rw [byteN_out (l := r) (i := 1) (by omega)] at he
            unfold E4 at he ⊢
            repeat' split at he
            all_goals (repeat' split) <;> omega
        rw [List.cons_append, spl_zero hE2, piece_ten r _ h2 hr]
        rfl
    · rw [spl_one he] at h
      exact absurd h (fun h => hlen _ _ _ h)
    · have hr0 := byteN_lt (E4_two he)
      obtain ⟨b1, r', rfl⟩ : ∃ b r', r = b :: r' := by
        cases r with
        | nil => simp at hr0
        | cons b r' => exact ⟨b, r', rfl⟩
      rw [spl_two he] at h
      exact absurd h (fun h => hlen _ _ _ h)
    · have hr1 := byteN_lt (E4_three he).2
      obtain ⟨b1, b2, r', rfl⟩ : ∃ b b2 r', r = b :: b2 :: r' := by
        match r, hr1 with
        | b :: b2 :: r', _ => exact ⟨b, b2, r', rfl⟩
      rw [spl_three he] at h
      exact absurd h (fun h => hlen _ _ _ h)
def RowP (r : List UInt8) : Prop := (∀ q, spl q r = [r, []]) ∧ free (byteN r 0)
theorem rows_row {k : Int} {s : List UInt8} (h : LineP s) : ∀ r ∈ rowsP k s, RowP r := by
  intro r hr
  unfold rowsP at hr
  rcases h.2 with he | hp
  · rw [if_pos (endP_ended he), List.mem_singleton] at hr
    subst hr
    obtain ⟨h1, h2, h3⟩ := sgn_spl (k := k) (s := s) (q := 0)
    refine ⟨fun q => ?_, h3⟩
    rw [(sgn_spl (k := k) (s := s) (q := q)).1, he _ h2]
    rfl
  · rw [if_neg (by rw [piece_ended hp]; decide)] at hr
    simp only [List.mem_cons, List.not_mem_nil, or_false] at hr
    rcases hr with rfl | rfl
    · obtain ⟨h1, h2, h3⟩ := sgn_spl (k := k) (s := s ++ [10]) (q := 0)
      refine ⟨fun q => ?_, h3⟩
      rw [(sgn_spl (k := k) (s := s ++ [10]) (q := q)).1, piece_ten s _ (hp _ h2) h.1]
      rfl
    · refine ⟨fun q => ?_, by show free 92; unfold free; omega⟩
      rw [spl_zero (by show E4 q 92 10 0 = 0; unfold E4; simp), spl_one (by show E4 92 10 _ _ = 1; rw [E4_ten, if_neg (by decide)])]
      simp [spl, consH]
theorem spl_rows : ∀ (R : List (List UInt8)) (p : Nat), (∀ r ∈ R, RowP r) → spl p R.flatten = R ++ [[]]
  | [], p, _ => by simp [spl]
  | r :: R, p, h => by
    have hr := h r (by simp)
    have hR := fun x hx => h x (List.mem_cons_of_mem _ hx)
    have hfree : free (byteN R.flatten 0) := by
      cases R with
      | nil => show free 0; unfold free; omega
      | cons r' R =>
        have h1 := hR r' (by simp)
        have hne : r' ≠ [] := by
          rintro rfl
          have := h1.1 0
          simp [spl] at this
        rw [List.flatten_cons, byteN_app_left (List.length_pos_iff.2 hne)]
        exact h1.2
    rw [List.flatten_cons, spl_cat _ r (Nat.le_refl _) p _ (hr.1 p) (.inr hfree), spl_rows R _ hR]
    rfl
def rowsX (X : List HkI) : List (List UInt8) := X.flatMap fun h => h.2.flatMap (rowsP h.1)
theorem printK_rows (X : List HkI) : printK X = (rowsX X).flatten := by
  have hrow : ∀ (k : Int) (L : List (List UInt8)), L.flatMap (rowP k) = (L.flatMap (rowsP k)).flatten := fun k L => by
    induction L with
    | nil => rfl
    | cons s L ih => rw [List.flatMap_cons, List.flatMap_cons, List.flatten_append, ih, rowP_flat]
  unfold printK rowsX
  induction X with
  | nil => rfl
  | cons x X ih => rw [List.flatMap_cons, List.flatMap_cons, List.flatten_append, ih, hrow]
/-- a patch's text has these rows -/
theorem splitD_print {X : List HkI} (h : checkB X = true) : splitD (printK X) = rowsX X := by
  have hl := line_checkB h
  have hr : ∀ r ∈ rowsX X, RowP r := fun r hr => by
    unfold rowsX at hr
    obtain ⟨x, hx, hr⟩ := List.mem_flatMap.1 hr
    obtain ⟨s, hs, hr⟩ := List.mem_flatMap.1 hr
    exact rows_row (hl x hx s hs) r hr
  unfold splitD
  rw [splitA_spl, printK_rows, spl_rows _ _ hr, List.getLast?_concat, if_pos rfl, List.dropLast_concat]
end Go.Proofs.YtnbihjocdlpplaaGreatDoor
/- Parse of a patch's text, as a plain function; of what was printed it is the patch. -/
namespace Go.Proofs.YtnbihjocdlpplaaGreatDoor
set_option linter.unusedVariables false
set_option linter.unusedSimpArgs false
open Go.Lib hiding intOf
structure PSt where
  H : List Hk
  opn : Bool
  pos : Nat
def kindOf (r : List UInt8) : Nat := if r.head? = some 32 then 1 else if r.head? = some 45 then 2 else if r.head? = some 43 then 3 else 0
/-- a line put behind, in the last hunk if it is of that kind -/
def lastPut (H : List Hk) (k : Nat) (s : List UInt8) : List Hk :=
  match H.getLast? with
  | some h => if h.1 = k then H.dropLast ++ [(k, h.2 ++ [s])] else H ++ [(k, [s])]
  | none => [(k, [s])]
/-- the last line's last byte taken off -/
def cutLast (L : List (List UInt8)) : List (List UInt8) := L.dropLast ++ [(L.getLast?.getD []).dropLast]
def lastCut (H : List Hk) : List Hk :=
  match H.getLast? with
  | some h => H.dropLast ++ [(h.1, cutLast h.2)]
  | none => []
def endsTen (r : List UInt8) : Bool := decide (r.getLast? = some 10)
def stepPar (st : PSt) (r : List UInt8) : Option PSt :=
  if kindOf r ≠ 0 then some ⟨lastPut st.H (kindOf r) r.tail, endsTen r, st.pos + r.length⟩
  else if r = [92, 10] ∧ st.opn = true then some ⟨lastCut st.H, false, st.pos + r.length⟩
  else none
def parGo : List (List UInt8) → PSt → Nat ⊕ List Hk
  | [], st => .inr st.H
  | r :: R, st => match stepPar st r with
    | none => .inl st.pos
    | some st' => parGo R st'
/-- what Parse says: where the fault is, or the patch -/
def parseOf (s : List UInt8) : Nat ⊕ List Hk :=
  match parGo (splitD s) ⟨[], false, 0⟩ with
  | .inl p => .inl p
  | .inr H => if checkB (H.map toI) = true ∧ printK (H.map toI) = s then .inr H else .inl s.length
theorem lastPut_same (H : List Hk) (k : Nat) (L : List (List UInt8)) (s : List UInt8) : lastPut (H ++ [(k, L)]) k s = H ++ [(k, L ++ [s])] := by
  unfold lastPut
  rw [List.getLast?_concat]
  dsimp only
  rw [if_pos rfl, List.dropLast_concat]
theorem lastPut_new (H : List Hk) (k : Nat) (s : List UInt8) (h : ∀ x, H.getLast? = some x → x.1 ≠ k) : lastPut H k s = H ++ [(k, [s])] := by
  unfold lastPut
  cases hl : H.getLast? with
  | none =>
    rw [List.getLast?_eq_none_iff] at hl
    subst hl
    rfl
  | some x =>
    dsimp only
    rw [if_neg (h x hl)]
theorem lastCut_snoc (H : List Hk) (k : Nat) (L : List (List UInt8)) : lastCut (H ++ [(k, L)]) = H ++ [(k, cutLast L)] := by
  unfold lastCut
  rw [List.getLast?_concat]
  dsimp only
  rw [List.dropLast_concat]
theorem cutLast_snoc (L : List (List UInt8)) (s : List UInt8) : cutLast (L ++ [s]) = L ++ [s.dropLast] := by
  unfold cutLast
  rw [List.getLast?_concat, List.dropLast_concat]
  rfl
theorem kind_sgn (k : Nat) (hk : 1 ≤ k ∧ k ≤ 3) (s : List UInt8) : kindOf (sgn (k : Int) :: s) = k := by
  have h3 : k = 1 ∨ k = 2 ∨ k = 3 := by omega
  rcases h3 with rfl | rfl | rfl <;> simp [kindOf, sgn]
theorem par_row (k : Nat) (hk : 1 ≤ k ∧ k ≤ 3) (s : List UInt8) (R : List (List UInt8)) (st : PSt) : parGo ((sgn (k : Int) :: s) :: R) st = parGo R ⟨lastPut st.H k s, endsTen (sgn (k : Int) :: s), st.pos + s.length + 1⟩ := by
  rw [parGo]
  unfold stepPar
  rw [kind_sgn k hk, if_pos (by omega)]
  rfl
/-- a line's rows put the line down -/
theorem par_line (k : Nat) (hk : 1 ≤ k ∧ k ≤ 3) (s : List UInt8) (R : List (List UInt8)) (st : PSt) : ∃ o p, parGo (rowsP (k : Int) s ++ R) st = parGo R ⟨lastPut st.H k s, o, p⟩ := by
  unfold rowsP
  split
  · exact ⟨_, _, par_row k hk s R st⟩
  · refine ⟨false, st.pos + (s ++ [10]).length + 1 + 2, ?_⟩
    rw [List.cons_append, par_row k hk]
    have ho : endsTen (sgn (k : Int) :: (s ++ [10])) = true := by
      unfold endsTen
      rw [← List.cons_append, List.getLast?_concat]
      rfl
    rw [ho]
    show parGo ([92, 10] :: R) _ = _
    rw [parGo]
    unfold stepPar
    have hk0 : kindOf [92, 10] = 0 := by decide
    rw [hk0, if_neg (by omega), if_pos ⟨rfl, rfl⟩]
    dsimp only
    have hcut : lastCut (lastPut st.H k (s ++ [10])) = lastPut st.H k s := by
      unfold lastPut
      cases hl : st.H.getLast? with
      | none =>
        dsimp only
        rw [show ([(k, [s ++ [10]])] : List Hk) = [] ++ [(k, [] ++ [s ++ [10]])] from rfl, lastCut_snoc, cutLast_snoc, List.dropLast_concat]
        rfl
      | some x =>
        dsimp only
        split
        · rw [lastCut_snoc, cutLast_snoc, List.dropLast_concat]
        · rw [lastCut_snoc, show [s ++ [10]] = [] ++ [s ++ [10]] from rfl, cutLast_snoc, List.dropLast_concat]
          rfl
    rw [hcut]
    rfl
theorem par_more (k : Nat) (hk : 1 ≤ k ∧ k ≤ 3) : ∀ (L : List (List UInt8)) (H : List Hk) (L0 : List (List UInt8)) (o : Bool) (p : Nat) (R : List (List UInt8)), ∃ o' p', parGo (L.flatMap (rowsP (k : Int)) ++ R) ⟨H ++ [(k, L0)], o, p⟩ = parGo R ⟨H ++ [(k, L0 ++ L)], o', p'⟩
  | [], H, L0, o, p, R => ⟨o, p, by simp⟩
  | s :: L, H, L0, o, p, R => by
    obtain ⟨o1, p1, h1⟩ := par_line k hk s (L.flatMap (rowsP (k : Int)) ++ R) ⟨H ++ [(k, L0)], o, p⟩
    obtain ⟨o2, p2, h2⟩ := par_more k hk L H (L0 ++ [s]) o1 p1 R
    refine ⟨o2, p2, ?_⟩
    rw [List.flatMap_cons, List.append_assoc, h1]
    dsimp only
    rw [lastPut_same, h2, List.append_assoc]
    rfl
theorem par_hunk (k : Nat) (hk : 1 ≤ k ∧ k ≤ 3) (L : List (List UInt8)) (hL : L ≠ []) (st : PSt) (h : ∀ x, st.H.getLast? = some x → x.1 ≠ k) (R : List (List UInt8)) : ∃ o' p', parGo (L.flatMap (rowsP (k : Int)) ++ R) st = parGo R ⟨st.H ++ [(k, L)], o', p'⟩ := by
  cases L with
  | nil => exact absurd rfl hL
  | cons s L =>
    obtain ⟨o1, p1, h1⟩ := par_line k hk s (L.flatMap (rowsP (k : Int)) ++ R) st
    obtain ⟨o2, p2, h2⟩ := par_more k hk L st.H [s] o1 p1 R
    refine ⟨o2, p2, ?_⟩
    rw [List.flatMap_cons, List.append_assoc, h1, lastPut_new _ _ _ h, h2]
    rfl
theorem par_all : ∀ (X H : List Hk) (o : Bool) (p : Nat), okKinds (lastK 0 H) X → (∀ x ∈ H, 1 ≤ x.1) → parGo (rowsX (X.map toI)) ⟨H, o, p⟩ = .inr (H ++ X)
  | [], H, o, p, _, _ => by simp [rowsX, parGo]
  | (k, L) :: X, H, o, p, hok, hH => by
    obtain ⟨⟨hk, hL, hne, _⟩, hok2⟩ := hok
    dsimp only at hk hL hne hok2
    have hlast : ∀ x, H.getLast? = some x → x.1 ≠ k := fun x hx => by
      obtain ⟨D, rfl⟩ : ∃ D, H = D ++ [x] := by
        rcases List.eq_nil_or_concat H with rfl | ⟨D, y, rfl⟩
        · cases hx
        · rw [List.concat_eq_append, List.getLast?_concat] at hx
          cases hx
          exact ⟨D, List.concat_eq_append⟩
      have := lastK_app D x.1 x.2 0
      rw [show (x.1, x.2) = x from rfl] at this
      rw [this] at hne
      exact fun e => hne e.symm
    obtain ⟨o', p', h1⟩ := par_hunk k hk L hL ⟨H, o, p⟩ hlast (rowsX (X.map toI))
    have e : rowsX (((k, L) :: X).map toI) = L.flatMap (rowsP (k : Int)) ++ rowsX (X.map toI) := by
      unfold rowsX
      rw [List.map_cons, List.flatMap_cons]
      rfl
    rw [e, h1]
    dsimp only
    rw [par_all X (H ++ [(k, L)]) o' p' (by rw [lastK_app]; exact hok2) (fun x hx => by
      rcases List.mem_append.1 hx with hx | hx
      · exact hH x hx
      · rw [List.mem_singleton] at hx; subst hx; exact hk.1)]
    simp
/-- of what was printed, Parse makes the patch again -/
theorem parse_print {H : List Hk} (h : checkB (H.map toI) = true) : parseOf (printK (H.map toI)) = .inr H := by
  unfold parseOf
  have hok : okKinds 0 H := by
    refine (okB_to H 0).1 ?_
    unfold checkB at h
    rw [Bool.and_eq_true, Bool.and_eq_true] at h
    exact h.1.1
  rw [splitD_print h, par_all H [] false 0 hok (fun x hx => by cases hx), List.nil_append]
  dsimp only
  rw [if_pos ⟨h, rfl⟩]
/-- bounds: no more lines than rows, no more bytes than these have -/
theorem lastPut_sums (H : List Hk) (k : Nat) (s : List UInt8) : linesK ((lastPut H k s).map toI) ≤ linesK (H.map toI) + 1 ∧ bytesK ((lastPut H k s).map toI) ≤ bytesK (H.map toI) + s.length ∧ (lastPut H k s).length ≤ H.length + 1 := by
  rcases List.eq_nil_or_concat H with rfl | ⟨D, x, rfl⟩
  · unfold lastPut linesK bytesK; simp [toI]
  · rw [List.concat_eq_append]
    unfold lastPut
    rw [List.getLast?_concat]
    dsimp only
    split
    · rw [List.dropLast_concat]
      unfold linesK bytesK
      simp [toI]
      omega
    · unfold linesK bytesK
      simp [toI]
      omega
theorem cut_sums (L : List (List UInt8)) (hL : L ≠ []) : (cutLast L).length = L.length ∧ (cutLast L).flatten.length ≤ L.flatten.length := by
  rcases List.eq_nil_or_concat L with rfl | ⟨D, x, rfl⟩
  · exact absurd rfl hL
  · rw [List.concat_eq_append, cutLast_snoc]
    simp
theorem lastCut_sums (H : List Hk) (h : ∀ x, H.getLast? = some x → x.2 ≠ []) : linesK ((lastCut H).map toI) ≤ linesK (H.map toI) ∧ bytesK ((lastCut H).map toI) ≤ bytesK (H.map toI) ∧ (lastCut H).length ≤ H.length := by
  rcases List.eq_nil_or_concat H with rfl | ⟨D, x, rfl⟩
  · exact ⟨Nat.le_refl _, Nat.le_refl _, Nat.le_refl _⟩
  · rw [List.concat_eq_append] at h ⊢
    obtain ⟨k, L⟩ := x
    have hL : L ≠ [] := h _ List.getLast?_concat
    have hc := cut_sums L hL
    rw [lastCut_snoc]
    unfold linesK bytesK
    simp [toI]
    have h1 := hc.1
    have h2 := hc.2
    simp only [List.length_flatten] at h2
    omega
end Go.Proofs.YtnbihjocdlpplaaGreatDoor
/- The mark of a place of a list of texts; rows of texts that are marked. -/
namespace Go.Proofs.YtnbihjocdlpplaaGreatDoor
set_option linter.unusedVariables false
set_option linter.unusedSimpArgs false
open Go.RowKit
open Go.Lib
def mk3 (i k : Nat) : List UInt8 := [UInt8.ofNat i, UInt8.ofNat k, UInt8.ofNat (k / 256)]
theorem wrap8 (i : Nat) : IntKind.u8.wrap (i : Int) = ((UInt8.ofNat i).toNat : Int) := by
  rw [UInt8.toNat_ofNat']
  simp [IntKind.wrap, IntKind.bits, IntKind.signed]
theorem tdiv256 (k : Nat) : (k : Int).tdiv 256 = ((k / 256 : Nat) : Int) := by
  rw [Int.tdiv_eq_ediv_of_nonneg (by omega)]
  omega
theorem conv_lit (w : World) (l : List UInt8) : (convert 85 9 (.slice (some ⟨w.heap.size, 0, none⟩) l.length l.length)).run Tryz.prog (w.alloc (.cells (l.map B8).toArray 5)) = .ok (.string (bstr l)) (w.alloc (.cells (l.map B8).toArray 5)) := by
  have hr : Row (w.alloc (.cells (l.map B8).toArray 5)) w.heap.size 5 (l.map B8) := row_new w _ _
  have h := hr.reads 0 l.length (by simp)
  rw [List.drop_zero, List.take_of_length_le (by simp)] at h
  exact run_bytes_str _ _ _ 5 Tryz.underlying85 Tryz.underlying5 Tryz.underlying9 _ _ _ l h
set_option maxHeartbeats 1000000 in
theorem textMarkC (w : World) (i k : Nat) (hi : i ≤ 1099511627776) (hk : k ≤ 1099511627776) :
    Calls Tryz.prog 75 #[.int .i64 (i : Int), .int .i64 (k : Int)] w fun e w' => e = .returned (.string (bstr (mk3 i k))) ∧ Below w.heap.size w w' := by
  have h1 := wrap8 i
  have h2 := wrap8 k
  have h3 := wrap8 (k / 256)
  have h4 := tdiv256 k
  obtain ⟨q, hq⟩ : ∃ q, k / 256 = q := ⟨_, rfl⟩
  obtain ⟨a, ha⟩ : ∃ a, UInt8.ofNat i = a := ⟨_, rfl⟩
  obtain ⟨b, hb⟩ : ∃ a, UInt8.ofNat k = a := ⟨_, rfl⟩
  rw [hq] at h3 h4
  obtain ⟨c, hc⟩ : ∃ a, UInt8.ofNat q = a := ⟨_, rfl⟩
  have hm : mk3 i k = [a, b, c] := by unfold mk3; rw [hq, ha, hb, hc]
  rw [ha] at h1
  rw [hb] at h2
  rw [hc] at h3
  have h5 : IntKind.i64.wrap (q : Int) = (q : Int) := IntWalk.i64_in _ (by omega)
  have HM := Lib.hid hm
  have hcv : (convert 85 9 (.slice (some ⟨w.heap.size, 0, none⟩) 3 3)).run Tryz.prog (w.alloc (.cells #[.int .u8 (a.toNat : Int), .int .u8 (b.toNat : Int), .int .u8 (c.toNat : Int)] 5)) = .ok (.string (bstr [a, b, c])) (w.alloc (.cells #[.int .u8 (a.toNat : Int), .int .u8 (b.toNat : Int), .int .u8 (c.toNat : Int)] 5)) := conv_lit w [a, b, c]
  clear hq ha hb hc hm
  go_enter Tryz.func75, Tryz.ntmps75
  go_wp2
  go_ret
  exact ⟨by rw [HM.out]; rfl, (Below.refl _ w).alloc (Nat.le_refl _) _⟩
/-- a row: its block, its first place, its length; there is no spare room -/
abbrev R4 := Nat × Nat × Nat
def rowT (r : R4) : Value := .slice (some ⟨r.1, r.2.1, none⟩) r.2.2 r.2.2
def DistT (rows : List R4) : Prop := ∀ (j j' : Nat) (r r' : R4), rows[j]? = some r → rows[j']? = some r' → r.1 = r'.1 → j = j'
/-- every row lies in a block of texts; of the rows ahead of i all are marked, of row i the first k places -/
def MkT (w : World) (rows : List R4) (i k : Nat) : Prop :=
  ∀ (j : Nat) (r : R4), rows[j]? = some r → ∃ cur : Array Value, w.heap[r.1]? = some (.cells cur 9 (0, 0)) ∧ r.2.1 + r.2.2 ≤ cur.size ∧ ∀ t, t < r.2.2 → (j < i ∨ (j = i ∧ t < k)) → cur[r.2.1 + t]? = some (S1 (mk3 j t))
theorem MkT.keep {w w' : World} {rows : List R4} {i k : Nat} (h : MkT w rows i k) (hb : Below w.heap.size w w') : MkT w' rows i k := by
  intro j r hj
  obtain ⟨cur, h1, h2, h3⟩ := h j r hj
  exact ⟨cur, (hb.block r.1 (Array.getElem?_eq_some_iff.1 h1).1).trans h1, h2, h3⟩
theorem MkT.nextRow {w : World} {rows : List R4} {i : Nat} {r : R4} (h : MkT w rows i r.2.2) (hr : rows[i]? = some r) : MkT w rows (i + 1) 0 := by
  intro j r' hj
  obtain ⟨cur, h3, h4, h5⟩ := h j r' hj
  refine ⟨cur, h3, h4, fun t ht hor => h5 t ht ?_⟩
  rcases hor with hor | hor
  · by_cases e : j = i
    · subst e
      rw [hr] at hj
      obtain rfl := Option.some.inj hj
      exact .inr ⟨rfl, ht⟩
    · exact .inl (by omega)
  · omega
theorem MkT.mark {w : World} {rows : List R4} {i k : Nat} {r : R4} (h : MkT w rows i k) (hd : DistT rows) (hr : rows[i]? = some r) (hk : k < r.2.2) : MkT (w.setCell ⟨r.1, r.2.1 + k, none⟩ (S1 (mk3 i k))) rows i (k + 1) := by
  intro j r' hj
  obtain ⟨cur, h3, h4, h5⟩ := h j r' hj
  by_cases e : r'.1 = r.1
  · obtain rfl := hd j i r' r hj hr e
    rw [hr] at hj
    obtain rfl := Option.some.inj hj
    refine ⟨cur.setIfInBounds (r.2.1 + k) (S1 (mk3 j k)), ?_, by simpa using h4, fun t ht hor => ?_⟩
    · simp [World.setCell, Array.getElem?_modify, h3]
    · by_cases et : t = k
      · subst et
        exact Array.getElem?_setIfInBounds_self_of_lt (by omega)
      · rw [Array.getElem?_setIfInBounds_ne (by omega)]
        exact h5 t ht (by omega)
  · refine ⟨cur, ?_, h4, fun t ht hor => h5 t ht ?_⟩
    · rw [Below.heap_setCell _ _ _ _ e]; exact h3
    · rcases hor with hor | ⟨rfl, hor⟩
      · exact .inl hor
      · rw [hr] at hj; exact absurd (congrArg (·.1) (Option.some.inj hj)).symm e
theorem MkT.cell {w : World} {rows : List R4} {i k : Nat} {r : R4} (h : MkT w rows i k) {j : Nat} (hr : rows[j]? = some r) {t : Nat} (ht : t < r.2.2) : ∃ u, w.cell? ⟨r.1, r.2.1 + t, none⟩ = some u ∧ w.frozen? ⟨r.1, r.2.1 + t, none⟩ = false := by
  obtain ⟨cur, h3, h4, h5⟩ := h j r hr
  have hlt : r.2.1 + t < cur.size := by omega
  refine ⟨cur[r.2.1 + t], ?_, ?_⟩
  · simp [World.cell?, h3]
  · simp [World.frozen?, h3]
theorem MkT.marked {w : World} {rows : List R4} {i k : Nat} {r : R4} (h : MkT w rows i k) {j : Nat} (hr : rows[j]? = some r) {t : Nat} (ht : t < r.2.2) (hj : j < i) : w.cell? ⟨r.1, r.2.1 + t, none⟩ = some (.string (bstr (mk3 j t))) := by
  obtain ⟨cur, h3, h4, h5⟩ := h j r hr
  have := h5 t ht (.inl hj)
  simp [World.cell?, h3, this, S1]
theorem MkT.lt {w : World} {rows : List R4} {i k : Nat} {r : R4} (h : MkT w rows i k) {j : Nat} (hr : rows[j]? = some r) : r.1 < w.heap.size := by
  obtain ⟨cur, h3, _⟩ := h j r hr
  exact (Array.getElem?_eq_some_iff.1 h3).1
def marks3 (i n : Nat) : List (List UInt8) := (List.range n).map fun k => mk3 i k
theorem marks3_len (i n : Nat) : (marks3 i n).length = n := by simp [marks3]
theorem marks3_next (i n : Nat) : marks3 i (n + 1) = marks3 i n ++ [mk3 i n] := by simp [marks3, List.range_succ]
theorem marks3_at (i n k : Nat) (h : k < n) : (marks3 i n)[k]? = some (mk3 i k) := by simp [marks3, h]
/-- a row that is marked whole reads as its marks -/
theorem MkT.reads {w : World} {rows : List R4} {i k : Nat} {r : R4} (h : MkT w rows i k) {j : Nat} (hr : rows[j]? = some r) (hj : j < i) : ReadsS w (some ⟨r.1, r.2.1, none⟩) r.2.2 (marks3 j r.2.2) := by
  refine ⟨by rw [List.length_map, marks3_len], fun _ => ⟨r.1, r.2.1, rfl, h.lt hr, fun t ht => ?_⟩⟩
  rw [h.marked hr ht hj, List.getElem?_map, marks3_at j _ t ht]
  rfl
theorem own_keep_ty {w w' : World} {row : Option Nat} {B : Nat} {e : TypeId} {v : Value} {n : Nat} {xs : List Value} (h : w.ownsRow B e 1 v n xs) (hg : w.grownBy w' row) (hne : ∀ b, row = some b → ∃ (cur : Array Value) (e' : TypeId) (fr : Nat × Nat), w.heap[b]? = some (.cells cur e' fr) ∧ e' ≠ e) : w'.ownsRow B e 1 v n xs := by
  refine h.kept hg ?_
  rcases h.2 with ⟨rfl, _⟩ | ⟨g, cap, cur, rfl, _, hgr, _⟩
  · exact .inl rfl
  · refine .inr fun e' => ?_
    have e' : some g = row := e'
    obtain ⟨cur', t', fr, h1, h2⟩ := hne g e'.symm
    rw [hgr] at h1
    cases h1
    exact h2 rfl
theorem own_at {w : World} {B : Nat} {e : TypeId} {b o m c : Nat} {xs : List Value} (h : w.ownsRow B e 1 (.slice (some ⟨b, o, none⟩) m c) m xs) {i : Nat} (hi : i < m) : w.cell? ⟨b, o + i, none⟩ = xs[i]? := by
  obtain ⟨a', c', hv, hr, _, _⟩ := reads_of_own h
  cases hv
  obtain ⟨_, hr⟩ := hr
  obtain ⟨b', o', he, _, hc⟩ := hr (by omega)
  cases he
  exact hc i hi
/-- one element put behind a slice without spare room: a new row -/
theorem run_append_clip {P : Program} {T ty e : TypeId} (hT : P.underlying T = some (.slice e)) (z : Value) (size bytes : Nat) (hinfo : (P.info? e).map (fun i => (i.zero, i.size, i.bytes)) = some (some z, size, bytes)) (hz : z.cells.size = size) (hs0 : 0 < size) (hby : bytes ≤ 4096)
    (wp : World) (a : Option Addr) (n : Nat) (xs cs : List Value) (hxl : xs.length = n * size) (hn0 : 0 < n) (hxs : ∃ ad, a = some ad ∧ ∀ j u, xs[j]? = some u → wp.cell? (ad.add j) = some u) (hcs : cs.length = size) (hl : n ≤ 1073741824) :
    ∃ v' w', (Builtin.append_ #[T, T] ty #[.slice a n n, .slice (some ⟨wp.heap.size, 0, none⟩) 1 1]).run P (wp.alloc (.cells cs.toArray e)) = .ok v' w' ∧ w'.ownsRow wp.heap.size e size v' (n + 1) (xs ++ cs) ∧ Below wp.heap.size wp w' := by
  obtain ⟨i0, hi, hz0, hz1, hz2⟩ := info_parts hinfo
  obtain ⟨ad, rfl, hc⟩ := hxs
  have hbt : (n + 1) * bytes ≤ 140737488355328 := by
    calc (n + 1) * bytes ≤ (n + 1) * 4096 := Nat.mul_le_mul (Nat.le_refl _) hby
      _ ≤ 140737488355328 := by omega
  have hsz : (wp.alloc (.cells cs.toArray e)).heap.size = wp.heap.size + 1 := by simp
  have hb : Below wp.heap.size wp (wp.alloc (.cells cs.toArray e)) := (Below.refl _ wp).alloc (Nat.le_refl _) _
  obtain ⟨v', w', hrun, r1, r2⟩ := run_append_arg_grows (P := P) (wp.alloc (.cells cs.toArray e)) T ty e i0 z size bytes hT hi hz0 hz1 hz2 hz hs0 ad n n xs hxl (fun j u hj => by
    have h1 := hc j u hj
    have h2 : (ad.add j).block < wp.heap.size := World.block_lt_of_cell? wp _ h1
    rw [hb.cell h2]
    exact h1) ⟨wp.heap.size, 0, none⟩ 1 1 cs (by rw [hcs, Nat.one_mul]) (new_cells _ _ _) (by omega) (by unfold maxLen; omega) hbt
  exact ⟨v', w', hrun, own_mono_size r1 (by rw [hsz]; omega), hb.grown r2 (by rw [hsz]; omega) (fun k hk => by cases hk)⟩
theorem appClip {T e : TypeId} {ops : Array Oper} {rest : List Oper} {o : Oper} {a : Act} {w : World} {Q : Exit → Act → World → Prop} (hgd : o.guard = none) (sl x : Operand) (ho : o.op = .call { callee := .builtin .append, args := #[sl, x], argTypes := #[T, T] })
    (hT : Tryz.prog.underlying T = some (.slice e)) (z : Value) (size bytes : Nat) (hinfo : (Tryz.prog.info? e).map (fun i => (i.zero, i.size, i.bytes)) = some (some z, size, bytes)) (hz : z.cells.size = size) (hs0 : 0 < size) (hby : bytes ≤ 4096)
    (wp : World) (ad : Option Addr) (n : Nat) (xs cs : List Value) (hxl : xs.length = n * size) (hn0 : 0 < n) (hxs : ∃ a, ad = some a ∧ ∀ j u, xs[j]? = some u → wp.cell? (a.add j) = some u) (hcs : cs.length = size) (hs : a.eval sl = .slice ad n n) (hx : a.eval x = .slice (some ⟨wp.heap.size, 0, none⟩) 1 1) (hw : w = wp.alloc (.cells cs.toArray e)) (hl : n ≤ 1073741824)
    (h : ∀ v' w', w'.ownsRow wp.heap.size e size v' (n + 1) (xs ++ cs) → Below wp.heap.size wp w' → wpList Tryz.prog ops Q rest (a.put o.dst v') w') : wpList Tryz.prog ops Q (o :: rest) a w := by
  subst hw
  obtain ⟨v', w', hrun, h1, h2⟩ := run_append_clip (ty := o.type) hT z size bytes hinfo hz hs0 hby wp ad n xs cs hxl hn0 hxs hcs hl
  refine wpList_plain hgd fun K hK => ?_
  unfold Oper.wp
  simp [execOp, ho, resolve, invoke, builtin, hs, hx, hrun, Result.andThen]
  exact hK _ _ (h v' w' h1 h2)
end Go.Proofs.YtnbihjocdlpplaaGreatDoor
