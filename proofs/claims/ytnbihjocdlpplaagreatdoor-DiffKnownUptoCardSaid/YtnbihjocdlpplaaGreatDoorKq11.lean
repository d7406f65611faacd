/- Texts joined, one behind the other (DSpl, DSplB, DHunk, DHunkR). -/
import Derived.Test.YtnbihjocdlpplaaGreatDoorKq10
/- The plain law of a text's lines, from the front: where a line ends is told by four bytes. -/
namespace Go.Proofs.YtnbihjocdlpplaaGreatDoor
set_option linter.unusedVariables false
set_option linter.unusedSimpArgs false
open Go.Lib
/-- how wide the line end is that begins with byte b0, behind byte p, ahead of b1, b2 -/
def E4 (p b0 b1 b2 : Nat) : Nat :=
  if b0 = 10 then (if p = 13 then 0 else 1)
  else if b0 = 13 then (if b1 = 10 then 2 else 1)
  else if b0 = 194 ∧ b1 = 133 then 2
  else if b0 = 226 ∧ b1 = 128 ∧ (b2 = 168 ∨ b2 = 169) then 3 else 0
def byteN (l : List UInt8) (i : Nat) : Nat := (l.getD i 0).toNat
def prevN (l : List UInt8) (i : Nat) : Nat := if i = 0 then 0 else byteN l (i - 1)
theorem byteN_out {l : List UInt8} {i : Nat} (h : l.length ≤ i) : byteN l i = 0 := by
  unfold byteN
  rw [List.getD_eq_getElem?_getD, List.getElem?_eq_none h]
  rfl
theorem byteN_lt {l : List UInt8} {i : Nat} (h : byteN l i ≠ 0) : i < l.length := by
  rcases Nat.lt_or_ge i l.length with h1 | h1
  · exact h1
  · exact absurd (byteN_out h1) h
theorem endL_E4 (l : List UInt8) (i : Nat) : endL l i = E4 (prevN l i) (byteN l i) (byteN l (i + 1)) (byteN l (i + 2)) := by
  by_cases hi : l.length ≤ i
  · unfold endL
    rw [if_pos hi, byteN_out hi]
    rfl
  · have hs := dec_sep (D := l.drop i)
    simp only [getD_drop, List.length_drop] at hs
    unfold endL
    rw [if_neg hi]
    unfold E4
    show (if byteN l i = 10 then _ else _) = _
    by_cases h1 : byteN l i = 10
    · rw [if_pos h1, if_pos h1]
      unfold prevN
      by_cases h0 : i = 0
      · rw [if_pos h0, if_neg (by omega), if_neg (by omega)]
      · rw [if_neg h0]
        show (if 0 < i ∧ byteN l (i - 1) = 13 then _ else _) = _
        by_cases h2 : byteN l (i - 1) = 13
        · rw [if_pos ⟨by omega, h2⟩, if_pos h2]
        · rw [if_neg (fun h => h2 h.2), if_neg h2]
    · rw [if_neg h1, if_neg h1]
      show (if byteN l i = 13 then _ else _) = _
      by_cases h2 : byteN l i = 13
      · rw [if_pos h2, if_pos h2]
        show (if i + 1 < l.length ∧ byteN l (i + 1) = 10 then _ else _) = _
        by_cases h3 : byteN l (i + 1) = 10
        · rw [if_pos ⟨byteN_lt (by omega), h3⟩, if_pos h3]
        · rw [if_neg (fun h => h3 h.2), if_neg h3]
      · rw [if_neg h2, if_neg h2]
        have e0 : ((l.getD (i + 0) 0).toNat) = byteN l i := rfl
        have e1 : ((l.getD (i + 1) 0).toNat) = byteN l (i + 1) := rfl
        have e2 : ((l.getD (i + 2) 0).toNat) = byteN l (i + 2) := rfl
        rw [e0, e1, e2] at hs
        rcases hs with ⟨q1, q2, q3, q4, q5⟩ | ⟨q1, q2, q3, q4, q5, q6⟩ | ⟨q1, q2, q3⟩
        · rw [if_pos (.inl q1), if_pos ⟨q4, q5⟩, q2]
        · rw [if_pos (.inr q1), if_neg (by omega), if_pos ⟨q4, q5, q6⟩, q2]
        · rw [if_neg q1, if_neg (fun h => q2 ⟨by have := byteN_lt (l := l) (i := i + 1) (by omega); omega, h.1, h.2⟩), if_neg (fun h => q3 ⟨by have := byteN_lt (l := l) (i := i + 2) (by omega); omega, h.1, h.2.1, h.2.2⟩)]
/-- a byte ahead of the first line -/
def consH (b : UInt8) : List (List UInt8) → List (List UInt8)
  | [] => [[b]]
  | x :: r => (b :: x) :: r
/-- the lines with their ends, behind byte p -/
def spl (p : Nat) : List UInt8 → List (List UInt8)
  | [] => [[]]
  | b0 :: r =>
    match E4 p b0.toNat (byteN r 0) (byteN r 1), r with
    | 0, r => consH b0 (spl b0.toNat r)
    | 1, r => [b0] :: spl b0.toNat r
    | 2, b1 :: r => [b0, b1] :: spl b1.toNat r
    | _, b1 :: b2 :: r => [b0, b1, b2] :: spl b2.toNat r
    | _, r => [b0] :: spl b0.toNat r
termination_by l => l.length
theorem E4_le (p b0 b1 b2 : Nat) : E4 p b0 b1 b2 ≤ 3 := by
  unfold E4
  repeat' split
  all_goals omega
theorem spl_zero {p : Nat} {b0 : UInt8} {r : List UInt8} (h : E4 p b0.toNat (byteN r 0) (byteN r 1) = 0) : spl p (b0 :: r) = consH b0 (spl b0.toNat r) := by
  rw [spl.eq_def]
  simp only [h]
theorem spl_one {p : Nat} {b0 : UInt8} {r : List UInt8} (h : E4 p b0.toNat (byteN r 0) (byteN r 1) = 1) : spl p (b0 :: r) = [b0] :: spl b0.toNat r := by
  rw [spl.eq_def]
  simp only [h]
theorem spl_two {p : Nat} {b0 b1 : UInt8} {r : List UInt8} (h : E4 p b0.toNat (byteN (b1 :: r) 0) (byteN (b1 :: r) 1) = 2) : spl p (b0 :: b1 :: r) = [b0, b1] :: spl b1.toNat r := by
  rw [spl.eq_def]
  simp only [h]
theorem spl_three {p : Nat} {b0 b1 b2 : UInt8} {r : List UInt8} (h : E4 p b0.toNat (byteN (b1 :: b2 :: r) 0) (byteN (b1 :: b2 :: r) 1) = 3) : spl p (b0 :: b1 :: b2 :: r) = [b0, b1, b2] :: spl b2.toNat r := by
  rw [spl.eq_def]
  simp only [h]
theorem E4_two {p b0 b1 b2 : Nat} (h : E4 p b0 b1 b2 = 2) : b1 ≠ 0 := by
  unfold E4 at h
  repeat' split at h
  all_goals omega
theorem E4_three {p b0 b1 b2 : Nat} (h : E4 p b0 b1 b2 = 3) : b1 ≠ 0 ∧ b2 ≠ 0 := by
  unfold E4 at h
  repeat' split at h
  all_goals omega
theorem byteN_drop (l : List UInt8) (i j : Nat) : byteN (l.drop i) j = byteN l (i + j) := by
  unfold byteN
  rw [getD_drop]
theorem byteN_zero {l : List UInt8} {i : Nat} {b : UInt8} (h : l[i]? = some b) : byteN l i = b.toNat := by
  unfold byteN
  rw [List.getD_eq_getElem?_getD, h]
  rfl
/-- the two ways to tell the lines say the same -/
theorem linesGo_spl (l : List UInt8) : ∀ (f a i : Nat), a ≤ i → i ≤ l.length → l.length < i + f →
    (linesGo l f a i).map (pieceE l) = (match spl (prevN l i) (l.drop i) with | [] => [] | x :: r => ((l.drop a).take (i - a) ++ x) :: r)
  | 0, a, i, _, _, h => by omega
  | f + 1, a, i, hai, hil, hf => by
    rw [linesGo]
    by_cases h1 : l.length ≤ i
    · rw [if_pos h1, List.drop_of_length_le h1]
      have : i = l.length := by omega
      subst this
      simp only [spl, List.map_cons, List.map_nil, List.append_nil]
      unfold pieceE
      dsimp only
      rw [Nat.add_zero]
    · rw [if_neg h1]
      have hi : i < l.length := by omega
      have hd : l.drop i = l[i] :: l.drop (i + 1) := List.drop_eq_getElem_cons hi
      have hb0 : byteN l i = (l[i]).toNat := byteN_zero (by simp)
      have hE : E4 (prevN l i) (l[i]).toNat (byteN (l.drop (i + 1)) 0) (byteN (l.drop (i + 1)) 1) = endL l i := by
        rw [endL_E4, hb0, byteN_drop, byteN_drop]
      have hp1 : prevN l (i + 1) = (l[i]).toNat := by
        unfold prevN
        rw [if_neg (by omega), Nat.add_sub_cancel, hb0]
      by_cases h2 : endL l i = 0
      · rw [if_pos h2, linesGo_spl l f a (i + 1) (by omega) hi (by omega), hd, spl_zero (hE.trans h2), hp1]
        cases hs : spl (l[i]).toNat (l.drop (i + 1)) with
        | nil => exfalso; exact spl_ne _ _ hs
        | cons x r =>
          simp only [consH]
          congr 1
          rw [show i + 1 - a = (i - a) + 1 by omega, List.take_add_one, List.getElem?_drop, show a + (i - a) = i by omega, List.getElem?_eq_getElem hi]
          simp
      · rw [if_neg h2]
        have h3 := (endL_le l i).resolve_left h2
        have h4 := E4_le (prevN l i) (l[i]).toNat (byteN (l.drop (i + 1)) 0) (byteN (l.drop (i + 1)) 1)
        rw [hE] at h4
        have hrec := linesGo_spl l f (i + endL l i) (i + endL l i) (Nat.le_refl _) h3 (by omega)
        rw [List.map_cons, hrec]
        have key : ∀ k, endL l i = k → 0 < k → spl (prevN l i) (l.drop i) = ((l.drop i).take k) :: spl (prevN l (i + k)) (l.drop (i + k)) := fun k hk hk0 => by
          have hk3 : k = 1 ∨ k = 2 ∨ k = 3 := by omega
          rcases hk3 with rfl | rfl | rfl
          · rw [hd, spl_one (hE.trans hk), hp1]
            rfl
          · have hi2 : i + 1 < l.length := by omega
            have hd2 : l.drop (i + 1) = l[i + 1] :: l.drop (i + 2) := List.drop_eq_getElem_cons hi2
            have hp2 : prevN l (i + 2) = (l[i + 1]).toNat := by
              unfold prevN
              rw [if_neg (by omega), show i + 2 - 1 = i + 1 by omega]
              exact byteN_zero (by simp)
            rw [hd, hd2, spl_two (by rw [← hd2]; exact hE.trans hk), hp2]
            rfl
          · have hi2 : i + 1 < l.length := by omega
            have hi3 : i + 2 < l.length := by omega
            have hd2 : l.drop (i + 1) = l[i + 1] :: l.drop (i + 2) := List.drop_eq_getElem_cons hi2
            have hd3 : l.drop (i + 2) = l[i + 2] :: l.drop (i + 3) := List.drop_eq_getElem_cons hi3
            have hp3 : prevN l (i + 3) = (l[i + 2]).toNat := by
              unfold prevN
              rw [if_neg (by omega), show i + 3 - 1 = i + 2 by omega]
              exact byteN_zero (by simp)
            rw [hd, hd2, hd3, spl_three (by rw [← hd3, ← hd2]; exact hE.trans hk), hp3]
            rfl
        obtain ⟨k, hk⟩ : ∃ k, endL l i = k := ⟨_, rfl⟩
        rw [hk] at h2 h3 ⊢
        rw [key k hk (by omega)]
        cases hs : spl (prevN l (i + k)) (l.drop (i + k)) with
        | nil => exfalso; exact spl_ne _ _ hs
        | cons x r =>
          simp only [Nat.sub_self, List.take_zero, List.nil_append]
          congr 1
          unfold pieceE
          dsimp only
          rw [show i + k - a = (i - a) + k by omega, List.take_add, List.drop_drop, show a + (i - a) = i by omega]
where
  spl_ne (p : Nat) (l : List UInt8) : spl p l ≠ [] := by
    rw [spl.eq_def]
    split
    · simp
    · split
      · unfold consH; split <;> simp
      all_goals simp
theorem splitA_spl (l : List UInt8) : splitA l = spl 0 l := by
  have h := linesGo_spl l (l.length + 1) 0 0 (Nat.le_refl _) (Nat.zero_le _) (by omega)
  unfold splitA linesL
  rw [h]
  rw [List.drop_zero]
  show (match spl 0 l with | [] => [] | x :: r => ((l.take 0) ++ x) :: r) = _
  cases spl 0 l with
  | nil => rfl
  | cons x r => rfl
end Go.Proofs.YtnbihjocdlpplaaGreatDoor
/- Lines put together: a line that ends is a line of whatever stands behind it. -/
namespace Go.Proofs.YtnbihjocdlpplaaGreatDoor
set_option linter.unusedVariables false
set_option linter.unusedSimpArgs false
open Go.Lib
theorem spl_ne (p : Nat) (l : List UInt8) : spl p l ≠ [] := by
  rw [spl.eq_def]
  split
  · simp
  · split
    · unfold consH; split <;> simp
    all_goals simp
theorem consH_inj {b : UInt8} {L : List (List UInt8)} {x : List UInt8} {r : List (List UInt8)} (hL : L ≠ []) (h : consH b L = (b :: x) :: r) : L = x :: r := by
  cases L with
  | nil => exact absurd rfl hL
  | cons y s =>
    simp only [consH, List.cons.injEq, true_and] at h
    rw [h.1, h.2]
def lastN (s : List UInt8) : Nat := byteN s (s.length - 1)
theorem lastN_cons {b : UInt8} {r : List UInt8} (h : r ≠ []) : lastN (b :: r) = lastN r := by
  have hl : 0 < r.length := List.length_pos_iff.2 h
  unfold lastN byteN
  rw [List.length_cons, List.getD_eq_getElem?_getD, List.getD_eq_getElem?_getD, show r.length + 1 - 1 = (r.length - 1) + 1 by omega, List.getElem?_cons_succ]
/-- bytes that neither end a line nor go on with an end -/
def free (b : Nat) : Prop := b ≠ 10 ∧ b ≠ 133 ∧ b ≠ 128 ∧ b ≠ 168 ∧ b ≠ 169
def okAfter (s post : List UInt8) : Prop := lastN s = 10 ∨ free (byteN post 0)
theorem byteN_app_left {a b : List UInt8} {i : Nat} (h : i < a.length) : byteN (a ++ b) i = byteN a i := by
  unfold byteN
  rw [List.getD_eq_getElem?_getD, List.getD_eq_getElem?_getD, List.getElem?_append_left h]
theorem byteN_app_right {a b : List UInt8} {i : Nat} (h : a.length ≤ i) : byteN (a ++ b) i = byteN b (i - a.length) := by
  unfold byteN
  rw [List.getD_eq_getElem?_getD, List.getD_eq_getElem?_getD, List.getElem?_append_right h]
theorem byteN_cons_zero {b : UInt8} {r : List UInt8} : byteN (b :: r) 0 = b.toNat := rfl
theorem byteN_cons_succ {b : UInt8} {r : List UInt8} {i : Nat} : byteN (b :: r) (i + 1) = byteN r i := by
  unfold byteN
  rw [List.getD_eq_getElem?_getD, List.getD_eq_getElem?_getD, List.getElem?_cons_succ]
theorem E4_ten {p b1 b2 : Nat} : E4 p 10 b1 b2 = if p = 13 then 0 else 1 := by unfold E4; rw [if_pos rfl]
theorem E4_one {p b0 b1 b2 : Nat} (h : E4 p b0 b1 b2 = 1) : (b0 = 10 ∧ p ≠ 13) ∨ (b0 = 13 ∧ b1 ≠ 10) := by
  unfold E4 at h
  repeat' split at h
  all_goals first | omega | (left; constructor <;> assumption) | (right; constructor <;> assumption)
theorem spl_cat : ∀ (n : Nat) (s : List UInt8), s.length ≤ n → ∀ (p : Nat) (post : List UInt8), spl p s = [s, []] → okAfter s post → spl p (s ++ post) = s :: spl (lastN s) post
  | _, [], _, p, post, h, _ => by simp [spl] at h
  | 0, b0 :: r, hn, _, _, _, _ => by simp at hn
  | n + 1, b0 :: r, hn, p, post, h, ho => by
    have hE := E4_le p b0.toNat (byteN r 0) (byteN r 1)
    obtain ⟨e, he⟩ : ∃ e, E4 p b0.toNat (byteN r 0) (byteN r 1) = e := ⟨_, rfl⟩
    have hcases : e = 0 ∨ e = 1 ∨ e = 2 ∨ e = 3 := by omega
    rcases hcases with rfl | rfl | rfl | rfl
    · rw [spl_zero he] at h
      have h2 := consH_inj (spl_ne _ _) h
      have hr : r ≠ [] := by
        rintro rfl
        simp [spl] at h2
      have hrl : 0 < r.length := List.length_pos_iff.2 hr
      have ho2 : okAfter r post := by
        unfold okAfter at ho ⊢
        rwa [lastN_cons hr] at ho
      have hE2 : E4 p b0.toNat (byteN (r ++ post) 0) (byteN (r ++ post) 1) = 0 := by
        rw [byteN_app_left hrl]
        by_cases hr1 : 1 < r.length
        · rw [byteN_app_left hr1]; exact he
        · have hr1' : r.length = 1 := by omega
          obtain ⟨b1, rfl⟩ : ∃ b, r = [b] := by
            match r, hr1' with
            | [b], _ => exact ⟨b, rfl⟩
          rw [byteN_app_right (by simp), byteN_cons_zero]
          rw [byteN_cons_zero, byteN_out (by simp)] at he
          have hp0 : byteN post 0 ≠ 168 ∧ byteN post 0 ≠ 169 ∨ b1.toNat = 10 := by
            rcases ho2 with q | q
            · exact .inr q
            · exact .inl ⟨q.2.2.2.1, q.2.2.2.2⟩
          unfold E4 at he ⊢
          simp only [List.length_singleton, Nat.sub_self] at *
          repeat' split at he
          all_goals (repeat' split) <;> omega
      rw [List.cons_append, spl_zero hE2, spl_cat n r (by simp at hn; omega) b0.toNat post h2 ho2, lastN_cons hr]
      rfl
    · rw [spl_one he] at h
      have h2 : r = [] ∧ spl b0.toNat r = [[]] := by
        simp only [List.cons.injEq, true_and] at h
        exact ⟨h.1.symm, h.2⟩
      obtain ⟨rfl, _⟩ := h2
      have hE2 : E4 p b0.toNat (byteN ([] ++ post) 0) (byteN ([] ++ post) 1) = 1 := by
        rw [List.nil_append]
        rcases E4_one he with ⟨q, hp⟩ | ⟨q, _⟩
        · rw [q, E4_ten, if_neg hp]
        · have hf : free (byteN post 0) := by
            rcases ho with ho | ho
            · exact absurd (show b0.toNat = 10 from ho) (by omega)
            · exact ho
          unfold E4
          rw [q, if_neg (by omega), if_pos rfl, if_neg hf.1]
      show spl p (b0 :: ([] ++ post)) = _
      rw [spl_one hE2]
      rfl
    · have hb1 := E4_two he
      have hr0 := byteN_lt hb1
      obtain ⟨b1, r', rfl⟩ : ∃ b r', r = b :: r' := by
        cases r with
        | nil => simp at hr0
        | cons b r' => exact ⟨b, r', rfl⟩
      rw [spl_two he] at h
      obtain ⟨rfl⟩ : r' = [] := by
        simp only [List.cons.injEq, true_and] at h
        exact h.1.symm
      have hE2 : E4 p b0.toNat (byteN (b1 :: ([] ++ post)) 0) (byteN (b1 :: ([] ++ post)) 1) = 2 := by
        rw [byteN_cons_zero]
        rw [byteN_cons_zero] at he
        unfold E4 at he ⊢
        repeat' split at he
        all_goals (repeat' split) <;> omega
      show spl p (b0 :: b1 :: ([] ++ post)) = _
      rw [spl_two hE2]
      rfl
    · obtain ⟨hb1, hb2⟩ := E4_three he
      have hr1 := byteN_lt hb2
      obtain ⟨b1, b2, r', rfl⟩ : ∃ b b2 r', r = b :: b2 :: r' := by
        match r, hr1 with
        | b :: b2 :: r', _ => exact ⟨b, b2, r', rfl⟩
      rw [spl_three he] at h
      obtain ⟨rfl⟩ : r' = [] := by
        simp only [List.cons.injEq, true_and] at h
        exact h.1.symm
      have hE3 : E4 p b0.toNat (byteN (b1 :: b2 :: ([] ++ post)) 0) (byteN (b1 :: b2 :: ([] ++ post)) 1) = 3 := he
      show spl p (b0 :: b1 :: b2 :: ([] ++ post)) = _
      rw [spl_three hE3]
      rfl
/-- all of them lines that end -/
theorem spl_flat : ∀ (L : List (List UInt8)) (p : Nat) (post : List UInt8), (∀ s ∈ L, ∀ q, q ≠ 13 → spl q s = [s, []]) → (∀ s ∈ L, lastN s = 10) → p ≠ 13 → spl p (L.flatten ++ post) = L ++ spl (if L = [] then p else 10) post
  | [], p, post, _, _, hp => by rw [if_pos rfl]; rfl
  | s :: L, p, post, h1, h2, hp => by
    have hs := h2 s (by simp)
    have hrec := spl_flat L 10 post (fun x hx => h1 x (List.mem_cons_of_mem _ hx)) (fun x hx => h2 x (List.mem_cons_of_mem _ hx)) (by decide)
    have h10 : (if L = [] then 10 else 10) = 10 := by split <;> rfl
    rw [h10] at hrec
    have hc := spl_cat _ s (Nat.le_refl _) p (L.flatten ++ post) (h1 s (by simp) p hp) (.inl hs)
    have hne : (if s :: L = [] then p else 10) = 10 := if_neg (fun e => by cases e)
    rw [List.flatten_cons, List.append_assoc, hc, hs, hrec, hne]
    rfl
/-- a line of plain bytes and a byte 0A -/
def plainB (b : UInt8) : Prop := 32 ≤ b.toNat ∧ b.toNat < 127
theorem spl_good : ∀ (s : List UInt8) (p : Nat), (∀ b ∈ s, plainB b) → (s = [] → p ≠ 13) → spl p (s ++ [10]) = [s ++ [10], []]
  | [], p, _, hp => by
    have hE : E4 p (10 : UInt8).toNat (byteN [] 0) (byteN [] 1) = 1 := by
      show E4 p 10 _ _ = 1
      rw [E4_ten, if_neg (hp rfl)]
    show spl p [10] = _
    rw [spl_one hE]
    simp [spl]
  | b :: s, p, hs, _ => by
    have hb := hs b (by simp)
    unfold plainB at hb
    have hE : E4 p b.toNat (byteN (s ++ [10]) 0) (byteN (s ++ [10]) 1) = 0 := by
      unfold E4
      rw [if_neg (by omega), if_neg (by omega), if_neg (by omega), if_neg (by omega)]
    rw [List.cons_append, spl_zero hE, spl_good s b.toNat (fun x hx => hs x (List.mem_cons_of_mem _ hx)) (fun _ => by omega)]
    rfl
theorem lastN_ten (s : List UInt8) : lastN (s ++ [10]) = 10 := by
  unfold lastN
  rw [List.length_append, List.length_singleton, Nat.add_sub_cancel, byteN_app_right (Nat.le_refl _), Nat.sub_self]
  rfl
/-- texts made of such lines have these lines -/
theorem splitD_good (L : List (List UInt8)) (h : ∀ s ∈ L, ∃ t, s = t ++ [10] ∧ ∀ b ∈ t, plainB b) : splitD L.flatten = L := by
  have h1 : splitA L.flatten = L ++ [[]] := by
    have := spl_flat L 0 [] (fun s hs q hq => by obtain ⟨t, rfl, ht⟩ := h s hs; exact spl_good t q ht (fun _ => hq)) (fun s hs => by obtain ⟨t, rfl, ht⟩ := h s hs; exact lastN_ten t) (by decide)
    rw [List.append_nil] at this
    rw [splitA_spl, this]
    simp [spl]
  unfold splitD
  rw [h1, List.getLast?_concat, if_pos rfl, List.dropLast_concat]
/-- whatever is laid down by hand is no better -/
theorem dist_min (ops : List Op7) : dist (ops.flatMap lineA) (ops.flatMap lineB) ≤ costOps ops := by
  induction ops with
  | nil => simp [dist, costOps]
  | cons o ops ih =>
    unfold costOps at ih ⊢
    rw [List.flatMap_cons, List.flatMap_cons, List.map_cons, List.sum_cons]
    cases o with
    | same s =>
      show dist (s :: ops.flatMap lineA) (s :: ops.flatMap lineB) ≤ 0 + _
      rw [dist_same]; omega
    | gone s =>
      show dist (s :: ops.flatMap lineA) (ops.flatMap lineB) ≤ 1 + _
      have := dist_left s (ops.flatMap lineA) (ops.flatMap lineB)
      omega
    | come s =>
      show dist (ops.flatMap lineA) (s :: ops.flatMap lineB) ≤ 1 + _
      have := dist_right (ops.flatMap lineA) (ops.flatMap lineB) s
      omega
end Go.Proofs.YtnbihjocdlpplaaGreatDoor
/- Hunks and the rows of lines that wait: what lies where. -/
namespace Go.Proofs.YtnbihjocdlpplaaGreatDoor
set_option linter.unusedVariables false
set_option linter.unusedSimpArgs false
open Go.RowKit
open Go.Lib
/-- a hunk's cells: its kind, its lines -/
abbrev HCell := Nat × Option Addr × Nat × Nat
def hkCells (h : HCell) : List Value := [.int .i64 (h.1 : Int), .slice h.2.1 h.2.2.1 h.2.2.2]
theorem hkCells_one (h : HCell) : ∀ u ∈ hkCells h, u.oneCell' = true := by
  intro u hu
  simp only [hkCells, List.mem_cons, List.not_mem_nil, or_false] at hu
  rcases hu with rfl | rfl <;> rfl
theorem infoHunk : (Tryz.prog.info? 25).map (fun i => (i.zero, i.size, i.bytes)) = some (some (.agg #[.int .i64 0, .slice none 0 0]), 2, 32) := by kernel_rfl
abbrev Wait := Value × List (List UInt8)
def nilV : Value := .slice none 0 0
structure SW (B : Nat) (w : World) (vo : Value) (hs : List HCell) (H : List Hk) (vals : List Wait) : Prop where
  own : w.ownsRow B 25 2 vo hs.length (hs.flatMap hkCells)
  len : hs.length = H.length
  each : ∀ (k : Nat) (h : HCell) (x : Hk), hs[k]? = some h → H[k]? = some x → h.1 = x.1 ∧ h.2.2.1 ≤ h.2.2.2 ∧ h.2.2.2 ≤ maxLen ∧ ReadsS w h.2.1 h.2.2.1 x.2 ∧ ∀ ad, h.2.1 = some ad → B ≤ ad.block ∧ (∃ cur, w.heap[ad.block]? = some (.cells cur 9 (0, 0))) ∧ ∀ p ∈ vals, p.1.ownBlock ≠ some ad.block
  strs : ∀ p ∈ vals, StrOwn B p.1 p.2 w
  apart : ∀ (i j : Nat) (p q : Wait), vals[i]? = some p → vals[j]? = some q → i ≠ j → p.1.ownBlock = none ∨ p.1.ownBlock ≠ q.1.ownBlock
  dist : ∀ (i j : Nat) (p q : HCell) (ad ad' : Addr), hs[i]? = some p → hs[j]? = some q → p.2.1 = some ad → q.2.1 = some ad' → ad.block = ad'.block → i = j
theorem own_slice_block {w : World} {B : Nat} {e : TypeId} {size n m c : Nat} {ad : Addr} {xs : List Value} (h : w.ownsRow B e size (.slice (some ad) n c) m xs) : Value.ownBlock (.slice (some ad) n c) = some ad.block := by
  rcases h.2 with ⟨h9, _⟩ | ⟨g, cap, cur, h9, _⟩
  · cases h9
  · cases h9; rfl
theorem SW.start (B : Nat) (w : World) (vals : List Wait) (h : ∀ p ∈ vals, p = (nilV, [])) : SW B w nilV [] [] vals :=
  ⟨World.ownsRow_nil _ _ _ _, rfl, fun k h x h1 => (by cases h1), fun p hp => by rw [h p hp]; exact World.ownsRow_nil _ _ _ _, fun i j p q hi hj hij => by rw [h p (List.mem_of_getElem? hi)]; exact .inl rfl, fun i j p q ad ad' h1 => by cases h1⟩
theorem own_block {w : World} {B : Nat} {e : TypeId} {size : Nat} {v : Value} {n : Nat} {xs : List Value} (h : w.ownsRow B e size v n xs) {b : Nat} (hb : v.ownBlock = some b) : B ≤ b ∧ ∃ cur, w.heap[b]? = some (.cells cur e (0, 0)) := by
  rcases h.2 with ⟨rfl, _⟩ | ⟨g, cap, cur, rfl, hB, hg, _⟩
  · cases hb
  · cases hb
    exact ⟨hB, cur, hg⟩
theorem own_apart_ty {w : World} {B B' : Nat} {e e' : TypeId} {size size' : Nat} {v v' : Value} {n n' : Nat} {xs xs' : List Value} (h : w.ownsRow B e size v n xs) (h' : w.ownsRow B' e' size' v' n' xs') (he : e ≠ e') : v.ownBlock = none ∨ v.ownBlock ≠ v'.ownBlock := by
  cases hb : v.ownBlock with
  | none => exact .inl rfl
  | some b =>
    refine .inr fun e1 => he ?_
    obtain ⟨_, c1, h1⟩ := own_block h hb
    obtain ⟨_, c2, h2⟩ := own_block h' e1.symm
    rw [h1] at h2
    cases h2
    rfl
theorem ReadsS.grown {w w' : World} {row : Option Nat} {a : Option Addr} {n : Nat} {L : List (List UInt8)} (h : ReadsS w a n L) (hg : w.grownBy w' row) (hne : ∀ ad, a = some ad → row ≠ some ad.block) : ReadsS w' a n L := by
  obtain ⟨hl, h⟩ := h
  refine ⟨hl, fun h0 => ?_⟩
  obtain ⟨b, off, ha, hb, hc⟩ := h h0
  refine ⟨b, off, ha, Nat.lt_of_lt_of_le hb hg.size, fun j hj => ?_⟩
  rw [World.cell?_of_block (hg.block b hb (fun e => hne _ ha e.symm))]
  exact hc j hj
theorem SW.keep {B : Nat} {w w' : World} {vo : Value} {hs : List HCell} {H : List Hk} {vals : List Wait} (h : SW B w vo hs H vals) (hb : Below w.heap.size w w') : SW B w' vo hs H vals := by
  refine ⟨own_below h.own hb, h.len, fun k c x h1 h2 => ?_, fun p hp => (h.strs p hp).below hb, h.apart, h.dist⟩
  obtain ⟨e1, e2, e3, e4, e5⟩ := h.each k c x h1 h2
  refine ⟨e1, e2, e3, e4.keep hb (Nat.le_refl _), fun ad had => ?_⟩
  obtain ⟨f1, ⟨cur, f2⟩, f3⟩ := e5 ad had
  exact ⟨f1, ⟨cur, (hb.block _ (Array.getElem?_eq_some_iff.1 f2).1).trans f2⟩, f3⟩
theorem mem_set {α : Type} {l : List α} {i : Nat} {a p : α} (h : p ∈ l.set i a) : p ∈ l ∨ p = a := List.mem_or_eq_of_mem_set h
theorem StrOwn.grown {B : Nat} {v : Value} {L : List (List UInt8)} {w w' : World} {row : Option Nat} (h : StrOwn B v L w) (hg : w.grownBy w' row) (hne : v.ownBlock = none ∨ v.ownBlock ≠ row) : StrOwn B v L w' := World.ownsRow.kept h hg hne
/-- a line more in one of the rows that wait -/
theorem SW.push {B : Nat} {w w' : World} {vo : Value} {hs : List HCell} {H : List Hk} {vals : List Wait} (h : SW B w vo hs H vals) (hB : B ≤ w.heap.size) {i : Nat} {v v' : Value} {L : List (List UInt8)} {x : List UInt8} (hi : vals[i]? = some (v, L)) (hp : AppPost w B 9 1 v L.length (L.map S1) [S1 x] v' w') :
    SW B w' vo hs H (vals.set i (v', L ++ [x])) ∧ B ≤ w'.heap.size := by
  obtain ⟨p1, p2, p3⟩ := hp
  have hmem : (v, L) ∈ vals := List.mem_of_getElem? hi
  have hvs : StrOwn B v L w := h.strs _ hmem
  have hil : i < vals.length := (List.getElem?_eq_some_iff.1 hi).1
  have hself : (vals.set i (v', L ++ [x]))[i]? = some (v', L ++ [x]) := List.getElem?_set_self hil
  have hnew : StrOwn B v' (L ++ [x]) w' := StrOwn.push p1
  -- the new block is apart from whatever stood and was apart from the old one
  have hfar : ∀ b, b < w.heap.size → v.ownBlock ≠ some b → v'.ownBlock ≠ some b := fun b hb hne e => by
    rcases p3 with p3 | p3
    · exact hne (p3 ▸ e)
    · have := p3 b e; omega
  refine ⟨⟨h.own.kept p2 (own_apart_ty h.own hvs (by decide)), h.len, fun k c y h1 h2 => ?_, fun p hp => ?_, fun i1 j1 p q hi1 hj1 hij => ?_, h.dist⟩, Nat.le_trans hB p2.size⟩
  · obtain ⟨e1, e2, e3, e4, e5⟩ := h.each k c y h1 h2
    refine ⟨e1, e2, e3, e4.grown p2 (fun ad had => (e5 ad had).2.2 _ hmem), fun ad had => ?_⟩
    obtain ⟨f1, ⟨cur, f2⟩, f3⟩ := e5 ad had
    have hlt := (Array.getElem?_eq_some_iff.1 f2).1
    refine ⟨f1, ⟨cur, (p2.block _ hlt (fun e => f3 _ hmem e.symm)).trans f2⟩, fun p hp => ?_⟩
    rcases mem_set hp with hp | rfl
    · exact f3 p hp
    · exact hfar _ hlt (f3 _ hmem)
  · obtain ⟨j, hj⟩ := List.mem_iff_getElem?.1 hp
    by_cases hji : j = i
    · subst hji
      rw [hself] at hj
      cases hj
      exact hnew
    · rw [List.getElem?_set_ne (Ne.symm hji)] at hj
      exact (h.strs p (List.mem_of_getElem? hj)).grown p2 (h.apart j i p _ hj hi hji)
  · have hone : ∀ (j : Nat) (q : Wait), j ≠ i → vals[j]? = some q → q.1.ownBlock = none ∨ q.1.ownBlock ≠ v'.ownBlock := fun j q hji hj => by
      cases hb : q.1.ownBlock with
      | none => exact .inl rfl
      | some b =>
        have hlt := ((h.strs q (List.mem_of_getElem? hj)).lt b hb).2
        have hne : v.ownBlock ≠ some b := fun e => by
          rcases h.apart j i q _ hj hi hji with h9 | h9
          · rw [hb] at h9; cases h9
          · exact h9 (hb.trans e.symm)
        exact .inr fun e => hfar b hlt hne e.symm
    by_cases hi2 : i1 = i
    · subst hi2
      rw [hself] at hi1
      cases hi1
      rw [List.getElem?_set_ne hij] at hj1
      rcases hone j1 q (Ne.symm hij) hj1 with h9 | h9
      · cases hb : v'.ownBlock with
        | none => exact .inl rfl
        | some b => exact .inr (by rw [h9]; simp)
      · exact .inr (Ne.symm h9)
    · rw [List.getElem?_set_ne (Ne.symm hi2)] at hi1
      by_cases hj2 : j1 = i
      · subst hj2
        rw [hself] at hj1
        cases hj1
        exact hone i1 p hi2 hi1
      · rw [List.getElem?_set_ne (Ne.symm hj2)] at hj1
        exact h.apart i1 j1 p q hi1 hj1 hij
/-- a row that waits is let go -/
theorem SW.drop {B : Nat} {w : World} {vo : Value} {hs : List HCell} {H : List Hk} {vals : List Wait} (h : SW B w vo hs H vals) (i : Nat) : SW B w vo hs H (vals.set i (nilV, [])) := by
  refine ⟨h.own, h.len, fun k c x h1 h2 => ?_, fun p hp => ?_, fun i1 j1 p q hi1 hj1 hij => ?_, h.dist⟩
  · obtain ⟨e1, e2, e3, e4, e5⟩ := h.each k c x h1 h2
    refine ⟨e1, e2, e3, e4, fun ad had => ⟨(e5 ad had).1, (e5 ad had).2.1, fun p hp => ?_⟩⟩
    rcases mem_set hp with hp | rfl
    · exact (e5 ad had).2.2 p hp
    · intro e; cases e
  · rcases mem_set hp with hp | rfl
    · exact h.strs p hp
    · exact World.ownsRow_nil _ _ _ _
  · rw [List.getElem?_set] at hi1 hj1
    by_cases hi2 : i = i1
    · rw [if_pos hi2] at hi1
      split at hi1
      · cases hi1; exact .inl rfl
      · cases hi1
    · rw [if_neg hi2] at hi1
      by_cases hj2 : i = j1
      · rw [if_pos hj2] at hj1
        split at hj1
        · cases hj1
          cases hb : p.1.ownBlock with
          | none => exact .inl rfl
          | some b => exact .inr (by show some b ≠ none; simp)
        · cases hj1
      · rw [if_neg hj2] at hj1
        exact h.apart i1 j1 p q hi1 hj1 hij
/-- a row that waits becomes a hunk's lines -/
theorem SW.hunk {B : Nat} {w w' : World} {vo vo' : Value} {hs : List HCell} {H : List Hk} {vals : List Wait} (h : SW B w vo hs H vals) (hB : B ≤ w.heap.size) {i k : Nat} {a : Option Addr} {n c c' : Nat} {L : List (List UInt8)} (hi : vals[i]? = some (.slice a n c, L)) (hc : n ≤ c' ∧ c' ≤ maxLen)
    (hp : AppPost w B 25 2 vo hs.length (hs.flatMap hkCells) (hkCells (k, a, n, c')) vo' w') :
    SW B w' vo' (hs ++ [(k, a, n, c')]) (H ++ [(k, L)]) (vals.set i (nilV, [])) ∧ B ≤ w'.heap.size := by
  obtain ⟨p1, p2, p3⟩ := hp
  have hmem : (.slice a n c, L) ∈ vals := List.mem_of_getElem? hi
  have hvs : StrOwn B (.slice a n c) L w := h.strs _ hmem
  have hil : i < vals.length := (List.getElem?_eq_some_iff.1 hi).1
  have hst : ∀ p ∈ vals, StrOwn B p.1 p.2 w' := fun p hp => (h.strs p hp).grown p2 (own_apart_ty (h.strs p hp) h.own (by decide))
  have hcur : ∀ (b : Nat) (cur : Array Value), w.heap[b]? = some (.cells cur 9 (0, 0)) → w'.heap[b]? = some (.cells cur 9 (0, 0)) := fun b cur hb => by
    rw [p2.block b (Array.getElem?_eq_some_iff.1 hb).1 (fun e => ?_)]
    · exact hb
    · obtain ⟨_, c2, h2⟩ := own_block h.own e.symm
      rw [hb] at h2
      cases h2
  refine ⟨⟨?_, by rw [List.length_append, List.length_append, h.len]; rfl, fun j hc2 y h1 h2 => ?_, fun p hp => ?_, fun i1 j1 p q hi1 hj1 hij => ?_, fun i1 j1 p q ad ad' hi1 hj1 had had' hbb => ?_⟩, Nat.le_trans hB p2.size⟩
  · rw [List.length_append, List.flatMap_append]
    simpa using p1
  · have hdrop := (h.drop i).each
    by_cases hj : j < hs.length
    · rw [List.getElem?_append_left hj] at h1
      rw [List.getElem?_append_left (by rw [← h.len]; exact hj)] at h2
      obtain ⟨e1, e2, e3, e4, e5⟩ := hdrop j hc2 y h1 h2
      refine ⟨e1, e2, e3, e4.grown p2 (fun ad had e => ?_), fun ad had => ?_⟩
      · obtain ⟨_, ⟨cur, f2⟩, _⟩ := e5 ad had
        obtain ⟨_, c2, h3⟩ := own_block h.own e
        rw [f2] at h3
        cases h3
      · obtain ⟨f1, ⟨cur, f2⟩, f3⟩ := e5 ad had
        exact ⟨f1, ⟨cur, hcur _ _ f2⟩, f3⟩
    · have hjl := (List.getElem?_eq_some_iff.1 h1).1
      rw [List.length_append, List.length_singleton] at hjl
      obtain rfl : j = hs.length := by omega
      rw [List.getElem?_concat_length] at h1
      rw [h.len, List.getElem?_concat_length] at h2
      cases h1
      cases h2
      have hvs2 : StrOwn B (.slice a n c) L w' := hst _ hmem
      obtain ⟨a', c9, he, g2, g3, g4⟩ := readsS_own hvs2
      cases he
      refine ⟨rfl, hc.1, hc.2, g2, fun ad had => ?_⟩
      have had : a = some ad := had
      subst had
      have hob : ∃ b, Value.ownBlock (.slice (some ad) L.length c) = some b := by
        rcases hvs.2 with ⟨h9, _⟩ | ⟨g, cap, cur, h9, _⟩
        · cases h9
        · cases h9; exact ⟨_, rfl⟩
      obtain ⟨b, hb⟩ := hob
      have hbb : b = ad.block := by
        simp only [Value.ownBlock] at hb
        first | exact (Option.some.inj hb).symm | (split at hb <;> simp_all)
      subst hbb
      obtain ⟨f1, cur, f2⟩ := own_block hvs hb
      refine ⟨f1, ⟨cur, hcur _ _ f2⟩, fun p hp => ?_⟩
      obtain ⟨j, hj⟩ := List.mem_iff_getElem?.1 hp
      by_cases hji : j = i
      · subst hji
        rw [List.getElem?_set_self hil] at hj
        cases hj
        intro e; cases e
      · rw [List.getElem?_set_ne (Ne.symm hji)] at hj
        intro e
        rcases h.apart j i p _ hj hi hji with h9 | h9
        · rw [e] at h9; cases h9
        · exact h9 (e.trans hb.symm)
  · rcases mem_set hp with hp | rfl
    · exact hst p hp
    · exact World.ownsRow_nil _ _ _ _
  · exact (h.drop i).apart i1 j1 p q hi1 hj1 hij
  · have hlast : ∀ (j : Nat) (q : HCell) (ad ad' : Addr), hs[j]? = some q → q.2.1 = some ad → a = some ad' → ad.block ≠ ad'.block := fun j q ad ad' hj had ha e => by
      subst ha
      obtain ⟨y, hy⟩ : ∃ y, H[j]? = some y := ⟨H[j]'(by have := (List.getElem?_eq_some_iff.1 hj).1; rw [← h.len]; exact this), by simp⟩
      refine ((h.each j q y hj hy).2.2.2.2 ad had).2.2 _ hmem ?_
      exact (own_slice_block hvs).trans (by rw [e])
    by_cases hi2 : i1 < hs.length
    · rw [List.getElem?_append_left hi2] at hi1
      by_cases hj2 : j1 < hs.length
      · rw [List.getElem?_append_left hj2] at hj1
        exact h.dist i1 j1 p q ad ad' hi1 hj1 had had' hbb
      · have hjl := (List.getElem?_eq_some_iff.1 hj1).1
        rw [List.length_append, List.length_singleton] at hjl
        obtain rfl : j1 = hs.length := by omega
        rw [List.getElem?_concat_length] at hj1
        cases hj1
        exact absurd hbb (hlast i1 p ad ad' hi1 had had')
    · have hil2 := (List.getElem?_eq_some_iff.1 hi1).1
      rw [List.length_append, List.length_singleton] at hil2
      obtain rfl : i1 = hs.length := by omega
      by_cases hj2 : j1 < hs.length
      · rw [List.getElem?_append_left hj2] at hj1
        rw [List.getElem?_concat_length] at hi1
        cases hi1
        exact absurd hbb.symm (hlast j1 q ad' ad hj1 had' had)
      · have hjl := (List.getElem?_eq_some_iff.1 hj1).1
        rw [List.length_append, List.length_singleton] at hjl
        omega
end Go.Proofs.YtnbihjocdlpplaaGreatDoor
/- The reference's hunk. -/
namespace Go.Proofs.YtnbihjocdlpplaaGreatDoor
set_option linter.unusedVariables false
set_option linter.unusedSimpArgs false
open Go.RowKit
open Go.Lib
theorem SW.slice {B : Nat} {w : World} {vo : Value} {hs : List HCell} {H : List Hk} {vals : List Wait} (h : SW B w vo hs H vals) {i : Nat} {v : Value} {L : List (List UInt8)} (hi : vals[i]? = some (v, L)) : ∃ a c, v = .slice a L.length c ∧ ReadsS w a L.length L ∧ L.length ≤ c ∧ c ≤ maxLen := by
  have hv : StrOwn B v L w := h.strs _ (List.mem_of_getElem? hi)
  obtain ⟨a, c, h1, h2, h3, h4⟩ := readsS_own hv
  exact ⟨a, c, h1, h2, h3, h4⟩
theorem AppPost.below {w w' : World} {B : Nat} {e : TypeId} {size n : Nat} {v v' : Value} {xs cs : List Value} (hp : AppPost w B e size v n xs cs v' w') (hown : w.ownsRow B e size v n xs) (hB : B ≤ w.heap.size) : Below B w w' :=
  (Below.refl B w).grown hp.2.1 hB (fun k hk => (hown.lt k hk).1)
set_option maxHeartbeats 4000000 in
theorem hunkR (w : World) (B : Nat) (vo v : Value) (hs : List HCell) (H : List Hk) (vals : List Wait) (i k : Nat) (L : List (List UInt8)) (h : SW B w vo hs H vals) (hB : B ≤ w.heap.size) (hi : vals[i]? = some (v, L)) (hH : H.length ≤ 1048576) :
    Calls Tryz.prog 44 #[vo, .int .i64 (k : Int), v] w fun e w' => ∃ vo' hs', e = .returned vo' ∧ SW B w' vo' hs' (putK k L H) (vals.set i (nilV, [])) ∧ B ≤ w'.heap.size ∧ Below B w w' := by
  obtain ⟨a, c, rfl, hr, hc1, hc2⟩ := h.slice hi
  have HS := Lib.hid h
  obtain ⟨n, hn⟩ : ∃ n, L.length = n := ⟨_, rfl⟩
  rw [hn] at hc1 hi hr ⊢
  have hcm : c ≤ 9223372036854775807 := by unfold maxLen at hc2; omega
  have hhl : hs.length ≤ 1048576 := by rw [h.len]; exact hH
  by_cases h0 : n = 0
  · subst h0
    have hL : L = [] := List.eq_nil_of_length_eq_zero hn
    clear hn h hr hi
    go_enter Tryz.func44, Tryz.ntmps44
    go_wp2
    go_ret
    refine ⟨vo, hs, rfl, ?_, hB, Below.refl _ _⟩
    rw [hL]
    exact HS.out.drop i
  · have hL : L ≠ [] := by rintro rfl; exact h0 hn.symm
    have hpk : putK k L H = H ++ [(k, L)] := by unfold putK; rw [if_neg hL]
    rw [hpk]
    have h0' : (n : Int) ≠ 0 := by omega
    have HI := Lib.hid hi
    have HC := Lib.hid (⟨hc1, hc2⟩ : n ≤ c ∧ c ≤ maxLen)
    clear hpk hL hn h hr hi h0
    go_enter Tryz.func44, Tryz.ntmps44
    go_wp2_with (at_builtin; refine appSep rfl _ _ rfl Tryz.underlying26 (.agg #[.int .i64 0, .slice none 0 0]) 2 32 infoHunk rfl (by decide) (by decide) B w vo hs.length (hs.flatMap hkCells) (hkCells (k, a, n, c)) rfl (hkCells_one _) rfl HS.out.own rfl rfl (by omega) hB ?_; intro v8 w8 hp8; have HP := Lib.hid hp8; clear hp8)
    go_ret
    obtain ⟨r1, r2⟩ := HS.out.hunk hB HI.out HC.out HP.out
    exact ⟨v8, _, rfl, r1, r2, HP.out.below HS.out.own hB⟩
end Go.Proofs.YtnbihjocdlpplaaGreatDoor
