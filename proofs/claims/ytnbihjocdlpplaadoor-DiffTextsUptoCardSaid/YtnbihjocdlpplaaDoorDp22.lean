/- Texts joined, one behind the other (DSplB, DParP, DParQ). -/
import Derived.Test.YtnbihjocdlpplaaDoorDp21
/- Lines put together: a line that ends is a line of whatever stands behind it. -/
namespace Go.Proofs.YtnbihjocdlpplaaDoor
set_option linter.unusedVariables false
set_option linter.unusedSimpArgs false
open Go.Lib
theorem spl_ne (p : Nat) (l : List UInt8) : spl p l ≠ [] := by
  rw [spl.eq_def]
  split
  · simp
  · split
    · unfold consH; split <;> simp
    all_goals simp
theorem consH_inj {b : UInt8} {L : List (List UInt8)} {x : List UInt8} {r : List (List UInt8)} (hL : L ≠ []) (h : consH b L = (b :: x) :: r) : L = x :: r := by
  cases L with
  | nil => exact absurd rfl hL
  | cons y s =>
    simp only [consH, List.cons.injEq, true_and] at h
    rw [h.1, h.2]
def lastN (s : List UInt8) : Nat := byteN s (s.length - 1)
theorem lastN_cons {b : UInt8} {r : List UInt8} (h : r ≠ []) : lastN (b :: r) = lastN r := by
  have hl : 0 < r.length := List.length_pos_iff.2 h
  unfold lastN byteN
  rw [List.length_cons, List.getD_eq_getElem?_getD, List.getD_eq_getElem?_getD, show r.length + 1 - 1 = (r.length - 1) + 1 by omega, List.getElem?_cons_succ]
/-- bytes that neither end a line nor go on with an end -/
def free (b : Nat) : Prop := b ≠ 10 ∧ b ≠ 133 ∧ b ≠ 128 ∧ b ≠ 168 ∧ b ≠ 169
def okAfter (s post : List UInt8) : Prop := lastN s = 10 ∨ free (byteN post 0)
theorem byteN_app_left {a b : List UInt8} {i : Nat} (h : i < a.length) : byteN (a ++ b) i = byteN a i := by
  unfold byteN
  rw [List.getD_eq_getElem?_getD, List.getD_eq_getElem?_getD, List.getElem?_append_left h]
theorem byteN_app_right {a b : List UInt8} {i : Nat} (h : a.length ≤ i) : byteN (a ++ b) i = byteN b (i - a.length) := by
  unfold byteN
  rw [List.getD_eq_getElem?_getD, List.getD_eq_getElem?_getD, List.getElem?_append_right h]
theorem byteN_cons_zero {b : UInt8} {r : List UInt8} : byteN (b :: r) 0 = b.toNat := rfl
theorem byteN_cons_succ {b : UInt8} {r : List UInt8} {i : Nat} : byteN (b :: r) (i + 1) = byteN r i := by
  unfold byteN
  rw [List.getD_eq_getElem?_getD, List.getD_eq_getElem?_getD, List.getElem?_cons_succ]
theorem E4_ten {p b1 b2 : Nat} : E4 p 10 b1 b2 = if p = 13 then 0 else 1 := by unfold E4; rw [if_pos rfl]
theorem E4_one {p b0 b1 b2 : Nat} (h : E4 p b0 b1 b2 = 1) : (b0 = 10 ∧ p ≠ 13) ∨ (b0 = 13 ∧ b1 ≠ 10) := by
  unfold E4 at h
  repeat' split at h
  all_goals first | omega | (left; constructor <;> assumption) | (right; constructor <;> assumption)
theorem spl_cat : ∀ (n : Nat) (s : List UInt8), s.length ≤ n → ∀ (p : Nat) (post : List UInt8), spl p s = [s, []] → okAfter s post → spl p (s ++ post) = s :: spl (lastN s) post
  | _, [], _, p, post, h, _ => by simp [spl] at h
  | 0, b0 :: r, hn, _, _, _, _ => by simp at hn
  | n + 1, b0 :: r, hn, p, post, h, ho => by
    have hE := E4_le p b0.toNat (byteN r 0) (byteN r 1)
    obtain ⟨e, he⟩ : ∃ e, E4 p b0.toNat (byteN r 0) (byteN r 1) = e := ⟨_, rfl⟩
    have hcases : e = 0 ∨ e = 1 ∨ e = 2 ∨ e = 3 := by omega
    rcases hcases with rfl | rfl | rfl | rfl
    · rw [spl_zero he] at h
      have h2 := consH_inj (spl_ne _ _) h
      have hr : r ≠ [] := by
        rintro rfl
        simp [spl] at h2
      have hrl : 0 < r.length := List.length_pos_iff.2 hr
      have ho2 : okAfter r post := by
        unfold okAfter at ho ⊢
        rwa [lastN_cons hr] at ho
      have hE2 : E4 p b0.toNat (byteN (r ++ post) 0) (byteN (r ++ post) 1) = 0 := by
        rw [byteN_app_left hrl]
        by_cases hr1 : 1 < r.length
        · rw [byteN_app_left hr1]; exact he
        · have hr1' : r.length = 1 := by omega
          obtain ⟨b1, rfl⟩ : ∃ b, r = [b] := by
            match r, hr1' with
            | [b], _ => exact ⟨b, rfl⟩
          rw [byteN_app_right (by simp), byteN_cons_zero]
          rw [byteN_cons_zero, byteN_out (by simp)] at he
          have hp0 : byteN post 0 ≠ 168 ∧ byteN post 0 ≠ 169 ∨ b1.toNat = 10 := by
            rcases ho2 with q | q
            · exact .inr q
            · exact .inl ⟨q.2.2.2.1, q.2.2.2.2⟩
          unfold E4 at he ⊢
          simp only [List.length_singleton, Nat.sub_self] at *
          repeat' split at he
          all_goals (repeat' split) <;> omega
      rw [List.cons_append, spl_zero hE2, spl_cat n r (by simp at hn; omega) b0.toNat post h2 ho2, lastN_cons hr]
      rfl
    · rw [spl_one he] at h
      have h2 : r = [] ∧ spl b0.toNat r = [[]] := by
        simp only [List.cons.injEq, true_and] at h
        exact ⟨h.1.symm, h.2⟩
      obtain ⟨rfl, _⟩ := h2
      have hE2 : E4 p b0.toNat (byteN ([] ++ post) 0) (byteN ([] ++ post) 1) = 1 := by
        rw [List.nil_append]
        rcases E4_one he with ⟨q, hp⟩ | ⟨q, _⟩
        · rw [q, E4_ten, if_neg hp]
        · have hf : free (byteN post 0) := by
            rcases ho with ho | ho
            · exact absurd (show b0.toNat = 10 from ho) (by omega)
            · exact ho
          unfold E4
          rw [q, if_neg (by omega), if_pos rfl, if_neg hf.1]
      show spl p (b0 :: ([] ++ post)) = _
      rw [spl_one hE2]
      rfl
    · have hb1 := E4_two he
      have hr0 := byteN_lt hb1
      obtain ⟨b1, r', rfl⟩ : ∃ b r', r = b :: r' := by
        cases r with
        | nil => simp at hr0
        | cons b r' => exact ⟨b, r', rfl⟩
      rw [spl_two he] at h
      obtain ⟨rfl⟩ : r' = [] := by
        simp only [List.cons.injEq, true_and] at h
        exact h.1.symm
      have hE2 : E4 p b0.toNat (byteN (b1 :: ([] ++ post)) 0) (byteN (b1 :: ([] ++ post)) 1) = 2 := by
        rw [byteN_cons_zero]
        rw [byteN_cons_zero] at he
        unfold E4 at he ⊢
        repeat' split at he
        all_goals (repeat' split) <;> omega
      show spl p (b0 :: b1 :: ([] ++ post)) = _
      rw [spl_two hE2]
      rfl
    · obtain ⟨hb1, hb2⟩ := E4_three he
      have hr1 := byteN_lt hb2
      obtain ⟨b1, b2, r', rfl⟩ : ∃ b b2 r', r = b :: b2 :: r' := by
        match r, hr1 with
        | b :: b2 :: r', _ => exact ⟨b, b2, r', rfl⟩
      rw [spl_three he] at h
      obtain ⟨rfl⟩ : r' = [] := by
        simp only [List.cons.injEq, true_and] at h
        exact h.1.symm
      have hE3 : E4 p b0.toNat (byteN (b1 :: b2 :: ([] ++ post)) 0) (byteN (b1 :: b2 :: ([] ++ post)) 1) = 3 := he
      show spl p (b0 :: b1 :: b2 :: ([] ++ post)) = _
      rw [spl_three hE3]
      rfl
/-- all of them lines that end -/
theorem spl_flat : ∀ (L : List (List UInt8)) (p : Nat) (post : List UInt8), (∀ s ∈ L, ∀ q, q ≠ 13 → spl q s = [s, []]) → (∀ s ∈ L, lastN s = 10) → p ≠ 13 → spl p (L.flatten ++ post) = L ++ spl (if L = [] then p else 10) post
  | [], p, post, _, _, hp => by rw [if_pos rfl]; rfl
  | s :: L, p, post, h1, h2, hp => by
    have hs := h2 s (by simp)
    have hrec := spl_flat L 10 post (fun x hx => h1 x (List.mem_cons_of_mem _ hx)) (fun x hx => h2 x (List.mem_cons_of_mem _ hx)) (by decide)
    have h10 : (if L = [] then 10 else 10) = 10 := by split <;> rfl
    rw [h10] at hrec
    have hc := spl_cat _ s (Nat.le_refl _) p (L.flatten ++ post) (h1 s (by simp) p hp) (.inl hs)
    have hne : (if s :: L = [] then p else 10) = 10 := if_neg (fun e => by cases e)
    rw [List.flatten_cons, List.append_assoc, hc, hs, hrec, hne]
    rfl
/-- a line of plain bytes and a byte 0A -/
def plainB (b : UInt8) : Prop := 32 ≤ b.toNat ∧ b.toNat < 127
theorem spl_good : ∀ (s : List UInt8) (p : Nat), (∀ b ∈ s, plainB b) → (s = [] → p ≠ 13) → spl p (s ++ [10]) = [s ++ [10], []]
  | [], p, _, hp => by
    have hE : E4 p (10 : UInt8).toNat (byteN [] 0) (byteN [] 1) = 1 := by
      show E4 p 10 _ _ = 1
      rw [E4_ten, if_neg (hp rfl)]
    show spl p [10] = _
    rw [spl_one hE]
    simp [spl]
  | b :: s, p, hs, _ => by
    have hb := hs b (by simp)
    unfold plainB at hb
    have hE : E4 p b.toNat (byteN (s ++ [10]) 0) (byteN (s ++ [10]) 1) = 0 := by
      unfold E4
      rw [if_neg (by omega), if_neg (by omega), if_neg (by omega), if_neg (by omega)]
    rw [List.cons_append, spl_zero hE, spl_good s b.toNat (fun x hx => hs x (List.mem_cons_of_mem _ hx)) (fun _ => by omega)]
    rfl
theorem lastN_ten (s : List UInt8) : lastN (s ++ [10]) = 10 := by
  unfold lastN
  rw [List.length_append, List.length_singleton, Nat.add_sub_cancel, byteN_app_right (Nat.le_refl _), Nat.sub_self]
  rfl
/-- texts made of such lines have these lines -/
theorem splitD_good (L : List (List UInt8)) (h : ∀ s ∈ L, ∃ t, s = t ++ [10] ∧ ∀ b ∈ t, plainB b) : splitD L.flatten = L := by
  have h1 : splitA L.flatten = L ++ [[]] := by
    have := spl_flat L 0 [] (fun s hs q hq => by obtain ⟨t, rfl, ht⟩ := h s hs; exact spl_good t q ht (fun _ => hq)) (fun s hs => by obtain ⟨t, rfl, ht⟩ := h s hs; exact lastN_ten t) (by decide)
    rw [List.append_nil] at this
    rw [splitA_spl, this]
    simp [spl]
  unfold splitD
  rw [h1, List.getLast?_concat, if_pos rfl, List.dropLast_concat]
/-- whatever is laid down by hand is no better -/
theorem dist_min (ops : List Op7) : dist (ops.flatMap lineA) (ops.flatMap lineB) ≤ costOps ops := by
  induction ops with
  | nil => simp [dist, costOps]
  | cons o ops ih =>
    unfold costOps at ih ⊢
    rw [List.flatMap_cons, List.flatMap_cons, List.map_cons, List.sum_cons]
    cases o with
    | same s =>
      show dist (s :: ops.flatMap lineA) (s :: ops.flatMap lineB) ≤ 0 + _
      rw [dist_same]; omega
    | gone s =>
      show dist (s :: ops.flatMap lineA) (ops.flatMap lineB) ≤ 1 + _
      have := dist_left s (ops.flatMap lineA) (ops.flatMap lineB)
      omega
    | come s =>
      show dist (ops.flatMap lineA) (s :: ops.flatMap lineB) ≤ 1 + _
      have := dist_right (ops.flatMap lineA) (ops.flatMap lineB) s
      omega
end Go.Proofs.YtnbihjocdlpplaaDoor
/- Lines of a text, each on its own; a patch as a text has the rows that were put: plain law. -/
namespace Go.Proofs.YtnbihjocdlpplaaDoor
set_option linter.unusedVariables false
set_option linter.unusedSimpArgs false
open Go.Lib hiding intOf
def Piece (x : List UInt8) : Prop := ∀ q, q ≠ 13 → spl q x = [x]
def EndP (x : List UInt8) : Prop := ∀ q, q ≠ 13 → spl q x = [x, []]
theorem E4_mono {p q b0 r0 r1 x0 x1 : Nat} (h : E4 p b0 r0 r1 = 0) (hb : b0 ≠ 10) (h0 : x0 = r0 ∨ x0 = 0) (h1 : x1 = r1 ∨ x1 = 0) : E4 q b0 x0 x1 = 0 := by
  unfold E4 at h ⊢
  rw [if_neg hb] at h ⊢
  repeat' split at h
  all_goals (repeat' split) <;> omega
theorem byteN_pre {y z r : List UInt8} (h : y ++ z = r) (i : Nat) : byteN y i = byteN r i ∨ byteN y i = 0 := by
  rcases Nat.lt_or_ge i y.length with h1 | h1
  · exact .inl (by rw [← h, byteN_app_left h1])
  · exact .inr (byteN_out h1)
theorem E4_zero_ne {p b0 b1 b2 : Nat} (h : E4 p b0 b1 b2 = 0) (hp : p = 13 → b0 ≠ 10) : b0 ≠ 10 ∧ b0 ≠ 13 := by
  unfold E4 at h
  repeat' split at h
  all_goals omega
theorem spl_pieces : ∀ (n : Nat) (l : List UInt8), l.length ≤ n → ∀ p : Nat, (p = 13 → byteN l 0 ≠ 10) → ∃ L x, spl p l = L ++ [x] ∧ (∀ s ∈ L, EndP s) ∧ Piece x ∧ (L ++ [x]).flatten = l
  | _, [], _, p, _ => ⟨[], [], (by simp [spl]), fun s hs => (by cases hs), fun q _ => (by simp [spl]), rfl⟩
  | 0, b0 :: r, hn, _, _ => by simp at hn
  | n + 1, b0 :: r, hn, p, hp => by
    have hn' : r.length ≤ n := by simp at hn; omega
    have hE := E4_le p b0.toNat (byteN r 0) (byteN r 1)
    obtain ⟨e, he⟩ : ∃ e, E4 p b0.toNat (byteN r 0) (byteN r 1) = e := ⟨_, rfl⟩
    have hcases : e = 0 ∨ e = 1 ∨ e = 2 ∨ e = 3 := by omega
    rcases hcases with rfl | rfl | rfl | rfl
    · obtain ⟨n10, n13⟩ := E4_zero_ne he hp
      obtain ⟨L, x, h1, h2, h3, h4⟩ := spl_pieces n r hn' b0.toNat (fun h => absurd h n13)
      rw [spl_zero he, h1]
      cases L with
      | nil =>
        have hx : x = r := by simpa using h4
        subst hx
        refine ⟨[], b0 :: x, rfl, fun s hs => (by cases hs), fun q hq => ?_, by simp⟩
        rw [spl_zero (E4_mono he n10 (.inl rfl) (.inl rfl)), h3 _ n13]
        rfl
      | cons y L =>
        refine ⟨(b0 :: y) :: L, x, rfl, fun s hs => ?_, h3, by rw [← h4]; rfl⟩
        rcases List.mem_cons.1 hs with rfl | hs
        · intro q hq
          have hpre : y ++ (L ++ [x]).flatten = r := by rw [← h4]; rfl
          rw [spl_zero (E4_mono he n10 (byteN_pre hpre 0) (byteN_pre hpre 1)), h2 y (by simp) _ n13]
          rfl
        · exact h2 s (List.mem_cons_of_mem _ hs)
    · have hone := E4_one he
      obtain ⟨L, x, h1, h2, h3, h4⟩ := spl_pieces n r hn' b0.toNat (fun h => by rcases hone with ⟨q, _⟩ | ⟨_, q⟩ <;> omega)
      refine ⟨[b0] :: L, x, by rw [spl_one he, h1]; rfl, fun s hs => ?_, h3, by rw [← h4]; rfl⟩
      rcases List.mem_cons.1 hs with rfl | hs
      · intro q hq
        have : E4 q b0.toNat (byteN [] 0) (byteN [] 1) = 1 := by
          have e0 : byteN [] 0 = 0 := rfl
          have e1 : byteN [] 1 = 0 := rfl
          rw [e0, e1]
          unfold E4
          rcases hone with ⟨q1, _⟩ | ⟨q1, _⟩
          · rw [if_pos q1, if_neg hq]
          · rw [if_neg (by omega), if_pos q1, if_neg (by omega)]
        rw [spl_one this]
        simp [spl]
      · exact h2 s hs
    · have hb1 := E4_two he
      have hr0 := byteN_lt hb1
      obtain ⟨b1, r', rfl⟩ : ∃ b r', r = b :: r' := by
        cases r with
        | nil => simp at hr0
        | cons b r' => exact ⟨b, r', rfl⟩
      have hb : b1.toNat ≠ 13 ∧ (∀ q, E4 q b0.toNat (byteN [b1] 0) (byteN [b1] 1) = 2) := by
        have e0 : byteN [b1] 0 = b1.toNat := rfl
        have e1 : byteN [b1] 1 = 0 := rfl
        rw [byteN_cons_zero] at he
        refine ⟨?_, fun q => ?_⟩
        · unfold E4 at he
          repeat' split at he
          all_goals omega
        · rw [e0, e1]
          unfold E4 at he ⊢
          repeat' split at he
          all_goals (repeat' split) <;> omega
      obtain ⟨L, x, h1, h2, h3, h4⟩ := spl_pieces n r' (by simp at hn'; omega) b1.toNat (fun h => absurd h hb.1)
      refine ⟨[b0, b1] :: L, x, by rw [spl_two he, h1]; rfl, fun s hs => ?_, h3, by rw [← h4]; rfl⟩
      rcases List.mem_cons.1 hs with rfl | hs
      · intro q hq
        rw [spl_two (hb.2 q)]
        simp [spl]
      · exact h2 s hs
    · obtain ⟨hb1, hb2⟩ := E4_three he
      have hr1 := byteN_lt hb2
      obtain ⟨b1, b2, r', rfl⟩ : ∃ b b2 r', r = b :: b2 :: r' := by
        match r, hr1 with
        | b :: b2 :: r', _ => exact ⟨b, b2, r', rfl⟩
      have hb : b2.toNat ≠ 13 ∧ (∀ q, E4 q b0.toNat (byteN [b1, b2] 0) (byteN [b1, b2] 1) = 3) := by
        have e0 : byteN (b1 :: b2 :: r') 0 = b1.toNat := rfl
        have e1 : byteN (b1 :: b2 :: r') 1 = b2.toNat := rfl
        have f0 : byteN [b1, b2] 0 = b1.toNat := rfl
        have f1 : byteN [b1, b2] 1 = b2.toNat := rfl
        rw [e0, e1] at he
        refine ⟨?_, fun q => ?_⟩
        · unfold E4 at he
          repeat' split at he
          all_goals omega
        · rw [f0, f1]
          unfold E4 at he ⊢
          repeat' split at he
          all_goals (repeat' split) <;> omega
      obtain ⟨L, x, h1, h2, h3, h4⟩ := spl_pieces n r' (by simp at hn'; omega) b2.toNat (fun h => absurd h hb.1)
      refine ⟨[b0, b1, b2] :: L, x, by rw [spl_three he, h1]; rfl, fun s hs => ?_, h3, by rw [← h4]; rfl⟩
      rcases List.mem_cons.1 hs with rfl | hs
      · intro q hq
        rw [spl_three (hb.2 q)]
        simp [spl]
      · exact h2 s hs
/-- a line: with its end, or the last one without -/
def LineP (s : List UInt8) : Prop := s ≠ [] ∧ (EndP s ∨ Piece s)
theorem endP_ne {s : List UInt8} (h : EndP s) : s ≠ [] := by
  rintro rfl
  have := h 0 (by decide)
  simp [spl] at this
theorem line_splitD {t s : List UInt8} (h : s ∈ splitD t) : LineP s := by
  obtain ⟨L, x, h1, h2, h3, _⟩ := spl_pieces t.length t (Nat.le_refl _) 0 (fun h => by omega)
  unfold splitD at h
  rw [splitA_spl, h1, List.getLast?_concat, List.dropLast_concat] at h
  by_cases hx : x = []
  · rw [if_pos (by rw [hx])] at h
    exact ⟨endP_ne (h2 s h), .inl (h2 s h)⟩
  · rw [if_neg (by simpa using hx)] at h
    rcases List.mem_append.1 h with h | h
    · exact ⟨endP_ne (h2 s h), .inl (h2 s h)⟩
    · rw [List.mem_singleton] at h
      subst h
      exact ⟨hx, .inr h3⟩
theorem ended_spl (s : List UInt8) : endedL s = decide (1 < (spl 0 s).length) := by
  rw [← splitA_spl]
  unfold endedL splitA
  rw [List.length_map]
theorem endP_ended {s : List UInt8} (h : EndP s) : endedL s = true := by rw [ended_spl, h 0 (by decide)]; rfl
theorem piece_ended {s : List UInt8} (h : Piece s) : endedL s = false := by rw [ended_spl, h 0 (by decide)]; rfl
theorem line_checkB {X : List HkI} (h : checkB X = true) : ∀ x ∈ X, ∀ s ∈ x.2, LineP s := by
  intro x hx s hs
  unfold checkB at h
  rw [Bool.and_eq_true, Bool.and_eq_true] at h
  have hk := (okB_mem X 0 h.1.1 x hx).1
  have side : ∀ k : Int, (x.1 = 1 ∨ x.1 = k) → wholeB (sideI k X) = true → LineP s := fun k hk hw => by
    unfold wholeB at hw
    rw [Bool.and_eq_true, beq_iff_eq] at hw
    refine line_splitD (t := (sideI k X).flatten) ?_
    rw [hw.2]
    unfold sideI
    exact List.mem_flatMap.2 ⟨x, hx, by rw [if_pos hk]; exact hs⟩
  by_cases h2 : x.1 = 1 ∨ x.1 = 2
  · exact side 2 h2 h.1.2
  · exact side 3 (by omega) h.2
/-- a line's rows in a patch's text -/
def rowsP (k : Int) (s : List UInt8) : List (List UInt8) := if endedL s = true then [sgn k :: s] else [sgn k :: (s ++ [10]), [92, 10]]
theorem rowP_flat (k : Int) (s : List UInt8) : rowP k s = (rowsP k s).flatten := by
  unfold rowP rowsP tailP
  split <;> simp
theorem sgn_free (k : Int) : sgn k = 32 ∨ sgn k = 45 ∨ sgn k = 43 := by
  unfold sgn
  repeat' split
  all_goals simp
theorem sgn_spl {k : Int} {s : List UInt8} {q : Nat} : spl q (sgn k :: s) = consH (sgn k) (spl (sgn k).toNat s) ∧ (sgn k).toNat ≠ 13 ∧ free (byteN (sgn k :: s) 0) := by
  have h : (sgn k).toNat = 32 ∨ (sgn k).toNat = 45 ∨ (sgn k).toNat = 43 := by
    rcases sgn_free k with e | e | e <;> rw [e] <;> decide
  refine ⟨spl_zero ?_, by omega, ?_⟩
  · unfold E4
    rw [if_neg (by omega), if_neg (by omega), if_neg (by omega), if_neg (by omega)]
  · rw [byteN_cons_zero]
    unfold free
    omega
theorem piece_ten : ∀ (s : List UInt8) (q : Nat), spl q s = [s] → s ≠ [] → spl q (s ++ [10]) = [s ++ [10], []]
  | [], _, _, h => absurd rfl h
  | b0 :: r, q, h, _ => by
    have hE := E4_le q b0.toNat (byteN r 0) (byteN r 1)
    obtain ⟨e, he⟩ : ∃ e, E4 q b0.toNat (byteN r 0) (byteN r 1) = e := ⟨_, rfl⟩
    have hcases : e = 0 ∨ e = 1 ∨ e = 2 ∨ e = 3 := by omega
    have hlen : ∀ (x : List UInt8) (p : Nat) (l : List UInt8), x :: spl p l = [b0 :: r] → False := fun x p l hh => by
      have := spl_ne p l
      simp only [List.cons.injEq] at hh
      exact this hh.2
    rcases hcases with rfl | rfl | rfl | rfl
    · rw [spl_zero he] at h
      have h2 := consH_inj (spl_ne _ _) h
      by_cases hr : r = []
      · subst hr
        have e0 : byteN ([] : List UInt8) 0 = 0 := rfl
        have e1 : byteN ([] : List UInt8) 1 = 0 := rfl
        rw [e0, e1] at he
        have hq : E4 q b0.toNat (byteN [10] 0) (byteN [10] 1) = 0 ∧ b0.toNat ≠ 13 := by
          have f0 : byteN [10] 0 = 10 := rfl
          have f1 : byteN [10] 1 = 0 := rfl
          rw [f0, f1]
          unfold E4 at he ⊢
          repeat' split at he
          all_goals constructor <;> (repeat' split) <;> omega
        show spl q (b0 :: [10]) = _
        rw [spl_zero hq.1]
        have h10 : spl b0.toNat [10] = [[10], []] := by
          rw [spl_one (by show E4 _ 10 _ _ = 1; rw [E4_ten, if_neg hq.2])]
          simp [spl]
        rw [h10]
        rfl
      · have hrl : 0 < r.length := List.length_pos_iff.2 hr
        have hE2 : E4 q b0.toNat (byteN (r ++ [10]) 0) (byteN (r ++ [10]) 1) = 0 := by
          rw [byteN_app_left hrl]
          by_cases hr1 : 1 < r.length
          · rw [byteN_app_left hr1]; exact he
          · rw [byteN_app_right (by omega), show 1 - r.length = 0 by omega]
            have f0 : byteN [10] 0 = 10 := rfl
            rw [f0]
            rw [byteN_out (l := r) (i := 1) (by omega)] at he
            unfold E4 at he ⊢
            repeat' split at he
            all_goals (repeat' split) <;> omega
        rw [List.cons_append, spl_zero hE2, piece_ten r _ h2 hr]
        rfl
    · rw [spl_one he] at h
      exact absurd h (fun h => hlen _ _ _ h)
    · have hr0 := byteN_lt (E4_two he)
      obtain ⟨b1, r', rfl⟩ : ∃ b r', r = b :: r' := by
        cases r with
        | nil => simp at hr0
        | cons b r' => exact ⟨b, r', rfl⟩
      rw [spl_two he] at h
      exact absurd h (fun h => hlen _ _ _ h)
    · have hr1 := byteN_lt (E4_three he).2
      obtain ⟨b1, b2, r', rfl⟩ : ∃ b b2 r', r = b :: b2 :: r' := by
        match r, hr1 with
        | b :: b2 :: r', _ => exact ⟨b, b2, r', rfl⟩
      rw [spl_three he] at h
      exact absurd h (fun h => hlen _ _ _ h)
def RowP (r : List UInt8) : Prop := (∀ q, spl q r = [r, []]) ∧ free (byteN r 0)
theorem rows_row {k : Int} {s : List UInt8} (h : LineP s) : ∀ r ∈ rowsP k s, RowP r := by
  intro r hr
  unfold rowsP at hr
  rcases h.2 with he | hp
  · rw [if_pos (endP_ended he), List.mem_singleton] at hr
    subst hr
    obtain ⟨h1, h2, h3⟩ := sgn_spl (k := k) (s := s) (q := 0)
    refine ⟨fun q => ?_, h3⟩
    rw [(sgn_spl (k := k) (s := s) (q := q)).1, he _ h2]
    rfl
  · rw [if_neg (by rw [piece_ended hp]; decide)] at hr
    simp only [List.mem_cons, List.not_mem_nil, or_false] at hr
    rcases hr with rfl | rfl
    · obtain ⟨h1, h2, h3⟩ := sgn_spl (k := k) (s := s ++ [10]) (q := 0)
      refine ⟨fun q => ?_, h3⟩
      rw [(sgn_spl (k := k) (s := s ++ [10]) (q := q)).1, piece_ten s _ (hp _ h2) h.1]
      rfl
    · refine ⟨fun q => ?_, by show free 92; unfold free; omega⟩
      rw [spl_zero (by show E4 q 92 10 0 = 0; unfold E4; simp), spl_one (by show E4 92 10 _ _ = 1; rw [E4_ten, if_neg (by decide)])]
      simp [spl, consH]
theorem spl_rows : ∀ (R : List (List UInt8)) (p : Nat), (∀ r ∈ R, RowP r) → spl p R.flatten = R ++ [[]]
  | [], p, _ => by simp [spl]
  | r :: R, p, h => by
    have hr := h r (by simp)
    have hR := fun x hx => h x (List.mem_cons_of_mem _ hx)
    have hfree : free (byteN R.flatten 0) := by
      cases R with
      | nil => show free 0; unfold free; omega
      | cons r' R =>
        have h1 := hR r' (by simp)
        have hne : r' ≠ [] := by
          rintro rfl
          have := h1.1 0
          simp [spl] at this
        rw [List.flatten_cons, byteN_app_left (List.length_pos_iff.2 hne)]
        exact h1.2
    rw [List.flatten_cons, spl_cat _ r (Nat.le_refl _) p _ (hr.1 p) (.inr hfree), spl_rows R _ hR]
    rfl
def rowsX (X : List HkI) : List (List UInt8) := X.flatMap fun h => h.2.flatMap (rowsP h.1)
theorem printK_rows (X : List HkI) : printK X = (rowsX X).flatten := by
  have hrow : ∀ (k : Int) (L : List (List UInt8)), L.flatMap (rowP k) = (L.flatMap (rowsP k)).flatten := fun k L => by
    induction L with
    | nil => rfl
    | cons s L ih => rw [List.flatMap_cons, List.flatMap_cons, List.flatten_append, ih, rowP_flat]
  unfold printK rowsX
  induction X with
  | nil => rfl
  | cons x X ih => rw [List.flatMap_cons, List.flatMap_cons, List.flatten_append, ih, hrow]
/-- a patch's text has these rows -/
theorem splitD_print {X : List HkI} (h : checkB X = true) : splitD (printK X) = rowsX X := by
  have hl := line_checkB h
  have hr : ∀ r ∈ rowsX X, RowP r := fun r hr => by
    unfold rowsX at hr
    obtain ⟨x, hx, hr⟩ := List.mem_flatMap.1 hr
    obtain ⟨s, hs, hr⟩ := List.mem_flatMap.1 hr
    exact rows_row (hl x hx s hs) r hr
  unfold splitD
  rw [splitA_spl, printK_rows, spl_rows _ _ hr, List.getLast?_concat, if_pos rfl, List.dropLast_concat]
end Go.Proofs.YtnbihjocdlpplaaDoor
/- Parse of a patch's text, as a plain function; of what was printed it is the patch. -/
namespace Go.Proofs.YtnbihjocdlpplaaDoor
set_option linter.unusedVariables false
set_option linter.unusedSimpArgs false
open Go.Lib hiding intOf
structure PSt where
  H : List Hk
  opn : Bool
  pos : Nat
def kindOf (r : List UInt8) : Nat := if r.head? = some 32 then 1 else if r.head? = some 45 then 2 else if r.head? = some 43 then 3 else 0
/-- a line put behind, in the last hunk if it is of that kind -/
def lastPut (H : List Hk) (k : Nat) (s : List UInt8) : List Hk :=
  match H.getLast? with
  | some h => if h.1 = k then H.dropLast ++ [(k, h.2 ++ [s])] else H ++ [(k, [s])]
  | none => [(k, [s])]
/-- the last line's last byte taken off -/
def cutLast (L : List (List UInt8)) : List (List UInt8) := L.dropLast ++ [(L.getLast?.getD []).dropLast]
def lastCut (H : List Hk) : List Hk :=
  match H.getLast? with
  | some h => H.dropLast ++ [(h.1, cutLast h.2)]
  | none => []
def endsTen (r : List UInt8) : Bool := decide (r.getLast? = some 10)
def stepPar (st : PSt) (r : List UInt8) : Option PSt :=
  if kindOf r ≠ 0 then some ⟨lastPut st.H (kindOf r) r.tail, endsTen r, st.pos + r.length⟩
  else if r = [92, 10] ∧ st.opn = true then some ⟨lastCut st.H, false, st.pos + r.length⟩
  else none
def parGo : List (List UInt8) → PSt → Nat ⊕ List Hk
  | [], st => .inr st.H
  | r :: R, st => match stepPar st r with
    | none => .inl st.pos
    | some st' => parGo R st'
/-- what Parse says: where the fault is, or the patch -/
def parseOf (s : List UInt8) : Nat ⊕ List Hk :=
  match parGo (splitD s) ⟨[], false, 0⟩ with
  | .inl p => .inl p
  | .inr H => if checkB (H.map toI) = true ∧ printK (H.map toI) = s then .inr H else .inl s.length
theorem lastPut_same (H : List Hk) (k : Nat) (L : List (List UInt8)) (s : List UInt8) : lastPut (H ++ [(k, L)]) k s = H ++ [(k, L ++ [s])] := by
  unfold lastPut
  rw [List.getLast?_concat]
  dsimp only
  rw [if_pos rfl, List.dropLast_concat]
theorem lastPut_new (H : List Hk) (k : Nat) (s : List UInt8) (h : ∀ x, H.getLast? = some x → x.1 ≠ k) : lastPut H k s = H ++ [(k, [s])] := by
  unfold lastPut
  cases hl : H.getLast? with
  | none =>
    rw [List.getLast?_eq_none_iff] at hl
    subst hl
    rfl
  | some x =>
    dsimp only
    rw [if_neg (h x hl)]
theorem lastCut_snoc (H : List Hk) (k : Nat) (L : List (List UInt8)) : lastCut (H ++ [(k, L)]) = H ++ [(k, cutLast L)] := by
  unfold lastCut
  rw [List.getLast?_concat]
  dsimp only
  rw [List.dropLast_concat]
theorem cutLast_snoc (L : List (List UInt8)) (s : List UInt8) : cutLast (L ++ [s]) = L ++ [s.dropLast] := by
  unfold cutLast
  rw [List.getLast?_concat, List.dropLast_concat]
  rfl
theorem kind_sgn (k : Nat) (hk : 1 ≤ k ∧ k ≤ 3) (s : List UInt8) : kindOf (sgn (k : Int) :: s) = k := by
  have h3 : k = 1 ∨ k = 2 ∨ k = 3 := by omega
  rcases h3 with rfl | rfl | rfl <;> simp [kindOf, sgn]
theorem par_row (k : Nat) (hk : 1 ≤ k ∧ k ≤ 3) (s : List UInt8) (R : List (List UInt8)) (st : PSt) : parGo ((sgn (k : Int) :: s) :: R) st = parGo R ⟨lastPut st.H k s, endsTen (sgn (k : Int) :: s), st.pos + s.length + 1⟩ := by
  rw [parGo]
  unfold stepPar
  rw [kind_sgn k hk, if_pos (by omega)]
  rfl
/-- a line's rows put the line down -/
theorem par_line (k : Nat) (hk : 1 ≤ k ∧ k ≤ 3) (s : List UInt8) (R : List (List UInt8)) (st : PSt) : ∃ o p, parGo (rowsP (k : Int) s ++ R) st = parGo R ⟨lastPut st.H k s, o, p⟩ := by
  unfold rowsP
  split
  · exact ⟨_, _, par_row k hk s R st⟩
  · refine ⟨false, st.pos + (s ++ [10]).length + 1 + 2, ?_⟩
    rw [List.cons_append, par_row k hk]
    have ho : endsTen (sgn (k : Int) :: (s ++ [10])) = true := by
      unfold endsTen
      rw [← List.cons_append, List.getLast?_concat]
      rfl
    rw [ho]
    show parGo ([92, 10] :: R) _ = _
    rw [parGo]
    unfold stepPar
    have hk0 : kindOf [92, 10] = 0 := by decide
    rw [hk0, if_neg (by omega), if_pos ⟨rfl, rfl⟩]
    dsimp only
    have hcut : lastCut (lastPut st.H k (s ++ [10])) = lastPut st.H k s := by
      unfold lastPut
      cases hl : st.H.getLast? with
      | none =>
        dsimp only
        rw [show ([(k, [s ++ [10]])] : List Hk) = [] ++ [(k, [] ++ [s ++ [10]])] from rfl, lastCut_snoc, cutLast_snoc, List.dropLast_concat]
        rfl
      | some x =>
        dsimp only
        split
        · rw [lastCut_snoc, cutLast_snoc, List.dropLast_concat]
        · rw [lastCut_snoc, show [s ++ [10]] = [] ++ [s ++ [10]] from rfl, cutLast_snoc, List.dropLast_concat]
          rfl
    rw [hcut]
    rfl
theorem par_more (k : Nat) (hk : 1 ≤ k ∧ k ≤ 3) : ∀ (L : List (List UInt8)) (H : List Hk) (L0 : List (List UInt8)) (o : Bool) (p : Nat) (R : List (List UInt8)), ∃ o' p', parGo (L.flatMap (rowsP (k : Int)) ++ R) ⟨H ++ [(k, L0)], o, p⟩ = parGo R ⟨H ++ [(k, L0 ++ L)], o', p'⟩
  | [], H, L0, o, p, R => ⟨o, p, by simp⟩
  | s :: L, H, L0, o, p, R => by
    obtain ⟨o1, p1, h1⟩ := par_line k hk s (L.flatMap (rowsP (k : Int)) ++ R) ⟨H ++ [(k, L0)], o, p⟩
    obtain ⟨o2, p2, h2⟩ := par_more k hk L H (L0 ++ [s]) o1 p1 R
    refine ⟨o2, p2, ?_⟩
    rw [List.flatMap_cons, List.append_assoc, h1]
    dsimp only
    rw [lastPut_same, h2, List.append_assoc]
    rfl
theorem par_hunk (k : Nat) (hk : 1 ≤ k ∧ k ≤ 3) (L : List (List UInt8)) (hL : L ≠ []) (st : PSt) (h : ∀ x, st.H.getLast? = some x → x.1 ≠ k) (R : List (List UInt8)) : ∃ o' p', parGo (L.flatMap (rowsP (k : Int)) ++ R) st = parGo R ⟨st.H ++ [(k, L)], o', p'⟩ := by
  cases L with
  | nil => exact absurd rfl hL
  | cons s L =>
    obtain ⟨o1, p1, h1⟩ := par_line k hk s (L.flatMap (rowsP (k : Int)) ++ R) st
    obtain ⟨o2, p2, h2⟩ := par_more k hk L st.H [s] o1 p1 R
    refine ⟨o2, p2, ?_⟩
    rw [List.flatMap_cons, List.append_assoc, h1, lastPut_new _ _ _ h, h2]
    rfl
theorem par_all : ∀ (X H : List Hk) (o : Bool) (p : Nat), okKinds (lastK 0 H) X → (∀ x ∈ H, 1 ≤ x.1) → parGo (rowsX (X.map toI)) ⟨H, o, p⟩ = .inr (H ++ X)
  | [], H, o, p, _, _ => by simp [rowsX, parGo]
  | (k, L) :: X, H, o, p, hok, hH => by
    obtain ⟨⟨hk, hL, hne, _⟩, hok2⟩ := hok
    dsimp only at hk hL hne hok2
    have hlast : ∀ x, H.getLast? = some x → x.1 ≠ k := fun x hx => by
      obtain ⟨D, rfl⟩ : ∃ D, H = D ++ [x] := by
        rcases List.eq_nil_or_concat H with rfl | ⟨D, y, rfl⟩
        · cases hx
        · rw [List.concat_eq_append, List.getLast?_concat] at hx
          cases hx
          exact ⟨D, List.concat_eq_append⟩
      have := lastK_app D x.1 x.2 0
      rw [show (x.1, x.2) = x from rfl] at this
      rw [this] at hne
      exact fun e => hne e.symm
    obtain ⟨o', p', h1⟩ := par_hunk k hk L hL ⟨H, o, p⟩ hlast (rowsX (X.map toI))
    have e : rowsX (((k, L) :: X).map toI) = L.flatMap (rowsP (k : Int)) ++ rowsX (X.map toI) := by
      unfold rowsX
      rw [List.map_cons, List.flatMap_cons]
      rfl
    rw [e, h1]
    dsimp only
    rw [par_all X (H ++ [(k, L)]) o' p' (by rw [lastK_app]; exact hok2) (fun x hx => by
      rcases List.mem_append.1 hx with hx | hx
      · exact hH x hx
      · rw [List.mem_singleton] at hx; subst hx; exact hk.1)]
    simp
/-- of what was printed, Parse makes the patch again -/
theorem parse_print {H : List Hk} (h : checkB (H.map toI) = true) : parseOf (printK (H.map toI)) = .inr H := by
  unfold parseOf
  have hok : okKinds 0 H := by
    refine (okB_to H 0).1 ?_
    unfold checkB at h
    rw [Bool.and_eq_true, Bool.and_eq_true] at h
    exact h.1.1
  rw [splitD_print h, par_all H [] false 0 hok (fun x hx => by cases hx), List.nil_append]
  dsimp only
  rw [if_pos ⟨h, rfl⟩]
/-- bounds: no more lines than rows, no more bytes than these have -/
theorem lastPut_sums (H : List Hk) (k : Nat) (s : List UInt8) : linesK ((lastPut H k s).map toI) ≤ linesK (H.map toI) + 1 ∧ bytesK ((lastPut H k s).map toI) ≤ bytesK (H.map toI) + s.length ∧ (lastPut H k s).length ≤ H.length + 1 := by
  rcases List.eq_nil_or_concat H with rfl | ⟨D, x, rfl⟩
  · unfold lastPut linesK bytesK; simp [toI]
  · rw [List.concat_eq_append]
    unfold lastPut
    rw [List.getLast?_concat]
    dsimp only
    split
    · rw [List.dropLast_concat]
      unfold linesK bytesK
      simp [toI]
      omega
    · unfold linesK bytesK
      simp [toI]
      omega
theorem cut_sums (L : List (List UInt8)) (hL : L ≠ []) : (cutLast L).length = L.length ∧ (cutLast L).flatten.length ≤ L.flatten.length := by
  rcases List.eq_nil_or_concat L with rfl | ⟨D, x, rfl⟩
  · exact absurd rfl hL
  · rw [List.concat_eq_append, cutLast_snoc]
    simp
theorem lastCut_sums (H : List Hk) (h : ∀ x, H.getLast? = some x → x.2 ≠ []) : linesK ((lastCut H).map toI) ≤ linesK (H.map toI) ∧ bytesK ((lastCut H).map toI) ≤ bytesK (H.map toI) ∧ (lastCut H).length ≤ H.length := by
  rcases List.eq_nil_or_concat H with rfl | ⟨D, x, rfl⟩
  · exact ⟨Nat.le_refl _, Nat.le_refl _, Nat.le_refl _⟩
  · rw [List.concat_eq_append] at h ⊢
    obtain ⟨k, L⟩ := x
    have hL : L ≠ [] := h _ List.getLast?_concat
    have hc := cut_sums L hL
    rw [lastCut_snoc]
    unfold linesK bytesK
    simp [toI]
    have h1 := hc.1
    have h2 := hc.2
    simp only [List.length_flatten] at h2
    omega
end Go.Proofs.YtnbihjocdlpplaaDoor
