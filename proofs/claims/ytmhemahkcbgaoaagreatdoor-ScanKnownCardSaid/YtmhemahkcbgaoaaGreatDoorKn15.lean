/- Texts joined, one behind the other (ScanR, ScanS). -/
import Derived.Test.YtmhemahkcbgaoaaGreatDoorKn14
/- The plain law of the scan, step by step: a token, the end or a fault; what shifts with its place; what is told by the token's own bytes. -/
namespace Go.Proofs.YtmhemahkcbgaoaaGreatDoor
set_option linter.unusedVariables false
set_option linter.unusedSimpArgs false
open Go.Lib
inductive Step7
  | done
  | tok (t : Tok) (k : Nat)
  | err (c p : Nat)
def stepAt (l : List UInt8) (i : Nat) : Step7 :=
  if l.length ≤ i then .done
  else if l.getD i 0 = 34 then
    (if (quotedOf (l.drop i)).2.2 = false then .err 71 (i + (quotedOf (l.drop i)).2.1)
     else if l.length ≤ i + (quotedOf (l.drop i)).2.1 ∨ BlankN (l.getD (i + (quotedOf (l.drop i)).2.1) 0).toNat then .tok ⟨3, i, (quotedOf (l.drop i)).1, 0⟩ (i + (quotedOf (l.drop i)).2.1)
     else .err 70 (i + (quotedOf (l.drop i)).2.1))
  else if endOf RunN l i = i then .err 70 i
  else if l.length ≤ endOf RunN l i ∨ BlankN (l.getD (endOf RunN l i) 0).toNat then .tok (wordTok l i (endOf RunN l i)) (endOf RunN l i)
  else .err 70 (endOf RunN l i)
def stepOf (l : List UInt8) (i : Nat) : Step7 := stepAt l (endOf BlankN l i)
def stepGo (l : List UInt8) (f : Nat) (acc : List Tok) : Step7 → Except (Nat × Nat) (List Tok)
  | .done => .ok acc
  | .tok t k => scanGo l f k (acc ++ [t])
  | .err c p => .error (c, p)
theorem scanGo_step (l : List UInt8) (f i : Nat) (acc : List Tok) : scanGo l (f + 1) i acc = stepGo l f acc (stepOf l i) := by
  rw [scanGo]
  unfold stepOf
  generalize endOf BlankN l i = j
  unfold stepAt
  by_cases h1 : l.length ≤ j
  · rw [if_pos h1, if_pos h1]; rfl
  rw [if_neg h1, if_neg h1]
  by_cases h2 : l.getD j 0 = 34
  · rw [if_pos h2, if_pos h2]
    by_cases h3 : (quotedOf (l.drop j)).2.2 = false
    · rw [if_pos h3, if_pos h3]; rfl
    rw [if_neg h3, if_neg h3]
    by_cases h4 : l.length ≤ j + (quotedOf (l.drop j)).2.1 ∨ BlankN (l.getD (j + (quotedOf (l.drop j)).2.1) 0).toNat
    · rw [if_pos h4, if_pos h4]; rfl
    · rw [if_neg h4, if_neg h4]; rfl
  rw [if_neg h2, if_neg h2]
  by_cases h3 : endOf RunN l j = j
  · rw [if_pos h3, if_pos h3]; rfl
  rw [if_neg h3, if_neg h3]
  by_cases h4 : l.length ≤ endOf RunN l j ∨ BlankN (l.getD (endOf RunN l j) 0).toNat
  · rw [if_pos h4, if_pos h4]; rfl
  · rw [if_neg h4, if_neg h4]; rfl
theorem wordTok_at (l : List UInt8) (i k : Nat) : (wordTok l i k).at' = i := by
  unfold wordTok; split <;> rfl
theorem step_tok {l : List UInt8} {i k : Nat} {t : Tok} (h : stepAt l i = .tok t k) : i < l.length ∧ i < k ∧ k ≤ l.length ∧ t.at' = i ∧ (l.length ≤ k ∨ BlankN (l.getD k 0).toNat) := by
  unfold stepAt at h
  by_cases h1 : l.length ≤ i
  · rw [if_pos h1] at h; cases h
  rw [if_neg h1] at h
  by_cases h2 : l.getD i 0 = 34
  · rw [if_pos h2] at h
    by_cases h3 : (quotedOf (l.drop i)).2.2 = false
    · rw [if_pos h3] at h; cases h
    rw [if_neg h3] at h
    have h3' : (quotedOf (l.drop i)).2.2 = true := by simpa using h3
    have hb := unqP_bound (l.drop i) _ 1 [] h3'
    change (quotedOf (l.drop i)).2.1 ≤ _ ∧ 1 < (quotedOf (l.drop i)).2.1 at hb
    rw [List.length_drop] at hb
    by_cases h4 : l.length ≤ i + (quotedOf (l.drop i)).2.1 ∨ BlankN (l.getD (i + (quotedOf (l.drop i)).2.1) 0).toNat
    · rw [if_pos h4] at h
      cases h
      exact ⟨by omega, by omega, by omega, rfl, h4⟩
    · rw [if_neg h4] at h; cases h
  rw [if_neg h2] at h
  by_cases h3 : endOf RunN l i = i
  · rw [if_pos h3] at h; cases h
  rw [if_neg h3] at h
  by_cases h4 : l.length ≤ endOf RunN l i ∨ BlankN (l.getD (endOf RunN l i) 0).toNat
  · rw [if_pos h4] at h
    cases h
    have := endOf_ge (p := RunN) l i
    exact ⟨by omega, by omega, endOf_le (by omega), wordTok_at _ _ _, h4⟩
  · rw [if_neg h4] at h; cases h
theorem step_done {l : List UInt8} {i : Nat} (h : stepAt l i = .done) : l.length ≤ i := by
  refine Classical.byContradiction fun h1 => ?_
  unfold stepAt at h
  rw [if_neg h1] at h
  revert h
  repeat' split
  all_goals (intro h; cases h)
/-! shifted -/
def Tok.shift (d : Int) (t : Tok) : Tok := { t with at' := t.at' + d }
def Step7.shift (d : Nat) : Step7 → Step7
  | .done => .done
  | .tok t k => .tok (t.shift d) (d + k)
  | .err c p => .err c (d + p)
theorem drop_shift (pre b : List UInt8) (j : Nat) : (pre ++ b).drop (pre.length + j) = b.drop j := by
  rw [← List.drop_drop, List.drop_left]
theorem getD_shift (pre b : List UInt8) (j : Nat) : (pre ++ b).getD (pre.length + j) 0 = b.getD j 0 := by
  rw [List.getD_eq_getElem?_getD, List.getD_eq_getElem?_getD, List.getElem?_append_right (Nat.le_add_right _ _), Nat.add_sub_cancel_left]
theorem endOf_shift (p : Nat → Prop) [DecidablePred p] (pre b : List UInt8) (j : Nat) : endOf p (pre ++ b) (pre.length + j) = pre.length + endOf p b j := by
  unfold endOf
  rw [drop_shift, Nat.add_assoc]
theorem wordTok_shift (pre b : List UInt8) (i k : Nat) : wordTok (pre ++ b) (pre.length + i) (pre.length + k) = (wordTok b i k).shift pre.length := by
  unfold wordTok
  rw [drop_shift, show pre.length + k - (pre.length + i) = k - i by omega]
  cases numOf ((b.drop i).take (k - i)) <;> simp [Tok.shift, Int.add_comm]
theorem stepAt_shift (pre b : List UInt8) (j : Nat) : stepAt (pre ++ b) (pre.length + j) = (stepAt b j).shift pre.length := by
  unfold stepAt
  rw [drop_shift, getD_shift, endOf_shift, Nat.add_assoc pre.length j, getD_shift, getD_shift, wordTok_shift, List.length_append]
  have e1 : ∀ x, (pre.length + b.length ≤ pre.length + x) = (b.length ≤ x) := fun x => propext ⟨fun h => by omega, fun h => by omega⟩
  have e2 : ∀ x y : Nat, (pre.length + x = pre.length + y) = (x = y) := fun x y => propext ⟨fun h => by omega, fun h => by omega⟩
  simp only [e1, e2]
  by_cases h1 : b.length ≤ j
  · rw [if_pos h1, if_pos h1]; rfl
  rw [if_neg h1, if_neg h1]
  by_cases h2 : b.getD j 0 = 34
  · rw [if_pos h2, if_pos h2]
    by_cases h3 : (quotedOf (b.drop j)).2.2 = false
    · rw [if_pos h3, if_pos h3]; rfl
    rw [if_neg h3, if_neg h3]
    by_cases h4 : b.length ≤ j + (quotedOf (b.drop j)).2.1 ∨ BlankN (b.getD (j + (quotedOf (b.drop j)).2.1) 0).toNat
    · rw [if_pos h4, if_pos h4]; simp [Step7.shift, Tok.shift, Int.add_comm]
    · rw [if_neg h4, if_neg h4]; rfl
  rw [if_neg h2, if_neg h2]
  by_cases h3 : endOf RunN b j = j
  · rw [if_pos h3, if_pos h3]; rfl
  rw [if_neg h3, if_neg h3]
  by_cases h4 : b.length ≤ endOf RunN b j ∨ BlankN (b.getD (endOf RunN b j) 0).toNat
  · rw [if_pos h4, if_pos h4]; rfl
  · rw [if_neg h4, if_neg h4]; rfl
theorem stepOf_shift (pre b : List UInt8) (j : Nat) : stepOf (pre ++ b) (pre.length + j) = (stepOf b j).shift pre.length := by
  unfold stepOf
  rw [endOf_shift, stepAt_shift]
/-! a token is told by its own bytes and the blank behind it -/
def Ends7 (r : List UInt8) : Prop := r = [] ∨ BlankN (r.getD 0 0).toNat
theorem blank_norun {n : Nat} (h : BlankN n) : ¬ RunN n := by unfold BlankN at h; unfold RunN; omega
theorem endOf_app {p : Nat → Prop} [DecidablePred p] {A r : List UInt8} (hA : ∀ x ∈ A, p x.toNat) (hr : r = [] ∨ ¬ p (r.getD 0 0).toNat) : endOf p (A ++ r) 0 = A.length := by
  unfold endOf
  rw [List.drop_zero, List.takeWhile_append_of_pos (by simpa using hA), Nat.zero_add, List.length_append]
  have : r.takeWhile (fun x => decide (p x.toNat)) = [] := by
    cases r with
    | nil => rfl
    | cons x r =>
      rcases hr with h | h
      · cases h
      · exact List.takeWhile_cons_of_neg (by simpa using h)
  rw [this]
  rfl
theorem tw_all (p : UInt8 → Bool) : ∀ (l : List UInt8), ∀ x ∈ l.takeWhile p, p x = true
  | [], x, h => by simp at h
  | y :: l, x, h => by
    rw [List.takeWhile_cons] at h
    split at h
    · rcases List.mem_cons.1 h with rfl | h
      · assumption
      · exact tw_all p l x h
    · cases h
theorem take_tw (p : UInt8 → Bool) (l : List UInt8) : l.take (l.takeWhile p).length = l.takeWhile p :=
  (List.prefix_iff_eq_take.1 (List.takeWhile_prefix p)).symm
theorem endOf_zero {p : Nat → Prop} [DecidablePred p] (D : List UInt8) : endOf p D 0 = (D.takeWhile fun x => decide (p x.toNat)).length := by
  unfold endOf; rw [List.drop_zero, Nat.zero_add]
theorem endOf_take {p : Nat → Prop} [DecidablePred p] {D r : List UInt8} (hr : r = [] ∨ ¬ p (r.getD 0 0).toNat) : endOf p (D.take (endOf p D 0) ++ r) 0 = endOf p D 0 := by
  have hl : (D.take (endOf p D 0)).length = endOf p D 0 := by rw [List.length_take]; have := endOf_le (p := p) (l := D) (i := 0) (Nat.zero_le _); omega
  have hA : ∀ x ∈ D.take (endOf p D 0), p x.toNat := by
    rw [endOf_zero, take_tw]
    intro x hx
    have := tw_all _ _ _ hx
    simpa using this
  rw [endOf_app hA hr, hl]
theorem ends_norun {r : List UInt8} (hr : Ends7 r) : r = [] ∨ ¬ RunN (r.getD 0 0).toNat := hr.imp id blank_norun
theorem bound_ends {D r : List UInt8} {k : Nat} (hk : k ≤ D.length) (hr : Ends7 r) : (D.take k ++ r).length ≤ k ∨ BlankN ((D.take k ++ r).getD k 0).toNat := by
  have hl : (D.take k).length = k := by rw [List.length_take]; omega
  rcases hr with rfl | hr
  · left; rw [List.append_nil, hl]; exact Nat.le_refl _
  · right
    have := getD_shift (D.take k) r 0
    rw [hl, Nat.add_zero] at this
    rw [this]; exact hr
theorem step_local0 {D r : List UInt8} {t : Tok} {k : Nat} (h : stepAt D 0 = .tok t k) (hr : Ends7 r) : stepAt (D.take k ++ r) 0 = .tok t k := by
  obtain ⟨b1, b2, b3, _, _⟩ := step_tok h
  have hbd := bound_ends b3 hr
  have hlen : k ≤ (D.take k ++ r).length := by rw [List.length_append, List.length_take]; omega
  have g0 : (D.take k ++ r).getD 0 0 = D.getD 0 0 := getD_takeR b2 b1
  unfold stepAt at h ⊢
  rw [if_neg (by omega)] at h
  rw [if_neg (by omega), g0]
  by_cases h2 : D.getD 0 0 = 34
  · rw [if_pos h2] at h ⊢
    rw [List.drop_zero] at h ⊢
    by_cases h3 : (quotedOf D).2.2 = false
    · rw [if_pos h3] at h; cases h
    rw [if_neg h3] at h
    simp only [Nat.zero_add] at h ⊢
    by_cases h4 : D.length ≤ (quotedOf D).2.1 ∨ BlankN (D.getD (quotedOf D).2.1 0).toNat
    · rw [if_pos h4] at h
      cases h
      rw [quoted_strong r b3 (by simpa using h3) (Nat.le_refl _), if_neg h3, if_pos hbd]
    · rw [if_neg h4] at h; cases h
  rw [if_neg h2] at h ⊢
  by_cases h3 : endOf RunN D 0 = 0
  · rw [if_pos h3] at h; cases h
  rw [if_neg h3] at h
  by_cases h4 : D.length ≤ endOf RunN D 0 ∨ BlankN (D.getD (endOf RunN D 0) 0).toNat
  · rw [if_pos h4] at h
    have hk : k = endOf RunN D 0 := by cases h; rfl
    subst hk
    cases h
    rw [endOf_take (ends_norun hr), if_neg h3, if_pos hbd]
    unfold wordTok
    have : ((D.take (endOf RunN D 0) ++ r).drop 0).take (endOf RunN D 0 - 0) = (D.drop 0).take (endOf RunN D 0 - 0) := by
      rw [List.drop_zero, List.drop_zero, Nat.sub_zero, List.take_append_of_le_length (by rw [List.length_take]; omega), List.take_take, Nat.min_self]
    rw [this]
  · rw [if_neg h4] at h; cases h
theorem split_at (l : List UInt8) {i : Nat} (h : i ≤ l.length) : (l.take i) ++ l.drop i = l ∧ (l.take i).length = i := ⟨List.take_append_drop i l, by rw [List.length_take]; omega⟩
theorem stepAt_drop (l : List UInt8) {i : Nat} (h : i ≤ l.length) : stepAt l i = (stepAt (l.drop i) 0).shift i := by
  obtain ⟨e, el⟩ := split_at l h
  have := stepAt_shift (l.take i) (l.drop i) 0
  rwa [e, el, Nat.add_zero] at this
/-- the token at a place, out of its own bytes -/
theorem step_local {l r : List UInt8} {i k : Nat} {t : Tok} (h : stepAt l i = .tok t k) (hr : Ends7 r) : stepAt ((l.drop i).take (k - i) ++ r) 0 = .tok { t with at' := 0 } (k - i) := by
  obtain ⟨b1, b2, b3, b4, _⟩ := step_tok h
  rw [stepAt_drop l (by omega)] at h
  cases hs : stepAt (l.drop i) 0 with
  | done => rw [hs] at h; cases h
  | err c p => rw [hs] at h; cases h
  | tok t0 k0 =>
    rw [hs] at h
    cases h
    rw [Nat.add_sub_cancel_left]
    have h0 := (step_tok hs).2.2.2.1
    rw [step_local0 hs hr]
    have : ({ t0.shift (i : Int) with at' := 0 } : Tok) = t0 := by
      obtain ⟨a, b, c, d⟩ := t0
      simp only at h0
      subst h0
      rfl
    rw [this]
/-! what was printed -/
theorem dec_mem {u : Nat} : ∀ x ∈ decDigits u, 48 ≤ x.toNat ∧ x.toNat ≤ 57 := by
  intro x hx
  rw [decDigits_eq] at hx
  obtain ⟨t, _, rfl⟩ := List.mem_map.1 hx
  unfold dg
  have : u / 10 ^ (nDigits u - 1 - t) % 10 < 10 := Nat.mod_lt _ (by omega)
  generalize u / 10 ^ (nDigits u - 1 - t) % 10 = d at this
  rw [UInt8.toNat_ofNat']
  omega
theorem numGo_app : ∀ (l r : List UInt8) (n : Nat), numGo (l ++ r) n = (numGo l n).bind (numGo r)
  | [], r, n => rfl
  | x :: l, r, n => by
    rw [List.cons_append, numGo, numGo]
    split
    · rfl
    · split
      · rfl
      · exact numGo_app l r _
theorem one_digit (n d : Nat) (hd : d < 10) (h : 10 * n + d ≤ 9223372036854775807) : numGo [UInt8.ofNat (48 + d)] n = some (10 * n + d) := by
  have e : (UInt8.ofNat (48 + d)).toNat = 48 + d := by rw [UInt8.toNat_ofNat']; omega
  rw [numGo, e, if_neg (by omega), if_neg (by omega), numGo]
  congr 1
  omega
theorem numGo_dec (u : Nat) (h : u ≤ 9223372036854775807) : numGo (decDigits u) 0 = some u := by
  induction u using Nat.strongRecOn with
  | _ u ih =>
    by_cases h1 : u < 10
    · rw [decDigits, dif_pos h1]
      have := one_digit 0 u h1 (by omega)
      rwa [Nat.mul_zero, Nat.zero_add] at this
    · rw [decDigits, dif_neg h1, numGo_app, ih (u / 10) (by omega) (by omega)]
      show numGo _ (u / 10) = _
      rw [one_digit (u / 10) (u % 10) (by omega) (by omega)]
      congr 1
      omega
theorem dec_head {u : Nat} (h0 : 0 < u) : (decDigits u).getD 0 0 ≠ 48 := by
  induction u using Nat.strongRecOn with
  | _ u ih =>
    by_cases h1 : u < 10
    · rw [decDigits, dif_pos h1]
      intro e
      have e2 := congrArg UInt8.toNat e
      rw [List.getD_cons_zero, UInt8.toNat_ofNat'] at e2
      rw [show (48 : UInt8).toNat = 48 from rfl] at e2
      omega
    · rw [decDigits, dif_neg h1, List.getD_eq_getElem?_getD, List.getElem?_append_left (by rw [decDigits_length]; exact nDigits_pos _), ← List.getD_eq_getElem?_getD]
      exact ih (u / 10) (by omega) (by omega)
theorem numOf_dec (u : Nat) (h : u ≤ 9223372036854775807) : numOf (decDigits u) = some u := by
  unfold numOf
  rw [if_neg, numGo_dec u h]
  rintro (h1 | ⟨h1, h2⟩)
  · rw [decDigits_length] at h1; have := nDigits_pos u; omega
  · by_cases h0 : u < 10
    · rw [decDigits_length, nDigits_small h0] at h1; omega
    · exact dec_head (by omega) h2
theorem run_step {A r : List UInt8} (h0 : A ≠ []) (hA : ∀ x ∈ A, RunN x.toNat) (hr : Ends7 r) : stepAt (A ++ r) 0 = .tok (match numOf A with | some n => ⟨2, 0, [], n⟩ | none => ⟨1, 0, A, 0⟩) A.length := by
  have hl : 0 < A.length := List.length_pos_iff.2 h0
  have hbd := bound_ends (D := A) (r := r) (Nat.le_refl _) hr
  rw [List.take_length] at hbd
  unfold stepAt
  rw [if_neg (by rw [List.length_append]; omega), if_neg, endOf_app hA (ends_norun hr), if_neg (by omega), if_pos hbd]
  · unfold wordTok
    rw [List.drop_zero, Nat.sub_zero, List.take_left]
    rfl
  · obtain ⟨x, A, rfl⟩ : ∃ x B, A = x :: B := by cases A with | nil => exact absurd rfl h0 | cons x B => exact ⟨x, B, rfl⟩
    intro e
    have : x = 34 := e
    have h1 := hA x (List.mem_cons_self ..)
    rw [this] at h1
    exact absurd h1 (by decide)
theorem printed_step {t : Tok} {p r : List UInt8} (h : printed t = some p) (hn : t.num ≤ 9223372036854775807) (hr : Ends7 r) : stepAt (p ++ r) 0 = .tok { t with at' := 0 } p.length ∧ 0 < p.length := by
  obtain ⟨k, a, s, n⟩ := t
  unfold printed at h
  dsimp only at h hn ⊢
  by_cases h1 : k = 1
  · rw [if_pos h1] at h
    by_cases h2 : s.length = 0 ∨ (numOf s).isSome = true ∨ (∃ x ∈ s, ¬ RunN x.toNat) ∨ n ≠ 0
    · rw [if_pos h2] at h; cases h
    rw [if_neg h2] at h
    cases h
    subst h1
    have hs : p ≠ [] := fun e => h2 (.inl (by rw [e]; rfl))
    have hnone : numOf p = none := by
      cases e : numOf p with
      | none => rfl
      | some m => exact absurd (.inr (.inl (by rw [e]; rfl))) h2
    have hrun : ∀ x ∈ p, RunN x.toNat := fun x hx => Classical.byContradiction fun hn => h2 (.inr (.inr (.inl ⟨x, hx, hn⟩)))
    have hz : n = 0 := Classical.byContradiction fun hn => h2 (.inr (.inr (.inr hn)))
    rw [run_step hs hrun hr, hnone, hz]
    exact ⟨rfl, List.length_pos_iff.2 hs⟩
  rw [if_neg h1] at h
  by_cases h2 : k = 2
  · rw [if_pos h2] at h
    by_cases h3 : s.length ≠ 0 ∨ n < 0
    · rw [if_pos h3] at h; cases h
    rw [if_neg h3] at h
    cases h
    subst h2
    obtain ⟨u, rfl⟩ : ∃ u : Nat, n = u := ⟨n.toNat, by omega⟩
    have hs : s = [] := List.eq_nil_of_length_eq_zero (by omega)
    have ei : itoa (u : Int) = decDigits u := by unfold itoa; rw [if_neg (by omega), Int.toNat_natCast]
    have hp : 0 < (decDigits u).length := by rw [decDigits_length]; exact nDigits_pos u
    rw [ei, run_step (List.length_pos_iff.1 hp) (fun x hx => by have := dec_mem x hx; unfold RunN; omega) hr, numOf_dec u (by omega), hs]
    exact ⟨rfl, hp⟩
  rw [if_neg h2] at h
  by_cases h3 : k = 3
  · rw [if_pos h3] at h
    by_cases h4 : n ≠ 0
    · rw [if_pos h4] at h; cases h
    rw [if_neg h4] at h
    cases h
    subst h3
    have hz : n = 0 := Classical.not_not.1 h4
    have hbd := bound_ends (D := quoteOf s) (r := r) (Nat.le_refl _) hr
    rw [List.take_length] at hbd
    have hl : 0 < (quoteOf s).length := by unfold quoteOf; simp
    refine ⟨?_, hl⟩
    unfold stepAt
    rw [if_neg (by rw [List.length_append]; omega), if_pos (by unfold quoteOf; rfl), List.drop_zero, quotedOf_quote]
    simp only [Nat.zero_add]
    rw [if_neg (by simp), if_pos hbd, hz]
    rfl
  · rw [if_neg h3] at h; cases h
end Go.Proofs.YtmhemahkcbgaoaaGreatDoor
/- The plain law of the scan: two lines as one; what was printed is read as the same; a token alone; the quoted form. -/
namespace Go.Proofs.YtmhemahkcbgaoaaGreatDoor
set_option linter.unusedVariables false
set_option linter.unusedSimpArgs false
open Go.Lib
inductive Toks7 (l : List UInt8) : Nat → List Tok → Prop
  | done {i : Nat} (h : stepOf l i = .done) : Toks7 l i []
  | tok {i k : Nat} {t : Tok} {L : List Tok} (h : stepOf l i = .tok t k) (hL : Toks7 l k L) : Toks7 l i (t :: L)
theorem scan_toks {l : List UInt8} : ∀ (f i : Nat) (acc L : List Tok), scanGo l f i acc = .ok L → ∃ M, L = acc ++ M ∧ Toks7 l i M
  | 0, i, acc, L, h => by rw [scanGo] at h; cases h
  | f + 1, i, acc, L, h => by
    rw [scanGo_step] at h
    cases hs : stepOf l i with
    | done =>
      rw [hs] at h
      have : acc = L := by simpa [stepGo] using h
      exact ⟨[], by rw [this, List.append_nil], .done hs⟩
    | tok t k =>
      rw [hs] at h
      obtain ⟨M, e, hM⟩ := scan_toks f k _ L h
      exact ⟨t :: M, by rw [e, List.append_assoc]; rfl, .tok hs hM⟩
    | err c p => rw [hs] at h; cases h
theorem stepOf_tok {l : List UInt8} {i k : Nat} {t : Tok} (h : stepOf l i = .tok t k) : i < k ∧ k ≤ l.length := by
  have h1 := step_tok h
  have := endOf_ge (p := BlankN) l i
  exact ⟨by omega, h1.2.2.1⟩
theorem toks_scan {l : List UInt8} {i : Nat} {M : List Tok} (h : Toks7 l i M) : ∀ (f : Nat) (acc : List Tok), i ≤ l.length → l.length < i + f → scanGo l f i acc = .ok (acc ++ M) := by
  induction h with
  | done h =>
    intro f acc hi hf
    obtain ⟨f, rfl⟩ : ∃ g, f = g + 1 := ⟨f - 1, by omega⟩
    rw [scanGo_step, h, List.append_nil]
    rfl
  | tok h hL ih =>
    intro f acc hi hf
    obtain ⟨f, rfl⟩ : ∃ g, f = g + 1 := ⟨f - 1, by omega⟩
    have hk := stepOf_tok h
    rw [scanGo_step, h]
    show scanGo l f _ _ = _
    rw [ih f _ hk.2 (by omega), List.append_assoc]
    rfl
theorem scanOf_ok {l : List UInt8} {L : List Tok} : scanOf l = .ok L ↔ l.length ≤ 16384 ∧ Toks7 l 0 L := by
  unfold scanOf
  constructor
  · intro h
    by_cases hl : 16384 < l.length
    · rw [if_pos hl] at h; cases h
    rw [if_neg hl] at h
    obtain ⟨M, e, hM⟩ := scan_toks _ _ _ _ h
    rw [List.nil_append] at e
    subst e
    exact ⟨by omega, hM⟩
  · rintro ⟨hl, h⟩
    rw [if_neg (by omega), toks_scan h _ _ (Nat.zero_le _) (by omega)]
    rfl
theorem toks_same {l : List UInt8} {i j : Nat} {M : List Tok} (e : stepOf l i = stepOf l j) (h : Toks7 l j M) : Toks7 l i M := by
  cases h with
  | done h => exact .done (e.trans h)
  | tok h hL => exact .tok (e.trans h) hL
theorem toks_shift (pre : List UInt8) {b : List UInt8} {j : Nat} {M : List Tok} (h : Toks7 b j M) : Toks7 (pre ++ b) (pre.length + j) (M.map (Tok.shift pre.length)) := by
  induction h with
  | done h => exact .done (by rw [stepOf_shift, h]; rfl)
  | tok h hL ih => exact .tok (by rw [stepOf_shift, h]; rfl) ih
theorem toks_unshift (pre : List UInt8) {b : List UInt8} {i : Nat} {N : List Tok} (h : Toks7 (pre ++ b) i N) : ∀ j, i = pre.length + j → ∃ m, Toks7 b j m := by
  induction h with
  | done h =>
    rintro j rfl
    rw [stepOf_shift] at h
    cases hs : stepOf b j with
    | done => exact ⟨[], .done hs⟩
    | tok t k => rw [hs] at h; cases h
    | err c p => rw [hs] at h; cases h
  | tok h hL ih =>
    rintro j rfl
    rw [stepOf_shift] at h
    cases hs : stepOf b j with
    | done => rw [hs] at h; cases h
    | err c p => rw [hs] at h; cases h
    | tok t k =>
      rw [hs] at h
      cases h
      obtain ⟨m, hm⟩ := ih k rfl
      exact ⟨t :: m, .tok hs hm⟩
/-! two lines, a blank between -/
theorem tw_length_le (p : UInt8 → Bool) (l : List UInt8) : (l.takeWhile p).length ≤ l.length := (List.takeWhile_prefix p).length_le
theorem endOf_mid {p : Nat → Prop} [DecidablePred p] {a b : List UInt8} {x : UInt8} {i : Nat} (hx : ¬ p x.toNat) (hi : i ≤ a.length) : endOf p (a ++ x :: b) i = endOf p a i := by
  unfold endOf
  rw [List.drop_append_of_le_length hi, List.takeWhile_append]
  split
  · rename_i h
    rw [List.takeWhile_cons_of_neg (by simpa using hx), List.append_nil, h]
  · rfl
theorem endOf_front {p : Nat → Prop} [DecidablePred p] {a : List UInt8} (r : List UInt8) {i : Nat} (h : endOf p a i < a.length) : endOf p (a ++ r) i = endOf p a i := by
  have hi : i ≤ a.length := by have := endOf_ge (p := p) a i; omega
  unfold endOf at h ⊢
  rw [List.drop_append_of_le_length hi, List.takeWhile_append]
  split
  · rename_i h2
    rw [h2, List.length_drop] at h
    omega
  · rfl
theorem endOf_over {p : Nat → Prop} [DecidablePred p] {a b : List UInt8} {x : UInt8} {i : Nat} (hx : p x.toNat) (hi : i ≤ a.length) (h : a.length ≤ endOf p a i) : endOf p (a ++ x :: b) i = endOf p (a ++ x :: b) (a.length + 1) := by
  have e : (a ++ x :: b).drop (a.length + 1) = b := by
    have := drop_shift a (x :: b) 1
    rwa [List.drop_succ_cons, List.drop_zero] at this
  unfold endOf at h ⊢
  rw [e, List.drop_append_of_le_length hi, List.takeWhile_append]
  have hl := tw_length_le (fun x : UInt8 => decide (p x.toNat)) (a.drop i)
  rw [List.length_drop] at hl
  rw [if_pos (by rw [List.length_drop]; omega), List.takeWhile_cons_of_pos (by simpa using hx), List.length_append, List.length_drop, List.length_cons]
  omega
theorem step_front {a b : List UInt8} {i : Nat} (hi : i < a.length) :
    (∀ t k, stepAt a i = .tok t k → stepAt (a ++ 32 :: b) i = .tok t k) ∧ (∀ c p, stepAt a i = .err c p → ¬ (c = 71 ∧ p = a.length) → stepAt (a ++ 32 :: b) i = .err c p) := by
  have hdd : (a ++ 32 :: b).drop i = a.drop i ++ 32 :: b := List.drop_append_of_le_length (by omega)
  rw [stepAt_drop a (Nat.le_of_lt hi), stepAt_drop (a ++ 32 :: b) (i := i) (by rw [List.length_append]; omega), hdd]
  have hDl : (a.drop i).length = a.length - i := List.length_drop
  generalize a.drop i = D at hDl
  constructor
  · intro t k h
    cases hs : stepAt D 0 with
    | done => rw [hs] at h; cases h
    | err c p => rw [hs] at h; cases h
    | tok t0 k0 =>
      obtain ⟨b1, b2, b3, _, b5⟩ := step_tok hs
      have hr : Ends7 (D.drop k0 ++ 32 :: b) := by
        right
        by_cases hk : D.length ≤ k0
        · rw [List.drop_eq_nil_of_le hk]
          exact .inl rfl
        · have : (D.drop k0 ++ 32 :: b).getD 0 0 = D.getD k0 0 := by
            rw [List.getD_eq_getElem?_getD, List.getD_eq_getElem?_getD, List.getElem?_append_left (by rw [List.length_drop]; omega), List.getElem?_drop]
            rfl
          rw [this]
          exact b5.resolve_left hk
      have := step_local0 hs hr
      rw [← List.append_assoc, List.take_append_drop] at this
      rw [this, ← hs]
      exact h
  · intro c p h hne
    cases hs : stepAt D 0 with
    | done => rw [hs] at h; cases h
    | tok t k => rw [hs] at h; cases h
    | err c0 p0 =>
      rw [hs] at h
      cases h
      have hne' : ¬ (c = 71 ∧ p0 = D.length) := fun ⟨h1, h2⟩ => hne ⟨h1, by omega⟩
      have hD : D ≠ [] := List.length_pos_iff.1 (by omega)
      suffices hh : stepAt (D ++ 32 :: b) 0 = .err c p0 by rw [hh]; rfl
      have gt : ∀ j, j < D.length → (D ++ 32 :: b).getD j 0 = D.getD j 0 := fun j hj => by
        have := getD_takeR (l := D) (r := 32 :: b) (k := D.length) hj hj
        rwa [List.take_length] at this
      have hlen : (D ++ 32 :: b).length = D.length + (b.length + 1) := by rw [List.length_append, List.length_cons]
      unfold stepAt at hs ⊢
      rw [if_neg (by omega)] at hs ⊢
      rw [gt 0 (by omega)]
      by_cases h2 : D.getD 0 0 = 34
      · rw [if_pos h2] at hs ⊢
        rw [List.drop_zero] at hs ⊢
        simp only [Nat.zero_add] at hs ⊢
        by_cases h3 : (quotedOf D).2.2 = false
        · rw [if_pos h3] at hs
          cases hs
          have hp := unqP_place D (D.length + 1) 1 [] (by omega) (by omega)
          change (quotedOf D).2.1 ≤ _ at hp
          rw [quoted_err b hD h3 (by omega), if_pos rfl]
        rw [if_neg h3] at hs
        have h3' : (quotedOf D).2.2 = true := by simpa using h3
        have hb := unqP_bound D _ 1 [] h3'
        change (quotedOf D).2.1 ≤ _ ∧ 1 < (quotedOf D).2.1 at hb
        have hqs := quoted_strong (D := D) (k := D.length) (32 :: b) (Nat.le_refl _) h3' hb.1
        rw [List.take_length] at hqs
        by_cases h4 : D.length ≤ (quotedOf D).2.1 ∨ BlankN (D.getD (quotedOf D).2.1 0).toNat
        · rw [if_pos h4] at hs; cases hs
        · rw [if_neg h4] at hs
          cases hs
          rw [hqs, if_neg h3, if_neg]
          rw [gt _ (by omega)]
          rintro (h | h)
          · omega
          · exact h4 (.inr h)
      rw [if_neg h2] at hs ⊢
      rw [endOf_mid (p := RunN) (by decide) (Nat.zero_le _)]
      by_cases h3 : endOf RunN D 0 = 0
      · rw [if_pos h3] at hs ⊢; exact hs
      rw [if_neg h3] at hs ⊢
      by_cases h4 : D.length ≤ endOf RunN D 0 ∨ BlankN (D.getD (endOf RunN D 0) 0).toNat
      · rw [if_pos h4] at hs; cases hs
      · rw [if_neg h4] at hs
        rw [if_neg]
        · exact hs
        · rw [gt _ (by omega)]
          rintro (h | h)
          · omega
          · exact h4 (.inr h)
theorem long_shift {a b : List UInt8} {m : List Tok} (hb : Toks7 b 0 m) : Toks7 (a ++ 32 :: b) (a.length + 1) (m.map (Tok.shift (a.length + 1))) := by
  have := toks_shift (a ++ [32]) hb
  rw [List.append_assoc, List.length_append, Nat.add_zero] at this
  exact this
theorem over_same {a b : List UInt8} {i : Nat} (hi : i ≤ a.length) (h : stepOf a i = .done) : stepOf (a ++ 32 :: b) i = stepOf (a ++ 32 :: b) (a.length + 1) := by
  unfold stepOf
  rw [endOf_over (p := BlankN) (by decide) hi (step_done h)]
theorem front_of {a b : List UInt8} {i k : Nat} {t : Tok} (h : stepOf a i = .tok t k) : stepOf (a ++ 32 :: b) i = .tok t k := by
  have h1 := (step_tok h).1
  unfold stepOf at h ⊢
  rw [endOf_front (p := BlankN) _ h1]
  exact (step_front h1).1 _ _ h
theorem apart_ok {a b : List UInt8} {m : List Tok} (hb : Toks7 b 0 m) {i : Nat} {l : List Tok} (ha : Toks7 a i l) : i ≤ a.length → Toks7 (a ++ 32 :: b) i (l ++ m.map (Tok.shift (a.length + 1))) := by
  induction ha with
  | done h => exact fun hi => toks_same (over_same hi h) (long_shift hb)
  | tok h hL ih => exact fun hi => .tok (front_of h) (ih (stepOf_tok h).2)
theorem apart_conv {a b : List UInt8} {i : Nat} {l : List Tok} (ha : Toks7 a i l) : ∀ N, i ≤ a.length → Toks7 (a ++ 32 :: b) i N → ∃ m, Toks7 b 0 m := by
  induction ha with
  | done h =>
    intro N hi hN
    have := toks_same (over_same (b := b) hi h).symm hN
    exact toks_unshift (a ++ [32]) (b := b) (i := a.length + 1) (N := N) (by rw [List.append_assoc]; exact this) 0 (by simp)
  | tok h hL ih =>
    intro N hi hN
    cases hN with
    | done h2 => rw [front_of h] at h2; cases h2
    | tok h2 hL2 =>
      rw [front_of h] at h2
      cases h2
      exact ih _ (stepOf_tok h).2 hL2
theorem apart_err {a b : List UInt8} {e : Nat × Nat} (hne : e ≠ (71, a.length)) : ∀ (f i : Nat) (acc : List Tok), scanGo a f i acc = .error e → a.length < i + f → i ≤ a.length → ∀ N, ¬ Toks7 (a ++ 32 :: b) i N
  | 0, i, acc, h, hf, hi, N => by omega
  | f + 1, i, acc, h, hf, hi, N => by
    intro hN
    rw [scanGo_step] at h
    cases hs : stepOf a i with
    | done => rw [hs] at h; cases h
    | tok t k =>
      rw [hs] at h
      have hk := stepOf_tok hs
      cases hN with
      | done h2 => rw [front_of hs] at h2; cases h2
      | tok h2 hL2 =>
        rw [front_of hs] at h2
        cases h2
        exact apart_err hne f _ _ h (by omega) hk.2 _ hL2
    | err c p =>
      rw [hs] at h
      cases h
      have h1 : endOf BlankN a i < a.length := by
        refine Classical.byContradiction fun h1 => ?_
        unfold stepOf stepAt at hs
        rw [if_pos (by omega)] at hs
        cases hs
      have hf : stepOf (a ++ 32 :: b) i = .err c p := by
        unfold stepOf at hs ⊢
        rw [endOf_front (p := BlankN) _ h1]
        exact (step_front h1).2 _ _ hs fun ⟨h2, h3⟩ => hne (by rw [h2, h3])
      cases hN with
      | done h2 => rw [hf] at h2; cases h2
      | tok h2 hL2 => rw [hf] at h2; cases h2
theorem not_ok {l : List UInt8} (h : ∀ L, scanOf l ≠ .ok L) : ∃ e, scanOf l = .error e := by
  cases hs : scanOf l with
  | ok L => exact absurd hs (h L)
  | error e => exact ⟨e, rfl⟩
theorem apart_both {a b : List UInt8} {l m : List Tok} (hl : a.length + 1 + b.length ≤ 16384) (ha : scanOf a = .ok l) (hb : scanOf b = .ok m) : scanOf (a ++ 32 :: b) = .ok (l ++ m.map (Tok.shift (a.length + 1))) := by
  rw [scanOf_ok] at ha hb ⊢
  exact ⟨by rw [List.length_append, List.length_cons]; omega, apart_ok hb.2 ha.2 (Nat.zero_le _)⟩
theorem apart_second {a b : List UInt8} {l : List Tok} {e : Nat × Nat} (hl : a.length + 1 + b.length ≤ 16384) (ha : scanOf a = .ok l) (hb : scanOf b = .error e) : ∃ e', scanOf (a ++ 32 :: b) = .error e' := by
  refine not_ok fun N hN => ?_
  rw [scanOf_ok] at ha hN
  obtain ⟨m, hm⟩ := apart_conv ha.2 N (Nat.zero_le _) hN.2
  have := scanOf_ok.2 ⟨(by omega : b.length ≤ 16384), hm⟩
  rw [this] at hb
  cases hb
theorem apart_first {a b : List UInt8} {e : Nat × Nat} (hl : a.length + 1 + b.length ≤ 16384) (ha : scanOf a = .error e) (hne : e ≠ (71, a.length)) : ∃ e', scanOf (a ++ 32 :: b) = .error e' := by
  refine not_ok fun N hN => ?_
  rw [scanOf_ok] at hN
  unfold scanOf at ha
  rw [if_neg (by omega)] at ha
  exact apart_err hne _ _ _ ha (by omega) (Nat.zero_le _) N hN.2
theorem apart_long {a b : List UInt8} (hl : 16384 < a.length + 1 + b.length) : scanOf (a ++ 32 :: b) = .error (4, 0) := by
  unfold scanOf
  rw [if_pos (by rw [List.length_append, List.length_cons]; omega)]
end Go.Proofs.YtmhemahkcbgaoaaGreatDoor
