/- The plain law of the scan: two lines as one; what was printed is read as the same; a token alone; the quoted form. -/
import Derived.Test.YtmhemahkcbgaoaaDoorScanR
namespace Go.Proofs.YtmhemahkcbgaoaaDoor
set_option linter.unusedVariables false
set_option linter.unusedSimpArgs false
open Go.Lib
inductive Toks7 (l : List UInt8) : Nat → List Tok → Prop
  | done {i : Nat} (h : stepOf l i = .done) : Toks7 l i []
  | tok {i k : Nat} {t : Tok} {L : List Tok} (h : stepOf l i = .tok t k) (hL : Toks7 l k L) : Toks7 l i (t :: L)
theorem scan_toks {l : List UInt8} : ∀ (f i : Nat) (acc L : List Tok), scanGo l f i acc = .ok L → ∃ M, L = acc ++ M ∧ Toks7 l i M
  | 0, i, acc, L, h => by rw [scanGo] at h; cases h
  | f + 1, i, acc, L, h => by
    rw [scanGo_step] at h
    cases hs : stepOf l i with
    | done =>
      rw [hs] at h
      have : acc = L := by simpa [stepGo] using h
      exact ⟨[], by rw [this, List.append_nil], .done hs⟩
    | tok t k =>
      rw [hs] at h
      obtain ⟨M, e, hM⟩ := scan_toks f k _ L h
      exact ⟨t :: M, by rw [e, List.append_assoc]; rfl, .tok hs hM⟩
    | err c p => rw [hs] at h; cases h
theorem stepOf_tok {l : List UInt8} {i k : Nat} {t : Tok} (h : stepOf l i = .tok t k) : i < k ∧ k ≤ l.length := by
  have h1 := step_tok h
  have := endOf_ge (p := BlankN) l i
  exact ⟨by omega, h1.2.2.1⟩
theorem toks_scan {l : List UInt8} {i : Nat} {M : List Tok} (h : Toks7 l i M) : ∀ (f : Nat) (acc : List Tok), i ≤ l.length → l.length < i + f → scanGo l f i acc = .ok (acc ++ M) := by
  induction h with
  | done h =>
    intro f acc hi hf
    obtain ⟨f, rfl⟩ : ∃ g, f = g + 1 := ⟨f - 1, by omega⟩
    rw [scanGo_step, h, List.append_nil]
    rfl
  | tok h hL ih =>
    intro f acc hi hf
    obtain ⟨f, rfl⟩ : ∃ g, f = g + 1 := ⟨f - 1, by omega⟩
    have hk := stepOf_tok h
    rw [scanGo_step, h]
    show scanGo l f _ _ = _
    rw [ih f _ hk.2 (by omega), List.append_assoc]
    rfl
theorem scanOf_ok {l : List UInt8} {L : List Tok} : scanOf l = .ok L ↔ l.length ≤ 16384 ∧ Toks7 l 0 L := by
  unfold scanOf
  constructor
  · intro h
    by_cases hl : 16384 < l.length
    · rw [if_pos hl] at h; cases h
    rw [if_neg hl] at h
    obtain ⟨M, e, hM⟩ := scan_toks _ _ _ _ h
    rw [List.nil_append] at e
    subst e
    exact ⟨by omega, hM⟩
  · rintro ⟨hl, h⟩
    rw [if_neg (by omega), toks_scan h _ _ (Nat.zero_le _) (by omega)]
    rfl
theorem toks_same {l : List UInt8} {i j : Nat} {M : List Tok} (e : stepOf l i = stepOf l j) (h : Toks7 l j M) : Toks7 l i M := by
  cases h with
  | done h => exact .done (e.trans h)
  | tok h hL => exact .tok (e.trans h) hL
theorem toks_shift (pre : List UInt8) {b : List UInt8} {j : Nat} {M : List Tok} (h : Toks7 b j M) : Toks7 (pre ++ b) (pre.length + j) (M.map (Tok.shift pre.length)) := by
  induction h with
  | done h => exact .done (by rw [stepOf_shift, h]; rfl)
  | tok h hL ih => exact .tok (by rw [stepOf_shift, h]; rfl) ih
theorem toks_unshift (pre : List UInt8) {b : List UInt8} {i : Nat} {N : List Tok} (h : Toks7 (pre ++ b) i N) : ∀ j, i = pre.length + j → ∃ m, Toks7 b j m := by
  induction h with
  | done h =>
    rintro j rfl
    rw [stepOf_shift] at h
    cases hs : stepOf b j with
    | done => exact ⟨[], .done hs⟩
    | tok t k => rw [hs] at h; cases h
    | err c p => rw [hs] at h; cases h
  | tok h hL ih =>
    rintro j rfl
    rw [stepOf_shift] at h
    cases hs : stepOf b j with
    | done => rw [hs] at h; cases h
    | err c p => rw [hs] at h; cases h
    | tok t k =>
      rw [hs] at h
      cases h
      obtain ⟨m, hm⟩ := ih k rfl
      exact ⟨t :: m, .tok hs hm⟩
/-! two lines, a blank between -/
theorem tw_length_le (p : UInt8 → Bool) (l : List UInt8) : (l.takeWhile p).length ≤ l.length := (List.takeWhile_prefix p).length_le
theorem endOf_mid {p : Nat → Prop} [DecidablePred p] {a b : List UInt8} {x : UInt8} {i : Nat} (hx : ¬ p x.toNat) (hi : i ≤ a.length) : endOf p (a ++ x :: b) i = endOf p a i := by
  unfold endOf
  rw [List.drop_append_of_le_length hi, List.takeWhile_append]
  split
  · rename_i h
    rw [List.takeWhile_cons_of_neg (by simpa using hx), List.append_nil, h]
  · rfl
theorem endOf_front {p : Nat → Prop} [DecidablePred p] {a : List UInt8} (r : List UInt8) {i : Nat} (h : endOf p a i < a.length) : endOf p (a ++ r) i = endOf p a i := by
  have hi : i ≤ a.length := by have := endOf_ge (p := p) a i; omega
  unfold endOf at h ⊢
  rw [List.drop_append_of_le_length hi, List.takeWhile_append]
  split
  · rename_i h2
    rw [h2, List.length_drop] at h
    omega
  · rfl
theorem endOf_over {p : Nat → Prop} [DecidablePred p] {a b : List UInt8} {x : UInt8} {i : Nat} (hx : p x.toNat) (hi : i ≤ a.length) (h : a.length ≤ endOf p a i) : endOf p (a ++ x :: b) i = endOf p (a ++ x :: b) (a.length + 1) := by
  have e : (a ++ x :: b).drop (a.length + 1) = b := by
    have := drop_shift a (x :: b) 1
    rwa [List.drop_succ_cons, List.drop_zero] at this
  unfold endOf at h ⊢
  rw [e, List.drop_append_of_le_length hi, List.takeWhile_append]
  have hl := tw_length_le (fun x : UInt8 => decide (p x.toNat)) (a.drop i)
  rw [List.length_drop] at hl
  rw [if_pos (by rw [List.length_drop]; omega), List.takeWhile_cons_of_pos (by simpa using hx), List.length_append, List.length_drop, List.length_cons]
  omega
theorem step_front {a b : List UInt8} {i : Nat} (hi : i < a.length) :
    (∀ t k, stepAt a i = .tok t k → stepAt (a ++ 32 :: b) i = .tok t k) ∧ (∀ c p, stepAt a i = .err c p → ¬ (c = 71 ∧ p = a.length) → stepAt (a ++ 32 :: b) i = .err c p) := by
  have hdd : (a ++ 32 :: b).drop i = a.drop i ++ 32 :: b := List.drop_append_of_le_length (by omega)
  rw [stepAt_drop a (Nat.le_of_lt hi), stepAt_drop (a ++ 32 :: b) (i := i) (by rw [List.length_append]; omega), hdd]
  have hDl : (a.drop i).length = a.length - i := List.length_drop
  generalize a.drop i = D at hDl
  constructor
  · intro t k h
    cases hs : stepAt D 0 with
    | done => rw [hs] at h; cases h
    | err c p => rw [hs] at h; cases h
    | tok t0 k0 =>
      obtain ⟨b1, b2, b3, _, b5⟩ := step_tok hs
      have hr : Ends7 (D.drop k0 ++ 32 :: b) := by
        right
        by_cases hk : D.length ≤ k0
        · rw [List.drop_eq_nil_of_le hk]
          exact .inl rfl
        · have : (D.drop k0 ++ 32 :: b).getD 0 0 = D.getD k0 0 := by
            rw [List.getD_eq_getElem?_getD, List.getD_eq_getElem?_getD, List.getElem?_append_left (by rw [List.length_drop]; omega), List.getElem?_drop]
            rfl
          rw [this]
          exact b5.resolve_left hk
      have := step_local0 hs hr
      rw [← List.append_assoc, List.take_append_drop] at this
      rw [this, ← hs]
      exact h
  · intro c p h hne
    cases hs : stepAt D 0 with
    | done => rw [hs] at h; cases h
    | tok t k => rw [hs] at h; cases h
    | err c0 p0 =>
      rw [hs] at h
      cases h
      have hne' : ¬ (c = 71 ∧ p0 = D.length) := fun ⟨h1, h2⟩ => hne ⟨h1, by omega⟩
      have hD : D ≠ [] := List.length_pos_iff.1 (by omega)
      suffices hh : stepAt (D ++ 32 :: b) 0 = .err c p0 by rw [hh]; rfl
      have gt : ∀ j, j < D.length → (D ++ 32 :: b).getD j 0 = D.getD j 0 := fun j hj => by
        have := getD_takeR (l := D) (r := 32 :: b) (k := D.length) hj hj
        rwa [List.take_length] at this
      have hlen : (D ++ 32 :: b).length = D.length + (b.length + 1) := by rw [List.length_append, List.length_cons]
      unfold stepAt at hs ⊢
      rw [if_neg (by omega)] at hs ⊢
      rw [gt 0 (by omega)]
      by_cases h2 : D.getD 0 0 = 34
      · rw [if_pos h2] at hs ⊢
        rw [List.drop_zero] at hs ⊢
        simp only [Nat.zero_add] at hs ⊢
        by_cases h3 : (quotedOf D).2.2 = false
        · rw [if_pos h3] at hs
          cases hs
          have hp := unqP_place D (D.length + 1) 1 [] (by omega) (by omega)
          change (quotedOf D).2.1 ≤ _ at hp
          rw [quoted_err b hD h3 (by omega), if_pos rfl]
        rw [if_neg h3] at hs
        have h3' : (quotedOf D).2.2 = true := by simpa using h3
        have hb := unqP_bound D _ 1 [] h3'
        change (quotedOf D).2.1 ≤ _ ∧ 1 < (quotedOf D).2.1 at hb
        have hqs := quoted_strong (D := D) (k := D.length) (32 :: b) (Nat.le_refl _) h3' hb.1
        rw [List.take_length] at hqs
        by_cases h4 : D.length ≤ (quotedOf D).2.1 ∨ BlankN (D.getD (quotedOf D).2.1 0).toNat
        · rw [if_pos h4] at hs; cases hs
        · rw [if_neg h4] at hs
          cases hs
          rw [hqs, if_neg h3, if_neg]
          rw [gt _ (by omega)]
          rintro (h | h)
          · omega
          · exact h4 (.inr h)
      rw [if_neg h2] at hs ⊢
      rw [endOf_mid (p := RunN) (by decide) (Nat.zero_le _)]
      by_cases h3 : endOf RunN D 0 = 0
      · rw [if_pos h3] at hs ⊢; exact hs
      rw [if_neg h3] at hs ⊢
      by_cases h4 : D.length ≤ endOf RunN D 0 ∨ BlankN (D.getD (endOf RunN D 0) 0).toNat
      · rw [if_pos h4] at hs; cases hs
      · rw [if_neg h4] at hs
        rw [if_neg]
        · exact hs
        · rw [gt _ (by omega)]
          rintro (h | h)
          · omega
          · exact h4 (.inr h)
theorem long_shift {a b : List UInt8} {m : List Tok} (hb : Toks7 b 0 m) : Toks7 (a ++ 32 :: b) (a.length + 1) (m.map (Tok.shift (a.length + 1))) := by
  have := toks_shift (a ++ [32]) hb
  rw [List.append_assoc, List.length_append, Nat.add_zero] at this
  exact this
theorem over_same {a b : List UInt8} {i : Nat} (hi : i ≤ a.length) (h : stepOf a i = .done) : stepOf (a ++ 32 :: b) i = stepOf (a ++ 32 :: b) (a.length + 1) := by
  unfold stepOf
  rw [endOf_over (p := BlankN) (by decide) hi (step_done h)]
theorem front_of {a b : List UInt8} {i k : Nat} {t : Tok} (h : stepOf a i = .tok t k) : stepOf (a ++ 32 :: b) i = .tok t k := by
  have h1 := (step_tok h).1
  unfold stepOf at h ⊢
  rw [endOf_front (p := BlankN) _ h1]
  exact (step_front h1).1 _ _ h
theorem apart_ok {a b : List UInt8} {m : List Tok} (hb : Toks7 b 0 m) {i : Nat} {l : List Tok} (ha : Toks7 a i l) : i ≤ a.length → Toks7 (a ++ 32 :: b) i (l ++ m.map (Tok.shift (a.length + 1))) := by
  induction ha with
  | done h => exact fun hi => toks_same (over_same hi h) (long_shift hb)
  | tok h hL ih => exact fun hi => .tok (front_of h) (ih (stepOf_tok h).2)
theorem apart_conv {a b : List UInt8} {i : Nat} {l : List Tok} (ha : Toks7 a i l) : ∀ N, i ≤ a.length → Toks7 (a ++ 32 :: b) i N → ∃ m, Toks7 b 0 m := by
  induction ha with
  | done h =>
    intro N hi hN
    have := toks_same (over_same (b := b) hi h).symm hN
    exact toks_unshift (a ++ [32]) (b := b) (i := a.length + 1) (N := N) (by rw [List.append_assoc]; exact this) 0 (by simp)
  | tok h hL ih =>
    intro N hi hN
    cases hN with
    | done h2 => rw [front_of h] at h2; cases h2
    | tok h2 hL2 =>
      rw [front_of h] at h2
      cases h2
      exact ih _ (stepOf_tok h).2 hL2
theorem apart_err {a b : List UInt8} {e : Nat × Nat} (hne : e ≠ (71, a.length)) : ∀ (f i : Nat) (acc : List Tok), scanGo a f i acc = .error e → a.length < i + f → i ≤ a.length → ∀ N, ¬ Toks7 (a ++ 32 :: b) i N
  | 0, i, acc, h, hf, hi, N => by omega
  | f + 1, i, acc, h, hf, hi, N => by
    intro hN
    rw [scanGo_step] at h
    cases hs : stepOf a i with
    | done => rw [hs] at h; cases h
    | tok t k =>
      rw [hs] at h
      have hk := stepOf_tok hs
      cases hN with
      | done h2 => rw [front_of hs] at h2; cases h2
      | tok h2 hL2 =>
        rw [front_of hs] at h2
        cases h2
        exact apart_err hne f _ _ h (by omega) hk.2 _ hL2
    | err c p =>
      rw [hs] at h
      cases h
      have h1 : endOf BlankN a i < a.length := by
        refine Classical.byContradiction fun h1 => ?_
        unfold stepOf stepAt at hs
        rw [if_pos (by omega)] at hs
        cases hs
      have hf : stepOf (a ++ 32 :: b) i = .err c p := by
        unfold stepOf at hs ⊢
        rw [endOf_front (p := BlankN) _ h1]
        exact (step_front h1).2 _ _ hs fun ⟨h2, h3⟩ => hne (by rw [h2, h3])
      cases hN with
      | done h2 => rw [hf] at h2; cases h2
      | tok h2 hL2 => rw [hf] at h2; cases h2
theorem not_ok {l : List UInt8} (h : ∀ L, scanOf l ≠ .ok L) : ∃ e, scanOf l = .error e := by
  cases hs : scanOf l with
  | ok L => exact absurd hs (h L)
  | error e => exact ⟨e, rfl⟩
theorem apart_both {a b : List UInt8} {l m : List Tok} (hl : a.length + 1 + b.length ≤ 16384) (ha : scanOf a = .ok l) (hb : scanOf b = .ok m) : scanOf (a ++ 32 :: b) = .ok (l ++ m.map (Tok.shift (a.length + 1))) := by
  rw [scanOf_ok] at ha hb ⊢
  exact ⟨by rw [List.length_append, List.length_cons]; omega, apart_ok hb.2 ha.2 (Nat.zero_le _)⟩
theorem apart_second {a b : List UInt8} {l : List Tok} {e : Nat × Nat} (hl : a.length + 1 + b.length ≤ 16384) (ha : scanOf a = .ok l) (hb : scanOf b = .error e) : ∃ e', scanOf (a ++ 32 :: b) = .error e' := by
  refine not_ok fun N hN => ?_
  rw [scanOf_ok] at ha hN
  obtain ⟨m, hm⟩ := apart_conv ha.2 N (Nat.zero_le _) hN.2
  have := scanOf_ok.2 ⟨(by omega : b.length ≤ 16384), hm⟩
  rw [this] at hb
  cases hb
theorem apart_first {a b : List UInt8} {e : Nat × Nat} (hl : a.length + 1 + b.length ≤ 16384) (ha : scanOf a = .error e) (hne : e ≠ (71, a.length)) : ∃ e', scanOf (a ++ 32 :: b) = .error e' := by
  refine not_ok fun N hN => ?_
  rw [scanOf_ok] at hN
  unfold scanOf at ha
  rw [if_neg (by omega)] at ha
  exact apart_err hne _ _ _ ha (by omega) (Nat.zero_le _) N hN.2
theorem apart_long {a b : List UInt8} (hl : 16384 < a.length + 1 + b.length) : scanOf (a ++ 32 :: b) = .error (4, 0) := by
  unfold scanOf
  rw [if_pos (by rw [List.length_append, List.length_cons]; omega)]
end Go.Proofs.YtmhemahkcbgaoaaDoor
