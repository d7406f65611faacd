/- Texts joined, one behind the other (SPartP, SStdP, SStand). -/
import Derived.Test.YtchdeboialbdiaaDoorSk24
/- Patterns of plain parts: what is written is read again; which places they lead to: plain law. -/
namespace Go.Proofs.YtchdeboialbdiaaDoor
set_option linter.unusedVariables false
set_option linter.unusedSimpArgs false
open Go.Lib hiding intOf
/-- a part: a character (or any one), and how many: one, or by '?', '*', '+' (0 to 3) -/
structure BitN where
  r : Nat
  any : Bool
  how : Nat
def sgn (how : Nat) : List Nat := if how = 1 then [63] else if how = 2 then [42] else if how = 3 then [43] else []
def bitV (b : BitN) : List Nat := (if b.any = true then [46] else qV b.r) ++ sgn b.how
def itB (b : BitN) : Itm := ⟨if b.any = true then 46 else 99, false, if b.any = true then [] else [.rng b.r b.r], if b.how = 1 ∨ b.how = 2 then 0 else 1, decide (b.how = 2 ∨ b.how = 3)⟩
def partsV (l : List BitN) : List Nat := l.flatMap bitV
theorem at_pre (pre X : List Nat) (k : Nat) : (pre ++ X)[pre.length + k]? = X[k]? := by
  rw [List.getElem?_append_right (by omega), Nat.add_sub_cancel_left]
theorem count_sgn {V rest : List Nat} {j : Nat} (how : Nat) (hj : ∀ k, V[j + k]? = (sgn how ++ rest)[k]?) (hr : ∀ x t, rest = x :: t → x ≠ 42 ∧ x ≠ 43 ∧ x ≠ 63) :
    countP V j = (if how = 1 ∨ how = 2 then 0 else 1, decide (how = 2 ∨ how = 3), j + (sgn how).length) := by
  have h0 := hj 0
  rw [Nat.add_zero] at h0
  unfold countP
  rw [h0]
  by_cases h1 : how = 1
  · subst h1; rfl
  · by_cases h2 : how = 2
    · subst h2; rfl
    · by_cases h3 : how = 3
      · subst h3; rfl
      · have e : sgn how = [] := by unfold sgn; rw [if_neg h1, if_neg h2, if_neg h3]
        rw [e, if_neg (by omega : ¬ (how = 1 ∨ how = 2)), decide_eq_false (by omega : ¬ (how = 2 ∨ how = 3))]
        cases rest with
        | nil => rfl
        | cons x t =>
          obtain ⟨a1, a2, a3⟩ := hr x t rfl
          show (if some x = some 42 then _ else _) = _
          rw [if_neg (by intro h; exact a1 (Option.some.inj h)), if_neg (by intro h; exact a2 (Option.some.inj h)), if_neg (by intro h; exact a3 (Option.some.inj h))]
          rfl
theorem bitV_front (b : BitN) (s : List Nat) : ∀ x t, bitV b ++ s = x :: t → x ≠ 42 ∧ x ≠ 43 ∧ x ≠ 63 := by
  intro x t e
  unfold bitV at e
  by_cases h : b.any = true
  · rw [if_pos h] at e
    cases e
    decide
  · rw [if_neg h] at e
    unfold qV at e
    by_cases hq : qmN b.r = true
    · rw [if_pos hq] at e
      cases e
      decide
    · rw [if_neg hq] at e
      have hx : x = b.r := by
        have := congrArg List.head? e
        simpa using this.symm
      unfold qmN at hq
      rw [decide_eq_true_iff] at hq
      omega
theorem parts_front (l : List BitN) : ∀ x t, partsV l = x :: t → x ≠ 42 ∧ x ≠ 43 ∧ x ≠ 63 := by
  intro x t e
  cases l with
  | nil => cases e
  | cons b r => exact bitV_front b _ x t e
theorem mark_of {v : Nat} (h : qmN v = true) : markN v = true := by
  unfold qmN at h
  rw [decide_eq_true_iff] at h
  unfold markN
  rcases h with rfl | rfl | rfl | rfl | rfl | rfl | rfl | rfl | rfl <;> rfl
theorem item_part (pre rest : List Nat) (b : BitN) (hr : ∀ x t, rest = x :: t → x ≠ 42 ∧ x ≠ 43 ∧ x ≠ 63) :
    itemP (pre ++ (bitV b ++ rest)) pre.length = .inr (itB b, pre.length + (bitV b).length) := by
  obtain ⟨V, hV⟩ : ∃ V, pre ++ (bitV b ++ rest) = V := ⟨_, rfl⟩
  have hat : ∀ k, V[pre.length + k]? = (bitV b ++ rest)[k]? := fun k => by rw [← hV]; exact at_pre _ _ _
  rw [hV]
  by_cases h : b.any = true
  · have e : bitV b ++ rest = 46 :: (sgn b.how ++ rest) := by unfold bitV; rw [if_pos h]; rfl
    have h0 : V[pre.length]? = some 46 := by have := hat 0; rw [e] at this; exact this
    have hc := count_sgn (V := V) (j := pre.length + 1) b.how (fun k => by have := hat (1 + k); rw [e, Nat.add_comm 1 k, List.getElem?_cons_succ] at this; rw [← this]; congr 1; omega) hr
    unfold itemP
    rw [h0]
    have hl : (bitV b).length = 1 + (sgn b.how).length := by unfold bitV; rw [if_pos h, List.length_append]; rfl
    show Sum.inr (withCount V 46 false [] (pre.length + 1)) = _
    unfold withCount
    rw [hc, hl]
    unfold itB
    rw [if_pos h, if_pos h, ← Nat.add_assoc]
  · by_cases hq : qmN b.r = true
    · have e : bitV b ++ rest = 92 :: b.r :: (sgn b.how ++ rest) := by unfold bitV qV; rw [if_neg h, if_pos hq]; rfl
      have h0 : V[pre.length]? = some 92 := by have := hat 0; rw [e] at this; exact this
      have h1 : V[pre.length + 1]? = some b.r := by have := hat 1; rw [e] at this; exact this
      have hc := count_sgn (V := V) (j := pre.length + 2) b.how (fun k => by have := hat (k + 2); rw [e, List.getElem?_cons_succ, List.getElem?_cons_succ] at this; rw [← this]; congr 1; omega) hr
      have hl : (bitV b).length = 2 + (sgn b.how).length := by unfold bitV qV; rw [if_neg h, if_pos hq, List.length_append]; rfl
      have ho : oneP V pre.length = .inr (0, b.r, pre.length + 2) := by
        unfold oneP
        rw [h0]
        dsimp only
        rw [if_pos rfl, h1]
        dsimp only
        rw [if_pos (mark_of hq)]
      unfold itemP
      rw [h0]
      show (match oneP V pre.length with | .inl b => _ | .inr (k, v, j) => _) = _
      rw [ho]
      show Sum.inr (withCount V 99 false [if 0 = 0 then El.rng b.r b.r else El.kind 0] (pre.length + 2)) = _
      unfold withCount
      rw [hc, hl, if_pos rfl]
      unfold itB
      rw [if_neg h, if_neg h, ← Nat.add_assoc]
    · have e : bitV b ++ rest = b.r :: (sgn b.how ++ rest) := by unfold bitV qV; rw [if_neg h, if_neg hq]; rfl
      have h0 : V[pre.length]? = some b.r := by have := hat 0; rw [e] at this; exact this
      have hc := count_sgn (V := V) (j := pre.length + 1) b.how (fun k => by have := hat (1 + k); rw [e, Nat.add_comm 1 k, List.getElem?_cons_succ] at this; rw [← this]; congr 1; omega) hr
      have hl : (bitV b).length = 1 + (sgn b.how).length := by unfold bitV qV; rw [if_neg h, if_neg hq, List.length_append]; rfl
      have hn := hq
      unfold qmN at hn
      rw [decide_eq_true_iff] at hn
      have ho : oneP V pre.length = .inr (0, b.r, pre.length + 1) := by
        unfold oneP
        rw [h0]
        dsimp only
        rw [if_neg (by omega)]
      unfold itemP
      rw [h0]
      dsimp only
      rw [if_neg (by omega), if_neg (by omega), if_neg (by omega), if_neg (by omega), ho]
      dsimp only
      unfold withCount
      rw [hc, hl, if_pos rfl]
      unfold itB
      rw [if_neg h, if_neg h, ← Nat.add_assoc]
theorem bitV_pos (b : BitN) : 1 ≤ (bitV b).length := by
  unfold bitV
  rw [List.length_append]
  split
  · show 1 ≤ 1 + _; omega
  · unfold qV
    split
    · show 1 ≤ 2 + _; omega
    · show 1 ≤ 1 + _; omega
theorem items_parts : ∀ (l : List BitN) (pre : List Nat) (acc : List Itm) (f : Nat), l.length < f → itemsGo (pre ++ partsV l) f pre.length acc = .inr (acc ++ l.map itB)
  | [], pre, acc, 0, h => by rw [itemsGo, List.map_nil, List.append_nil]
  | [], pre, acc, f + 1, h => by
    rw [itemsGo, if_pos (by show (pre ++ []).length ≤ pre.length; rw [List.append_nil]; exact Nat.le_refl _), List.map_nil, List.append_nil]
  | b :: r, pre, acc, 0, h => by cases h
  | b :: r, pre, acc, f + 1, h => by
    have hp := bitV_pos b
    have e : pre ++ partsV (b :: r) = pre ++ (bitV b ++ partsV r) := rfl
    rw [itemsGo, e, if_neg (by rw [List.length_append, List.length_append]; omega), item_part pre (partsV r) b (parts_front r)]
    dsimp only
    have ih := items_parts r (pre ++ bitV b) (acc ++ [itB b]) f (by rw [List.length_cons] at h; omega)
    rw [List.append_assoc, List.length_append] at ih
    rw [ih, List.append_assoc, List.map_cons]
    rfl
theorem parts_len : ∀ (l : List BitN), l.length ≤ (partsV l).length
  | [] => Nat.le_refl _
  | b :: r => by
    have := parts_len r
    have := bitV_pos b
    show r.length + 1 ≤ (bitV b ++ partsV r).length
    rw [List.length_append]
    omega
theorem fold_parts (l : List BitN) : foldedP (partsV l) = false := by
  unfold foldedP
  rw [decide_eq_false_iff_not]
  rintro ⟨h0, h1⟩
  cases l with
  | nil => cases h0
  | cons b r =>
    change (bitV b ++ partsV r)[0]? = some 92 at h0
    change (bitV b ++ partsV r)[1]? = some 105 at h1
    unfold bitV at h0 h1
    by_cases h : b.any = true
    · rw [if_pos h] at h0
      cases h0
    · rw [if_neg h] at h0 h1
      unfold qV at h0 h1
      by_cases hq : qmN b.r = true
      · rw [if_pos hq] at h0 h1
        have : b.r = 105 := Option.some.inj h1
        rw [this] at hq
        cases hq
      · rw [if_neg hq] at h0
        have : b.r = 92 := Option.some.inj h0
        rw [this] at hq
        exact hq rfl
theorem parts_items (l : List BitN) : itemsP (partsV l) = .inr (l.map itB) := by
  unfold itemsP
  rw [fold_parts, if_neg (by decide)]
  have := items_parts l [] [] ((partsV l).length + 1) (by have := parts_len l; omega)
  exact this
/-- the places to which items lead, one behind the other -/
def chainR (fo : Bool) (V : List Nat) : List Itm → Nat → Nat → Prop
  | [], i, j => i = j
  | it :: r, i, j => ∃ m, Reach (atP fo V it) (decide (it.least = 0)) it.many i m ∧ chainR fo V r m j
theorem reach_chain (fo : Bool) (V : List Nat) : ∀ (its : List Itm), (∀ it ∈ its, isEdge it = false) → ∀ (S : Nat → Bool) (j : Nat), reachP fo V its S j = true ↔ ∃ i, S i = true ∧ chainR fo V its i j
  | [], _, S, j => by
    show S j = true ↔ ∃ i, S i = true ∧ i = j
    constructor
    · intro h; exact ⟨j, h, rfl⟩
    · rintro ⟨i, h, rfl⟩; exact h
  | it :: r, h, S, j => by
    rw [reachP, reach_chain fo V r (fun x hx => h x (List.mem_cons_of_mem _ hx))]
    constructor
    · rintro ⟨m, h1, h2⟩
      obtain ⟨i, h3, h4⟩ := (led_iff fo V it S (h it (List.mem_cons_self ..)) m).1 h1
      exact ⟨i, h3, m, h4, h2⟩
    · rintro ⟨i, h3, m, h4, h2⟩
      exact ⟨m, (led_iff fo V it S (h it (List.mem_cons_self ..)) m).2 ⟨i, h3, h4⟩, h2⟩
theorem reachR_le {at_ : Nat → Bool} {zero many : Bool} {i m : Nat} (h : Reach at_ zero many i m) : i ≤ m := by
  rcases h with h | h
  · omega
  · omega
theorem chain_le (fo : Bool) (V : List Nat) : ∀ (its : List Itm) (i j : Nat), chainR fo V its i j → i ≤ j
  | [], i, j, h => Nat.le_of_eq h
  | it :: r, i, j, ⟨m, h1, h2⟩ => Nat.le_trans (reachR_le h1) (chain_le fo V r m j h2)
theorem part_edge (b : BitN) : isEdge (itB b) = false := by
  unfold isEdge itB
  rw [decide_eq_false_iff_not]
  dsimp only
  split <;> omega
theorem parts_edge (l : List BitN) : ∀ it ∈ l.map itB, isEdge it = false := by
  intro it h
  obtain ⟨b, _, rfl⟩ := List.mem_map.1 h
  exact part_edge b
/-- from i: the last place that can be come to -/
theorem longest_chain (fo : Bool) (V : List Nat) (its : List Itm) (h : ∀ it ∈ its, isEdge it = false) (i : Nat) : match longestP fo V its i with
    | some j => j ≤ V.length ∧ chainR fo V its i j ∧ ∀ k, j < k → k ≤ V.length → ¬ chainR fo V its i k
    | none => ∀ k, k ≤ V.length → ¬ chainR fo V its i k := by
  have hs := lastTrue_spec (reachP fo V its fun j => decide (j = i)) V.length
  have hc : ∀ k, (reachP fo V its (fun j => decide (j = i)) k = true) ↔ chainR fo V its i k := by
    intro k
    rw [reach_chain fo V its h]
    constructor
    · rintro ⟨a, h1, h2⟩
      have : a = i := of_decide_eq_true h1
      rw [← this]; exact h2
    · intro h2
      exact ⟨i, decide_eq_true rfl, h2⟩
  unfold longestP
  cases hl : lastTrue (reachP fo V its fun j => decide (j = i)) V.length with
  | none =>
    rw [hl] at hs
    intro k hk hck
    have := hs k hk
    rw [(hc k).2 hck] at this
    cases this
  | some j =>
    rw [hl] at hs
    refine ⟨hs.1, (hc j).1 hs.2.1, fun k h1 h2 hck => ?_⟩
    have := hs.2.2 k h1 h2
    rw [(hc k).2 hck] at this
    cases this
/-- is the character at t one of the part's? -/
def hereB (V : List Nat) (b : BitN) (t : Nat) : Bool := atP false V (itB b) t
theorem chain_zero (V : List Nat) (b : BitN) (r : List Itm) (t j : Nat) (h1 : b.how ≠ 1) (h2 : b.how ≠ 2) (h3 : b.how ≠ 3) : chainR false V (itB b :: r) t j ↔ (hereB V b t = true ∧ chainR false V r (t + 1) j) := by
  have e1 : decide ((itB b).least = 0) = false := by
    rw [decide_eq_false_iff_not]
    show ¬ (if b.how = 1 ∨ b.how = 2 then 0 else 1) = 0
    rw [if_neg (by omega)]
    decide
  have e2 : (itB b).many = false := decide_eq_false (by omega)
  show (∃ m, Reach (atP false V (itB b)) (decide ((itB b).least = 0)) (itB b).many t m ∧ chainR false V r m j) ↔ _
  rw [e1, e2]
  constructor
  · rintro ⟨m, h | ⟨h4, h5, h6⟩, hr⟩
    · cases h.2
    · rcases h5 with h5 | h5
      · cases h5
      · subst h5
        exact ⟨h6 t (Nat.le_refl _) (by omega), hr⟩
  · rintro ⟨h4, h5⟩
    exact ⟨t + 1, .inr ⟨by omega, .inr rfl, fun k k1 k2 => by obtain rfl : k = t := (by omega); exact h4⟩, h5⟩
theorem chain_maybe (V : List Nat) (b : BitN) (r : List Itm) (t j : Nat) (h1 : b.how = 1) : chainR false V (itB b :: r) t j ↔ (chainR false V r t j ∨ (hereB V b t = true ∧ chainR false V r (t + 1) j)) := by
  have e1 : decide ((itB b).least = 0) = true := by
    rw [decide_eq_true_iff]
    show (if b.how = 1 ∨ b.how = 2 then 0 else 1) = 0
    rw [if_pos (by omega)]
  have e2 : (itB b).many = false := decide_eq_false (by omega)
  show (∃ m, Reach (atP false V (itB b)) (decide ((itB b).least = 0)) (itB b).many t m ∧ chainR false V r m j) ↔ _
  rw [e1, e2]
  constructor
  · rintro ⟨m, h | ⟨h4, h5, h6⟩, hr⟩
    · left; rw [← h.1]; exact hr
    · rcases h5 with h5 | h5
      · cases h5
      · subst h5
        exact .inr ⟨h6 t (Nat.le_refl _) (by omega), hr⟩
  · rintro (h | ⟨h4, h5⟩)
    · exact ⟨t, .inl ⟨rfl, rfl⟩, h⟩
    · exact ⟨t + 1, .inr ⟨by omega, .inr rfl, fun k k1 k2 => by obtain rfl : k = t := (by omega); exact h4⟩, h5⟩
theorem chain_star (V : List Nat) (b : BitN) (r : List Itm) (t j : Nat) (h1 : b.how = 2) : chainR false V (itB b :: r) t j ↔ (chainR false V r t j ∨ (hereB V b t = true ∧ chainR false V (itB b :: r) (t + 1) j)) := by
  have e1 : decide ((itB b).least = 0) = true := by
    rw [decide_eq_true_iff]
    show (if b.how = 1 ∨ b.how = 2 then 0 else 1) = 0
    rw [if_pos (by omega)]
  have e2 : (itB b).many = true := decide_eq_true (by omega)
  show (∃ m, Reach (atP false V (itB b)) (decide ((itB b).least = 0)) (itB b).many t m ∧ chainR false V r m j) ↔ (_ ∨ (_ ∧ ∃ m, Reach (atP false V (itB b)) (decide ((itB b).least = 0)) (itB b).many (t + 1) m ∧ chainR false V r m j))
  rw [e1, e2]
  constructor
  · rintro ⟨m, h | ⟨h4, h5, h6⟩, hr⟩
    · left; rw [← h.1]; exact hr
    · right
      refine ⟨h6 t (Nat.le_refl _) h4, m, ?_, hr⟩
      by_cases hm : m = t + 1
      · exact .inl ⟨hm, rfl⟩
      · exact .inr ⟨by omega, .inl rfl, fun k k1 k2 => h6 k (by omega) k2⟩
  · rintro (h | ⟨h4, m, h5, h6⟩)
    · exact ⟨t, .inl ⟨rfl, rfl⟩, h⟩
    · refine ⟨m, .inr ?_, h6⟩
      have hle := reachR_le h5
      refine ⟨by omega, .inl rfl, fun k k1 k2 => ?_⟩
      by_cases hk : k = t
      · rw [hk]; exact h4
      · rcases h5 with h5 | ⟨_, _, h5⟩
        · omega
        · exact h5 k (by omega) k2
theorem chain_plus (V : List Nat) (b : BitN) (r : List Itm) (t j : Nat) (h1 : b.how = 3) : chainR false V (itB b :: r) t j ↔ (hereB V b t = true ∧ (chainR false V r (t + 1) j ∨ chainR false V (itB b :: r) (t + 1) j)) := by
  have e1 : decide ((itB b).least = 0) = false := by
    rw [decide_eq_false_iff_not]
    show ¬ (if b.how = 1 ∨ b.how = 2 then 0 else 1) = 0
    rw [if_neg (by omega)]
    decide
  have e2 : (itB b).many = true := decide_eq_true (by omega)
  show (∃ m, Reach (atP false V (itB b)) (decide ((itB b).least = 0)) (itB b).many t m ∧ chainR false V r m j) ↔ (_ ∧ (_ ∨ ∃ m, Reach (atP false V (itB b)) (decide ((itB b).least = 0)) (itB b).many (t + 1) m ∧ chainR false V r m j))
  rw [e1, e2]
  constructor
  · rintro ⟨m, h | ⟨h4, h5, h6⟩, hr⟩
    · cases h.2
    · refine ⟨h6 t (Nat.le_refl _) h4, ?_⟩
      by_cases hm : m = t + 1
      · left; rw [← hm]; exact hr
      · right
        exact ⟨m, .inr ⟨by omega, .inl rfl, fun k k1 k2 => h6 k (by omega) k2⟩, hr⟩
  · rintro ⟨h4, h | ⟨m, h5, h6⟩⟩
    · exact ⟨t + 1, .inr ⟨by omega, .inl rfl, fun k k1 k2 => by obtain rfl : k = t := (by omega); exact h4⟩, h⟩
    · refine ⟨m, .inr ?_, h6⟩
      have hle := reachR_le h5
      refine ⟨by omega, .inl rfl, fun k k1 k2 => ?_⟩
      by_cases hk : k = t
      · rw [hk]; exact h4
      · rcases h5 with h5 | ⟨_, _, h5⟩
        · cases h5.2
        · exact h5 k (by omega) k2
theorem atP_lt {fo : Bool} {V : List Nat} {it : Itm} {t : Nat} (h : atP fo V it t = true) : t < V.length := by
  unfold atP at h
  cases hv : V[t]? with
  | none => rw [hv] at h; cases h
  | some v => exact lt_of_some hv
/-- plain characters one behind the other -/
def plainP (vs : List Nat) : List BitN := vs.map fun v => ⟨v, false, 0⟩
theorem here_sing (V : List Nat) (v t : Nat) : hereB V ⟨v, false, 0⟩ t = true ↔ V[t]? = some v := by
  unfold hereB atP
  cases h : V[t]? with
  | none => simp
  | some x =>
    show atomIs false (itB ⟨v, false, 0⟩) x = true ↔ _
    have : atomIs false (itB ⟨v, false, 0⟩) x = (decide (v ≤ x) && decide (x ≤ v)) := rfl
    rw [this, Bool.and_eq_true, decide_eq_true_iff, decide_eq_true_iff, Option.some.injEq]
    omega
theorem chain_sing (V : List Nat) : ∀ (vs : List Nat) (i j : Nat), chainR false V ((plainP vs).map itB) i j ↔ (j = i + vs.length ∧ vs <+: V.drop i)
  | [], i, j => by
    show i = j ↔ (j = i + 0 ∧ [] <+: V.drop i)
    exact ⟨fun h => ⟨h.symm, List.nil_prefix⟩, fun h => h.1.symm⟩
  | v :: vs, i, j => by
    show chainR false V (itB ⟨v, false, 0⟩ :: (plainP vs).map itB) i j ↔ _
    rw [chain_zero V ⟨v, false, 0⟩ _ i j (show (0 : Nat) ≠ 1 by decide) (show (0 : Nat) ≠ 2 by decide) (show (0 : Nat) ≠ 3 by decide), here_sing, chain_sing V vs (i + 1) j]
    constructor
    · rintro ⟨h1, h2, h3⟩
      have hlt := lt_of_some h1
      refine ⟨by rw [List.length_cons]; omega, ?_⟩
      rw [List.drop_eq_getElem_cons hlt]
      have : V[i] = v := Option.some.inj ((List.getElem?_eq_getElem hlt).symm.trans h1)
      rw [this]
      exact List.cons_prefix_cons.2 ⟨rfl, h3⟩
    · rintro ⟨h1, h2⟩
      have hlt : i < V.length := by
        apply Decidable.byContradiction
        intro hc
        rw [List.drop_of_length_le (by omega)] at h2
        have := h2.length_le
        simp at this
      rw [List.drop_eq_getElem_cons hlt] at h2
      obtain ⟨h3, h4⟩ := List.cons_prefix_cons.1 h2
      exact ⟨by rw [List.getElem?_eq_getElem hlt, h3], by rw [List.length_cons] at h1; omega, h4⟩
theorem longest_sing (V vs : List Nat) (i : Nat) : longestP false V ((plainP vs).map itB) i = if vs <+: V.drop i ∧ i ≤ V.length then some (i + vs.length) else none := by
  have h := longest_chain false V ((plainP vs).map itB) (parts_edge _) i
  cases hl : longestP false V ((plainP vs).map itB) i with
  | none =>
    rw [hl] at h
    rw [if_neg]
    rintro ⟨h1, h2⟩
    have h3 := h1.length_le
    rw [List.length_drop] at h3
    exact h (i + vs.length) (by omega) ((chain_sing V vs i _).2 ⟨rfl, h1⟩)
  | some j =>
    rw [hl] at h
    obtain ⟨h1, h2⟩ := (chain_sing V vs i j).1 h.2.1
    rw [if_pos ⟨h2, by omega⟩, h1]
theorem quote_items (s : List UInt8) : itemsP (valsL (quoteL s)) = .inr ((plainP (valsL s)).map itB) ∧ foldedP (valsL (quoteL s)) = false := by
  have e : valsL (quoteL s) = partsV (plainP (valsL s)) := by
    rw [vals_quote _ s (Nat.le_refl _)]
    unfold partsV plainP
    rw [List.flatMap_map]
    congr 1
    funext v
    show qV v = qV v ++ sgn 0
    rw [show sgn 0 = [] from rfl, List.append_nil]
  rw [e]
  exact ⟨parts_items _, fold_parts _⟩
end Go.Proofs.YtchdeboialbdiaaDoor
/- Where a text stands in another, character by character: plain law (SeekQuoted). -/
namespace Go.Proofs.YtchdeboialbdiaaDoor
set_option linter.unusedVariables false
set_option linter.unusedSimpArgs false
open Go.Lib hiding intOf
theorem ats_zero (l : List UInt8) : 0 ∈ atsL l := by
  by_cases h : l = []
  · subst h; rw [ats_nil]; exact List.mem_singleton.2 rfl
  · rw [ats_cons h]; exact List.mem_cons_self ..
theorem ats_mem {l : List UInt8} (hl : l ≠ []) (k : Nat) : k ∈ atsL l ↔ k = 0 ∨ ((chr1 l).2 ≤ k ∧ k - (chr1 l).2 ∈ atsL (l.drop (chr1 l).2)) := by
  rw [ats_cons hl, List.mem_cons, List.mem_map]
  constructor
  · rintro (h | ⟨a, h1, h2⟩)
    · exact .inl h
    · right
      refine ⟨by omega, ?_⟩
      rw [← h2, Nat.add_sub_cancel]
      exact h1
  · rintro (h | ⟨h1, h2⟩)
    · exact .inl h
    · exact .inr ⟨_, h2, by omega⟩
theorem chr_width_mem {l : List UInt8} (hl : l ≠ []) : (chr1 l).2 ∈ atsL l := by
  rw [ats_mem hl]
  right
  refine ⟨Nat.le_refl _, ?_⟩
  rw [Nat.sub_self]
  exact ats_zero _
theorem wrong_byte {x : UInt8} (h : 128 ≤ x.toNat) : ∀ v, v < wrongN → chB v ≠ [x] := by
  intro v hv e
  unfold chB at e
  rw [if_pos hv] at e
  unfold encodeRune at e
  by_cases h1 : (v : Int) ≤ 127
  · rw [encodeRuneZ_one (by omega) h1] at e
    have e2 := (List.cons.inj e).1
    have : x.toNat = v := by
      rw [← e2]
      show (UInt8.ofNat (v : Int).toNat).toNat = v
      rw [Int.toNat_natCast]
      rw [UInt8.toNat_ofNat_of_lt' (by show v < 256; omega)]
    omega
  · by_cases h2 : (v : Int) ≤ 2047
    · rw [encodeRuneZ_two (by omega) h2] at e
      cases e
    · by_cases h3 : ((2048 : Int) ≤ v ∧ (v : Int) < 55296) ∨ ((57343 : Int) < v ∧ (v : Int) ≤ 65535)
      · rw [encodeRuneZ_three h3] at e
        cases e
      · by_cases h4 : (65536 : Int) ≤ v
        · rw [encodeRuneZ_four h4 (by unfold wrongN at hv; omega)] at e
          cases e
        · have : encodeRuneZ (v : Int) = [239, 191, 189] := by
            unfold encodeRuneZ
            rw [if_neg (by omega), if_neg (by omega), if_neg (by omega), if_neg (by omega)]
          rw [this] at e
          cases e
/-- the same bytes, the same width: the same number -/
theorem chr_eq {l X : List UInt8} (hl : l ≠ []) (hX : X ≠ []) (hw : (chr1 l).2 = (chr1 X).2) (ht : l.take (chr1 l).2 = X.take (chr1 l).2) : (chr1 l).1 = (chr1 X).1 := by
  have w1 := chr1_width hl
  by_cases h : RightD (decodeL l)
  · by_cases h2 : RightD (decodeL X)
    · have e1 := chr1_right h
      have e2 := chr1_right h2
      have d1 := decode_local [] hl h
      have d2 := decode_local [] hX h2
      rw [e1] at ht hw ⊢
      rw [e2] at hw ⊢
      rw [List.append_nil] at d1 d2
      rw [← d1, ← d2, ht, hw]
    · exfalso
      have e2 := chr1_wrong h2
      have b1 := chr_bytes hl
      rw [hw, e2] at ht
      rw [hw, e2] at b1
      have hb : X.take 1 = [X.getD 0 0] := take_one hX
      have h128 : 128 ≤ (X.getD 0 0).toNat := by
        apply Decidable.byContradiction
        intro hc
        have := dec_low (l := X) (by omega)
        apply h2
        rw [this]
        unfold RightD
        left
        show (X.getD 0 0).toNat ≠ 65533
        omega
      have hv : (chr1 l).1 < wrongN := by
        rw [chr1_right h]
        have := dec_rune_le (l := l)
        unfold wrongN
        omega
      exact wrong_byte h128 _ hv (by rw [← b1]; show l.take 1 = _; rw [← hb]; exact ht)
  · by_cases h2 : RightD (decodeL X)
    · exfalso
      have e1 := chr1_wrong h
      have b2 := chr_bytes hX
      rw [e1] at hw ht
      rw [← hw] at b2
      have hb : l.take 1 = [l.getD 0 0] := take_one hl
      have h128 : 128 ≤ (l.getD 0 0).toNat := by
        apply Decidable.byContradiction
        intro hc
        have := dec_low (l := l) (by omega)
        apply h
        rw [this]
        unfold RightD
        left
        show (l.getD 0 0).toNat ≠ 65533
        omega
      have hv : (chr1 X).1 < wrongN := by
        rw [chr1_right h2]
        have := dec_rune_le (l := X)
        unfold wrongN
        omega
      exact wrong_byte h128 _ hv (by rw [← b2]; show X.take 1 = _; rw [← hb]; exact ht.symm)
    · have e1 := chr1_wrong h
      have e2 := chr1_wrong h2
      rw [e1] at ht
      rw [e1, e2]
      have ht2 : l.take 1 = X.take 1 := ht
      rw [take_one hl, take_one hX] at ht2
      have := (List.cons.inj ht2).1
      show wrongN + (l.getD 0 0).toNat = wrongN + (X.getD 0 0).toNat
      rw [this]
/-- the same number: the same bytes -/
theorem chr_same {l X : List UInt8} (hl : l ≠ []) (hX : X ≠ []) (h : (chr1 l).1 = (chr1 X).1) : (chr1 l).2 = (chr1 X).2 ∧ l.take (chr1 l).2 = X.take (chr1 l).2 := by
  have w : (chr1 l).2 = (chr1 X).2 := by rw [← chr_len hl, ← chr_len hX, h]
  refine ⟨w, ?_⟩
  rw [chr_bytes hl, w, chr_bytes hX, h]
/-- a text stands at the front: by bytes and places, or by characters -/
theorem front_iff : ∀ (n : Nat) (s X : List UInt8), s.length ≤ n → ((valsL s <+: valsL X) ↔ (s <+: X ∧ ∀ k, k ≤ s.length → (k ∈ atsL X ↔ k ∈ atsL s)))
  | 0, s, X, h => by
    obtain rfl : s = [] := List.eq_nil_of_length_eq_zero (by omega)
    constructor
    · intro _
      refine ⟨List.nil_prefix, fun k hk => ?_⟩
      obtain rfl : k = 0 := by simpa using hk
      exact ⟨fun _ => ats_zero _, fun _ => ats_zero _⟩
    · intro _
      exact List.nil_prefix
  | n + 1, s, X, h => by
    by_cases hs : s = []
    · exact front_iff 0 s X (by rw [hs]; exact Nat.le_refl _)
    · have ws := chr1_width hs
      by_cases hX : X = []
      · subst hX
        constructor
        · intro h1
          rw [vals_cons hs] at h1
          have := h1.length_le
          simp [vals_nil] at this
        · rintro ⟨h1, _⟩
          have := h1.length_le
          simp at this
          exact absurd this hs
      · have wX := chr1_width hX
        rw [vals_cons hs, vals_cons hX, List.cons_prefix_cons]
        have ih := fun h2 => front_iff n (s.drop (chr1 s).2) (X.drop (chr1 s).2) h2
        constructor
        · rintro ⟨h1, h2⟩
          obtain ⟨e1, e2⟩ := chr_same hs hX h1
          rw [← e1] at h2
          obtain ⟨p1, p2⟩ := (ih (by rw [List.length_drop]; omega)).1 h2
          refine ⟨?_, fun k hk => ?_⟩
          · obtain ⟨t, ht⟩ := p1
            refine ⟨t, ?_⟩
            rw [← List.take_append_drop (chr1 s).2 X, ← ht, ← e2, ← List.append_assoc, List.take_append_drop]
          · rw [ats_mem hs, ats_mem hX, ← e1]
            by_cases hk2 : (chr1 s).2 ≤ k
            · have := p2 (k - (chr1 s).2) (by rw [List.length_drop]; omega)
              rw [this]
            · simp only [hk2, false_and]
        · rintro ⟨⟨t, ht⟩, h2⟩
          have hwle : (chr1 s).2 = (chr1 X).2 := by
            apply Nat.le_antisymm
            · have hm : (chr1 X).2 ≤ s.length → (chr1 s).2 ≤ (chr1 X).2 := by
                intro hle
                have := (h2 _ hle).1 (chr_width_mem hX)
                rw [ats_mem hs] at this
                rcases this with h3 | h3
                · omega
                · exact h3.1
              by_cases hle : (chr1 X).2 ≤ s.length
              · exact hm hle
              · omega
            · have := (h2 _ ws.2.1).2 (chr_width_mem hs)
              rw [ats_mem hX] at this
              rcases this with h3 | h3
              · omega
              · exact h3.1
          have htk : s.take (chr1 s).2 = X.take (chr1 s).2 := by
            rw [← ht, List.take_append_of_le_length ws.2.1]
          have hv := chr_eq hs hX hwle htk
          refine ⟨hv, ?_⟩
          rw [← hwle]
          refine (ih (by rw [List.length_drop]; omega)).2 ⟨⟨t, ?_⟩, fun k hk => ?_⟩
          · rw [← ht, List.drop_append_of_le_length ws.2.1]
          · rw [List.length_drop] at hk
            have := h2 (k + (chr1 s).2) (by omega)
            rw [ats_mem hs, ats_mem hX, ← hwle, Nat.add_sub_cancel] at this
            have q1 : ¬ k + (chr1 s).2 = 0 := by omega
            have q2 : (chr1 s).2 ≤ k + (chr1 s).2 := by omega
            simpa only [q1, q2, false_or, true_and] using this
/-- the place behind so many characters -/
theorem front_at : ∀ (n : Nat) (s X : List UInt8), s.length ≤ n → valsL s <+: valsL X → (atsL X)[(valsL s).length]? = some s.length
  | n, s, X, h => by
    induction n generalizing s X with
    | zero =>
      intro _
      obtain rfl : s = [] := List.eq_nil_of_length_eq_zero (by omega)
      show (atsL X)[0]? = some 0
      by_cases hX : X = []
      · subst hX; rfl
      · rw [ats_cons hX]; rfl
    | succ n ih =>
      intro hp
      by_cases hs : s = []
      · subst hs
        show (atsL X)[0]? = some 0
        by_cases hX : X = []
        · subst hX; rfl
        · rw [ats_cons hX]; rfl
      · have ws := chr1_width hs
        have hX : X ≠ [] := by
          rintro rfl
          rw [vals_cons hs] at hp
          have := hp.length_le
          simp [vals_nil] at this
        rw [vals_cons hs, vals_cons hX, List.cons_prefix_cons] at hp
        obtain ⟨e1, e2⟩ := chr_same hs hX hp.1
        rw [vals_cons hs, ats_cons hX, List.length_cons, List.getElem?_cons_succ, List.getElem?_map, ih (s.drop (chr1 s).2) (X.drop (chr1 X).2) (by rw [List.length_drop]; omega) hp.2]
        show some (_ + _) = _
        rw [List.length_drop, ← e1]
        congr 1
        omega
/-- a text from one of its places on -/
theorem from_place : ∀ (i : Nat) (t : List UInt8) (p : Nat), (atsL t)[i]? = some p → valsL (t.drop p) = (valsL t).drop i ∧ p ≤ t.length ∧ (∀ k, k ∈ atsL (t.drop p) ↔ p + k ∈ atsL t) ∧ ∀ m, (atsL t)[i + m]? = ((atsL (t.drop p))[m]?).map (p + ·)
  | 0, t, p, h => by
    have hp : p = 0 := by
      by_cases ht : t = []
      · subst ht
        exact (Option.some.inj h).symm
      · rw [ats_cons ht] at h
        exact (Option.some.inj h).symm
    subst hp
    refine ⟨by rw [List.drop_zero, List.drop_zero], Nat.zero_le _, fun k => by rw [List.drop_zero, Nat.zero_add], fun m => ?_⟩
    rw [Nat.zero_add, List.drop_zero]
    cases (atsL t)[m]? with
    | none => rfl
    | some x => show some x = some (0 + x); rw [Nat.zero_add]
  | i + 1, t, p, h => by
    by_cases ht : t = []
    · subst ht
      cases h
    · have wt := chr1_width ht
      rw [ats_cons ht, List.getElem?_cons_succ, List.getElem?_map] at h
      cases hq : (atsL (t.drop (chr1 t).2))[i]? with
      | none => rw [hq] at h; cases h
      | some q =>
        rw [hq] at h
        have hpq : q + (chr1 t).2 = p := Option.some.inj h
        obtain ⟨h1, h2, h3, h4⟩ := from_place i (t.drop (chr1 t).2) q hq
        have e : (t.drop (chr1 t).2).drop q = t.drop p := by rw [List.drop_drop, ← hpq, Nat.add_comm]
        rw [e] at h1 h3 h4
        rw [List.length_drop] at h2
        have hq0 : 1 ≤ p := by omega
        refine ⟨by rw [h1, vals_cons ht, List.drop_succ_cons], by omega, fun k => ?_, fun m => ?_⟩
        · rw [h3, ats_mem ht]
          have a1 : ¬ p + k = 0 := by omega
          have a2 : (chr1 t).2 ≤ p + k := by omega
          have a3 : p + k - (chr1 t).2 = q + k := by omega
          rw [a3]
          simp only [a1, a2, false_or, true_and]
        · rw [show i + 1 + m = (i + m) + 1 by omega, ats_cons ht, List.getElem?_cons_succ, List.getElem?_map, h4 m]
          cases (atsL (t.drop p))[m]? with
          | none => rfl
          | some x =>
            show some (q + x + (chr1 t).2) = some (p + x)
            congr 1
            omega
def StandP (t s : List UInt8) (at_ : Nat) : Prop := at_ + s.length ≤ t.length ∧ (t.drop at_).take s.length = s ∧ ∀ k, k ≤ s.length → (at_ + k ∈ atsL t ↔ k ∈ atsL s)
theorem stand_front {t s : List UInt8} {i p : Nat} (h : (atsL t)[i]? = some p) : StandP t s p ↔ valsL s <+: (valsL t).drop i := by
  obtain ⟨h1, h2, h3, h4⟩ := from_place i t p h
  rw [← h1, front_iff _ s (t.drop p) (Nat.le_refl _)]
  unfold StandP
  constructor
  · rintro ⟨a, b, c⟩
    refine ⟨⟨(t.drop p).drop s.length, ?_⟩, fun k hk => by rw [h3, c k hk]⟩
    conv => lhs; arg 1; rw [← b]
    exact List.take_append_drop _ _
  · rintro ⟨⟨r, hr⟩, c⟩
    have hl := congrArg List.length hr
    rw [List.length_append, List.length_drop] at hl
    refine ⟨by omega, ?_, fun k hk => by rw [← h3, c k hk]⟩
    rw [← hr, List.take_left]
theorem stand_at {t s : List UInt8} {i p : Nat} (h : (atsL t)[i]? = some p) (hs : valsL s <+: (valsL t).drop i) : (atsL t)[i + (valsL s).length]? = some (p + s.length) := by
  obtain ⟨h1, h2, h3, h4⟩ := from_place i t p h
  rw [← h1] at hs
  rw [h4, front_at _ s (t.drop p) (Nat.le_refl _) hs]
  rfl
theorem stand_place {t s : List UInt8} {p : Nat} (h : StandP t s p) : p ∈ atsL t := by
  have := (h.2.2 0 (Nat.zero_le _)).2 (ats_zero s)
  rw [Nat.add_zero] at this
  exact this
open Classical in
theorem matchGo_sing (t s : List UInt8) (p : Nat) : ∀ (f i : Nat), i + f = (atsL t).length → (∀ k, k < i → (atsL t)[k]? ≠ some p) → matchGo false (valsL t) (atsL t) ((plainP (valsL s)).map itB) (p : Int) f i = if StandP t s p then some (p + s.length) else none
  | 0, i, h, hno => by
    rw [matchGo, if_neg]
    intro hs
    obtain ⟨k, hk1, hk2⟩ := List.mem_iff_getElem.1 (stand_place hs)
    exact hno k (by omega) (by rw [List.getElem?_eq_getElem hk1, hk2])
  | f + 1, i, h, hno => by
    have hx := getD_at (A := atsL t) (k := i) (by omega)
    rw [matchGo]
    by_cases he : (((atsL t).getD i 0 : Nat) : Int) = (p : Int)
    · rw [if_pos he]
      have hp : (atsL t).getD i 0 = p := by omega
      rw [hp] at hx
      have hin : i ≤ (valsL t).length := by have := ats_len t; omega
      rw [longest_sing]
      by_cases hs : StandP t s p
      · have h1 := (stand_front hx).1 hs
        rw [if_pos ⟨h1, hin⟩, if_pos hs]
        have h2 := stand_at hx h1
        show some ((atsL t).getD (i + (valsL s).length) 0) = _
        rw [List.getD_eq_getElem?_getD, h2]
        rfl
      · rw [if_neg (fun hh => hs ((stand_front hx).2 hh.1)), if_neg hs]
    · rw [if_neg he]
      refine matchGo_sing t s p f (i + 1) (by omega) (fun k hk => ?_)
      by_cases hki : k = i
      · rw [hki, hx]
        intro e
        exact he (by rw [Option.some.inj e])
      · exact hno k (by omega)
open Classical in
/-- a quoted text matches where the text stands -/
theorem match_quote (t s : List UInt8) (p : Nat) : matchP false t ((plainP (valsL s)).map itB) (p : Int) = if StandP t s p then some (p + s.length) else none := by
  unfold matchP
  exact matchGo_sing t s p _ 0 (by rw [ats_len]; omega) (fun k hk => by omega)
end Go.Proofs.YtchdeboialbdiaaDoor
/- SeekQuoted: does a text stand in another at a place, character by character? -/
namespace Go.Proofs.YtchdeboialbdiaaDoor
set_option linter.unusedVariables false
set_option linter.unusedSimpArgs false
open Go.RowKit
open Go.Lib hiding intOf
theorem place_iff (l : List UInt8) (p : Nat) : placeB l (p : Int) = true ↔ p ∈ atsL l := by
  unfold placeB
  rw [decide_eq_true_iff]
  constructor
  · rintro ⟨x, h1, h2⟩
    obtain rfl : x = p := by omega
    exact h1
  · intro h
    exact ⟨p, h, rfl⟩
set_option maxHeartbeats 4000000 in
set_option maxRecDepth 100000 in
theorem standsC (w : World) (t s : List UInt8) (p : Nat) (b : Bool) (hb : b = true ↔ StandP t s p) (hp : p ≤ t.length) (ht : t.length ≤ 1000000) (hs : s.length ≤ 1000000) :
    Calls Tryd.prog 32 #[.string (bstr t), .string (bstr s), .int .i64 (p : Int)] w fun e w' => e = .returned (.bool b) ∧ Below w.heap.size w w' := by
  obtain ⟨n, hn⟩ : ∃ n, t.length = n := ⟨_, rfl⟩
  obtain ⟨m, hm⟩ : ∃ m, s.length = m := ⟨_, rfl⟩
  have hsn : (bstr t).size = n := by rw [bstr_size, hn]
  have hsm : (bstr s).size = m := by rw [bstr_size, hm]
  rw [hn] at hp ht
  rw [hm] at hs
  have HN := Lib.hid hn
  have HM := Lib.hid hm
  have HB := Lib.hid hb
  clear hn hm hb
  by_cases hbig : n < p + m
  · have h1 : (n : Int) < (p : Int) + (m : Int) := by omega
    have hf : b = false := by
      rw [Bool.eq_false_iff]
      intro h
      have := (HB.out.1 h).1
      rw [HN.out, HM.out] at this
      omega
    subst hf
    go_enter Tryd.func32, Tryd.ntmps32
    go_wp2_with fail
    go_ret
    exact ⟨rfl, Below.refl _ _⟩
  · have h1 : ¬ (n : Int) < (p : Int) + (m : Int) := by omega
    have h2 : (p : Int) + (m : Int) ≤ (n : Int) := by omega
    have h3 : (p : Int) ≤ (p : Int) + (m : Int) := by omega
    by_cases hst : (t.drop p).take m = s
    · have e1 : ((t.drop p).take m == s) = true := by rw [beq_iff_eq]; exact hst
      have e2 : ((t.drop p).take m != s) = false := by rw [bne_eq_false_iff_eq]; exact hst
      have HST := Lib.hid hst
      clear hst
      go_enter Tryd.func32, Tryd.ntmps32
      go_wp2_with fail
      go_loopw [7] (fun u wr => ∃ k : Nat, u = .int .i64 (k : Int) ∧ k ≤ m + 1 ∧ Hid ((∀ j, j < k → (p + j ∈ atsL t ↔ j ∈ atsL s)) ∧ Below w.heap.size w wr)) (fun u _ => m + 2 - (RowKit.intOf u).toNat)
      case atStart => exact ⟨0, rfl, Nat.zero_le _, Lib.hid ⟨fun j h => by omega, Below.refl _ _⟩⟩
      case round =>
        obtain ⟨k, rfl, hk, HR⟩ := hrel
        by_cases hkm : k ≤ m
        · have hki : (k : Int) ≤ (m : Int) := by omega
          obtain ⟨b1, hb1⟩ : ∃ x, placeB t ((p : Int) + (k : Int)) = x := ⟨_, rfl⟩
          obtain ⟨b2, hb2⟩ : ∃ x, placeB s (k : Int) = x := ⟨_, rfl⟩
          have HU1 := Lib.hid (fun W => hb1 ▸ beginsU W t ((p : Int) + (k : Int)) (by rw [HN.out]; omega))
          have HU2 := Lib.hid (fun W => hb2 ▸ beginsU W s (k : Int) (by rw [HM.out]; omega))
          have hq1 : b1 = true ↔ p + k ∈ atsL t := by rw [← place_iff, ← hb1]; rw [show ((p + k : Nat) : Int) = (p : Int) + (k : Int) by omega]
          have hq2 : b2 = true ↔ k ∈ atsL s := by rw [← place_iff, ← hb2]
          have HQ := Lib.hid (And.intro hq1 hq2)
          clear hb1 hb2 hq1 hq2
          by_cases hbb : b1 = b2
          · subst hbb
            have e3 : (b1 != b1) = false := by simp
            go_wp2_with (first
              | (go_at_call 33; (with_reducible refine (HU1.out _).mono ?_); rintro e w1 ⟨rfl, hx1⟩; have HX1 := Lib.hid hx1; clear hx1)
              | (go_at_call 33; (with_reducible refine (HU2.out _).mono ?_); rintro e w2 ⟨rfl, hx2⟩; have HX2 := Lib.hid hx2; clear hx2))
            have HNX : Hid ((∀ j, j < k + 1 → (p + j ∈ atsL t ↔ j ∈ atsL s)) ∧ Below w.heap.size w w2) := Lib.hid ⟨fun j hj => by
              by_cases h : j = k
              · subst h
                rw [← HQ.out.1, ← HQ.out.2]
              · exact HR.out.1 j (by omega), by
              have h1 := HR.out.2.trans (HX1.out.mono HR.out.2.size)
              exact h1.trans (HX2.out.mono h1.size)⟩
            go_roundw
            case rel => exact ⟨k + 1, by go_num, by omega, HNX⟩
            case measure => simp [RowKit.intOf]; omega
          · have hf : b = false := by
              rw [Bool.eq_false_iff]
              intro h
              have := (HB.out.1 h).2.2 k (by rw [HM.out]; exact hkm)
              rw [← HQ.out.1, ← HQ.out.2] at this
              apply hbb
              rw [Bool.eq_iff_iff]
              exact this
            subst hf
            have hcs : (b1 = true ∧ b2 = false) ∨ (b1 = false ∧ b2 = true) := by cases b1 <;> cases b2 <;> simp_all
            clear hbb
            rcases hcs with ⟨rfl, rfl⟩ | ⟨rfl, rfl⟩
            all_goals
              go_wp2_with (first
                | (go_at_call 33; (with_reducible refine (HU1.out _).mono ?_); rintro e w1 ⟨rfl, hx1⟩; have HX1 := Lib.hid hx1; clear hx1)
                | (go_at_call 33; (with_reducible refine (HU2.out _).mono ?_); rintro e w2 ⟨rfl, hx2⟩; have HX2 := Lib.hid hx2; clear hx2))
              go_ret
              have h1 := HR.out.2.trans (HX1.out.mono HR.out.2.size)
              exact ⟨rfl, h1.trans (HX2.out.mono h1.size)⟩
        · obtain rfl : k = m + 1 := by omega
          have hki : ¬ ((m : Int) + 1) ≤ (m : Int) := by omega
          have hf : b = true := HB.out.2 ⟨by rw [HN.out, HM.out]; omega, by rw [HM.out]; exact HST.out, fun j hj => HR.out.1 j (by rw [HM.out] at hj; omega)⟩
          subst hf
          go_wp2_with fail
          go_ret
          exact ⟨rfl, HR.out.2⟩
    · have e1 : ((t.drop p).take m == s) = false := by rw [beq_eq_false_iff_ne]; exact hst
      have e2 : ((t.drop p).take m != s) = true := by rw [bne_iff_ne]; exact hst
      have hf : b = false := by
        rw [Bool.eq_false_iff]
        intro h
        have := (HB.out.1 h).2.1
        rw [HM.out] at this
        exact hst this
      subst hf
      clear hst
      go_enter Tryd.func32, Tryd.ntmps32
      go_wp2_with fail
      go_ret
      exact ⟨rfl, Below.refl _ _⟩
end Go.Proofs.YtchdeboialbdiaaDoor
