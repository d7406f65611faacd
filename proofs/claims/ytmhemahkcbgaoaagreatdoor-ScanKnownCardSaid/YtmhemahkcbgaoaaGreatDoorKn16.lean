/- Texts joined, one behind the other (ScanT, Split7). -/
import Derived.Test.YtmhemahkcbgaoaaGreatDoorKn15
import Derived.Lib.RuneBytes
/- The plain law of the scan: tokens print, are read as the same, each is read alone; the quoted form is a token. -/
namespace Go.Proofs.YtmhemahkcbgaoaaGreatDoor
set_option linter.unusedVariables false
set_option linter.unusedSimpArgs false
open Go.Lib
def Tok.zero (t : Tok) : Tok := { t with at' := 0 }
theorem zero_shift (t : Tok) (d : Int) : (t.shift d).zero = t.zero := rfl
/-! a token that was scanned prints -/
theorem numGo_le : ∀ (l : List UInt8) (n m : Nat), n ≤ 9223372036854775807 → numGo l n = some m → m ≤ 9223372036854775807
  | [], n, m, hn, h => by rw [numGo] at h; cases h; exact hn
  | x :: l, n, m, hn, h => by
    rw [numGo] at h
    split at h
    · cases h
    · split at h
      · cases h
      · exact numGo_le l _ m (by omega) h
theorem numOf_le {l : List UInt8} {m : Nat} (h : numOf l = some m) : m ≤ 9223372036854775807 := by
  unfold numOf at h
  split at h
  · cases h
  · exact numGo_le l 0 m (by omega) h
theorem bracedT_len (l : List UInt8) : (bracedOf l).1.length ≤ 4 := by
  unfold bracedOf
  split
  · exact Nat.zero_le _
  · split
    · exact Nat.zero_le _
    · split
      · exact Nat.zero_le _
      · rename_i n _ _
        have := (encodeRuneZ_length n).2
        simpa [encodeRune] using this
theorem escT_len (l : List UInt8) : (escOf l).1.length ≤ 4 := by
  have := bracedT_len l
  unfold escOf
  repeat' split
  all_goals first | exact Nat.zero_le _ | (show _ ≤ 4; simp; done) | assumption
theorem unqT_len (l : List UInt8) : ∀ (f i : Nat) (acc : List UInt8), (unq l f i acc).1.length ≤ acc.length + 4 * (l.length - i)
  | 0, i, acc => Nat.zero_le _
  | f + 1, i, acc => by
    by_cases h1 : l.length ≤ i
    · rw [unq, if_pos h1]; exact Nat.zero_le _
    rw [unq_go h1]
    by_cases h2 : l.getD i 0 = 34
    · rw [if_pos h2]; exact Nat.le_add_right _ _
    rw [if_neg h2]
    by_cases h3 : l.getD i 0 = 92
    · rw [if_pos h3]
      by_cases h4 : (escOf (l.drop i)).2 = 0
      · rw [if_pos h4]; exact Nat.zero_le _
      · rw [if_neg h4]
        have := unqT_len l f (i + (escOf (l.drop i)).2) (acc ++ (escOf (l.drop i)).1)
        have he := escT_len (l.drop i)
        rw [List.length_append] at this
        omega
    rw [if_neg h3]
    by_cases h5 : RightD (decodeL (l.drop i)) ∧ PlainN (decodeL (l.drop i)).1
    · rw [if_pos h5]
      have := unqT_len l f (i + (decodeL (l.drop i)).2) (acc ++ (l.drop i).take (decodeL (l.drop i)).2)
      have hw := dec_width_one (l := l.drop i)
      have h4 := dec_width_four (l := l.drop i)
      rw [List.length_append, List.length_take] at this
      omega
    · rw [if_neg h5]; exact Nat.zero_le _
theorem quotedT_len (l : List UInt8) : (quotedOf l).1.length ≤ 4 * l.length := by
  have := unqT_len l (l.length + 1) 1 []
  unfold quotedOf
  rw [List.length_nil] at this
  omega
def Fine (t : Tok) : Prop := (printed t).isSome = true ∧ 0 ≤ t.num ∧ t.num ≤ 9223372036854775807 ∧ 0 ≤ t.at' ∧ 1 ≤ t.kind ∧ t.kind ≤ 3
theorem run_mem {D : List UInt8} : ∀ x ∈ D.take (endOf RunN D 0), RunN x.toNat := by
  rw [endOf_zero, take_tw]
  intro x hx
  simpa using tw_all _ _ _ hx
theorem wordTok_fine {D : List UInt8} (h : endOf RunN D 0 ≠ 0) : Fine (wordTok D 0 (endOf RunN D 0)) ∧ (wordTok D 0 (endOf RunN D 0)).text.length ≤ D.length := by
  unfold wordTok
  rw [List.drop_zero, Nat.sub_zero]
  have hrun := run_mem (D := D)
  have hl : (D.take (endOf RunN D 0)).length = endOf RunN D 0 := by
    rw [List.length_take]; have := endOf_le (p := RunN) (l := D) (i := 0) (Nat.zero_le _); omega
  cases hn : numOf (D.take (endOf RunN D 0)) with
  | some n =>
    have := numOf_le hn
    refine ⟨⟨?_, by dsimp only; omega, by dsimp only; omega, by simp, by simp, by simp⟩, Nat.zero_le _⟩
    unfold printed
    dsimp only
    rw [if_neg (by decide), if_pos rfl, if_neg (by simp)]
    rfl
  | none =>
    refine ⟨⟨?_, by simp, by simp, by simp, by simp, by simp⟩, by dsimp only; rw [List.length_take]; omega⟩
    unfold printed
    dsimp only
    rw [if_pos rfl, if_neg]
    · rfl
    · rintro (h1 | h1 | ⟨x, hx, h1⟩ | h1)
      · rw [hl] at h1; exact h h1
      · rw [hn] at h1; cases h1
      · exact h1 (hrun x hx)
      · exact h1 rfl
theorem step_fine0 {D : List UInt8} {k : Nat} {t : Tok} (h : stepAt D 0 = .tok t k) : Fine t ∧ t.text.length ≤ 4 * D.length := by
  unfold stepAt at h
  by_cases h1 : D.length ≤ 0
  · rw [if_pos h1] at h; cases h
  rw [if_neg h1] at h
  by_cases h2 : D.getD 0 0 = 34
  · rw [if_pos h2] at h
    rw [List.drop_zero] at h
    by_cases h3 : (quotedOf D).2.2 = false
    · rw [if_pos h3] at h; cases h
    rw [if_neg h3] at h
    split at h
    · cases h
      refine ⟨⟨?_, by simp, by simp, by simp, by simp, by simp⟩, quotedT_len D⟩
      unfold printed
      dsimp only
      rw [if_neg (by decide), if_neg (by decide), if_pos rfl, if_neg (by simp)]
      rfl
    · cases h
  rw [if_neg h2] at h
  by_cases h3 : endOf RunN D 0 = 0
  · rw [if_pos h3] at h; cases h
  rw [if_neg h3] at h
  split at h
  · cases h
    have := wordTok_fine h3
    exact ⟨this.1, by omega⟩
  · cases h
theorem step_fine {l : List UInt8} {i k : Nat} {t : Tok} (h : stepAt l i = .tok t k) : Fine t ∧ t.text.length ≤ 4 * l.length := by
  have hi := (step_tok h).1
  rw [stepAt_drop l (Nat.le_of_lt hi)] at h
  cases hs : stepAt (l.drop i) 0 with
  | done => rw [hs] at h; cases h
  | err c p => rw [hs] at h; cases h
  | tok t0 k0 =>
    rw [hs] at h
    cases h
    obtain ⟨⟨f1, f2, f3, f4, f5, f6⟩, f7⟩ := step_fine0 hs
    have h0 := (step_tok hs).2.2.2.1
    rw [List.length_drop] at f7
    refine ⟨⟨?_, f2, f3, ?_, f5, f6⟩, by show t0.text.length ≤ _; omega⟩
    · obtain ⟨a, b, c, d⟩ := t0
      exact f1
    · show 0 ≤ t0.at' + (i : Int)
      omega
theorem toks_fine {l : List UInt8} {i : Nat} {L : List Tok} (h : Toks7 l i L) : ∀ t ∈ L, Fine t ∧ t.text.length ≤ 4 * l.length := by
  induction h with
  | done h => intro t ht; cases ht
  | tok h hL ih =>
    intro t ht
    rcases List.mem_cons.1 ht with rfl | ht
    · exact step_fine h
    · exact ih t ht
theorem fine_zero {t : Tok} : printed t.zero = printed t := by cases t; rfl
theorem toks_count {l : List UInt8} {i : Nat} {L : List Tok} (h : Toks7 l i L) : i ≤ l.length → L.length ≤ l.length - i := by
  induction h with
  | done h => exact fun _ => Nat.zero_le _
  | tok h hL ih =>
    intro hi
    have hk := stepOf_tok h
    have := ih hk.2
    rw [List.length_cons]
    omega
/-! printed, and read again -/
theorem step_noblank {l : List UInt8} {t : Tok} {k : Nat} (h : stepAt l 0 = .tok t k) : endOf BlankN l 0 = 0 := by
  have h1 := (step_tok h).1
  have hx : l[0]? = some (l.getD 0 0) := by rw [List.getD_eq_getElem?_getD, List.getElem?_eq_getElem h1]; rfl
  refine endOf_stop hx fun hb => ?_
  unfold stepAt at h
  rw [if_neg (by omega)] at h
  by_cases h2 : l.getD 0 0 = 34
  · rw [h2] at hb; exact absurd hb (by decide)
  rw [if_neg h2, if_pos (endOf_stop hx (blank_norun hb))] at h
  cases h
theorem stepOf_zero {l : List UInt8} {t : Tok} {k : Nat} (h : stepAt l 0 = .tok t k) : stepOf l 0 = .tok t k := by
  unfold stepOf
  rw [step_noblank h, h]
theorem stepOf_end (l : List UInt8) : stepOf l l.length = .done := by
  unfold stepOf
  rw [endOf_end (Nat.le_refl _)]
  unfold stepAt
  rw [if_pos (Nat.le_refl _)]
theorem mapM_cons_some {t : Tok} {L : List Tok} {ps : List (List UInt8)} (h : (t :: L).mapM printed = some ps) : ∃ p qs, printed t = some p ∧ L.mapM printed = some qs ∧ ps = p :: qs := by
  rw [List.mapM_cons] at h
  cases h1 : printed t with
  | none => rw [h1] at h; cases h
  | some p =>
    cases h2 : L.mapM printed with
    | none => rw [h1, h2] at h; cases h
    | some qs =>
      rw [h1, h2] at h
      cases h
      exact ⟨p, qs, rfl, rfl, rfl⟩
theorem toks_join : ∀ (L : List Tok) (ps : List (List UInt8)), (∀ t ∈ L, t.num ≤ 9223372036854775807) → L.mapM printed = some ps → ∃ M, Toks7 (joinB ps) 0 M ∧ M.map Tok.zero = L.map Tok.zero
  | [], ps, hb, h => by
    have : ps = [] := by simpa using h.symm
    subst this
    exact ⟨[], .done (stepOf_end []), rfl⟩
  | [t], ps, hb, h => by
    obtain ⟨p, qs, h1, h2, rfl⟩ := mapM_cons_some h
    have : qs = [] := by simpa using h2.symm
    subst this
    have hs := (printed_step (r := []) h1 (hb t (List.mem_cons_self ..)) (.inl rfl)).1
    rw [List.append_nil] at hs
    exact ⟨[t.zero], .tok (stepOf_zero hs) (.done (stepOf_end p)), rfl⟩
  | t :: u :: L, ps, hb, h => by
    obtain ⟨p, qs, h1, h2, rfl⟩ := mapM_cons_some h
    obtain ⟨M, hM, hz⟩ := toks_join (u :: L) qs (fun t ht => hb t (List.mem_cons_of_mem _ ht)) h2
    obtain ⟨q, qs', _, _, rfl⟩ := mapM_cons_some h2
    have hs := (printed_step (r := 32 :: joinB (q :: qs')) h1 (hb t (List.mem_cons_self ..)) (.inr (.inl rfl))).1
    refine ⟨t.zero :: M.map (Tok.shift (p.length + 1)), .tok (stepOf_zero hs) (toks_same ?_ (long_shift hM)), ?_⟩
    · exact over_same (Nat.le_refl _) (stepOf_end p)
    · rw [List.map_cons, List.map_cons, List.map_map]
      rw [← hz]
      rfl
theorem fine_mapM : ∀ (L : List Tok), (∀ t ∈ L, (printed t).isSome = true) → ∃ ps, L.mapM printed = some ps
  | [], h => ⟨[], rfl⟩
  | t :: L, h => by
    obtain ⟨ps, hp⟩ := fine_mapM L fun t ht => h t (List.mem_cons_of_mem _ ht)
    have := h t (List.mem_cons_self ..)
    cases h1 : printed t with
    | none => rw [h1] at this; cases this
    | some p => exact ⟨p :: ps, by rw [List.mapM_cons, h1, hp]; rfl⟩
/-- what was scanned is printed, or is too long; what was printed is scanned as the same -/
theorem again_print {l : List UInt8} {L : List Tok} (h : scanOf l = .ok L) : printOf L = .error 4 ∨ ∃ s M, printOf L = .ok s ∧ scanOf s = .ok M ∧ M.map Tok.zero = L.map Tok.zero := by
  rw [scanOf_ok] at h
  have hf := toks_fine h.2
  obtain ⟨ps, hp⟩ := fine_mapM L fun t ht => (hf t ht).1.1
  unfold printOf
  rw [hp]
  dsimp only
  by_cases hl : 16384 < (joinB ps).length
  · rw [if_pos hl]; exact .inl rfl
  · rw [if_neg hl]
    obtain ⟨M, hM, hz⟩ := toks_join L ps (fun t ht => (hf t ht).1.2.2.1) hp
    exact .inr ⟨_, M, rfl, scanOf_ok.2 ⟨by omega, hM⟩, hz⟩
/-! each token alone -/
def nextAt (L : List Tok) (n e : Nat) : Int := match L[n + 1]? with | some t => t.at' | none => e
theorem endOf_mem {p : Nat → Prop} [DecidablePred p] (l : List UInt8) (i : Nat) : ∀ j, i ≤ j → j < endOf p l i → p (l.getD j 0).toNat := by
  intro j hi hj
  have h := take_tw (fun x : UInt8 => decide (p x.toNat)) (l.drop i)
  have hlt : j - i < ((l.drop i).takeWhile fun x => decide (p x.toNat)).length := by unfold endOf at hj; omega
  have hle := tw_length_le (fun x : UInt8 => decide (p x.toNat)) (l.drop i)
  have e : ((l.drop i).takeWhile fun x => decide (p x.toNat)).getD (j - i) 0 = l.getD j 0 := by
    rw [← h, List.getD_eq_getElem?_getD, List.getD_eq_getElem?_getD, List.getElem?_take, if_pos hlt, List.getElem?_drop, show i + (j - i) = j by omega]
  have := tw_all _ _ _ (mem_getD hlt)
  rw [e] at this
  simpa using this
theorem toks_piece {l : List UInt8} {i : Nat} {L : List Tok} (h : Toks7 l i L) : ∀ n t, i ≤ l.length → L[n]? = some t →
    ∃ a k e : Nat, t.at' = (a : Int) ∧ i ≤ a ∧ a < k ∧ k ≤ e ∧ e ≤ l.length ∧ stepAt l a = .tok t k ∧ nextAt L n l.length = (e : Int) ∧ (∀ j, k ≤ j → j < e → BlankN (l.getD j 0).toNat) := by
  induction h with
  | done h => intro n t _ hn; cases hn
  | @tok i k t0 L0 h hL ih =>
    intro n t hi hn
    have hk := stepOf_tok h
    cases n with
    | succ n =>
      obtain ⟨a, k2, e, h1, h2, h3⟩ := ih n t hk.2 hn
      exact ⟨a, k2, e, h1, by omega, h3⟩
    | zero =>
      have : t0 = t := by simpa using hn
      subst this
      have hst := step_tok h
      refine ⟨endOf BlankN l i, k, endOf BlankN l k, hst.2.2.2.1, endOf_ge _ _, hst.2.1, endOf_ge _ _, endOf_le hk.2, h, ?_, endOf_mem l k⟩
      cases hL with
      | done h2 =>
        have := step_done h2
        have := endOf_le (p := BlankN) hk.2
        show ((l.length : Nat) : Int) = _
        omega
      | tok h2 hL2 => exact (step_tok h2).2.2.2.1
theorem blanks_end {r : List UInt8} (h : ∀ x ∈ r, BlankN x.toNat) : endOf BlankN r 0 = r.length := by
  have := endOf_app (p := BlankN) (A := r) (r := []) h (.inl rfl)
  rwa [List.append_nil] at this
theorem piece_scan {l : List UInt8} {a k e : Nat} {t : Tok} (hl : l.length ≤ 16384) (h : stepAt l a = .tok t k) (he : e ≤ l.length) (hk : k ≤ e) (hb : ∀ j, k ≤ j → j < e → BlankN (l.getD j 0).toNat) :
    scanOf ((l.drop a).take (e - a)) = .ok [t.zero] := by
  have hst := step_tok h
  obtain ⟨r, hr⟩ : ∃ r, r = (l.drop k).take (e - k) := ⟨_, rfl⟩
  have hrl : r.length = e - k := by rw [hr, List.length_take, List.length_drop]; omega
  have hrb : ∀ x ∈ r, BlankN x.toNat := by
    intro x hx
    obtain ⟨j, hj, rfl⟩ := List.getElem_of_mem hx
    have := hb (k + j) (by omega) (by omega)
    have e0 : r.getD j 0 = r[j] := by rw [List.getD_eq_getElem?_getD, List.getElem?_eq_getElem hj]; rfl
    have e1 : r.getD j 0 = l.getD (k + j) 0 := by rw [hr, List.getD_eq_getElem?_getD, List.getD_eq_getElem?_getD, List.getElem?_take, if_pos (by omega), List.getElem?_drop]
    rw [← e1, e0] at this
    exact this
  have hP : (l.drop a).take (e - a) = (l.drop a).take (k - a) ++ r := by
    rw [hr, show e - a = (k - a) + (e - k) by omega, List.take_add, List.drop_drop, show a + (k - a) = k by omega]
  have hAl : ((l.drop a).take (k - a)).length = k - a := by rw [List.length_take, List.length_drop]; omega
  have hends : Ends7 r := by
    by_cases h0 : r = []
    · exact .inl h0
    · exact .inr (hrb _ (mem_getD (List.length_pos_iff.2 h0)))
  rw [scanOf_ok, hP]
  refine ⟨by rw [List.length_append, hAl, hrl]; omega, .tok (stepOf_zero (step_local h hends)) (.done ?_)⟩
  have := stepOf_shift ((l.drop a).take (k - a)) r 0
  rw [hAl, Nat.add_zero] at this
  rw [this]
  unfold stepOf
  rw [blanks_end hrb]
  unfold stepAt
  rw [if_pos (Nat.le_refl _)]
  rfl
/-- of each token: where it stands, and that it is read alone -/
theorem again_piece {l : List UInt8} {L : List Tok} (h : scanOf l = .ok L) {n : Nat} {t : Tok} (hn : L[n]? = some t) :
    ∃ a e : Nat, t.at' = (a : Int) ∧ nextAt L n l.length = (e : Int) ∧ a < e ∧ e ≤ l.length ∧ scanOf ((l.drop a).take (e - a)) = .ok [t.zero] := by
  rw [scanOf_ok] at h
  obtain ⟨a, k, e, h1, _, h3, h4, h5, h6, h7, h8⟩ := toks_piece h.2 n t (Nat.zero_le _) hn
  exact ⟨a, e, h1, h7, by omega, h5, piece_scan h.1 h6 h5 h4 h8⟩
theorem toks_places {l : List UInt8} {L : List Tok} (h : scanOf l = .ok L) : ∀ t ∈ L, 0 ≤ t.at' ∧ t.at' ≤ 16384 := by
  intro t ht
  obtain ⟨n, hn, rfl⟩ := List.getElem_of_mem ht
  obtain ⟨a, e, h1, _, h3, h4, _⟩ := again_piece h (List.getElem?_eq_getElem hn)
  have := (scanOf_ok.1 h).1
  omega
/-! the quoted form -/
theorem quote_scan {s : List UInt8} (h : (quoteOf s).length ≤ 16384) : scanOf (quoteOf s) = .ok [⟨3, 0, s, 0⟩] := by
  have hs := (printed_step (t := ⟨3, 0, s, 0⟩) (p := quoteOf s) (r := []) rfl (by simp) (.inl rfl)).1
  rw [List.append_nil] at hs
  exact scanOf_ok.2 ⟨h, .tok (stepOf_zero hs) (.done (stepOf_end _))⟩
theorem quote_back {s : List UInt8} (h : (quoteOf s).length ≤ 16384) : unquoteOf (quoteOf s) = .ok s := by
  have := quotedOf_quote s []
  rw [List.append_nil] at this
  unfold unquoteOf
  rw [this, if_neg (by omega), if_neg, if_neg (by simp)]
  rintro (h | h)
  · unfold quoteOf at h; simp at h
  · exact h rfl
def SafeB (x : UInt8) : Prop := 32 ≤ x.toNat ∧ x.toNat ≠ 127
theorem hexc_safe (n : Nat) (h : n < 16) : SafeB (hexc n) := by
  have : ∀ a : Fin 16, 32 ≤ (hexc a.val).toNat ∧ (hexc a.val).toNat ≠ 127 := by decide +kernel
  exact this ⟨n, h⟩
theorem qpiece_safe (D : List UInt8) (hD : D ≠ []) : ∀ x ∈ qpiece D, SafeB x := by
  have hb := fun h => dec_fst_byte (l := D) hD h
  have lit : ∀ (L : List UInt8), (L.all fun x => decide (32 ≤ x.toNat) && decide (x.toNat ≠ 127)) = true → ∀ x ∈ L, SafeB x := by
    intro L hL x hx
    have := List.all_eq_true.1 hL x hx
    simpa [SafeB] using this
  unfold qpiece
  by_cases c1 : (decodeL D).1 = 34 ∨ (decodeL D).1 = 92
  · rw [if_pos c1]
    obtain ⟨_, h0⟩ := hb (by omega)
    intro x hx
    simp only [List.mem_cons, List.not_mem_nil, or_false] at hx
    rcases hx with rfl | rfl
    · exact ⟨by decide, by decide⟩
    · unfold SafeB; omega
  rw [if_neg c1]
  by_cases c2 : (decodeL D).1 = 10
  · rw [if_pos c2]; exact lit _ rfl
  rw [if_neg c2]
  by_cases c3 : (decodeL D).1 = 13
  · rw [if_pos c3]; exact lit _ rfl
  rw [if_neg c3]
  by_cases c4 : (decodeL D).1 = 9
  · rw [if_pos c4]; exact lit _ rfl
  rw [if_neg c4]
  by_cases c5 : ¬ RightD (decodeL D) ∨ (decodeL D).1 < 32 ∨ (decodeL D).1 = 127
  · rw [if_pos c5]
    intro x hx
    have hlt := (D.getD 0 0).toNat_lt
    simp only [List.mem_cons, List.not_mem_nil, or_false] at hx
    rcases hx with rfl | rfl | rfl | rfl
    · exact ⟨by decide, by decide⟩
    · exact ⟨by decide, by decide⟩
    · exact hexc_safe _ (by omega)
    · exact hexc_safe _ (by omega)
  rw [if_neg c5]
  by_cases c6 : ¬ PlainN (decodeL D).1
  · rw [if_pos c6]
    have hr : (decodeL D).1 = 133 ∨ (decodeL D).1 = 8232 ∨ (decodeL D).1 = 8233 := by unfold PlainN at c6; omega
    rcases hr with e | e | e <;> (rw [e]; exact lit _ (by decide))
  · rw [if_neg c6]
    have hp : PlainN (decodeL D).1 := Classical.not_not.1 c6
    intro x hx
    obtain ⟨j, hj, rfl⟩ := List.getElem_of_mem hx
    rw [List.length_take] at hj
    have e : ((D.take (decodeL D).2)[j]'(by rw [List.length_take]; exact hj)) = D.getD j 0 := by
      rw [List.getD_eq_getElem?_getD, List.getElem?_eq_getElem (by omega)]
      simp
    rw [e]
    rcases Nat.eq_zero_or_pos j with rfl | h0
    · by_cases hs : (D.getD 0 0).toNat < 128
      · have := dec_low hs
        rw [this] at hp
        unfold PlainN at hp
        unfold SafeB
        dsimp only at hp
        omega
      · unfold SafeB; omega
    · have := dec_cont h0 (X := D) (j := j) (by omega)
      unfold SafeB; omega
theorem quo_safe (l : List UInt8) : ∀ (f i : Nat), ∀ x ∈ quo l f i, SafeB x
  | 0, i, x, h => by rw [quo] at h; cases h
  | f + 1, i, x, h => by
    rw [quo] at h
    by_cases h1 : l.length ≤ i
    · rw [if_pos h1] at h; cases h
    rw [if_neg h1] at h
    rcases List.mem_append.1 h with h | h
    · exact qpiece_safe _ (drop_ne h1) x h
    · exact quo_safe l f _ x h
theorem quote_safe (s : List UInt8) : ∀ x ∈ quoteOf s, SafeB x := by
  intro x hx
  unfold quoteOf at hx
  rcases List.mem_cons.1 hx with rfl | hx
  · exact ⟨by decide, by decide⟩
  rcases List.mem_append.1 hx with hx | hx
  · exact quo_safe _ _ _ x hx
  · simp only [List.mem_cons, List.not_mem_nil, or_false] at hx
    subst hx
    exact ⟨by decide, by decide⟩
theorem quote_ends (s : List UInt8) : 2 ≤ (quoteOf s).length ∧ (quoteOf s)[0]? = some 34 ∧ (quoteOf s)[(quoteOf s).length - 1]? = some 34 := by
  unfold quoteOf
  refine ⟨by simp, rfl, ?_⟩
  rw [show (34 : UInt8) :: (quo s (s.length + 1) 0 ++ [34]) = (34 :: quo s (s.length + 1) 0) ++ [34] from rfl, List.length_append, List.getElem?_append_right (by simp)]
  simp
end Go.Proofs.YtmhemahkcbgaoaaGreatDoor
/- What Scan answers, in one form for tokens and faults; a row of tokens apart from others. -/
namespace Go.Proofs.YtmhemahkcbgaoaaGreatDoor
set_option linter.unusedVariables false
set_option linter.unusedSimpArgs false
open Go.RowKit
open Go.Lib hiding intOf
def toksOf (r : Except (Nat × Nat) (List Tok)) : List Tok := match r with | .ok L => L | .error _ => []
def codeOf (r : Except (Nat × Nat) (List Tok)) : Nat × Nat := match r with | .ok _ => (0, 0) | .error e => e
/-- the error that goes with the answer -/
def ErrIs (w' : World) (r : Except (Nat × Nat) (List Tok)) (err : Value) : Prop := match r with
  | .ok _ => err = .nilIface
  | .error (c, p) => c ≠ 0 ∧ ∃ g, err = .iface 54 (.pointer (some ⟨g, 0, none⟩)) ∧ Row w' g 56 [.int .i64 (c : Int), .int .i64 (p : Int)]
theorem ErrIs.next {w w' : World} {r : Except (Nat × Nat) (List Tok)} {err : Value} (h : ErrIs w r err) (b : Below w.heap.size w w') : ErrIs w' r err := by
  unfold ErrIs at *
  cases r with
  | ok L => exact h
  | error e => obtain ⟨h0, g, h1, h2⟩ := h; exact ⟨h0, g, h1, h2.keep b h2.lt⟩
theorem scanGo_code (l : List UInt8) : ∀ (f i : Nat) (acc : List Tok) (e : Nat × Nat), scanGo l f i acc = .error e → e.1 ≠ 0
  | 0, i, acc, e, h => by rw [scanGo] at h; cases h; simp
  | f + 1, i, acc, e, h => by
    rw [scanGo_step] at h
    cases hs : stepOf l i with
    | done => rw [hs] at h; cases h
    | tok t k => rw [hs] at h; exact scanGo_code l f _ _ e h
    | err c p =>
      rw [hs] at h
      cases h
      unfold stepOf stepAt at hs
      revert hs
      repeat' split
      all_goals (intro hs; cases hs; try simp)
theorem scan_code {l : List UInt8} {e : Nat × Nat} (h : scanOf l = .error e) : e.1 ≠ 0 := by
  unfold scanOf at h
  split at h
  · cases h; simp
  · exact scanGo_code l _ _ _ e h
theorem scanC2 (w : World) (l : List UInt8) (hm : l.length ≤ 140737488355328) (hT : Tabs w) :
    Calls Tryz.prog 12 #[.string (bstr l)] w fun e w' => ∃ v err, e = .returned (.tuple #[v, err]) ∧ Below w.heap.size w w' ∧ OwnT w.heap.size v (toksOf (scanOf l)) w' ∧ ErrIs w' (scanOf l) err := by
  refine (scanC w l hm hT).mono ?_
  rintro e w' ⟨v, err, rfl, hb, h⟩
  refine ⟨v, err, rfl, hb, ?_⟩
  cases hs : scanOf l with
  | ok L =>
    rw [hs] at h
    exact ⟨h.2, h.1⟩
  | error e =>
    rw [hs] at h
    obtain ⟨c, p⟩ := e
    obtain ⟨rfl, g, h1, _, h2⟩ := h
    exact ⟨World.ownsRow_nil _ _ _ _, scan_code hs, g, h1, h2⟩
theorem scanR2 (w : World) (l : List UInt8) (hm : l.length ≤ 140737488355328) :
    Calls Tryz.prog 13 #[.string (bstr l)] w fun e w' => ∃ v, e = .returned (.tuple #[v, .int .i64 ((codeOf (scanOf l)).1 : Int), .int .i64 ((codeOf (scanOf l)).2 : Int)]) ∧ Below w.heap.size w w' ∧ OwnT w.heap.size v (toksOf (scanOf l)) w' := by
  refine (scanR w l hm).mono ?_
  rintro e w' ⟨v, c, p, rfl, hb, h⟩
  cases hs : scanOf l with
  | ok L =>
    rw [hs] at h
    obtain ⟨rfl, rfl, h3⟩ := h
    exact ⟨v, rfl, hb, h3⟩
  | error e =>
    rw [hs] at h
    obtain ⟨c', p'⟩ := e
    obtain ⟨rfl, rfl, rfl⟩ := h
    exact ⟨_, rfl, hb, World.ownsRow_nil _ _ _ _⟩
/-- the error is the one that the reference tells -/
theorem isFault_same (w : World) (r : Except (Nat × Nat) (List Tok)) (err : Value) (h : ErrIs w r err) (hE : ErrT w) :
    Calls Tryz.prog 14 #[err, .int .i64 ((codeOf r).1 : Int), .int .i64 ((codeOf r).2 : Int)] w fun ev w' => ev = .returned (.bool true) ∧ Below w.heap.size w w' := by
  cases r with
  | ok L =>
    have : err = .nilIface := h
    subst this
    refine (isFault_nil w 0 0).mono ?_
    rintro e w' ⟨rfl, rfl⟩
    exact ⟨rfl, Below.refl _ _⟩
  | error e =>
    obtain ⟨c, p⟩ := e
    obtain ⟨h0, g, rfl, hR⟩ := h
    refine (isFault_hit w g (c : Int) (p : Int) (c : Int) (p : Int) true true true (by simp) (by simp) (by rw [bne_iff_ne]; omega) hR hE).mono ?_
    rintro e w' ⟨rfl, hb⟩
    exact ⟨rfl, hb⟩
theorem OwnT.same {B : Nat} {v : Value} {acc : List Tok} {w w' : World} (h : OwnT B v acc w) (hk : ∀ g, v.ownBlock = some g → w'.heap[g]? = w.heap[g]?) : OwnT B v acc w' := by
  refine ⟨h.1, ?_⟩
  rcases h.2 with hn | ⟨g, cap, cur, rfl, hb, hgg, rest⟩
  · exact .inl hn
  · exact .inr ⟨g, cap, cur, rfl, hb, (hk g rfl).trans hgg, rest⟩
theorem slice_own {w : World} {B : Nat} {e : TypeId} {size : Nat} {v : Value} {n : Nat} {xs : List Value} (h : w.ownsRow B e size v n xs) : ∃ a c, v = .slice a n c := by
  rcases h.2 with ⟨rfl, rfl⟩ | ⟨g, cap, cur, rfl, _⟩
  · exact ⟨none, 0, rfl⟩
  · exact ⟨_, cap, rfl⟩
/-- append of a token to a row, whatever it holds; it stays in its block or lies in a new one -/
theorem appTokSep {ops : Array Oper} {rest : List Oper} {o : Oper} {a : Act} {w : World} {Q : Exit → Act → World → Prop} (hgd : o.guard = none) (sl x : Operand) (ho : o.op = .call { callee := .builtin .append, args := #[sl, x], argTypes := #[29, 29] })
    (B B0 : Nat) (w0 wp : World) (v : Value) (n : Nat) (xs : List Value) (tk : Tok) (hs : a.eval sl = v) (hown : wp.ownsRow B 28 4 v n xs) (hx : a.eval x = .slice (some ⟨wp.heap.size, 0, none⟩) 1 1) (hw : w = wp.alloc (.cells (tokCells tk).toArray 28)) (hl : n ≤ 1099511627776) (hb : Below B0 w0 wp) (hB0 : B0 ≤ B) (hB : B ≤ wp.heap.size)
    (h : ∀ v' w', w'.ownsRow B 28 4 v' (n + 1) (xs ++ tokCells tk) → Below B0 w0 w' → wp.heap.size ≤ w'.heap.size → (v'.ownBlock = v.ownBlock ∨ ∀ b, v'.ownBlock = some b → wp.heap.size ≤ b) → (∀ g, g < wp.heap.size → v.ownBlock ≠ some g → w'.heap[g]? = wp.heap[g]?) → wpList Tryz.prog ops Q rest (a.put o.dst v') w') : wpList Tryz.prog ops Q (o :: rest) a w := by
  subst hw
  obtain ⟨aa, cc, rfl⟩ := slice_own hown
  obtain ⟨i0, hi, hz0, hz1, hz2⟩ := info_parts infoTok
  have hsz : (wp.alloc (.cells (tokCells tk).toArray 28)).heap.size = wp.heap.size + 1 := by simp
  refine wpList_append_sep hgd sl x 29 ho B 28 i0 (.agg #[.int .i64 0, .int .i64 0, .string ByteArray.empty, .int .i64 0]) 4 40 Tryz.underlying29 hi hz0 hz1 hz2 rfl (by decide) aa n cc xs hs (World.ownsRow.alloc hown _) ⟨wp.heap.size, 0, none⟩ 1 1 (tokCells tk) hx rfl ?_ ?_ (by unfold maxLen; omega) (by omega) (by omega) ?_
  · intro j u hj
    have hr : Row (wp.alloc (.cells (tokCells tk).toArray 28)) wp.heap.size 28 (tokCells tk) := alloc_last _ _
    have := Row.cell hr j
    rw [hj] at this
    rw [add0]
    exact this
  · intro u hu
    simp only [tokCells, List.mem_cons, List.not_mem_nil, or_false] at hu
    rcases hu with rfl | rfl | rfl | rfl <;> rfl
  intro v' w' h1 h2 h3
  have hlt : ∀ k, (Value.slice aa n cc).ownBlock = some k → B ≤ k := fun k hk => (World.ownsRow.lt hown k hk).1
  have hbb : Below B0 w0 w' := (hb.alloc (Nat.le_trans hB0 hB) _).grown h2 (by omega) (fun k hk => Nat.le_trans hB0 (hlt k hk))
  refine h v' w' h1 hbb (by have := h2.size; omega) (h3.imp id fun h b hb => by have := h b hb; omega) ?_
  intro g hg hne
  rw [h2.block g (by omega) (fun e => hne e.symm), Lib.alloc_old wp _ g (by omega)]
end Go.Proofs.YtmhemahkcbgaoaaGreatDoor
