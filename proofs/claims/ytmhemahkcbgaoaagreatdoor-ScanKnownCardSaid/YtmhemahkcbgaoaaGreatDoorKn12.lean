/- Texts joined, one behind the other (PrintA, Toks, PrintB, Works7). -/
import Derived.Test.YtmhemahkcbgaoaaGreatDoorKn11
import Derived.Lib.AppendZeros
import Derived.Lib.ItoaLen
/- Print, by the program: tokens that are read, strings of the call's own, the line. -/
namespace Go.Proofs.YtmhemahkcbgaoaaGreatDoor
set_option linter.unusedVariables false
set_option linter.unusedSimpArgs false
open Go.RowKit
open Go.Lib hiding intOf
theorem grown_alloc_then {w w' : World} {o : Obj} {row : Option Nat} (h : (w.alloc o).grownBy w' row) : w.grownBy w' row :=
  ⟨h.os, h.tape, h.output, by have := h.size; simp at this; omega, fun k hk hne => (h.block k (by simp; omega) hne).trans (Below.heap_alloc w o k hk)⟩
/-- append of one element to a row of one's own, whatever the element's type -/
theorem appElem {T e : TypeId} {ops : Array Oper} {rest : List Oper} {o : Oper} {a : Act} {w : World} {Q : Exit → Act → World → Prop} (hgd : o.guard = none) (sl x : Operand) (ho : o.op = .call { callee := .builtin .append, args := #[sl, x], argTypes := #[T, T] })
    (hT : Tryz.prog.underlying T = some (.slice e)) (z : Value) (size bytes : Nat) (hinfo : (Tryz.prog.info? e).map (fun i => (i.zero, i.size, i.bytes)) = some (some z, size, bytes)) (hz : z.cells.size = size) (hs0 : 0 < size) (hby : bytes ≤ 4096)
    (B B0 : Nat) (w0 wp : World) (v : Value) (n : Nat) (xs news : List Value) (hs : a.eval sl = v) (hown : wp.ownsRow B e size v n xs) (hx : a.eval x = .slice (some ⟨wp.heap.size, 0, none⟩) 1 1) (hw : w = wp.alloc (.cells news.toArray e)) (hnl : news.length = size) (hone : ∀ u ∈ news, u.oneCell' = true)
    (hl : n ≤ 17179869184) (hb : Below B0 w0 wp) (hB0 : B0 ≤ B) (hB : B ≤ wp.heap.size)
    (h : ∀ v' w', w'.ownsRow B e size v' (n + 1) (xs ++ news) → Below B0 w0 w' → wp.heap.size ≤ w'.heap.size → (∀ g, g < B → w'.heap[g]? = wp.heap[g]?) → wp.grownBy w' v.ownBlock → wpList Tryz.prog ops Q rest (a.put o.dst v') w') : wpList Tryz.prog ops Q (o :: rest) a w := by
  subst hw
  obtain ⟨i0, hi, hz0, hz1, hz2⟩ := info_parts hinfo
  have hsz : (wp.alloc (.cells news.toArray e)).heap.size = wp.heap.size + 1 := by simp
  refine wpList_append_own _ hgd sl x T ho B e i0 z size bytes hT hi hz0 hz1 hz2 hz hs0 v n _ hs (World.ownsRow.alloc hown _) ⟨wp.heap.size, 0, none⟩ 1 1 news hx (by omega) ?_ hone (by unfold maxLen; omega) ?_ (by omega) ?_
  · intro j u hj
    have hr : Row (wp.alloc (.cells news.toArray e)) wp.heap.size e news := alloc_last _ _
    have := Row.cell hr j
    rw [hj] at this
    rw [add0]
    exact this
  · calc (n + 1) * bytes ≤ (n + 1) * 4096 := Nat.mul_le_mul (Nat.le_refl _) hby
      _ ≤ 140737488355328 := by omega
  intro v' w' h1 h2 _
  have hlt : ∀ k, v.ownBlock = some k → B ≤ k := fun k hk => (World.ownsRow.lt hown k hk).1
  have hbb : Below B0 w0 w' := (hb.alloc (Nat.le_trans hB0 hB) _).grown h2 (by omega) (fun k hk => Nat.le_trans hB0 (hlt k hk))
  refine h v' w' h1 hbb (by have := h2.size; omega) (fun g hg => ?_) (grown_alloc_then h2)
  rw [h2.block g (by omega) (fun e => by have := hlt g e.symm; omega), Lib.alloc_old wp _ g (by omega)]
/-- tokens, read out of a slice -/
def ReadsT (w : World) (a : Option Addr) (n : Nat) (L : List Tok) : Prop :=
  L.length = n ∧ (0 < n → ∃ b off, a = some ⟨b, off, none⟩ ∧ b < w.heap.size ∧ ∀ i x, L[i]? = some x → ∀ k v, (tokCells x)[k]? = some v → w.cell? ⟨b, off + i * 4 + k, none⟩ = some v)
theorem ReadsT.keep {B : Nat} {w w' : World} {a : Option Addr} {n : Nat} {L : List Tok} (h : ReadsT w a n L) (hb : Below B w w') (hB : w.heap.size ≤ B) : ReadsT w' a n L := by
  obtain ⟨hl, h⟩ := h
  refine ⟨hl, fun hn => ?_⟩
  obtain ⟨b, off, ha, hlt, hc⟩ := h hn
  exact ⟨b, off, ha, Nat.lt_of_lt_of_le hlt hb.size, fun i x hx k v hv => by rw [hb.cell (p := ⟨b, off + i * 4 + k, none⟩) (Nat.lt_of_lt_of_le hlt hB)]; exact hc i x hx k v hv⟩
theorem ReadsT.at {w : World} {a : Option Addr} {n : Nat} {L : List Tok} (h : ReadsT w a n L) {i : Nat} (hi : i < n) :
    ∃ b off x, a = some ⟨b, off, none⟩ ∧ b < w.heap.size ∧ L[i]? = some x ∧ w.cell? ⟨b, off + i * 4, none⟩ = some (.int .i64 x.kind) ∧ w.cell? ⟨b, off + i * 4 + 1, none⟩ = some (.int .i64 x.at') ∧ w.cell? ⟨b, off + i * 4 + 2, none⟩ = some (.string (bstr x.text)) ∧ w.cell? ⟨b, off + i * 4 + 3, none⟩ = some (.int .i64 x.num) := by
  obtain ⟨hl, h⟩ := h
  obtain ⟨b, off, ha, hlt, hc⟩ := h (by omega)
  have hx : L[i]? = some L[i] := List.getElem?_eq_getElem (by omega)
  have := hc i _ hx
  exact ⟨b, off, L[i], ha, hlt, hx, this 0 _ rfl, this 1 _ rfl, this 2 _ rfl, this 3 _ rfl⟩
theorem tok_at {L : List Tok} : ∀ {i : Nat} {x : Tok}, L[i]? = some x → ∀ {k : Nat} {v : Value}, (tokCells x)[k]? = some v → (L.flatMap tokCells)[i * 4 + k]? = some v := by
  induction L with
  | nil => intro i x h; cases h
  | cons y L ih =>
    intro i x hx k v hv
    rw [List.flatMap_cons]
    have hk : k < 4 := (List.getElem?_eq_some_iff.1 hv).1
    cases i with
    | zero =>
      cases hx
      rw [Nat.zero_mul, Nat.zero_add, List.getElem?_append_left (by exact hk)]
      exact hv
    | succ i =>
      rw [List.getElem?_append_right (by show 4 ≤ _; omega)]
      have := ih (i := i) hx hv
      rw [show (i + 1) * 4 + k - (tokCells y).length = i * 4 + k from by show (i + 1) * 4 + k - 4 = _; omega]
      exact this
theorem readsT_own {B : Nat} {v : Value} {L : List Tok} {w : World} (h : OwnT B v L w) : ∃ a c, v = .slice a L.length c ∧ ReadsT w a L.length L ∧ L.length ≤ c ∧ c ≤ maxLen := by
  rcases h.2 with ⟨rfl, h0⟩ | ⟨g, cap, cur, rfl, hb, hg, hnc, hcm, hs, ht⟩
  · rw [h0]
    exact ⟨none, 0, rfl, ⟨h0, fun h => absurd h (by omega)⟩, Nat.le_refl _, Nat.zero_le _⟩
  · refine ⟨_, cap, rfl, ⟨rfl, fun _ => ⟨g, 0, rfl, (Array.getElem?_eq_some_iff.1 hg).1, fun i x hx k u hu => ?_⟩⟩, hnc, hcm⟩
    have hlt : i * 4 + k < L.length * 4 := by
      have h1 : i < L.length := (List.getElem?_eq_some_iff.1 hx).1
      have h2 : k < 4 := (List.getElem?_eq_some_iff.1 hu).1
      omega
    have e := tok_at hx hu
    rw [Nat.zero_add]
    exact (h.cellAt (i * 4 + k) hlt).trans e
/-- texts of the call's own -/
def OwnS (B : Nat) (v : Value) (ps : List (List UInt8)) (w : World) : Prop := w.ownsRow B 9 1 v ps.length (ps.map fun s => .string (bstr s))
theorem OwnS.below {B : Nat} {v : Value} {ps : List (List UInt8)} {w w' : World} (h : OwnS B v ps w) (b : Below w.heap.size w w') : OwnS B v ps w' := by
  refine ⟨h.1, ?_⟩
  rcases h.2 with hn | ⟨g, cap, cur, rfl, hb, hgg, rest⟩
  · exact .inl hn
  · exact .inr ⟨g, cap, cur, rfl, hb, (b.block g (Array.getElem?_eq_some_iff.1 hgg).1).trans hgg, rest⟩
theorem infoStr : (Tryz.prog.info? 9).map (fun i => (i.zero, i.size, i.bytes)) = some (some (.string ByteArray.empty), 1, 16) := by kernel_rfl
/-- strings.Join at a row of one's own -/
theorem joinC (w : World) (B : Nat) (v : Value) (ps : List (List UInt8)) (sep : List UInt8) (h : OwnS B v ps w) (hn : ps.length ≤ 140737488355328) (hl : (Lib.join ps sep).length ≤ 140737488355328) :
    Calls Tryz.prog 46 #[v, .string (bstr sep)] w fun e w' => e = .returned (.string (bstr (Lib.join ps sep))) ∧ Below w.heap.size w w' := by
  rcases h.2 with ⟨rfl, h0⟩ | ⟨g, cap, cur, rfl, hb, hg, hnc, hcm, hs, ht⟩
  · obtain rfl := List.eq_nil_of_length_eq_zero h0
    refine (Tryz.strings_Join_none none 0 (bstr sep) w).mono ?_
    rintro e w' ⟨rfl, rfl⟩
    exact ⟨rfl, Below.refl _ _⟩
  · have em : (ps.map bstr).map (·.data.toList) = ps := by rw [List.map_map]; exact (List.map_congr_left fun s _ => by simp [bstr]).trans (List.map_id _)
    have hj := Tryz.strings_Join g 0 cap (ps.map bstr) (bstr sep) w (by
      intro j x hx
      rw [Nat.zero_add]
      rw [List.getElem?_map] at hx
      cases hp : ps[j]? with
      | none => rw [hp] at hx; cases hx
      | some s =>
        rw [hp] at hx
        cases hx
        have hlt : j < ps.length := (List.getElem?_eq_some_iff.1 hp).1
        refine (h.cellAt j (by omega)).trans ?_
        rw [List.getElem?_map, hp]; rfl) (Array.getElem?_eq_some_iff.1 hg).1 (by simpa using hn) (by simpa using hnc) (by rw [em]; simpa [bstr] using hl)
    rw [em, List.length_map] at hj
    refine hj.mono ?_
    rintro e w' ⟨rfl, hb'⟩
    exact ⟨by simp [bstr], hb'⟩
end Go.Proofs.YtmhemahkcbgaoaaGreatDoor
/- Tokens: the same ones, with marked room behind them, kept. -/
namespace Go.Proofs.YtmhemahkcbgaoaaGreatDoor
set_option linter.unusedVariables false
set_option linter.unusedSimpArgs false
open Go.RowKit
open Go.Lib hiding intOf
/-- elements, or none, put behind a row of the call's own -/
theorem appSlice {T e : TypeId} {w : World} {ops : Array Oper} {rest : List Oper} {o : Oper} {a : Act} {Q : Exit → Act → World → Prop} (hgd : o.guard = none) (sl x : Operand) (ho : o.op = .call { callee := .builtin .append, args := #[sl, x], argTypes := #[T, T] })
    (hT : Tryz.prog.underlying T = some (.slice e)) (z : Value) (size bytes : Nat) (hinfo : (Tryz.prog.info? e).map (fun i => (i.zero, i.size, i.bytes)) = some (some z, size, bytes)) (hz : z.cells.size = size) (hs0 : 0 < size) (hby : bytes ≤ 4096)
    (B : Nat) (v : Value) (n : Nat) (xs : List Value) (hs : a.eval sl = v) (hown : w.ownsRow B e size v n xs) (ad : Option Addr) (m c : Nat) (news : List Value) (hx : a.eval x = .slice ad m c) (hnl : news.length = m * size)
    (hsrc : 0 < m → ∃ b off, ad = some ⟨b, off, none⟩ ∧ ∀ j u, news[j]? = some u → w.cell? ⟨b, off + j, none⟩ = some u) (hone : ∀ u ∈ news, u.oneCell' = true) (hl : n + m ≤ 17179869184) (hB : B ≤ w.heap.size)
    (h : ∀ v' w', w'.ownsRow B e size v' (n + m) (xs ++ news) → w.grownBy w' v.ownBlock → wpList Tryz.prog ops Q rest (a.put o.dst v') w') : wpList Tryz.prog ops Q (o :: rest) a w := by
  obtain ⟨i0, hi, hz0, hz1, hz2⟩ := info_parts hinfo
  have hb : (n + m) * bytes ≤ 140737488355328 := by
    calc (n + m) * bytes ≤ (n + m) * 4096 := Nat.mul_le_mul (Nat.le_refl _) hby
      _ ≤ 140737488355328 := by omega
  by_cases hm : m = 0
  · subst hm
    obtain rfl : news = [] := List.eq_nil_of_length_eq_zero (by simpa using hnl)
    rcases hown.2 with ⟨rfl, h0⟩ | ⟨g, cap, cur, rfl, hb, hg, hnc, hcm, hs', ht⟩
    · have hrun : (Builtin.append_ #[T, T] o.type #[.slice none 0 0, .slice ad 0 c]).run Tryz.prog w = .ok (.slice none 0 0) w := by
        cases ad <;> simp [Builtin.append_, run_underlying hT, sizeOf, typeInfo, hi, Builtin.lenOf, Builtin.firstCells, loadCells, loadCellsFrom, storeCells]
      refine Lib.wpList_append_run w hgd sl x T T ho _ _ hs hx _ _ hrun (h _ w ?_ ⟨rfl, rfl, rfl, Nat.le_refl _, fun _ _ _ => rfl⟩)
      rw [List.append_nil]
      exact hown
    · have hrun : (Builtin.append_ #[T, T] o.type #[.slice (some ⟨g, 0, none⟩) n cap, .slice ad 0 c]).run Tryz.prog w = .ok (.slice (some ⟨g, 0, none⟩) n cap) w := by
        cases ad <;> simp [Builtin.append_, run_underlying hT, sizeOf, typeInfo, hi, Builtin.lenOf, Builtin.firstCells, loadCells, loadCellsFrom, storeCells, hnc]
      refine Lib.wpList_append_run w hgd sl x T T ho _ _ hs hx _ _ hrun (h _ w ?_ ⟨rfl, rfl, rfl, Nat.le_refl _, fun _ _ _ => rfl⟩)
      rw [List.append_nil]
      exact hown
  · obtain ⟨b, off, rfl, hc⟩ := hsrc (by omega)
    refine wpList_append_own w hgd sl x T ho B e i0 z size bytes hT hi hz0 hz1 hz2 hz hs0 v n xs hs hown ⟨b, off, none⟩ m c news hx hnl (fun j u hj => ?_) hone (by unfold maxLen; omega) hb hB (fun v' w' r1 r2 _ => h v' w' r1 r2)
    rw [cell_add]
    exact hc j u hj
theorem toks_len (L : List Tok) : (L.flatMap tokCells).length = L.length * 4 := by
  induction L with
  | nil => rfl
  | cons t L ih => rw [List.flatMap_cons, List.length_append, ih, List.length_cons]; show 4 + _ = _; omega
theorem bstr_eq (a b : List UInt8) : ((bstr a).toList == (bstr b).toList) = decide (a = b) := by
  have : ∀ l, (bstr l).toList = l := fun l => by rw [ByteArray.toList_eq]; simp [bstr]
  rw [this, this]
  by_cases h : a = b <;> simp [h]
theorem tokNeq (w : World) (x y : Tok) : (binOp .neq 28 (tokV x) (tokV y)).run Tryz.prog w = .ok (.bool (!decide (x = y))) w := by
  obtain ⟨a, b, c, d⟩ := x
  obtain ⟨a', b', c', d'⟩ := y
  have e : (Tok.mk a b c d = Tok.mk a' b' c' d') ↔ (a = a' ∧ b = b' ∧ c = c' ∧ d = d') := by simp
  show (binOp .neq 28 (.agg #[.int .i64 a, .int .i64 b, .string (bstr c), .int .i64 d]) (.agg #[.int .i64 a', .int .i64 b', .string (bstr c'), .int .i64 d'])).run Tryz.prog w = _
  rw [run_neq_struct]
  by_cases h1 : a = a'
  · by_cases h2 : b = b'
    · by_cases h3 : c = c'
      · by_cases h4 : d = d'
        · subst h1 h2 h3 h4
          go_simp
        · have q : (d == d') = false := by simpa using h4
          subst h1 h2 h3
          rw [decide_eq_false (fun h => h4 (e.1 h).2.2.2)]
          go_simp
      · have q : ((bstr c).toList == (bstr c').toList) = false := by rw [bstr_eq]; simpa using h3
        subst h1 h2
        rw [decide_eq_false (fun h => h3 (e.1 h).2.2.1)]
        go_simp
    · have q : (b == b') = false := by simpa using h2
      subst h1
      rw [decide_eq_false (fun h => h2 (e.1 h).2.1)]
      go_simp
  · have q : (a == a') = false := by simpa using h1
    rw [decide_eq_false (fun h => h1 (e.1 h).1)]
    go_simp
theorem tokEql (w : World) (x y : Tok) : (binOp .eql 28 (tokV x) (tokV y)).run Tryz.prog w = .ok (.bool (decide (x = y))) w := by
  obtain ⟨a, b, c, d⟩ := x
  obtain ⟨a', b', c', d'⟩ := y
  have e : (Tok.mk a b c d = Tok.mk a' b' c' d') ↔ (a = a' ∧ b = b' ∧ c = c' ∧ d = d') := by simp
  show (binOp .eql 28 (.agg #[.int .i64 a, .int .i64 b, .string (bstr c), .int .i64 d]) (.agg #[.int .i64 a', .int .i64 b', .string (bstr c'), .int .i64 d'])).run Tryz.prog w = _
  rw [run_eql_struct]
  by_cases h1 : a = a'
  · by_cases h2 : b = b'
    · by_cases h3 : c = c'
      · by_cases h4 : d = d'
        · subst h1 h2 h3 h4
          go_simp
        · have q : (d == d') = false := by simpa using h4
          subst h1 h2 h3
          rw [decide_eq_false (fun h => h4 (e.1 h).2.2.2)]
          go_simp
      · have q : ((bstr c).toList == (bstr c').toList) = false := by rw [bstr_eq]; simpa using h3
        subst h1 h2
        rw [decide_eq_false (fun h => h3 (e.1 h).2.2.1)]
        go_simp
    · have q : (b == b') = false := by simpa using h2
      subst h1
      rw [decide_eq_false (fun h => h2 (e.1 h).2.1)]
      go_simp
  · have q : (a == a') = false := by simpa using h1
    rw [decide_eq_false (fun h => h1 (e.1 h).1)]
    go_simp
theorem toks_cell {w : World} {a : Option Addr} {n : Nat} {L : List Tok} (h : ReadsT w a n L) (hn : 0 < n) : ∃ b off, a = some ⟨b, off, none⟩ ∧ ∀ j u, (L.flatMap tokCells)[j]? = some u → w.cell? ⟨b, off + j, none⟩ = some u := by
  obtain ⟨hl, h⟩ := h
  obtain ⟨b, off, ha, hb, hc⟩ := h hn
  refine ⟨b, off, ha, fun j u hj => ?_⟩
  have hlen : (L.flatMap tokCells).length = L.length * 4 := toks_len L
  have hjl : j < L.length * 4 := by rw [← hlen]; exact (List.getElem?_eq_some_iff.1 hj).1
  have hi : j / 4 < L.length := by omega
  obtain ⟨t, ht⟩ : ∃ t, L[j / 4]? = some t := ⟨L[j / 4], List.getElem?_eq_getElem hi⟩
  obtain ⟨v, hv⟩ : ∃ v, (tokCells t)[j % 4]? = some v := ⟨(tokCells t)[j % 4]'(by show j % 4 < 4; omega), List.getElem?_eq_getElem _⟩
  have e := tok_at ht hv
  rw [show j / 4 * 4 + j % 4 = j by omega] at e
  rw [hj] at e
  cases e
  have := hc (j / 4) t ht (j % 4) u hv
  rwa [Nat.add_assoc, show j / 4 * 4 + j % 4 = j by omega] at this
theorem ReadsT.take {w : World} {a : Option Addr} {n m : Nat} {L M : List Tok} (h : ReadsT w a (n + m) (L ++ M)) (hl : L.length = n) : ReadsT w a n L := by
  obtain ⟨_, h⟩ := h
  refine ⟨hl, fun hn => ?_⟩
  obtain ⟨b, off, ha, hb, hc⟩ := h (by omega)
  exact ⟨b, off, ha, hb, fun i x hx k v hv => hc i x (by rw [List.getElem?_append_left (lt_of_at hx)]; exact hx) k v hv⟩
theorem toks_one (L : List Tok) : ∀ u ∈ L.flatMap tokCells, u.oneCell' = true := by
  intro u hu
  obtain ⟨t, _, ht⟩ := List.mem_flatMap.1 hu
  simp only [tokCells, List.mem_cons, List.not_mem_nil, or_false] at ht
  rcases ht with rfl | rfl | rfl | rfl <;> rfl
theorem take_both {α : Type} {L L' : List α} {k : Nat} {x : α} (h : L.take k = L'.take k) (hx : L[k]? = some x) (hx' : L'[k]? = some x) : L.take (k + 1) = L'.take (k + 1) := by
  rw [List.take_add_one, List.take_add_one, h, hx, hx']
/-- the same tokens? -/
theorem sameC (w : World) (a : Option Addr) (n c : Nat) (L : List Tok) (a' : Option Addr) (n' c' : Nat) (L' : List Tok) (h : ReadsT w a n L) (h' : ReadsT w a' n' L') (hn : n ≤ 17179869184) (hn' : n' ≤ 17179869184) :
    Calls Tryz.prog 15 #[.slice a n c, .slice a' n' c'] w fun e w' => e = .returned (.bool (decide (L = L'))) ∧ Quiet w w' := by
  have hl := h.1
  have hl' := h'.1
  have HL := Lib.hid h
  have HL' := Lib.hid h'
  have HLN := Lib.hid hl
  have HLN' := Lib.hid hl'
  clear h h' hl hl'
  by_cases hne : n = n'
  · subst hne
    go_enter Tryz.func15, Tryz.ntmps15
    go_wp2
    go_loopw [5] (fun kv wr => ∃ k : Nat, k ≤ n ∧ kv = .int .i64 (k : Int) ∧ Hid (Quiet w wr ∧ L.take k = L'.take k)) (fun kv _ => n - (RowKit.intOf kv).toNat)
    case atStart => exact ⟨0, Nat.zero_le _, rfl, Lib.hid ⟨Quiet.refl _, rfl⟩⟩
    case round =>
      obtain ⟨k, hkn, rfl, HH⟩ := hrel
      by_cases hlt : k < n
      · obtain ⟨b, off, x, rfl, hb, hx, e0, e1, e2, e3⟩ := (HL.out.keep (HH.out.1.below w.heap.size) (Nat.le_refl _)).at hlt
        obtain ⟨b', off', x', rfl, hb', hx', e0', e1', e2', e3'⟩ := (HL'.out.keep (HH.out.1.below w.heap.size) (Nat.le_refl _)).at hlt
        have HX := Lib.hid hx
        have HX' := Lib.hid hx'
        obtain ⟨xk, xa, xt, xn⟩ := x
        obtain ⟨xk', xa', xt', xn'⟩ := x'
        simp only at e0 e1 e2 e3 e0' e1' e2' e3'
        clear hx hx'
        by_cases hxx : (⟨xk, xa, xt, xn⟩ : Tok) = ⟨xk', xa', xt', xn'⟩
        · have hq : ∀ w, (binOp .neq 28 (.agg #[.int .i64 xk, .int .i64 xa, .string (bstr xt), .int .i64 xn]) (.agg #[.int .i64 xk', .int .i64 xa', .string (bstr xt'), .int .i64 xn'])).run Tryz.prog w = .ok (.bool false) w := fun w => by
            have := tokNeq w ⟨xk, xa, xt, xn⟩ ⟨xk', xa', xt', xn'⟩
            rw [decide_eq_true hxx] at this
            exact this
          have HXX := Lib.hid hxx
          clear hxx
          go_wp2
          go_quiet (fail)
          go_wp2
          go_roundw
          case rel => exact ⟨k + 1, by omega, by go_num, Lib.hid ⟨HH.out.1.drewN _, take_both HH.out.2 HX.out (HXX.out ▸ HX'.out)⟩⟩
          case measure => simp [RowKit.intOf]; omega
        · have hq : ∀ w, (binOp .neq 28 (.agg #[.int .i64 xk, .int .i64 xa, .string (bstr xt), .int .i64 xn]) (.agg #[.int .i64 xk', .int .i64 xa', .string (bstr xt'), .int .i64 xn'])).run Tryz.prog w = .ok (.bool true) w := fun w => by
            have := tokNeq w ⟨xk, xa, xt, xn⟩ ⟨xk', xa', xt', xn'⟩
            rw [decide_eq_false hxx] at this
            exact this
          have HXX := Lib.hid hxx
          clear hxx
          go_wp2
          go_quiet (fail)
          go_wp2
          go_ret
          refine ⟨congrArg (fun b => Ending.returned (.bool b)) (decide_eq_false ?_).symm, HH.out.1.drewN _⟩
          intro e
          have h1 := HX.out
          rw [e, HX'.out] at h1
          exact HXX.out (Option.some.inj h1).symm
      · obtain rfl : k = n := by omega
        go_wp2
        go_ret
        refine ⟨congrArg (fun b => Ending.returned (.bool b)) (decide_eq_true ?_).symm, HH.out.1⟩
        have := HH.out.2
        rwa [List.take_of_length_le (by rw [HLN.out]; exact Nat.le_refl _), List.take_of_length_le (by rw [HLN'.out]; exact Nat.le_refl _)] at this
  · go_enter Tryz.func15, Tryz.ntmps15
    go_wp2
    go_ret
    refine ⟨congrArg (fun b => Ending.returned (.bool b)) (decide_eq_false ?_).symm, Quiet.refl _⟩
    intro e
    exact hne (by rw [← HLN.out, ← HLN'.out, e])
end Go.Proofs.YtmhemahkcbgaoaaGreatDoor
/- Print, by the program: the line of tokens. -/
namespace Go.Proofs.YtmhemahkcbgaoaaGreatDoor
set_option linter.unusedVariables false
set_option linter.unusedSimpArgs false
open Go.RowKit
open Go.Lib hiding intOf
theorem mapM_next {L : List Tok} {k : Nat} {x : Tok} {ps : List (List UInt8)} {p : List UInt8} (hx : L[k]? = some x) (h : (L.take k).mapM printed = some ps) (hp : printed x = some p) : (L.take (k + 1)).mapM printed = some (ps ++ [p]) := by
  rw [take_next hx, List.mapM_append, h]
  simp [hp]
theorem mapM_stop {L : List Tok} {k : Nat} {x : Tok} (hx : L[k]? = some x) (hp : printed x = none) : L.mapM printed = none := by
  have hk := lt_of_at hx
  have e : L = L.take k ++ (x :: L.drop (k + 1)) := by
    have : L[k] = x := by rw [List.getElem?_eq_getElem hk] at hx; exact Option.some.inj hx
    rw [← this, ← List.drop_eq_getElem_cons hk, List.take_append_drop]
  rw [e, List.mapM_append]
  cases (L.take k).mapM printed <;> simp [hp]
theorem mapM_mem : ∀ {L : List Tok} {ps : List (List UInt8)}, L.mapM printed = some ps → ∀ {p}, p ∈ ps → ∃ t ∈ L, printed t = some p
  | [], ps, h, p, hp => by simp at h; subst h; cases hp
  | t :: L, ps, h, p, hp => by
    rw [List.mapM_cons] at h
    cases h1 : printed t with
    | none => rw [h1] at h; cases h
    | some q =>
      cases h2 : L.mapM printed with
      | none => rw [h1, h2] at h; cases h
      | some qs =>
        rw [h1, h2] at h
        cases h
        rcases List.mem_cons.1 hp with rfl | hp
        · exact ⟨t, List.mem_cons_self .., h1⟩
        · obtain ⟨t', ht, h3⟩ := mapM_mem h2 hp
          exact ⟨t', List.mem_cons_of_mem _ ht, h3⟩
theorem joinB_eq : ∀ ps : List (List UInt8), Lib.join ps [32] = joinB ps
  | [] => rfl
  | [a] => Lib.join_one a _
  | a :: b :: r => by
    have := joinB_eq (b :: r)
    rw [Lib.join_cons] at this ⊢
    rw [joinB, ← this]
    simp [Lib.joinTail]
theorem quo_len (l : List UInt8) : ∀ (f i : Nat), (quo l f i).length ≤ 8 * f
  | 0, i => Nat.le_refl _
  | f + 1, i => by
    rw [quo]
    split
    · exact Nat.zero_le _
    · have h1 := piece_len (l.drop i)
      have h2 := quo_len l f (i + (decodeL (l.drop i)).2)
      rw [List.length_append]
      omega
theorem printed_len {t : Tok} {p : List UInt8} (ht : TokOk t) (h : printed t = some p) : p.length ≤ 8388618 := by
  obtain ⟨h0, h1, h2⟩ := ht
  unfold printed at h
  split at h
  · split at h
    · cases h
    · cases h; omega
  split at h
  · split at h
    · cases h
    · cases h
      have := itoa_length_le t.num h1 h2
      omega
  split at h
  · split at h
    · cases h
    · cases h
      have := quo_len t.text (t.text.length + 1) 0
      unfold quoteOf
      simp only [List.length_cons, List.length_append, List.length_nil]
      omega
  · cases h
theorem joinB_len : ∀ {ps : List (List UInt8)} {m : Nat}, (∀ p ∈ ps, p.length ≤ m) → (joinB ps).length ≤ ps.length * (m + 1)
  | [], _, _ => Nat.zero_le _
  | [a], m, h => by have := h a (List.mem_cons_self ..); simp [joinB]; omega
  | a :: b :: r, m, h => by
    have h1 := h a (List.mem_cons_self ..)
    have h2 := joinB_len (ps := b :: r) (m := m) fun p hp => h p (List.mem_cons_of_mem _ hp)
    simp only [joinB, List.length_append, List.length_cons] at h2 ⊢
    rw [Nat.add_mul, Nat.add_mul] at *
    omega
def PrintQ (w : World) (r : Except Nat (List UInt8)) (e : Ending) (w' : World) : Prop :=
  ∃ (s : List UInt8) (c : Int), e = .returned (.tuple #[.string (bstr s), .int .i64 c]) ∧ Below w.heap.size w w' ∧ match r with
    | .ok l => s = l ∧ c = 0
    | .error n => s = [] ∧ c = (n : Int)
set_option maxHeartbeats 4000000 in
set_option maxRecDepth 100000 in
theorem printC (w : World) (a : Option Addr) (n c : Nat) (L : List Tok) (hL : ReadsT w a n L) (hok : ∀ t ∈ L, TokOk t) (hn : n ≤ 1048576) (hT : Tabs w) :
    Calls Tryz.prog 20 #[.slice a n c] w (PrintQ w (printOf L)) := by
  have hln := hL.1
  have HOK := Lib.hid hok
  have HL := Lib.hid hL
  have HT := Lib.hid hT
  have HLN := Lib.hid hln
  clear hok hL hT hln
  go_enter Tryz.func20, Tryz.ntmps20
  go_wp2
  go_loopw [4, 12] (fun pv kv wr => ∃ (k : Nat) (ps : List (List UInt8)), k ≤ n ∧ kv = .int .i64 (k : Int) ∧ Hid ((L.take k).mapM printed = some ps ∧ ps.length = k ∧ OwnS w.heap.size pv ps wr ∧ Below w.heap.size w wr)) (fun _ kv _ => n - (RowKit.intOf kv).toNat)
  case atStart => exact ⟨0, [], Nat.zero_le _, rfl, Lib.hid ⟨rfl, rfl, ⟨rfl, .inl ⟨rfl, rfl⟩⟩, Below.refl _ _⟩⟩
  case round =>
    obtain ⟨k, ps, hkn, rfl, HH⟩ := hrel
    obtain ⟨pv, rfl⟩ : ∃ v : Value, v = u4 := ⟨_, rfl⟩
    by_cases hlt : k < n
    · have hRT := HL.out.keep HH.out.2.2.2 (Nat.le_refl _)
      obtain ⟨b, off, tk, rfl, hbl, hx, e0, e1, e2, e3⟩ := hRT.at hlt
      have HX := Lib.hid hx
      have HTK := Lib.hid (HOK.out tk (List.mem_of_getElem? hx))
      have hsz := HH.out.2.2.2.size
      clear hRT hx
      go_upto_region 5 with fail
      obtain ⟨w1, hw1⟩ : ∃ w1, w1 = wr.alloc (.cells #[.int .i64 tk.kind, .int .i64 tk.at', .string (bstr tk.text), .int .i64 tk.num] 28) := ⟨_, rfl⟩
      have hR : Row w1 wr.heap.size 28 [.int .i64 tk.kind, .int .i64 tk.at', .string (bstr tk.text), .int .i64 tk.num] := by rw [hw1]; exact alloc_last _ _
      have hbw : Below wr.heap.size wr w1 := by rw [hw1]; exact (Below.refl _ _).alloc (Nat.le_refl _) _
      have hb1 : Below w.heap.size w w1 := HH.out.2.2.2.trans (hbw.mono hsz)
      rw [← hw1]
      clear hw1 e0 e1 e2 e3
      have HPC := Lib.hid (printedC w1 tk HTK.out (HT.out.next hb1))
      have c0 := Row.cell hR 0
      have c1 := Row.cell hR 1
      have c2 := Row.cell hR 2
      have c3 := Row.cell hR 3
      simp only [List.getElem?_cons_zero, List.getElem?_cons_succ] at c0 c1 c2 c3
      go_upto_region 6 with (go_at_call 45; refine (HPC.out).mono ?_; rintro e w5 ⟨s5, b5, rfl, hp5, hb5⟩)
      have HP5 := Lib.hid hp5
      have HB5 := Lib.hid (hb1.trans (hb5.mono hb1.size))
      have HO5 : Hid (OwnS w.heap.size pv ps w5) := Lib.hid ((HH.out.2.2.1.below hbw).below hb5)
      have hpl : ps.length ≤ 1048576 := by have := HH.out.2.1; omega
      have hs5 : w.heap.size ≤ w5.heap.size := HB5.out.size
      clear hp5 hb5 c0 c1 c2 c3 hR hbw hb1 hsz
      cases b5
      all_goals simp only [if_true, if_false, Bool.false_eq_true] at HP5
      · have hq : printOf L = .error 70 := by
          unfold printOf
          rw [mapM_stop HX.out HP5.out]
        have HQ := Lib.hid hq
        clear hq
        go_wp2
        go_ret2
        unfold PrintQ
        rw [HQ.out]
        exact ⟨[], 70, rfl, HB5.out, rfl, rfl⟩
      · go_wp2_with (at_builtin; refine appElem rfl _ _ rfl Tryz.underlying22 (.string ByteArray.empty) 1 16 infoStr rfl (by decide) (by decide) w.heap.size w.heap.size w w5 pv ps.length (ps.map fun s => .string (bstr s)) [.string (bstr s5)] rfl HO5.out rfl rfl rfl (by simp [Value.oneCell']) (by omega) HB5.out (Nat.le_refl _) hs5 ?_; intro v' w' h1 h2 h3 h4 _)
        have HNX : Hid ((L.take (k + 1)).mapM printed = some (ps ++ [s5]) ∧ (ps ++ [s5]).length = k + 1 ∧ OwnS w.heap.size v' (ps ++ [s5]) w' ∧ Below w.heap.size w w') := Lib.hid ⟨mapM_next HX.out HH.out.1 HP5.out, by rw [List.length_append, HH.out.2.1]; rfl, by unfold OwnS; rw [List.length_append, List.map_append]; exact h1, h2⟩
        clear h1 h2 h3 h4
        go_wp2
        go_roundw
        case rel => exact ⟨k + 1, ps ++ [s5], by omega, by go_num, HNX⟩
        case measure => simp [RowKit.intOf]; omega
    · obtain rfl : k = n := by omega
      have hall : L.take k = L := List.take_of_length_le (by rw [HLN.out]; exact Nat.le_refl _)
      have hmm := HH.out.1
      rw [hall] at hmm
      obtain ⟨J, hJ⟩ : ∃ J, Lib.join ps [32] = J := ⟨_, rfl⟩
      have hJb : joinB ps = J := (joinB_eq ps).symm.trans hJ
      have hJl : J.length ≤ 140737488355328 := by
        rw [← hJb]
        refine Nat.le_trans (joinB_len (m := 8388618) ?_) ?_
        · intro p hp
          obtain ⟨t, ht, hpt⟩ := mapM_mem hmm hp
          exact printed_len (HOK.out t ht) hpt
        · rw [HH.out.2.1]
          calc k * (8388618 + 1) ≤ 1048576 * (8388618 + 1) := Nat.mul_le_mul hn (Nat.le_refl _)
            _ ≤ _ := by decide
      have HJC : Hid (Calls Tryz.prog 46 #[pv, .string (bstr [32])] wr fun e w' => e = .returned (.string (bstr J)) ∧ Below wr.heap.size wr w') := Lib.hid (by
        have := joinC wr w.heap.size pv ps [32] HH.out.2.2.1 (by rw [HH.out.2.1]; omega) (by rw [hJ]; exact hJl)
        rwa [hJ] at this)
      have hP : printOf L = if 16384 < J.length then .error 4 else .ok J := by
        unfold printOf
        rw [hmm, ← hJb]
      have HP := Lib.hid hP
      have hbr := HH.out.2.2.2
      clear hall hmm hJ hJb hP
      by_cases hl : 16384 < J.length
      · have hq := HP.out.trans (if_pos hl)
        have HQ := Lib.hid hq
        clear hq
        go_wp2_with (go_at_call 46; refine (HJC.out).mono ?_; rintro e w5 ⟨rfl, hb5⟩)
        go_ret2
        unfold PrintQ
        rw [HQ.out]
        exact ⟨[], 4, rfl, hbr.trans (hb5.mono hbr.size), rfl, rfl⟩
      · have hq := HP.out.trans (if_neg hl)
        have HQ := Lib.hid hq
        clear hq
        go_wp2_with (go_at_call 46; refine (HJC.out).mono ?_; rintro e w5 ⟨rfl, hb5⟩)
        go_ret2
        unfold PrintQ
        rw [HQ.out]
        exact ⟨J, 0, rfl, hbr.trans (hb5.mono hbr.size), rfl, rfl⟩
end Go.Proofs.YtmhemahkcbgaoaaGreatDoor
/- works of chapter 07: a line of three tokens. -/
namespace Go.Proofs.YtmhemahkcbgaoaaGreatDoor
set_option linter.unusedVariables false
set_option linter.unusedSimpArgs false
open Go.RowKit
open Go.Lib hiding intOf
def workL : List UInt8 := [97, 32, 49, 50, 32, 34, 98, 92, 110, 34]
def workT : List Tok := [⟨1, 0, [97], 0⟩, ⟨2, 2, [], 12⟩, ⟨3, 5, [98, 10], 0⟩]
theorem work_scan : scanOf workL = .ok workT := by
  kernel_rfl
theorem itoa12 : itoa 12 = [49, 50] := by
  simp [itoa, decDigits]
theorem work_print : printOf workT = .ok workL := by
  have h1 : printed ⟨1, 0, [97], 0⟩ = some [97] := by kernel_rfl
  have h2 : printed ⟨2, 2, [], 12⟩ = some [49, 50] := by unfold printed; simp [itoa12]
  have h3 : printed ⟨3, 5, [98, 10], 0⟩ = some [34, 98, 92, 110, 34] := by kernel_rfl
  have hm : workT.mapM printed = some [[97], [49, 50], [34, 98, 92, 110, 34]] := by
    unfold workT
    simp [h1, h2, h3]
  unfold printOf
  rw [hm]
  rfl
theorem work_ok : ∀ t ∈ workT, TokOk t := by
  intro t ht
  simp only [workT, List.mem_cons, List.not_mem_nil, or_false] at ht
  rcases ht with rfl | rfl | rfl <;> exact ⟨by decide, by decide, by decide⟩
set_option maxHeartbeats 4000000 in
theorem worksC (w : World) (hT : Tabs w) : Calls Tryz.prog 11 #[] w fun e w' => e = .returned (.bool true) ∧ Below w.heap.size w w' := by
  have hS := scanC w workL (by decide) hT
  rw [work_scan] at hS
  have HS := Lib.hid hS
  clear hS
  go_enter Tryz.func11, Tryz.ntmps11
  go_upto_region 2 with (go_at_call 12; refine (HS.out).mono ?_; rintro e w1 ⟨v, err, rfl, hb1, rfl, hO⟩; obtain ⟨a, c, hv, hR, _, _⟩ := readsT_own hO; change v = .slice a 3 c at hv; change ReadsT w1 a 3 workT at hR; subst hv)
  have hP := printC w1 a 3 c workT hR work_ok (by decide) (hT.next hb1)
  rw [work_print] at hP
  have HP := Lib.hid hP
  have HR := Lib.hid hR
  have HB := Lib.hid hb1
  clear hP hO hR hb1
  go_upto_region 3 with (go_at_call 20; refine (HP.out).mono ?_; rintro e w2 ⟨s, c0, rfl, hb2, rfl, rfl⟩)
  have hR2 := HR.out.keep hb2 (Nat.le_refl _)
  obtain ⟨b, off, x0, rfl, hbl, hx0, p0, p1, p2, p3⟩ := hR2.at (i := 0) (by decide)
  obtain ⟨b', off', x1, e1, hbl', hx1, q0, q1, q2, q3⟩ := hR2.at (i := 1) (by decide)
  obtain ⟨b'', off'', x2, e2, hbl'', hx2, r0, r1, r2, r3⟩ := hR2.at (i := 2) (by decide)
  cases e1
  cases e2
  cases hx0
  cases hx1
  cases hx2
  simp only [Nat.zero_mul, Nat.one_mul, Nat.reduceMul, Nat.add_zero, Nat.add_assoc, Nat.reduceAdd] at p0 p1 p2 p3 q0 q1 q2 q3 r0 r1 r2 r3
  clear hR2 HR HP
  go_wp2
  go_ret
  exact ⟨rfl, HB.out.trans (hb2.mono HB.out.size)⟩
end Go.Proofs.YtmhemahkcbgaoaaGreatDoor
