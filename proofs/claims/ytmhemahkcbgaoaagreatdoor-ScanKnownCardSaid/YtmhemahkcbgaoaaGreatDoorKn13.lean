/- Texts joined, one behind the other (Ap, Rowsown, QuoteP). -/
import Derived.Test.YtmhemahkcbgaoaaGreatDoorKn12
import Derived.ArgAppend
/- What Apart leans on, in plain words: rows of bytes of the call's own, each in a block of its own. -/
namespace Go.Proofs.YtmhemahkcbgaoaaGreatDoor
open Go.RowKit
/-- a row: its block, its length, its room -/
abbrev R3 := Nat × Nat × Nat
def mk8 (i k : Nat) : UInt8 := UInt8.ofNat (i * 31 + k * 7 + 1)
def marksL (i n : Nat) : List UInt8 := (List.range n).map fun k => mk8 i k
theorem marksL_len (i n : Nat) : (marksL i n).length = n := by simp [marksL]
theorem marksL_next (i n : Nat) : marksL i (n + 1) = marksL i n ++ [mk8 i n] := by simp [marksL, List.range_succ]
theorem marksL_at (i n k : Nat) (h : k < n) : (marksL i n)[k]? = some (mk8 i k) := by simp [marksL, h]
def rowV (r : R3) : Value := .slice (some ⟨r.1, 0, none⟩) r.2.1 r.2.2
def Dist (rows : List R3) : Prop := ∀ (j j' : Nat) (r r' : R3), rows[j]? = some r → rows[j']? = some r' → r.1 = r'.1 → j = j'
/-- every row lies in a block of bytes; of the rows ahead of i all are marked, of row i the first k places -/
def Mkd (w : World) (rows : List R3) (i k : Nat) : Prop :=
  ∀ (j : Nat) (r : R3), rows[j]? = some r → r.2.1 ≤ r.2.2 ∧ r.2.2 ≤ maxLen ∧ ∃ cur : Array Value, w.heap[r.1]? = some (.cells cur 5 (0, 0)) ∧ cur.size = r.2.2 ∧ ∀ t, t < r.2.1 → (j < i ∨ (j = i ∧ t < k)) → cur[t]? = some (B8 (mk8 j t))
theorem Mkd.quiet {w w' : World} {rows : List R3} {i k : Nat} (h : Mkd w rows i k) (hq : w'.heap = w.heap) : Mkd w' rows i k := by
  unfold Mkd at h ⊢
  rw [hq]; exact h
theorem Mkd.nextRow {w : World} {rows : List R3} {i : Nat} {r : R3} (h : Mkd w rows i r.2.1) (hr : rows[i]? = some r) : Mkd w rows (i + 1) 0 := by
  intro j r' hj
  obtain ⟨h1, h2, cur, h3, h4, h5⟩ := h j r' hj
  refine ⟨h1, h2, cur, h3, h4, fun t ht hor => h5 t ht ?_⟩
  rcases hor with hor | hor
  · by_cases e : j = i
    · subst e
      rw [hr] at hj
      obtain rfl := Option.some.inj hj
      exact .inr ⟨rfl, ht⟩
    · exact .inl (by omega)
  · omega
theorem Mkd.mark {w : World} {rows : List R3} {i k : Nat} {r : R3} (h : Mkd w rows i k) (hd : Dist rows) (hr : rows[i]? = some r) (hk : k < r.2.1) : Mkd (w.setCell ⟨r.1, k, none⟩ (B8 (mk8 i k))) rows i (k + 1) := by
  intro j r' hj
  obtain ⟨h1, h2, cur, h3, h4, h5⟩ := h j r' hj
  by_cases e : r'.1 = r.1
  · obtain rfl := hd j i r' r hj hr e
    rw [hr] at hj
    obtain rfl := Option.some.inj hj
    refine ⟨h1, h2, cur.setIfInBounds k (B8 (mk8 j k)), ?_, by simpa using h4, fun t ht hor => ?_⟩
    · simp [World.setCell, Array.getElem?_modify, h3]
    · by_cases et : t = k
      · subst et
        exact Array.getElem?_setIfInBounds_self_of_lt (by omega)
      · rw [Array.getElem?_setIfInBounds_ne (Ne.symm et)]
        exact h5 t ht (by omega)
  · refine ⟨h1, h2, cur, ?_, h4, fun t ht hor => h5 t ht ?_⟩
    · rw [Below.heap_setCell _ _ _ _ e]; exact h3
    · rcases hor with hor | ⟨rfl, hor⟩
      · exact .inl hor
      · rw [hr] at hj; exact absurd (congrArg (·.1) (Option.some.inj hj)).symm e
theorem Mkd.cell {w : World} {rows : List R3} {i k : Nat} {r : R3} (h : Mkd w rows i k) {j : Nat} (hr : rows[j]? = some r) {t : Nat} (ht : t < r.2.1) : ∃ u, w.cell? ⟨r.1, t, none⟩ = some u ∧ w.frozen? ⟨r.1, t, none⟩ = false := by
  obtain ⟨h1, h2, cur, h3, h4, h5⟩ := h j r hr
  have hlt : t < cur.size := by omega
  refine ⟨cur[t], ?_, ?_⟩
  · simp [World.cell?, h3]
  · simp [World.frozen?, h3]
theorem Mkd.marked {w : World} {rows : List R3} {i k : Nat} {r : R3} (h : Mkd w rows i k) {j : Nat} (hr : rows[j]? = some r) {t : Nat} (ht : t < r.2.1) (hj : j < i) : w.cell? ⟨r.1, t, none⟩ = some (B8 (mk8 j t)) := by
  obtain ⟨h1, h2, cur, h3, h4, h5⟩ := h j r hr
  have := h5 t ht (.inl hj)
  simp [World.cell?, h3, this]
/-- a row that is marked whole, as append wants it -/
theorem Mkd.own {w : World} {rows : List R3} {i k B : Nat} {r : R3} (h : Mkd w rows i k) {j : Nat} (hr : rows[j]? = some r) (hj : j < i) (hB : B ≤ r.1) : w.ownsRow B 5 1 (rowV r) r.2.1 ((marksL j r.2.1).map B8) := by
  obtain ⟨h1, h2, cur, h3, h4, h5⟩ := h j r hr
  refine ⟨by simp [marksL], .inr ⟨r.1, r.2.2, cur, rfl, hB, h3, h1, h2, by omega, ?_⟩⟩
  rw [Nat.mul_one]
  apply List.ext_getElem?
  intro t
  rw [List.getElem?_take, List.getElem?_map]
  split
  · rename_i ht
    rw [marksL_at j _ t ht, Array.getElem?_toList, h5 t ht (.inl hj)]; rfl
  · rename_i ht
    rw [List.getElem?_eq_none (by rw [marksL_len]; omega)]; rfl
/-- a row grown: the block b that was turned is none of the rows', or it is row i's and keeps its first places -/
theorem Mkd.grown {w w' : World} {rows : List R3} {i k : Nat} (h : Mkd w rows i k) {row : Option Nat} (hg : w.grownBy w' row) (hrow : ∀ b, row = some b → ∀ (j : Nat) (r : R3), rows[j]? = some r → r.1 = b → ∃ cur : Array Value, w'.heap[b]? = some (.cells cur 5 (0, 0)) ∧ cur.size = r.2.2 ∧ ∀ t, t < r.2.1 → cur[t]? = some (B8 (mk8 j t))) : Mkd w' rows i k := by
  intro j r hj
  obtain ⟨h1, h2, cur, h3, h4, h5⟩ := h j r hj
  refine ⟨h1, h2, ?_⟩
  by_cases e : some r.1 = row
  · obtain ⟨cur', a1, a2, a3⟩ := hrow r.1 e.symm j r hj rfl
    exact ⟨cur', a1, a2, fun t ht _ => a3 t ht⟩
  · exact ⟨cur, (hg.block r.1 (Array.getElem?_eq_some_iff.1 h3).1 e).trans h3, h4, h5⟩
/-- an owned row's block, opened -/
theorem own_cells {w : World} {B : Nat} {e : TypeId} {g n c : Nat} {xs : List Value} (h : w.ownsRow B e 1 (.slice (some ⟨g, 0, none⟩) n c) n xs) : ∃ cur : Array Value, w.heap[g]? = some (.cells cur e (0, 0)) ∧ cur.size = c ∧ ∀ t, t < n → cur[t]? = xs[t]? := by
  rcases h.2 with ⟨h, _⟩ | ⟨g', cap, cur, hv, hb, hg, hnc, hcm, hs, ht⟩
  · cases h
  · cases hv
    refine ⟨cur, hg, by omega, fun t htn => ?_⟩
    rw [← ht, List.getElem?_take, if_pos (by omega), Array.getElem?_toList]
theorem Mkd.block {w : World} {rows : List R3} {i k : Nat} (h : Mkd w rows i k) {j : Nat} {r : R3} (hr : rows[j]? = some r) : ∃ cur : Array Value, w.heap[r.1]? = some (.cells cur 5 (0, 0)) := by
  obtain ⟨_, _, cur, h3, _⟩ := h j r hr
  exact ⟨cur, h3⟩
theorem own_keep_ty {w w' : World} {row : Option Nat} {B : Nat} {e : TypeId} {v : Value} {n : Nat} {xs : List Value} (h : w.ownsRow B e 1 v n xs) (hg : w.grownBy w' row) (hne : ∀ b, row = some b → ∃ (cur : Array Value) (e' : TypeId) (fr : Nat × Nat), w.heap[b]? = some (.cells cur e' fr) ∧ e' ≠ e) : w'.ownsRow B e 1 v n xs := by
  refine h.kept hg ?_
  rcases h.2 with ⟨rfl, _⟩ | ⟨g, cap, cur, rfl, _, hgr, _⟩
  · exact .inl rfl
  · refine .inr fun e' => ?_
    have e' : some g = row := e'
    obtain ⟨cur', t', fr, h1, h2⟩ := hne g e'.symm
    rw [hgr] at h1
    cases h1
    exact h2 rfl
/-- all that Apart holds while it grows its rows -/
structure Apt (B B0 B2 : Nat) (w0 : World) (rows : List R3) (a : Option Addr) (m ca : Nat) (vg : Value) (bl : List R3) (W : World) : Prop where
  out : W.ownsRow B0 25 1 (.slice a m ca) m (rows.map rowV)
  mkd : Mkd W rows m 0
  bel : Below B w0 W
  grown : W.ownsRow B2 25 1 vg bl.length (bl.map rowV)
  each : ∀ (j : Nat) (r' : R3), bl[j]? = some r' → ∃ r : R3, rows[j]? = some r ∧ r'.2.1 = r.2.1 + 70 ∧ W.ownsRow B 5 1 (rowV r') r'.2.1 ((marksL j r'.2.1).map B8)
theorem Apt.step {B B0 B2 : Nat} {w0 : World} {rows : List R3} {a : Option Addr} {m ca : Nat} {vg : Value} {bl : List R3} {W W' : World} (h : Apt B B0 B2 w0 rows a m ca vg bl W) {row : Option Nat} (hg : W.grownBy W' row) (hB : B ≤ W.heap.size)
    (hrow : ∀ b, row = some b → B ≤ b ∧ (∃ (cur : Array Value) (fr : Nat × Nat), W.heap[b]? = some (.cells cur 5 fr)) ∧ (∀ (j : Nat) (r' : R3), bl[j]? = some r' → r'.1 ≠ b) ∧
      (∀ (j : Nat) (r : R3), rows[j]? = some r → r.1 = b → ∃ cur : Array Value, W'.heap[b]? = some (.cells cur 5 (0, 0)) ∧ cur.size = r.2.2 ∧ ∀ t, t < r.2.1 → cur[t]? = some (B8 (mk8 j t)))) : Apt B B0 B2 w0 rows a m ca vg bl W' := by
  have ty : ∀ b, row = some b → ∃ (cur : Array Value) (e' : TypeId) (fr : Nat × Nat), W.heap[b]? = some (.cells cur e' fr) ∧ e' ≠ 25 := fun b hb => by
    obtain ⟨cur, fr, h1⟩ := (hrow b hb).2.1
    exact ⟨cur, _, fr, h1, by decide⟩
  refine ⟨own_keep_ty h.out hg ty, h.mkd.grown hg (fun b hb => (hrow b hb).2.2.2), h.bel.grown hg hB (fun b hb => (hrow b hb).1), own_keep_ty h.grown hg ty, fun j r' hj => ?_⟩
  obtain ⟨r, h1, h2, h3⟩ := h.each j r' hj
  refine ⟨r, h1, h2, h3.kept hg (.inr fun e => ?_)⟩
  have e : some r'.1 = row := e
  exact (hrow r'.1 e.symm).2.2.1 j r' hj rfl
/-- a grown row is kept in the list of grown rows -/
theorem Apt.push {B B0 B2 : Nat} {w0 : World} {rows : List R3} {a : Option Addr} {m ca : Nat} {vg vg' : Value} {bl : List R3} {W W' : World} {o : Obj} (h : Apt B B0 B2 w0 rows a m ca vg bl W) {r r' : R3} (hr : rows[bl.length]? = some r) (hn : r'.2.1 = r.2.1 + 70) (hB2 : B ≤ B2)
    (hown : W.ownsRow B 5 1 (rowV r') r'.2.1 ((marksL bl.length r'.2.1).map B8)) (hg : (W.alloc o).grownBy W' vg.ownBlock) (hob : ∀ b, (Value.slice a m ca).ownBlock = some b → b < B2) (hB : B2 ≤ W.heap.size)
    (hnew : W'.ownsRow B2 25 1 vg' (bl.length + 1) (bl.map rowV ++ [rowV r'])) : Apt B B0 B2 w0 rows a m ca vg' (bl ++ [r']) W' := by
  have hg' := grown_alloc_then hg
  have ty : ∀ b, vg.ownBlock = some b → ∃ (cur : Array Value) (e' : TypeId) (fr : Nat × Nat), W.heap[b]? = some (.cells cur e' fr) ∧ e' ≠ 5 := fun b hb => by
    rcases h.grown.2 with ⟨hv, _⟩ | ⟨g, cap, cur, hv, _, hgr, _⟩
    · rw [hv] at hb; cases hb
    · rw [hv] at hb
      obtain rfl : g = b := by simpa [Value.ownBlock] using hb
      exact ⟨cur, _, _, hgr, by decide⟩
  have hv2 : ∀ b, vg.ownBlock = some b → B2 ≤ b := fun b hb => (h.grown.lt b hb).1
  refine ⟨h.out.kept hg' ?_, h.mkd.grown hg' (fun b hb j r hj e => ?_), h.bel.grown hg' (by omega) (fun b hb => by have := hv2 b hb; omega), by simpa using hnew, fun j r'' hj => ?_⟩
  · cases ho : (Value.slice a m ca).ownBlock with
    | none => exact .inl rfl
    | some b => exact .inr fun e => by have := hob b ho; have := hv2 b e.symm; omega
  · exfalso
    obtain ⟨cur, e', fr, h1, h2⟩ := ty b hb
    obtain ⟨cur', h3⟩ := h.mkd.block hj
    rw [e, h1] at h3
    cases h3
    exact h2 rfl
  · by_cases hlt : j < bl.length
    · rw [List.getElem?_append_left hlt] at hj
      obtain ⟨r0, h1, h2, h3⟩ := h.each j r'' hj
      exact ⟨r0, h1, h2, own_keep_ty h3 hg' ty⟩
    · have hj' := hj
      rw [List.getElem?_append_right (by omega)] at hj
      have e0 : j - bl.length = 0 := by
        have := (List.getElem?_eq_some_iff.1 hj).1
        simp at this
        omega
      rw [e0] at hj
      simp at hj
      subst hj
      obtain rfl : j = bl.length := by omega
      exact ⟨r, hr, hn, own_keep_ty hown hg' ty⟩
end Go.Proofs.YtmhemahkcbgaoaaGreatDoor
/- append that says whether the row stayed; lists of slices of bytes of the call's own. -/
namespace Go.Proofs.YtmhemahkcbgaoaaGreatDoor
open Go.RowKit
theorem wpList_append_sep {P : Program} {w : World} {ops : Array Oper} {rest : List Oper} {o : Oper} {a : Act} {Q : Exit → Act → World → Prop} (hgd : o.guard = none) (s x : Operand) (t : TypeId)
    (ho : o.op = .call { callee := .builtin .append, args := #[s, x], argTypes := #[t, t] })
    (base : Nat) (e : TypeId) (i : TypeInfo) (z : Value) (size bytes : Nat) (ht : P.underlying t = some (.slice e)) (hi : P.info? e = some i) (hz : i.zero = some z)
    (hsize : i.size = size) (hby : i.bytes = bytes) (hzs : z.cells.size = size) (hsz : 0 < size)
    (ao : Option Addr) (n cap : Nat) (xs : List Value) (hs : a.eval s = .slice ao n cap) (hown : w.ownsRow base e size (.slice ao n cap) n xs)
    (ad : Addr) (m c : Nat) (news : List Value) (hx : a.eval x = .slice (some ad) m c) (hl : news.length = m * size) (hnews : ∀ j u, news[j]? = some u → w.cell? (ad.add j) = some u) (h1 : ∀ u ∈ news, u.oneCell' = true)
    (h63 : n + m ≤ maxLen) (hbytes : (n + m) * bytes ≤ 140737488355328) (hbase : base ≤ w.heap.size)
    (h : ∀ v' w', w'.ownsRow base e size v' (n + m) (xs ++ news) → w.grownBy w' (Value.slice ao n cap).ownBlock → (v'.ownBlock = (Value.slice ao n cap).ownBlock ∨ ∀ b, v'.ownBlock = some b → w.heap.size ≤ b) → wpList P ops Q rest (a.put o.dst v') w') : wpList P ops Q (o :: rest) a w := by
  have hxl := hown.1
  by_cases hroom : n + m ≤ cap ∧ ao ≠ none
  · obtain ⟨hroom, hne⟩ := hroom
    rcases hown.2 with ⟨hv, _⟩ | ⟨g, cap', cur, hv, _⟩
    · cases hv; exact absurd rfl hne
    · cases hv
      exact wpList_append_fits w hgd s x t ho base e i size ht hi hsize g n cap xs hs hown ad m c news hx hl hnews h1 hroom (fun w' r1 r2 => h _ w' r1 r2 (.inl rfl))
  · by_cases hnone : ao = none
    · subst hnone
      rcases hown.2 with ⟨hv, _⟩ | ⟨g, cap', cur, hv, _⟩
      · cases hv
        obtain rfl : xs = [] := List.eq_nil_of_length_eq_zero (by simpa using hxl)
        by_cases hm : m = 0
        · subst hm
          obtain rfl : news = [] := List.eq_nil_of_length_eq_zero (by simpa using hl)
          refine wpList_append_own w hgd s x t ho base e i z size bytes ht hi hz hsize hby hzs hsz _ _ _ hs hown ad 0 c [] hx hl hnews h1 h63 hbytes hbase (fun v' w' r1 r2 r3 => h v' w' r1 r2 (.inl ?_))
          rw [r3.2 ⟨rfl, rfl⟩]
        · refine wpList_append_grows w hgd s x t ho e i z size bytes ht hi hz hsize hby hzs hsz none 0 0 [] hs (fun _ => ⟨rfl, rfl⟩) (by simp) (fun b hb => by cases hb) ad m c news hx hl hnews h1 (by omega) h63 hbytes (fun v' w' r1 r2 => h v' w' (by
            exact own_mono_size r1 hbase) r2 (.inr fun b hb => (r1.lt b hb).1))
      · cases hv
    · have hlt : cap < n + m := by
        rcases Nat.lt_or_ge cap (n + m) with h | h
        · exact h
        · exact absurd ⟨h, hnone⟩ hroom
      refine wpList_append_grows w hgd s x t ho e i z size bytes ht hi hz hsize hby hzs hsz ao n cap xs hs (fun h => absurd h hnone) hxl (fun b hb j u hu => ?_) ad m c news hx hl hnews h1 hlt h63 hbytes (fun v' w' r1 r2 => h v' w' (own_mono_size r1 hbase) ?_ (.inr fun b hb => (r1.lt b hb).1))
      · subst hb
        rcases hown.2 with ⟨hv, _⟩ | ⟨g, cap', cur, hv, _⟩
        · cases hv
        · cases hv
          exact hown.cells rfl j u hu
      · exact ⟨r2.os, r2.tape, r2.output, r2.size, fun k hk _ => r2.block k hk (by simp)⟩
/-- a list of slices of bytes, all of the call's own -/
structure RowsOwn (B : Nat) (W : World) (vg : Value) (vals : List Value) (cl : List (List UInt8)) : Prop where
  own : W.ownsRow B 25 1 vg vals.length vals
  len : vals.length = cl.length
  each : ∀ (j : Nat) (v : Value) (l : List UInt8), vals[j]? = some v → cl[j]? = some l → W.ownsRow B 5 1 v l.length (l.map B8)
theorem RowsOwn.nil (B : Nat) (W : World) : RowsOwn B W (.slice none 0 0) [] [] := ⟨World.ownsRow_nil _ _ _ _, rfl, fun j v l h => by cases h⟩
theorem RowsOwn.keep {B : Nat} {W W' : World} {vg : Value} {vals : List Value} {cl : List (List UInt8)} (h : RowsOwn B W vg vals cl) {row : Option Nat} (hg : W.grownBy W' row)
    (hr : ∀ b, row = some b → vg.ownBlock ≠ some b ∧ ∃ (cur : Array Value) (fr : Nat × Nat), W.heap[b]? = some (.cells cur 25 fr)) : RowsOwn B W' vg vals cl := by
  refine ⟨h.own.kept hg ?_, h.len, fun j v l h1 h2 => own_keep_ty (h.each j v l h1 h2) hg (fun b hb => ?_)⟩
  · cases hv : vg.ownBlock with
    | none => exact .inl rfl
    | some b => exact .inr fun e => (hr b e.symm).1 hv
  · obtain ⟨_, cur, fr, h1⟩ := hr b hb
    exact ⟨cur, _, fr, h1, by decide⟩
theorem RowsOwn.keepNone {B : Nat} {W W' : World} {vg : Value} {vals : List Value} {cl : List (List UInt8)} (h : RowsOwn B W vg vals cl) (hg : W.grownBy W' none) : RowsOwn B W' vg vals cl := h.keep hg (fun b hb => by cases hb)
theorem RowsOwn.reads {B : Nat} {W : World} {vg : Value} {vals : List Value} {cl : List (List UInt8)} (h : RowsOwn B W vg vals cl) : ∃ a c, vg = .slice a cl.length c ∧ ReadsRows W a cl.length cl ∧ cl.length ≤ c ∧ c ≤ maxLen := by
  obtain ⟨a, c, hv, hr, h1, h2⟩ := reads_of_own h.own
  rw [h.len] at hv hr h1
  exact ⟨a, c, hv, ⟨vals, hr, rfl, fun i v l h3 h4 => sliceOf_own (h.each i v l h3 h4)⟩, h1, h2⟩
theorem own_block_ty {W : World} {B : Nat} {e : TypeId} {v : Value} {n : Nat} {xs : List Value} (h : W.ownsRow B e 1 v n xs) {b : Nat} (hb : v.ownBlock = some b) : ∃ (cur : Array Value) (fr : Nat × Nat), W.heap[b]? = some (.cells cur e fr) := by
  rcases h.2 with ⟨rfl, _⟩ | ⟨g, cap, cur, rfl, _, hgr, _⟩
  · cases hb
  · obtain rfl : g = b := by simpa [Value.ownBlock] using hb
    exact ⟨cur, _, hgr⟩
/-- values put behind such a list -/
theorem RowsOwn.push {B : Nat} {W W' : World} {vg vg' : Value} {vals news : List Value} {cl cn : List (List UInt8)} {o : Obj} (h : RowsOwn B W vg vals cl) (hg : (W.alloc o).grownBy W' vg.ownBlock) (hnew : W'.ownsRow B 25 1 vg' (vals.length + news.length) (vals ++ news)) (hl : news.length = cn.length)
    (hn : ∀ (j : Nat) (v : Value) (l : List UInt8), news[j]? = some v → cn[j]? = some l → W.ownsRow B 5 1 v l.length (l.map B8)) : RowsOwn B W' vg' (vals ++ news) (cl ++ cn) := by
  have hg' := grown_alloc_then hg
  have ty : ∀ b, vg.ownBlock = some b → ∃ (cur : Array Value) (e' : TypeId) (fr : Nat × Nat), W.heap[b]? = some (.cells cur e' fr) ∧ e' ≠ 5 := fun b hb => by
    obtain ⟨cur, fr, h1⟩ := own_block_ty h.own hb
    exact ⟨cur, _, fr, h1, by decide⟩
  refine ⟨by rw [List.length_append]; exact hnew, by rw [List.length_append, List.length_append, h.len, hl], fun j v l h1 h2 => ?_⟩
  by_cases hj : j < vals.length
  · rw [List.getElem?_append_left hj] at h1
    rw [List.getElem?_append_left (by rw [← h.len]; exact hj)] at h2
    exact own_keep_ty (h.each j v l h1 h2) hg' ty
  · rw [List.getElem?_append_right (by omega)] at h1
    rw [List.getElem?_append_right (by rw [← h.len]; omega), ← h.len] at h2
    exact own_keep_ty (hn _ v l h1 h2) hg' ty
theorem own_unique {w : World} {B B' : Nat} {e : TypeId} {size : Nat} {v : Value} {n : Nat} {xs xs' : List Value} (h : w.ownsRow B e size v n xs) (h' : w.ownsRow B' e size v n xs') : xs = xs' := by
  have l1 := h.1
  have l2 := h'.1
  rcases h.2 with ⟨rfl, rfl⟩ | ⟨g, c, cur, rfl, _, hg, _, _, _, ht⟩
  · have hx : xs = [] := List.eq_nil_of_length_eq_zero (l1.trans (Nat.zero_mul _))
    have hx' : xs' = [] := List.eq_nil_of_length_eq_zero (l2.trans (Nat.zero_mul _))
    rw [hx, hx']
  · rcases h'.2 with ⟨hv, _⟩ | ⟨g', c', cur', hv, _, hg', _, _, _, ht'⟩
    · cases hv
    · cases hv
      rw [hg] at hg'
      cases hg'
      rw [← ht, ← ht']
theorem own_pos {w : World} {B : Nat} {e : TypeId} {size : Nat} {v : Value} {n : Nat} {xs : List Value} (h : w.ownsRow B e size v n xs) (hn : 0 < n) : ∃ g c, v = .slice (some ⟨g, 0, none⟩) n c := by
  rcases h.2 with ⟨_, h0⟩ | ⟨g, c, cur, hv, _⟩
  · omega
  · exact ⟨g, c, hv⟩

end Go.Proofs.YtmhemahkcbgaoaaGreatDoor
/- The plain law of the quoted form: all bytes come back. -/
namespace Go.Proofs.YtmhemahkcbgaoaaGreatDoor
set_option linter.unusedVariables false
set_option linter.unusedSimpArgs false
open Go.Lib
theorem decodeN_local (n n' b0 b1 b2 b3 c1 c2 c3 : Nat) (hR : RightD (decodeN n b0 b1 b2 b3)) (hn' : (decodeN n b0 b1 b2 b3).2 ≤ n') (e1 : 1 < (decodeN n b0 b1 b2 b3).2 → c1 = b1) (e2 : 2 < (decodeN n b0 b1 b2 b3).2 → c2 = b2) (e3 : 3 < (decodeN n b0 b1 b2 b3).2 → c3 = b3) :
    decodeN n' b0 c1 c2 c3 = decodeN n b0 b1 b2 b3 := by
  unfold RightD at hR
  rcases decodeN_shape n b0 b1 b2 b3 with ⟨h, e⟩ | ⟨h0, h1, h2, h3, e⟩ | ⟨h0, h1, h2, h3, h4, h5, e⟩ | ⟨h0, h1, h2, h3, h4, h5, h6, e⟩ | e
  · rw [e]; exact decodeN_ascii _ _ _ _ _ h
  · rw [e] at hn' e1 ⊢
    obtain rfl := e1 (by dsimp only; omega)
    dsimp only at hn'
    unfold decodeN
    rw [if_neg (by omega), if_pos ⟨h0, by omega, h2⟩, if_pos (by omega)]
  · rw [e] at hn' e1 e2 ⊢
    obtain rfl := e1 (by dsimp only; omega)
    obtain rfl := e2 (by dsimp only; omega)
    dsimp only at hn'
    unfold decodeN
    rw [if_neg (by omega), if_neg (by omega), if_pos ⟨h0, ⟨by omega, h2⟩, by omega, h3⟩, if_pos ⟨by omega, by omega⟩]
  · rw [e] at hn' e1 e2 e3 ⊢
    obtain rfl := e1 (by dsimp only; omega)
    obtain rfl := e2 (by dsimp only; omega)
    obtain rfl := e3 (by dsimp only; omega)
    dsimp only at hn'
    unfold decodeN
    rw [if_neg (by omega), if_neg (by omega), if_neg (by omega), if_pos ⟨h0, ⟨by omega, h2⟩, ⟨by omega, h3⟩, by omega, h4⟩, if_pos ⟨by omega, by omega⟩]
  · rw [e] at hR; simp at hR
theorem getD_take {l r : List UInt8} {k j : Nat} (hj : j < k) (hk : k ≤ l.length) : (l.take k ++ r).getD j 0 = l.getD j 0 := by
  rw [List.getD_eq_getElem?_getD, List.getD_eq_getElem?_getD, List.getElem?_append_left (by rw [List.length_take]; omega), List.getElem?_take, if_pos hj]
/-- a right character is told by its own bytes -/
theorem decode_local {D : List UInt8} (r : List UInt8) (hD : D ≠ []) (hR : RightD (decodeL D)) : decodeL (D.take (decodeL D).2 ++ r) = decodeL D := by
  have hw := dec_width hD
  have h1 := dec_width_one (l := D)
  have h0 : (D.take (decodeL D).2 ++ r).getD 0 0 = D.getD 0 0 := getD_take (by omega) hw
  have hl : (decodeL D).2 ≤ (D.take (decodeL D).2 ++ r).length := by rw [List.length_append, List.length_take]; omega
  obtain ⟨E, hE⟩ : ∃ E, D.take (decodeL D).2 ++ r = E := ⟨_, rfl⟩
  have key : ∀ j, j < (decodeL D).2 → (E.getD j 0).toNat = (D.getD j 0).toNat := fun j hj => by rw [← hE, getD_take hj hw]
  rw [hE] at h0 hl ⊢
  have e := decodeL_N D
  rw [decodeL_N E, e, h0]
  rw [e] at hR hl key
  exact decodeN_local _ _ _ _ _ _ _ _ _ hR hl (fun h => key 1 h) (fun h => key 2 h) (fun h => key 3 h)
theorem drop_pre (pre E : List UInt8) : (pre ++ E).drop pre.length = E := List.drop_left
theorem getD_pre (pre E : List UInt8) : (pre ++ E).getD pre.length 0 = E.getD 0 0 := by
  rw [List.getD_eq_getElem?_getD, List.getD_eq_getElem?_getD, List.getElem?_append_right (Nat.le_refl _), Nat.sub_self]
theorem digit_hexc : ∀ a : Fin 16, digit16 (hexc a.val) = a.val := by decide +kernel
theorem take_one {D : List UInt8} (hD : D ≠ []) : D.take 1 = [D.getD 0 0] := by
  cases D with
  | nil => exact absurd rfl hD
  | cons x D => rfl
theorem idx5 (r : List UInt8) : indexByte (92 :: 117 :: 123 :: 56 :: 53 :: 125 :: r) 125 = 5 := by simp [indexByte]
theorem idx7a (r : List UInt8) : indexByte (92 :: 117 :: 123 :: 50 :: 48 :: 50 :: 56 :: 125 :: r) 125 = 7 := by simp [indexByte]
theorem idx7b (r : List UInt8) : indexByte (92 :: 117 :: 123 :: 50 :: 48 :: 50 :: 57 :: 125 :: r) 125 = 7 := by simp [indexByte]
theorem esc_braced (r : List UInt8) (R : Nat) (hR : R = 133 ∨ R = 8232 ∨ R = 8233) : escOf ([92, 117, 123] ++ hexOf R ++ [125] ++ r) = (encodeRune (R : Int), 4 + (hexOf R).length) := by
  rcases hR with rfl | rfl | rfl
  · have e : [92, 117, 123] ++ hexOf 133 ++ [125] ++ r = 92 :: 117 :: 123 :: 56 :: 53 :: 125 :: r := rfl
    rw [e]
    unfold escOf
    simp only [List.length_cons, List.getD_cons_succ, List.getD_cons_zero]
    rw [if_neg (by omega), if_neg (by decide), if_neg (by decide), if_neg (by decide), if_neg (by decide), if_neg (by decide), if_pos (by decide)]
    unfold bracedOf
    rw [idx5]
    simp only [List.length_cons, List.getD_cons_succ, List.getD_cons_zero]
    rw [if_neg (by simp)]
    rfl
  · have e : [92, 117, 123] ++ hexOf 8232 ++ [125] ++ r = 92 :: 117 :: 123 :: 50 :: 48 :: 50 :: 56 :: 125 :: r := rfl
    rw [e]
    unfold escOf
    simp only [List.length_cons, List.getD_cons_succ, List.getD_cons_zero]
    rw [if_neg (by omega), if_neg (by decide), if_neg (by decide), if_neg (by decide), if_neg (by decide), if_neg (by decide), if_pos (by decide)]
    unfold bracedOf
    rw [idx7a]
    simp only [List.length_cons, List.getD_cons_succ, List.getD_cons_zero]
    rw [if_neg (by simp)]
    rfl
  · have e : [92, 117, 123] ++ hexOf 8233 ++ [125] ++ r = 92 :: 117 :: 123 :: 50 :: 48 :: 50 :: 57 :: 125 :: r := rfl
    rw [e]
    unfold escOf
    simp only [List.length_cons, List.getD_cons_succ, List.getD_cons_zero]
    rw [if_neg (by omega), if_neg (by decide), if_neg (by decide), if_neg (by decide), if_neg (by decide), if_neg (by decide), if_pos (by decide)]
    unfold bracedOf
    rw [idx7b]
    simp only [List.length_cons, List.getD_cons_succ, List.getD_cons_zero]
    rw [if_neg (by simp)]
    rfl
/-- what a character's quoted form is read as -/
theorem qpiece_case (D r : List UInt8) (hD : D ≠ []) :
    ((qpiece D).getD 0 0 = 92 ∧ (qpiece D ++ r).getD 0 0 = 92 ∧ escOf (qpiece D ++ r) = (D.take (decodeL D).2, (qpiece D).length) ∧ 0 < (qpiece D).length) ∨
    (qpiece D = D.take (decodeL D).2 ∧ RightD (decodeL D) ∧ PlainN (decodeL D).1) := by
  have hx := fun h => dec_fst_byte (l := D) hD h
  have t1 := take_one hD
  unfold qpiece
  by_cases c1 : (decodeL D).1 = 34 ∨ (decodeL D).1 = 92
  · rw [if_pos c1]
    obtain ⟨hw, hb⟩ := hx (by omega)
    left
    refine ⟨rfl, rfl, ?_, by simp⟩
    have hc : D.getD 0 0 = 34 ∨ D.getD 0 0 = 92 := by
      rcases c1 with c | c
      · exact .inl (UInt8.toNat_inj.1 (by rw [hb, c]; rfl))
      · exact .inr (UInt8.toNat_inj.1 (by rw [hb, c]; rfl))
    rw [hw, t1]
    unfold escOf
    simp only [List.cons_append, List.nil_append, List.length_cons, List.getD_cons_succ, List.getD_cons_zero]
    rw [if_neg (by omega), if_pos hc]
    rfl
  rw [if_neg c1]
  have simpleEsc : ∀ (v : Nat) (k x : UInt8), (decodeL D).1 = v → v < 128 → UInt8.ofNat v = x → x.toNat = v → (escOf ([92, k] ++ r) = ([x], 2)) → ((([92, k] : List UInt8)).getD 0 0 = 92 ∧ (([92, k] : List UInt8) ++ r).getD 0 0 = 92 ∧ escOf ([92, k] ++ r) = (D.take (decodeL D).2, ([92, k] : List UInt8).length) ∧ 0 < ([92, k] : List UInt8).length) := by
    intro v k x hv hlt _ hxv he
    obtain ⟨hw, hb⟩ := hx (by omega)
    refine ⟨rfl, rfl, ?_, by simp⟩
    rw [he, hw, t1]
    have : D.getD 0 0 = x := UInt8.toNat_inj.1 (by rw [hb, hv, hxv])
    rw [this]
    rfl
  by_cases c2 : (decodeL D).1 = 10
  · rw [if_pos c2]; exact .inl (simpleEsc 10 110 10 c2 (by omega) rfl rfl (by unfold escOf; simp))
  rw [if_neg c2]
  by_cases c3 : (decodeL D).1 = 13
  · rw [if_pos c3]; exact .inl (simpleEsc 13 114 13 c3 (by omega) rfl rfl (by unfold escOf; simp))
  rw [if_neg c3]
  by_cases c4 : (decodeL D).1 = 9
  · rw [if_pos c4]; exact .inl (simpleEsc 9 116 9 c4 (by omega) rfl rfl (by unfold escOf; simp))
  rw [if_neg c4]
  by_cases c5 : ¬ RightD (decodeL D) ∨ (decodeL D).1 < 32 ∨ (decodeL D).1 = 127
  · rw [if_pos c5]
    have hw : (decodeL D).2 = 1 := by
      rcases c5 with c | c | c
      · have := dec_width_one (l := D)
        unfold RightD at c
        omega
      · exact (hx (by omega)).1
      · exact (hx (by omega)).1
    left
    refine ⟨rfl, rfl, ?_, by simp⟩
    rw [hw, t1]
    obtain ⟨x, hxx⟩ : ∃ x, D.getD 0 0 = x := ⟨_, rfl⟩
    rw [hxx]
    have hlt := x.toNat_lt
    have d1 : digit16 (hexc (x.toNat / 16)) = x.toNat / 16 := digit_hexc ⟨x.toNat / 16, by omega⟩
    have d2 : digit16 (hexc (x.toNat % 16)) = x.toNat % 16 := digit_hexc ⟨x.toNat % 16, by omega⟩
    unfold escOf
    simp only [List.cons_append, List.nil_append, List.length_cons, List.getD_cons_succ, List.getD_cons_zero]
    rw [if_neg (by omega), if_neg (by decide), if_neg (by decide), if_neg (by decide), if_neg (by decide), if_pos (by decide), d1, d2, if_neg (by omega)]
    have : UInt8.ofNat (16 * (x.toNat / 16) + x.toNat % 16) = x := by
      rw [show 16 * (x.toNat / 16) + x.toNat % 16 = x.toNat by omega]
      exact UInt8.ofNat_toNat
    rw [this]
    rfl
  rw [if_neg c5]
  have hRt : RightD (decodeL D) := Classical.not_not.1 fun h => c5 (.inl h)
  by_cases c6 : ¬ PlainN (decodeL D).1
  · rw [if_pos c6]
    have hr : (decodeL D).1 = 133 ∨ (decodeL D).1 = 8232 ∨ (decodeL D).1 = 8233 := by
      unfold PlainN at c6
      omega
    left
    have he := esc_braced r (decodeL D).1 hr
    refine ⟨rfl, rfl, ?_, by simp⟩
    rw [he, encode_decode D hD (by unfold RightD at hRt; omega)]
    simp
    omega
  · rw [if_neg c6]
    exact .inr ⟨rfl, hRt, Classical.not_not.1 c6⟩
/-- a character's quoted form is read as one step -/
theorem unq_step (pre D r acc : List UInt8) (g : Nat) (hD : D ≠ []) : unq (pre ++ (qpiece D ++ r)) (g + 1) pre.length acc = unq (pre ++ (qpiece D ++ r)) g (pre.length + (qpiece D).length) (acc ++ D.take (decodeL D).2) ∧ 0 < (qpiece D).length := by
  have hq : 0 < (qpiece D).length := by
    rcases qpiece_case D r hD with ⟨_, _, _, h⟩ | ⟨h, _⟩
    · exact h
    · rw [h, List.length_take]
      have := dec_width hD
      have := dec_width_one (l := D)
      omega
  refine ⟨?_, hq⟩
  rw [unq, if_neg (by simp only [List.length_append]; omega), drop_pre, getD_pre]
  rcases qpiece_case D r hD with ⟨_, h1, h2, h3⟩ | ⟨h1, h2, h3⟩
  · rw [h1, if_neg (by decide), if_pos rfl, h2, if_neg (by dsimp only; omega)]
  · have hb : (qpiece D ++ r).getD 0 0 = D.getD 0 0 := by
      rw [h1]
      exact getD_take (by have := dec_width_one (l := D); omega) (dec_width hD)
    have n34 : D.getD 0 0 ≠ 34 := fun e => by
      have := dec_low (l := D) (by rw [e]; decide)
      rw [this, e] at h3
      exact absurd h3 (by decide)
    have n92 : D.getD 0 0 ≠ 92 := fun e => by
      have := dec_low (l := D) (by rw [e]; decide)
      rw [this, e] at h3
      exact absurd h3 (by decide)
    rw [hb, if_neg n34, if_neg n92, h1, decode_local r hD h2, if_pos ⟨h2, h3⟩]
    have hl : (D.take (decodeL D).2).length = (decodeL D).2 := by rw [List.length_take]; have := dec_width hD; omega
    rw [hl]
    congr 2
    rw [List.take_append_of_le_length (by omega), List.take_take, Nat.min_self]
/-- THERE AND BACK, at any place of a longer text -/
theorem unq_quo (s r : List UInt8) : ∀ (f i : Nat) (pre acc : List UInt8) (g : Nat), s.length < i + f → i ≤ s.length → (quo s f i).length < g →
    unq (pre ++ (quo s f i ++ 34 :: r)) g pre.length acc = (acc ++ s.drop i, pre.length + (quo s f i).length + 1, true)
  | 0, i, pre, acc, g, h1, h2, _ => by omega
  | f + 1, i, pre, acc, g, h1, h2, hg => by
    obtain ⟨g, rfl⟩ : ∃ k, g = k + 1 := ⟨g - 1, by omega⟩
    rw [quo] at hg ⊢
    by_cases hi : s.length ≤ i
    · rw [if_pos hi, List.nil_append]
      rw [unq, if_neg (by simp only [List.length_append, List.length_cons]; omega), getD_pre]
      have : s.drop i = [] := List.drop_eq_nil_of_le hi
      rw [this, List.append_nil]
      rfl
    rw [if_neg hi] at hg ⊢
    have hne : s.drop i ≠ [] := by intro e; have := congrArg List.length e; simp at this; omega
    have hw := dec_width hne
    rw [List.length_drop] at hw
    rw [List.append_assoc]
    obtain ⟨e, hq⟩ := unq_step pre (s.drop i) (quo s f (i + (decodeL (s.drop i)).2) ++ 34 :: r) acc g hne
    rw [e, ← List.append_assoc pre, ← List.length_append]
    rw [List.length_append] at hg
    have h1w := dec_width_one (l := s.drop i)
    rw [unq_quo s r f _ (pre ++ qpiece (s.drop i)) _ g (by omega) (by omega) (by omega)]
    rw [List.append_assoc acc]
    have hd : List.take (decodeL (s.drop i)).2 (s.drop i) ++ s.drop (i + (decodeL (s.drop i)).2) = s.drop i := by
      rw [← List.drop_drop, List.take_append_drop]
    rw [hd, List.length_append, List.length_append]
    simp only [Nat.add_assoc]
theorem quotedOf_quote (s r : List UInt8) : quotedOf (quoteOf s ++ r) = (s, (quoteOf s).length, true) := by
  unfold quotedOf quoteOf
  have := unq_quo s r (s.length + 1) 0 [34] [] ((34 :: (quo s (s.length + 1) 0 ++ [34]) ++ r).length + 1) (by omega) (Nat.zero_le _) (by simp; omega)
  rw [show ([34] : List UInt8) ++ (quo s (s.length + 1) 0 ++ 34 :: r) = 34 :: (quo s (s.length + 1) 0 ++ [34]) ++ r by simp] at this
  rw [show ([34] : List UInt8).length = 1 from rfl] at this
  rw [this]
  simp
  omega
end Go.Proofs.YtmhemahkcbgaoaaGreatDoor
