/- What Apart leans on, in plain words: rows of bytes of the call's own, each in a block of its own. -/
import Derived.Test.YtmhemahkcbgaoaaDoorBase
namespace Go.Proofs.YtmhemahkcbgaoaaDoor
open Go.RowKit
/-- a row: its block, its length, its room -/
abbrev R3 := Nat × Nat × Nat
def mk8 (i k : Nat) : UInt8 := UInt8.ofNat (i * 31 + k * 7 + 1)
def marksL (i n : Nat) : List UInt8 := (List.range n).map fun k => mk8 i k
theorem marksL_len (i n : Nat) : (marksL i n).length = n := by simp [marksL]
theorem marksL_next (i n : Nat) : marksL i (n + 1) = marksL i n ++ [mk8 i n] := by simp [marksL, List.range_succ]
theorem marksL_at (i n k : Nat) (h : k < n) : (marksL i n)[k]? = some (mk8 i k) := by simp [marksL, h]
def rowV (r : R3) : Value := .slice (some ⟨r.1, 0, none⟩) r.2.1 r.2.2
def Dist (rows : List R3) : Prop := ∀ (j j' : Nat) (r r' : R3), rows[j]? = some r → rows[j']? = some r' → r.1 = r'.1 → j = j'
/-- every row lies in a block of bytes; of the rows ahead of i all are marked, of row i the first k places -/
def Mkd (w : World) (rows : List R3) (i k : Nat) : Prop :=
  ∀ (j : Nat) (r : R3), rows[j]? = some r → r.2.1 ≤ r.2.2 ∧ r.2.2 ≤ maxLen ∧ ∃ cur : Array Value, w.heap[r.1]? = some (.cells cur 5 (0, 0)) ∧ cur.size = r.2.2 ∧ ∀ t, t < r.2.1 → (j < i ∨ (j = i ∧ t < k)) → cur[t]? = some (B8 (mk8 j t))
theorem Mkd.quiet {w w' : World} {rows : List R3} {i k : Nat} (h : Mkd w rows i k) (hq : w'.heap = w.heap) : Mkd w' rows i k := by
  unfold Mkd at h ⊢
  rw [hq]; exact h
theorem Mkd.nextRow {w : World} {rows : List R3} {i : Nat} {r : R3} (h : Mkd w rows i r.2.1) (hr : rows[i]? = some r) : Mkd w rows (i + 1) 0 := by
  intro j r' hj
  obtain ⟨h1, h2, cur, h3, h4, h5⟩ := h j r' hj
  refine ⟨h1, h2, cur, h3, h4, fun t ht hor => h5 t ht ?_⟩
  rcases hor with hor | hor
  · by_cases e : j = i
    · subst e
      rw [hr] at hj
      obtain rfl := Option.some.inj hj
      exact .inr ⟨rfl, ht⟩
    · exact .inl (by omega)
  · omega
theorem Mkd.mark {w : World} {rows : List R3} {i k : Nat} {r : R3} (h : Mkd w rows i k) (hd : Dist rows) (hr : rows[i]? = some r) (hk : k < r.2.1) : Mkd (w.setCell ⟨r.1, k, none⟩ (B8 (mk8 i k))) rows i (k + 1) := by
  intro j r' hj
  obtain ⟨h1, h2, cur, h3, h4, h5⟩ := h j r' hj
  by_cases e : r'.1 = r.1
  · obtain rfl := hd j i r' r hj hr e
    rw [hr] at hj
    obtain rfl := Option.some.inj hj
    refine ⟨h1, h2, cur.setIfInBounds k (B8 (mk8 j k)), ?_, by simpa using h4, fun t ht hor => ?_⟩
    · simp [World.setCell, Array.getElem?_modify, h3]
    · by_cases et : t = k
      · subst et
        exact Array.getElem?_setIfInBounds_self_of_lt (by omega)
      · rw [Array.getElem?_setIfInBounds_ne (Ne.symm et)]
        exact h5 t ht (by omega)
  · refine ⟨h1, h2, cur, ?_, h4, fun t ht hor => h5 t ht ?_⟩
    · rw [Below.heap_setCell _ _ _ _ e]; exact h3
    · rcases hor with hor | ⟨rfl, hor⟩
      · exact .inl hor
      · rw [hr] at hj; exact absurd (congrArg (·.1) (Option.some.inj hj)).symm e
theorem Mkd.cell {w : World} {rows : List R3} {i k : Nat} {r : R3} (h : Mkd w rows i k) {j : Nat} (hr : rows[j]? = some r) {t : Nat} (ht : t < r.2.1) : ∃ u, w.cell? ⟨r.1, t, none⟩ = some u ∧ w.frozen? ⟨r.1, t, none⟩ = false := by
  obtain ⟨h1, h2, cur, h3, h4, h5⟩ := h j r hr
  have hlt : t < cur.size := by omega
  refine ⟨cur[t], ?_, ?_⟩
  · simp [World.cell?, h3]
  · simp [World.frozen?, h3]
theorem Mkd.marked {w : World} {rows : List R3} {i k : Nat} {r : R3} (h : Mkd w rows i k) {j : Nat} (hr : rows[j]? = some r) {t : Nat} (ht : t < r.2.1) (hj : j < i) : w.cell? ⟨r.1, t, none⟩ = some (B8 (mk8 j t)) := by
  obtain ⟨h1, h2, cur, h3, h4, h5⟩ := h j r hr
  have := h5 t ht (.inl hj)
  simp [World.cell?, h3, this]
/-- a row that is marked whole, as append wants it -/
theorem Mkd.own {w : World} {rows : List R3} {i k B : Nat} {r : R3} (h : Mkd w rows i k) {j : Nat} (hr : rows[j]? = some r) (hj : j < i) (hB : B ≤ r.1) : w.ownsRow B 5 1 (rowV r) r.2.1 ((marksL j r.2.1).map B8) := by
  obtain ⟨h1, h2, cur, h3, h4, h5⟩ := h j r hr
  refine ⟨by simp [marksL], .inr ⟨r.1, r.2.2, cur, rfl, hB, h3, h1, h2, by omega, ?_⟩⟩
  rw [Nat.mul_one]
  apply List.ext_getElem?
  intro t
  rw [List.getElem?_take, List.getElem?_map]
  split
  · rename_i ht
    rw [marksL_at j _ t ht, Array.getElem?_toList, h5 t ht (.inl hj)]; rfl
  · rename_i ht
    rw [List.getElem?_eq_none (by rw [marksL_len]; omega)]; rfl
/-- a row grown: the block b that was turned is none of the rows', or it is row i's and keeps its first places -/
theorem Mkd.grown {w w' : World} {rows : List R3} {i k : Nat} (h : Mkd w rows i k) {row : Option Nat} (hg : w.grownBy w' row) (hrow : ∀ b, row = some b → ∀ (j : Nat) (r : R3), rows[j]? = some r → r.1 = b → ∃ cur : Array Value, w'.heap[b]? = some (.cells cur 5 (0, 0)) ∧ cur.size = r.2.2 ∧ ∀ t, t < r.2.1 → cur[t]? = some (B8 (mk8 j t))) : Mkd w' rows i k := by
  intro j r hj
  obtain ⟨h1, h2, cur, h3, h4, h5⟩ := h j r hj
  refine ⟨h1, h2, ?_⟩
  by_cases e : some r.1 = row
  · obtain ⟨cur', a1, a2, a3⟩ := hrow r.1 e.symm j r hj rfl
    exact ⟨cur', a1, a2, fun t ht _ => a3 t ht⟩
  · exact ⟨cur, (hg.block r.1 (Array.getElem?_eq_some_iff.1 h3).1 e).trans h3, h4, h5⟩
/-- an owned row's block, opened -/
theorem own_cells {w : World} {B : Nat} {e : TypeId} {g n c : Nat} {xs : List Value} (h : w.ownsRow B e 1 (.slice (some ⟨g, 0, none⟩) n c) n xs) : ∃ cur : Array Value, w.heap[g]? = some (.cells cur e (0, 0)) ∧ cur.size = c ∧ ∀ t, t < n → cur[t]? = xs[t]? := by
  rcases h.2 with ⟨h, _⟩ | ⟨g', cap, cur, hv, hb, hg, hnc, hcm, hs, ht⟩
  · cases h
  · cases hv
    refine ⟨cur, hg, by omega, fun t htn => ?_⟩
    rw [← ht, List.getElem?_take, if_pos (by omega), Array.getElem?_toList]
theorem Mkd.block {w : World} {rows : List R3} {i k : Nat} (h : Mkd w rows i k) {j : Nat} {r : R3} (hr : rows[j]? = some r) : ∃ cur : Array Value, w.heap[r.1]? = some (.cells cur 5 (0, 0)) := by
  obtain ⟨_, _, cur, h3, _⟩ := h j r hr
  exact ⟨cur, h3⟩
theorem own_keep_ty {w w' : World} {row : Option Nat} {B : Nat} {e : TypeId} {v : Value} {n : Nat} {xs : List Value} (h : w.ownsRow B e 1 v n xs) (hg : w.grownBy w' row) (hne : ∀ b, row = some b → ∃ (cur : Array Value) (e' : TypeId) (fr : Nat × Nat), w.heap[b]? = some (.cells cur e' fr) ∧ e' ≠ e) : w'.ownsRow B e 1 v n xs := by
  refine h.kept hg ?_
  rcases h.2 with ⟨rfl, _⟩ | ⟨g, cap, cur, rfl, _, hgr, _⟩
  · exact .inl rfl
  · refine .inr fun e' => ?_
    have e' : some g = row := e'
    obtain ⟨cur', t', fr, h1, h2⟩ := hne g e'.symm
    rw [hgr] at h1
    cases h1
    exact h2 rfl
theorem grown_alloc_then {w w' : World} {o : Obj} {row : Option Nat} (h : (w.alloc o).grownBy w' row) : w.grownBy w' row :=
  ⟨h.os, h.tape, h.output, by have := h.size; simp at this; omega, fun k hk hne => (h.block k (by simp; omega) hne).trans (Below.heap_alloc w o k hk)⟩
/-- all that Apart holds while it grows its rows -/
structure Apt (B B0 B2 : Nat) (w0 : World) (rows : List R3) (a : Option Addr) (m ca : Nat) (vg : Value) (bl : List R3) (W : World) : Prop where
  out : W.ownsRow B0 54 1 (.slice a m ca) m (rows.map rowV)
  mkd : Mkd W rows m 0
  bel : Below B w0 W
  grown : W.ownsRow B2 54 1 vg bl.length (bl.map rowV)
  each : ∀ (j : Nat) (r' : R3), bl[j]? = some r' → ∃ r : R3, rows[j]? = some r ∧ r'.2.1 = r.2.1 + 70 ∧ W.ownsRow B 5 1 (rowV r') r'.2.1 ((marksL j r'.2.1).map B8)
theorem Apt.step {B B0 B2 : Nat} {w0 : World} {rows : List R3} {a : Option Addr} {m ca : Nat} {vg : Value} {bl : List R3} {W W' : World} (h : Apt B B0 B2 w0 rows a m ca vg bl W) {row : Option Nat} (hg : W.grownBy W' row) (hB : B ≤ W.heap.size)
    (hrow : ∀ b, row = some b → B ≤ b ∧ (∃ (cur : Array Value) (fr : Nat × Nat), W.heap[b]? = some (.cells cur 5 fr)) ∧ (∀ (j : Nat) (r' : R3), bl[j]? = some r' → r'.1 ≠ b) ∧
      (∀ (j : Nat) (r : R3), rows[j]? = some r → r.1 = b → ∃ cur : Array Value, W'.heap[b]? = some (.cells cur 5 (0, 0)) ∧ cur.size = r.2.2 ∧ ∀ t, t < r.2.1 → cur[t]? = some (B8 (mk8 j t)))) : Apt B B0 B2 w0 rows a m ca vg bl W' := by
  have ty : ∀ b, row = some b → ∃ (cur : Array Value) (e' : TypeId) (fr : Nat × Nat), W.heap[b]? = some (.cells cur e' fr) ∧ e' ≠ 54 := fun b hb => by
    obtain ⟨cur, fr, h1⟩ := (hrow b hb).2.1
    exact ⟨cur, _, fr, h1, by decide⟩
  refine ⟨own_keep_ty h.out hg ty, h.mkd.grown hg (fun b hb => (hrow b hb).2.2.2), h.bel.grown hg hB (fun b hb => (hrow b hb).1), own_keep_ty h.grown hg ty, fun j r' hj => ?_⟩
  obtain ⟨r, h1, h2, h3⟩ := h.each j r' hj
  refine ⟨r, h1, h2, h3.kept hg (.inr fun e => ?_)⟩
  have e : some r'.1 = row := e
  exact (hrow r'.1 e.symm).2.2.1 j r' hj rfl
/-- a grown row is kept in the list of grown rows -/
theorem Apt.push {B B0 B2 : Nat} {w0 : World} {rows : List R3} {a : Option Addr} {m ca : Nat} {vg vg' : Value} {bl : List R3} {W W' : World} {o : Obj} (h : Apt B B0 B2 w0 rows a m ca vg bl W) {r r' : R3} (hr : rows[bl.length]? = some r) (hn : r'.2.1 = r.2.1 + 70) (hB2 : B ≤ B2)
    (hown : W.ownsRow B 5 1 (rowV r') r'.2.1 ((marksL bl.length r'.2.1).map B8)) (hg : (W.alloc o).grownBy W' vg.ownBlock) (hob : ∀ b, (Value.slice a m ca).ownBlock = some b → b < B2) (hB : B2 ≤ W.heap.size)
    (hnew : W'.ownsRow B2 54 1 vg' (bl.length + 1) (bl.map rowV ++ [rowV r'])) : Apt B B0 B2 w0 rows a m ca vg' (bl ++ [r']) W' := by
  have hg' := grown_alloc_then hg
  have ty : ∀ b, vg.ownBlock = some b → ∃ (cur : Array Value) (e' : TypeId) (fr : Nat × Nat), W.heap[b]? = some (.cells cur e' fr) ∧ e' ≠ 5 := fun b hb => by
    rcases h.grown.2 with ⟨hv, _⟩ | ⟨g, cap, cur, hv, _, hgr, _⟩
    · rw [hv] at hb; cases hb
    · rw [hv] at hb
      obtain rfl : g = b := by simpa [Value.ownBlock] using hb
      exact ⟨cur, _, _, hgr, by decide⟩
  have hv2 : ∀ b, vg.ownBlock = some b → B2 ≤ b := fun b hb => (h.grown.lt b hb).1
  refine ⟨h.out.kept hg' ?_, h.mkd.grown hg' (fun b hb j r hj e => ?_), h.bel.grown hg' (by omega) (fun b hb => by have := hv2 b hb; omega), by simpa using hnew, fun j r'' hj => ?_⟩
  · cases ho : (Value.slice a m ca).ownBlock with
    | none => exact .inl rfl
    | some b => exact .inr fun e => by have := hob b ho; have := hv2 b e.symm; omega
  · exfalso
    obtain ⟨cur, e', fr, h1, h2⟩ := ty b hb
    obtain ⟨cur', h3⟩ := h.mkd.block hj
    rw [e, h1] at h3
    cases h3
    exact h2 rfl
  · by_cases hlt : j < bl.length
    · rw [List.getElem?_append_left hlt] at hj
      obtain ⟨r0, h1, h2, h3⟩ := h.each j r'' hj
      exact ⟨r0, h1, h2, own_keep_ty h3 hg' ty⟩
    · have hj' := hj
      rw [List.getElem?_append_right (by omega)] at hj
      have e0 : j - bl.length = 0 := by
        have := (List.getElem?_eq_some_iff.1 hj).1
        simp at this
        omega
      rw [e0] at hj
      simp at hj
      subst hj
      obtain rfl : j = bl.length := by omega
      exact ⟨r, hr, hn, own_keep_ty hown hg' ty⟩
end Go.Proofs.YtmhemahkcbgaoaaDoor
