/- Texts joined, one behind the other (DApart, DSpl). -/
import Derived.Test.YtnbihjocdlpplaaDoorDp20
/- Two patches share nothing: the statements' apart. -/
namespace Go.Proofs.YtnbihjocdlpplaaDoor
set_option linter.unusedVariables false
set_option linter.unusedSimpArgs false
open Go.RowKit
open Go.Lib hiding intOf
/-- a hunk's row of lines -/
def rowOf (h : HCell) : R4 := match h.2.1 with
  | some ad => (ad.block, ad.off, h.2.2.1)
  | none => (0, 0, 0)
theorem cell_size {w : World} {g o : Nat} {cur : Array Value} {e : TypeId} {fr : Nat × Nat} {v : Value} (h : w.heap[g]? = some (.cells cur e fr)) (hc : w.cell? ⟨g, o, none⟩ = some v) : o < cur.size := by
  simp only [World.cell?, h] at hc
  exact (Array.getElem?_eq_some_iff.1 (by simpa using hc)).1
/-- what is known of a patch's hunks, as rows -/
structure HRows (B : Nat) (w : World) (hs : List HCell) : Prop where
  val : ∀ (i : Nat) (h : HCell), hs[i]? = some h → (.slice h.2.1 h.2.2.1 h.2.2.2 : Value) = rowT (rowOf h)
  mkd : ∀ (i : Nat) (h : HCell), hs[i]? = some h → ∃ cur : Array Value, w.heap[(rowOf h).1]? = some (.cells cur 9 (0, 0)) ∧ (rowOf h).2.1 + (rowOf h).2.2 ≤ cur.size
  dist : ∀ (i j : Nat) (p q : HCell), hs[i]? = some p → hs[j]? = some q → (rowOf p).1 = (rowOf q).1 → i = j
  lo : ∀ (i : Nat) (h : HCell), hs[i]? = some h → B ≤ (rowOf h).1 ∧ 0 < (rowOf h).2.2
theorem SW.hrows {B : Nat} {w : World} {vo : Value} {hs : List HCell} {H : List Hk} {vals : List Wait} (h : SW B w vo hs H vals) (hc : ∀ x ∈ hs, x.2.2.1 = x.2.2.2) (hne : ∀ x ∈ H, x.2 ≠ []) : HRows B w hs := by
  have key : ∀ (i : Nat) (x : HCell), hs[i]? = some x → ∃ g o, x.2.1 = some ⟨g, o, none⟩ ∧ rowOf x = (g, o, x.2.2.1) ∧ 0 < x.2.2.1 ∧ B ≤ g ∧ ∃ cur : Array Value, w.heap[g]? = some (.cells cur 9 (0, 0)) ∧ o + x.2.2.1 ≤ cur.size := fun i x hx => by
    have hil := (List.getElem?_eq_some_iff.1 hx).1
    have hy : H[i]? = some (H[i]'(by rw [← h.len]; exact hil)) := by simp
    obtain ⟨q1, q2, q3, q4, q5⟩ := h.each i x _ hx hy
    have hpos : 0 < x.2.2.1 := by
      rw [← q4.len]
      exact List.length_pos_iff.2 (hne _ (List.mem_of_getElem? hy))
    obtain ⟨g, o, y, e1, e2, e3, e4⟩ := q4.at (k := x.2.2.1 - 1) (by omega)
    obtain ⟨f1, ⟨cur, f2⟩, _⟩ := q5 _ e1
    refine ⟨g, o, e1, by unfold rowOf; rw [e1], hpos, f1, cur, f2, ?_⟩
    have := cell_size f2 e4
    omega
  refine ⟨fun i x hx => ?_, fun i x hx => ?_, fun i j p q hp hq e => ?_, fun i x hx => ?_⟩
  · obtain ⟨g, o, e1, e2, _⟩ := key i x hx
    rw [e2, e1, hc x (List.mem_of_getElem? hx)]
    rfl
  · obtain ⟨g, o, e1, e2, _, _, cur, e3, e4⟩ := key i x hx
    rw [e2]
    exact ⟨cur, e3, e4⟩
  · obtain ⟨g, o, e1, e2, _⟩ := key i p hp
    obtain ⟨g', o', e1', e2', _⟩ := key j q hq
    rw [e2, e2'] at e
    exact h.dist i j p q _ _ hp hq e1 e1' e
  · obtain ⟨g, o, e1, e2, e3, e4, _⟩ := key i x hx
    rw [e2]
    exact ⟨e4, e3⟩
/-- the cells of a row of hunks -/
def HCells (w : World) (a : Option Addr) (n : Nat) (hs : List HCell) : Prop := hs.length = n ∧ (0 < n → ∃ g, a = some ⟨g, 0, none⟩ ∧ (∃ cur : Array Value, w.heap[g]? = some (.cells cur 80 (0, 0))) ∧ ∀ i h, hs[i]? = some h → w.cell? ⟨g, i * 2, none⟩ = some (.int .i64 (h.1 : Int)) ∧ w.cell? ⟨g, i * 2 + 1, none⟩ = some (.slice h.2.1 h.2.2.1 h.2.2.2))
theorem SW.hcells {B : Nat} {w : World} {a : Option Addr} {c n : Nat} {hs : List HCell} {H : List Hk} {vals : List Wait} (h : SW B w (.slice a n c) hs H vals) : HCells w a n hs := by
  obtain ⟨hn, _, _⟩ := own_caps h.own
  subst hn
  refine ⟨rfl, fun h0 => ?_⟩
  obtain ⟨g, rfl, hg, hc⟩ := own_cell h.own h0
  obtain ⟨_, cur, hcur⟩ := own_block h.own (b := g) rfl
  refine ⟨g, rfl, ⟨cur, hcur⟩, fun i x hx => ?_⟩
  have f0 := flat_at (f := hkCells) (c := 2) (fun _ => rfl) hx (j := 0) rfl
  have f1 := flat_at (f := hkCells) (c := 2) (fun _ => rfl) hx (j := 1) rfl
  exact ⟨hc _ _ f0, hc _ _ f1⟩
theorem HCells.at {w : World} {a : Option Addr} {n : Nat} {hs : List HCell} (h : HCells w a n hs) {i : Nat} (hi : i < n) : ∃ g x, a = some ⟨g, 0, none⟩ ∧ g < w.heap.size ∧ hs[i]? = some x ∧ w.cell? ⟨g, i * 2, none⟩ = some (.int .i64 (x.1 : Int)) ∧ w.cell? ⟨g, i * 2 + 1, none⟩ = some (.slice x.2.1 x.2.2.1 x.2.2.2) := by
  obtain ⟨hl, h⟩ := h
  obtain ⟨g, e, ⟨cur, hc⟩, hx⟩ := h (by omega)
  have hxi : hs[i]? = some (hs[i]'(by omega)) := by simp
  obtain ⟨h1, h2⟩ := hx i _ hxi
  exact ⟨g, _, e, (Array.getElem?_eq_some_iff.1 hc).1, hxi, h1, h2⟩
theorem HCells.keep {w w' : World} {a : Option Addr} {n : Nat} {hs : List HCell} (h : HCells w a n hs) (hb : ∀ g, a = some ⟨g, 0, none⟩ → 0 < n → w'.heap[g]? = w.heap[g]?) : HCells w' a n hs := by
  obtain ⟨hl, h⟩ := h
  refine ⟨hl, fun h0 => ?_⟩
  obtain ⟨g, e, ⟨cur, hc⟩, hx⟩ := h h0
  refine ⟨g, e, ⟨cur, (hb g e h0).trans hc⟩, fun i x hi => ?_⟩
  rw [cell_rows (p := ⟨g, i * 2, none⟩) (hb g e h0), cell_rows (p := ⟨g, i * 2 + 1, none⟩) (hb g e h0)]
  exact hx i x hi
/-- a row of hunks that may be written -/
def AB (B Bb : Nat) (a : Option Addr) (n : Nat) (w : World) : Prop := 0 < n → ∃ g, a = some ⟨g, 0, none⟩ ∧ B ≤ g ∧ g < Bb ∧ ∃ cur : Array Value, w.heap[g]? = some (.cells cur 80 (0, 0)) ∧ n * 2 ≤ cur.size
theorem mem_cat {hsA hsB : List HCell} {j : Nat} {r : R4} (h : (hsA.map rowOf ++ hsB.map rowOf)[j]? = some r) : (j < hsA.length ∧ ∃ x, hsA[j]? = some x ∧ rowOf x = r) ∨ (hsA.length ≤ j ∧ ∃ x, hsB[j - hsA.length]? = some x ∧ rowOf x = r) := by
  by_cases hj : j < hsA.length
  · rw [List.getElem?_append_left (by simpa using hj), List.getElem?_map] at h
    cases hx : hsA[j]? with
    | none => rw [hx] at h; cases h
    | some x => rw [hx] at h; cases h; exact .inl ⟨hj, x, rfl, rfl⟩
  · rw [List.getElem?_append_right (by simp; omega), List.length_map, List.getElem?_map] at h
    cases hx : hsB[j - hsA.length]? with
    | none => rw [hx] at h; cases h
    | some x => rw [hx] at h; cases h; exact .inr ⟨by omega, x, rfl, rfl⟩
theorem all_next {hs : List HCell} {i : Nat} {x : HCell} (h : hs[i]? = some x) {pre : List Value} : pre ++ (hs.take i).map (fun h => (.slice h.2.1 h.2.2.1 h.2.2.2 : Value)) ++ [.slice x.2.1 x.2.2.1 x.2.2.2] = pre ++ (hs.take (i + 1)).map (fun h => (.slice h.2.1 h.2.2.1 h.2.2.2 : Value)) := by
  rw [take_next h, List.map_append, List.append_assoc]
  rfl
theorem AB.set {B Bb g n o : Nat} {w : World} (h : AB B Bb (some ⟨g, 0, none⟩) n w) (v : Value) : AB B Bb (some ⟨g, 0, none⟩) n (w.setCell ⟨g, o, none⟩ v) := fun h0 => by
  obtain ⟨g', e, h1, h2, cur, h3, h4⟩ := h h0
  cases e
  exact ⟨g, rfl, h1, h2, cur.setIfInBounds o v, by simp [World.setCell, Array.getElem?_modify, h3], by simpa using h4⟩
theorem HCells.set {w : World} {a : Option Addr} {n g o Bb : Nat} {hs : List HCell} (h : HCells w a n hs) (hB : ∀ g', a = some ⟨g', 0, none⟩ → Bb ≤ g') (hg : g < Bb) (v : Value) : HCells (w.setCell ⟨g, o, none⟩ v) a n hs :=
  h.keep (fun g' e _ => Below.heap_setCell _ _ _ _ (by have := hB g' e; intro e2; simp only at e2; omega))
/-- one element put behind a slice without spare room, which may be empty -/
theorem run_append_clip2 {P : Program} {T ty e : TypeId} (hT : P.underlying T = some (.slice e)) (z : Value) (size bytes : Nat) (hinfo : (P.info? e).map (fun i => (i.zero, i.size, i.bytes)) = some (some z, size, bytes)) (hz : z.cells.size = size) (hs0 : 0 < size) (hby : bytes ≤ 4096)
    (wp : World) (a : Option Addr) (n : Nat) (xs cs : List Value) (hxl : xs.length = n * size) (hxs : 0 < n → ∃ ad, a = some ad ∧ ∀ j u, xs[j]? = some u → wp.cell? (ad.add j) = some u) (hcs : cs.length = size) (hone : ∀ u ∈ cs, u.oneCell' = true) (hl : n ≤ 1073741824) :
    ∃ v' w', (Builtin.append_ #[T, T] ty #[.slice a n n, .slice (some ⟨wp.heap.size, 0, none⟩) 1 1]).run P (wp.alloc (.cells cs.toArray e)) = .ok v' w' ∧ w'.ownsRow wp.heap.size e size v' (n + 1) (xs ++ cs) ∧ Below wp.heap.size wp w' := by
  obtain ⟨i0, hi, hz0, hz1, hz2⟩ := info_parts hinfo
  have hbt : (n + 1) * bytes ≤ 140737488355328 := by
    calc (n + 1) * bytes ≤ (n + 1) * 4096 := Nat.mul_le_mul (Nat.le_refl _) hby
      _ ≤ 140737488355328 := by omega
  have hsz : (wp.alloc (.cells cs.toArray e)).heap.size = wp.heap.size + 1 := by simp
  have hb : Below wp.heap.size wp (wp.alloc (.cells cs.toArray e)) := (Below.refl _ wp).alloc (Nat.le_refl _) _
  cases a with
  | none =>
    have hn : n = 0 := by
      rcases Nat.eq_zero_or_pos n with h | h
      · exact h
      · obtain ⟨ad, e, _⟩ := hxs h; cases e
    subst hn
    obtain rfl : xs = [] := List.eq_nil_of_length_eq_zero (by simpa using hxl)
    obtain ⟨v', w', hrun, r1, r2, _⟩ := run_append_own (P := P) (wp.alloc (.cells cs.toArray e)) wp.heap.size T ty e i0 z size bytes hT hi hz0 hz1 hz2 hz hs0 (.slice none 0 0) 0 [] (World.ownsRow_nil _ _ _ _) ⟨wp.heap.size, 0, none⟩ 1 1 cs (by rw [hcs, Nat.one_mul]) (new_cells _ _ _) hone (by unfold maxLen; omega) hbt (by rw [hsz]; omega)
    exact ⟨v', w', hrun, r1, hb.grown r2 (by rw [hsz]; omega) (fun k hk => by cases hk)⟩
  | some ad =>
    have hc : ∀ j u, xs[j]? = some u → wp.cell? (ad.add j) = some u := by
      rcases Nat.eq_zero_or_pos n with h | h
      · subst h
        obtain rfl : xs = [] := List.eq_nil_of_length_eq_zero (by simpa using hxl)
        intro j u hj; cases hj
      · obtain ⟨ad', e, hc⟩ := hxs h; cases e; exact hc
    obtain ⟨v', w', hrun, r1, r2⟩ := run_append_arg_grows (P := P) (wp.alloc (.cells cs.toArray e)) T ty e i0 z size bytes hT hi hz0 hz1 hz2 hz hs0 ad n n xs hxl (fun j u hj => by
      have h1 := hc j u hj
      have h2 : (ad.add j).block < wp.heap.size := World.block_lt_of_cell? wp _ h1
      rw [hb.cell h2]
      exact h1) ⟨wp.heap.size, 0, none⟩ 1 1 cs (by rw [hcs, Nat.one_mul]) (new_cells _ _ _) (by omega) (by unfold maxLen; omega) hbt
    exact ⟨v', w', hrun, own_mono_size r1 (by rw [hsz]; omega), hb.grown r2 (by rw [hsz]; omega) (fun k hk => by cases hk)⟩
theorem appClip2 {T e : TypeId} {ops : Array Oper} {rest : List Oper} {o : Oper} {a : Act} {w : World} {Q : Exit → Act → World → Prop} (hgd : o.guard = none) (sl x : Operand) (ho : o.op = .call { callee := .builtin .append, args := #[sl, x], argTypes := #[T, T] })
    (hT : Tryd.prog.underlying T = some (.slice e)) (z : Value) (size bytes : Nat) (hinfo : (Tryd.prog.info? e).map (fun i => (i.zero, i.size, i.bytes)) = some (some z, size, bytes)) (hz : z.cells.size = size) (hs0 : 0 < size) (hby : bytes ≤ 4096)
    (wp : World) (ad : Option Addr) (n : Nat) (xs cs : List Value) (hxl : xs.length = n * size) (hxs : 0 < n → ∃ a, ad = some a ∧ ∀ j u, xs[j]? = some u → wp.cell? (a.add j) = some u) (hcs : cs.length = size) (hone : ∀ u ∈ cs, u.oneCell' = true) (hs : a.eval sl = .slice ad n n) (hx : a.eval x = .slice (some ⟨wp.heap.size, 0, none⟩) 1 1) (hw : w = wp.alloc (.cells cs.toArray e)) (hl : n ≤ 1073741824)
    (h : ∀ v' w', w'.ownsRow wp.heap.size e size v' (n + 1) (xs ++ cs) → Below wp.heap.size wp w' → wpList Tryd.prog ops Q rest (a.put o.dst v') w') : wpList Tryd.prog ops Q (o :: rest) a w := by
  subst hw
  obtain ⟨v', w', hrun, h1, h2⟩ := run_append_clip2 (ty := o.type) hT z size bytes hinfo hz hs0 hby wp ad n xs cs hxl hxs hcs hone hl
  refine wpList_plain hgd fun K hK => ?_
  unfold Oper.wp
  simp [execOp, ho, resolve, invoke, builtin, hs, hx, hrun, Result.andThen]
  exact hK _ _ (h v' w' h1 h2)
theorem AB.cells {B Bb n : Nat} {a : Option Addr} {w : World} (h : AB B Bb a n w) : ∃ xs : List Value, xs.length = n * 2 ∧ (0 < n → ∃ ad, a = some ad ∧ ∀ j u, xs[j]? = some u → w.cell? (ad.add j) = some u) := by
  rcases Nat.eq_zero_or_pos n with h0 | h0
  · subst h0
    exact ⟨[], rfl, fun h => by omega⟩
  · obtain ⟨g, rfl, h1, h2, cur, h3, h4⟩ := h h0
    refine ⟨cur.toList.take (n * 2), by simp; omega, fun _ => ⟨⟨g, 0, none⟩, rfl, fun j u hj => ?_⟩⟩
    rw [cell_add, Nat.zero_add]
    rw [List.getElem?_take] at hj
    split at hj
    · simp only [World.cell?, h3]
      simpa using hj
    · cases hj
def hunkCs (k : Int) : List Value := [.int .i64 k, .slice none 0 0]
theorem hunkCs_one (k : Int) : ∀ u ∈ hunkCs k, u.oneCell' = true := by
  intro u hu
  simp only [hunkCs, List.mem_cons, List.not_mem_nil, or_false] at hu
  rcases hu with rfl | rfl <;> rfl
set_option maxHeartbeats 8000000 in
set_option maxRecDepth 100000 in
theorem apartC (w1 w : World) (B Bb : Nat) (va vb : Value) (Ha Hb : List Hk) (ha : PatchAt B w1 va Ha) (hw : Below w1.heap.size w1 w) (hb : PatchAt Bb w vb Hb) (hB1 : B ≤ w1.heap.size) (hBb : w1.heap.size ≤ Bb)
    (ka : ∀ x ∈ Ha, x.2 ≠ []) (kb : ∀ x ∈ Hb, x.2 ≠ []) (na : Ha.length ≤ 4096) (nb : Hb.length ≤ 4096) (la : ∀ x ∈ Ha, x.2.length ≤ 1048576) (lb : ∀ x ∈ Hb, x.2.length ≤ 1048576) (kk : ∀ x ∈ Hb, x.1 < 100) :
    Calls Tryd.prog 13 #[va, vb] w fun e w' => e = .returned (.bool true) ∧ Below B w w' := by
  obtain ⟨aa, ca, hsa, rfl, hsw, hcl⟩ := ha
  obtain ⟨ab, cb, hsb, rfl, hswb, hclb⟩ := hb
  have hsw' := hsw.keep hw
  have hws := hw.size
  have lenA := hsw'.len
  have lenB := hswb.len
  have HRa := Lib.hid (hsw'.hrows hcl ka)
  have HRb := Lib.hid (hswb.hrows hclb kb)
  have HCa := Lib.hid hsw'.hcells
  have HCb := Lib.hid hswb.hcells
  obtain ⟨n, hn⟩ : ∃ n, n = Ha.length := ⟨_, rfl⟩
  obtain ⟨m, hm⟩ : ∃ m, m = Hb.length := ⟨_, rfl⟩
  have hltA : ∀ i x, hsa[i]? = some x → (rowOf x).1 < w1.heap.size := fun i x hx => by
    obtain ⟨cur, h1, _⟩ := (hsw.hrows hcl ka).mkd i x hx
    exact (Array.getElem?_eq_some_iff.1 h1).1
  have hga : ∀ g, aa = some ⟨g, 0, none⟩ → 0 < n → g < w1.heap.size ∧ B ≤ g := fun g hg h0 => by
    subst hg
    obtain ⟨q1, cur, q2⟩ := own_block hsw.own (b := g) rfl
    exact ⟨(Array.getElem?_eq_some_iff.1 q2).1, q1⟩
  have hgb : ∀ g, ab = some ⟨g, 0, none⟩ → Bb ≤ g ∧ g < w.heap.size := fun g hg => by
    subst hg
    obtain ⟨q1, cur, q2⟩ := own_block hswb.own (b := g) rfl
    exact ⟨q1, (Array.getElem?_eq_some_iff.1 q2).1⟩
  have hlenA : ∀ i x, hsa[i]? = some x → (rowOf x).2.2 ≤ 1048576 := fun i x hx => by
    have hil := (List.getElem?_eq_some_iff.1 hx).1
    have hy : Ha[i]? = some (Ha[i]'(by rw [← lenA]; exact hil)) := by simp
    obtain ⟨q1, q2, q3, q4, _⟩ := hsw'.each i x _ hx hy
    have h1 := la _ (List.mem_of_getElem? hy)
    have h2 := q4.len
    have h3 := congrArg (fun v => match v with | Value.slice _ k _ => k | _ => 0) (HRa.out.val i x hx)
    simp only [rowT] at h3
    omega
  have hlenB : ∀ i x, hsb[i]? = some x → (rowOf x).2.2 ≤ 1048576 := fun i x hx => by
    have hil := (List.getElem?_eq_some_iff.1 hx).1
    have hy : Hb[i]? = some (Hb[i]'(by rw [← lenB]; exact hil)) := by simp
    obtain ⟨q1, q2, q3, q4, _⟩ := hswb.each i x _ hx hy
    have h1 := lb _ (List.mem_of_getElem? hy)
    have h2 := q4.len
    have h3 := congrArg (fun v => match v with | Value.slice _ k _ => k | _ => 0) (HRb.out.val i x hx)
    simp only [rowT] at h3
    omega
  have hkb : ∀ (i : Nat) (x : HCell), hsb[i]? = some x → x.1 < 100 := fun i x hx => by
    have hil := (List.getElem?_eq_some_iff.1 hx).1
    have hy : Hb[i]? = some (Hb[i]'(by rw [← lenB]; exact hil)) := by simp
    have h1 := (hswb.each i x _ hx hy).1
    rw [h1]
    exact kk _ (List.mem_of_getElem? hy)
  have HDT : Hid (DistT (hsa.map rowOf ++ hsb.map rowOf)) := Lib.hid (fun j j' r r' h1 h2 e => by
    rcases mem_cat h1 with ⟨j1, x, hx, rfl⟩ | ⟨j1, x, hx, rfl⟩ <;> rcases mem_cat h2 with ⟨j2, y, hy, rfl⟩ | ⟨j2, y, hy, rfl⟩
    · exact HRa.out.dist j j' x y hx hy e
    · have q1 := hltA j x hx
      have q2 := (HRb.out.lo _ y hy).1
      omega
    · have q1 := hltA j' y hy
      have q2 := (HRb.out.lo _ x hx).1
      omega
    · have := HRb.out.dist _ _ x y hx hy e
      omega)
  have HLO : Hid (∀ (j : Nat) (r : R4), (hsa.map rowOf ++ hsb.map rowOf)[j]? = some r → B ≤ r.1 ∧ 0 < r.2.2 ∧ r.2.2 ≤ 1048576) := Lib.hid (fun j r h1 => by
    rcases mem_cat h1 with ⟨j1, x, hx, rfl⟩ | ⟨j1, x, hx, rfl⟩
    · exact ⟨(HRa.out.lo j x hx).1, (HRa.out.lo j x hx).2, hlenA j x hx⟩
    · exact ⟨by have := (HRb.out.lo _ x hx).1; omega, (HRb.out.lo _ x hx).2, hlenB _ x hx⟩)
  have HMK : ∀ W, Below w.heap.size w W → MkT W (hsa.map rowOf ++ hsb.map rowOf) 0 0 := fun W hW j r h1 => by
    rcases mem_cat h1 with ⟨j1, x, hx, rfl⟩ | ⟨j1, x, hx, rfl⟩
    · obtain ⟨cur, q1, q2⟩ := HRa.out.mkd j x hx
      exact ⟨cur, (hW.block _ (Array.getElem?_eq_some_iff.1 q1).1).trans q1, q2, fun t ht h => by omega⟩
    · obtain ⟨cur, q1, q2⟩ := HRb.out.mkd _ x hx
      exact ⟨cur, (hW.block _ (Array.getElem?_eq_some_iff.1 q1).1).trans q1, q2, fun t ht h => by omega⟩
  have HMKH := Lib.hid HMK
  have HNR : Hid (∀ (g : Nat) (cur : Array Value), w.heap[g]? = some (.cells cur 80 (0, 0)) → ∀ r ∈ (hsa.map rowOf ++ hsb.map rowOf), r.1 ≠ g) := Lib.hid (fun g cur hg r hr e => by
    obtain ⟨j, hj⟩ := List.mem_iff_getElem?.1 hr
    obtain ⟨cur2, h2, _⟩ := HMK w (Below.refl _ _) j r hj
    rw [e, hg] at h2
    cases h2)
  have HVA : Hid ((hsa ++ hsb).map (fun h => (.slice h.2.1 h.2.2.1 h.2.2.2 : Value)) = (hsa.map rowOf ++ hsb.map rowOf).map rowT) := Lib.hid (by
    rw [List.map_append, List.map_append, List.map_map, List.map_map]
    congr 1
    · exact List.map_congr_left fun x hx => by obtain ⟨i, hi⟩ := List.mem_iff_getElem?.1 hx; exact HRa.out.val i x hi
    · exact List.map_congr_left fun x hx => by obtain ⟨i, hi⟩ := List.mem_iff_getElem?.1 hx; exact HRb.out.val i x hi)
  have HGA := Lib.hid hga
  have HGB := Lib.hid hgb
  have HKB := Lib.hid hkb
  rw [← hn] at HCa lenA na ⊢
  rw [← hm] at HCb lenB nb ⊢
  have HLA := Lib.hid lenA
  have HLB := Lib.hid lenB
  have hBw : B ≤ w.heap.size := by omega
  have H0 : Hid (w.ownsRow w.heap.size 29 1 (.slice none 0 0) 0 []) := Lib.hid (World.ownsRow_nil _ _ _ _)
  clear hsw hsw' hswb hcl hclb hltA hga hgb hlenA hlenB hkb HMK hw ka kb la lb kk lenA lenB hn hm
  go_enter Tryd.func13, Tryd.ntmps13
  go_wp2
  go_loopw [5, 6] (fun vv ui wr => ∃ i : Nat, ui = .int .i64 (i : Int) ∧ i ≤ n ∧ Hid (wr.ownsRow w.heap.size 29 1 vv i ((hsa.take i).map (fun h => (.slice h.2.1 h.2.2.1 h.2.2.2 : Value))) ∧ Below w.heap.size w wr)) (fun _ ui _ => n - (RowKit.intOf ui).toNat)
  case atStart => exact ⟨0, rfl, Nat.zero_le _, Lib.hid ⟨H0.out, Below.refl _ _⟩⟩
  case round =>
    obtain ⟨i, rfl, hi, HR⟩ := hrel
    obtain ⟨vv, rfl⟩ : ∃ v : Value, v = u5 := ⟨_, rfl⟩
    have hwb := HR.out.2.size
    by_cases hlt : i < n
    · obtain ⟨g, x, rfl, hg, hx, hc0, hc1⟩ := (HCa.out.keep (w' := wr) (fun g hg _ => HR.out.2.block g (by have := (HCa.out.at hlt); obtain ⟨g2, _, e, hg2, _⟩ := this; rw [hg] at e; cases e; exact hg2))).at hlt
      have HNX := Lib.hid (all_next hx (pre := []))
      simp only [List.nil_append] at HNX
      have hit : (i : Int) < (n : Int) := by omega
      clear hx
      go_wp2_with (at_builtin; refine appNew rfl _ _ rfl Tryd.underlying82 (.slice none 0 0) 1 24 infoSlS rfl (by decide) (by decide) w.heap.size w.heap.size w wr vv i ((hsa.take i).map (fun h => (.slice h.2.1 h.2.2.1 h.2.2.2 : Value))) [.slice x.2.1 x.2.2.1 x.2.2.2] rfl (by intro u hu; simp only [List.mem_singleton] at hu; subst hu; rfl) rfl HR.out.1 rfl rfl (by omega) HR.out.2 (Nat.le_refl _) hwb ?_; intro v8 w8 hO8 hb8 hs8)
      have HO8 : Hid (w8.ownsRow w.heap.size 29 1 v8 (i + 1) ((hsa.take (i + 1)).map (fun h => (.slice h.2.1 h.2.2.1 h.2.2.2 : Value))) ∧ Below w.heap.size w w8) := Lib.hid ⟨by rw [← HNX.out]; exact hO8, hb8⟩
      clear hO8 hb8
      go_roundw
      case rel => exact ⟨i + 1, by go_num, hlt, HO8⟩
      case measure => simp [RowKit.intOf]; omega
    · obtain rfl : i = n := by omega
      have hd : hsa.take i = hsa := List.take_of_length_le (by rw [HLA.out]; exact Nat.le_refl _)
      rw [hd] at HR
      clear hd
      go_wp2
      go_loopw [5, 7] (fun vv ui wr => ∃ j : Nat, ui = .int .i64 (j : Int) ∧ j ≤ m ∧ Hid (wr.ownsRow w.heap.size 29 1 vv (i + j) (hsa.map (fun h => (.slice h.2.1 h.2.2.1 h.2.2.2 : Value)) ++ (hsb.take j).map (fun h => (.slice h.2.1 h.2.2.1 h.2.2.2 : Value))) ∧ Below w.heap.size w wr)) (fun _ ui _ => m - (RowKit.intOf ui).toNat)
      case atStart => exact ⟨0, rfl, Nat.zero_le _, Lib.hid ⟨by simpa using HR.out.1, HR.out.2⟩⟩
      case round =>
        clear HR hwb
        obtain ⟨j, rfl, hj, HR⟩ := hrel
        obtain ⟨vv, rfl⟩ : ∃ v : Value, v = u5 := ⟨_, rfl⟩
        have hwb := HR.out.2.size
        by_cases hlt2 : j < m
        · obtain ⟨g, x, rfl, hg, hx, hc0, hc1⟩ := (HCb.out.keep (w' := wr) (fun g hg _ => HR.out.2.block g (by have := (HCb.out.at hlt2); obtain ⟨g2, _, e, hg2, _⟩ := this; rw [hg] at e; cases e; exact hg2))).at hlt2
          have HNX := Lib.hid (all_next hx (pre := hsa.map (fun h => (.slice h.2.1 h.2.2.1 h.2.2.2 : Value))))
          have hit : (j : Int) < (m : Int) := by omega
          clear hx
          go_wp2_with (at_builtin; refine appNew rfl _ _ rfl Tryd.underlying82 (.slice none 0 0) 1 24 infoSlS rfl (by decide) (by decide) w.heap.size w.heap.size w wr vv (i + j) (hsa.map (fun h => (.slice h.2.1 h.2.2.1 h.2.2.2 : Value)) ++ (hsb.take j).map (fun h => (.slice h.2.1 h.2.2.1 h.2.2.2 : Value))) [.slice x.2.1 x.2.2.1 x.2.2.2] rfl (by intro u hu; simp only [List.mem_singleton] at hu; subst hu; rfl) rfl HR.out.1 rfl rfl (by omega) HR.out.2 (Nat.le_refl _) hwb ?_; intro v8 w8 hO8 hb8 hs8)
          have HO8 : Hid (w8.ownsRow w.heap.size 29 1 v8 (i + (j + 1)) (hsa.map (fun h => (.slice h.2.1 h.2.2.1 h.2.2.2 : Value)) ++ (hsb.take (j + 1)).map (fun h => (.slice h.2.1 h.2.2.1 h.2.2.2 : Value))) ∧ Below w.heap.size w w8) := Lib.hid ⟨by rw [← HNX.out]; exact hO8, hb8⟩
          clear hO8 hb8
          go_roundw
          case rel => exact ⟨j + 1, by go_num, hlt2, HO8⟩
          case measure => simp [RowKit.intOf]; omega
        · obtain rfl : j = m := by omega
          have hd : hsb.take j = hsb := List.take_of_length_le (by rw [HLB.out]; exact Nat.le_refl _)
          have hall := HR.out.1
          rw [hd, ← List.map_append, HVA.out] at hall
          obtain ⟨av, cv, hvv⟩ := slice_own hall
          subst hvv
          have HAP := Lib.hid (apartT wr B w.heap.size av (i + j) cv _ hall (HMKH.out wr HR.out.2) HDT.out HLO.out (by omega) (Nat.le_trans hBw hwb))
          clear hd hall
          go_upto_region 12 with (go_at_call 48; refine (HAP.out).mono ?_; rintro e w4 ⟨rfl, hfr⟩; have HFR := Lib.hid hfr; clear hfr)
          have hz4 := HFR.out.1.size
          have hkp : ∀ (g : Nat) (cur : Array Value), w.heap[g]? = some (.cells cur 80 (0, 0)) → w4.heap[g]? = w.heap[g]? := fun g cur hcur => by
            have hgl := (Array.getElem?_eq_some_iff.1 hcur).1
            rw [HFR.out.2 g (Nat.lt_of_lt_of_le hgl hwb) (HNR.out g cur hcur), HR.out.2.block g hgl]
          have HC4 : Hid (HCells w4 ab j hsb) := Lib.hid (HCb.out.keep (fun g hg h0 => by
            obtain ⟨g2, e, ⟨cur, hcur⟩, _⟩ := HCb.out.2 h0
            rw [hg] at e
            cases e
            exact hkp g cur hcur))
          have HA4 : Hid (AB B Bb aa i w4) := Lib.hid (fun h0 => by
            obtain ⟨g, e, ⟨cur, hcur⟩, hx⟩ := HCa.out.2 h0
            obtain ⟨q1, q2⟩ := HGA.out g e h0
            obtain ⟨_, hl⟩ := hx (i - 1) (hsa[i - 1]'(by rw [HLA.out]; omega)) (by simp)
            have hsz := cell_size hcur hl
            exact ⟨g, e, q2, by omega, cur, (hkp g cur hcur).trans hcur, by omega⟩)
          have HBE4 : Hid (Below B w w4) := Lib.hid ((HR.out.2.mono hBw).trans HFR.out.1)
          clear hkp HFR HAP HR hwb
          go_wp2
          go_loopw [8] (fun ui wr => ∃ k : Nat, ui = .int .i64 (k : Int) ∧ k ≤ i ∧ Hid (AB B Bb aa i wr ∧ HCells wr ab j hsb ∧ Below B w wr)) (fun ui _ => i - (RowKit.intOf ui).toNat)
          case atStart => exact ⟨0, rfl, Nat.zero_le _, Lib.hid ⟨HA4.out, HC4.out, HBE4.out⟩⟩
          case round =>
            obtain ⟨k, rfl, hk, HR⟩ := hrel
            by_cases hlt3 : k < i
            · obtain ⟨g, rfl, hgB, hgBb, cur, hcur, hsz⟩ := HR.out.1 (by omega)
              obtain ⟨x0, h0⟩ : ∃ x0, cur[k * 2]? = some x0 := ⟨cur[k * 2], by simp⟩
              obtain ⟨x1, h1⟩ : ∃ x1, cur[k * 2 + 1]? = some x1 := ⟨cur[k * 2 + 1], by simp⟩
              have d0 : wr.cell? ⟨g, k * 2, none⟩ = some x0 := by simp [World.cell?, hcur, h0]
              have d1 : wr.cell? ⟨g, k * 2 + 1, none⟩ = some x1 := by simp [World.cell?, hcur, h1]
              have e0 : wr.frozen? ⟨g, k * 2, none⟩ = false := by simp [World.frozen?, hcur]
              have e1 : wr.frozen? ⟨g, k * 2 + 1, none⟩ = false := by simp [World.frozen?, hcur]
              have hit : (k : Int) < (i : Int) := by omega
              have HCU := Lib.hid hcur
              clear hcur h0 h1
              have HAB := Lib.hid HR.out.1
              have hgn := HGB.out
              go_wp2
              refine ⟨⟨k + 1, by go_num, hlt3, Lib.hid ⟨(HAB.out.set _).set _, (HR.out.2.1.set (fun g' e => (hgn g' e).1) hgBb _).set (fun g' e => (hgn g' e).1) hgBb _, (HR.out.2.2.setCell hgB _).setCell hgB _⟩⟩, ?_⟩
              simp [RowKit.intOf]; omega
            · obtain rfl : k = i := by omega
              obtain ⟨w5, hw5⟩ : ∃ x : World, x = wr := ⟨_, rfl⟩
              have HR5 : Hid (AB B Bb aa k w5 ∧ HCells w5 ab j hsb ∧ Below B w w5) := by rw [hw5]; exact HR
              rw [← hw5]
              clear HR hw5
              have hB5 : B ≤ w5.heap.size := Nat.le_trans hBw HR5.out.2.2.size
              obtain ⟨xs, hxl, hxs⟩ := HR5.out.1.cells
              have HXL := Lib.hid hxl
              have HXS := Lib.hid hxs
              clear hxl hxs
              go_wp2
              go_loopw [9, 10] (fun vg uy wr => ∃ t : Nat, t ≤ 20 ∧ uy = .int .i64 (t : Int) ∧ Hid (((t = 0 ∧ vg = .slice aa k k) ∨ (0 < t ∧ ∃ ys, wr.ownsRow w5.heap.size 80 2 vg (k + t) ys)) ∧ Below w5.heap.size w5 wr)) (fun _ uy _ => 20 - (RowKit.intOf uy).toNat)
              case atStart => exact ⟨0, Nat.zero_le _, rfl, Lib.hid ⟨.inl ⟨rfl, rfl⟩, Below.refl _ _⟩⟩
              case round =>
                obtain ⟨t, ht, rfl, HQ⟩ := hrel
                obtain ⟨vq, rfl⟩ : ∃ v : Value, v = u9 := ⟨_, rfl⟩
                have hsq := HQ.out.2.size
                by_cases htl : t < 20
                · have htt : (t : Int) < 20 := by omega
                  rcases HQ.out.1 with ⟨ht0, hv⟩ | ⟨ht0, ys, hO⟩
                  · subst hv
                    have HT0 := Lib.hid ht0
                    clear ht0
                    go_wp2_with (at_builtin; refine appClip2 rfl _ _ rfl Tryd.underlying22 (.agg #[.int .i64 0, .slice none 0 0]) 2 32 infoHunk rfl (by decide) (by decide) wr aa k xs (hunkCs (200 + (t : Int))) HXL.out (fun h0 => by { obtain ⟨ad, e, hc⟩ := HXS.out h0; exact ⟨ad, e, fun j u hj => by { have h1 := hc j u hj; rw [HQ.out.2.cell (World.block_lt_of_cell? w5 _ h1)]; exact h1 }⟩ }) rfl (hunkCs_one _) rfl rfl rfl (by omega) ?_; intro v8 w8 hO8 hb8)
                    have HNX : Hid ((∃ ys, w8.ownsRow w5.heap.size 80 2 v8 (k + (t + 1)) ys) ∧ Below w5.heap.size w5 w8) := Lib.hid ⟨⟨_, by have h1 := own_mono_size hO8 hsq; rw [show k + (t + 1) = k + 1 by have := HT0.out; omega]; exact h1⟩, HQ.out.2.trans (hb8.mono hsq)⟩
                    clear hO8 hb8
                    go_roundw
                    case rel => exact ⟨t + 1, by omega, by go_num, Lib.hid ⟨.inr ⟨by omega, HNX.out.1⟩, HNX.out.2⟩⟩
                    case measure => simp [RowKit.intOf]; omega
                  · have HO := Lib.hid hO
                    clear hO
                    go_wp2_with (at_builtin; refine appNew rfl _ _ rfl Tryd.underlying22 (.agg #[.int .i64 0, .slice none 0 0]) 2 32 infoHunk rfl (by decide) (by decide) w5.heap.size w5.heap.size w5 wr vq (k + t) ys (hunkCs (200 + (t : Int))) rfl (hunkCs_one _) rfl HO.out rfl rfl (by omega) HQ.out.2 (Nat.le_refl _) hsq ?_; intro v8 w8 hO8 hb8 hs8)
                    have HNX : Hid ((∃ ys, w8.ownsRow w5.heap.size 80 2 v8 (k + (t + 1)) ys) ∧ Below w5.heap.size w5 w8) := Lib.hid ⟨⟨_, hO8⟩, hb8⟩
                    clear hO8 hb8
                    go_roundw
                    case rel => exact ⟨t + 1, by omega, by go_num, Lib.hid ⟨.inr ⟨by omega, HNX.out.1⟩, HNX.out.2⟩⟩
                    case measure => simp [RowKit.intOf]; omega
                · obtain rfl : t = 20 := by omega
                  obtain ⟨ag, cg, rfl⟩ : ∃ a c, vq = .slice a (k + 20) c := by
                    rcases HQ.out.1 with ⟨h, _⟩ | ⟨_, ys, h⟩
                    · omega
                    · exact slice_own h
                  have HCB : Hid (HCells wr ab j hsb) := Lib.hid (HR5.out.2.1.keep (fun g hg h0 => HQ.out.2.block g (by
                    obtain ⟨g2, e, ⟨cur, hcur⟩, _⟩ := HR5.out.2.1.2 h0
                    rw [hg] at e
                    cases e
                    exact (Array.getElem?_eq_some_iff.1 hcur).1)))
                  have HBE : Hid (Below B w wr) := Lib.hid (HR5.out.2.2.trans (HQ.out.2.mono hB5))
                  have hkn : (k : Int) ≤ 4096 := by omega
                  clear HQ hsq
                  go_wp2
                  go_loopw [11] (fun ui wq => ∃ t : Nat, ui = .int .i64 (t : Int) ∧ t ≤ j ∧ Quiet wr wq) (fun ui _ => j - (RowKit.intOf ui).toNat)
                  case atStart => exact ⟨0, rfl, Nat.zero_le _, Quiet.refl _⟩
                  case round =>
                    obtain ⟨t, rfl, ht, hq⟩ := hrel
                    by_cases hlt5 : t < j
                    · obtain ⟨g, x, rfl, hg, hx, hc0, hc1⟩ := (HCB.out.keep (fun g _ _ => by rw [hq.heap])).at hlt5
                      have hk1 := HKB.out t x hx
                      obtain ⟨kx, hkx⟩ : ∃ kx, kx = x.1 := ⟨_, rfl⟩
                      rw [← hkx] at hk1 hc0
                      have hk2 : (kx : Int) < 100 := by omega
                      have hit : (t : Int) < (j : Int) := by omega
                      clear hx hkx
                      go_wp2
                      go_roundw
                      case rel => exact ⟨t + 1, by go_num, hlt5, hq⟩
                      case measure => simp [RowKit.intOf]; omega
                    · obtain rfl : t = j := by omega
                      go_wp2
                      go_ret
                      refine ⟨?_, HBE.out.trans (hq.below B)⟩
                      simp
end Go.Proofs.YtnbihjocdlpplaaDoor
/- The plain law of a text's lines, from the front: where a line ends is told by four bytes. -/
namespace Go.Proofs.YtnbihjocdlpplaaDoor
set_option linter.unusedVariables false
set_option linter.unusedSimpArgs false
open Go.Lib
/-- how wide the line end is that begins with byte b0, behind byte p, ahead of b1, b2 -/
def E4 (p b0 b1 b2 : Nat) : Nat :=
  if b0 = 10 then (if p = 13 then 0 else 1)
  else if b0 = 13 then (if b1 = 10 then 2 else 1)
  else if b0 = 194 ∧ b1 = 133 then 2
  else if b0 = 226 ∧ b1 = 128 ∧ (b2 = 168 ∨ b2 = 169) then 3 else 0
def byteN (l : List UInt8) (i : Nat) : Nat := (l.getD i 0).toNat
def prevN (l : List UInt8) (i : Nat) : Nat := if i = 0 then 0 else byteN l (i - 1)
theorem byteN_out {l : List UInt8} {i : Nat} (h : l.length ≤ i) : byteN l i = 0 := by
  unfold byteN
  rw [List.getD_eq_getElem?_getD, List.getElem?_eq_none h]
  rfl
theorem byteN_lt {l : List UInt8} {i : Nat} (h : byteN l i ≠ 0) : i < l.length := by
  rcases Nat.lt_or_ge i l.length with h1 | h1
  · exact h1
  · exact absurd (byteN_out h1) h
theorem endL_E4 (l : List UInt8) (i : Nat) : endL l i = E4 (prevN l i) (byteN l i) (byteN l (i + 1)) (byteN l (i + 2)) := by
  by_cases hi : l.length ≤ i
  · unfold endL
    rw [if_pos hi, byteN_out hi]
    rfl
  · have hs := dec_sep (D := l.drop i)
    simp only [getD_drop, List.length_drop] at hs
    unfold endL
    rw [if_neg hi]
    unfold E4
    show (if byteN l i = 10 then _ else _) = _
    by_cases h1 : byteN l i = 10
    · rw [if_pos h1, if_pos h1]
      unfold prevN
      by_cases h0 : i = 0
      · rw [if_pos h0, if_neg (by omega), if_neg (by omega)]
      · rw [if_neg h0]
        show (if 0 < i ∧ byteN l (i - 1) = 13 then _ else _) = _
        by_cases h2 : byteN l (i - 1) = 13
        · rw [if_pos ⟨by omega, h2⟩, if_pos h2]
        · rw [if_neg (fun h => h2 h.2), if_neg h2]
    · rw [if_neg h1, if_neg h1]
      show (if byteN l i = 13 then _ else _) = _
      by_cases h2 : byteN l i = 13
      · rw [if_pos h2, if_pos h2]
        show (if i + 1 < l.length ∧ byteN l (i + 1) = 10 then _ else _) = _
        by_cases h3 : byteN l (i + 1) = 10
        · rw [if_pos ⟨byteN_lt (by omega), h3⟩, if_pos h3]
        · rw [if_neg (fun h => h3 h.2), if_neg h3]
      · rw [if_neg h2, if_neg h2]
        have e0 : ((l.getD (i + 0) 0).toNat) = byteN l i := rfl
        have e1 : ((l.getD (i + 1) 0).toNat) = byteN l (i + 1) := rfl
        have e2 : ((l.getD (i + 2) 0).toNat) = byteN l (i + 2) := rfl
        rw [e0, e1, e2] at hs
        rcases hs with ⟨q1, q2, q3, q4, q5⟩ | ⟨q1, q2, q3, q4, q5, q6⟩ | ⟨q1, q2, q3⟩
        · rw [if_pos (.inl q1), if_pos ⟨q4, q5⟩, q2]
        · rw [if_pos (.inr q1), if_neg (by omega), if_pos ⟨q4, q5, q6⟩, q2]
        · rw [if_neg q1, if_neg (fun h => q2 ⟨by have := byteN_lt (l := l) (i := i + 1) (by omega); omega, h.1, h.2⟩), if_neg (fun h => q3 ⟨by have := byteN_lt (l := l) (i := i + 2) (by omega); omega, h.1, h.2.1, h.2.2⟩)]
/-- a byte ahead of the first line -/
def consH (b : UInt8) : List (List UInt8) → List (List UInt8)
  | [] => [[b]]
  | x :: r => (b :: x) :: r
/-- the lines with their ends, behind byte p -/
def spl (p : Nat) : List UInt8 → List (List UInt8)
  | [] => [[]]
  | b0 :: r =>
    match E4 p b0.toNat (byteN r 0) (byteN r 1), r with
    | 0, r => consH b0 (spl b0.toNat r)
    | 1, r => [b0] :: spl b0.toNat r
    | 2, b1 :: r => [b0, b1] :: spl b1.toNat r
    | _, b1 :: b2 :: r => [b0, b1, b2] :: spl b2.toNat r
    | _, r => [b0] :: spl b0.toNat r
termination_by l => l.length
theorem E4_le (p b0 b1 b2 : Nat) : E4 p b0 b1 b2 ≤ 3 := by
  unfold E4
  repeat' split
  all_goals omega
theorem spl_zero {p : Nat} {b0 : UInt8} {r : List UInt8} (h : E4 p b0.toNat (byteN r 0) (byteN r 1) = 0) : spl p (b0 :: r) = consH b0 (spl b0.toNat r) := by
  rw [spl.eq_def]
  simp only [h]
theorem spl_one {p : Nat} {b0 : UInt8} {r : List UInt8} (h : E4 p b0.toNat (byteN r 0) (byteN r 1) = 1) : spl p (b0 :: r) = [b0] :: spl b0.toNat r := by
  rw [spl.eq_def]
  simp only [h]
theorem spl_two {p : Nat} {b0 b1 : UInt8} {r : List UInt8} (h : E4 p b0.toNat (byteN (b1 :: r) 0) (byteN (b1 :: r) 1) = 2) : spl p (b0 :: b1 :: r) = [b0, b1] :: spl b1.toNat r := by
  rw [spl.eq_def]
  simp only [h]
theorem spl_three {p : Nat} {b0 b1 b2 : UInt8} {r : List UInt8} (h : E4 p b0.toNat (byteN (b1 :: b2 :: r) 0) (byteN (b1 :: b2 :: r) 1) = 3) : spl p (b0 :: b1 :: b2 :: r) = [b0, b1, b2] :: spl b2.toNat r := by
  rw [spl.eq_def]
  simp only [h]
theorem E4_two {p b0 b1 b2 : Nat} (h : E4 p b0 b1 b2 = 2) : b1 ≠ 0 := by
  unfold E4 at h
  repeat' split at h
  all_goals omega
theorem E4_three {p b0 b1 b2 : Nat} (h : E4 p b0 b1 b2 = 3) : b1 ≠ 0 ∧ b2 ≠ 0 := by
  unfold E4 at h
  repeat' split at h
  all_goals omega
theorem byteN_drop (l : List UInt8) (i j : Nat) : byteN (l.drop i) j = byteN l (i + j) := by
  unfold byteN
  rw [getD_drop]
theorem byteN_zero {l : List UInt8} {i : Nat} {b : UInt8} (h : l[i]? = some b) : byteN l i = b.toNat := by
  unfold byteN
  rw [List.getD_eq_getElem?_getD, h]
  rfl
/-- the two ways to tell the lines say the same -/
theorem linesGo_spl (l : List UInt8) : ∀ (f a i : Nat), a ≤ i → i ≤ l.length → l.length < i + f →
    (linesGo l f a i).map (pieceE l) = (match spl (prevN l i) (l.drop i) with | [] => [] | x :: r => ((l.drop a).take (i - a) ++ x) :: r)
  | 0, a, i, _, _, h => by omega
  | f + 1, a, i, hai, hil, hf => by
    rw [linesGo]
    by_cases h1 : l.length ≤ i
    · rw [if_pos h1, List.drop_of_length_le h1]
      have : i = l.length := by omega
      subst this
      simp only [spl, List.map_cons, List.map_nil, List.append_nil]
      unfold pieceE
      dsimp only
      rw [Nat.add_zero]
    · rw [if_neg h1]
      have hi : i < l.length := by omega
      have hd : l.drop i = l[i] :: l.drop (i + 1) := List.drop_eq_getElem_cons hi
      have hb0 : byteN l i = (l[i]).toNat := byteN_zero (by simp)
      have hE : E4 (prevN l i) (l[i]).toNat (byteN (l.drop (i + 1)) 0) (byteN (l.drop (i + 1)) 1) = endL l i := by
        rw [endL_E4, hb0, byteN_drop, byteN_drop]
      have hp1 : prevN l (i + 1) = (l[i]).toNat := by
        unfold prevN
        rw [if_neg (by omega), Nat.add_sub_cancel, hb0]
      by_cases h2 : endL l i = 0
      · rw [if_pos h2, linesGo_spl l f a (i + 1) (by omega) hi (by omega), hd, spl_zero (hE.trans h2), hp1]
        cases hs : spl (l[i]).toNat (l.drop (i + 1)) with
        | nil => exfalso; exact spl_ne _ _ hs
        | cons x r =>
          simp only [consH]
          congr 1
          rw [show i + 1 - a = (i - a) + 1 by omega, List.take_add_one, List.getElem?_drop, show a + (i - a) = i by omega, List.getElem?_eq_getElem hi]
          simp
      · rw [if_neg h2]
        have h3 := (endL_le l i).resolve_left h2
        have h4 := E4_le (prevN l i) (l[i]).toNat (byteN (l.drop (i + 1)) 0) (byteN (l.drop (i + 1)) 1)
        rw [hE] at h4
        have hrec := linesGo_spl l f (i + endL l i) (i + endL l i) (Nat.le_refl _) h3 (by omega)
        rw [List.map_cons, hrec]
        have key : ∀ k, endL l i = k → 0 < k → spl (prevN l i) (l.drop i) = ((l.drop i).take k) :: spl (prevN l (i + k)) (l.drop (i + k)) := fun k hk hk0 => by
          have hk3 : k = 1 ∨ k = 2 ∨ k = 3 := by omega
          rcases hk3 with rfl | rfl | rfl
          · rw [hd, spl_one (hE.trans hk), hp1]
            rfl
          · have hi2 : i + 1 < l.length := by omega
            have hd2 : l.drop (i + 1) = l[i + 1] :: l.drop (i + 2) := List.drop_eq_getElem_cons hi2
            have hp2 : prevN l (i + 2) = (l[i + 1]).toNat := by
              unfold prevN
              rw [if_neg (by omega), show i + 2 - 1 = i + 1 by omega]
              exact byteN_zero (by simp)
            rw [hd, hd2, spl_two (by rw [← hd2]; exact hE.trans hk), hp2]
            rfl
          · have hi2 : i + 1 < l.length := by omega
            have hi3 : i + 2 < l.length := by omega
            have hd2 : l.drop (i + 1) = l[i + 1] :: l.drop (i + 2) := List.drop_eq_getElem_cons hi2
            have hd3 : l.drop (i + 2) = l[i + 2] :: l.drop (i + 3) := List.drop_eq_getElem_cons hi3
            have hp3 : prevN l (i + 3) = (l[i + 2]).toNat := by
              unfold prevN
              rw [if_neg (by omega), show i + 3 - 1 = i + 2 by omega]
              exact byteN_zero (by simp)
            rw [hd, hd2, hd3, spl_three (by rw [← hd3, ← hd2]; exact hE.trans hk), hp3]
            rfl
        obtain ⟨k, hk⟩ : ∃ k, endL l i = k := ⟨_, rfl⟩
        rw [hk] at h2 h3 ⊢
        rw [key k hk (by omega)]
        cases hs : spl (prevN l (i + k)) (l.drop (i + k)) with
        | nil => exfalso; exact spl_ne _ _ hs
        | cons x r =>
          simp only [Nat.sub_self, List.take_zero, List.nil_append]
          congr 1
          unfold pieceE
          dsimp only
          rw [show i + k - a = (i - a) + k by omega, List.take_add, List.drop_drop, show a + (i - a) = i by omega]
where
  spl_ne (p : Nat) (l : List UInt8) : spl p l ≠ [] := by
    rw [spl.eq_def]
    split
    · simp
    · split
      · unfold consH; split <;> simp
      all_goals simp
theorem splitA_spl (l : List UInt8) : splitA l = spl 0 l := by
  have h := linesGo_spl l (l.length + 1) 0 0 (Nat.le_refl _) (Nat.zero_le _) (by omega)
  unfold splitA linesL
  rw [h]
  rw [List.drop_zero]
  show (match spl 0 l with | [] => [] | x :: r => ((l.take 0) ++ x) :: r) = _
  cases spl 0 l with
  | nil => rfl
  | cons x r => rfl
end Go.Proofs.YtnbihjocdlpplaaDoor
