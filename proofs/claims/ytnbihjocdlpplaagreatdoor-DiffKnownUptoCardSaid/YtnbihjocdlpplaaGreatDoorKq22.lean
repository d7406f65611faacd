/- Texts joined, one behind the other (DApart, LDiffLines). -/
import Derived.Test.YtnbihjocdlpplaaGreatDoorKq21
/- Two patches share nothing: the statements' apart. -/
namespace Go.Proofs.YtnbihjocdlpplaaGreatDoor
set_option linter.unusedVariables false
set_option linter.unusedSimpArgs false
open Go.RowKit
open Go.Lib hiding intOf
/-- a hunk's row of lines -/
def rowOf (h : HCell) : R4 := match h.2.1 with
  | some ad => (ad.block, ad.off, h.2.2.1)
  | none => (0, 0, 0)
theorem cell_size {w : World} {g o : Nat} {cur : Array Value} {e : TypeId} {fr : Nat × Nat} {v : Value} (h : w.heap[g]? = some (.cells cur e fr)) (hc : w.cell? ⟨g, o, none⟩ = some v) : o < cur.size := by
  simp only [World.cell?, h] at hc
  exact (Array.getElem?_eq_some_iff.1 (by simpa using hc)).1
/-- what is known of a patch's hunks, as rows -/
structure HRows (B : Nat) (w : World) (hs : List HCell) : Prop where
  val : ∀ (i : Nat) (h : HCell), hs[i]? = some h → (.slice h.2.1 h.2.2.1 h.2.2.2 : Value) = rowT (rowOf h)
  mkd : ∀ (i : Nat) (h : HCell), hs[i]? = some h → ∃ cur : Array Value, w.heap[(rowOf h).1]? = some (.cells cur 9 (0, 0)) ∧ (rowOf h).2.1 + (rowOf h).2.2 ≤ cur.size
  dist : ∀ (i j : Nat) (p q : HCell), hs[i]? = some p → hs[j]? = some q → (rowOf p).1 = (rowOf q).1 → i = j
  lo : ∀ (i : Nat) (h : HCell), hs[i]? = some h → B ≤ (rowOf h).1 ∧ 0 < (rowOf h).2.2
theorem SW.hrows {B : Nat} {w : World} {vo : Value} {hs : List HCell} {H : List Hk} {vals : List Wait} (h : SW B w vo hs H vals) (hc : ∀ x ∈ hs, x.2.2.1 = x.2.2.2) (hne : ∀ x ∈ H, x.2 ≠ []) : HRows B w hs := by
  have key : ∀ (i : Nat) (x : HCell), hs[i]? = some x → ∃ g o, x.2.1 = some ⟨g, o, none⟩ ∧ rowOf x = (g, o, x.2.2.1) ∧ 0 < x.2.2.1 ∧ B ≤ g ∧ ∃ cur : Array Value, w.heap[g]? = some (.cells cur 9 (0, 0)) ∧ o + x.2.2.1 ≤ cur.size := fun i x hx => by
    have hil := (List.getElem?_eq_some_iff.1 hx).1
    have hy : H[i]? = some (H[i]'(by rw [← h.len]; exact hil)) := by simp
    obtain ⟨q1, q2, q3, q4, q5⟩ := h.each i x _ hx hy
    have hpos : 0 < x.2.2.1 := by
      rw [← q4.len]
      exact List.length_pos_iff.2 (hne _ (List.mem_of_getElem? hy))
    obtain ⟨g, o, y, e1, e2, e3, e4⟩ := q4.at (k := x.2.2.1 - 1) (by omega)
    obtain ⟨f1, ⟨cur, f2⟩, _⟩ := q5 _ e1
    refine ⟨g, o, e1, by unfold rowOf; rw [e1], hpos, f1, cur, f2, ?_⟩
    have := cell_size f2 e4
    omega
  refine ⟨fun i x hx => ?_, fun i x hx => ?_, fun i j p q hp hq e => ?_, fun i x hx => ?_⟩
  · obtain ⟨g, o, e1, e2, _⟩ := key i x hx
    rw [e2, e1, hc x (List.mem_of_getElem? hx)]
    rfl
  · obtain ⟨g, o, e1, e2, _, _, cur, e3, e4⟩ := key i x hx
    rw [e2]
    exact ⟨cur, e3, e4⟩
  · obtain ⟨g, o, e1, e2, _⟩ := key i p hp
    obtain ⟨g', o', e1', e2', _⟩ := key j q hq
    rw [e2, e2'] at e
    exact h.dist i j p q _ _ hp hq e1 e1' e
  · obtain ⟨g, o, e1, e2, e3, e4, _⟩ := key i x hx
    rw [e2]
    exact ⟨e4, e3⟩
/-- the cells of a row of hunks -/
def HCells (w : World) (a : Option Addr) (n : Nat) (hs : List HCell) : Prop := hs.length = n ∧ (0 < n → ∃ g, a = some ⟨g, 0, none⟩ ∧ (∃ cur : Array Value, w.heap[g]? = some (.cells cur 25 (0, 0))) ∧ ∀ i h, hs[i]? = some h → w.cell? ⟨g, i * 2, none⟩ = some (.int .i64 (h.1 : Int)) ∧ w.cell? ⟨g, i * 2 + 1, none⟩ = some (.slice h.2.1 h.2.2.1 h.2.2.2))
theorem SW.hcells {B : Nat} {w : World} {a : Option Addr} {c n : Nat} {hs : List HCell} {H : List Hk} {vals : List Wait} (h : SW B w (.slice a n c) hs H vals) : HCells w a n hs := by
  obtain ⟨hn, _, _⟩ := own_caps h.own
  subst hn
  refine ⟨rfl, fun h0 => ?_⟩
  obtain ⟨g, rfl, hg, hc⟩ := own_cell h.own h0
  obtain ⟨_, cur, hcur⟩ := own_block h.own (b := g) rfl
  refine ⟨g, rfl, ⟨cur, hcur⟩, fun i x hx => ?_⟩
  have f0 := flat_at (f := hkCells) (c := 2) (fun _ => rfl) hx (j := 0) rfl
  have f1 := flat_at (f := hkCells) (c := 2) (fun _ => rfl) hx (j := 1) rfl
  exact ⟨hc _ _ f0, hc _ _ f1⟩
theorem HCells.at {w : World} {a : Option Addr} {n : Nat} {hs : List HCell} (h : HCells w a n hs) {i : Nat} (hi : i < n) : ∃ g x, a = some ⟨g, 0, none⟩ ∧ g < w.heap.size ∧ hs[i]? = some x ∧ w.cell? ⟨g, i * 2, none⟩ = some (.int .i64 (x.1 : Int)) ∧ w.cell? ⟨g, i * 2 + 1, none⟩ = some (.slice x.2.1 x.2.2.1 x.2.2.2) := by
  obtain ⟨hl, h⟩ := h
  obtain ⟨g, e, ⟨cur, hc⟩, hx⟩ := h (by omega)
  have hxi : hs[i]? = some (hs[i]'(by omega)) := by simp
  obtain ⟨h1, h2⟩ := hx i _ hxi
  exact ⟨g, _, e, (Array.getElem?_eq_some_iff.1 hc).1, hxi, h1, h2⟩
theorem HCells.keep {w w' : World} {a : Option Addr} {n : Nat} {hs : List HCell} (h : HCells w a n hs) (hb : ∀ g, a = some ⟨g, 0, none⟩ → 0 < n → w'.heap[g]? = w.heap[g]?) : HCells w' a n hs := by
  obtain ⟨hl, h⟩ := h
  refine ⟨hl, fun h0 => ?_⟩
  obtain ⟨g, e, ⟨cur, hc⟩, hx⟩ := h h0
  refine ⟨g, e, ⟨cur, (hb g e h0).trans hc⟩, fun i x hi => ?_⟩
  rw [cell_rows (p := ⟨g, i * 2, none⟩) (hb g e h0), cell_rows (p := ⟨g, i * 2 + 1, none⟩) (hb g e h0)]
  exact hx i x hi
/-- a row of hunks that may be written -/
def AB (B Bb : Nat) (a : Option Addr) (n : Nat) (w : World) : Prop := 0 < n → ∃ g, a = some ⟨g, 0, none⟩ ∧ B ≤ g ∧ g < Bb ∧ ∃ cur : Array Value, w.heap[g]? = some (.cells cur 25 (0, 0)) ∧ n * 2 ≤ cur.size
theorem mem_cat {hsA hsB : List HCell} {j : Nat} {r : R4} (h : (hsA.map rowOf ++ hsB.map rowOf)[j]? = some r) : (j < hsA.length ∧ ∃ x, hsA[j]? = some x ∧ rowOf x = r) ∨ (hsA.length ≤ j ∧ ∃ x, hsB[j - hsA.length]? = some x ∧ rowOf x = r) := by
  by_cases hj : j < hsA.length
  · rw [List.getElem?_append_left (by simpa using hj), List.getElem?_map] at h
    cases hx : hsA[j]? with
    | none => rw [hx] at h; cases h
    | some x => rw [hx] at h; cases h; exact .inl ⟨hj, x, rfl, rfl⟩
  · rw [List.getElem?_append_right (by simp; omega), List.length_map, List.getElem?_map] at h
    cases hx : hsB[j - hsA.length]? with
    | none => rw [hx] at h; cases h
    | some x => rw [hx] at h; cases h; exact .inr ⟨by omega, x, rfl, rfl⟩
theorem all_next {hs : List HCell} {i : Nat} {x : HCell} (h : hs[i]? = some x) {pre : List Value} : pre ++ (hs.take i).map (fun h => (.slice h.2.1 h.2.2.1 h.2.2.2 : Value)) ++ [.slice x.2.1 x.2.2.1 x.2.2.2] = pre ++ (hs.take (i + 1)).map (fun h => (.slice h.2.1 h.2.2.1 h.2.2.2 : Value)) := by
  rw [take_next h, List.map_append, List.append_assoc]
  rfl
theorem AB.set {B Bb g n o : Nat} {w : World} (h : AB B Bb (some ⟨g, 0, none⟩) n w) (v : Value) : AB B Bb (some ⟨g, 0, none⟩) n (w.setCell ⟨g, o, none⟩ v) := fun h0 => by
  obtain ⟨g', e, h1, h2, cur, h3, h4⟩ := h h0
  cases e
  exact ⟨g, rfl, h1, h2, cur.setIfInBounds o v, by simp [World.setCell, Array.getElem?_modify, h3], by simpa using h4⟩
theorem HCells.set {w : World} {a : Option Addr} {n g o Bb : Nat} {hs : List HCell} (h : HCells w a n hs) (hB : ∀ g', a = some ⟨g', 0, none⟩ → Bb ≤ g') (hg : g < Bb) (v : Value) : HCells (w.setCell ⟨g, o, none⟩ v) a n hs :=
  h.keep (fun g' e _ => Below.heap_setCell _ _ _ _ (by have := hB g' e; intro e2; simp only at e2; omega))
/-- one element put behind a slice without spare room, which may be empty -/
theorem run_append_clip2 {P : Program} {T ty e : TypeId} (hT : P.underlying T = some (.slice e)) (z : Value) (size bytes : Nat) (hinfo : (P.info? e).map (fun i => (i.zero, i.size, i.bytes)) = some (some z, size, bytes)) (hz : z.cells.size = size) (hs0 : 0 < size) (hby : bytes ≤ 4096)
    (wp : World) (a : Option Addr) (n : Nat) (xs cs : List Value) (hxl : xs.length = n * size) (hxs : 0 < n → ∃ ad, a = some ad ∧ ∀ j u, xs[j]? = some u → wp.cell? (ad.add j) = some u) (hcs : cs.length = size) (hone : ∀ u ∈ cs, u.oneCell' = true) (hl : n ≤ 1073741824) :
    ∃ v' w', (Builtin.append_ #[T, T] ty #[.slice a n n, .slice (some ⟨wp.heap.size, 0, none⟩) 1 1]).run P (wp.alloc (.cells cs.toArray e)) = .ok v' w' ∧ w'.ownsRow wp.heap.size e size v' (n + 1) (xs ++ cs) ∧ Below wp.heap.size wp w' := by
  obtain ⟨i0, hi, hz0, hz1, hz2⟩ := info_parts hinfo
  have hbt : (n + 1) * bytes ≤ 140737488355328 := by
    calc (n + 1) * bytes ≤ (n + 1) * 4096 := Nat.mul_le_mul (Nat.le_refl _) hby
      _ ≤ 140737488355328 := by omega
  have hsz : (wp.alloc (.cells cs.toArray e)).heap.size = wp.heap.size + 1 := by simp
  have hb : Below wp.heap.size wp (wp.alloc (.cells cs.toArray e)) := (Below.refl _ wp).alloc (Nat.le_refl _) _
  cases a with
  | none =>
    have hn : n = 0 := by
      rcases Nat.eq_zero_or_pos n with h | h
      · exact h
      · obtain ⟨ad, e, _⟩ := hxs h; cases e
    subst hn
    obtain rfl : xs = [] := List.eq_nil_of_length_eq_zero (by simpa using hxl)
    obtain ⟨v', w', hrun, r1, r2, _⟩ := run_append_own (P := P) (wp.alloc (.cells cs.toArray e)) wp.heap.size T ty e i0 z size bytes hT hi hz0 hz1 hz2 hz hs0 (.slice none 0 0) 0 [] (World.ownsRow_nil _ _ _ _) ⟨wp.heap.size, 0, none⟩ 1 1 cs (by rw [hcs, Nat.one_mul]) (new_cells _ _ _) hone (by unfold maxLen; omega) hbt (by rw [hsz]; omega)
    exact ⟨v', w', hrun, r1, hb.grown r2 (by rw [hsz]; omega) (fun k hk => by cases hk)⟩
  | some ad =>
    have hc : ∀ j u, xs[j]? = some u → wp.cell? (ad.add j) = some u := by
      rcases Nat.eq_zero_or_pos n with h | h
      · subst h
        obtain rfl : xs = [] := List.eq_nil_of_length_eq_zero (by simpa using hxl)
        intro j u hj; cases hj
      · obtain ⟨ad', e, hc⟩ := hxs h; cases e; exact hc
    obtain ⟨v', w', hrun, r1, r2⟩ := run_append_arg_grows (P := P) (wp.alloc (.cells cs.toArray e)) T ty e i0 z size bytes hT hi hz0 hz1 hz2 hz hs0 ad n n xs hxl (fun j u hj => by
      have h1 := hc j u hj
      have h2 : (ad.add j).block < wp.heap.size := World.block_lt_of_cell? wp _ h1
      rw [hb.cell h2]
      exact h1) ⟨wp.heap.size, 0, none⟩ 1 1 cs (by rw [hcs, Nat.one_mul]) (new_cells _ _ _) (by omega) (by unfold maxLen; omega) hbt
    exact ⟨v', w', hrun, own_mono_size r1 (by rw [hsz]; omega), hb.grown r2 (by rw [hsz]; omega) (fun k hk => by cases hk)⟩
theorem appClip2 {T e : TypeId} {ops : Array Oper} {rest : List Oper} {o : Oper} {a : Act} {w : World} {Q : Exit → Act → World → Prop} (hgd : o.guard = none) (sl x : Operand) (ho : o.op = .call { callee := .builtin .append, args := #[sl, x], argTypes := #[T, T] })
    (hT : Tryz.prog.underlying T = some (.slice e)) (z : Value) (size bytes : Nat) (hinfo : (Tryz.prog.info? e).map (fun i => (i.zero, i.size, i.bytes)) = some (some z, size, bytes)) (hz : z.cells.size = size) (hs0 : 0 < size) (hby : bytes ≤ 4096)
    (wp : World) (ad : Option Addr) (n : Nat) (xs cs : List Value) (hxl : xs.length = n * size) (hxs : 0 < n → ∃ a, ad = some a ∧ ∀ j u, xs[j]? = some u → wp.cell? (a.add j) = some u) (hcs : cs.length = size) (hone : ∀ u ∈ cs, u.oneCell' = true) (hs : a.eval sl = .slice ad n n) (hx : a.eval x = .slice (some ⟨wp.heap.size, 0, none⟩) 1 1) (hw : w = wp.alloc (.cells cs.toArray e)) (hl : n ≤ 1073741824)
    (h : ∀ v' w', w'.ownsRow wp.heap.size e size v' (n + 1) (xs ++ cs) → Below wp.heap.size wp w' → wpList Tryz.prog ops Q rest (a.put o.dst v') w') : wpList Tryz.prog ops Q (o :: rest) a w := by
  subst hw
  obtain ⟨v', w', hrun, h1, h2⟩ := run_append_clip2 (ty := o.type) hT z size bytes hinfo hz hs0 hby wp ad n xs cs hxl hxs hcs hone hl
  refine wpList_plain hgd fun K hK => ?_
  unfold Oper.wp
  simp [execOp, ho, resolve, invoke, builtin, hs, hx, hrun, Result.andThen]
  exact hK _ _ (h v' w' h1 h2)
theorem AB.cells {B Bb n : Nat} {a : Option Addr} {w : World} (h : AB B Bb a n w) : ∃ xs : List Value, xs.length = n * 2 ∧ (0 < n → ∃ ad, a = some ad ∧ ∀ j u, xs[j]? = some u → w.cell? (ad.add j) = some u) := by
  rcases Nat.eq_zero_or_pos n with h0 | h0
  · subst h0
    exact ⟨[], rfl, fun h => by omega⟩
  · obtain ⟨g, rfl, h1, h2, cur, h3, h4⟩ := h h0
    refine ⟨cur.toList.take (n * 2), by simp; omega, fun _ => ⟨⟨g, 0, none⟩, rfl, fun j u hj => ?_⟩⟩
    rw [cell_add, Nat.zero_add]
    rw [List.getElem?_take] at hj
    split at hj
    · simp only [World.cell?, h3]
      simpa using hj
    · cases hj
def hunkCs (k : Int) : List Value := [.int .i64 k, .slice none 0 0]
theorem hunkCs_one (k : Int) : ∀ u ∈ hunkCs k, u.oneCell' = true := by
  intro u hu
  simp only [hunkCs, List.mem_cons, List.not_mem_nil, or_false] at hu
  rcases hu with rfl | rfl <;> rfl
set_option maxHeartbeats 8000000 in
set_option maxRecDepth 100000 in
theorem apartC (w1 w : World) (B Bb : Nat) (va vb : Value) (Ha Hb : List Hk) (ha : PatchAt B w1 va Ha) (hw : Below w1.heap.size w1 w) (hb : PatchAt Bb w vb Hb) (hB1 : B ≤ w1.heap.size) (hBb : w1.heap.size ≤ Bb)
    (ka : ∀ x ∈ Ha, x.2 ≠ []) (kb : ∀ x ∈ Hb, x.2 ≠ []) (na : Ha.length ≤ 4096) (nb : Hb.length ≤ 4096) (la : ∀ x ∈ Ha, x.2.length ≤ 1048576) (lb : ∀ x ∈ Hb, x.2.length ≤ 1048576) (kk : ∀ x ∈ Hb, x.1 < 100) :
    Calls Tryz.prog 14 #[va, vb] w fun e w' => e = .returned (.bool true) ∧ Below B w w' := by
  obtain ⟨aa, ca, hsa, rfl, hsw, hcl⟩ := ha
  obtain ⟨ab, cb, hsb, rfl, hswb, hclb⟩ := hb
  have hsw' := hsw.keep hw
  have hws := hw.size
  have lenA := hsw'.len
  have lenB := hswb.len
  have HRa := Lib.hid (hsw'.hrows hcl ka)
  have HRb := Lib.hid (hswb.hrows hclb kb)
  have HCa := Lib.hid hsw'.hcells
  have HCb := Lib.hid hswb.hcells
  obtain ⟨n, hn⟩ : ∃ n, n = Ha.length := ⟨_, rfl⟩
  obtain ⟨m, hm⟩ : ∃ m, m = Hb.length := ⟨_, rfl⟩
  have hltA : ∀ i x, hsa[i]? = some x → (rowOf x).1 < w1.heap.size := fun i x hx => by
    obtain ⟨cur, h1, _⟩ := (hsw.hrows hcl ka).mkd i x hx
    exact (Array.getElem?_eq_some_iff.1 h1).1
  have hga : ∀ g, aa = some ⟨g, 0, none⟩ → 0 < n → g < w1.heap.size ∧ B ≤ g := fun g hg h0 => by
    subst hg
    obtain ⟨q1, cur, q2⟩ := own_block hsw.own (b := g) rfl
    exact ⟨(Array.getElem?_eq_some_iff.1 q2).1, q1⟩
  have hgb : ∀ g, ab = some ⟨g, 0, none⟩ → Bb ≤ g ∧ g < w.heap.size := fun g hg => by
    subst hg
    obtain ⟨q1, cur, q2⟩ := own_block hswb.own (b := g) rfl
    exact ⟨q1, (Array.getElem?_eq_some_iff.1 q2).1⟩
  have hlenA : ∀ i x, hsa[i]? = some x → (rowOf x).2.2 ≤ 1048576 := fun i x hx => by
    have hil := (List.getElem?_eq_some_iff.1 hx).1
    have hy : Ha[i]? = some (Ha[i]'(by rw [← lenA]; exact hil)) := by simp
    obtain ⟨q1, q2, q3, q4, _⟩ := hsw'.each i x _ hx hy
    have h1 := la _ (List.mem_of_getElem? hy)
    have h2 := q4.len
    have h3 := congrArg (fun v => match v with | Value.slice _ k _ => k | _ => 0) (HRa.out.val i x hx)
    simp only [rowT] at h3
    omega
  have hlenB : ∀ i x, hsb[i]? = some x → (rowOf x).2.2 ≤ 1048576 := fun i x hx => by
    have hil := (List.getElem?_eq_some_iff.1 hx).1
    have hy : Hb[i]? = some (Hb[i]'(by rw [← lenB]; exact hil)) := by simp
    obtain ⟨q1, q2, q3, q4, _⟩ := hswb.each i x _ hx hy
    have h1 := lb _ (List.mem_of_getElem? hy)
    have h2 := q4.len
    have h3 := congrArg (fun v => match v with | Value.slice _ k _ => k | _ => 0) (HRb.out.val i x hx)
    simp only [rowT] at h3
    omega
  have hkb : ∀ (i : Nat) (x : HCell), hsb[i]? = some x → x.1 < 100 := fun i x hx => by
    have hil := (List.getElem?_eq_some_iff.1 hx).1
    have hy : Hb[i]? = some (Hb[i]'(by rw [← lenB]; exact hil)) := by simp
    have h1 := (hswb.each i x _ hx hy).1
    rw [h1]
    exact kk _ (List.mem_of_getElem? hy)
  have HDT : Hid (DistT (hsa.map rowOf ++ hsb.map rowOf)) := Lib.hid (fun j j' r r' h1 h2 e => by
    rcases mem_cat h1 with ⟨j1, x, hx, rfl⟩ | ⟨j1, x, hx, rfl⟩ <;> rcases mem_cat h2 with ⟨j2, y, hy, rfl⟩ | ⟨j2, y, hy, rfl⟩
    · exact HRa.out.dist j j' x y hx hy e
    · have q1 := hltA j x hx
      have q2 := (HRb.out.lo _ y hy).1
      omega
    · have q1 := hltA j' y hy
      have q2 := (HRb.out.lo _ x hx).1
      omega
    · have := HRb.out.dist _ _ x y hx hy e
      omega)
  have HLO : Hid (∀ (j : Nat) (r : R4), (hsa.map rowOf ++ hsb.map rowOf)[j]? = some r → B ≤ r.1 ∧ 0 < r.2.2 ∧ r.2.2 ≤ 1048576) := Lib.hid (fun j r h1 => by
    rcases mem_cat h1 with ⟨j1, x, hx, rfl⟩ | ⟨j1, x, hx, rfl⟩
    · exact ⟨(HRa.out.lo j x hx).1, (HRa.out.lo j x hx).2, hlenA j x hx⟩
    · exact ⟨by have := (HRb.out.lo _ x hx).1; omega, (HRb.out.lo _ x hx).2, hlenB _ x hx⟩)
  have HMK : ∀ W, Below w.heap.size w W → MkT W (hsa.map rowOf ++ hsb.map rowOf) 0 0 := fun W hW j r h1 => by
    rcases mem_cat h1 with ⟨j1, x, hx, rfl⟩ | ⟨j1, x, hx, rfl⟩
    · obtain ⟨cur, q1, q2⟩ := HRa.out.mkd j x hx
      exact ⟨cur, (hW.block _ (Array.getElem?_eq_some_iff.1 q1).1).trans q1, q2, fun t ht h => by omega⟩
    · obtain ⟨cur, q1, q2⟩ := HRb.out.mkd _ x hx
      exact ⟨cur, (hW.block _ (Array.getElem?_eq_some_iff.1 q1).1).trans q1, q2, fun t ht h => by omega⟩
  have HMKH := Lib.hid HMK
  have HNR : Hid (∀ (g : Nat) (cur : Array Value), w.heap[g]? = some (.cells cur 25 (0, 0)) → ∀ r ∈ (hsa.map rowOf ++ hsb.map rowOf), r.1 ≠ g) := Lib.hid (fun g cur hg r hr e => by
    obtain ⟨j, hj⟩ := List.mem_iff_getElem?.1 hr
    obtain ⟨cur2, h2, _⟩ := HMK w (Below.refl _ _) j r hj
    rw [e, hg] at h2
    cases h2)
  have HVA : Hid ((hsa ++ hsb).map (fun h => (.slice h.2.1 h.2.2.1 h.2.2.2 : Value)) = (hsa.map rowOf ++ hsb.map rowOf).map rowT) := Lib.hid (by
    rw [List.map_append, List.map_append, List.map_map, List.map_map]
    congr 1
    · exact List.map_congr_left fun x hx => by obtain ⟨i, hi⟩ := List.mem_iff_getElem?.1 hx; exact HRa.out.val i x hi
    · exact List.map_congr_left fun x hx => by obtain ⟨i, hi⟩ := List.mem_iff_getElem?.1 hx; exact HRb.out.val i x hi)
  have HGA := Lib.hid hga
  have HGB := Lib.hid hgb
  have HKB := Lib.hid hkb
  rw [← hn] at HCa lenA na ⊢
  rw [← hm] at HCb lenB nb ⊢
  have HLA := Lib.hid lenA
  have HLB := Lib.hid lenB
  have hBw : B ≤ w.heap.size := by omega
  have H0 : Hid (w.ownsRow w.heap.size 22 1 (.slice none 0 0) 0 []) := Lib.hid (World.ownsRow_nil _ _ _ _)
  clear hsw hsw' hswb hcl hclb hltA hga hgb hlenA hlenB hkb HMK hw ka kb la lb kk lenA lenB hn hm
  go_enter Tryz.func14, Tryz.ntmps14
  go_wp2
  go_loopw [5, 6] (fun vv ui wr => ∃ i : Nat, ui = .int .i64 (i : Int) ∧ i ≤ n ∧ Hid (wr.ownsRow w.heap.size 22 1 vv i ((hsa.take i).map (fun h => (.slice h.2.1 h.2.2.1 h.2.2.2 : Value))) ∧ Below w.heap.size w wr)) (fun _ ui _ => n - (RowKit.intOf ui).toNat)
  case atStart => exact ⟨0, rfl, Nat.zero_le _, Lib.hid ⟨H0.out, Below.refl _ _⟩⟩
  case round =>
    obtain ⟨i, rfl, hi, HR⟩ := hrel
    obtain ⟨vv, rfl⟩ : ∃ v : Value, v = u5 := ⟨_, rfl⟩
    have hwb := HR.out.2.size
    by_cases hlt : i < n
    · obtain ⟨g, x, rfl, hg, hx, hc0, hc1⟩ := (HCa.out.keep (w' := wr) (fun g hg _ => HR.out.2.block g (by have := (HCa.out.at hlt); obtain ⟨g2, _, e, hg2, _⟩ := this; rw [hg] at e; cases e; exact hg2))).at hlt
      have HNX := Lib.hid (all_next hx (pre := []))
      simp only [List.nil_append] at HNX
      have hit : (i : Int) < (n : Int) := by omega
      clear hx
      go_wp2_with (at_builtin; refine appNew rfl _ _ rfl Tryz.underlying79 (.slice none 0 0) 1 24 infoSlS rfl (by decide) (by decide) w.heap.size w.heap.size w wr vv i ((hsa.take i).map (fun h => (.slice h.2.1 h.2.2.1 h.2.2.2 : Value))) [.slice x.2.1 x.2.2.1 x.2.2.2] rfl (by intro u hu; simp only [List.mem_singleton] at hu; subst hu; rfl) rfl HR.out.1 rfl rfl (by omega) HR.out.2 (Nat.le_refl _) hwb ?_; intro v8 w8 hO8 hb8 hs8)
      have HO8 : Hid (w8.ownsRow w.heap.size 22 1 v8 (i + 1) ((hsa.take (i + 1)).map (fun h => (.slice h.2.1 h.2.2.1 h.2.2.2 : Value))) ∧ Below w.heap.size w w8) := Lib.hid ⟨by rw [← HNX.out]; exact hO8, hb8⟩
      clear hO8 hb8
      go_roundw
      case rel => exact ⟨i + 1, by go_num, hlt, HO8⟩
      case measure => simp [RowKit.intOf]; omega
    · obtain rfl : i = n := by omega
      have hd : hsa.take i = hsa := List.take_of_length_le (by rw [HLA.out]; exact Nat.le_refl _)
      rw [hd] at HR
      clear hd
      go_wp2
      go_loopw [5, 7] (fun vv ui wr => ∃ j : Nat, ui = .int .i64 (j : Int) ∧ j ≤ m ∧ Hid (wr.ownsRow w.heap.size 22 1 vv (i + j) (hsa.map (fun h => (.slice h.2.1 h.2.2.1 h.2.2.2 : Value)) ++ (hsb.take j).map (fun h => (.slice h.2.1 h.2.2.1 h.2.2.2 : Value))) ∧ Below w.heap.size w wr)) (fun _ ui _ => m - (RowKit.intOf ui).toNat)
      case atStart => exact ⟨0, rfl, Nat.zero_le _, Lib.hid ⟨by simpa using HR.out.1, HR.out.2⟩⟩
      case round =>
        clear HR hwb
        obtain ⟨j, rfl, hj, HR⟩ := hrel
        obtain ⟨vv, rfl⟩ : ∃ v : Value, v = u5 := ⟨_, rfl⟩
        have hwb := HR.out.2.size
        by_cases hlt2 : j < m
        · obtain ⟨g, x, rfl, hg, hx, hc0, hc1⟩ := (HCb.out.keep (w' := wr) (fun g hg _ => HR.out.2.block g (by have := (HCb.out.at hlt2); obtain ⟨g2, _, e, hg2, _⟩ := this; rw [hg] at e; cases e; exact hg2))).at hlt2
          have HNX := Lib.hid (all_next hx (pre := hsa.map (fun h => (.slice h.2.1 h.2.2.1 h.2.2.2 : Value))))
          have hit : (j : Int) < (m : Int) := by omega
          clear hx
          go_wp2_with (at_builtin; refine appNew rfl _ _ rfl Tryz.underlying79 (.slice none 0 0) 1 24 infoSlS rfl (by decide) (by decide) w.heap.size w.heap.size w wr vv (i + j) (hsa.map (fun h => (.slice h.2.1 h.2.2.1 h.2.2.2 : Value)) ++ (hsb.take j).map (fun h => (.slice h.2.1 h.2.2.1 h.2.2.2 : Value))) [.slice x.2.1 x.2.2.1 x.2.2.2] rfl (by intro u hu; simp only [List.mem_singleton] at hu; subst hu; rfl) rfl HR.out.1 rfl rfl (by omega) HR.out.2 (Nat.le_refl _) hwb ?_; intro v8 w8 hO8 hb8 hs8)
          have HO8 : Hid (w8.ownsRow w.heap.size 22 1 v8 (i + (j + 1)) (hsa.map (fun h => (.slice h.2.1 h.2.2.1 h.2.2.2 : Value)) ++ (hsb.take (j + 1)).map (fun h => (.slice h.2.1 h.2.2.1 h.2.2.2 : Value))) ∧ Below w.heap.size w w8) := Lib.hid ⟨by rw [← HNX.out]; exact hO8, hb8⟩
          clear hO8 hb8
          go_roundw
          case rel => exact ⟨j + 1, by go_num, hlt2, HO8⟩
          case measure => simp [RowKit.intOf]; omega
        · obtain rfl : j = m := by omega
          have hd : hsb.take j = hsb := List.take_of_length_le (by rw [HLB.out]; exact Nat.le_refl _)
          have hall := HR.out.1
          rw [hd, ← List.map_append, HVA.out] at hall
          obtain ⟨av, cv, hvv⟩ := slice_own hall
          subst hvv
          have HAP := Lib.hid (apartT wr B w.heap.size av (i + j) cv _ hall (HMKH.out wr HR.out.2) HDT.out HLO.out (by omega) (Nat.le_trans hBw hwb))
          clear hd hall
          go_upto_region 12 with (go_at_call 46; refine (HAP.out).mono ?_; rintro e w4 ⟨rfl, hfr⟩; have HFR := Lib.hid hfr; clear hfr)
          have hz4 := HFR.out.1.size
          have hkp : ∀ (g : Nat) (cur : Array Value), w.heap[g]? = some (.cells cur 25 (0, 0)) → w4.heap[g]? = w.heap[g]? := fun g cur hcur => by
            have hgl := (Array.getElem?_eq_some_iff.1 hcur).1
            rw [HFR.out.2 g (Nat.lt_of_lt_of_le hgl hwb) (HNR.out g cur hcur), HR.out.2.block g hgl]
          have HC4 : Hid (HCells w4 ab j hsb) := Lib.hid (HCb.out.keep (fun g hg h0 => by
            obtain ⟨g2, e, ⟨cur, hcur⟩, _⟩ := HCb.out.2 h0
            rw [hg] at e
            cases e
            exact hkp g cur hcur))
          have HA4 : Hid (AB B Bb aa i w4) := Lib.hid (fun h0 => by
            obtain ⟨g, e, ⟨cur, hcur⟩, hx⟩ := HCa.out.2 h0
            obtain ⟨q1, q2⟩ := HGA.out g e h0
            obtain ⟨_, hl⟩ := hx (i - 1) (hsa[i - 1]'(by rw [HLA.out]; omega)) (by simp)
            have hsz := cell_size hcur hl
            exact ⟨g, e, q2, by omega, cur, (hkp g cur hcur).trans hcur, by omega⟩)
          have HBE4 : Hid (Below B w w4) := Lib.hid ((HR.out.2.mono hBw).trans HFR.out.1)
          clear hkp HFR HAP HR hwb
          go_wp2
          go_loopw [8] (fun ui wr => ∃ k : Nat, ui = .int .i64 (k : Int) ∧ k ≤ i ∧ Hid (AB B Bb aa i wr ∧ HCells wr ab j hsb ∧ Below B w wr)) (fun ui _ => i - (RowKit.intOf ui).toNat)
          case atStart => exact ⟨0, rfl, Nat.zero_le _, Lib.hid ⟨HA4.out, HC4.out, HBE4.out⟩⟩
          case round =>
            obtain ⟨k, rfl, hk, HR⟩ := hrel
            by_cases hlt3 : k < i
            · obtain ⟨g, rfl, hgB, hgBb, cur, hcur, hsz⟩ := HR.out.1 (by omega)
              obtain ⟨x0, h0⟩ : ∃ x0, cur[k * 2]? = some x0 := ⟨cur[k * 2], by simp⟩
              obtain ⟨x1, h1⟩ : ∃ x1, cur[k * 2 + 1]? = some x1 := ⟨cur[k * 2 + 1], by simp⟩
              have d0 : wr.cell? ⟨g, k * 2, none⟩ = some x0 := by simp [World.cell?, hcur, h0]
              have d1 : wr.cell? ⟨g, k * 2 + 1, none⟩ = some x1 := by simp [World.cell?, hcur, h1]
              have e0 : wr.frozen? ⟨g, k * 2, none⟩ = false := by simp [World.frozen?, hcur]
              have e1 : wr.frozen? ⟨g, k * 2 + 1, none⟩ = false := by simp [World.frozen?, hcur]
              have hit : (k : Int) < (i : Int) := by omega
              have HCU := Lib.hid hcur
              clear hcur h0 h1
              have HAB := Lib.hid HR.out.1
              have hgn := HGB.out
              go_wp2
              refine ⟨⟨k + 1, by go_num, hlt3, Lib.hid ⟨(HAB.out.set _).set _, (HR.out.2.1.set (fun g' e => (hgn g' e).1) hgBb _).set (fun g' e => (hgn g' e).1) hgBb _, (HR.out.2.2.setCell hgB _).setCell hgB _⟩⟩, ?_⟩
              simp [RowKit.intOf]; omega
            · obtain rfl : k = i := by omega
              obtain ⟨w5, hw5⟩ : ∃ x : World, x = wr := ⟨_, rfl⟩
              have HR5 : Hid (AB B Bb aa k w5 ∧ HCells w5 ab j hsb ∧ Below B w w5) := by rw [hw5]; exact HR
              rw [← hw5]
              clear HR hw5
              have hB5 : B ≤ w5.heap.size := Nat.le_trans hBw HR5.out.2.2.size
              obtain ⟨xs, hxl, hxs⟩ := HR5.out.1.cells
              have HXL := Lib.hid hxl
              have HXS := Lib.hid hxs
              clear hxl hxs
              go_wp2
              go_loopw [9, 10] (fun vg uy wr => ∃ t : Nat, t ≤ 20 ∧ uy = .int .i64 (t : Int) ∧ Hid (((t = 0 ∧ vg = .slice aa k k) ∨ (0 < t ∧ ∃ ys, wr.ownsRow w5.heap.size 25 2 vg (k + t) ys)) ∧ Below w5.heap.size w5 wr)) (fun _ uy _ => 20 - (RowKit.intOf uy).toNat)
              case atStart => exact ⟨0, Nat.zero_le _, rfl, Lib.hid ⟨.inl ⟨rfl, rfl⟩, Below.refl _ _⟩⟩
              case round =>
                obtain ⟨t, ht, rfl, HQ⟩ := hrel
                obtain ⟨vq, rfl⟩ : ∃ v : Value, v = u9 := ⟨_, rfl⟩
                have hsq := HQ.out.2.size
                by_cases htl : t < 20
                · have htt : (t : Int) < 20 := by omega
                  rcases HQ.out.1 with ⟨ht0, hv⟩ | ⟨ht0, ys, hO⟩
                  · subst hv
                    have HT0 := Lib.hid ht0
                    clear ht0
                    go_wp2_with (at_builtin; refine appClip2 rfl _ _ rfl Tryz.underlying26 (.agg #[.int .i64 0, .slice none 0 0]) 2 32 infoHunk rfl (by decide) (by decide) wr aa k xs (hunkCs (200 + (t : Int))) HXL.out (fun h0 => by { obtain ⟨ad, e, hc⟩ := HXS.out h0; exact ⟨ad, e, fun j u hj => by { have h1 := hc j u hj; rw [HQ.out.2.cell (World.block_lt_of_cell? w5 _ h1)]; exact h1 }⟩ }) rfl (hunkCs_one _) rfl rfl rfl (by omega) ?_; intro v8 w8 hO8 hb8)
                    have HNX : Hid ((∃ ys, w8.ownsRow w5.heap.size 25 2 v8 (k + (t + 1)) ys) ∧ Below w5.heap.size w5 w8) := Lib.hid ⟨⟨_, by have h1 := own_mono_size hO8 hsq; rw [show k + (t + 1) = k + 1 by have := HT0.out; omega]; exact h1⟩, HQ.out.2.trans (hb8.mono hsq)⟩
                    clear hO8 hb8
                    go_roundw
                    case rel => exact ⟨t + 1, by omega, by go_num, Lib.hid ⟨.inr ⟨by omega, HNX.out.1⟩, HNX.out.2⟩⟩
                    case measure => simp [RowKit.intOf]; omega
                  · have HO := Lib.hid hO
                    clear hO
                    go_wp2_with (at_builtin; refine appNew rfl _ _ rfl Tryz.underlying26 (.agg #[.int .i64 0, .slice none 0 0]) 2 32 infoHunk rfl (by decide) (by decide) w5.heap.size w5.heap.size w5 wr vq (k + t) ys (hunkCs (200 + (t : Int))) rfl (hunkCs_one _) rfl HO.out rfl rfl (by omega) HQ.out.2 (Nat.le_refl _) hsq ?_; intro v8 w8 hO8 hb8 hs8)
                    have HNX : Hid ((∃ ys, w8.ownsRow w5.heap.size 25 2 v8 (k + (t + 1)) ys) ∧ Below w5.heap.size w5 w8) := Lib.hid ⟨⟨_, hO8⟩, hb8⟩
                    clear hO8 hb8
                    go_roundw
                    case rel => exact ⟨t + 1, by omega, by go_num, Lib.hid ⟨.inr ⟨by omega, HNX.out.1⟩, HNX.out.2⟩⟩
                    case measure => simp [RowKit.intOf]; omega
                · obtain rfl : t = 20 := by omega
                  obtain ⟨ag, cg, rfl⟩ : ∃ a c, vq = .slice a (k + 20) c := by
                    rcases HQ.out.1 with ⟨h, _⟩ | ⟨_, ys, h⟩
                    · omega
                    · exact slice_own h
                  have HCB : Hid (HCells wr ab j hsb) := Lib.hid (HR5.out.2.1.keep (fun g hg h0 => HQ.out.2.block g (by
                    obtain ⟨g2, e, ⟨cur, hcur⟩, _⟩ := HR5.out.2.1.2 h0
                    rw [hg] at e
                    cases e
                    exact (Array.getElem?_eq_some_iff.1 hcur).1)))
                  have HBE : Hid (Below B w wr) := Lib.hid (HR5.out.2.2.trans (HQ.out.2.mono hB5))
                  have hkn : (k : Int) ≤ 4096 := by omega
                  clear HQ hsq
                  go_wp2
                  go_loopw [11] (fun ui wq => ∃ t : Nat, ui = .int .i64 (t : Int) ∧ t ≤ j ∧ Quiet wr wq) (fun ui _ => j - (RowKit.intOf ui).toNat)
                  case atStart => exact ⟨0, rfl, Nat.zero_le _, Quiet.refl _⟩
                  case round =>
                    obtain ⟨t, rfl, ht, hq⟩ := hrel
                    by_cases hlt5 : t < j
                    · obtain ⟨g, x, rfl, hg, hx, hc0, hc1⟩ := (HCB.out.keep (fun g _ _ => by rw [hq.heap])).at hlt5
                      have hk1 := HKB.out t x hx
                      obtain ⟨kx, hkx⟩ : ∃ kx, kx = x.1 := ⟨_, rfl⟩
                      rw [← hkx] at hk1 hc0
                      have hk2 : (kx : Int) < 100 := by omega
                      have hit : (t : Int) < (j : Int) := by omega
                      clear hx hkx
                      go_wp2
                      go_roundw
                      case rel => exact ⟨t + 1, by go_num, hlt5, hq⟩
                      case measure => simp [RowKit.intOf]; omega
                    · obtain rfl : t = j := by omega
                      go_wp2
                      go_ret
                      refine ⟨?_, HBE.out.trans (hq.below B)⟩
                      simp
end Go.Proofs.YtnbihjocdlpplaaGreatDoor
/- DiffLines: the walk. -/
namespace Go.Proofs.YtnbihjocdlpplaaGreatDoor
set_option linter.unusedVariables false
set_option linter.unusedSimpArgs false
open Go.RowKit
open Go.Lib hiding intOf
def tooL (A C : List (List UInt8)) : Prop := 512 < A.length ∨ 512 < C.length
instance (A C : List (List UInt8)) : Decidable (tooL A C) := inferInstanceAs (Decidable (_ ∨ _))
def linesH (A C : List (List UInt8)) : List Hk := if tooL A C then [] else patchL A C
def linesE (A C : List (List UInt8)) : Int := if tooL A C then 4 else 0
theorem lines_own {w w' : World} {A C : List (List UInt8)} {e : Ending} (h : LinesP w A C e w') : ∃ v B, e = .returned (.tuple #[v, .int .i64 (linesE A C)]) ∧ PatchAt B w' v (linesH A C) ∧ w.heap.size ≤ B ∧ B ≤ w'.heap.size ∧ Below w.heap.size w w' := by
  rcases h with ⟨h, he, hb⟩ | ⟨h, v, B, he, hP, h1, h2, hb⟩
  · have ht : tooL A C := h
    refine ⟨.slice none 0 0, w.heap.size, by rw [he]; unfold linesE; rw [if_pos ht], ?_, Nat.le_refl _, hb.size, hb⟩
    unfold linesH
    rw [if_pos ht]
    exact ⟨none, 0, [], rfl, SW.start _ _ _ (fun p hp => by cases hp), fun x hx => by cases hx⟩
  · have ht : ¬ tooL A C := fun h' => by
      unfold tooL at h'
      omega
    refine ⟨v, B, by rw [he]; unfold linesE; rw [if_neg ht], ?_, h1, h2, hb⟩
    unfold linesH
    rw [if_neg ht]
    exact hP
theorem lines_read {w w' : World} {A C : List (List UInt8)} {e : Ending} (h : LinesQ w A C e w') : ∃ a c, e = .returned (.tuple #[.slice a (linesH A C).length c, .int .i64 (linesE A C)]) ∧ ReadsK w' a (linesH A C).length ((linesH A C).map toI) ∧ Below w.heap.size w w' := by
  rcases h with ⟨h, he, hb⟩ | ⟨h, v, hs, B, he, hS, h1, h2, hb⟩
  · have ht : tooL A C := h
    refine ⟨none, 0, by rw [he]; unfold linesE linesH; rw [if_pos ht, if_pos ht]; rfl, ?_, hb⟩
    unfold linesH
    rw [if_pos ht]
    exact ReadsK.nil _ _
  · have ht : ¬ tooL A C := fun h' => by
      unfold tooL at h'
      omega
    obtain ⟨a, c, rfl⟩ := slice_own hS.own
    have hr := hS.reads
    refine ⟨a, c, by rw [he]; unfold linesE linesH; rw [if_neg ht, if_neg ht, ← hr.1], ?_, hb⟩
    unfold linesH
    rw [if_neg ht]
    exact hr.2
theorem linesH_ok (A C : List (List UInt8)) : (∀ x ∈ linesH A C, (1 ≤ x.1 ∧ x.1 ≤ 3) ∧ x.2 ≠ [] ∧ x.2.length ≤ 1024) ∧ (linesH A C).length ≤ 1024 := by
  unfold linesH
  by_cases h : tooL A C
  · rw [if_pos h]
    exact ⟨fun x hx => (by cases hx), Nat.zero_le _⟩
  · rw [if_neg h]
    have hok := patch_okB A C
    have hm := okB_mem _ 0 hok
    have hl := lines_sides _ (fun x hx => (hm x hx).1)
    rw [(patch_sidesI A C).1, (patch_sidesI A C).2] at hl
    have h3 := len_lines _ (fun x hx => (hm x hx).2)
    unfold tooL at h
    rw [List.length_map] at h3
    refine ⟨fun x hx => ?_, by omega⟩
    have h1 := hm (toI x) (List.mem_map.2 ⟨x, hx, rfl⟩)
    have h2 := linesK_mem (List.mem_map.2 ⟨x, hx, rfl⟩ : toI x ∈ (patchL A C).map toI)
    have e1 : (toI x).1 = (x.1 : Int) := rfl
    have e2 : (toI x).2 = x.2 := rfl
    rw [e1, e2] at h1
    rw [e2] at h2
    exact ⟨⟨by omega, by omega⟩, h1.2, by omega⟩
theorem lenI {H : List Hk} (h : ∀ x ∈ H, x.2.length ≤ 1024) : ∀ x ∈ H.map toI, x.2.length ≤ 4611686018427387904 := fun x hx => by
  obtain ⟨y, hy, rfl⟩ := List.mem_map.1 hx
  have := h y hy
  show y.2.length ≤ _
  omega
set_option maxHeartbeats 4000000 in
set_option maxRecDepth 100000 in
theorem diffLines_walk (w : World) (x : List UInt8) (hx : x.length ≤ 1048576) (y : List UInt8) (hy : y.length ≤ 1048576) (hT : Tabs w) :
    Calls Tryz.prog 4 #[.string (bstr x), .string (bstr y)] w fun e w' => e = .returned (.bool true) ∧ Below w.heap.size w w' := by
  have HT := Lib.hid hT
  have HC := Lib.hid (fun W hW => (linesC W x y (by omega) (by omega) hW).mono (fun e w' h => lines_own h))
  have HR := Lib.hid (fun W => (linesR W x y (by omega) (by omega)).mono (fun e w' h => lines_read h))
  have hok := linesH_ok (splitD x) (splitD y)
  obtain ⟨H, hH⟩ : ∃ H, H = linesH (splitD x) (splitD y) := ⟨_, rfl⟩
  obtain ⟨cd, hcd⟩ : ∃ c, c = linesE (splitD x) (splitD y) := ⟨_, rfl⟩
  rw [← hH, ← hcd] at HC HR
  rw [← hH] at hok
  have HOK := Lib.hid hok
  have hlen := hok.2
  have hcc : (cd == cd) = true := by simp
  clear hT hok hH hcd
  go_enter Tryz.func4, Tryz.ntmps4
  go_upto_region 2 with (go_at_call 11; refine (HC.out w HT.out).mono ?_; rintro e w1 ⟨v1, B1, rfl, hP1, hB1, hz1, hb1⟩; obtain ⟨a1, rfl, hr1⟩ := hP1.reads; have HP1 := Lib.hid hP1; have HR1 := Lib.hid hr1; have HB1 := Lib.hid hb1; have HT1 := Lib.hid (HT.out.next hb1); have HZ1 := Lib.hid hz1; have HL1 := Lib.hid hB1; clear hP1 hr1 hb1 hz1 hB1)
  go_upto_region 3 with (go_at_call 11; refine (HC.out w1 HT1.out).mono ?_; rintro e w2 ⟨v2, B2, rfl, hP2, hB2, hz2, hb2⟩; obtain ⟨a2, rfl, hr2⟩ := hP2.reads; have HP2 := Lib.hid hP2; have HR2 := Lib.hid hr2; have HB2 := Lib.hid hb2; have HL2 := Lib.hid hB2; clear hP2 hr2 hb2 hz2 hB2)
  have s1 := HB1.out.size
  have s2 := HB2.out.size
  go_upto_region 4 with (go_at_call 12; refine (HR.out w2).mono ?_; rintro e w3 ⟨a3, c3, rfl, hr3, hb3⟩; have HR3 := Lib.hid hr3; have HB3 := Lib.hid hb3; clear hr3 hb3)
  have s3 := HB3.out.size
  have R1 : Hid (ReadsK w3 a1 H.length (H.map toI)) := Lib.hid ((HR1.out.keep HB2.out (Nat.le_refl _)).keep HB3.out (Nat.le_refl _))
  have R2 : Hid (ReadsK w3 a2 H.length (H.map toI)) := Lib.hid (HR2.out.keep HB3.out (Nat.le_refl _))
  have HBW : Hid (Below w.heap.size w w3) := Lib.hid (HB1.out.trans ((HB2.out.trans (HB3.out.mono s2)).mono s1))
  have HLI := Lib.hid (lenI (fun x hx => (HOK.out.1 x hx).2.2))
  obtain ⟨n, hn⟩ : ∃ n, n = H.length := ⟨_, rfl⟩
  rw [← hn] at R1 R2 HR3 hlen ⊢
  have HN := Lib.hid hn
  clear hn
  go_wp2_with (first
    | (go_at_call_of 13 (Value.slice a1 n n); refine (eqHunks w3 a1 a3 n n c3 _ R1.out HR3.out (by omega) HLI.out).mono ?_; rintro e w4 ⟨rfl, hq4⟩; have HQ4 := Lib.hid hq4; clear hq4)
    | (go_at_call_of 13 (Value.slice a2 n n); refine (eqHunks w4 a2 a3 n n c3 _ (R2.out.quiet HQ4.out) (HR3.out.quiet HQ4.out) (by omega) HLI.out).mono ?_; rintro e w5 ⟨rfl, hq5⟩; have HQ5 := Lib.hid (HQ4.out.trans hq5); clear hq5)
    | (go_at_call 14; refine (apartC w1 w5 B1 B2 _ _ H H (HN.out ▸ HP1.out) (HB2.out.trans ((HB3.out.trans (HQ5.out.below _)).mono s2)) (HN.out ▸ (HP2.out.keep (HB3.out.trans ((HQ5.out.below _).mono s3)))) HZ1.out HL2.out (fun x hx => (HOK.out.1 x hx).2.1) (fun x hx => (HOK.out.1 x hx).2.1) (by rw [← HN.out]; omega) (by rw [← HN.out]; omega) (fun x hx => by have := (HOK.out.1 x hx).2.2; omega) (fun x hx => by have := (HOK.out.1 x hx).2.2; omega) (fun x hx => by have := (HOK.out.1 x hx).1; omega)).mono ?_; rintro e w6 ⟨rfl, hb6⟩; have HB6 := Lib.hid ((HBW.out.trans (HQ5.out.below _)).trans (hb6.mono HL1.out)); clear hb6)
    | (go_at_call 10; refine (worksC w6 (HT.out.next HB6.out)).mono ?_; rintro e w7 ⟨rfl, hb7⟩; have HB7 := Lib.hid (HB6.out.trans (hb7.mono HB6.out.size)); clear hb7))
  go_ret
  exact ⟨rfl, HB7.out⟩
end Go.Proofs.YtnbihjocdlpplaaGreatDoor
