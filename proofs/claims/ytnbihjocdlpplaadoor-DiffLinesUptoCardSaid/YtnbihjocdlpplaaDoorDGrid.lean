/- The memory of the table of least numbers. -/
import Derived.Test.YtnbihjocdlpplaaDoorDSplitD
import Derived.Deep.MidRow
namespace Go.Proofs.YtnbihjocdlpplaaDoor
set_option linter.unusedVariables false
set_option linter.unusedSimpArgs false
open Go.RowKit
open Go.Lib
def I16 (k : Nat) : Value := .int .i16 (k : Int)
def zero16 : List Value := List.replicate 513 (.int .i16 0)
theorem zero16_len : zero16.length = 513 := List.length_replicate
theorem infoRow16 : (Tryd.prog.info? 73).map (fun i => (i.zero, i.size, i.bytes)) = some (some (.agg zero16.toArray), 513, 1026) := by kernel_rfl
theorem zero16_one : ∀ v ∈ zero16, v.oneCell' = true := fun v hv => by rw [List.eq_of_mem_replicate hv]; rfl
theorem zero16_at {j : Nat} (hj : j < 513) : zero16[j]? = some (.int .i16 0) := by unfold zero16; rw [List.getElem?_replicate, if_pos hj]
theorem size16 : (Tryd.prog.info? 73).map (·.size) = some 513 := by kernel_rfl
theorem under16 : Tryd.prog.underlying 73 = some (.array 513 71) := by kernel_rfl
theorem run_build16 (w : World) : (Instr.build 73 #[]).run Tryd.prog w = .ok (.agg zero16.toArray) w := by kernel_rfl
theorem made_rep (m : Nat) (hm : 0 < m) (z : Value) (N : Nat) : (madeCells (List.replicate m z).toArray N).toList = List.replicate N z := by
  apply List.ext_getElem?
  intro j
  by_cases hj : j < N
  · have h1 : j % m < m := Nat.mod_lt _ hm
    simp [madeCells, hj, h1]
  · simp [madeCells, hj]
theorem made16 (N : Nat) : (madeCells zero16.toArray N).toList = List.replicate N (.int .i16 0) := made_rep 513 (by decide) _ N
theorem makeL (w : World) (n : Nat) (hn : n ≤ 512) : ∃ wm, (Instr.makeSlice 64 (.int .i64 ((n : Int) + 1)) (.int .i64 ((n : Int) + 1))).run Tryd.prog w = .ok (.slice (some ⟨w.heap.size, 0, none⟩) (n + 1) (n + 1)) wm ∧ Row wm w.heap.size 73 (List.replicate ((n + 1) * 513) (.int .i16 0)) ∧ Below w.heap.size w wm := by
  obtain ⟨i0, hi, hz0, hz1, hz2⟩ := info_parts infoRow16
  have hr := run_make (P := Tryd.prog) w 64 73 i0 (.agg zero16.toArray) Tryd.underlying64 hi hz0 .i64 .i64 ((n : Int) + 1) ((n : Int) + 1) (by omega) (Int.le_refl _) (by rw [hz2]; omega) (by omega)
  rw [hz1] at hr
  have e : ((n : Int) + 1).toNat = n + 1 := by omega
  rw [e] at hr
  refine ⟨_, hr, ?_, (Below.refl _ w).alloc (Nat.le_refl _) _⟩
  have h1 := heap_alloc_new w (.cells (madeCells zero16.toArray ((n + 1) * 513)) 73)
  unfold Row
  rw [← made16]
  simpa [Value.cells] using h1
theorem Row.setCells {e : TypeId} {g : Nat} : ∀ (vs : List Value) (o : Nat) (w : World) (xs : List Value), Row w g e xs → ∃ ys, Row (w.setCells g o vs) g e ys ∧ ys.length = xs.length ∧ (∀ j, j < o ∨ o + vs.length ≤ j → ys[j]? = xs[j]?) ∧ (o + vs.length ≤ xs.length → ∀ j, j < vs.length → ys[o + j]? = vs[j]?) ∧ (∀ v ∈ ys, v ∈ xs ∨ v ∈ vs)
  | [], o, w, xs, h => ⟨xs, h, rfl, fun _ _ => rfl, fun _ j hj => absurd hj (Nat.not_lt_zero _), fun v hv => .inl hv⟩
  | v :: r, o, w, xs, h => by
    obtain ⟨ys, h1, h2, h3, h4, h5⟩ := Row.setCells r (o + 1) _ _ (h.set o v)
    refine ⟨ys, h1, by rw [h2, List.length_set], fun j hj => ?_, fun hl j hj => ?_, fun u hu => ?_⟩
    · rw [h3 j (by rw [List.length_cons] at hj; omega), List.getElem?_set_ne (by rw [List.length_cons] at hj; omega)]
    · rw [List.length_cons] at hl hj
      cases j with
      | zero =>
        rw [Nat.add_zero, h3 o (.inl (by omega)), List.getElem?_set_self (by omega)]
        rfl
      | succ j =>
        have := h4 (by rw [List.length_set]; omega) j (by omega)
        rw [show o + (j + 1) = o + 1 + j by omega, this]
        rfl
    · rcases h5 u hu with h | h
      · rcases List.mem_or_eq_of_mem_set h with h | h
        · exact .inl h
        · exact .inr (h ▸ List.mem_cons_self)
      · exact .inr (List.mem_cons_of_mem _ h)
/-- a table of rows of 513 numbers, of which some are known -/
def Grid (w : World) (g n : Nat) (K : Nat → Nat → Option Nat) : Prop := ∃ xs, Row w g 73 xs ∧ xs.length = (n + 1) * 513 ∧ (∀ v ∈ xs, v.oneCell' = true) ∧ ∀ i j k, i ≤ n → j < 513 → K i j = some k → xs[i * 513 + j]? = some (I16 k)
theorem Grid.keep {B : Nat} {w w' : World} {g n : Nat} {K : Nat → Nat → Option Nat} (h : Grid w g n K) (hb : Below B w w') (hB : g < B) : Grid w' g n K := by
  obtain ⟨xs, h1, h2, h0, h3⟩ := h
  exact ⟨xs, h1.keep hb hB, h2, h0, h3⟩
theorem pos_inj {i j i' j' : Nat} (h : i * 513 + j = i' * 513 + j') (hj : j < 513) (hj' : j' < 513) : i = i' ∧ j = j' := by omega
theorem pos_lt {i j n : Nat} (hi : i ≤ n) (hj : j < 513) : i * 513 + j < (n + 1) * 513 := by omega
theorem Grid.cell {w : World} {g n : Nat} {K : Nat → Nat → Option Nat} (h : Grid w g n K) {i j : Nat} (hi : i ≤ n) (hj : j < 513) : ∃ v, w.cell? ⟨g, i * 513 + j, none⟩ = some v ∧ w.frozen? ⟨g, i * 513 + j, none⟩ = false ∧ ∀ k, K i j = some k → v = I16 k := by
  obtain ⟨xs, h1, h2, h0, h3⟩ := h
  have hl := pos_lt hi hj
  have hv : xs[i * 513 + j]? = some (xs[i * 513 + j]'(by omega)) := List.getElem?_eq_getElem _
  refine ⟨_, (h1.cell _).trans hv, h1.frozen _, fun k hk => ?_⟩
  have := h3 i j k hi hj hk
  rw [hv] at this
  exact Option.some.inj this
theorem Grid.lt {w : World} {g n : Nat} {K : Nat → Nat → Option Nat} (h : Grid w g n K) : g < w.heap.size := by
  obtain ⟨xs, h1, _⟩ := h
  exact h1.lt
theorem Grid.set {w : World} {g n : Nat} {K : Nat → Nat → Option Nat} (h : Grid w g n K) {i j k : Nat} (hi : i ≤ n) (hj : j < 513) : Grid (w.setCell ⟨g, i * 513 + j, none⟩ (I16 k)) g n (fun i' j' => if i' = i ∧ j' = j then some k else K i' j') := by
  obtain ⟨xs, h1, h2, h0, h3⟩ := h
  refine ⟨_, h1.set _ _, by rw [List.length_set, h2], fun v hv => (List.mem_or_eq_of_mem_set hv).elim (h0 v) (fun e => by subst e; rfl), fun i' j' k' hi' hj' hk => ?_⟩
  have hl := pos_lt hi hj
  by_cases he : i' = i ∧ j' = j
  · obtain ⟨rfl, rfl⟩ := he
    simp only [and_self, if_true] at hk
    cases hk
    exact List.getElem?_set_self (by omega)
  · simp only [if_neg he] at hk
    rw [List.getElem?_set_ne (fun e => he (by have := pos_inj e hj hj'; exact ⟨this.1.symm, this.2.symm⟩))]
    exact h3 i' j' k' hi' hj' hk
theorem Grid.less {w : World} {g n : Nat} {K K' : Nat → Nat → Option Nat} (h : Grid w g n K) (hk : ∀ i j k, i ≤ n → j < 513 → K' i j = some k → K i j = some k) : Grid w g n K' := by
  obtain ⟨xs, h1, h2, h0, h3⟩ := h
  exact ⟨xs, h1, h2, h0, fun i j k hi hj he => h3 i j k hi hj (hk i j k hi hj he)⟩
theorem Grid.there {w : World} {g n : Nat} {K : Nat → Nat → Option Nat} (h : Grid w g n K) {i : Nat} (hi : i ≤ n) : w.there g (i * 513) 513 := by
  intro j hj
  obtain ⟨v, h1, h2, _⟩ := h.cell hi hj
  exact ⟨by rw [h1]; rfl, h2⟩
/-- a whole row is stored -/
theorem Grid.row {w : World} {g n : Nat} {K : Nat → Nat → Option Nat} (h : Grid w g n K) {i : Nat} (hi : i ≤ n) (vs : List Value) (hv : vs.length = 513) (hv1 : ∀ v ∈ vs, v.oneCell' = true) (R : Nat → Option Nat) (hR : ∀ j k, j < 513 → R j = some k → vs[j]? = some (I16 k)) : Grid (w.setCells g (i * 513) vs) g n (fun i' j' => if i' = i then R j' else K i' j') := by
  obtain ⟨xs, h1, h2, h0, h3⟩ := h
  obtain ⟨ys, g1, g2, g3, g4, g5⟩ := Row.setCells vs (i * 513) w xs h1
  refine ⟨ys, g1, by rw [g2, h2], fun v h => (g5 v h).elim (h0 v) (hv1 v), fun i' j' k' hi' hj' hk => ?_⟩
  by_cases he : i' = i
  · subst he
    simp only [if_true] at hk
    rw [g4 (by rw [hv, h2]; omega) j' (by omega)]
    exact hR j' k' hj' hk
  · simp only [if_neg he] at hk
    rw [g3 _ (by rw [hv]; omega)]
    exact h3 i' j' k' hi' hj' hk
/-- a row of the table, read whole -/
theorem Grid.read {w : World} {g n : Nat} {K : Nat → Nat → Option Nat} (h : Grid w g n K) {i : Nat} (hi : i ≤ n) : ∃ cs : List Value, w.rangeAt g (i * 513) cs ∧ cs.length = 513 ∧ (∀ v ∈ cs, v.oneCell' = true) ∧ (∀ j k, j < 513 → K i j = some k → cs[j]? = some (I16 k)) := by
  obtain ⟨xs, h1, h2, h0, h3⟩ := h
  refine ⟨(xs.drop (i * 513)).take 513, fun j v hj => ?_, by rw [List.length_take, List.length_drop, h2]; omega, fun v hv => h0 v (List.mem_of_mem_drop (List.mem_of_mem_take hv)), fun j k hj hk => ?_⟩
  · have hl : j < 513 := by
      have := (List.getElem?_eq_some_iff.1 hj).1
      rw [List.length_take] at this
      omega
    rw [List.getElem?_take, if_pos hl, List.getElem?_drop] at hj
    rw [h1.cell, hj]
  · rw [List.getElem?_take, if_pos hj, List.getElem?_drop]
    exact h3 i j k hi hj hk
end Go.Proofs.YtnbihjocdlpplaaDoor
