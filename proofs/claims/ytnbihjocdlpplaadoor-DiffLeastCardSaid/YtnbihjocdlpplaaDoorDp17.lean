/- Texts joined, one behind the other (DGrid, Arr, DLeast). -/
import Derived.Test.YtnbihjocdlpplaaDoorDp16
import Derived.Deep.MidRow
import Derived.Deep.QuietTactic
/- The memory of the table of least numbers. -/
namespace Go.Proofs.YtnbihjocdlpplaaDoor
set_option linter.unusedVariables false
set_option linter.unusedSimpArgs false
open Go.RowKit
open Go.Lib
def I16 (k : Nat) : Value := .int .i16 (k : Int)
def zero16 : List Value := List.replicate 513 (.int .i16 0)
theorem zero16_len : zero16.length = 513 := List.length_replicate
theorem infoRow16 : (Tryd.prog.info? 73).map (fun i => (i.zero, i.size, i.bytes)) = some (some (.agg zero16.toArray), 513, 1026) := by kernel_rfl
theorem zero16_one : ∀ v ∈ zero16, v.oneCell' = true := fun v hv => by rw [List.eq_of_mem_replicate hv]; rfl
theorem zero16_at {j : Nat} (hj : j < 513) : zero16[j]? = some (.int .i16 0) := by unfold zero16; rw [List.getElem?_replicate, if_pos hj]
theorem size16 : (Tryd.prog.info? 73).map (·.size) = some 513 := by kernel_rfl
theorem under16 : Tryd.prog.underlying 73 = some (.array 513 71) := by kernel_rfl
theorem run_build16 (w : World) : (Instr.build 73 #[]).run Tryd.prog w = .ok (.agg zero16.toArray) w := by kernel_rfl
theorem made_rep (m : Nat) (hm : 0 < m) (z : Value) (N : Nat) : (madeCells (List.replicate m z).toArray N).toList = List.replicate N z := by
  apply List.ext_getElem?
  intro j
  by_cases hj : j < N
  · have h1 : j % m < m := Nat.mod_lt _ hm
    simp [madeCells, hj, h1]
  · simp [madeCells, hj]
theorem made16 (N : Nat) : (madeCells zero16.toArray N).toList = List.replicate N (.int .i16 0) := made_rep 513 (by decide) _ N
theorem makeL (w : World) (n : Nat) (hn : n ≤ 512) : ∃ wm, (Instr.makeSlice 64 (.int .i64 ((n : Int) + 1)) (.int .i64 ((n : Int) + 1))).run Tryd.prog w = .ok (.slice (some ⟨w.heap.size, 0, none⟩) (n + 1) (n + 1)) wm ∧ Row wm w.heap.size 73 (List.replicate ((n + 1) * 513) (.int .i16 0)) ∧ Below w.heap.size w wm := by
  obtain ⟨i0, hi, hz0, hz1, hz2⟩ := info_parts infoRow16
  have hr := run_make (P := Tryd.prog) w 64 73 i0 (.agg zero16.toArray) Tryd.underlying64 hi hz0 .i64 .i64 ((n : Int) + 1) ((n : Int) + 1) (by omega) (Int.le_refl _) (by rw [hz2]; omega) (by omega)
  rw [hz1] at hr
  have e : ((n : Int) + 1).toNat = n + 1 := by omega
  rw [e] at hr
  refine ⟨_, hr, ?_, (Below.refl _ w).alloc (Nat.le_refl _) _⟩
  have h1 := heap_alloc_new w (.cells (madeCells zero16.toArray ((n + 1) * 513)) 73)
  unfold Row
  rw [← made16]
  simpa [Value.cells] using h1
theorem Row.setCells {e : TypeId} {g : Nat} : ∀ (vs : List Value) (o : Nat) (w : World) (xs : List Value), Row w g e xs → ∃ ys, Row (w.setCells g o vs) g e ys ∧ ys.length = xs.length ∧ (∀ j, j < o ∨ o + vs.length ≤ j → ys[j]? = xs[j]?) ∧ (o + vs.length ≤ xs.length → ∀ j, j < vs.length → ys[o + j]? = vs[j]?) ∧ (∀ v ∈ ys, v ∈ xs ∨ v ∈ vs)
  | [], o, w, xs, h => ⟨xs, h, rfl, fun _ _ => rfl, fun _ j hj => absurd hj (Nat.not_lt_zero _), fun v hv => .inl hv⟩
  | v :: r, o, w, xs, h => by
    obtain ⟨ys, h1, h2, h3, h4, h5⟩ := Row.setCells r (o + 1) _ _ (h.set o v)
    refine ⟨ys, h1, by rw [h2, List.length_set], fun j hj => ?_, fun hl j hj => ?_, fun u hu => ?_⟩
    · rw [h3 j (by rw [List.length_cons] at hj; omega), List.getElem?_set_ne (by rw [List.length_cons] at hj; omega)]
    · rw [List.length_cons] at hl hj
      cases j with
      | zero =>
        rw [Nat.add_zero, h3 o (.inl (by omega)), List.getElem?_set_self (by omega)]
        rfl
      | succ j =>
        have := h4 (by rw [List.length_set]; omega) j (by omega)
        rw [show o + (j + 1) = o + 1 + j by omega, this]
        rfl
    · rcases h5 u hu with h | h
      · rcases List.mem_or_eq_of_mem_set h with h | h
        · exact .inl h
        · exact .inr (h ▸ List.mem_cons_self)
      · exact .inr (List.mem_cons_of_mem _ h)
/-- a table of rows of 513 numbers, of which some are known -/
def Grid (w : World) (g n : Nat) (K : Nat → Nat → Option Nat) : Prop := ∃ xs, Row w g 73 xs ∧ xs.length = (n + 1) * 513 ∧ (∀ v ∈ xs, v.oneCell' = true) ∧ ∀ i j k, i ≤ n → j < 513 → K i j = some k → xs[i * 513 + j]? = some (I16 k)
theorem Grid.keep {B : Nat} {w w' : World} {g n : Nat} {K : Nat → Nat → Option Nat} (h : Grid w g n K) (hb : Below B w w') (hB : g < B) : Grid w' g n K := by
  obtain ⟨xs, h1, h2, h0, h3⟩ := h
  exact ⟨xs, h1.keep hb hB, h2, h0, h3⟩
theorem pos_inj {i j i' j' : Nat} (h : i * 513 + j = i' * 513 + j') (hj : j < 513) (hj' : j' < 513) : i = i' ∧ j = j' := by omega
theorem pos_lt {i j n : Nat} (hi : i ≤ n) (hj : j < 513) : i * 513 + j < (n + 1) * 513 := by omega
theorem Grid.cell {w : World} {g n : Nat} {K : Nat → Nat → Option Nat} (h : Grid w g n K) {i j : Nat} (hi : i ≤ n) (hj : j < 513) : ∃ v, w.cell? ⟨g, i * 513 + j, none⟩ = some v ∧ w.frozen? ⟨g, i * 513 + j, none⟩ = false ∧ ∀ k, K i j = some k → v = I16 k := by
  obtain ⟨xs, h1, h2, h0, h3⟩ := h
  have hl := pos_lt hi hj
  have hv : xs[i * 513 + j]? = some (xs[i * 513 + j]'(by omega)) := List.getElem?_eq_getElem _
  refine ⟨_, (h1.cell _).trans hv, h1.frozen _, fun k hk => ?_⟩
  have := h3 i j k hi hj hk
  rw [hv] at this
  exact Option.some.inj this
theorem Grid.lt {w : World} {g n : Nat} {K : Nat → Nat → Option Nat} (h : Grid w g n K) : g < w.heap.size := by
  obtain ⟨xs, h1, _⟩ := h
  exact h1.lt
theorem Grid.set {w : World} {g n : Nat} {K : Nat → Nat → Option Nat} (h : Grid w g n K) {i j k : Nat} (hi : i ≤ n) (hj : j < 513) : Grid (w.setCell ⟨g, i * 513 + j, none⟩ (I16 k)) g n (fun i' j' => if i' = i ∧ j' = j then some k else K i' j') := by
  obtain ⟨xs, h1, h2, h0, h3⟩ := h
  refine ⟨_, h1.set _ _, by rw [List.length_set, h2], fun v hv => (List.mem_or_eq_of_mem_set hv).elim (h0 v) (fun e => by subst e; rfl), fun i' j' k' hi' hj' hk => ?_⟩
  have hl := pos_lt hi hj
  by_cases he : i' = i ∧ j' = j
  · obtain ⟨rfl, rfl⟩ := he
    simp only [and_self, if_true] at hk
    cases hk
    exact List.getElem?_set_self (by omega)
  · simp only [if_neg he] at hk
    rw [List.getElem?_set_ne (fun e => he (by have := pos_inj e hj hj'; exact ⟨this.1.symm, this.2.symm⟩))]
    exact h3 i' j' k' hi' hj' hk
theorem Grid.less {w : World} {g n : Nat} {K K' : Nat → Nat → Option Nat} (h : Grid w g n K) (hk : ∀ i j k, i ≤ n → j < 513 → K' i j = some k → K i j = some k) : Grid w g n K' := by
  obtain ⟨xs, h1, h2, h0, h3⟩ := h
  exact ⟨xs, h1, h2, h0, fun i j k hi hj he => h3 i j k hi hj (hk i j k hi hj he)⟩
theorem Grid.there {w : World} {g n : Nat} {K : Nat → Nat → Option Nat} (h : Grid w g n K) {i : Nat} (hi : i ≤ n) : w.there g (i * 513) 513 := by
  intro j hj
  obtain ⟨v, h1, h2, _⟩ := h.cell hi hj
  exact ⟨by rw [h1]; rfl, h2⟩
/-- a whole row is stored -/
theorem Grid.row {w : World} {g n : Nat} {K : Nat → Nat → Option Nat} (h : Grid w g n K) {i : Nat} (hi : i ≤ n) (vs : List Value) (hv : vs.length = 513) (hv1 : ∀ v ∈ vs, v.oneCell' = true) (R : Nat → Option Nat) (hR : ∀ j k, j < 513 → R j = some k → vs[j]? = some (I16 k)) : Grid (w.setCells g (i * 513) vs) g n (fun i' j' => if i' = i then R j' else K i' j') := by
  obtain ⟨xs, h1, h2, h0, h3⟩ := h
  obtain ⟨ys, g1, g2, g3, g4, g5⟩ := Row.setCells vs (i * 513) w xs h1
  refine ⟨ys, g1, by rw [g2, h2], fun v h => (g5 v h).elim (h0 v) (hv1 v), fun i' j' k' hi' hj' hk => ?_⟩
  by_cases he : i' = i
  · subst he
    simp only [if_true] at hk
    rw [g4 (by rw [hv, h2]; omega) j' (by omega)]
    exact hR j' k' hj' hk
  · simp only [if_neg he] at hk
    rw [g3 _ (by rw [hv]; omega)]
    exact h3 i' j' k' hi' hj' hk
/-- a row of the table, read whole -/
theorem Grid.read {w : World} {g n : Nat} {K : Nat → Nat → Option Nat} (h : Grid w g n K) {i : Nat} (hi : i ≤ n) : ∃ cs : List Value, w.rangeAt g (i * 513) cs ∧ cs.length = 513 ∧ (∀ v ∈ cs, v.oneCell' = true) ∧ (∀ j k, j < 513 → K i j = some k → cs[j]? = some (I16 k)) := by
  obtain ⟨xs, h1, h2, h0, h3⟩ := h
  refine ⟨(xs.drop (i * 513)).take 513, fun j v hj => ?_, by rw [List.length_take, List.length_drop, h2]; omega, fun v hv => h0 v (List.mem_of_mem_drop (List.mem_of_mem_take hv)), fun j k hj hk => ?_⟩
  · have hl : j < 513 := by
      have := (List.getElem?_eq_some_iff.1 hj).1
      rw [List.length_take] at this
      omega
    rw [List.getElem?_take, if_pos hl, List.getElem?_drop] at hj
    rw [h1.cell, hj]
  · rw [List.getElem?_take, if_pos hj, List.getElem?_drop]
    exact h3 i j k hi hj hk
end Go.Proofs.YtnbihjocdlpplaaDoor
/- Arrays by value: read, built into a struct, stored, compared. -/
namespace Go.Proofs.YtnbihjocdlpplaaDoor
open Go.RowKit
theorem exec_load {P : Program} {o : Oper} {a : Act} {w w' : World} {v : Value} (ty : TypeId) (x : Operand) (ho : o.op = .load ty x) (h : (Instr.loadAt ty (a.eval x)).run P w = .ok v w') : (execOp a.eval o).run P w = .ok (.value v) w' := by
  simp [execOp, ho, h, Result.andThen]
theorem exec_build {P : Program} {o : Oper} {a : Act} {w w' : World} {v : Value} (t : TypeId) (ps : Array (Nat × Operand)) (ho : o.op = .build t ps) (vs : Array (Nat × Value)) (hv : ps.map (fun x => (x.1, a.eval x.2)) = vs) (h : (Instr.build t vs).run P w = .ok v w') : (execOp a.eval o).run P w = .ok (.value v) w' := by
  subst hv
  simp [execOp, ho, h, Result.andThen]
/-- an array within a block, as an operation -/
theorem wpList_load_arr {P : Program} {w : World} {ops : Array Oper} {rest : List Oper} {o : Oper} {a : Act} {Q : Exit → Act → World → Prop} (hgd : o.guard = none) (ty : TypeId) (x : Operand) (ho : o.op = .load ty x)
    (g off e n : Nat) (hx : a.eval x = .pointer (some ⟨g, off, none⟩)) (cur : Array Value) (t : TypeId) (fr : Nat × Nat) (hg : w.heap[g]? = some (.cells cur t fr)) (hu : P.underlying ty = some (.array n e)) (hi : (P.info? ty).map (·.size) = some n)
    (cs : List Value) (hn : cs.length = n) (hcs : ∀ j v, cs[j]? = some v → cur[off + j]? = some v)
    (h : wpList P ops Q rest (a.put o.dst (.agg cs.toArray)) w) : wpList P ops Q (o :: rest) a w :=
  wpList_run hgd _ w (exec_load ty x ho (by rw [hx]; exact run_loadAt_part w g off ty e n cur t fr hg hu hi cs hn hcs)) h
/-- an array out of cells that are known one by one -/
theorem run_loadAt_cells {P : Program} (w : World) (ad : Addr) (ty e n : Nat) (hu : P.underlying ty = some (.array n e)) (hi : (P.info? ty).map (·.size) = some n)
    (cs : List Value) (hn : cs.length = n) (hcs : ∀ j v, cs[j]? = some v → w.cell? (ad.add j) = some v) :
    (Instr.loadAt ty (.pointer (some ad))).run P w = .ok (.agg cs.toArray) w := by
  have hl := run_loadCells_list (P := P) w ad cs hcs
  rw [hn] at hl
  cases hq : P.info? ty with
  | none => simp [hq] at hi
  | some i =>
    have hs : i.size = n := by simpa [hq] using hi
    have hagg : (isAgg ty).run P w = .ok true w := by
      unfold isAgg
      rw [Sem.run_bind, run_underlying hu w]
      rfl
    simp [Instr.loadAt, Instr.sureAddr, loadVar, Sem.run_bind, hagg, sizeOf, typeInfo, hq, hs, hl]
theorem wpList_load_cells {P : Program} {w : World} {ops : Array Oper} {rest : List Oper} {o : Oper} {a : Act} {Q : Exit → Act → World → Prop} (hgd : o.guard = none) (ty : TypeId) (x : Operand) (ho : o.op = .load ty x)
    (ad : Addr) (e n : Nat) (hx : a.eval x = .pointer (some ad)) (hu : P.underlying ty = some (.array n e)) (hi : (P.info? ty).map (·.size) = some n)
    (cs : List Value) (hn : cs.length = n) (hcs : ∀ j v, cs[j]? = some v → w.cell? (ad.add j) = some v)
    (h : wpList P ops Q rest (a.put o.dst (.agg cs.toArray)) w) : wpList P ops Q (o :: rest) a w :=
  wpList_run hgd _ w (exec_load ty x ho (by rw [hx]; exact run_loadAt_cells w ad ty e n hu hi cs hn hcs)) h
/-- an operation of a region that only reads, its run known in every world of the class -/
theorem wpQuiet_run {P : Program} {ops : Array Oper} {C : World → Prop} {Q : Act → Prop} {o : Oper} {rest : List Oper} {a : Act} (hgd : o.guard = none) (v : Value) (h : ∀ w, C w → (execOp a.eval o).run P w = .ok (.value v) w)
    (hk : wpQuiet P ops C Q rest (a.put o.dst v)) : wpQuiet P ops C Q (o :: rest) a := by
  refine wpQuiet_step fun K hK => ?_
  have hw : Region.wanted o (yielded ops a.tmps) = true := by simp [Region.wanted, hgd]
  rw [if_pos hw]
  exact ⟨v, fun w hw => by unfold Oper.quietAt; rw [h w hw]; exact ⟨rfl, rfl⟩, hK _ hk⟩
/-- a whole row is stored -/
theorem wpList_store_arr {P : Program} {w : World} {ops : Array Oper} {rest : List Oper} {o : Oper} {a : Act} {Q : Exit → Act → World → Prop} (hgd : o.guard = none) (ty : TypeId) (x y : Operand) (ho : o.op = .store ty x y)
    (g : Nat) (cs : List Value) (hx : a.eval x = .pointer (some ⟨g, 0, none⟩)) (hy : a.eval y = .agg cs.toArray)
    (t : TypeId) (old : List Value) (hg : w.heap[g]? = some (.cells old.toArray t (0, 0))) (hi : (P.info? ty).map (·.size) = some cs.length) (hold : old.length = cs.length) (h1 : ∀ v ∈ cs, v.oneCell' = true)
    (h : ∀ w', Hid (w'.heap[g]? = some (.cells cs.toArray t (0, 0))) → w.grownBy w' (some g) → wpList P ops Q rest (a.put o.dst undef) w') : wpList P ops Q (o :: rest) a w := by
  refine wpList_plain hgd fun K hK => ?_
  have hrun := run_storeVar_row (P := P) w g t ty old.toArray cs.toArray hg (by simpa using hi) (by simpa using hold) (by rw [Array.all_eq_true_iff_forall_mem]; intro v hv; exact h1 v (by simpa using hv))
  unfold Oper.wp
  simp [execOp, ho, hx, hy, Instr.storeAt, Instr.sureAddr, hrun, Result.andThen]
  exact hK _ _ (h _ (show _ = _ by exact setRow_heap w g _ _ t _ hg) (grownBy_setRow _ _ _))
theorem fold_set (off : Nat) : ∀ (cs : List Value) (i : Nat) (A : Array Value), off + i + cs.length ≤ A.size →
    ((cs.zipIdx i).foldl (fun (r : Array Value) (x : Value × Nat) => r.setIfInBounds (off + x.2) x.1) A).toList = A.toList.take (off + i) ++ cs ++ A.toList.drop (off + i + cs.length)
  | [], i, A, _ => by simp
  | c :: cs, i, A, h => by
    rw [List.zipIdx_cons, List.foldl_cons, fold_set off cs (i + 1) _ (by simp at h ⊢; omega)]
    have e := list_seg_step A.toList (off + i) c cs (by simp at h ⊢; omega)
    simpa [Array.toList_setIfInBounds, Nat.add_assoc] using e
theorem run_eq_bytes {P : Program} (w : World) (t e : TypeId) (n : Nat) (ht : P.underlying t = some (.array n e)) (he : P.underlying e = some (.int .u8)) (hsz : ∀ w, (sizeOf e).run P w = .ok 1 w)
    (xs ys : List UInt8) (hx : xs.length = n) (hy : ys.length = n) : (Op.equalIn 10000 t (.agg (xs.map B8).toArray) (.agg (ys.map B8).toArray)).run P w = .ok (xs == ys) w :=
  run_equalIn_bytes w 9998 t e n ht he hsz xs ys hx hy
end Go.Proofs.YtnbihjocdlpplaaDoor
/- The table of least numbers, by the program. -/
namespace Go.Proofs.YtnbihjocdlpplaaDoor
set_option linter.unusedVariables false
set_option linter.unusedSimpArgs false
open Go.RowKit
open Go.Lib
/-- what the table holds from row k on -/
def KF (A B : List (List UInt8)) (m k : Nat) : Nat → Nat → Option Nat := fun i j => if k ≤ i ∧ j ≤ m then some (dist (A.drop i) (B.drop j)) else none
def K1 (n m k : Nat) : Nat → Nat → Option Nat := fun i j => if i = n ∧ (j < k ∨ j = m) then some (m - j) else none
theorem i16_in (x : Nat) (h : x ≤ 32767) : IntKind.i16.wrap (x : Int) = x := by simp [IntKind.wrap, IntKind.bits]; omega
theorem k1_next {n m j q : Nat} (hq : m - j = q) : ∀ i' j' k, i' ≤ n → j' < 513 → K1 n m (j + 1) i' j' = some k → (if i' = n ∧ j' = j then some q else K1 n m j i' j') = some k := by
  intro i' j' k hi hj hk
  unfold K1 at hk ⊢
  by_cases h : i' = n ∧ j' = j
  · obtain ⟨rfl, rfl⟩ := h
    simp at hk ⊢
    omega
  · rw [if_neg h]
    split at hk
    · rename_i h2
      rw [if_pos (by omega)]
      exact hk
    · cases hk
theorem k1_kf {n m : Nat} {A B : List (List UInt8)} (hA : A.length = n) (hB : B.length = m) : ∀ i j k, i ≤ n → j < 513 → KF A B m n i j = some k → K1 n m m i j = some k := by
  intro i j k hi hj hk
  unfold KF at hk
  unfold K1
  split at hk
  · rename_i h
    have e : i = n := by omega
    subst e
    rw [List.drop_of_length_le (by omega : A.length ≤ i)] at hk
    rw [if_pos ⟨rfl, by omega⟩, ← hk]
    simp only [dist, List.length_drop, hB]
  · cases hk
theorem drop_cons {α : Type} {l : List α} {i : Nat} {x : α} (h : l[i]? = some x) : l.drop i = x :: l.drop (i + 1) := by
  obtain ⟨h1, h2⟩ := List.getElem?_eq_some_iff.1 h
  rw [List.drop_eq_getElem_cons h1, h2]
theorem Below.setCells {B g : Nat} {w : World} (hg : B ≤ g) : ∀ (vs : List Value) (o : Nat) (w' : World), Below B w w' → Below B w (w'.setCells g o vs)
  | [], _, _, h => h
  | v :: r, o, w', h => Below.setCells hg r (o + 1) _ (h.setCell (by exact hg) v)
theorem kf_row {A B : List (List UInt8)} {m k : Nat} : ∀ i' j' v, KF A B m k i' j' = some v → (if i' = k then (if j' ≤ m then some (dist (A.drop k) (B.drop j')) else none) else KF A B m (k + 1) i' j') = some v := by
  intro i' j' v h
  unfold KF at h ⊢
  split at h
  · rename_i hh
    cases h
    by_cases e : i' = k
    · subst e
      simp [hh.2]
    · rw [if_neg e, if_pos ⟨by omega, hh.2⟩]
  · cases h
set_option maxHeartbeats 4000000 in
set_option maxRecDepth 100000 in
theorem leastC (w : World) (a b : Option Addr) (n m c d : Nat) (A B : List (List UInt8)) (hA : ReadsS w a n A) (hB : ReadsS w b m B) (hn : n ≤ 512) (hm : m ≤ 512) (hnc : n ≤ c) (hmd : m ≤ d) :
    Calls Tryd.prog 39 #[.slice a n c, .slice b m d] w fun e w' => e = .returned (.slice (some ⟨w.heap.size, 0, none⟩) (n + 1) (n + 1)) ∧ Grid w' w.heap.size n (KF A B m 0) ∧ Below w.heap.size w w' := by
  have HA := Lib.hid hA
  have HB := Lib.hid hB
  obtain ⟨wm, hmk, hrow, hbm⟩ := makeL w n hn
  obtain ⟨g, hg⟩ : ∃ g, g = w.heap.size := ⟨_, rfl⟩
  rw [← hg] at hmk hrow hbm ⊢
  have hbs := hbm.size
  have hgl : g < wm.heap.size := hrow.lt
  have H0 : Hid (Grid wm g n (K1 n m 0)) := Lib.hid ⟨_, hrow, List.length_replicate, fun v hv => by rw [List.eq_of_mem_replicate hv]; rfl, fun i j k hi hj hk => by
    unfold K1 at hk
    split at hk
    · rename_i h
      cases hk
      rw [List.getElem?_replicate, if_pos (by omega)]
      have : m - j = 0 := by omega
      rw [this]; rfl
    · cases hk⟩
  have HBM := Lib.hid hbm
  have HG := Lib.hid hg
  clear hbm hrow hA hB hg
  go_enter Tryd.func39, Tryd.ntmps39
  go_wp2
  go_loopw [17] (fun ui wr => ∃ j : Nat, j ≤ m ∧ ui = .int .i64 (j : Int) ∧ Hid (Grid wr g n (K1 n m j) ∧ Below g w wr)) (fun ui _ => m - (RowKit.intOf ui).toNat)
  case atStart => exact ⟨0, Nat.zero_le _, rfl, Lib.hid ⟨H0.out, HBM.out⟩⟩
  case round =>
    obtain ⟨j, hjm, rfl, HR⟩ := hrel
    by_cases hlt : j < m
    · obtain ⟨v0, hc0, hf0, _⟩ := HR.out.1.cell (i := n) (j := j) (Nat.le_refl _) (by omega)
      have hgr := HR.out.1.lt
      obtain ⟨q, hq⟩ : ∃ q, m - j = q := ⟨_, rfl⟩
      have hw : IntKind.i16.wrap ((m : Int) - (j : Int)) = (q : Int) := by
        rw [show (m : Int) - (j : Int) = (q : Int) by omega]
        exact i16_in q (by omega)
      have HQ := Lib.hid hq
      clear hq
      go_wp2
      go_roundw
      case rel => exact ⟨j + 1, hlt, by go_num, Lib.hid ⟨(HR.out.1.set (k := q) (Nat.le_refl _) (by omega)).less (k1_next HQ.out), HR.out.2.setCell (Nat.le_refl _) _⟩⟩
      case measure => simp [RowKit.intOf]; omega
    · obtain rfl : j = m := by omega
      have H2 : Hid (Grid wr g n (KF A B j n) ∧ Below g w wr) := Lib.hid ⟨HR.out.1.less (k1_kf HA.out.len HB.out.len), HR.out.2⟩
      clear HR H0 HBM
      go_wp2
      go_loopw [7] (fun ui wr => ∃ k : Nat, k ≤ n ∧ ui = .int .i64 ((k : Int) - 1) ∧ Hid (Grid wr g n (KF A B j k) ∧ Below g w wr)) (fun ui _ => (RowKit.intOf ui + 1).toNat)
      case atStart => exact ⟨n, Nat.le_refl _, rfl, H2⟩
      case round =>
        obtain ⟨k, hkn, rfl, HR⟩ := hrel
        by_cases hk0 : k = 0
        · subst hk0
          go_wp2
          go_ret
          exact ⟨rfl, HR.out.1, HR.out.2⟩
        · obtain ⟨i, rfl⟩ : ∃ i, k = i + 1 := ⟨k - 1, by omega⟩
          obtain ⟨cs, hcr, hcl, hc1, hck⟩ := HR.out.1.read (i := i + 1) hkn
          have HCR := Lib.hid hcr
          have HCL := Lib.hid hcl
          have HCO := Lib.hid hc1
          have HCK := Lib.hid hck
          have hgr := HR.out.1.lt
          have hmj : j < 513 := by omega
          have hwn : IntKind.i16.wrap ((n : Int) - (i : Int)) = ((n - i : Nat) : Int) := by
            rw [show (n : Int) - (i : Int) = ((n - i : Nat) : Int) by omega]
            exact i16_in _ (by omega)
          obtain ⟨q, hq⟩ : ∃ q, n - i = q := ⟨_, rfl⟩
          rw [hq] at hwn
          have HQ := Lib.hid hq
          have hii : (((i + 1 : Nat) : Int)) - 1 = (i : Int) := by omega
          clear hcr hcl hck hc1 hq
          rw [hii]
          go_wp2_with (first
            | ((with_reducible show wpList _ _ _ (Oper.mk (some 43) _ _ _ _ _ :: _) _ _); go_must (refine wpList_load_mid rfl 73 (.tmp 42) rfl g ((i + 1) * 513) rfl cs _ HCR.out under16 rfl (by rw [HCL.out]; exact size16) ?_))
            | ((with_reducible show wpList _ _ _ (Oper.mk (some 8) _ _ _ _ _ :: _) _ _); go_must (refine wpList_run rfl (.pointer (some ⟨wr.heap.size, 0, none⟩)) (wr.alloc (.cells zero16.toArray 73)) (by kernel_rfl) ?_))
            | ((with_reducible show wpList _ _ _ (Oper.mk none (Op.store _ (Operand.tmp 8) _) _ _ _ _ :: _) _ _); go_must (refine wpList_store_arr rfl 73 (.tmp 8) (.tmp 43) rfl wr.heap.size cs (by simp [Act.eval, Act.put]) (by simp [Act.eval, Act.put]) 73 zero16 (heap_alloc_new wr _) (by rw [HCL.out]; exact size16) (by rw [HCL.out, zero16_len]) HCO.out ?_); intro w5 hr5 hg5; have z5 := hg5.size; have HG5 := Lib.hid hg5; clear hg5)
            | ((with_reducible show wpList _ _ _ (Oper.mk (some 44) _ _ _ _ _ :: _) _ _); go_must (refine wpList_run rfl (.agg zero16.toArray) w5 (exec_build _ _ rfl #[] (by simp) (run_build16 w5)) ?_))
            | ((with_reducible show wpList _ _ _ (Oper.mk (some 9) _ _ _ _ _ :: _) _ _); go_must (refine wpList_run rfl (.pointer (some ⟨w5.heap.size, 0, none⟩)) (w5.alloc (.cells zero16.toArray 73)) (by kernel_rfl) ?_))
            | ((with_reducible show wpList _ _ _ (Oper.mk none (Op.store _ (Operand.tmp 9) _) _ _ _ _ :: _) _ _); go_must (refine wpList_store_arr rfl 73 (.tmp 9) (.tmp 44) rfl w5.heap.size zero16 (by simp [Act.eval, Act.put]) (by simp [Act.eval, Act.put]) 73 zero16 (heap_alloc_new w5 _) (by rw [zero16_len]; exact size16) rfl zero16_one ?_); intro w7 hr7 hg7; have z7 := hg7.size; have HG7 := Lib.hid hg7; have R7 : Row w7 w5.heap.size 73 zero16 := hr7.out; have d7 : w7.cell? ⟨w5.heap.size, j, none⟩ = some (.int .i16 0) := (R7.cell j).trans (zero16_at hmj); have f7 : w7.frozen? ⟨w5.heap.size, j, none⟩ = false := R7.frozen j; clear hg7 R7))
          obtain ⟨hb, hhb⟩ : ∃ x, x = wr.heap.size := ⟨_, rfl⟩
          obtain ⟨hn_, hhn⟩ : ∃ x, x = w5.heap.size := ⟨_, rfl⟩
          have z5' : hb + 1 ≤ hn_ := by rw [hhb, hhn]; simpa using z5
          have hgb : g < hb := by rw [hhb]; exact hgr
          have z7' : hn_ + 1 ≤ w7.heap.size := by rw [hhn]; simpa using z7
          obtain ⟨w8, hw8⟩ : ∃ x, x = w7.setCell ⟨w5.heap.size, j, none⟩ (.int .i16 (q : Int)) := ⟨_, rfl⟩
          have BW : Below hb wr w8 := by
            rw [hw8, hhb]
            exact ((((Below.refl _ wr).alloc (Nat.le_refl _) _).trans (below_grownBy HG5.out (Nat.le_refl _) (by simp))).alloc (by omega) _ |>.trans (below_grownBy HG7.out (by omega) (by simp; omega))).setCell (by show _ ≤ w5.heap.size; omega) _
          have RB : Row w8 hb 73 cs := by
            have r5 : Row w5 hb 73 cs := by rw [hhb]; exact hr5.out
            rw [hw8]
            exact ((r5.alloc _).apart HG7.out (by omega)).other (by show w5.heap.size ≠ hb; omega) _
          have RN : Row w8 hn_ 73 (zero16.set j (.int .i16 (q : Int))) := by
            have r7 : Row w7 w5.heap.size 73 zero16 := hr7.out
            rw [hw8, hhn]
            exact r7.set _ _
          have s8 : hn_ + 1 ≤ w8.heap.size := by rw [hw8]; simpa using z7'
          have BG : Below g w w8 := HR.out.2.trans (BW.mono (by omega))
          have HG8 : Hid (Grid w8 g n (KF A B j (i + 1))) := Lib.hid (HR.out.1.keep BW hgb)
          rw [← hw8, ← hhb, ← hhn]
          have HBG := Lib.hid BG
          have HRB := Lib.hid RB
          have H3 : Hid (w8.grownBy w8 (some hn_) ∧ ∃ ys, Row w8 hn_ 73 ys ∧ ys.length = 513 ∧ (∀ v ∈ ys, v.oneCell' = true) ∧ ∀ j', j ≤ j' → j' ≤ j → ys[j']? = some (I16 (dist (A.drop i) (B.drop j')))) := Lib.hid ⟨grownBy_refl _ _, _, RN, by rw [List.length_set, zero16_len], fun v hv => (List.mem_or_eq_of_mem_set hv).elim (zero16_one v) (fun e => by subst e; rfl), fun j' h1 h2 => by
            obtain rfl : j' = j := by omega
            rw [List.getElem?_set_self (by rw [zero16_len]; exact hmj), show B.drop j' = [] from List.drop_of_length_le (by rw [HB.out.len]; exact Nat.le_refl _), dist_nil, List.length_drop, HA.out.len, HQ.out]
            rfl⟩
          clear hhb hhn hw8 BW RB RN BG HG5 HG7 hr5 hr7 z5 z7 d7 f7 z7' HR HCR hgr
          go_loopw [10] (fun ui wx => ∃ e : Nat, e ≤ j ∧ ui = .int .i64 ((e : Int) - 1) ∧ Hid (w8.grownBy wx (some hn_) ∧ ∃ ys, Row wx hn_ 73 ys ∧ ys.length = 513 ∧ (∀ v ∈ ys, v.oneCell' = true) ∧ ∀ j', e ≤ j' → j' ≤ j → ys[j']? = some (I16 (dist (A.drop i) (B.drop j'))))) (fun ui _ => (RowKit.intOf ui + 1).toNat)
          case atStart => exact ⟨j, Nat.le_refl _, rfl, H3⟩
          case round =>
            obtain ⟨e, hej, rfl, HS⟩ := hrel
            by_cases he0 : e = 0
            · subst he0
              obtain ⟨hgx, ys, RY, yl, y1, hyk⟩ := HS.out
              have BWX : Below hn_ w8 wr := below_grownBy hgx (Nat.le_refl _) (by omega)
              have HGX : Hid (Grid wr g n (KF A B j (i + 1))) := Lib.hid (HG8.out.keep BWX (by omega))
              have hre : wr.rangeAt hn_ 0 ys := fun k v hk => by rw [Nat.zero_add, RY.cell, hk]
              have hth := HGX.out.there (i := i) (by omega)
              have HRE := Lib.hid hre
              have HTH := Lib.hid hth
              have HYL := Lib.hid yl
              have HY1 := Lib.hid y1
              have HYK := Lib.hid hyk
              clear hre hth yl y1 hyk RY
              go_wp2_with (first
                | ((with_reducible show wpList _ _ _ (Oper.mk (some 88) _ _ _ _ _ :: _) _ _); go_must (refine wpList_load_mid rfl 73 (.tmp 9) rfl hn_ 0 rfl ys _ HRE.out under16 rfl (by rw [HYL.out]; exact size16) ?_))
                | ((with_reducible show wpList _ _ _ (Oper.mk none (Op.store _ _ (Operand.tmp 88)) _ _ _ _ :: _) _ _); go_must (refine wpList_store_mid rfl 73 (.tmp 89) (.tmp 88) rfl g (i * 513) ys.toArray rfl rfl (by rw [List.size_toArray, HYL.out]; exact HTH.out) (by rw [List.size_toArray, HYL.out]; exact size16) (all_oneCell_toArray HY1.out) ?_)))
              go_roundw
              case rel => exact ⟨i, by omega, rfl, Lib.hid ⟨((HGX.out.row (i := i) (by omega) ys HYL.out HY1.out (fun j' => if j' ≤ j then some (dist (A.drop i) (B.drop j')) else none) (fun j' k hj' hk => by
                  split at hk
                  · rename_i hh
                    cases hk
                    exact HYK.out j' (Nat.zero_le _) hh
                  · cases hk)).less (fun i' j' v hi' hj' h => kf_row i' j' v h)), Below.setCells (Nat.le_refl _) _ _ _ (HBG.out.trans (BWX.mono (by omega)))⟩⟩
              case measure => simp [RowKit.intOf] <;> omega
            · obtain ⟨f, rfl⟩ : ∃ f, e = f + 1 := ⟨e - 1, by omega⟩
              have hff : (((f + 1 : Nat) : Int)) - 1 = (f : Int) := by omega
              obtain ⟨hgx, ys, RY, yl, y1, hyk⟩ := HS.out
              have BWX : Below hn_ w8 wr := below_grownBy hgx (Nat.le_refl _) (by omega)
              have BG : Below g w wr := HBG.out.trans (BWX.mono (by omega))
              obtain ⟨ba, oa, x, rfl, hba, hx, hca⟩ := (HA.out.keep BG (by rw [← HG.out]; exact Nat.le_refl _)).at (k := i) (by omega)
              obtain ⟨bb, ob, y, rfl, hbb, hy, hcb⟩ := (HB.out.keep BG (by rw [← HG.out]; exact Nat.le_refl _)).at (k := f) (by omega)
              have RBx : Row wr hb 73 cs := HRB.out.keep BWX (by omega)
              have hdx : A.drop i = x :: A.drop (i + 1) := drop_cons hx
              have hdy : B.drop f = y :: B.drop (f + 1) := drop_cons hy
              have hla : (A.drop (i + 1)).length ≤ 512 := by rw [List.length_drop, HA.out.len]; omega
              have hlb : (B.drop (f + 1)).length ≤ 512 := by rw [List.length_drop, HB.out.len]; omega
              obtain ⟨d1, hd1⟩ : ∃ d1, dist (A.drop (i + 1)) (B.drop (f + 1)) = d1 := ⟨_, rfl⟩
              obtain ⟨d2, hd2⟩ : ∃ d2, dist (A.drop (i + 1)) (B.drop f) = d2 := ⟨_, rfl⟩
              obtain ⟨d3, hd3⟩ : ∃ d3, dist (A.drop i) (B.drop (f + 1)) = d3 := ⟨_, rfl⟩
              have b2 : d2 ≤ 1025 := by rw [← hd2]; refine Nat.le_trans (dist_le _ _) ?_; rw [hdy, List.length_cons]; omega
              have b3 : d3 ≤ 1025 := by rw [← hd3]; refine Nat.le_trans (dist_le _ _) ?_; rw [hdx, List.length_cons]; omega
              have hkf : ∀ j', j' ≤ j → KF A B j (i + 1) (i + 1) j' = some (dist (A.drop (i + 1)) (B.drop j')) := fun j' h => by unfold KF; rw [if_pos ⟨Nat.le_refl _, h⟩]
              have k1 := HCK.out (f + 1) _ (by omega) (hkf (f + 1) (by omega))
              have k2 := HCK.out f _ (by omega) (hkf f (by omega))
              rw [hd1] at k1
              rw [hd2] at k2
              have k3 := hyk (f + 1) (Nat.le_refl _) (by omega)
              rw [hd3] at k3
              have e1 : wr.cell? ⟨hb, f + 1, none⟩ = some (.int .i16 (d1 : Int)) := (RBx.cell _).trans k1
              have e2 : wr.cell? ⟨hb, f, none⟩ = some (.int .i16 (d2 : Int)) := (RBx.cell _).trans k2
              have e3 : wr.cell? ⟨hn_, f + 1, none⟩ = some (.int .i16 (d3 : Int)) := (RY.cell _).trans k3
              obtain ⟨v4, e4⟩ : ∃ v4, wr.cell? ⟨hn_, f, none⟩ = some v4 := ⟨_, (RY.cell _).trans (List.getElem?_eq_getElem (by omega))⟩
              have f4 : wr.frozen? ⟨hn_, f, none⟩ = false := RY.frozen _
              have hf0 : (f : Int) ≤ 511 := by omega
              have hf1 : (f : Int) + 1 < 513 := by omega
              have hf2 : 0 ≤ (f : Int) + 1 := by omega
              have hf3 : (f : Int) < 513 := by omega
              have hnext : ∀ dn, dist (A.drop i) (B.drop f) = dn → ∀ W', Below wr.heap.size wr W' → Hid (w8.grownBy (W'.setCell ⟨hn_, f, none⟩ (.int .i16 (dn : Int))) (some hn_) ∧ ∃ ys, Row (W'.setCell ⟨hn_, f, none⟩ (.int .i16 (dn : Int))) hn_ 73 ys ∧ ys.length = 513 ∧ (∀ v ∈ ys, v.oneCell' = true) ∧ ∀ j', f ≤ j' → j' ≤ j → ys[j']? = some (I16 (dist (A.drop i) (B.drop j')))) := by
                intro dn hdn W' hW
                refine ⟨grownBy_trans hgx (grownBy_trans (grownBy_below hW _) (grownBy_setCell _ _ _ _)), _, (RY.keep hW RY.lt).set _ _, by rw [List.length_set, yl], fun v hv => (List.mem_or_eq_of_mem_set hv).elim (y1 v) (fun e => by subst e; rfl), fun j' h1 h2 => ?_⟩
                by_cases hjf : j' = f
                · subst hjf
                  rw [List.getElem?_set_self (by omega), hdn]
                  rfl
                · rw [List.getElem?_set_ne (Ne.symm hjf)]
                  exact hyk j' (by omega) h2
              have HNX := Lib.hid hnext
              rw [hff]
              by_cases hxy : x = y
              · subst hxy
                have hD : dist (A.drop i) (B.drop f) = d1 := by rw [hdx, hdy, dist, if_pos rfl, hd1]
                have HN := HNX.out d1 hD
                clear hnext hdx hdy hd1 hd2 hd3 k1 k2 k3 hkf hx hy RY RBx hyk y1 yl hla hlb HNX hgx HS BG BWX hba hbb hD
                go_wp2
                go_quiet (fail)
                go_wp2
                go_roundw
                case rel => exact ⟨f, by omega, rfl, HN _ ⟨rfl, rfl, rfl, Nat.le_refl _, fun _ _ => rfl⟩⟩
                case measure => simp [RowKit.intOf] <;> omega
              · have hne : (x == y) = false := by rw [beq_eq_false_iff_ne]; exact hxy
                have hD : dist (A.drop i) (B.drop f) = 1 + min d2 d3 := by rw [hdx, hdy, dist, if_neg hxy, ← hdx, ← hdy, hd2, hd3]
                obtain ⟨dn, hdn⟩ : ∃ dn, 1 + min d2 d3 = dn := ⟨_, rfl⟩
                have hwm : IntKind.i16.wrap (1 + min (d2 : Int) (d3 : Int)) = (dn : Int) := by
                  rw [show 1 + min (d2 : Int) (d3 : Int) = (dn : Int) by omega]
                  exact i16_in dn (by omega)
                have HN := HNX.out dn (by rw [hD, hdn])
                clear hnext hdx hdy hd1 hd2 hd3 k1 k2 k3 hkf hx hy RY RBx hyk y1 yl hla hlb HNX hgx HS BG BWX hba hbb hD hdn hxy
                go_wp2
                go_quiet (fail)
                go_wp2
                obtain ⟨f1, hf1'⟩ : ∃ f1, f + 1 = f1 := ⟨_, rfl⟩
                rw [hf1'] at e3
                have hw1 : IntKind.i64.wrap ((f : Int) + 1) = (f1 : Int) := by rw [show (f : Int) + 1 = (f1 : Int) by omega]; exact IntWalk.i64_in _ (by omega)
                have hb1 : (f1 : Int) < 513 := by omega
                have hne1 : f ≠ f1 := by omega
                clear hf1' hf1 hf2 e1
                go_region_held3 (fun w' => w'.cell? ⟨hb, f, none⟩ = some (.int .i16 (d2 : Int)) ∧ w'.cell? ⟨hn_, f1, none⟩ = some (.int .i16 (d3 : Int))) (first | exact ⟨e2, e3⟩ | exact ⟨(World.cell?_setCell_other _ _ _ _ (by intro h; simp only [Addr.mk.injEq] at h; omega)).trans e2, (World.cell?_setCell_other _ _ _ _ (by intro h; simp only [Addr.mk.injEq] at h; omega)).trans e3⟩ | go_keep) (fail)
                go_wp2
                go_roundw
                case rel => exact ⟨f, by omega, rfl, HN _ ⟨rfl, rfl, rfl, Nat.le_refl _, fun _ _ => rfl⟩⟩
                case measure => simp [RowKit.intOf] <;> omega
end Go.Proofs.YtnbihjocdlpplaaDoor
