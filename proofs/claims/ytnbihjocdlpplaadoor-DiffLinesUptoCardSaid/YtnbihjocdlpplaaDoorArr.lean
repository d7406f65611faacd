/- Arrays by value: read, built into a struct, stored, compared. -/
import Derived.Test.YtnbihjocdlpplaaDoorMem
import Derived.Deep.QuietTactic
namespace Go.Proofs.YtnbihjocdlpplaaDoor
open Go.RowKit
theorem exec_load {P : Program} {o : Oper} {a : Act} {w w' : World} {v : Value} (ty : TypeId) (x : Operand) (ho : o.op = .load ty x) (h : (Instr.loadAt ty (a.eval x)).run P w = .ok v w') : (execOp a.eval o).run P w = .ok (.value v) w' := by
  simp [execOp, ho, h, Result.andThen]
theorem exec_build {P : Program} {o : Oper} {a : Act} {w w' : World} {v : Value} (t : TypeId) (ps : Array (Nat × Operand)) (ho : o.op = .build t ps) (vs : Array (Nat × Value)) (hv : ps.map (fun x => (x.1, a.eval x.2)) = vs) (h : (Instr.build t vs).run P w = .ok v w') : (execOp a.eval o).run P w = .ok (.value v) w' := by
  subst hv
  simp [execOp, ho, h, Result.andThen]
/-- an array within a block, as an operation -/
theorem wpList_load_arr {P : Program} {w : World} {ops : Array Oper} {rest : List Oper} {o : Oper} {a : Act} {Q : Exit → Act → World → Prop} (hgd : o.guard = none) (ty : TypeId) (x : Operand) (ho : o.op = .load ty x)
    (g off e n : Nat) (hx : a.eval x = .pointer (some ⟨g, off, none⟩)) (cur : Array Value) (t : TypeId) (fr : Nat × Nat) (hg : w.heap[g]? = some (.cells cur t fr)) (hu : P.underlying ty = some (.array n e)) (hi : (P.info? ty).map (·.size) = some n)
    (cs : List Value) (hn : cs.length = n) (hcs : ∀ j v, cs[j]? = some v → cur[off + j]? = some v)
    (h : wpList P ops Q rest (a.put o.dst (.agg cs.toArray)) w) : wpList P ops Q (o :: rest) a w :=
  wpList_run hgd _ w (exec_load ty x ho (by rw [hx]; exact run_loadAt_part w g off ty e n cur t fr hg hu hi cs hn hcs)) h
/-- an array out of cells that are known one by one -/
theorem run_loadAt_cells {P : Program} (w : World) (ad : Addr) (ty e n : Nat) (hu : P.underlying ty = some (.array n e)) (hi : (P.info? ty).map (·.size) = some n)
    (cs : List Value) (hn : cs.length = n) (hcs : ∀ j v, cs[j]? = some v → w.cell? (ad.add j) = some v) :
    (Instr.loadAt ty (.pointer (some ad))).run P w = .ok (.agg cs.toArray) w := by
  have hl := run_loadCells_list (P := P) w ad cs hcs
  rw [hn] at hl
  cases hq : P.info? ty with
  | none => simp [hq] at hi
  | some i =>
    have hs : i.size = n := by simpa [hq] using hi
    have hagg : (isAgg ty).run P w = .ok true w := by
      unfold isAgg
      rw [Sem.run_bind, run_underlying hu w]
      rfl
    simp [Instr.loadAt, Instr.sureAddr, loadVar, Sem.run_bind, hagg, sizeOf, typeInfo, hq, hs, hl]
theorem wpList_load_cells {P : Program} {w : World} {ops : Array Oper} {rest : List Oper} {o : Oper} {a : Act} {Q : Exit → Act → World → Prop} (hgd : o.guard = none) (ty : TypeId) (x : Operand) (ho : o.op = .load ty x)
    (ad : Addr) (e n : Nat) (hx : a.eval x = .pointer (some ad)) (hu : P.underlying ty = some (.array n e)) (hi : (P.info? ty).map (·.size) = some n)
    (cs : List Value) (hn : cs.length = n) (hcs : ∀ j v, cs[j]? = some v → w.cell? (ad.add j) = some v)
    (h : wpList P ops Q rest (a.put o.dst (.agg cs.toArray)) w) : wpList P ops Q (o :: rest) a w :=
  wpList_run hgd _ w (exec_load ty x ho (by rw [hx]; exact run_loadAt_cells w ad ty e n hu hi cs hn hcs)) h
/-- an operation of a region that only reads, its run known in every world of the class -/
theorem wpQuiet_run {P : Program} {ops : Array Oper} {C : World → Prop} {Q : Act → Prop} {o : Oper} {rest : List Oper} {a : Act} (hgd : o.guard = none) (v : Value) (h : ∀ w, C w → (execOp a.eval o).run P w = .ok (.value v) w)
    (hk : wpQuiet P ops C Q rest (a.put o.dst v)) : wpQuiet P ops C Q (o :: rest) a := by
  refine wpQuiet_step fun K hK => ?_
  have hw : Region.wanted o (yielded ops a.tmps) = true := by simp [Region.wanted, hgd]
  rw [if_pos hw]
  exact ⟨v, fun w hw => by unfold Oper.quietAt; rw [h w hw]; exact ⟨rfl, rfl⟩, hK _ hk⟩
/-- a whole row is stored -/
theorem wpList_store_arr {P : Program} {w : World} {ops : Array Oper} {rest : List Oper} {o : Oper} {a : Act} {Q : Exit → Act → World → Prop} (hgd : o.guard = none) (ty : TypeId) (x y : Operand) (ho : o.op = .store ty x y)
    (g : Nat) (cs : List Value) (hx : a.eval x = .pointer (some ⟨g, 0, none⟩)) (hy : a.eval y = .agg cs.toArray)
    (t : TypeId) (old : List Value) (hg : w.heap[g]? = some (.cells old.toArray t (0, 0))) (hi : (P.info? ty).map (·.size) = some cs.length) (hold : old.length = cs.length) (h1 : ∀ v ∈ cs, v.oneCell' = true)
    (h : ∀ w', Hid (w'.heap[g]? = some (.cells cs.toArray t (0, 0))) → w.grownBy w' (some g) → wpList P ops Q rest (a.put o.dst undef) w') : wpList P ops Q (o :: rest) a w := by
  refine wpList_plain hgd fun K hK => ?_
  have hrun := run_storeVar_row (P := P) w g t ty old.toArray cs.toArray hg (by simpa using hi) (by simpa using hold) (by rw [Array.all_eq_true_iff_forall_mem]; intro v hv; exact h1 v (by simpa using hv))
  unfold Oper.wp
  simp [execOp, ho, hx, hy, Instr.storeAt, Instr.sureAddr, hrun, Result.andThen]
  exact hK _ _ (h _ (show _ = _ by exact setRow_heap w g _ _ t _ hg) (grownBy_setRow _ _ _))
theorem fold_set (off : Nat) : ∀ (cs : List Value) (i : Nat) (A : Array Value), off + i + cs.length ≤ A.size →
    ((cs.zipIdx i).foldl (fun (r : Array Value) (x : Value × Nat) => r.setIfInBounds (off + x.2) x.1) A).toList = A.toList.take (off + i) ++ cs ++ A.toList.drop (off + i + cs.length)
  | [], i, A, _ => by simp
  | c :: cs, i, A, h => by
    rw [List.zipIdx_cons, List.foldl_cons, fold_set off cs (i + 1) _ (by simp at h ⊢; omega)]
    have e := list_seg_step A.toList (off + i) c cs (by simp at h ⊢; omega)
    simpa [Array.toList_setIfInBounds, Nat.add_assoc] using e
theorem run_eq_bytes {P : Program} (w : World) (t e : TypeId) (n : Nat) (ht : P.underlying t = some (.array n e)) (he : P.underlying e = some (.int .u8)) (hsz : ∀ w, (sizeOf e).run P w = .ok 1 w)
    (xs ys : List UInt8) (hx : xs.length = n) (hy : ys.length = n) : (Op.equalIn 10000 t (.agg (xs.map B8).toArray) (.agg (ys.map B8).toArray)).run P w = .ok (xs == ys) w :=
  run_equalIn_bytes w 9998 t e n ht he hsz xs ys hx hy
end Go.Proofs.YtnbihjocdlpplaaDoor
