/- Laws of memory that the seats want: copy out of a string, clear, an array within a block, bytes as a text. -/
import Derived.Test.YtnbihjocdlpplaaDoorBase
import Derived.Lib.SliceRun
import Derived.Stop.BytesEq
import Derived.Laws.BytesString
import Derived.Laws.Rows
import Derived.Laws.Cover3
namespace Go.Proofs.YtnbihjocdlpplaaDoor
set_option linter.unusedVariables false
set_option linter.unusedSimpArgs false
open Go.RowKit
/-- the text that bytes are -/
def bstr (l : List UInt8) : ByteArray := ⟨l.toArray⟩
@[go_sem, simp] theorem bstr_size (l : List UInt8) : (bstr l).size = l.length := by simp [bstr, ByteArray.size]
@[go_sem, simp] theorem bstr_append (a b : List UInt8) : bstr a ++ bstr b = bstr (a ++ b) := by
  apply ByteArray.ext
  simp [bstr, ByteArray.data_append]
@[go_sem, simp] theorem bstr_extract (l : List UInt8) (i j : Nat) : (bstr l).extract i j = bstr ((l.drop i).take (j - i)) := by
  apply ByteArray.ext
  simp [bstr, ByteArray.data_extract, List.drop_take]
@[simp] theorem bstr_list (l : List UInt8) : (bstr l).data.toList = l := rfl
theorem bstr_of (s : ByteArray) : s = bstr s.data.toList := rfl
theorem bstr_inj {a b : List UInt8} (h : bstr a = bstr b) : a = b := by
  have := congrArg (fun s : ByteArray => s.data.toList) h
  simpa using this
theorem bstr_empty : bstr [] = ByteArray.empty := rfl
theorem cells_list (w : World) (g off : Nat) (cur : Array Value) (t : TypeId) (fr : Nat × Nat) (hg : w.heap[g]? = some (.cells cur t fr)) (j : Nat) : w.cell? ((⟨g, off, none⟩ : Addr).add j) = cur[off + j]? := by
  rw [cell_add, cell_of_row w g (off + j) cur t fr hg]
theorem run_loadCells_part {P : Program} (w : World) (g off : Nat) (cur : Array Value) (t : TypeId) (fr : Nat × Nat) (hg : w.heap[g]? = some (.cells cur t fr)) (cs : List Value) (hcs : ∀ j v, cs[j]? = some v → cur[off + j]? = some v) :
    (loadCells ⟨g, off, none⟩ cs.length).run P w = .ok cs.toArray w :=
  run_loadCells_list (P := P) w ⟨g, off, none⟩ cs (fun j v hv => by rw [cells_list w g off cur t fr hg]; exact hcs j v hv)
/-- an array within a block, read -/
theorem run_loadAt_part {P : Program} (w : World) (g off : Nat) (ty e n : Nat) (cur : Array Value) (t : TypeId) (fr : Nat × Nat) (hg : w.heap[g]? = some (.cells cur t fr)) (hu : P.underlying ty = some (.array n e)) (hi : (P.info? ty).map (·.size) = some n)
    (cs : List Value) (hn : cs.length = n) (hcs : ∀ j v, cs[j]? = some v → cur[off + j]? = some v) :
    (Instr.loadAt ty (.pointer (some ⟨g, off, none⟩))).run P w = .ok (.agg cs.toArray) w := by
  have hl := run_loadCells_part (P := P) w g off cur t fr hg cs hcs
  rw [hn] at hl
  cases hq : P.info? ty with
  | none => simp [hq] at hi
  | some i =>
    have hs : i.size = n := by simpa [hq] using hi
    have hagg : (isAgg ty).run P w = .ok true w := by
      unfold isAgg
      rw [Sem.run_bind, run_underlying hu w]
      rfl
    simp [Instr.loadAt, Instr.sureAddr, loadVar, Sem.run_bind, hagg, sizeOf, typeInfo, hq, hs, hl]
/-- bytes as a text -/
theorem run_bytes_str {P : Program} (w : World) (src dst e : TypeId) (hs : P.underlying src = some (.slice e)) (he : P.underlying e = some (.int .u8)) (hd : P.underlying dst = some .string)
    (a : Option Addr) (n c : Nat) (l : List UInt8) (ha : Reads w a n (l.map B8)) : (convert src dst (.slice a n c)).run P w = .ok (.string (bstr l)) w := by
  rw [run_convert_bytes_string w src dst e a n c hs he hd]
  have hl := ha.len
  rw [List.length_map] at hl
  have hfold : ∀ (l : List UInt8) (s : ByteArray), (l.map fun x => (x.toNat : Int)).foldl (fun (r : ByteArray) (n : Int) => r.push (UInt8.ofNat n.toNat)) s = ⟨(s.data.toList ++ l).toArray⟩ := by
    intro l
    induction l with
    | nil => intro s; simp
    | cons x l ih =>
      intro s
      rw [List.map_cons, List.foldl_cons, ih]
      simp
  cases a with
  | none =>
    have h0 : n = 0 := by
      rcases Nat.eq_zero_or_pos n with h | h
      · exact h
      · obtain ⟨b, o, e, _⟩ := ha.2 h
        cases e
    obtain rfl : l = [] := List.eq_nil_of_length_eq_zero (by omega)
    simp [Conv.bytesToString, bstr_empty]
  | some ad =>
    have hc : (loadCells ad n).run P w = .ok ((l.map fun x => (x.toNat : Int)).map (Value.int .u8)).toArray w := by
      rw [List.map_map, ← hl]
      have h1 := run_loadCells_list (P := P) w ad (l.map B8) (fun j v hv => by
        have hj : 0 < n := by
          have := (List.getElem?_eq_some_iff.1 hv).1
          rw [List.length_map] at this
          omega
        obtain ⟨ad', e, h⟩ := ha.src hj
        cases e
        exact h j v hv)
      rw [List.length_map] at h1
      exact h1
    rw [run_bytesToString w ad n c _ hc, hfold]
    rfl
theorem grownBy_refl (w : World) (r : Option Nat) : w.grownBy w r := ⟨rfl, rfl, rfl, Nat.le_refl _, fun _ _ _ => rfl⟩
theorem grownBy_trans {w w1 w2 : World} {r : Option Nat} (h : w.grownBy w1 r) (k : w1.grownBy w2 r) : w.grownBy w2 r :=
  ⟨k.os.trans h.os, k.tape.trans h.tape, k.output.trans h.output, Nat.le_trans h.size k.size, fun i hi hn => (k.block i (Nat.lt_of_lt_of_le hi h.size) hn).trans (h.block i hi hn)⟩
theorem grownBy_below {w w' : World} (h : Below w.heap.size w w') (r : Option Nat) : w.grownBy w' r := ⟨h.os, h.tape, h.output, h.size, fun k hk _ => h.block k hk⟩
theorem grownBy_quiet {w w' : World} (h : Quiet w w') (r : Option Nat) : w.grownBy w' r := grownBy_below (h.below _) r
theorem grownBy_setRow (w : World) (g : Nat) (cs : Array Value) : w.grownBy (w.setRow g cs) (some g) :=
  ⟨rfl, rfl, rfl, by simp [World.setRow], fun k _ hn => setRow_other w g k cs (fun e => hn (by rw [e]))⟩
theorem grownBy_setCell (w : World) (g k : Nat) (v : Value) : w.grownBy (w.setCell ⟨g, k, none⟩ v) (some g) :=
  ⟨rfl, rfl, rfl, by simp, fun i _ hn => Below.heap_setCell w ⟨g, k, none⟩ v i (fun e => hn (by rw [e]))⟩
theorem below_grownBy {w w' : World} {g B : Nat} (h : w.grownBy w' (some g)) (hB : B ≤ g) (hB2 : B ≤ w.heap.size) : Below B w w' :=
  ⟨h.os, h.tape, h.output, h.size, fun k hk => h.block k (by omega) (fun e => by cases e; omega)⟩
theorem Row.apart {w w' : World} {g k : Nat} {e : TypeId} {xs : List Value} (h : Row w k e xs) (hg : w.grownBy w' (some g)) (hk : k ≠ g) : Row w' k e xs := by
  have hl := h.lt
  unfold Row at h ⊢
  rw [hg.block k hl (fun e => hk (by cases e; rfl))]
  exact h
theorem Reads.apart {w w' : World} {g : Nat} {a : Option Addr} {n : Nat} {xs : List Value} (h : Reads w a n xs) (hg : w.grownBy w' (some g)) (hk : ∀ ad, a = some ad → ad.block ≠ g) : Reads w' a n xs := by
  obtain ⟨hl, h⟩ := h
  refine ⟨hl, fun hn => ?_⟩
  obtain ⟨b, off, ha, hlt, hc⟩ := h hn
  refine ⟨b, off, ha, Nat.lt_of_lt_of_le hlt hg.size, fun j hj => ?_⟩
  rw [World.cell?_of_block (w := w) (hg.block b hlt (fun e => hk _ ha (by cases e; rfl)))]
  exact hc j hj
/-- one operation, its run known -/
theorem wpList_run {P : Program} {w : World} {ops : Array Oper} {rest : List Oper} {o : Oper} {a : Act} {Q : Exit → Act → World → Prop} (hgd : o.guard = none) (v : Value) (w' : World) (hrun : (execOp a.eval o).run P w = .ok (.value v) w')
    (h : wpList P ops Q rest (a.put o.dst v) w') : wpList P ops Q (o :: rest) a w :=
  wpList_plain hgd fun K hK => by
    unfold Oper.wp
    rw [hrun]
    exact hK _ _ h
theorem Reads.sub {w : World} {b o n : Nat} {xs : List Value} (h : Reads w (some ⟨b, o, none⟩) n xs) (f k : Nat) (hk : f + k ≤ n) : Reads w (some ⟨b, o + f, none⟩) k ((xs.drop f).take k) := by
  obtain ⟨hl, h⟩ := h
  refine ⟨by rw [List.length_take, List.length_drop]; omega, fun hk0 => ?_⟩
  obtain ⟨b', o', e, hb, hc⟩ := h (by omega)
  cases e
  refine ⟨b, o + f, rfl, hb, fun j hj => ?_⟩
  rw [Nat.add_assoc, hc (f + j) (by omega), List.getElem?_take, if_pos hj, List.getElem?_drop]
theorem sub_bytes {w : World} {b o n : Nat} {l : List UInt8} (h : Reads w (some ⟨b, o, none⟩) n (l.map B8)) (f k : Nat) (hk : f + k ≤ n) : Reads w (some ⟨b, o + f, none⟩) k (((l.drop f).take k).map B8) := by
  have := h.sub f k hk
  rwa [← List.map_drop, ← List.map_take] at this
/-- 'copy' within blocks known whole -/
theorem wpList_copy_grown {P : Program} {w : World} {ops : Array Oper} {rest : List Oper} {o : Oper} {a : Act} {Q : Exit → Act → World → Prop} (hgd : o.guard = none) (d s : Operand) (dT sT : TypeId)
    (ho : o.op = .call { callee := .builtin .copy, args := #[d, s], argTypes := #[dT, sT] }) (elem : TypeId) (hu : P.underlying dT = some (.slice elem)) (hsz : (P.info? elem).map (·.size) = some 1)
    (dp sp : Option Addr) (dLen dCap sLen sCap : Nat) (hd : a.eval d = .slice dp dLen dCap) (hs : a.eval s = .slice sp sLen sCap)
    (g off : Nat) (cur : List Value) (t : TypeId) (hg : w.heap[g]? = some (.cells cur.toArray t (0, 0))) (cs : List Value) (hn : cs.length = Nat.min sLen dLen)
    (hpos : 0 < cs.length → dp = some ⟨g, off, none⟩ ∧ ∃ ad, sp = some ad ∧ ∀ j v, cs[j]? = some v → w.cell? (ad.add j) = some v)
    (hfit : off + cs.length ≤ cur.length) (h1 : ∀ v ∈ cs, v.oneCell' = true)
    (h : ∀ w', Hid (w'.heap[g]? = some (.cells (splice cur off cs).toArray t (0, 0))) → w.grownBy w' (some g) → wpList P ops Q rest (a.put o.dst (goInt cs.length)) w') :
    wpList P ops Q (o :: rest) a w := by
  by_cases h0 : cs.length = 0
  · obtain rfl : cs = [] := List.eq_nil_of_length_eq_zero h0
    refine wpList_copy_nothing hgd d s dT sT ho elem hu hsz dp sp dLen dCap sLen sCap hd hs (by simpa using hn.symm) ?_
    exact h w (show _ = _ by simpa [splice] using hg) (grownBy_refl _ _)
  · obtain ⟨rfl, ad, rfl, hsrc⟩ := hpos (by omega)
    refine wpList_copy_own hgd d s dT sT ho elem hu hsz g off dLen dCap ad sLen sCap hd hs cur.toArray t hg cs hn hsrc (by simpa using hfit) h1 ?_
    exact h _ (show _ = _ by simpa [splice] using setRow_heap w g _ _ t _ hg) (grownBy_setRow _ _ _)
/-- 'copy' out of a text into a block known whole -/
theorem run_copy_str {P : Program} (w : World) (dT sT ty elem : TypeId) (dp : Option Addr) (g o dLen dCap : Nat) (s cs : List UInt8) (cur : List Value) (t : TypeId)
    (hu : P.underlying dT = some (.slice elem)) (hs : (P.info? elem).map (·.size) = some 1) (hg : w.heap[g]? = some (.cells cur.toArray t (0, 0))) (hcs : cs = s.take dLen)
    (hpos : 0 < cs.length → dp = some ⟨g, o, none⟩) (hfit : o + cs.length ≤ cur.length) :
    (Builtin.copy_ #[dT, sT] ty #[.slice dp dLen dCap, .string (bstr s)]).run P w = .ok (goInt cs.length) (w.setRow g (splice cur o (cs.map B8)).toArray) := by
  have hn : Nat.min s.length dLen = cs.length := by
    rw [hcs, List.length_take, Nat.min_comm]
  have hfc : ((((bstr s).extract 0 cs.length).data).map fun b => Value.int .u8 (b.toNat : Int)).toList = cs.map B8 := by
    rw [bstr_extract]
    simp [bstr, hcs]
  cases hq : P.info? elem with
  | none => simp [hq] at hs
  | some i =>
    have hi : i.size = 1 := by simpa [hq] using hs
    rcases Nat.eq_zero_or_pos cs.length with h0 | h0
    · obtain rfl : cs = [] := List.eq_nil_of_length_eq_zero h0
      have hset : w.setRow g (splice cur o ([] : List Value)).toArray = w := by
        have : splice cur o ([] : List Value) = cur := by simp [splice]
        rw [this, setRow_self w g _ t (0, 0) hg]
      rw [List.length_nil] at hn
      cases dp <;> simp [Builtin.copy_, run_underlying hu, Builtin.lenOf, Builtin.firstCells, sizeOf, typeInfo, hq, hi, hn, hset, storeCells]
    · obtain rfl := hpos h0
      have hst := run_storeCells_at P g o t (cs.map B8) 0 cur.toArray w hg (by simpa using hfit) (b8_one cs)
      simp only [Nat.add_zero] at hst
      simp [Builtin.copy_, run_underlying hu, Builtin.lenOf, Builtin.firstCells, sizeOf, typeInfo, hq, hi, hn]
      simp at hfc
      rw [hfc, hst]
      simp [splice]
theorem wpList_copy_str {P : Program} {w : World} {ops : Array Oper} {rest : List Oper} {o : Oper} {a : Act} {Q : Exit → Act → World → Prop} (hgd : o.guard = none) (d s : Operand) (dT sT : TypeId)
    (ho : o.op = .call { callee := .builtin .copy, args := #[d, s], argTypes := #[dT, sT] }) (elem : TypeId) (hu : P.underlying dT = some (.slice elem)) (hsz : (P.info? elem).map (·.size) = some 1)
    (dp : Option Addr) (dLen dCap : Nat) (str : List UInt8) (hd : a.eval d = .slice dp dLen dCap) (hs : a.eval s = .string (bstr str))
    (g off : Nat) (cur : List Value) (t : TypeId) (hg : w.heap[g]? = some (.cells cur.toArray t (0, 0))) (cs : List UInt8) (hcs : cs = str.take dLen)
    (hpos : 0 < cs.length → dp = some ⟨g, off, none⟩) (hfit : off + cs.length ≤ cur.length)
    (h : ∀ w', Hid (w'.heap[g]? = some (.cells (splice cur off (cs.map B8)).toArray t (0, 0))) → w.grownBy w' (some g) → wpList P ops Q rest (a.put o.dst (goInt cs.length)) w') :
    wpList P ops Q (o :: rest) a w := by
  refine wpList_plain hgd fun K hK => ?_
  have hrun := run_copy_str (P := P) w dT sT o.type elem dp g off dLen dCap str cs cur t hu hsz hg hcs hpos hfit
  unfold Oper.wp
  simp [execOp, ho, resolve, invoke, builtin, hd, hs, hrun, Result.andThen]
  exact hK _ _ (h _ (show _ = _ by exact setRow_heap w g _ _ t _ hg) (grownBy_setRow _ _ _))
/-- the same as one step of a region that draws its order -/
theorem step_copy_str {P : Program} {ops : Array Oper} {o : Oper} {a : Act} {w : World} {K : Act → World → Prop} {Q : Exit → Act → World → Prop} {E : Prop} (hgd : o.guard = none) (d s : Operand) (dT sT : TypeId)
    (ho : o.op = .call { callee := .builtin .copy, args := #[d, s], argTypes := #[dT, sT] }) (elem : TypeId) (hu : P.underlying dT = some (.slice elem)) (hsz : (P.info? elem).map (·.size) = some 1)
    (dp : Option Addr) (dLen dCap : Nat) (str : List UInt8) (hd : a.eval d = .slice dp dLen dCap) (hs : a.eval s = .string (bstr str))
    (g off : Nat) (cur : List Value) (t : TypeId) (hg : w.heap[g]? = some (.cells cur.toArray t (0, 0))) (cs : List UInt8) (hcs : cs = str.take dLen)
    (hpos : 0 < cs.length → dp = some ⟨g, off, none⟩) (hfit : off + cs.length ≤ cur.length)
    (h : ∀ w', Hid (w'.heap[g]? = some (.cells (splice cur off (cs.map B8)).toArray t (0, 0))) → w.grownBy w' (some g) → K (a.put o.dst (goInt cs.length)) w') :
    if Region.wanted o (yielded ops a.tmps) = true then Oper.wp P o a w K Q else E := by
  have hw : Region.wanted o (yielded ops a.tmps) = true := by simp [Region.wanted, hgd]
  rw [if_pos hw]
  have hrun := run_copy_str (P := P) w dT sT o.type elem dp g off dLen dCap str cs cur t hu hsz hg hcs hpos hfit
  unfold Oper.wp
  simp [execOp, ho, resolve, invoke, builtin, hd, hs, hrun, Result.andThen]
  exact h _ (show _ = _ by exact setRow_heap w g _ _ t _ hg) (grownBy_setRow _ _ _)
/-- 'clear' on a part of a block known whole -/
theorem run_clear_row {P : Program} (w : World) (T e ty : TypeId) (sp : Option Addr) (g o n c : Nat) (cur : List Value) (t : TypeId) (z : Value) (hT : P.underlying T = some (.slice e)) (hz : ∀ w, (zeroValue e).run P w = .ok z w) (hzc : z.cells = #[z]) (h1 : z.oneCell' = true)
    (hg : w.heap[g]? = some (.cells cur.toArray t (0, 0))) (hpos : 0 < n → sp = some ⟨g, o, none⟩) (hfit : o + n ≤ cur.length) :
    (Builtin.clear_ #[T] ty #[.slice sp n c]).run P w = .ok (.tuple #[]) (w.setRow g (splice cur o (List.replicate n z)).toArray) := by
  rcases Nat.eq_zero_or_pos n with h0 | h0
  · subst h0
    have : splice cur o (List.replicate 0 z) = cur := by simp [splice]
    rw [this, setRow_self w g _ t (0, 0) hg]
    cases sp <;> simp [Builtin.clear_, run_underlying hT]
  · obtain rfl := hpos h0
    have hzl : (Builtin.zeroCells z.cells n).toList = List.replicate n z := by
      rw [hzc]
      simp [Builtin.zeroCells]
      apply List.ext_getElem
      · simp
      · intro i h1 h2
        simp [Nat.mod_one]
    have hst := run_storeCells_at P g o t (List.replicate n z) 0 cur.toArray w hg (by simpa using hfit) (by intro v hv; rw [List.eq_of_mem_replicate hv]; exact h1)
    simp only [Nat.add_zero] at hst
    obtain ⟨m, rfl⟩ : ∃ m, n = m + 1 := ⟨n - 1, by omega⟩
    simp [Builtin.clear_, run_underlying hT, hz, hzl, hst, splice]
theorem wpList_clear_splice {P : Program} {w : World} {ops : Array Oper} {rest : List Oper} {o : Oper} {a : Act} {Q : Exit → Act → World → Prop} (hgd : o.guard = none) (x : Operand) (T : TypeId)
    (ho : o.op = .call { callee := .builtin .clear, args := #[x], argTypes := #[T] }) (e : TypeId) (z : Value) (hT : P.underlying T = some (.slice e)) (hz : ∀ w, (zeroValue e).run P w = .ok z w) (hzc : z.cells = #[z]) (h1 : z.oneCell' = true)
    (sp : Option Addr) (n c : Nat) (hx : a.eval x = .slice sp n c) (g off : Nat) (cur : List Value) (t : TypeId) (hg : w.heap[g]? = some (.cells cur.toArray t (0, 0)))
    (hpos : 0 < n → sp = some ⟨g, off, none⟩) (hfit : off + n ≤ cur.length)
    (h : ∀ w', Hid (w'.heap[g]? = some (.cells (splice cur off (List.replicate n z)).toArray t (0, 0))) → w.grownBy w' (some g) → wpList P ops Q rest (a.put o.dst (.tuple #[])) w') :
    wpList P ops Q (o :: rest) a w := by
  refine wpList_plain hgd fun K hK => ?_
  have hrun := run_clear_row (P := P) w T e o.type sp g off n c cur t z hT hz hzc h1 hg hpos hfit
  unfold Oper.wp
  simp [execOp, ho, resolve, invoke, builtin, hx, hrun, Result.andThen]
  exact hK _ _ (h _ (show _ = _ by exact setRow_heap w g _ _ t _ hg) (grownBy_setRow _ _ _))
end Go.Proofs.YtnbihjocdlpplaaDoor
