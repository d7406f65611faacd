/- Texts joined, one behind the other (Mem, ScanA, ScanB). -/
import Derived.Test.YtmhemahkcbgaoaaGreatDoorKn01
import Derived.Lib.SliceRun
import Derived.Stop.BytesEq
import Derived.Laws.BytesString
import Derived.Laws.Rows
import Derived.Laws.Cover3
import Derived.Test.YtmhemahkcbgaoaaGreatDoorShelf
import Derived.Lib.OthersKept
import Derived.Lib.QuoteLoop
import Derived.OwnWalk
/- Laws of memory that the seats want: copy out of a string, clear, an array within a block, bytes as a text. -/
namespace Go.Proofs.YtmhemahkcbgaoaaGreatDoor
set_option linter.unusedVariables false
set_option linter.unusedSimpArgs false
open Go.RowKit
/-- the text that bytes are -/
def bstr (l : List UInt8) : ByteArray := ⟨l.toArray⟩
@[go_sem, simp] theorem bstr_size (l : List UInt8) : (bstr l).size = l.length := by simp [bstr, ByteArray.size]
@[go_sem, simp] theorem bstr_append (a b : List UInt8) : bstr a ++ bstr b = bstr (a ++ b) := by
  apply ByteArray.ext
  simp [bstr, ByteArray.data_append]
@[go_sem, simp] theorem bstr_extract (l : List UInt8) (i j : Nat) : (bstr l).extract i j = bstr ((l.drop i).take (j - i)) := by
  apply ByteArray.ext
  simp [bstr, ByteArray.data_extract, List.drop_take]
@[simp] theorem bstr_list (l : List UInt8) : (bstr l).data.toList = l := rfl
theorem bstr_of (s : ByteArray) : s = bstr s.data.toList := rfl
theorem bstr_inj {a b : List UInt8} (h : bstr a = bstr b) : a = b := by
  have := congrArg (fun s : ByteArray => s.data.toList) h
  simpa using this
theorem bstr_empty : bstr [] = ByteArray.empty := rfl
theorem cells_list (w : World) (g off : Nat) (cur : Array Value) (t : TypeId) (fr : Nat × Nat) (hg : w.heap[g]? = some (.cells cur t fr)) (j : Nat) : w.cell? ((⟨g, off, none⟩ : Addr).add j) = cur[off + j]? := by
  rw [cell_add, cell_of_row w g (off + j) cur t fr hg]
theorem run_loadCells_part {P : Program} (w : World) (g off : Nat) (cur : Array Value) (t : TypeId) (fr : Nat × Nat) (hg : w.heap[g]? = some (.cells cur t fr)) (cs : List Value) (hcs : ∀ j v, cs[j]? = some v → cur[off + j]? = some v) :
    (loadCells ⟨g, off, none⟩ cs.length).run P w = .ok cs.toArray w :=
  run_loadCells_list (P := P) w ⟨g, off, none⟩ cs (fun j v hv => by rw [cells_list w g off cur t fr hg]; exact hcs j v hv)
/-- an array within a block, read -/
theorem run_loadAt_part {P : Program} (w : World) (g off : Nat) (ty e n : Nat) (cur : Array Value) (t : TypeId) (fr : Nat × Nat) (hg : w.heap[g]? = some (.cells cur t fr)) (hu : P.underlying ty = some (.array n e)) (hi : (P.info? ty).map (·.size) = some n)
    (cs : List Value) (hn : cs.length = n) (hcs : ∀ j v, cs[j]? = some v → cur[off + j]? = some v) :
    (Instr.loadAt ty (.pointer (some ⟨g, off, none⟩))).run P w = .ok (.agg cs.toArray) w := by
  have hl := run_loadCells_part (P := P) w g off cur t fr hg cs hcs
  rw [hn] at hl
  cases hq : P.info? ty with
  | none => simp [hq] at hi
  | some i =>
    have hs : i.size = n := by simpa [hq] using hi
    have hagg : (isAgg ty).run P w = .ok true w := by
      unfold isAgg
      rw [Sem.run_bind, run_underlying hu w]
      rfl
    simp [Instr.loadAt, Instr.sureAddr, loadVar, Sem.run_bind, hagg, sizeOf, typeInfo, hq, hs, hl]
/-- bytes as a text -/
theorem run_bytes_str {P : Program} (w : World) (src dst e : TypeId) (hs : P.underlying src = some (.slice e)) (he : P.underlying e = some (.int .u8)) (hd : P.underlying dst = some .string)
    (a : Option Addr) (n c : Nat) (l : List UInt8) (ha : Reads w a n (l.map B8)) : (convert src dst (.slice a n c)).run P w = .ok (.string (bstr l)) w := by
  rw [run_convert_bytes_string w src dst e a n c hs he hd]
  have hl := ha.len
  rw [List.length_map] at hl
  have hfold : ∀ (l : List UInt8) (s : ByteArray), (l.map fun x => (x.toNat : Int)).foldl (fun (r : ByteArray) (n : Int) => r.push (UInt8.ofNat n.toNat)) s = ⟨(s.data.toList ++ l).toArray⟩ := by
    intro l
    induction l with
    | nil => intro s; simp
    | cons x l ih =>
      intro s
      rw [List.map_cons, List.foldl_cons, ih]
      simp
  cases a with
  | none =>
    have h0 : n = 0 := by
      rcases Nat.eq_zero_or_pos n with h | h
      · exact h
      · obtain ⟨b, o, e, _⟩ := ha.2 h
        cases e
    obtain rfl : l = [] := List.eq_nil_of_length_eq_zero (by omega)
    simp [Conv.bytesToString, bstr_empty]
  | some ad =>
    have hc : (loadCells ad n).run P w = .ok ((l.map fun x => (x.toNat : Int)).map (Value.int .u8)).toArray w := by
      rw [List.map_map, ← hl]
      have h1 := run_loadCells_list (P := P) w ad (l.map B8) (fun j v hv => by
        have hj : 0 < n := by
          have := (List.getElem?_eq_some_iff.1 hv).1
          rw [List.length_map] at this
          omega
        obtain ⟨ad', e, h⟩ := ha.src hj
        cases e
        exact h j v hv)
      rw [List.length_map] at h1
      exact h1
    rw [run_bytesToString w ad n c _ hc, hfold]
    rfl
theorem grownBy_refl (w : World) (r : Option Nat) : w.grownBy w r := ⟨rfl, rfl, rfl, Nat.le_refl _, fun _ _ _ => rfl⟩
theorem grownBy_trans {w w1 w2 : World} {r : Option Nat} (h : w.grownBy w1 r) (k : w1.grownBy w2 r) : w.grownBy w2 r :=
  ⟨k.os.trans h.os, k.tape.trans h.tape, k.output.trans h.output, Nat.le_trans h.size k.size, fun i hi hn => (k.block i (Nat.lt_of_lt_of_le hi h.size) hn).trans (h.block i hi hn)⟩
theorem grownBy_below {w w' : World} (h : Below w.heap.size w w') (r : Option Nat) : w.grownBy w' r := ⟨h.os, h.tape, h.output, h.size, fun k hk _ => h.block k hk⟩
theorem grownBy_quiet {w w' : World} (h : Quiet w w') (r : Option Nat) : w.grownBy w' r := grownBy_below (h.below _) r
theorem grownBy_setRow (w : World) (g : Nat) (cs : Array Value) : w.grownBy (w.setRow g cs) (some g) :=
  ⟨rfl, rfl, rfl, by simp [World.setRow], fun k _ hn => setRow_other w g k cs (fun e => hn (by rw [e]))⟩
theorem grownBy_setCell (w : World) (g k : Nat) (v : Value) : w.grownBy (w.setCell ⟨g, k, none⟩ v) (some g) :=
  ⟨rfl, rfl, rfl, by simp, fun i _ hn => Below.heap_setCell w ⟨g, k, none⟩ v i (fun e => hn (by rw [e]))⟩
theorem below_grownBy {w w' : World} {g B : Nat} (h : w.grownBy w' (some g)) (hB : B ≤ g) (hB2 : B ≤ w.heap.size) : Below B w w' :=
  ⟨h.os, h.tape, h.output, h.size, fun k hk => h.block k (by omega) (fun e => by cases e; omega)⟩
theorem Row.apart {w w' : World} {g k : Nat} {e : TypeId} {xs : List Value} (h : Row w k e xs) (hg : w.grownBy w' (some g)) (hk : k ≠ g) : Row w' k e xs := by
  have hl := h.lt
  unfold Row at h ⊢
  rw [hg.block k hl (fun e => hk (by cases e; rfl))]
  exact h
theorem Reads.apart {w w' : World} {g : Nat} {a : Option Addr} {n : Nat} {xs : List Value} (h : Reads w a n xs) (hg : w.grownBy w' (some g)) (hk : ∀ ad, a = some ad → ad.block ≠ g) : Reads w' a n xs := by
  obtain ⟨hl, h⟩ := h
  refine ⟨hl, fun hn => ?_⟩
  obtain ⟨b, off, ha, hlt, hc⟩ := h hn
  refine ⟨b, off, ha, Nat.lt_of_lt_of_le hlt hg.size, fun j hj => ?_⟩
  rw [World.cell?_of_block (w := w) (hg.block b hlt (fun e => hk _ ha (by cases e; rfl)))]
  exact hc j hj
/-- one operation, its run known -/
theorem wpList_run {P : Program} {w : World} {ops : Array Oper} {rest : List Oper} {o : Oper} {a : Act} {Q : Exit → Act → World → Prop} (hgd : o.guard = none) (v : Value) (w' : World) (hrun : (execOp a.eval o).run P w = .ok (.value v) w')
    (h : wpList P ops Q rest (a.put o.dst v) w') : wpList P ops Q (o :: rest) a w :=
  wpList_plain hgd fun K hK => by
    unfold Oper.wp
    rw [hrun]
    exact hK _ _ h
theorem Reads.sub {w : World} {b o n : Nat} {xs : List Value} (h : Reads w (some ⟨b, o, none⟩) n xs) (f k : Nat) (hk : f + k ≤ n) : Reads w (some ⟨b, o + f, none⟩) k ((xs.drop f).take k) := by
  obtain ⟨hl, h⟩ := h
  refine ⟨by rw [List.length_take, List.length_drop]; omega, fun hk0 => ?_⟩
  obtain ⟨b', o', e, hb, hc⟩ := h (by omega)
  cases e
  refine ⟨b, o + f, rfl, hb, fun j hj => ?_⟩
  rw [Nat.add_assoc, hc (f + j) (by omega), List.getElem?_take, if_pos hj, List.getElem?_drop]
theorem sub_bytes {w : World} {b o n : Nat} {l : List UInt8} (h : Reads w (some ⟨b, o, none⟩) n (l.map B8)) (f k : Nat) (hk : f + k ≤ n) : Reads w (some ⟨b, o + f, none⟩) k (((l.drop f).take k).map B8) := by
  have := h.sub f k hk
  rwa [← List.map_drop, ← List.map_take] at this
/-- 'copy' within blocks known whole -/
theorem wpList_copy_grown {P : Program} {w : World} {ops : Array Oper} {rest : List Oper} {o : Oper} {a : Act} {Q : Exit → Act → World → Prop} (hgd : o.guard = none) (d s : Operand) (dT sT : TypeId)
    (ho : o.op = .call { callee := .builtin .copy, args := #[d, s], argTypes := #[dT, sT] }) (elem : TypeId) (hu : P.underlying dT = some (.slice elem)) (hsz : (P.info? elem).map (·.size) = some 1)
    (dp sp : Option Addr) (dLen dCap sLen sCap : Nat) (hd : a.eval d = .slice dp dLen dCap) (hs : a.eval s = .slice sp sLen sCap)
    (g off : Nat) (cur : List Value) (t : TypeId) (hg : w.heap[g]? = some (.cells cur.toArray t (0, 0))) (cs : List Value) (hn : cs.length = Nat.min sLen dLen)
    (hpos : 0 < cs.length → dp = some ⟨g, off, none⟩ ∧ ∃ ad, sp = some ad ∧ ∀ j v, cs[j]? = some v → w.cell? (ad.add j) = some v)
    (hfit : off + cs.length ≤ cur.length) (h1 : ∀ v ∈ cs, v.oneCell' = true)
    (h : ∀ w', Hid (w'.heap[g]? = some (.cells (splice cur off cs).toArray t (0, 0))) → w.grownBy w' (some g) → wpList P ops Q rest (a.put o.dst (goInt cs.length)) w') :
    wpList P ops Q (o :: rest) a w := by
  by_cases h0 : cs.length = 0
  · obtain rfl : cs = [] := List.eq_nil_of_length_eq_zero h0
    refine wpList_copy_nothing hgd d s dT sT ho elem hu hsz dp sp dLen dCap sLen sCap hd hs (by simpa using hn.symm) ?_
    exact h w (show _ = _ by simpa [splice] using hg) (grownBy_refl _ _)
  · obtain ⟨rfl, ad, rfl, hsrc⟩ := hpos (by omega)
    refine wpList_copy_own hgd d s dT sT ho elem hu hsz g off dLen dCap ad sLen sCap hd hs cur.toArray t hg cs hn hsrc (by simpa using hfit) h1 ?_
    exact h _ (show _ = _ by simpa [splice] using setRow_heap w g _ _ t _ hg) (grownBy_setRow _ _ _)
/-- 'copy' out of a text into a block known whole -/
theorem run_copy_str {P : Program} (w : World) (dT sT ty elem : TypeId) (dp : Option Addr) (g o dLen dCap : Nat) (s cs : List UInt8) (cur : List Value) (t : TypeId)
    (hu : P.underlying dT = some (.slice elem)) (hs : (P.info? elem).map (·.size) = some 1) (hg : w.heap[g]? = some (.cells cur.toArray t (0, 0))) (hcs : cs = s.take dLen)
    (hpos : 0 < cs.length → dp = some ⟨g, o, none⟩) (hfit : o + cs.length ≤ cur.length) :
    (Builtin.copy_ #[dT, sT] ty #[.slice dp dLen dCap, .string (bstr s)]).run P w = .ok (goInt cs.length) (w.setRow g (splice cur o (cs.map B8)).toArray) := by
  have hn : Nat.min s.length dLen = cs.length := by
    rw [hcs, List.length_take, Nat.min_comm]
  have hfc : ((((bstr s).extract 0 cs.length).data).map fun b => Value.int .u8 (b.toNat : Int)).toList = cs.map B8 := by
    rw [bstr_extract]
    simp [bstr, hcs]
  cases hq : P.info? elem with
  | none => simp [hq] at hs
  | some i =>
    have hi : i.size = 1 := by simpa [hq] using hs
    rcases Nat.eq_zero_or_pos cs.length with h0 | h0
    · obtain rfl : cs = [] := List.eq_nil_of_length_eq_zero h0
      have hset : w.setRow g (splice cur o ([] : List Value)).toArray = w := by
        have : splice cur o ([] : List Value) = cur := by simp [splice]
        rw [this, setRow_self w g _ t (0, 0) hg]
      rw [List.length_nil] at hn
      cases dp <;> simp [Builtin.copy_, run_underlying hu, Builtin.lenOf, Builtin.firstCells, sizeOf, typeInfo, hq, hi, hn, hset, storeCells]
    · obtain rfl := hpos h0
      have hst := run_storeCells_at P g o t (cs.map B8) 0 cur.toArray w hg (by simpa using hfit) (b8_one cs)
      simp only [Nat.add_zero] at hst
      simp [Builtin.copy_, run_underlying hu, Builtin.lenOf, Builtin.firstCells, sizeOf, typeInfo, hq, hi, hn]
      simp at hfc
      rw [hfc, hst]
      simp [splice]
theorem wpList_copy_str {P : Program} {w : World} {ops : Array Oper} {rest : List Oper} {o : Oper} {a : Act} {Q : Exit → Act → World → Prop} (hgd : o.guard = none) (d s : Operand) (dT sT : TypeId)
    (ho : o.op = .call { callee := .builtin .copy, args := #[d, s], argTypes := #[dT, sT] }) (elem : TypeId) (hu : P.underlying dT = some (.slice elem)) (hsz : (P.info? elem).map (·.size) = some 1)
    (dp : Option Addr) (dLen dCap : Nat) (str : List UInt8) (hd : a.eval d = .slice dp dLen dCap) (hs : a.eval s = .string (bstr str))
    (g off : Nat) (cur : List Value) (t : TypeId) (hg : w.heap[g]? = some (.cells cur.toArray t (0, 0))) (cs : List UInt8) (hcs : cs = str.take dLen)
    (hpos : 0 < cs.length → dp = some ⟨g, off, none⟩) (hfit : off + cs.length ≤ cur.length)
    (h : ∀ w', Hid (w'.heap[g]? = some (.cells (splice cur off (cs.map B8)).toArray t (0, 0))) → w.grownBy w' (some g) → wpList P ops Q rest (a.put o.dst (goInt cs.length)) w') :
    wpList P ops Q (o :: rest) a w := by
  refine wpList_plain hgd fun K hK => ?_
  have hrun := run_copy_str (P := P) w dT sT o.type elem dp g off dLen dCap str cs cur t hu hsz hg hcs hpos hfit
  unfold Oper.wp
  simp [execOp, ho, resolve, invoke, builtin, hd, hs, hrun, Result.andThen]
  exact hK _ _ (h _ (show _ = _ by exact setRow_heap w g _ _ t _ hg) (grownBy_setRow _ _ _))
/-- the same as one step of a region that draws its order -/
theorem step_copy_str {P : Program} {ops : Array Oper} {o : Oper} {a : Act} {w : World} {K : Act → World → Prop} {Q : Exit → Act → World → Prop} {E : Prop} (hgd : o.guard = none) (d s : Operand) (dT sT : TypeId)
    (ho : o.op = .call { callee := .builtin .copy, args := #[d, s], argTypes := #[dT, sT] }) (elem : TypeId) (hu : P.underlying dT = some (.slice elem)) (hsz : (P.info? elem).map (·.size) = some 1)
    (dp : Option Addr) (dLen dCap : Nat) (str : List UInt8) (hd : a.eval d = .slice dp dLen dCap) (hs : a.eval s = .string (bstr str))
    (g off : Nat) (cur : List Value) (t : TypeId) (hg : w.heap[g]? = some (.cells cur.toArray t (0, 0))) (cs : List UInt8) (hcs : cs = str.take dLen)
    (hpos : 0 < cs.length → dp = some ⟨g, off, none⟩) (hfit : off + cs.length ≤ cur.length)
    (h : ∀ w', Hid (w'.heap[g]? = some (.cells (splice cur off (cs.map B8)).toArray t (0, 0))) → w.grownBy w' (some g) → K (a.put o.dst (goInt cs.length)) w') :
    if Region.wanted o (yielded ops a.tmps) = true then Oper.wp P o a w K Q else E := by
  have hw : Region.wanted o (yielded ops a.tmps) = true := by simp [Region.wanted, hgd]
  rw [if_pos hw]
  have hrun := run_copy_str (P := P) w dT sT o.type elem dp g off dLen dCap str cs cur t hu hsz hg hcs hpos hfit
  unfold Oper.wp
  simp [execOp, ho, resolve, invoke, builtin, hd, hs, hrun, Result.andThen]
  exact h _ (show _ = _ by exact setRow_heap w g _ _ t _ hg) (grownBy_setRow _ _ _)
/-- 'clear' on a part of a block known whole -/
theorem run_clear_row {P : Program} (w : World) (T e ty : TypeId) (sp : Option Addr) (g o n c : Nat) (cur : List Value) (t : TypeId) (z : Value) (hT : P.underlying T = some (.slice e)) (hz : ∀ w, (zeroValue e).run P w = .ok z w) (hzc : z.cells = #[z]) (h1 : z.oneCell' = true)
    (hg : w.heap[g]? = some (.cells cur.toArray t (0, 0))) (hpos : 0 < n → sp = some ⟨g, o, none⟩) (hfit : o + n ≤ cur.length) :
    (Builtin.clear_ #[T] ty #[.slice sp n c]).run P w = .ok (.tuple #[]) (w.setRow g (splice cur o (List.replicate n z)).toArray) := by
  rcases Nat.eq_zero_or_pos n with h0 | h0
  · subst h0
    have : splice cur o (List.replicate 0 z) = cur := by simp [splice]
    rw [this, setRow_self w g _ t (0, 0) hg]
    cases sp <;> simp [Builtin.clear_, run_underlying hT]
  · obtain rfl := hpos h0
    have hzl : (Builtin.zeroCells z.cells n).toList = List.replicate n z := by
      rw [hzc]
      simp [Builtin.zeroCells]
      apply List.ext_getElem
      · simp
      · intro i h1 h2
        simp [Nat.mod_one]
    have hst := run_storeCells_at P g o t (List.replicate n z) 0 cur.toArray w hg (by simpa using hfit) (by intro v hv; rw [List.eq_of_mem_replicate hv]; exact h1)
    simp only [Nat.add_zero] at hst
    obtain ⟨m, rfl⟩ : ∃ m, n = m + 1 := ⟨n - 1, by omega⟩
    simp [Builtin.clear_, run_underlying hT, hz, hzl, hst, splice]
theorem wpList_clear_splice {P : Program} {w : World} {ops : Array Oper} {rest : List Oper} {o : Oper} {a : Act} {Q : Exit → Act → World → Prop} (hgd : o.guard = none) (x : Operand) (T : TypeId)
    (ho : o.op = .call { callee := .builtin .clear, args := #[x], argTypes := #[T] }) (e : TypeId) (z : Value) (hT : P.underlying T = some (.slice e)) (hz : ∀ w, (zeroValue e).run P w = .ok z w) (hzc : z.cells = #[z]) (h1 : z.oneCell' = true)
    (sp : Option Addr) (n c : Nat) (hx : a.eval x = .slice sp n c) (g off : Nat) (cur : List Value) (t : TypeId) (hg : w.heap[g]? = some (.cells cur.toArray t (0, 0)))
    (hpos : 0 < n → sp = some ⟨g, off, none⟩) (hfit : off + n ≤ cur.length)
    (h : ∀ w', Hid (w'.heap[g]? = some (.cells (splice cur off (List.replicate n z)).toArray t (0, 0))) → w.grownBy w' (some g) → wpList P ops Q rest (a.put o.dst (.tuple #[])) w') :
    wpList P ops Q (o :: rest) a w := by
  refine wpList_plain hgd fun K hK => ?_
  have hrun := run_clear_row (P := P) w T e o.type sp g off n c cur t z hT hz hzc h1 hg hpos hfit
  unfold Oper.wp
  simp [execOp, ho, resolve, invoke, builtin, hx, hrun, Result.andThen]
  exact hK _ _ (h _ (show _ = _ by exact setRow_heap w g _ _ t _ hg) (grownBy_setRow _ _ _))
end Go.Proofs.YtmhemahkcbgaoaaGreatDoor
/- The scan's tests of a byte, of a character. -/
namespace Go.Proofs.YtmhemahkcbgaoaaGreatDoor
set_option linter.unusedVariables false
set_option linter.unusedSimpArgs false
open Go.RowKit
theorem ret_true {P : Prop} [Decidable P] (h : P) : Ending.returned (.bool true) = Ending.returned (.bool (decide P)) := by rw [decide_eq_true h]
theorem ret_false {P : Prop} [Decidable P] (h : ¬ P) : Ending.returned (.bool false) = Ending.returned (.bool (decide P)) := by rw [decide_eq_false h]
theorem ret_bool {b : Bool} {P : Prop} [Decidable P] (h : b = true ↔ P) : Ending.returned (.bool b) = Ending.returned (.bool (decide P)) := by
  congr 2
  cases b
  · simpa using h
  · simpa using h
theorem ret_int {k : IntKind} {a b : Int} (h : a = b) : Ending.returned (.int k a) = Ending.returned (.int k b) := by rw [h]
set_option maxHeartbeats 400000 in
theorem blankC (w : World) (n : Nat) : Calls Tryz.prog 26 #[.int .u8 (n : Int)] w fun e w' => e = .returned (.bool (decide (BlankN n))) ∧ w' = w := by
  go_enter Tryz.func26, Tryz.ntmps26
  go_wp2
  all_goals (go_ret; refine ⟨?_, rfl⟩)
  all_goals exact ret_bool (P := BlankN n) (by unfold BlankN; (try simp only [Bool.or_eq_true, Bool.and_eq_true, decide_eq_true_eq, beq_iff_eq, bne_iff_ne, ne_eq, eq_self, true_iff, false_iff, iff_true, iff_false, Bool.false_eq_true, Bool.true_eq_false]); omega)
set_option maxHeartbeats 400000 in
theorem blankR (w : World) (n : Nat) : Calls Tryz.prog 31 #[.int .u8 (n : Int)] w fun e w' => e = .returned (.bool (decide (BlankN n))) ∧ w' = w := by
  go_enter Tryz.func31, Tryz.ntmps31
  go_wp2
  all_goals (go_ret; refine ⟨?_, rfl⟩)
  all_goals exact ret_bool (P := BlankN n) (by unfold BlankN; (try simp only [Bool.or_eq_true, Bool.and_eq_true, decide_eq_true_eq, beq_iff_eq, bne_iff_ne, ne_eq, eq_self, true_iff, false_iff, iff_true, iff_false, Bool.false_eq_true, Bool.true_eq_false]); omega)
set_option maxHeartbeats 1000000 in
theorem runsC (w : World) (n : Nat) : Calls Tryz.prog 27 #[.int .u8 (n : Int)] w fun e w' => e = .returned (.bool (decide (RunN n))) ∧ w' = w := by
  go_enter Tryz.func27, Tryz.ntmps27
  go_wp2
  all_goals (go_ret; refine ⟨?_, rfl⟩)
  all_goals exact ret_bool (P := RunN n) (by unfold RunN; (try simp only [Bool.or_eq_true, Bool.and_eq_true, decide_eq_true_eq, beq_iff_eq, bne_iff_ne, ne_eq, eq_self, true_iff, false_iff, iff_true, iff_false, Bool.false_eq_true, Bool.true_eq_false]); omega)
set_option maxHeartbeats 1000000 in
theorem runsR (w : World) (n : Nat) : Calls Tryz.prog 33 #[.int .u8 (n : Int)] w fun e w' => e = .returned (.bool (decide (RunN n))) ∧ w' = w := by
  go_enter Tryz.func33, Tryz.ntmps33
  go_wp2
  all_goals (go_ret; refine ⟨?_, rfl⟩)
  all_goals exact ret_bool (P := RunN n) (by unfold RunN; (try simp only [Bool.or_eq_true, Bool.and_eq_true, decide_eq_true_eq, beq_iff_eq, bne_iff_ne, ne_eq, eq_self, true_iff, false_iff, iff_true, iff_false, Bool.false_eq_true, Bool.true_eq_false]); omega)
set_option maxHeartbeats 1000000 in
theorem plainC (w : World) (n : Nat) : Calls Tryz.prog 39 #[.int .i32 (n : Int)] w fun e w' => e = .returned (.bool (decide (PlainN n))) ∧ w' = w := by
  go_enter Tryz.func39, Tryz.ntmps39
  go_wp2
  all_goals (go_ret; refine ⟨?_, rfl⟩)
  all_goals exact ret_bool (P := PlainN n) (by (try simp only [beq_iff_eq, beq_eq_false_iff_ne, ne_eq] at *); unfold PlainN; (try simp only [Bool.or_eq_true, Bool.and_eq_true, decide_eq_true_eq, beq_iff_eq, bne_iff_ne, ne_eq, eq_self, true_iff, false_iff, iff_true, iff_false, Bool.false_eq_true, Bool.true_eq_false]); omega)
set_option maxHeartbeats 1000000 in
theorem plainR (w : World) (n : Nat) : Calls Tryz.prog 44 #[.int .i32 (n : Int)] w fun e w' => e = .returned (.bool (decide (PlainN n))) ∧ w' = w := by
  go_enter Tryz.func44, Tryz.ntmps44
  go_wp2
  all_goals (go_ret; refine ⟨?_, rfl⟩)
  all_goals exact ret_bool (P := PlainN n) (by unfold PlainN; (try simp only [Bool.or_eq_true, Bool.and_eq_true, decide_eq_true_eq, beq_iff_eq, bne_iff_ne, ne_eq, eq_self, true_iff, false_iff, iff_true, iff_false, Bool.false_eq_true, Bool.true_eq_false]); omega)
set_option maxHeartbeats 1000000 in
/-- the reference's digit of sixteen -/
theorem digitR (w : World) (x : UInt8) : Calls Tryz.prog 69 #[.int .u8 (x.toNat : Int)] w fun e w' => e = .returned (.int .i64 (digit16 x)) ∧ w' = w := by
  have hx := x.toNat_lt
  obtain ⟨n, hn⟩ : ∃ n, x.toNat = n := ⟨_, rfl⟩
  have hd : digit16 x = if 48 ≤ n ∧ n ≤ 57 then n - 48 else if 97 ≤ n ∧ n ≤ 102 then n - 87 else 16 := by unfold digit16; rw [hn]
  rw [hn] at hx ⊢
  have HD := Lib.hid hd
  clear hd hn
  go_enter Tryz.func69, Tryz.ntmps69
  go_wp2
  all_goals (go_ret; refine ⟨?_, rfl⟩)
  all_goals (rw [HD.out]; exact ret_int (by split <;> (try split) <;> omega))
end Go.Proofs.YtmhemahkcbgaoaaGreatDoor
/- The library's tables in the world; the first character of a text, by the program and by the reference; a run's number. -/
namespace Go.Proofs.YtmhemahkcbgaoaaGreatDoor
set_option linter.unusedVariables false
set_option linter.unusedSimpArgs false
open Go.RowKit Go.Lib
/-- the tables of the library that the scan reads -/
structure Tabs (w : World) : Prop where
  utf : Lib.Utf8Tabs 2 3 w
  pow : Lib.TabIs Tryz.prog w "internal/strconv.uint64pow10" .u64 Lib.pow10Tab
  lsb : w.cell? ⟨6, 15, none⟩ = some (.int .u8 4)
  size : 7 ≤ w.heap.size
theorem globalPow : Tryz.prog.globalNamed "internal/strconv.uint64pow10" = some 1 := by kernel_rfl
theorem Tabs.below {B : Nat} {w w' : World} (h : Tabs w) (b : Below B w w') (hB : 7 ≤ B) : Tabs w' := by
  refine ⟨⟨fun c hc => ?_, fun i hi => ?_⟩, ?_, ?_, Nat.le_trans h.size b.size⟩
  · rw [b.cell (by simp; omega)]; exact h.utf.1 c hc
  · rw [b.cell (by simp; omega), b.cell (by simp; omega)]; exact h.utf.2 i hi
  · have := h.pow
    unfold Lib.TabIs World.var? at this ⊢
    rw [globalPow] at this ⊢
    simp only [Option.bind_some] at this ⊢
    rw [b.block _ (by omega)]
    exact this
  · rw [b.cell (by simp; omega)]; exact h.lsb
theorem Tabs.next {w w' : World} (h : Tabs w) (b : Below w.heap.size w w') : Tabs w' := h.below b h.size
theorem decodeGo_L {l : List UInt8} (hl : l ≠ []) : Lib.decodeGo (bstr l) = decodeL l := by
  have : (bstr l).size ≠ 0 := by rw [bstr_size]; exact fun e => hl (List.eq_nil_of_length_eq_zero e)
  simp only [Lib.decodeGo, if_neg this]
  rfl
set_option maxHeartbeats 400000 in
theorem wideC (w : World) (l : List UInt8) (hl : l ≠ []) (hT : Tabs w) :
    Calls Tryz.prog 59 #[.string (bstr l), .int .i32 ((decodeL l).1 : Int)] w fun e w' => e = .returned (.int .i64 ((decodeL l).2 : Int)) ∧ Below w.heap.size w w' := by
  have hlen := runeLen_decode l
  have hgo := decodeGo_L hl
  have hR := dec_rune_le (l := l)
  obtain ⟨R, hRe⟩ : ∃ R, (decodeL l).1 = R := ⟨_, rfl⟩
  obtain ⟨K, hKe⟩ : ∃ K, (decodeL l).2 = K := ⟨_, rfl⟩
  rw [hRe] at hlen hR ⊢
  rw [hKe] at hlen ⊢
  by_cases h : R = 65533
  · have c := Tryz.utf8_DecodeRuneInString (bstr l) w hT.utf
    rw [hgo, hRe, hKe] at c
    subst h
    clear hgo hlen hR hRe hKe
    have C := Lib.hid c
    clear c
    go_enter Tryz.func59, Tryz.ntmps59
    go_wp2_with (go_at_call 76; refine (C.out).mono ?_; rintro e w' ⟨rfl, hb⟩)
    go_ret
    exact ⟨rfl, hb⟩
  · have hh : ((R : Int) != 65533) = true := by simp; omega
    have HL := Lib.hid (hlen h)
    clear hgo hlen hRe hKe
    go_enter Tryz.func59, Tryz.ntmps59
    go_wp2_with (go_at_call 75; refine (Tryz.utf8_RuneLen _ _).mono ?_; rintro e w' ⟨rfl, rfl⟩)
    go_ret
    rw [HL.out]
    exact ⟨rfl, Below.refl _ _⟩
theorem iter_below (w : World) (s : ByteArray) (p : Nat) : Below w.heap.size w (w.iter s p) := (Below.refl _ w).alloc (Nat.le_refl _) _
theorem iter_size (w : World) (s : ByteArray) (p : Nat) : (w.iter s p).heap.size = w.heap.size + 1 := by simp [World.iter]
theorem next_first (w : World) (l : List UInt8) (hl : l ≠ []) (ty : TypeId) :
    (Instr.next (.pointer (some ⟨w.heap.size, 0, none⟩)) true ty).run Tryz.prog (w.iter (bstr l) 0) = .ok (.tuple #[.bool true, .int .i64 0, .int .i32 ((decodeL l).1 : Int)]) (w.iter (bstr l) (decodeL l).2) := by
  have hpos : 0 < (bstr l).size := by rw [bstr_size]; exact List.length_pos_iff.2 hl
  have := run_next_any (P := Tryz.prog) w (bstr l) 0 ty hpos
  have hd : Utf8.decode (bstr l) 0 = decodeL l := rfl
  rw [hd] at this
  simpa using this
theorem right_bool (l : List UInt8) : decide (RightD (decodeL l)) = (((decodeL l).1 : Int) != 65533 || decide ((1 : Int) < ((decodeL l).2 : Int))) := by
  rw [Bool.eq_iff_iff]
  simp only [decide_eq_true_eq, Bool.or_eq_true, bne_iff_ne, ne_eq]
  unfold RightD
  omega
set_option maxHeartbeats 400000 in
/-- the first character -/
theorem firstC (w : World) (l : List UInt8) (hl : l ≠ []) (hT : Tabs w) :
    Calls Tryz.prog 37 #[.string (bstr l)] w fun e w' => e = .returned (.tuple #[.int .i32 ((decodeL l).1 : Int), .int .i64 ((decodeL l).2 : Int), .bool (decide (RightD (decodeL l)))]) ∧ Below w.heap.size w w' := by
  have hnx := next_first w l hl
  have hw := wideC (w.iter (bstr l) (decodeL l).2) l hl (hT.next (iter_below _ _ _))
  have hr := right_bool l
  have hb0 := iter_below w (bstr l) (decodeL l).2
  rw [iter_size] at hw
  obtain ⟨R, hRe⟩ : ∃ R, (decodeL l).1 = R := ⟨_, rfl⟩
  obtain ⟨K, hKe⟩ : ∃ K, (decodeL l).2 = K := ⟨_, rfl⟩
  rw [hr]
  rw [hRe, hKe] at hnx hw ⊢
  rw [hKe] at hb0
  clear hRe hKe hr
  have HW := Lib.hid hw
  have HB := Lib.hid hb0
  clear hw hb0
  go_enter Tryz.func37, Tryz.ntmps37
  go_wp2
  refine wp_loop_rounds 1 ?_
  rw [rounds_succ]
  go_wp2_with fail
  refine (HW.out).mono ?_
  rintro e w' ⟨rfl, hb⟩
  go_wp2
  all_goals go_ret3
  all_goals first
    | exact ⟨rfl, HB.out.trans (hb.mono (by omega))⟩
    | (refine ⟨?_, HB.out.trans (hb.mono (by omega))⟩; simp_all)
theorem next_second (w : World) (l : List UInt8) (p : Nat) (hp : p < l.length) (ty : TypeId) :
    ∃ (r : Nat) (q : Nat), (Instr.next (.pointer (some ⟨w.heap.size, 0, none⟩)) true ty).run Tryz.prog (w.iter (bstr l) p) = .ok (.tuple #[.bool true, .int .i64 p, .int .i32 (r : Int)]) (w.iter (bstr l) q) :=
  ⟨_, _, run_next_any (P := Tryz.prog) w (bstr l) p ty (by rw [bstr_size]; exact hp)⟩
theorem next_end (w : World) (l : List UInt8) (p : Nat) (hp : ¬ p < l.length) (ty : TypeId) :
    (Instr.next (.pointer (some ⟨w.heap.size, 0, none⟩)) true ty).run Tryz.prog (w.iter (bstr l) p) = .ok (.tuple #[.bool false]) (w.iter (bstr l) p) :=
  run_next_end (P := Tryz.prog) w (bstr l) p ty (by rw [bstr_size]; exact hp)
theorem right_bool3 (l : List UInt8) : decide (RightD (decodeL l)) = (((decodeL l).1 : Int) != 65533 || ((decodeL l).2 : Int) == 3) := by
  rw [Bool.eq_iff_iff]
  simp only [decide_eq_true_eq, Bool.or_eq_true, bne_iff_ne, ne_eq, beq_iff_eq, dec_right_iff]
  omega
set_option maxHeartbeats 1000000 in
/-- the first character, by the reference -/
theorem charR (w : World) (l : List UInt8) (hl : l ≠ []) (hm : l.length ≤ 140737488355328) :
    Calls Tryz.prog 42 #[.string (bstr l)] w fun e w' => e = .returned (.tuple #[.int .i32 ((decodeL l).1 : Int), .int .i64 ((decodeL l).2 : Int), .bool (decide (RightD (decodeL l)))]) ∧ Below w.heap.size w w' := by
  have hN := fun w1 => next_first w1 l hl
  have hle := dec_width hl
  have hw1 := dec_width_one (l := l)
  rw [right_bool3]
  obtain ⟨R, hRe⟩ : ∃ R, (decodeL l).1 = R := ⟨_, rfl⟩
  obtain ⟨K, hKe⟩ : ∃ K, (decodeL l).2 = K := ⟨_, rfl⟩
  rw [hRe, hKe] at hN ⊢
  rw [hKe] at hle hw1
  clear hRe hKe
  have hKp : (0 : Int) < (K : Int) := by omega
  have hb1 := fun p q => (iter_below w (bstr l) p).trans ((iter_below (w.iter (bstr l) p) (bstr l) q).mono (by rw [iter_size]; omega))
  have hnx := hN w
  by_cases hlt : K < l.length
  · obtain ⟨r, q, h2⟩ : ∃ r q : Nat, ∀ ty, (Instr.next (.pointer (some ⟨w.heap.size, 0, none⟩)) true ty).run Tryz.prog (w.iter (bstr l) K) = .ok (.tuple #[.bool true, .int .i64 K, .int .i32 (r : Int)]) (w.iter (bstr l) q) :=
      ⟨_, _, fun ty => run_next_any (P := Tryz.prog) w (bstr l) K ty (by rw [bstr_size]; exact hlt)⟩
    have hny := hN (w.iter (bstr l) q)
    obtain ⟨r', q', h3⟩ : ∃ r q' : Nat, ∀ ty, (Instr.next (.pointer (some ⟨(w.iter (bstr l) q).heap.size, 0, none⟩)) true ty).run Tryz.prog ((w.iter (bstr l) q).iter (bstr l) K) = .ok (.tuple #[.bool true, .int .i64 K, .int .i32 (r : Int)]) ((w.iter (bstr l) q).iter (bstr l) q') := 
      ⟨_, _, fun ty => run_next_any (P := Tryz.prog) (w.iter (bstr l) q) (bstr l) K ty (by rw [bstr_size]; exact hlt)⟩
    have HB := Lib.hid (hb1 q q')
    clear hb1 hN hlt
    go_enter Tryz.func42, Tryz.ntmps42
    go_wp2
    refine wp_loop_rounds 2 ?_
    rw [rounds_succ]
    go_wp2
    rw [rounds_succ]
    go_wp2
    refine wp_loop_rounds 2 ?_
    rw [rounds_succ]
    go_wp2
    rw [rounds_succ]
    go_wp2
    all_goals go_ret3
    all_goals first
    | exact ⟨rfl, HB.out⟩
    | (refine ⟨?_, HB.out⟩; simp_all)
  · obtain rfl : K = l.length := by omega
    have hnz := next_end w l l.length (by omega)
    have hny := hN (w.iter (bstr l) l.length)
    have hnq := next_end (w.iter (bstr l) l.length) l l.length (by omega)
    have HB := Lib.hid (hb1 l.length l.length)
    clear hb1 hN hlt
    have hsz := bstr_size l
    go_enter Tryz.func42, Tryz.ntmps42
    go_wp2
    refine wp_loop_rounds 2 ?_
    rw [rounds_succ]
    go_wp2
    rw [rounds_succ]
    go_wp2
    refine wp_loop_rounds 2 ?_
    rw [rounds_succ]
    go_wp2
    rw [rounds_succ]
    go_wp2
    all_goals go_ret3
    all_goals first
    | exact ⟨rfl, HB.out⟩
    | (refine ⟨?_, HB.out⟩; simp_all)
end Go.Proofs.YtmhemahkcbgaoaaGreatDoor
