/- The lines of a text and what a script says, by the references. -/
import Derived.Test.YtmhemahkcbgaoaaDoorLineA
import Derived.Test.YtmhemahkcbgaoaaDoorToks
namespace Go.Proofs.YtmhemahkcbgaoaaDoor
set_option linter.unusedVariables false
set_option linter.unusedSimpArgs false
open Go.RowKit
open Go.Lib hiding intOf
def lineCells (x : Nat × Nat × Nat) : List Value := [.int .i64 (x.1 : Int), .int .i64 (x.2.1 : Int), .int .i64 (x.2.2 : Int)]
def rowCells (x : Nat × List UInt8) : List Value := [.int .i64 (x.1 : Int), .string (bstr x.2)]
theorem lines_len (L : List (Nat × Nat × Nat)) : (L.flatMap lineCells).length = L.length * 3 := by
  induction L with
  | nil => rfl
  | cons t L ih => rw [List.flatMap_cons, List.length_append, ih, List.length_cons]; show 3 + _ = _; omega
theorem rows_len (L : List (Nat × List UInt8)) : (L.flatMap rowCells).length = L.length * 2 := by
  induction L with
  | nil => rfl
  | cons t L ih => rw [List.flatMap_cons, List.length_append, ih, List.length_cons]; show 2 + _ = _; omega
/-- a cell of an element of a flat list -/
theorem flat_at {α : Type} {f : α → List Value} {c : Nat} (hf : ∀ x, (f x).length = c) : ∀ {L : List α} {i : Nat} {x : α}, L[i]? = some x → ∀ {j : Nat} {v : Value}, (f x)[j]? = some v → (L.flatMap f)[i * c + j]? = some v
  | [], i, x, h, _, _, _ => by cases h
  | t :: L, 0, x, h, j, v, hj => by
    cases h
    rw [List.flatMap_cons, Nat.zero_mul, Nat.zero_add, List.getElem?_append_left (List.getElem?_eq_some_iff.1 hj).1]
    exact hj
  | t :: L, i + 1, x, h, j, v, hj => by
    rw [List.flatMap_cons, List.getElem?_append_right (by rw [hf, Nat.succ_mul]; omega), hf, show (i + 1) * c + j - c = i * c + j by rw [Nat.succ_mul]; omega]
    exact flat_at hf (by simpa using h) hj
theorem infoLine : (Tryd.prog.info? 88).map (fun i => (i.zero, i.size, i.bytes)) = some (some (.agg #[.int .i64 0, .int .i64 0, .int .i64 0]), 3, 24) := by kernel_rfl
theorem infoRow : (Tryd.prog.info? 51).map (fun i => (i.zero, i.size, i.bytes)) = some (some (.agg #[.int .i64 0, .string ByteArray.empty]), 2, 24) := by kernel_rfl
/-- one struct, just built, put behind a row of the call's own -/
theorem appNew {T e : TypeId} {ops : Array Oper} {rest : List Oper} {o : Oper} {a : Act} {w : World} {Q : Exit → Act → World → Prop} (hgd : o.guard = none) (sl x : Operand) (ho : o.op = .call { callee := .builtin .append, args := #[sl, x], argTypes := #[T, T] })
    (hT : Tryd.prog.underlying T = some (.slice e)) (z : Value) (size bytes : Nat) (hinfo : (Tryd.prog.info? e).map (fun i => (i.zero, i.size, i.bytes)) = some (some z, size, bytes)) (hz : z.cells.size = size) (hs0 : 0 < size) (hby : bytes ≤ 4096)
    (B B0 : Nat) (w0 wp : World) (v : Value) (n : Nat) (xs : List Value) (cs : List Value) (hcs : cs.length = size) (hone : ∀ u ∈ cs, u.oneCell' = true) (hs : a.eval sl = v) (hown : wp.ownsRow B e size v n xs) (hx : a.eval x = .slice (some ⟨wp.heap.size, 0, none⟩) 1 1) (hw : w = wp.alloc (.cells cs.toArray e)) (hl : n ≤ 1073741824) (hb : Below B0 w0 wp) (hB0 : B0 ≤ B) (hB : B ≤ wp.heap.size)
    (h : ∀ v' w', w'.ownsRow B e size v' (n + 1) (xs ++ cs) → Below B0 w0 w' → wp.heap.size ≤ w'.heap.size → wpList Tryd.prog ops Q rest (a.put o.dst v') w') : wpList Tryd.prog ops Q (o :: rest) a w := by
  subst hw
  have hsz : (wp.alloc (.cells cs.toArray e)).heap.size = wp.heap.size + 1 := by simp
  refine appSlice hgd sl x ho hT z size bytes hinfo hz hs0 hby B v n xs hs (World.ownsRow.alloc hown _) (some ⟨wp.heap.size, 0, none⟩) 1 1 cs hx (by rw [hcs, Nat.one_mul]) (fun _ => ⟨wp.heap.size, 0, rfl, fun j u hj => ?_⟩) hone (by omega) (by omega) ?_
  · have hr : Row (wp.alloc (.cells cs.toArray e)) wp.heap.size e cs := alloc_last _ _
    have := Row.cell hr j
    rw [hj] at this
    rw [Nat.zero_add]
    exact this
  · intro v' w' h1 h2
    have hlt : ∀ k, v.ownBlock = some k → B ≤ k := fun k hk => (World.ownsRow.lt hown k hk).1
    exact h v' w' h1 ((hb.alloc (Nat.le_trans hB0 hB) _).grown h2 (by omega) (fun k hk => Nat.le_trans hB0 (hlt k hk))) (by have := h2.size; omega)
theorem own_below {B : Nat} {e : TypeId} {size : Nat} {v : Value} {n : Nat} {xs : List Value} {w w' : World} (h : w.ownsRow B e size v n xs) (b : Below w.heap.size w w') : w'.ownsRow B e size v n xs := by
  refine ⟨h.1, ?_⟩
  rcases h.2 with hn | ⟨g, cap, cur, rfl, hb, hgg, rest⟩
  · exact .inl hn
  · exact .inr ⟨g, cap, cur, rfl, hb, (b.block g (Array.getElem?_eq_some_iff.1 hgg).1).trans hgg, rest⟩
def OwnLn (B : Nat) (v : Value) (L : List (Nat × Nat × Nat)) (w : World) : Prop := w.ownsRow B 88 3 v L.length (L.flatMap lineCells)
def OwnRw (B : Nat) (v : Value) (L : List (Nat × List UInt8)) (w : World) : Prop := w.ownsRow B 51 2 v L.length (L.flatMap rowCells)
theorem OwnLn.below {B : Nat} {v : Value} {L : List (Nat × Nat × Nat)} {w w' : World} (h : OwnLn B v L w) (b : Below w.heap.size w w') : OwnLn B v L w' := own_below h b
theorem OwnRw.below {B : Nat} {v : Value} {L : List (Nat × List UInt8)} {w w' : World} (h : OwnRw B v L w) (b : Below w.heap.size w w') : OwnRw B v L w' := own_below h b
theorem OwnLn.push {B : Nat} {v : Value} {L : List (Nat × Nat × Nat)} {x : Nat × Nat × Nat} {w : World} (h : w.ownsRow B 88 3 v (L.length + 1) (L.flatMap lineCells ++ lineCells x)) : OwnLn B v (L ++ [x]) w := by
  unfold OwnLn
  rw [List.length_append, List.flatMap_append]
  simpa using h
theorem OwnRw.push {B : Nat} {v : Value} {L : List (Nat × List UInt8)} {x : Nat × List UInt8} {w : World} (h : w.ownsRow B 51 2 v (L.length + 1) (L.flatMap rowCells ++ rowCells x)) : OwnRw B v (L ++ [x]) w := by
  unfold OwnRw
  rw [List.length_append, List.flatMap_append]
  simpa using h
theorem lineCells_one (x : Nat × Nat × Nat) : ∀ u ∈ lineCells x, u.oneCell' = true := by
  intro u hu
  simp only [lineCells, List.mem_cons, List.not_mem_nil, or_false] at hu
  rcases hu with rfl | rfl | rfl <;> rfl
theorem rowCells_one (x : Nat × List UInt8) : ∀ u ∈ rowCells x, u.oneCell' = true := by
  intro u hu
  simp only [rowCells, List.mem_cons, List.not_mem_nil, or_false] at hu
  rcases hu with rfl | rfl <;> rfl
theorem prefix_len {L M : List (Nat × Nat × Nat)} {l : List UInt8} (h : L ++ M = linesL l) : L.length ≤ l.length + 1 := by
  have h1 := linesL_len l
  rw [← h, List.length_append] at h1
  omega
set_option maxHeartbeats 4000000 in
set_option maxRecDepth 100000 in
theorem allR (w : World) (l : List UInt8) (hm : l.length ≤ 1048700) :
    Calls Tryd.prog 49 #[.string (bstr l)] w fun e w' => ∃ v, e = .returned v ∧ OwnLn w.heap.size v (linesL l) w' ∧ Below w.heap.size w w' := by
  obtain ⟨n, hn⟩ : ∃ n, n = l.length := ⟨_, rfl⟩
  have hsz : (bstr l).size = n := by rw [bstr_size, hn]
  rw [← hn] at hm
  have HN := Lib.hid hn
  have H0 : Hid (OwnLn w.heap.size (.slice none 0 0) [] w) := Lib.hid (World.ownsRow_nil _ _ _ _)
  clear hn
  go_enter Tryd.func49, Tryd.ntmps49
  go_wp2
  go_loopw [3, 4, 5] (fun vv ua ui wr => ∃ a i f : Nat, ∃ acc : List (Nat × Nat × Nat), ua = .int .i64 (a : Int) ∧ ui = .int .i64 (i : Int) ∧ a ≤ i ∧ i ≤ n ∧ Hid (n < i + f ∧ acc ++ linesGo l f a i = linesL l ∧ OwnLn w.heap.size vv acc wr ∧ Below w.heap.size w wr)) (fun _ _ ui _ => n + 1 - (RowKit.intOf ui).toNat)
  case atStart => exact ⟨0, 0, l.length + 1, [], rfl, rfl, Nat.le_refl _, Nat.zero_le _, Lib.hid ⟨by rw [HN.out]; omega, rfl, H0.out, Below.refl _ _⟩⟩
  case round =>
    obtain ⟨a, i, f, acc, rfl, rfl, hai, hil, HR⟩ := hrel
    obtain ⟨vv, rfl⟩ : ∃ v : Value, v = u3 := ⟨_, rfl⟩
    obtain ⟨f, rfl⟩ : ∃ g, f = g + 1 := ⟨f - 1, by have := HR.out.1; omega⟩
    have hacc := prefix_len HR.out.2.1
    rw [← HN.out] at hacc
    by_cases hlt : i < n
    · have HE := Lib.hid (endR wr l i (by rw [← HN.out]; exact hlt) (by rw [← HN.out]; omega))
      by_cases h0 : endL l i = 0
      · have hz : (endL l i != 0) = false := by rw [h0]; rfl
        have hq : EndQ wr l i = fun e w' => ∃ n : Int, e = .returned (.tuple #[.int .i64 n, .bool (endL l i != 0)]) ∧ Below wr.heap.size wr w' ∧ (endL l i ≠ 0 → n = (endL l i : Int)) := rfl
        rw [hq, hz] at HE
        have HGO : Hid (linesGo l (f + 1) a i = linesGo l f a (i + 1)) := Lib.hid (by rw [linesGo, if_neg (by rw [← HN.out]; omega), if_pos h0])
        clear hz hq h0
        go_wp2_with (go_at_call 63; refine (HE.out).mono ?_; rintro e w' ⟨n0, rfl, hb, hn0⟩)
        have HNX : Hid (n < i + 1 + f ∧ acc ++ linesGo l f a (i + 1) = linesL l ∧ OwnLn w.heap.size vv acc w' ∧ Below w.heap.size w w') := Lib.hid ⟨by have := HR.out.1; omega, HGO.out ▸ HR.out.2.1, HR.out.2.2.1.below hb, HR.out.2.2.2.trans (hb.mono HR.out.2.2.2.size)⟩
        go_roundw
        case rel => exact ⟨a, i + 1, f, acc, rfl, by go_num, by omega, by omega, HNX⟩
        case measure => simp [RowKit.intOf]; omega
      · have hz : (endL l i != 0) = true := by rw [bne_iff_ne]; exact h0
        have hle := (endL_le l i).resolve_left h0
        rw [← HN.out] at hle
        obtain ⟨n0, hn0⟩ : ∃ n0, endL l i = n0 := ⟨_, rfl⟩
        have HGO : Hid (linesGo l (f + 1) a i = (a, i, n0) :: linesGo l f (i + n0) (i + n0)) := Lib.hid (by rw [linesGo, if_neg (by rw [← HN.out]; omega), if_neg h0, hn0])
        have hq : EndQ wr l i = fun e w' => ∃ n : Int, e = .returned (.tuple #[.int .i64 n, .bool (endL l i != 0)]) ∧ Below wr.heap.size wr w' ∧ (endL l i ≠ 0 → n = (endL l i : Int)) := rfl
        rw [hq, hz] at HE
        rw [hn0] at HE h0 hle
        clear hz hq hn0
        have hacc2 : acc.length ≤ 1073741824 := by omega
        go_wp2_with (first
          | (go_at_call 63; refine (HE.out).mono ?_; rintro e w' ⟨n1, rfl, hb, hn1⟩; obtain rfl := hn1 h0; have HB := Lib.hid hb; have hbs := HB.out.size; have HBB : Hid (Below w.heap.size w w') := Lib.hid (HR.out.2.2.2.trans (hb.mono HR.out.2.2.2.size)); have hbw := HBB.out.size; clear hb hn1)
          | (at_builtin; refine appNew rfl _ _ rfl Tryd.underlying83 (.agg #[.int .i64 0, .int .i64 0, .int .i64 0]) 3 24 infoLine rfl (by decide) (by decide) w.heap.size w.heap.size w w' vv acc.length (acc.flatMap lineCells) (lineCells (a, i, n0)) rfl (lineCells_one _) rfl (HR.out.2.2.1.below HB.out) rfl rfl hacc2 HBB.out (Nat.le_refl _) hbw ?_; intro v8 w8 hO8 hb8 hs8))
        have HNX : Hid (n < i + n0 + f ∧ (acc ++ [(a, i, n0)]) ++ linesGo l f (i + n0) (i + n0) = linesL l ∧ OwnLn w.heap.size v8 (acc ++ [(a, i, n0)]) w8 ∧ Below w.heap.size w w8) := Lib.hid ⟨by have := HR.out.1; omega, by rw [← HR.out.2.1, HGO.out]; simp, OwnLn.push hO8, hb8⟩
        clear hO8 hb8 hs8
        go_roundw
        case rel => exact ⟨i + n0, i + n0, f, acc ++ [(a, i, n0)], by go_num, by go_num, Nat.le_refl _, hle, HNX⟩
        case measure => simp [RowKit.intOf]; omega
    · obtain rfl : i = n := by omega
      have hgo : linesGo l (f + 1) a i = [(a, i, 0)] := by rw [linesGo, if_pos (by rw [HN.out]; exact Nat.le_refl _), ← HN.out]
      have HGO : Hid (acc ++ [(a, i, 0)] = linesL l) := Lib.hid (by rw [← HR.out.2.1, hgo])
      have hacc2 : acc.length ≤ 1073741824 := by omega
      have hbw := HR.out.2.2.2.size
      clear hgo
      go_wp2_with (at_builtin; refine appNew rfl _ _ rfl Tryd.underlying83 (.agg #[.int .i64 0, .int .i64 0, .int .i64 0]) 3 24 infoLine rfl (by decide) (by decide) w.heap.size w.heap.size w wr vv acc.length (acc.flatMap lineCells) (lineCells (a, i, 0)) rfl (lineCells_one _) rfl HR.out.2.2.1 rfl rfl hacc2 HR.out.2.2.2 (Nat.le_refl _) hbw ?_; intro v8 w8 hO8 hb8 hs8)
      go_ret
      exact ⟨_, rfl, by rw [← HGO.out]; exact OwnLn.push hO8, hb8⟩
end Go.Proofs.YtmhemahkcbgaoaaDoor
