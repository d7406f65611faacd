/- Texts joined, one behind the other (LineB, LineC, LineD). -/
import Derived.Test.YtmhemahkcbgaoaaGreatDoorKn19
import Derived.Scope
/- The lines of a text, by the program's iterator. -/
namespace Go.Proofs.YtmhemahkcbgaoaaGreatDoor
set_option linter.unusedVariables false
set_option linter.unusedSimpArgs false
open Go.RowKit Go.Shelf
open Go.Lib hiding intOf
attribute [local go_sem] Oper.semAt_some
section
variable {F : Fence} {n : Nat} {P : Program} {b : Frame} {a : Act} {k : List Item} {cs : List Frame} {w : World} {Q : Exit → Act → World → Prop}
theorem stepR_scope {c : Code} : step P (lone (b.atR a (.code (.scope c) :: k)) cs w) = .next (lone (b.atR a (.code c :: .inScope c :: k)) cs w) :=
  step_lone_go (by simp [stepG, stepG.exec, Frame.atR])
theorem stepR_inScope {c : Code} : step P (lone (b.atR a (.inScope c :: k)) cs w) = .next (lone (b.atR a k) cs w) :=
  step_lone_go (by simp [stepG, stepG.exec, Frame.atR])
/-- a scope that no goto leaves, inside a fence -/
theorem wpIn_scope_straight {c : Code} (h : c.wpIn F n P (Exit.noGoto Q) a w) : (Code.scope c).wpIn F n P Q a w := by
  intro b k cs hro hb hr
  have h0 : (lone (b.atR a (.code (.scope c) :: k)) cs w).fenced P F := fenced_calm hb hr rfl
  obtain ⟨e, a₁, w₁, hq, harr⟩ := h b (.inScope c :: k) cs hro hb hr
  cases e with
  | normal => exact ⟨.normal, a₁, w₁, hq, .head h0 stepR_scope (StepsIn.trans harr (.one (fenced_calm hb hr rfl) stepR_inScope))⟩
  | exit id =>
    have hx : exitTo id (.inScope c :: k) = exitTo id k := by simp [exitTo]
    exact ⟨.exit id, a₁, w₁, hq, fun k' hk => .head h0 stepR_scope (harr.1 k' (by rw [hx]; exact hk)),
      fun hr' hk => let ⟨k₁, h1, h2⟩ := harr.2 hr' (by rw [hx]; exact hk); ⟨k₁, h1, .head h0 stepR_scope h2⟩⟩
  | goto l => exact hq.elim
  | ret => exact ⟨_, a₁, w₁, hq, .of_steps (.one h0 stepR_scope) harr⟩
  | panic ch => exact ⟨_, a₁, w₁, hq, .of_steps (.one h0 stepR_scope) harr⟩
  | outgrown => exact ⟨_, a₁, w₁, hq, .of_steps (.one h0 stepR_scope) harr⟩
end
attribute [local go_sem] Exit.noGoto
theorem cell_rows {w w' : World} {p : Addr} (h : w'.heap[p.block]? = w.heap[p.block]?) : w'.cell? p = w.cell? p := by
  unfold World.cell?
  rw [h]
theorem Tabs.rows {w w' : World} (h : Tabs w) (hr : ∀ r, r < 7 → w'.heap[r]? = w.heap[r]?) (hs : w.heap.size ≤ w'.heap.size) : Tabs w' := by
  refine ⟨⟨fun c hc => ?_, fun i hi => ?_⟩, ?_, ?_, Nat.le_trans h.size hs⟩
  · rw [cell_rows (hr _ (by simp))]; exact h.utf.1 c hc
  · rw [cell_rows (hr _ (by simp)), cell_rows (hr _ (by simp))]; exact h.utf.2 i hi
  · have := h.pow
    unfold Lib.TabIs World.var? at this ⊢
    rw [globalPow] at this ⊢
    simp only [Option.bind_some] at this ⊢
    rw [hr _ (by omega)]
    exact this
  · rw [cell_rows (hr _ (by simp))]; exact h.lsb
theorem EndQ_def (w : World) (l : List UInt8) (i : Nat) : EndQ w l i = fun e w' => ∃ n : Int, e = .returned (.tuple #[.int .i64 n, .bool (endL l i != 0)]) ∧ Below w.heap.size w w' ∧ (endL l i ≠ 0 → n = (endL l i : Int)) := rfl
theorem boxed_rows {b : Nat} {t : TypeId} {v : Value} {W W' : World} (h : Boxed W b t v) (hk : W'.heap[b]? = W.heap[b]?) : Boxed W' b t v := hk.trans h
def pieceV (x : Nat × Nat × Nat) : Array Value := #[.agg #[.int .i64 (x.1 : Int), .int .i64 (x.2.1 : Int)], .int .i64 (x.2.2 : Int)]
theorem below_other {W W' : World} (h : Below W.heap.size W W') : W.grownBy W' none := ⟨h.os, h.tape, h.output, h.size, fun k hk _ => h.block k hk⟩
theorem KeepsC.below {K : Nat → Prop} {lo hi : Nat} {W W' : World} (h : Below W.heap.size W W') (hn : ∀ r, K r → r < W.heap.size) (hh : hi ≤ W.heap.size) : KeepsC K lo hi W W' :=
  KeepsC.grown (below_other h) hn hh (fun r e => by cases e)
set_option maxHeartbeats 4000000 in
set_option maxRecDepth 100000 in
theorem all1 (m : Nat) (hm : 1 ≤ m) (B0 b1 : Nat) (w0 : World) (l : List UInt8) (h1 : w0.heap[b1]? = some (.cells #[.string (bstr l)] 9 (0, 0))) (hl : l.length ≤ 1048700) (hT : Tabs w0) (hB0 : 7 ≤ B0) (hB1 : B0 ≤ w0.heap.size) :
    SeqC Fence.wide m Tryz.prog 82 #[.pointer (some ⟨b1, 0, none⟩)] pieceV (fun r => r < B0 ∨ r = b1) w0 (fun xs => xs = linesL l) (fun pre => pre <+: linesL l) := by
  intro l0 J Jx W hW hn0 hJ hJx hY h0
  have k1 : Boxed W b1 9 (.string (bstr l)) := ((hW b1 (.inr rfl)).2).trans h1
  have hTW : Tabs W := hT.rows (fun r hr => (hW r (.inl (by omega))).2) hn0
  obtain ⟨hi, hhi⟩ : ∃ hi, hi = W.heap.size := ⟨_, rfl⟩
  have HK : Hid (Tabs W ∧ Boxed W b1 9 (.string (bstr l)) ∧ B0 ≤ W.heap.size) := Lib.hid ⟨hTW, k1, by omega⟩
  have HKL : Hid (∀ r, (r < B0 ∨ r = b1) → ∀ s, W.heap.size ≤ s → r < s) := Lib.hid (fun r hr s hs => by have := k1.lt; omega)
  have HJ := Lib.hid (h0 hi (by omega))
  have HJA := Lib.hid (hJ hi)
  have HY := Lib.hid hY
  have HH := Lib.hid hhi
  have c1 := k1.cell
  have hsz := bstr_size l
  clear hY h0 hJ hJx h1 hT hTW k1 hW hn0 hB1
  refine callsIn_of_wp Tryz.func82 rfl trivial ?_ rfl
  simp only [Tryz.ntmps82, List.size_toArray, List.length_cons, List.length_nil, Nat.reduceAdd, Nat.reduceSub, Array.replicate_succ, Array.replicate_zero, List.push_toArray, List.append_toArray, List.nil_append, List.cons_append]
  refine wpIn_scope_straight ?_
  gi_wp2
  refine wpIn_label ?_
  gi_wp2
  clear c1 hhi
  gi_loopw [3, 4] (fun ua ui wr => ∃ a i f : Nat, ∃ acc : List (Nat × Nat × Nat), ua = .int .i64 (a : Int) ∧ ui = .int .i64 (i : Int) ∧ a ≤ i ∧ i ≤ l.length ∧ l.length < i + f ∧ Hid (acc ++ linesGo l f a i = linesL l ∧ J hi acc wr ∧ KeepsC (fun r => r < B0 ∨ r = b1) W.heap.size hi W wr)) (fun _ ui _ => l.length + 1 - (RowKit.intOf ui).toNat)
  case atStart => exact ⟨0, 0, l.length + 1, [], rfl, rfl, Nat.le_refl _, Nat.zero_le _, by omega, Lib.hid ⟨rfl, HJ.out, KeepsC.refl _ _ _ _⟩⟩
  case round =>
    obtain ⟨a, i, f, acc, rfl, rfl, hai, hil, hf, HR⟩ := hrel
    have hTr : Tabs wr := HK.out.1.rows (fun r hr => HR.out.2.2.rows r (.inl (.inl (by omega)))) HR.out.2.2.size
    have c1 := (boxed_rows HK.out.2.1 (HR.out.2.2.rows b1 (.inl (.inr rfl)))).cell
    have HTR := Lib.hid hTr
    clear hTr
    by_cases hlt : i < l.length
    · have HE := Lib.hid (endC wr l i hlt (by omega) HTR.out)
      obtain ⟨f, rfl⟩ : ∃ g, f = g + 1 := ⟨f - 1, by omega⟩
      by_cases h0 : endL l i = 0
      · have hz : (endL l i != 0) = false := by rw [h0]; rfl
        rw [EndQ_def, hz] at HE
        have hgo : linesGo l (f + 1) a i = linesGo l f a (i + 1) := by rw [linesGo, if_neg (by omega), if_pos h0]
        have HGO := Lib.hid hgo
        clear hgo hz
        gi_wp2_with (refine ⟨trivial, ?_⟩; gi_at_call 83; refine (callsIn_wide.2 HE.out).mono ?_; rintro e w' ⟨n, rfl, hb, hn⟩)
        have HNX : Hid (acc ++ linesGo l f a (i + 1) = linesL l ∧ J hi acc w' ∧ KeepsC (fun r => r < B0 ∨ r = b1) W.heap.size hi W w') := Lib.hid ⟨HGO.out ▸ HR.out.1, HJA.out _ _ _ none HR.out.2.1 (below_other hb) (fun r e => by cases e), HR.out.2.2.trans (KeepsC.below hb (fun r hr => HKL.out r hr _ HR.out.2.2.size) (by rw [HH.out]; exact HR.out.2.2.size))⟩
        go_roundw
        case rel => exact ⟨a, i + 1, f, acc, rfl, by go_num, by omega, by omega, by omega, HNX⟩
        case measure => simp [RowKit.intOf]; omega
      · have hz : (endL l i != 0) = true := by rw [bne_iff_ne]; exact h0
        have hle := (endL_le l i).resolve_left h0
        obtain ⟨n0, hn0⟩ : ∃ n0, endL l i = n0 := ⟨_, rfl⟩
        have hgo : linesGo l (f + 1) a i = (a, i, n0) :: linesGo l f (i + n0) (i + n0) := by rw [linesGo, if_neg (by omega), if_neg h0, hn0]
        rw [EndQ_def, hz] at HE
        rw [hn0] at HE h0 hle
        have HGO := Lib.hid hgo
        clear hgo hz hn0
        gi_wp2_with (refine ⟨trivial, ?_⟩; gi_at_call 83; refine (callsIn_wide.2 HE.out).mono ?_; rintro e w' ⟨n, rfl, hb, hn⟩; obtain rfl := hn h0)
        have HR1 : Hid (J hi acc w' ∧ KeepsC (fun r => r < B0 ∨ r = b1) W.heap.size hi W w') := Lib.hid ⟨HJA.out _ _ _ none HR.out.2.1 (below_other hb) (fun r e => by cases e), HR.out.2.2.trans (KeepsC.below hb (fun r hr => HKL.out r hr _ HR.out.2.2.size) (by rw [HH.out]; exact HR.out.2.2.size))⟩
        have HPR : Hid (acc ++ [(a, i, n0)] <+: linesL l) := Lib.hid (by rw [← HR.out.1, HGO.out]; exact ⟨linesGo l f (i + n0) (i + n0), by simp⟩)
        obtain ⟨fn, tmps, assign, body, hy, hR⟩ := HY.out hi acc (a, i, n0) w' HR1.out.1 HPR.out (by rw [HH.out]; exact Nat.le_refl _) (by rw [HH.out]; exact HR1.out.2.size)
        have HRD := Lib.hid hR
        unfold pieceV at hy
        clear hR c1 hb hn
        gi_wp2
        refine HRD.out.mono ?_
        clear HRD hy
        rintro e W3 (⟨rfl, hJ3, hk3⟩ | ⟨rfl, hJx3, _⟩)
        · have HNX : Hid ((acc ++ [(a, i, n0)]) ++ linesGo l f (i + n0) (i + n0) = linesL l ∧ J hi (acc ++ [(a, i, n0)]) W3 ∧ KeepsC (fun r => r < B0 ∨ r = b1) W.heap.size hi W W3) := Lib.hid ⟨by rw [← HR.out.1, HGO.out]; simp, hJ3, HR1.out.2.trans hk3⟩
          clear hJ3 hk3
          gi_wp2
          go_roundw
          case rel => exact ⟨i + n0, i + n0, f, acc ++ [(a, i, n0)], by go_num, by go_num, Nat.le_refl _, hle, by omega, HNX⟩
          case measure => simp [RowKit.intOf]; omega
        · have HX3 := Lib.hid hJx3
          clear hJx3
          gi_wp2
          simp only [Exit.noGoto]
          refine bodyPost_ret (results_none rfl _ _ _) rfl ?_
          exact ⟨⟨_, rfl⟩, hi, by rw [HH.out]; exact Nat.le_refl _, .inr ⟨_, HPR.out, HX3.out⟩⟩
    · obtain rfl : i = l.length := by omega
      obtain ⟨f, rfl⟩ : ∃ g, f = g + 1 := ⟨f - 1, by omega⟩
      have hgo : linesGo l (f + 1) a l.length = [(a, l.length, 0)] := by rw [linesGo, if_pos (Nat.le_refl _)]
      have HE : Hid (acc ++ [(a, l.length, 0)] = linesL l) := Lib.hid (by rw [← HR.out.1, hgo])
      obtain ⟨fn, tmps, assign, body, hy, hR⟩ := HY.out hi acc (a, l.length, 0) wr HR.out.2.1 (by rw [HE.out]; exact List.prefix_refl _) (by rw [HH.out]; exact Nat.le_refl _) (by rw [HH.out]; exact HR.out.2.2.size)
      have HRD := Lib.hid hR
      unfold pieceV at hy
      dsimp only at hy
      rw [show ((0 : Nat) : Int) = 0 from rfl] at hy
      clear hR hgo
      gi_wp2
      refine HRD.out.mono ?_
      clear HRD hy
      rintro e W3 (⟨rfl, hJ3, hk3⟩ | ⟨rfl, hJx3, _⟩)
      · have H3 := Lib.hid hJ3
        clear hJ3 hk3
        gi_wp2
        simp only [Exit.noGoto]
        go_end0
        exact ⟨⟨_, rfl⟩, hi, by rw [HH.out]; exact Nat.le_refl _, .inl ⟨_, HE.out, H3.out⟩⟩
      · have H3 := Lib.hid hJx3
        clear hJx3
        gi_wp2
        simp only [Exit.noGoto]
        go_end0
        exact ⟨⟨_, rfl⟩, hi, by rw [HH.out]; exact Nat.le_refl _, .inr ⟨_, by rw [HE.out]; exact List.prefix_refl _, H3.out⟩⟩
end Go.Proofs.YtmhemahkcbgaoaaGreatDoor
/- The lines of a text and what a script says, by the references. -/
namespace Go.Proofs.YtmhemahkcbgaoaaGreatDoor
set_option linter.unusedVariables false
set_option linter.unusedSimpArgs false
open Go.RowKit
open Go.Lib hiding intOf
def lineCells (x : Nat × Nat × Nat) : List Value := [.int .i64 (x.1 : Int), .int .i64 (x.2.1 : Int), .int .i64 (x.2.2 : Int)]
def rowCells (x : Nat × List UInt8) : List Value := [.int .i64 (x.1 : Int), .string (bstr x.2)]
theorem lines_len (L : List (Nat × Nat × Nat)) : (L.flatMap lineCells).length = L.length * 3 := by
  induction L with
  | nil => rfl
  | cons t L ih => rw [List.flatMap_cons, List.length_append, ih, List.length_cons]; show 3 + _ = _; omega
theorem rows_len (L : List (Nat × List UInt8)) : (L.flatMap rowCells).length = L.length * 2 := by
  induction L with
  | nil => rfl
  | cons t L ih => rw [List.flatMap_cons, List.length_append, ih, List.length_cons]; show 2 + _ = _; omega
/-- a cell of an element of a flat list -/
theorem flat_at {α : Type} {f : α → List Value} {c : Nat} (hf : ∀ x, (f x).length = c) : ∀ {L : List α} {i : Nat} {x : α}, L[i]? = some x → ∀ {j : Nat} {v : Value}, (f x)[j]? = some v → (L.flatMap f)[i * c + j]? = some v
  | [], i, x, h, _, _, _ => by cases h
  | t :: L, 0, x, h, j, v, hj => by
    cases h
    rw [List.flatMap_cons, Nat.zero_mul, Nat.zero_add, List.getElem?_append_left (List.getElem?_eq_some_iff.1 hj).1]
    exact hj
  | t :: L, i + 1, x, h, j, v, hj => by
    rw [List.flatMap_cons, List.getElem?_append_right (by rw [hf, Nat.succ_mul]; omega), hf, show (i + 1) * c + j - c = i * c + j by rw [Nat.succ_mul]; omega]
    exact flat_at hf (by simpa using h) hj
theorem infoLine : (Tryz.prog.info? 85).map (fun i => (i.zero, i.size, i.bytes)) = some (some (.agg #[.int .i64 0, .int .i64 0, .int .i64 0]), 3, 24) := by kernel_rfl
theorem infoRow : (Tryz.prog.info? 51).map (fun i => (i.zero, i.size, i.bytes)) = some (some (.agg #[.int .i64 0, .string ByteArray.empty]), 2, 24) := by kernel_rfl
/-- one struct, just built, put behind a row of the call's own -/
theorem appNew {T e : TypeId} {ops : Array Oper} {rest : List Oper} {o : Oper} {a : Act} {w : World} {Q : Exit → Act → World → Prop} (hgd : o.guard = none) (sl x : Operand) (ho : o.op = .call { callee := .builtin .append, args := #[sl, x], argTypes := #[T, T] })
    (hT : Tryz.prog.underlying T = some (.slice e)) (z : Value) (size bytes : Nat) (hinfo : (Tryz.prog.info? e).map (fun i => (i.zero, i.size, i.bytes)) = some (some z, size, bytes)) (hz : z.cells.size = size) (hs0 : 0 < size) (hby : bytes ≤ 4096)
    (B B0 : Nat) (w0 wp : World) (v : Value) (n : Nat) (xs : List Value) (cs : List Value) (hcs : cs.length = size) (hone : ∀ u ∈ cs, u.oneCell' = true) (hs : a.eval sl = v) (hown : wp.ownsRow B e size v n xs) (hx : a.eval x = .slice (some ⟨wp.heap.size, 0, none⟩) 1 1) (hw : w = wp.alloc (.cells cs.toArray e)) (hl : n ≤ 1073741824) (hb : Below B0 w0 wp) (hB0 : B0 ≤ B) (hB : B ≤ wp.heap.size)
    (h : ∀ v' w', w'.ownsRow B e size v' (n + 1) (xs ++ cs) → Below B0 w0 w' → wp.heap.size ≤ w'.heap.size → wpList Tryz.prog ops Q rest (a.put o.dst v') w') : wpList Tryz.prog ops Q (o :: rest) a w := by
  subst hw
  have hsz : (wp.alloc (.cells cs.toArray e)).heap.size = wp.heap.size + 1 := by simp
  refine appSlice hgd sl x ho hT z size bytes hinfo hz hs0 hby B v n xs hs (World.ownsRow.alloc hown _) (some ⟨wp.heap.size, 0, none⟩) 1 1 cs hx (by rw [hcs, Nat.one_mul]) (fun _ => ⟨wp.heap.size, 0, rfl, fun j u hj => ?_⟩) hone (by omega) (by omega) ?_
  · have hr : Row (wp.alloc (.cells cs.toArray e)) wp.heap.size e cs := alloc_last _ _
    have := Row.cell hr j
    rw [hj] at this
    rw [Nat.zero_add]
    exact this
  · intro v' w' h1 h2
    have hlt : ∀ k, v.ownBlock = some k → B ≤ k := fun k hk => (World.ownsRow.lt hown k hk).1
    exact h v' w' h1 ((hb.alloc (Nat.le_trans hB0 hB) _).grown h2 (by omega) (fun k hk => Nat.le_trans hB0 (hlt k hk))) (by have := h2.size; omega)
theorem own_below {B : Nat} {e : TypeId} {size : Nat} {v : Value} {n : Nat} {xs : List Value} {w w' : World} (h : w.ownsRow B e size v n xs) (b : Below w.heap.size w w') : w'.ownsRow B e size v n xs := by
  refine ⟨h.1, ?_⟩
  rcases h.2 with hn | ⟨g, cap, cur, rfl, hb, hgg, rest⟩
  · exact .inl hn
  · exact .inr ⟨g, cap, cur, rfl, hb, (b.block g (Array.getElem?_eq_some_iff.1 hgg).1).trans hgg, rest⟩
def OwnLn (B : Nat) (v : Value) (L : List (Nat × Nat × Nat)) (w : World) : Prop := w.ownsRow B 85 3 v L.length (L.flatMap lineCells)
def OwnRw (B : Nat) (v : Value) (L : List (Nat × List UInt8)) (w : World) : Prop := w.ownsRow B 51 2 v L.length (L.flatMap rowCells)
theorem OwnLn.below {B : Nat} {v : Value} {L : List (Nat × Nat × Nat)} {w w' : World} (h : OwnLn B v L w) (b : Below w.heap.size w w') : OwnLn B v L w' := own_below h b
theorem OwnRw.below {B : Nat} {v : Value} {L : List (Nat × List UInt8)} {w w' : World} (h : OwnRw B v L w) (b : Below w.heap.size w w') : OwnRw B v L w' := own_below h b
theorem OwnLn.push {B : Nat} {v : Value} {L : List (Nat × Nat × Nat)} {x : Nat × Nat × Nat} {w : World} (h : w.ownsRow B 85 3 v (L.length + 1) (L.flatMap lineCells ++ lineCells x)) : OwnLn B v (L ++ [x]) w := by
  unfold OwnLn
  rw [List.length_append, List.flatMap_append]
  simpa using h
theorem OwnRw.push {B : Nat} {v : Value} {L : List (Nat × List UInt8)} {x : Nat × List UInt8} {w : World} (h : w.ownsRow B 51 2 v (L.length + 1) (L.flatMap rowCells ++ rowCells x)) : OwnRw B v (L ++ [x]) w := by
  unfold OwnRw
  rw [List.length_append, List.flatMap_append]
  simpa using h
theorem lineCells_one (x : Nat × Nat × Nat) : ∀ u ∈ lineCells x, u.oneCell' = true := by
  intro u hu
  simp only [lineCells, List.mem_cons, List.not_mem_nil, or_false] at hu
  rcases hu with rfl | rfl | rfl <;> rfl
theorem rowCells_one (x : Nat × List UInt8) : ∀ u ∈ rowCells x, u.oneCell' = true := by
  intro u hu
  simp only [rowCells, List.mem_cons, List.not_mem_nil, or_false] at hu
  rcases hu with rfl | rfl <;> rfl
theorem prefix_len {L M : List (Nat × Nat × Nat)} {l : List UInt8} (h : L ++ M = linesL l) : L.length ≤ l.length + 1 := by
  have h1 := linesL_len l
  rw [← h, List.length_append] at h1
  omega
set_option maxHeartbeats 4000000 in
set_option maxRecDepth 100000 in
theorem allR (w : World) (l : List UInt8) (hm : l.length ≤ 1048700) :
    Calls Tryz.prog 47 #[.string (bstr l)] w fun e w' => ∃ v, e = .returned v ∧ OwnLn w.heap.size v (linesL l) w' ∧ Below w.heap.size w w' := by
  obtain ⟨n, hn⟩ : ∃ n, n = l.length := ⟨_, rfl⟩
  have hsz : (bstr l).size = n := by rw [bstr_size, hn]
  rw [← hn] at hm
  have HN := Lib.hid hn
  have H0 : Hid (OwnLn w.heap.size (.slice none 0 0) [] w) := Lib.hid (World.ownsRow_nil _ _ _ _)
  clear hn
  go_enter Tryz.func47, Tryz.ntmps47
  go_wp2
  go_loopw [3, 4, 5] (fun vv ua ui wr => ∃ a i f : Nat, ∃ acc : List (Nat × Nat × Nat), ua = .int .i64 (a : Int) ∧ ui = .int .i64 (i : Int) ∧ a ≤ i ∧ i ≤ n ∧ Hid (n < i + f ∧ acc ++ linesGo l f a i = linesL l ∧ OwnLn w.heap.size vv acc wr ∧ Below w.heap.size w wr)) (fun _ _ ui _ => n + 1 - (RowKit.intOf ui).toNat)
  case atStart => exact ⟨0, 0, l.length + 1, [], rfl, rfl, Nat.le_refl _, Nat.zero_le _, Lib.hid ⟨by rw [HN.out]; omega, rfl, H0.out, Below.refl _ _⟩⟩
  case round =>
    obtain ⟨a, i, f, acc, rfl, rfl, hai, hil, HR⟩ := hrel
    obtain ⟨vv, rfl⟩ : ∃ v : Value, v = u3 := ⟨_, rfl⟩
    obtain ⟨f, rfl⟩ : ∃ g, f = g + 1 := ⟨f - 1, by have := HR.out.1; omega⟩
    have hacc := prefix_len HR.out.2.1
    rw [← HN.out] at hacc
    by_cases hlt : i < n
    · have HE := Lib.hid (endR wr l i (by rw [← HN.out]; exact hlt) (by rw [← HN.out]; omega))
      by_cases h0 : endL l i = 0
      · have hz : (endL l i != 0) = false := by rw [h0]; rfl
        have hq : EndQ wr l i = fun e w' => ∃ n : Int, e = .returned (.tuple #[.int .i64 n, .bool (endL l i != 0)]) ∧ Below wr.heap.size wr w' ∧ (endL l i ≠ 0 → n = (endL l i : Int)) := rfl
        rw [hq, hz] at HE
        have HGO : Hid (linesGo l (f + 1) a i = linesGo l f a (i + 1)) := Lib.hid (by rw [linesGo, if_neg (by rw [← HN.out]; omega), if_pos h0])
        clear hz hq h0
        go_wp2_with (go_at_call 62; refine (HE.out).mono ?_; rintro e w' ⟨n0, rfl, hb, hn0⟩)
        have HNX : Hid (n < i + 1 + f ∧ acc ++ linesGo l f a (i + 1) = linesL l ∧ OwnLn w.heap.size vv acc w' ∧ Below w.heap.size w w') := Lib.hid ⟨by have := HR.out.1; omega, HGO.out ▸ HR.out.2.1, HR.out.2.2.1.below hb, HR.out.2.2.2.trans (hb.mono HR.out.2.2.2.size)⟩
        go_roundw
        case rel => exact ⟨a, i + 1, f, acc, rfl, by go_num, by omega, by omega, HNX⟩
        case measure => simp [RowKit.intOf]; omega
      · have hz : (endL l i != 0) = true := by rw [bne_iff_ne]; exact h0
        have hle := (endL_le l i).resolve_left h0
        rw [← HN.out] at hle
        obtain ⟨n0, hn0⟩ : ∃ n0, endL l i = n0 := ⟨_, rfl⟩
        have HGO : Hid (linesGo l (f + 1) a i = (a, i, n0) :: linesGo l f (i + n0) (i + n0)) := Lib.hid (by rw [linesGo, if_neg (by rw [← HN.out]; omega), if_neg h0, hn0])
        have hq : EndQ wr l i = fun e w' => ∃ n : Int, e = .returned (.tuple #[.int .i64 n, .bool (endL l i != 0)]) ∧ Below wr.heap.size wr w' ∧ (endL l i ≠ 0 → n = (endL l i : Int)) := rfl
        rw [hq, hz] at HE
        rw [hn0] at HE h0 hle
        clear hz hq hn0
        have hacc2 : acc.length ≤ 1073741824 := by omega
        go_wp2_with (first
          | (go_at_call 62; refine (HE.out).mono ?_; rintro e w' ⟨n1, rfl, hb, hn1⟩; obtain rfl := hn1 h0; have HB := Lib.hid hb; have hbs := HB.out.size; have HBB : Hid (Below w.heap.size w w') := Lib.hid (HR.out.2.2.2.trans (hb.mono HR.out.2.2.2.size)); have hbw := HBB.out.size; clear hb hn1)
          | (at_builtin; refine appNew rfl _ _ rfl Tryz.underlying80 (.agg #[.int .i64 0, .int .i64 0, .int .i64 0]) 3 24 infoLine rfl (by decide) (by decide) w.heap.size w.heap.size w w' vv acc.length (acc.flatMap lineCells) (lineCells (a, i, n0)) rfl (lineCells_one _) rfl (HR.out.2.2.1.below HB.out) rfl rfl hacc2 HBB.out (Nat.le_refl _) hbw ?_; intro v8 w8 hO8 hb8 hs8))
        have HNX : Hid (n < i + n0 + f ∧ (acc ++ [(a, i, n0)]) ++ linesGo l f (i + n0) (i + n0) = linesL l ∧ OwnLn w.heap.size v8 (acc ++ [(a, i, n0)]) w8 ∧ Below w.heap.size w w8) := Lib.hid ⟨by have := HR.out.1; omega, by rw [← HR.out.2.1, HGO.out]; simp, OwnLn.push hO8, hb8⟩
        clear hO8 hb8 hs8
        go_roundw
        case rel => exact ⟨i + n0, i + n0, f, acc ++ [(a, i, n0)], by go_num, by go_num, Nat.le_refl _, hle, HNX⟩
        case measure => simp [RowKit.intOf]; omega
    · obtain rfl : i = n := by omega
      have hgo : linesGo l (f + 1) a i = [(a, i, 0)] := by rw [linesGo, if_pos (by rw [HN.out]; exact Nat.le_refl _), ← HN.out]
      have HGO : Hid (acc ++ [(a, i, 0)] = linesL l) := Lib.hid (by rw [← HR.out.2.1, hgo])
      have hacc2 : acc.length ≤ 1073741824 := by omega
      have hbw := HR.out.2.2.2.size
      clear hgo
      go_wp2_with (at_builtin; refine appNew rfl _ _ rfl Tryz.underlying80 (.agg #[.int .i64 0, .int .i64 0, .int .i64 0]) 3 24 infoLine rfl (by decide) (by decide) w.heap.size w.heap.size w wr vv acc.length (acc.flatMap lineCells) (lineCells (a, i, 0)) rfl (lineCells_one _) rfl HR.out.2.2.1 rfl rfl hacc2 HR.out.2.2.2 (Nat.le_refl _) hbw ?_; intro v8 w8 hO8 hb8 hs8)
      go_ret
      exact ⟨_, rfl, by rw [← HGO.out]; exact OwnLn.push hO8, hb8⟩
end Go.Proofs.YtmhemahkcbgaoaaGreatDoor
/- What a script says, by the reference. -/
namespace Go.Proofs.YtmhemahkcbgaoaaGreatDoor
set_option linter.unusedVariables false
set_option linter.unusedSimpArgs false
open Go.RowKit
open Go.Lib hiding intOf
theorem blankB_iff (x : UInt8) : BlankB x = decide (BlankN x.toNat) := by
  unfold BlankB BlankN
  have h1 : (x == 32) = decide (x.toNat = 32) := by
    by_cases h : x = 32
    · subst h; rfl
    · rw [beq_eq_false_iff_ne.2 h, decide_eq_false (fun (e : x.toNat = 32) => h (UInt8.toNat_inj.1 e))]
  have h2 : (x == 9) = decide (x.toNat = 9) := by
    by_cases h : x = 9
    · subst h; rfl
    · rw [beq_eq_false_iff_ne.2 h, decide_eq_false (fun (e : x.toNat = 9) => h (UInt8.toNat_inj.1 e))]
  rw [h1, h2]
  by_cases a : x.toNat = 32 <;> by_cases b : x.toNat = 9 <;> simp [a, b]
theorem drop_cons {s : List UInt8} {j : Nat} {x : UInt8} (h : s[j]? = some x) : s.drop j = x :: s.drop (j + 1) := by
  obtain ⟨hj, rfl⟩ := List.getElem?_eq_some_iff.1 h
  exact List.drop_eq_getElem_cons hj
/-- where the blanks of a line end, there it says something or nothing -/
theorem says_at {s : List UInt8} {j : Nat} {x : UInt8} (h : s[j]? = some x) (hb : ¬ BlankN x.toNat) (hd : s.dropWhile BlankB = (s.drop j).dropWhile BlankB) : saysL s = (x != 35) := by
  unfold saysL
  rw [hd, drop_cons h, List.dropWhile_cons_of_neg (by rw [blankB_iff]; simpa using hb)]
theorem says_end {s : List UInt8} (hd : s.dropWhile BlankB = (s.drop s.length).dropWhile BlankB) : saysL s = false := by
  unfold saysL
  rw [hd, List.drop_length]
  rfl
theorem says_next {s : List UInt8} {j : Nat} {x : UInt8} (h : s[j]? = some x) (hb : BlankN x.toNat) (hd : s.dropWhile BlankB = (s.drop j).dropWhile BlankB) : s.dropWhile BlankB = (s.drop (j + 1)).dropWhile BlankB := by
  rw [hd, drop_cons h, List.dropWhile_cons_of_pos (by rw [blankB_iff]; simpa using hb)]
theorem pieceL_len {l : List UInt8} {x : Nat × Nat × Nat} (h : x.1 ≤ x.2.1 ∧ x.2.1 ≤ l.length) : (pieceL l x).length = x.2.1 - x.1 := by
  unfold pieceL
  rw [List.length_take, List.length_drop]
  omega
theorem own_cell {w : World} {B : Nat} {e : TypeId} {size : Nat} {a : Option Addr} {n c : Nat} {xs : List Value} (h : w.ownsRow B e size (.slice a n c) n xs) (hn : 0 < n) : ∃ g, a = some ⟨g, 0, none⟩ ∧ g < w.heap.size ∧ ∀ j v, xs[j]? = some v → w.cell? ⟨g, j, none⟩ = some v := by
  rcases h.2 with ⟨h1, h2⟩ | ⟨g, cap, cur, hv, hb, hg, _⟩
  · omega
  · cases hv
    refine ⟨g, rfl, (Array.getElem?_eq_some_iff.1 hg).1, fun j v hj => ?_⟩
    rw [h.cellAt j (by have := (List.getElem?_eq_some_iff.1 hj).1; rw [h.1] at this; exact this), hj]
theorem rowSt_take {l : List UInt8} {xs : List (Nat × Nat × Nat)} {k : Nat} {x : Nat × Nat × Nat} (h : xs[k]? = some x) : rowSt l (xs.take (k + 1)) = rowStep l (rowSt l (xs.take k)) x := by
  rw [take_next h, rowSt_next]
set_option maxHeartbeats 8000000 in
set_option maxRecDepth 100000 in
theorem rowsR (w : World) (l : List UInt8) (hm : l.length ≤ 1048700) :
    Calls Tryz.prog 21 #[.string (bstr l)] w fun e w' => ∃ v, e = .returned v ∧ OwnRw w.heap.size v (rowsL l) w' ∧ Below w.heap.size w w' := by
  have HA := Lib.hid (fun w1 => allR w1 l hm)
  obtain ⟨m, hml⟩ : ∃ m, (linesL l).length = m := ⟨_, rfl⟩
  have hmm := linesL_len l
  rw [hml] at hmm
  have HM := Lib.hid hml
  have HOK := Lib.hid (linesL_ok l)
  have hsz := bstr_size l
  clear hml
  go_enter Tryz.func21, Tryz.ntmps21
  go_upto_region 2 with (go_at_call 47; refine (HA.out _).mono ?_; rintro e w1 ⟨v1, rfl, hO1, hb1⟩)
  obtain ⟨a1, c1, hv1⟩ := slice_own hO1
  rw [HM.out] at hv1
  subst hv1
  have HO1 : Hid (w1.ownsRow w.heap.size 85 3 (.slice a1 m c1) m ((linesL l).flatMap lineCells)) := Lib.hid (by have := hO1; unfold OwnLn at this; rwa [HM.out] at this)
  have HB1 := Lib.hid hb1
  have hsb := hb1.size
  have H0 : Hid (OwnRw w1.heap.size (.slice none 0 0) (rowSt l ((linesL l).take 0)).1 w1) := Lib.hid (World.ownsRow_nil _ _ _ _)
  clear hO1 hb1
  go_wp2
  go_loopw [4, 5] (fun vv ui wr => ∃ k : Nat, k ≤ m ∧ ui = .int .i64 (k : Int) ∧ Hid (OwnRw w1.heap.size vv (rowSt l ((linesL l).take k)).1 wr ∧ Below w1.heap.size w1 wr)) (fun _ ui _ => m - (RowKit.intOf ui).toNat)
  case atStart => exact ⟨0, Nat.zero_le _, rfl, Lib.hid ⟨H0.out, Below.refl _ _⟩⟩
  case round =>
    obtain ⟨k, hkm, rfl, HR⟩ := hrel
    obtain ⟨vv, rfl⟩ : ∃ v : Value, v = u4 := ⟨_, rfl⟩
    clear H0
    by_cases hlt : k < m
    · obtain ⟨x, hx⟩ : ∃ x, (linesL l)[k]? = some x := ⟨_, List.getElem?_eq_getElem (by rw [HM.out]; exact hlt)⟩
      have hxo := HOK.out x (List.mem_of_getElem? hx)
      have hpl := pieceL_len hxo
      have HST := Lib.hid (rowSt_take (l := l) hx)
      obtain ⟨g, rfl, hg, hcell⟩ := own_cell (own_below HO1.out (HR.out.2)) (by omega)
      obtain ⟨xa, xb, xe⟩ := x
      have e0 : wr.cell? ⟨g, k * 3, none⟩ = some (.int .i64 (xa : Int)) := hcell _ _ (flat_at (c := 3) (fun _ => rfl) hx (j := 0) rfl)
      have e1 : wr.cell? ⟨g, k * 3 + 1, none⟩ = some (.int .i64 (xb : Int)) := hcell _ _ (flat_at (c := 3) (fun _ => rfl) hx (j := 1) rfl)
      simp only at hxo hpl
      obtain ⟨hab, hbl⟩ := hxo
      have i1 : (xa : Int) ≤ (xb : Int) := by omega
      have i2 : (xb : Int) ≤ (l.length : Int) := by omega
      have hnum := rowSt_num l ((linesL l).take k)
      have hlk : ((linesL l).take k).length = k := by rw [List.length_take, HM.out]; omega
      rw [hlk] at hnum
      obtain ⟨S, hS⟩ : ∃ S, pieceL l (xa, xb, xe) = S := ⟨_, rfl⟩
      have hex : (bstr l).extract xa xb = bstr S := by rw [← hS, bstr_extract]; rfl
      rw [hS] at hpl
      have HS := Lib.hid hS
      have HNUM := Lib.hid hnum
      have hS63 : S.length ≤ 1048700 := by omega
      clear hx hcell hnum hlk hS
      go_wp2
      go_quiet (fail)
      go_wp2
      have HSTS : Hid (rowSt l ((linesL l).take (k + 1)) = if saysL S then ((rowSt l ((linesL l).take k)).1 ++ [(k + 1, S)], k + 1) else ((rowSt l ((linesL l).take k)).1, k + 1)) := Lib.hid (by
        rw [HST.out, rowStep, HS.out, HNUM.out.1])
      have HB9 : Hid (Below w1.heap.size w1 (wr.drewN nq)) := Lib.hid (HR.out.2.trans (((Quiet.refl wr).drewN nq).below _))
      have hbw := HB9.out.size
      have HO9 : Hid (OwnRw w1.heap.size vv (rowSt l ((linesL l).take k)).1 (wr.drewN nq)) := Lib.hid (HR.out.1.below (((Quiet.refl wr).drewN nq).below _))
      have hal : (rowSt l ((linesL l).take k)).1.length ≤ 1073741824 := by have := HNUM.out.2; omega
      have HAL := Lib.hid hal
      have hszS := bstr_size S
      clear hal HST e0 e1 hex
      go_loop [7] (fun v => ∃ j : Nat, j ≤ S.length ∧ v = .int .i64 (j : Int) ∧ Hid (S.dropWhile BlankB = (S.drop j).dropWhile BlankB)) (fun v => S.length - (RowKit.intOf v).toNat)
      case atStart => exact ⟨0, Nat.zero_le _, rfl, Lib.hid rfl⟩
      case round =>
        obtain ⟨j, hjS, rfl, HD⟩ := hrel
        by_cases hjl : j < S.length
        · obtain ⟨x, hx⟩ := some_at (l := S) (k := j) hjl
          have ij : j < (bstr S).size := by rw [hszS]; exact hjl
          have hxa : (bstr S)[j]'ij = x := bstr_at hx _
          have HX := Lib.hid hx
          clear hx
          by_cases hbl : BlankN x.toNat
          · have HBL := Lib.hid (fun w1 => decide_eq_true hbl ▸ blankR w1 x.toNat)
            have HNX : Hid (S.dropWhile BlankB = (S.drop (j + 1)).dropWhile BlankB) := Lib.hid (says_next HX.out hbl HD.out)
            clear hbl
            go_wp2_with (go_at_call 31; refine (HBL.out _).mono ?_; rintro e wq ⟨rfl, hwq⟩; obtain rfl := hwq.symm)
            go_round
            case rel => exact ⟨j + 1, by omega, by go_num, HNX⟩
            case measure => simp [RowKit.intOf]; omega
          · have HBL := Lib.hid (fun w1 => decide_eq_false hbl ▸ blankR w1 x.toNat)
            have hsy := says_at HX.out hbl HD.out
            by_cases hq : x = 35
            · have b35 : ((x.toNat : Int) != 35) = false := by rw [hq]; rfl
              have b36 : ((x.toNat : Int) == 35) = true := by rw [hq]; rfl
              have HNX : Hid (OwnRw w1.heap.size vv (rowSt l ((linesL l).take (k + 1))).1 (wr.drewN nq)) := Lib.hid (by
                rw [HSTS.out, hsy, hq]
                exact HO9.out)
              clear hsy hbl hq
              go_wp2_with (go_at_call 31; refine (HBL.out _).mono ?_; rintro e wq ⟨rfl, hwq⟩; obtain rfl := hwq.symm)
              go_roundw
              case rel => exact ⟨k + 1, by omega, by go_num, Lib.hid ⟨HNX.out, HB9.out⟩⟩
              case measure => simp [RowKit.intOf]; omega
            · have b36 : ((x.toNat : Int) == 35) = false := byte_ne (n := 35) (by decide) hq
              have b35 : ((x.toNat : Int) != 35) = true := by rw [bne, b36]; rfl
              have hsy2 : saysL S = true := by rw [hsy]; simpa using hq
              have HSY := Lib.hid hsy2
              clear hsy hbl hq hsy2
              go_wp2_with (first
                | (go_at_call 31; refine (HBL.out _).mono ?_; rintro e wq ⟨rfl, hwq⟩; obtain rfl := hwq.symm)
                | (at_builtin; refine appNew rfl _ _ rfl Tryz.underlying47 (.agg #[.int .i64 0, .string ByteArray.empty]) 2 24 infoRow rfl (by decide) (by decide) w1.heap.size w1.heap.size w1 (wr.drewN nq) vv (rowSt l ((linesL l).take k)).1.length ((rowSt l ((linesL l).take k)).1.flatMap rowCells) [.int .i64 ((k : Int) + 1), .string (bstr S)] rfl (rowCells_one (k + 1, S)) rfl HO9.out rfl rfl HAL.out HB9.out (Nat.le_refl _) hbw ?_; intro v8 w8 hO8 hb8 hs8))
              have HNX : Hid (OwnRw w1.heap.size v8 (rowSt l ((linesL l).take (k + 1))).1 w8 ∧ Below w1.heap.size w1 w8) := Lib.hid ⟨by
                rw [HSTS.out, HSY.out]
                exact OwnRw.push hO8, hb8⟩
              clear hO8 hb8 hs8
              go_roundw
              case rel => exact ⟨k + 1, by omega, by go_num, HNX⟩
              case measure => simp [RowKit.intOf]; omega
        · obtain rfl : j = S.length := by omega
          have HNX : Hid (OwnRw w1.heap.size vv (rowSt l ((linesL l).take (k + 1))).1 (wr.drewN nq)) := Lib.hid (by
            rw [HSTS.out, says_end HD.out]
            exact HO9.out)
          go_wp2
          go_roundw
          case rel => exact ⟨k + 1, by omega, by go_num, Lib.hid ⟨HNX.out, HB9.out⟩⟩
          case measure => simp [RowKit.intOf]; omega
    · obtain rfl : k = m := by omega
      go_wp2
      go_ret
      refine ⟨_, rfl, ?_, HB1.out.trans (HR.out.2.mono hsb)⟩
      have := HR.out.1
      rw [List.take_of_length_le (by rw [HM.out]; exact Nat.le_refl _)] at this
      exact own_mono this hsb
end Go.Proofs.YtmhemahkcbgaoaaGreatDoor
