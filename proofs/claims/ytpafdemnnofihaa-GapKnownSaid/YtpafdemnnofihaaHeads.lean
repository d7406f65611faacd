/- What the closed statement needs of memory: the heads of its blocks; guarded operations; rows that are written. -/
import Derived.Test.YtpafdemnnofihaaGapK
import Derived.Test.YtpafdemnnofihaaTwo
namespace Go.Proofs.Ytpafdemnnofihaa
open Go.RowKit
theorem set_b8 (xs : List UInt8) (k : Nat) (x : Int) (h0 : 0 ≤ x) (h1 : x < 256) : ∃ ys : List UInt8, ys.length = xs.length ∧ (xs.map B8).set k (.int .u8 x) = ys.map B8 := by
  refine ⟨xs.set k (UInt8.ofNat x.toNat), by simp, ?_⟩
  rw [List.map_set]
  congr 2
  rw [UInt8.toNat_ofNat']
  omega
theorem row_pre {w : World} {g : Nat} {e : TypeId} {l : List UInt8} (h : Row w g e (l.map B8)) (n : Nat) (hn : n ≤ l.length) : Reads w (some ⟨g, 0, none⟩) n ((l.take n).map B8) := by
  have := h.reads 0 n (by simp; omega)
  rw [List.drop_zero, ← List.map_take] at this
  exact this
theorem own_of_row {w : World} {base : Nat} {e : TypeId} {g n : Nat} {xs : List Value} (h : Row w g e xs) (hb : base ≤ g) (hn : xs.length = n) (hm : n ≤ maxLen) : w.ownsRow base e 1 (.slice (some ⟨g, 0, none⟩) n n) n xs :=
  ⟨by simp [hn], .inr ⟨g, n, xs.toArray, rfl, hb, h, Nat.le_refl _, hm, by simp [hn], by simp [← hn]⟩⟩
theorem step_run {P : Program} {ops : Array Oper} {o : Oper} {a : Act} {w : World} {K : Act → World → Prop} {Q : Exit → Act → World → Prop} {E : Prop} (hgd : o.guard = none) (v : Value) (w' : World)
    (hrun : (execOp a.eval o).run P w = .ok (.value v) w') (h : K (a.put o.dst v) w') : if Region.wanted o (yielded ops a.tmps) = true then Oper.wp P o a w K Q else E := by
  have hw : Region.wanted o (yielded ops a.tmps) = true := by simp [Region.wanted, hgd]
  rw [if_pos hw]
  unfold Oper.wp
  rw [hrun]
  exact h
theorem wpList_bare {P : Program} {ops : Array Oper} {Q : Exit → Act → World → Prop} {a : Act} {w : World} {rest : List Oper} {o : Oper} (hw : Region.wanted o (yielded ops a.tmps) = true)
    (h : wpList P ops Q ({ o with guard := none } :: rest) a w) : wpList P ops Q (o :: rest) a w := by
  simp only [wpList] at h ⊢
  rw [if_pos hw]
  rw [if_pos (by simp [Region.wanted])] at h
  exact h
theorem own_pos1 {w : World} {B : Nat} {e : TypeId} {size : Nat} {v : Value} {n : Nat} {xs : List Value} (h : w.ownsRow B e size v n xs) (hn : 0 < n) : ∃ g c, v = .slice (some ⟨g, 0, none⟩) n c := by
  rcases h.2 with ⟨_, h0⟩ | ⟨g, c, cur, hv, _⟩
  · omega
  · exact ⟨g, c, hv⟩
theorem row_of_own {w : World} {B : Nat} {e : TypeId} {g n c : Nat} {xs : List Value} (h : w.ownsRow B e 1 (.slice (some ⟨g, 0, none⟩) n c) n xs) : ∃ pad, Row w g e (xs ++ pad) ∧ B ≤ g := by
  rcases h.2 with ⟨hv, _⟩ | ⟨g', c', cur, hv, hB, hg, hn, hc, hs, ht⟩
  · cases hv
  · cases hv
    refine ⟨cur.toList.drop n, ?_, hB⟩
    rw [Nat.mul_one] at ht
    show w.heap[g]? = _
    rw [hg, ← ht, List.take_append_drop, Array.toArray_toList]
theorem row_front1 {w : World} {g : Nat} {l : List UInt8} {pad : List Value} (h : Row w g 5 (l.map B8 ++ pad)) {n : Nat} (hl : l.length = n) : Reads w (some ⟨g, 0, none⟩) n (l.map B8) := by
  have h := h.reads 0 n (by rw [List.length_append, List.length_map, hl]; omega)
  rw [List.drop_zero, List.take_append_of_le_length (by rw [List.length_map, hl]; exact Nat.le_refl _), List.take_of_length_le (by rw [List.length_map, hl]; exact Nat.le_refl _)] at h
  exact h
theorem row_over1 {w : World} {g : Nat} {l : List UInt8} {pad : List Value} (h : Row w g 5 (l.map B8 ++ pad)) {i : Nat} (hi : i < l.length) (x : UInt8) : Row (w.setCell ⟨g, i, none⟩ (B8 x)) g 5 ((l.set i x).map B8 ++ pad) := by
  have e : (l.map B8 ++ pad).set i (B8 x) = (l.set i x).map B8 ++ pad := by
    rw [List.set_append_left _ _ (by rw [List.length_map]; exact hi), List.map_set]
  rw [← e]
  exact h.set i _
theorem xor_one (x : UInt8) : ∃ y : UInt8, bits .xor .u8 (x.toNat : Int) 1 = (y.toNat : Int) := by
  have hx := x.toNat_lt
  refine ⟨x ^^^ 1, ?_⟩
  have h := u8_xor_nat x.toNat 1 (by omega) (by omega)
  rw [UInt8.toNat_xor]
  exact h
def headsL : List (List UInt8) := [[5, 0, 4, 0], [0, 0, 253, 0], [252, 0, 252, 0], [253, 0, 253, 0], [0, 1, 0, 1], [3, 0, 9, 0], [3, 0, 252, 0], [0, 0, 252, 0]]
theorem headsL_len : ∀ l ∈ headsL, l.length = 4 := by decide
def rowsW (w : World) (L : List (List UInt8)) : World := L.foldl (fun w l => w.alloc (.cells (l.map B8).toArray 5)) w
theorem rowsW_facts : ∀ (L : List (List UInt8)) (w : World), (rowsW w L).heap.size = w.heap.size + L.length ∧ Below w.heap.size w (rowsW w L) ∧ ∀ i l, L[i]? = some l → Row (rowsW w L) (w.heap.size + i) 5 (l.map B8)
  | [], w => ⟨rfl, Below.refl _ _, by simp⟩
  | x :: L, w => by
    obtain ⟨h1, h2, h3⟩ := rowsW_facts L (w.alloc (.cells (x.map B8).toArray 5))
    have hsz : (w.alloc (.cells (x.map B8).toArray 5)).heap.size = w.heap.size + 1 := by simp
    have e : rowsW w (x :: L) = rowsW (w.alloc (.cells (x.map B8).toArray 5)) L := rfl
    rw [e]
    refine ⟨by rw [h1, hsz, List.length_cons]; omega, below_past h2, fun i l h => ?_⟩
    match i, h with
    | 0, h =>
      simp at h
      subst h
      exact (row_new w _ _).keep h2 (by simp)
    | i + 1, h =>
      have h4 := h3 i l (by simpa using h)
      rw [hsz] at h4
      rwa [show w.heap.size + 1 + i = w.heap.size + (i + 1) by omega] at h4
def headsW (w : World) : World := (rowsW w headsL).alloc (.cells ((List.range 8).map fun i => Value.slice (some ⟨w.heap.size + i, 0, none⟩) 4 4).toArray 22)
theorem headsW_facts (w : World) : (headsW w).heap.size = w.heap.size + 9 ∧ Below w.heap.size w (headsW w) ∧ (∀ i l, headsL[i]? = some l → Row (headsW w) (w.heap.size + i) 5 (l.map B8)) ∧
    Row (headsW w) (w.heap.size + 8) 22 ((List.range 8).map fun i => Value.slice (some ⟨w.heap.size + i, 0, none⟩) 4 4) := by
  obtain ⟨h1, h2, h3⟩ := rowsW_facts headsL w
  have h1 : (rowsW w headsL).heap.size = w.heap.size + 8 := h1
  unfold headsW
  refine ⟨by simp [h1], h2.alloc (by omega) _, fun i l h => (h3 i l h).keep ((Below.refl _ _).alloc (Nat.le_refl _) _) (h3 i l h).lt, ?_⟩
  rw [← h1]
  exact row_new _ _ _
theorem run_make252 (w : World) : (Instr.makeSlice 22 (.int .i64 252) (.int .i64 252)).run Try.prog w = .ok (.slice (some ⟨w.heap.size, 0, none⟩) 252 252) (w.alloc (.cells ((List.replicate 252 (0 : UInt8)).map B8).toArray 5)) := by kernel_rfl
theorem make252 (w : World) : ∃ wm, (Instr.makeSlice 22 (.int .i64 252) (.int .i64 252)).run Try.prog w = .ok (.slice (some ⟨w.heap.size, 0, none⟩) 252 252) wm ∧ Reads wm (some ⟨w.heap.size, 0, none⟩) 252 ((List.replicate 252 (0 : UInt8)).map B8) ∧ Below w.heap.size w wm :=
  ⟨_, run_make252 w, (by have h := row_pre (row_new w ((List.replicate 252 (0 : UInt8)).map B8) 5) 252 (by rw [List.length_replicate]; exact Nat.le_refl _); rwa [List.take_of_length_le (by rw [List.length_replicate]; exact Nat.le_refl _)] at h), (Below.refl _ _).alloc (Nat.le_refl _) _⟩
def gapNone : List Value := .bool false :: .int .i64 0 :: .int .i64 0 :: List.replicate 252 (.int .u8 0)
end Go.Proofs.Ytpafdemnnofihaa
