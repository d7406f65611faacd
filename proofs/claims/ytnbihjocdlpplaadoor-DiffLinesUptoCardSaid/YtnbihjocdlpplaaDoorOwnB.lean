/- Rows of bytes of the call's own: append of a text, of a byte; as a text. -/
import Derived.Test.YtnbihjocdlpplaaDoorGenA
import Derived.Lib.AppendZeros
namespace Go.Proofs.YtnbihjocdlpplaaDoor
set_option linter.unusedVariables false
set_option linter.unusedSimpArgs false
open Go.RowKit
open Go.Lib
def OwnB (B : Nat) (v : Value) (acc : List UInt8) (w : World) : Prop := w.ownsRow B 5 1 v acc.length (acc.map B8)
theorem strCells_B8 (s : List UInt8) : Lib.strCells (bstr s) = s.map B8 := rfl
theorem OwnB.drewN {B : Nat} {v : Value} {acc : List UInt8} {w : World} (h : OwnB B v acc w) (n : Nat) : OwnB B v acc (w.drewN n) := h
theorem OwnB.below {B : Nat} {v : Value} {acc : List UInt8} {w w' : World} (h : OwnB B v acc w) (b : Below w.heap.size w w') : OwnB B v acc w' := by
  refine ⟨h.1, ?_⟩
  rcases h.2 with hn | ⟨g, cap, cur, rfl, hb, hgg, rest⟩
  · exact .inl hn
  · exact .inr ⟨g, cap, cur, rfl, hb, (b.block g (Array.getElem?_eq_some_iff.1 hgg).1).trans hgg, rest⟩
section
variable {ops : Array Oper} {rest : List Oper} {o : Oper} {a : Act} {w : World} {Q : Exit → Act → World → Prop}
/-- append of a text to a row of one's own -/
theorem appStr (hgd : o.guard = none) (sl x : Operand) (ho : o.op = .call { callee := .builtin .append, args := #[sl, x], argTypes := #[30, 9] })
    (B : Nat) (w0 : World) (v : Value) (acc s : List UInt8) (hs : a.eval sl = v) (hown : OwnB B v acc w) (hx : a.eval x = .string (bstr s)) (hl : acc.length ≤ 1099511627776) (hl2 : s.length ≤ 1099511627776) (hb : Below B w0 w) (hB : B ≤ w.heap.size)
    (h : ∀ v' w', OwnB B v' (acc ++ s) w' → Below B w0 w' → B ≤ w'.heap.size → wpList Tryd.prog ops Q rest (a.put o.dst v') w') : wpList Tryd.prog ops Q (o :: rest) a w := by
  obtain ⟨i0, hi, hz0, hz1, hz2⟩ := info_parts Tryd.infoU8
  refine Lib.wpList_append_own_string _ hgd sl x 30 9 ho B 5 i0 Tryd.underlying30 Tryd.underlying9 hi hz0 hz1 hz2 v acc.length _ hs hown (bstr s) hx (by rw [bstr_size]; unfold maxLen; omega) (by rw [bstr_size]; omega) hB ?_
  intro v' w' h1 h2 _
  have hbb : Below B w0 w' := hb.grown h2 hB (fun k hk => (World.ownsRow.lt hown k hk).1)
  refine h v' w' ?_ hbb (Nat.le_trans hB h2.size)
  unfold OwnB
  rw [List.length_append, List.map_append]
  rw [bstr_size, strCells_B8] at h1
  exact h1
/-- the same as one step of a region that draws its order -/
theorem stepAppStr {K : Act → World → Prop} {E : Prop} (hgd : o.guard = none) (sl x : Operand) (ho : o.op = .call { callee := .builtin .append, args := #[sl, x], argTypes := #[30, 9] })
    (B : Nat) (w0 : World) (v : Value) (acc s : List UInt8) (hs : a.eval sl = v) (hown : OwnB B v acc w) (hx : a.eval x = .string (bstr s)) (hl : acc.length ≤ 1099511627776) (hl2 : s.length ≤ 1099511627776) (hb : Below B w0 w) (hB : B ≤ w.heap.size)
    (h : ∀ v' w', OwnB B v' (acc ++ s) w' → Below B w0 w' → B ≤ w'.heap.size → K (a.put o.dst v') w') : if Region.wanted o (yielded ops a.tmps) = true then Oper.wp Tryd.prog o a w K Q else E := by
  obtain ⟨i0, hi, hz0, hz1, hz2⟩ := info_parts Tryd.infoU8
  have hw : Region.wanted o (yielded ops a.tmps) = true := by simp [Region.wanted, hgd]
  rw [if_pos hw]
  obtain ⟨v', w', hr, h1, h2, _⟩ := Lib.run_append_own_string (P := Tryd.prog) w B 30 9 o.type 5 i0 Tryd.underlying30 Tryd.underlying9 hi hz0 hz1 hz2 v acc.length _ hown (bstr s) (by rw [bstr_size]; unfold maxLen; omega) (by rw [bstr_size]; omega) hB
  have hbb : Below B w0 w' := hb.grown h2 hB (fun k hk => (World.ownsRow.lt hown k hk).1)
  unfold Oper.wp
  simp [execOp, ho, resolve, invoke, builtin, hs, hx, hr, Result.andThen]
  refine h _ _ ?_ hbb (Nat.le_trans hB h2.size)
  unfold OwnB
  rw [List.length_append, List.map_append]
  rw [bstr_size, strCells_B8] at h1
  exact h1
/-- append of one byte -/
theorem appOne (hgd : o.guard = none) (sl x : Operand) (ho : o.op = .call { callee := .builtin .append, args := #[sl, x], argTypes := #[30, 30] })
    (B : Nat) (w0 wp : World) (v : Value) (acc : List UInt8) (c : UInt8) (hs : a.eval sl = v) (hown : OwnB B v acc wp) (hx : a.eval x = .slice (some ⟨wp.heap.size, 0, none⟩) 1 1) (hw : w = wp.alloc (.cells #[B8 c] 5)) (hl : acc.length ≤ 1099511627776) (hb : Below B w0 wp) (hB : B ≤ wp.heap.size)
    (h : ∀ v' w', OwnB B v' (acc ++ [c]) w' → Below B w0 w' → B ≤ w'.heap.size → wpList Tryd.prog ops Q rest (a.put o.dst v') w') : wpList Tryd.prog ops Q (o :: rest) a w := by
  subst hw
  obtain ⟨i0, hi, hz0, hz1, hz2⟩ := info_parts Tryd.infoU8
  have hB' : B ≤ (wp.alloc (.cells #[B8 c] 5)).heap.size := by simp; omega
  refine wpList_append_own _ hgd sl x 30 ho B 5 i0 (.int .u8 0) 1 1 Tryd.underlying30 hi hz0 hz1 hz2 rfl (by decide) v acc.length _ hs (World.ownsRow.alloc hown _) ⟨wp.heap.size, 0, none⟩ 1 1 [B8 c] hx rfl (cell_one_new _ _ _) (by simp [Value.oneCell']) (by unfold maxLen; omega) (by omega) hB' ?_
  intro v' w' h1 h2 _
  have hbb : Below B w0 w' := below_append hb hB hown h2
  refine h v' w' ?_ hbb (Nat.le_trans hB' h2.size)
  unfold OwnB
  rw [List.length_append, List.map_append]
  exact h1
end
theorem conv_own {B : Nat} {v : Value} {acc : List UInt8} {w : World} (h : OwnB B v acc w) : (convert 30 9 v).run Tryd.prog w = .ok (.string (bstr acc)) w := by
  obtain ⟨a, c, rfl, hr, _, _⟩ := reads_of_own h
  exact run_bytes_str _ _ _ 5 Tryd.underlying30 Tryd.underlying5 Tryd.underlying9 _ _ _ acc hr
end Go.Proofs.YtnbihjocdlpplaaDoor
