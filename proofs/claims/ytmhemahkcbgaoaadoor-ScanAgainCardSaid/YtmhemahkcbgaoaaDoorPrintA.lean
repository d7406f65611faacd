/- Print, by the program: tokens that are read, strings of the call's own, the line. -/
import Derived.Test.YtmhemahkcbgaoaaDoorScanO
namespace Go.Proofs.YtmhemahkcbgaoaaDoor
set_option linter.unusedVariables false
set_option linter.unusedSimpArgs false
open Go.RowKit
open Go.Lib hiding intOf
theorem grown_alloc_then {w w' : World} {o : Obj} {row : Option Nat} (h : (w.alloc o).grownBy w' row) : w.grownBy w' row :=
  ⟨h.os, h.tape, h.output, by have := h.size; simp at this; omega, fun k hk hne => (h.block k (by simp; omega) hne).trans (Below.heap_alloc w o k hk)⟩
/-- append of one element to a row of one's own, whatever the element's type -/
theorem appElem {T e : TypeId} {ops : Array Oper} {rest : List Oper} {o : Oper} {a : Act} {w : World} {Q : Exit → Act → World → Prop} (hgd : o.guard = none) (sl x : Operand) (ho : o.op = .call { callee := .builtin .append, args := #[sl, x], argTypes := #[T, T] })
    (hT : Tryd.prog.underlying T = some (.slice e)) (z : Value) (size bytes : Nat) (hinfo : (Tryd.prog.info? e).map (fun i => (i.zero, i.size, i.bytes)) = some (some z, size, bytes)) (hz : z.cells.size = size) (hs0 : 0 < size) (hby : bytes ≤ 4096)
    (B B0 : Nat) (w0 wp : World) (v : Value) (n : Nat) (xs news : List Value) (hs : a.eval sl = v) (hown : wp.ownsRow B e size v n xs) (hx : a.eval x = .slice (some ⟨wp.heap.size, 0, none⟩) 1 1) (hw : w = wp.alloc (.cells news.toArray e)) (hnl : news.length = size) (hone : ∀ u ∈ news, u.oneCell' = true)
    (hl : n ≤ 17179869184) (hb : Below B0 w0 wp) (hB0 : B0 ≤ B) (hB : B ≤ wp.heap.size)
    (h : ∀ v' w', w'.ownsRow B e size v' (n + 1) (xs ++ news) → Below B0 w0 w' → wp.heap.size ≤ w'.heap.size → (∀ g, g < B → w'.heap[g]? = wp.heap[g]?) → wp.grownBy w' v.ownBlock → wpList Tryd.prog ops Q rest (a.put o.dst v') w') : wpList Tryd.prog ops Q (o :: rest) a w := by
  subst hw
  obtain ⟨i0, hi, hz0, hz1, hz2⟩ := info_parts hinfo
  have hsz : (wp.alloc (.cells news.toArray e)).heap.size = wp.heap.size + 1 := by simp
  refine wpList_append_own _ hgd sl x T ho B e i0 z size bytes hT hi hz0 hz1 hz2 hz hs0 v n _ hs (World.ownsRow.alloc hown _) ⟨wp.heap.size, 0, none⟩ 1 1 news hx (by omega) ?_ hone (by unfold maxLen; omega) ?_ (by omega) ?_
  · intro j u hj
    have hr : Row (wp.alloc (.cells news.toArray e)) wp.heap.size e news := alloc_last _ _
    have := Row.cell hr j
    rw [hj] at this
    rw [add0]
    exact this
  · calc (n + 1) * bytes ≤ (n + 1) * 4096 := Nat.mul_le_mul (Nat.le_refl _) hby
      _ ≤ 140737488355328 := by omega
  intro v' w' h1 h2 _
  have hlt : ∀ k, v.ownBlock = some k → B ≤ k := fun k hk => (World.ownsRow.lt hown k hk).1
  have hbb : Below B0 w0 w' := (hb.alloc (Nat.le_trans hB0 hB) _).grown h2 (by omega) (fun k hk => Nat.le_trans hB0 (hlt k hk))
  refine h v' w' h1 hbb (by have := h2.size; omega) (fun g hg => ?_) (grown_alloc_then h2)
  rw [h2.block g (by omega) (fun e => by have := hlt g e.symm; omega), Lib.alloc_old wp _ g (by omega)]
/-- tokens, read out of a slice -/
def ReadsT (w : World) (a : Option Addr) (n : Nat) (L : List Tok) : Prop :=
  L.length = n ∧ (0 < n → ∃ b off, a = some ⟨b, off, none⟩ ∧ b < w.heap.size ∧ ∀ i x, L[i]? = some x → ∀ k v, (tokCells x)[k]? = some v → w.cell? ⟨b, off + i * 4 + k, none⟩ = some v)
theorem ReadsT.keep {B : Nat} {w w' : World} {a : Option Addr} {n : Nat} {L : List Tok} (h : ReadsT w a n L) (hb : Below B w w') (hB : w.heap.size ≤ B) : ReadsT w' a n L := by
  obtain ⟨hl, h⟩ := h
  refine ⟨hl, fun hn => ?_⟩
  obtain ⟨b, off, ha, hlt, hc⟩ := h hn
  exact ⟨b, off, ha, Nat.lt_of_lt_of_le hlt hb.size, fun i x hx k v hv => by rw [hb.cell (p := ⟨b, off + i * 4 + k, none⟩) (Nat.lt_of_lt_of_le hlt hB)]; exact hc i x hx k v hv⟩
theorem ReadsT.at {w : World} {a : Option Addr} {n : Nat} {L : List Tok} (h : ReadsT w a n L) {i : Nat} (hi : i < n) :
    ∃ b off x, a = some ⟨b, off, none⟩ ∧ b < w.heap.size ∧ L[i]? = some x ∧ w.cell? ⟨b, off + i * 4, none⟩ = some (.int .i64 x.kind) ∧ w.cell? ⟨b, off + i * 4 + 1, none⟩ = some (.int .i64 x.at') ∧ w.cell? ⟨b, off + i * 4 + 2, none⟩ = some (.string (bstr x.text)) ∧ w.cell? ⟨b, off + i * 4 + 3, none⟩ = some (.int .i64 x.num) := by
  obtain ⟨hl, h⟩ := h
  obtain ⟨b, off, ha, hlt, hc⟩ := h (by omega)
  have hx : L[i]? = some L[i] := List.getElem?_eq_getElem (by omega)
  have := hc i _ hx
  exact ⟨b, off, L[i], ha, hlt, hx, this 0 _ rfl, this 1 _ rfl, this 2 _ rfl, this 3 _ rfl⟩
theorem tok_at {L : List Tok} : ∀ {i : Nat} {x : Tok}, L[i]? = some x → ∀ {k : Nat} {v : Value}, (tokCells x)[k]? = some v → (L.flatMap tokCells)[i * 4 + k]? = some v := by
  induction L with
  | nil => intro i x h; cases h
  | cons y L ih =>
    intro i x hx k v hv
    rw [List.flatMap_cons]
    have hk : k < 4 := (List.getElem?_eq_some_iff.1 hv).1
    cases i with
    | zero =>
      cases hx
      rw [Nat.zero_mul, Nat.zero_add, List.getElem?_append_left (by exact hk)]
      exact hv
    | succ i =>
      rw [List.getElem?_append_right (by show 4 ≤ _; omega)]
      have := ih (i := i) hx hv
      rw [show (i + 1) * 4 + k - (tokCells y).length = i * 4 + k from by show (i + 1) * 4 + k - 4 = _; omega]
      exact this
theorem readsT_own {B : Nat} {v : Value} {L : List Tok} {w : World} (h : OwnT B v L w) : ∃ a c, v = .slice a L.length c ∧ ReadsT w a L.length L ∧ L.length ≤ c ∧ c ≤ maxLen := by
  rcases h.2 with ⟨rfl, h0⟩ | ⟨g, cap, cur, rfl, hb, hg, hnc, hcm, hs, ht⟩
  · rw [h0]
    exact ⟨none, 0, rfl, ⟨h0, fun h => absurd h (by omega)⟩, Nat.le_refl _, Nat.zero_le _⟩
  · refine ⟨_, cap, rfl, ⟨rfl, fun _ => ⟨g, 0, rfl, (Array.getElem?_eq_some_iff.1 hg).1, fun i x hx k u hu => ?_⟩⟩, hnc, hcm⟩
    have hlt : i * 4 + k < L.length * 4 := by
      have h1 : i < L.length := (List.getElem?_eq_some_iff.1 hx).1
      have h2 : k < 4 := (List.getElem?_eq_some_iff.1 hu).1
      omega
    have e := tok_at hx hu
    rw [Nat.zero_add]
    exact (h.cellAt (i * 4 + k) hlt).trans e
/-- texts of the call's own -/
def OwnS (B : Nat) (v : Value) (ps : List (List UInt8)) (w : World) : Prop := w.ownsRow B 9 1 v ps.length (ps.map fun s => .string (bstr s))
theorem OwnS.below {B : Nat} {v : Value} {ps : List (List UInt8)} {w w' : World} (h : OwnS B v ps w) (b : Below w.heap.size w w') : OwnS B v ps w' := by
  refine ⟨h.1, ?_⟩
  rcases h.2 with hn | ⟨g, cap, cur, rfl, hb, hgg, rest⟩
  · exact .inl hn
  · exact .inr ⟨g, cap, cur, rfl, hb, (b.block g (Array.getElem?_eq_some_iff.1 hgg).1).trans hgg, rest⟩
theorem infoStr : (Tryd.prog.info? 9).map (fun i => (i.zero, i.size, i.bytes)) = some (some (.string ByteArray.empty), 1, 16) := by kernel_rfl
/-- strings.Join at a row of one's own -/
theorem joinC (w : World) (B : Nat) (v : Value) (ps : List (List UInt8)) (sep : List UInt8) (h : OwnS B v ps w) (hn : ps.length ≤ 140737488355328) (hl : (Lib.join ps sep).length ≤ 140737488355328) :
    Calls Tryd.prog 36 #[v, .string (bstr sep)] w fun e w' => e = .returned (.string (bstr (Lib.join ps sep))) ∧ Below w.heap.size w w' := by
  rcases h.2 with ⟨rfl, h0⟩ | ⟨g, cap, cur, rfl, hb, hg, hnc, hcm, hs, ht⟩
  · obtain rfl := List.eq_nil_of_length_eq_zero h0
    refine (Tryd.strings_Join_none none 0 (bstr sep) w).mono ?_
    rintro e w' ⟨rfl, rfl⟩
    exact ⟨rfl, Below.refl _ _⟩
  · have em : (ps.map bstr).map (·.data.toList) = ps := by rw [List.map_map]; exact (List.map_congr_left fun s _ => by simp [bstr]).trans (List.map_id _)
    have hj := Tryd.strings_Join g 0 cap (ps.map bstr) (bstr sep) w (by
      intro j x hx
      rw [Nat.zero_add]
      rw [List.getElem?_map] at hx
      cases hp : ps[j]? with
      | none => rw [hp] at hx; cases hx
      | some s =>
        rw [hp] at hx
        cases hx
        have hlt : j < ps.length := (List.getElem?_eq_some_iff.1 hp).1
        refine (h.cellAt j (by omega)).trans ?_
        rw [List.getElem?_map, hp]; rfl) (Array.getElem?_eq_some_iff.1 hg).1 (by simpa using hn) (by simpa using hnc) (by rw [em]; simpa [bstr] using hl)
    rw [em, List.length_map] at hj
    refine hj.mono ?_
    rintro e w' ⟨rfl, hb'⟩
    exact ⟨by simp [bstr], hb'⟩
end Go.Proofs.YtmhemahkcbgaoaaDoor
