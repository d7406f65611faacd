/- Texts joined, one behind the other (Base, Mem, GenA). -/
import Derived.Test.YtchdeboialbdiaaDoorProg
import Derived.WalkKit
import Derived.WalkSpells
import Derived.WalkLawsBesides
import Derived.Lib.Hide
import Derived.Outline
import Derived.Handy
import Derived.BigQuiet
import Derived.Deep.QuietTactic
import Derived.Laws.CopyOwn
import Derived.Laws.BitsAllLaws
import Derived.Lib.SliceRun
import Derived.Stop.BytesEq
import Derived.Laws.BytesString
import Derived.Laws.Rows
import Derived.Laws.Cover3
import Derived.Lib.AppendZeros
import Derived.Lib.OthersKept
import Derived.OwnWalk
/- Slices that are read, in plain words: what every walk of this seat uses. -/
namespace Go.Proofs.YtchdeboialbdiaaDoor
set_option linter.unusedVariables false
set_option linter.unusedSimpArgs false
open Go.RowKit
theorem Tryd.size1U8 : (Tryd.prog.info? 5).map (·.size) = some 1 := by kernel_rfl
theorem Tryd.infoU8 : (Tryd.prog.info? 5).map (fun i => (i.zero, i.size, i.bytes)) = some (some (.int .u8 0), 1, 1) := by kernel_rfl

/-- The slice at a of n elements of one cell each reads as xs. -/
def Reads (w : World) (a : Option Addr) (n : Nat) (xs : List Value) : Prop :=
  xs.length = n ∧ (0 < n → ∃ b off, a = some ⟨b, off, none⟩ ∧ b < w.heap.size ∧ ∀ j, j < n → w.cell? ⟨b, off + j, none⟩ = xs[j]?)

theorem Reads.len {w : World} {a : Option Addr} {n : Nat} {xs : List Value} (h : Reads w a n xs) : xs.length = n := h.1

theorem Reads.at {w : World} {a : Option Addr} {n : Nat} {xs : List Value} (h : Reads w a n xs) {k : Nat} (hk : k < n) :
    ∃ b off x, a = some ⟨b, off, none⟩ ∧ b < w.heap.size ∧ xs[k]? = some x ∧ w.cell? ⟨b, off + k, none⟩ = some x := by
  obtain ⟨hl, h⟩ := h
  obtain ⟨b, off, ha, hb, hc⟩ := h (by omega)
  exact ⟨b, off, xs[k], ha, hb, by simp, by rw [hc k hk]; simp⟩

theorem Reads.keep {B : Nat} {w w' : World} {a : Option Addr} {n : Nat} {xs : List Value} (h : Reads w a n xs) (hb : Below B w w') (hB : w.heap.size ≤ B) : Reads w' a n xs := by
  obtain ⟨hl, h⟩ := h
  refine ⟨hl, fun hn => ?_⟩
  obtain ⟨b, off, ha, hlt, hc⟩ := h hn
  exact ⟨b, off, ha, Nat.lt_of_lt_of_le hlt hb.size, fun j hj => by rw [hb.cell (p := ⟨b, off + j, none⟩) (Nat.lt_of_lt_of_le hlt hB)]; exact hc j hj⟩

theorem Reads.nil (w : World) (a : Option Addr) : Reads w a 0 [] := ⟨rfl, fun h => absurd h (by omega)⟩

/-- a row of the call's own, read -/
theorem reads_of_own {w : World} {base : Nat} {e : TypeId} {v : Value} {n : Nat} {xs : List Value} (h : w.ownsRow base e 1 v n xs) :
    ∃ a c, v = .slice a n c ∧ Reads w a n xs ∧ n ≤ c ∧ c ≤ maxLen := by
  have hl := h.1
  rcases h.2 with ⟨rfl, rfl⟩ | ⟨g, cap, cur, rfl, hb, hg, hnc, hcm, hs, ht⟩
  · exact ⟨none, 0, rfl, ⟨by simpa using hl, fun h => absurd h (by omega)⟩, Nat.le_refl _, Nat.zero_le _⟩
  · refine ⟨_, cap, rfl, ⟨by simpa using hl, fun _ => ⟨g, 0, rfl, (Array.getElem?_eq_some_iff.1 hg).1, fun j hj => ?_⟩⟩, hnc, hcm⟩
    rw [Nat.zero_add]
    exact h.cellAt j (by omega)

/-- a byte -/
abbrev B8 (x : UInt8) : Value := .int .u8 (x.toNat : Int)
theorem b8_at {l : List UInt8} {k : Nat} {x : Value} (h : (l.map B8)[k]? = some x) : ∃ y, x = B8 y ∧ l[k]? = some y := by
  rw [List.getElem?_map] at h
  cases hy : l[k]? with
  | none => rw [hy] at h; simp at h
  | some y => rw [hy] at h; simp at h; exact ⟨y, h.symm, rfl⟩
theorem b8_lt (x : UInt8) : (x.toNat : Int) < 256 := by have := x.toNat_lt; omega

/-- a byte of a slice of bytes, at a place in it -/
theorem Reads.byte {w : World} {a : Option Addr} {n : Nat} {l : List UInt8} (h : Reads w a n (l.map B8)) {k : Nat} (hk : k < n) :
    ∃ b off x, a = some ⟨b, off, none⟩ ∧ b < w.heap.size ∧ l[k]? = some x ∧ w.cell? ⟨b, off + k, none⟩ = some (.int .u8 (x.toNat : Int)) := by
  obtain ⟨b, off, x, ha, hb, hx, hc⟩ := h.at hk
  obtain ⟨y, rfl, hy⟩ := b8_at hx
  exact ⟨b, off, y, ha, hb, hy, hc⟩

theorem take_next {α : Type} {l : List α} {k : Nat} {x : α} (h : l[k]? = some x) : l.take (k + 1) = l.take k ++ [x] := by
  rw [List.take_add_one, h]; rfl
theorem lt_of_at {α : Type} {l : List α} {k : Nat} {x : α} (h : l[k]? = some x) : k < l.length := (List.getElem?_eq_some_iff.1 h).1

/-- behind an append of one element to a row of the call's own -/
theorem below_append {B : Nat} {W w w2 : World} {e : TypeId} {size : Nat} {v : Value} {n : Nat} {xs : List Value} {o : Obj} (h : Below B W w) (hB : B ≤ w.heap.size) (ho : w.ownsRow B e size v n xs) (hg : (w.alloc o).grownBy w2 v.ownBlock) : Below B W w2 :=
  (h.alloc hB o).grown hg (by simp; omega) (fun k hk => (ho.lt k hk).1)
theorem map_next {α β : Type} {l : List α} {k : Nat} {x : α} (f : α → β) (h : l[k]? = some x) : (l.take k).map f ++ [f x] = (l.take (k + 1)).map f := by
  rw [take_next h, List.map_append]; rfl

/-- A slice value that reads as these bytes. -/
def SliceOf (w : World) (v : Value) (l : List UInt8) : Prop := ∃ a c, v = .slice a l.length c ∧ Reads w a l.length (l.map B8) ∧ l.length ≤ c ∧ c ≤ maxLen
theorem SliceOf.keep {B : Nat} {w w' : World} {v : Value} {l : List UInt8} (h : SliceOf w v l) (hb : Below B w w') (hB : w.heap.size ≤ B) : SliceOf w' v l := by
  obtain ⟨a, c, hv, hr, h1, h2⟩ := h
  exact ⟨a, c, hv, hr.keep hb hB, h1, h2⟩
theorem sliceOf_own {w : World} {base : Nat} {e : TypeId} {v : Value} {n : Nat} {l : List UInt8} (h : w.ownsRow base e 1 v n (l.map B8)) : SliceOf w v l := by
  obtain ⟨a, c, hv, hr, h1, h2⟩ := reads_of_own h
  have := hr.len
  rw [List.length_map] at this
  subst this
  exact ⟨a, c, hv, hr, h1, h2⟩
/-- The slice at a of n slices of bytes reads as these lists. -/
def ReadsRows (w : World) (a : Option Addr) (n : Nat) (ll : List (List UInt8)) : Prop :=
  ∃ vs : List Value, Reads w a n vs ∧ ll.length = n ∧ ∀ (i : Nat) (v : Value) (l : List UInt8), vs[i]? = some v → ll[i]? = some l → SliceOf w v l
theorem ReadsRows.len {w : World} {a : Option Addr} {n : Nat} {ll : List (List UInt8)} (h : ReadsRows w a n ll) : ll.length = n := by
  obtain ⟨_, _, h, _⟩ := h
  exact h
theorem ReadsRows.keep {B : Nat} {w w' : World} {a : Option Addr} {n : Nat} {ll : List (List UInt8)} (h : ReadsRows w a n ll) (hb : Below B w w') (hB : w.heap.size ≤ B) : ReadsRows w' a n ll := by
  obtain ⟨vs, hr, hl, h⟩ := h
  exact ⟨vs, hr.keep hb hB, hl, fun i v l h1 h2 => (h i v l h1 h2).keep hb hB⟩
theorem ReadsRows.at {w : World} {a : Option Addr} {n : Nat} {ll : List (List UInt8)} (h : ReadsRows w a n ll) {k : Nat} (hk : k < n) :
    ∃ b off a' l c', a = some ⟨b, off, none⟩ ∧ b < w.heap.size ∧ ll[k]? = some l ∧ w.cell? ⟨b, off + k, none⟩ = some (.slice a' l.length c') ∧ Reads w a' l.length (l.map B8) ∧ l.length ≤ c' ∧ c' ≤ maxLen := by
  obtain ⟨vs, hr, hl, h⟩ := h
  obtain ⟨b, off, x, ha, hb, hx, hc⟩ := hr.at hk
  have hlk : ll[k]? = some ll[k] := by simp
  obtain ⟨a', c', hv, hr', h1, h2⟩ := h k x _ hx hlk
  subst hv
  exact ⟨b, off, a', _, c', ha, hb, hlk, hc, hr', h1, h2⟩

theorem cell_new (w : World) (cs : List Value) (e : TypeId) (j : Nat) : (w.alloc (.cells cs.toArray e)).cell? ⟨w.heap.size, j, none⟩ = cs[j]? := by
  have h : (w.alloc (.cells cs.toArray e)).heap[w.heap.size]? = some (.cells cs.toArray e) := heap_alloc_new w _
  simp only [World.cell?, h]
  simp
theorem own_mono {w : World} {b b' : Nat} {e : TypeId} {size : Nat} {v : Value} {n : Nat} {xs : List Value} (h : w.ownsRow b e size v n xs) (hb : b' ≤ b) : w.ownsRow b' e size v n xs := by
  refine ⟨h.1, ?_⟩
  rcases h.2 with h2 | ⟨g, cap, cur, hv, hg, r⟩
  · exact .inl h2
  · exact .inr ⟨g, cap, cur, hv, by omega, r⟩
theorem own_mono_size {w : World} {b b' : Nat} {e : TypeId} {size : Nat} {v : Value} {n : Nat} {xs : List Value} (h : w.ownsRow b e size v n xs) (hb : b' ≤ b) : w.ownsRow b' e size v n xs := own_mono h hb
theorem below_past {w w' : World} {o : Obj} (h : Below (w.alloc o).heap.size (w.alloc o) w') : Below w.heap.size w w' :=
  ((Below.refl _ w).alloc (Nat.le_refl _) o).trans (h.mono (by simp))

/-- A block of cells, known whole. -/
def Row (w : World) (g : Nat) (e : TypeId) (xs : List Value) : Prop := w.heap[g]? = some (.cells xs.toArray e (0, 0))
theorem Row.out {w : World} {g : Nat} {e : TypeId} {xs : List Value} (h : Row w g e xs) : w.heap[g]? = some (.cells xs.toArray e (0, 0)) := h
theorem Row.cell {w : World} {g : Nat} {e : TypeId} {xs : List Value} (h : Row w g e xs) (k : Nat) : w.cell? ⟨g, k, none⟩ = xs[k]? := by
  unfold Row at h
  simp [World.cell?, h]
theorem Row.frozen {w : World} {g : Nat} {e : TypeId} {xs : List Value} (h : Row w g e xs) (k : Nat) : w.frozen? ⟨g, k, none⟩ = false := by
  unfold Row at h
  simp [World.frozen?, h]
theorem Row.lt {w : World} {g : Nat} {e : TypeId} {xs : List Value} (h : Row w g e xs) : g < w.heap.size := (Array.getElem?_eq_some_iff.1 h).1
theorem Row.set {w : World} {g : Nat} {e : TypeId} {xs : List Value} (h : Row w g e xs) (k : Nat) (v : Value) : Row (w.setCell ⟨g, k, none⟩ v) g e (xs.set k v) := by
  unfold Row at h ⊢
  simp [World.setCell, Array.getElem?_modify, h]
theorem Row.other {w : World} {g : Nat} {e : TypeId} {xs : List Value} (h : Row w g e xs) {p : Addr} (hp : p.block ≠ g) (v : Value) : Row (w.setCell p v) g e xs := by
  unfold Row at h ⊢
  rw [Below.heap_setCell _ _ _ _ (Ne.symm hp)]; exact h
theorem Row.keep {B : Nat} {w w' : World} {g : Nat} {e : TypeId} {xs : List Value} (h : Row w g e xs) (hb : Below B w w') (hB : g < B) : Row w' g e xs := by
  unfold Row at h ⊢
  rw [hb.block g hB]; exact h
theorem Row.alloc {w : World} {g : Nat} {e : TypeId} {xs : List Value} (h : Row w g e xs) (o : Obj) : Row (w.alloc o) g e xs := h.keep ((Below.refl _ w).alloc (Nat.le_refl _) o) h.lt
theorem row_new (w : World) (xs : List Value) (e : TypeId) : Row (w.alloc (.cells xs.toArray e)) w.heap.size e xs := heap_alloc_new w _
theorem row_own {w : World} {base : Nat} {e : TypeId} {g n : Nat} {xs : List Value} (h : w.ownsRow base e 1 (.slice (some ⟨g, 0, none⟩) n n) n xs) : Row w g e xs := by
  rcases h.2 with ⟨h, _⟩ | ⟨g', cap, cur, hv, hb, hg, hnc, hcm, hs, ht⟩
  · cases h
  · cases hv
    have : cur = xs.toArray := by
      rw [← ht, List.take_of_length_le (by simp; omega)]
    unfold Row
    rw [hg, this]
theorem Row.reads {w : World} {g : Nat} {e : TypeId} {xs : List Value} (h : Row w g e xs) (o n : Nat) (hn : o + n ≤ xs.length) : Reads w (some ⟨g, o, none⟩) n ((xs.drop o).take n) := by
  refine ⟨by simp; omega, fun _ => ⟨g, o, rfl, h.lt, fun j hj => ?_⟩⟩
  rw [h.cell, List.getElem?_take, if_pos hj, List.getElem?_drop]

/-- a row that is filled place by place -/
def fill {α : Type} (xs : List α) (z : α) (m k : Nat) : List α := xs.take k ++ List.replicate (m - k) z
theorem fill_zero {α : Type} (xs : List α) (z : α) (m : Nat) : fill xs z m 0 = List.replicate m z := by simp [fill]
theorem fill_all {α : Type} (xs : List α) (z : α) (m : Nat) (h : xs.length = m) : fill xs z m m = xs := by simp [fill, ← h]
theorem fill_length {α : Type} (xs : List α) (z : α) (m k : Nat) (h : xs.length = m) (hk : k ≤ m) : (fill xs z m k).length = m := by simp [fill]; omega
theorem fill_set {α : Type} {xs : List α} {z x : α} {m k : Nat} (hk : k < m) (hx : xs[k]? = some x) : (fill xs z m k).set k x = fill xs z m (k + 1) := by
  have hl : k < xs.length := (List.getElem?_eq_some_iff.1 hx).1
  have hl2 : (xs.take k).length = k := by simp; omega
  unfold fill
  rw [List.set_append_right _ _ (by omega), hl2, Nat.sub_self, show m - k = (m - (k + 1)) + 1 from by omega, List.replicate_succ, List.set_cons_zero, take_next hx]
  simp
theorem fill_at {α : Type} (xs : List α) (z : α) (m k j : Nat) (h : xs.length = m) (hj : j < m) : ∃ y, (fill xs z m k)[j]? = some y := by
  have : j < (fill xs z m k).length := by simp [fill]; omega
  exact ⟨(fill xs z m k)[j], by simp⟩

theorem row_made {w : World} {g : Nat} {e : TypeId} {z : Value} {m : Nat} (h : Row w g e (madeCells z.cells (m * 1)).toList) (hz : z.cells = #[z]) : Row w g e (List.replicate m z) := by
  rw [hz, Nat.mul_one, toList_madeCells_one] at h
  exact h

/-- 'make([]T, l, c)' of elements of one cell -/
theorem wpList_make_row {P : Program} (w : World) {ops : Array Oper} {rest : List Oper} {o : Oper} {a : Act} {Q : Exit → Act → World → Prop}
    (hg : o.guard = none) (l c : Operand) (t : TypeId) (hop : o.op = Op.makeSlice t l c)
    (e : TypeId) (i : TypeInfo) (z : Value) (h1 : P.underlying t = some (.slice e)) (h2 : P.info? e = some i) (h3 : i.zero = some z) (h4 : i.size = 1) (hz : z.cells = #[z])
    (kl kc : IntKind) (L C : Int) (n m : Nat) (hl : a.eval l = .int kl L) (hc : a.eval c = .int kc C) (hL : L = (n : Int)) (hC : C = (m : Int)) (hnm : n ≤ m) (b2 : i.bytes * m ≤ 281474976710656) (b3 : m ≤ maxLen)
    (B : Nat) (w0 : World) (hb : Below B w0 w) (hB : B ≤ w.heap.size)
    (hK : ∀ w', Row w' w.heap.size e (List.replicate m z) → Below B w0 w' → wpList P ops Q rest (a.put o.dst (.slice (some ⟨w.heap.size, 0, none⟩) n m)) w') :
    wpList P ops Q (o :: rest) a w := by
  refine wpList_plain hg fun K hK' => ?_
  subst hL
  subst hC
  have b3' : m ≤ 9223372036854775807 := by simpa [maxLen] using b3
  have hb' : (i.bytes : Int) * (m : Int) ≤ 281474976710656 := by
    have h : ((i.bytes * m : Nat) : Int) ≤ 281474976710656 := by omega
    rwa [Int.natCast_mul] at h
  have hr := run_make (P := P) w t e i z h1 h2 h3 kl kc n m (by omega) (by omega) hb' (by omega)
  simp only [Int.toNat_natCast] at hr
  unfold Oper.wp
  simp [execOp, hop, hl, hc, hr, Result.andThen]
  refine hK' _ _ (hK _ ?_ (hb.alloc hB _))
  have h := heap_alloc_new w (.cells (madeCells z.cells (m * i.size)) e)
  unfold Row
  rw [h, h4, Nat.mul_one, hz]
  simp [← toList_madeCells_one]
/-- a row of the call's own, as append wants it -/
theorem own_row {w : World} {g : Nat} {e : TypeId} {xs : List Value} (h : Row w g e xs) (base n : Nat) (hb : base ≤ g) (hn : n ≤ xs.length) (hm : xs.length ≤ maxLen) : w.ownsRow base e 1 (.slice (some ⟨g, 0, none⟩) n xs.length) n (xs.take n) :=
  ⟨by simp; omega, .inr ⟨g, xs.length, xs.toArray, rfl, hb, h, hn, hm, by simp, by simp⟩⟩
theorem cell_add {w : World} {b o j : Nat} : w.cell? ((⟨b, o, none⟩ : Addr).add j) = w.cell? ⟨b, o + j, none⟩ := by
  unfold Addr.add; split <;> simp_all
/-- what 'copy' and 'append' ask of their source -/
theorem Reads.src {w : World} {a : Option Addr} {n : Nat} {xs : List Value} (h : Reads w a n xs) (hn : 0 < n) : ∃ ad, a = some ad ∧ ∀ j v, xs[j]? = some v → w.cell? (ad.add j) = some v := by
  obtain ⟨hl, h⟩ := h
  obtain ⟨b, o, rfl, _, hc⟩ := h hn
  refine ⟨_, rfl, fun j v hv => ?_⟩
  rw [cell_add, hc j (by rw [← hl]; exact (List.getElem?_eq_some_iff.1 hv).1), hv]
theorem b8_one (l : List UInt8) : ∀ v ∈ l.map B8, v.oneCell' = true := by
  intro v hv
  obtain ⟨x, _, rfl⟩ := List.mem_map.1 hv
  rfl

/-- only draws lie between two worlds -/
def Quiet (w w' : World) : Prop := ∃ m, w' = w.drewN m
theorem Quiet.refl (w : World) : Quiet w w := ⟨0, rfl⟩
theorem Quiet.drewN {w w' : World} (h : Quiet w w') (n : Nat) : Quiet w (w'.drewN n) := by
  obtain ⟨m, rfl⟩ := h
  exact ⟨m + n, by rw [World.drewN_drewN]⟩
theorem Quiet.trans {w w' w'' : World} (h : Quiet w w') (h' : Quiet w' w'') : Quiet w w'' := by
  obtain ⟨n, rfl⟩ := h'
  exact h.drewN n
theorem Quiet.below {w w' : World} (h : Quiet w w') (B : Nat) : Below B w w' := by
  obtain ⟨m, rfl⟩ := h
  exact below_drewN (Below.refl _ _) m
theorem Quiet.heap {w w' : World} (h : Quiet w w') : w'.heap = w.heap := by
  obtain ⟨m, rfl⟩ := h
  rfl
theorem Reads.quiet {w w' : World} {a : Option Addr} {n : Nat} {xs : List Value} (h : Reads w a n xs) (hq : Quiet w w') : Reads w' a n xs := h.keep (hq.below w.heap.size) (Nat.le_refl _)
theorem Reads.drewN {w : World} {a : Option Addr} {n : Nat} {xs : List Value} (h : Reads w a n xs) (m : Nat) : Reads (w.drewN m) a n xs := h.quiet ⟨m, rfl⟩

end Go.Proofs.YtchdeboialbdiaaDoor
/- Laws of memory that the seats want: copy out of a string, clear, an array within a block, bytes as a text. -/
namespace Go.Proofs.YtchdeboialbdiaaDoor
set_option linter.unusedVariables false
set_option linter.unusedSimpArgs false
open Go.RowKit
/-- the text that bytes are -/
def bstr (l : List UInt8) : ByteArray := ⟨l.toArray⟩
@[go_sem, simp] theorem bstr_size (l : List UInt8) : (bstr l).size = l.length := by simp [bstr, ByteArray.size]
@[go_sem, simp] theorem bstr_append (a b : List UInt8) : bstr a ++ bstr b = bstr (a ++ b) := by
  apply ByteArray.ext
  simp [bstr, ByteArray.data_append]
@[go_sem, simp] theorem bstr_extract (l : List UInt8) (i j : Nat) : (bstr l).extract i j = bstr ((l.drop i).take (j - i)) := by
  apply ByteArray.ext
  simp [bstr, ByteArray.data_extract, List.drop_take]
@[simp] theorem bstr_list (l : List UInt8) : (bstr l).data.toList = l := rfl
theorem bstr_of (s : ByteArray) : s = bstr s.data.toList := rfl
theorem bstr_inj {a b : List UInt8} (h : bstr a = bstr b) : a = b := by
  have := congrArg (fun s : ByteArray => s.data.toList) h
  simpa using this
theorem bstr_empty : bstr [] = ByteArray.empty := rfl
theorem cells_list (w : World) (g off : Nat) (cur : Array Value) (t : TypeId) (fr : Nat × Nat) (hg : w.heap[g]? = some (.cells cur t fr)) (j : Nat) : w.cell? ((⟨g, off, none⟩ : Addr).add j) = cur[off + j]? := by
  rw [cell_add, cell_of_row w g (off + j) cur t fr hg]
theorem run_loadCells_part {P : Program} (w : World) (g off : Nat) (cur : Array Value) (t : TypeId) (fr : Nat × Nat) (hg : w.heap[g]? = some (.cells cur t fr)) (cs : List Value) (hcs : ∀ j v, cs[j]? = some v → cur[off + j]? = some v) :
    (loadCells ⟨g, off, none⟩ cs.length).run P w = .ok cs.toArray w :=
  run_loadCells_list (P := P) w ⟨g, off, none⟩ cs (fun j v hv => by rw [cells_list w g off cur t fr hg]; exact hcs j v hv)
/-- an array within a block, read -/
theorem run_loadAt_part {P : Program} (w : World) (g off : Nat) (ty e n : Nat) (cur : Array Value) (t : TypeId) (fr : Nat × Nat) (hg : w.heap[g]? = some (.cells cur t fr)) (hu : P.underlying ty = some (.array n e)) (hi : (P.info? ty).map (·.size) = some n)
    (cs : List Value) (hn : cs.length = n) (hcs : ∀ j v, cs[j]? = some v → cur[off + j]? = some v) :
    (Instr.loadAt ty (.pointer (some ⟨g, off, none⟩))).run P w = .ok (.agg cs.toArray) w := by
  have hl := run_loadCells_part (P := P) w g off cur t fr hg cs hcs
  rw [hn] at hl
  cases hq : P.info? ty with
  | none => simp [hq] at hi
  | some i =>
    have hs : i.size = n := by simpa [hq] using hi
    have hagg : (isAgg ty).run P w = .ok true w := by
      unfold isAgg
      rw [Sem.run_bind, run_underlying hu w]
      rfl
    simp [Instr.loadAt, Instr.sureAddr, loadVar, Sem.run_bind, hagg, sizeOf, typeInfo, hq, hs, hl]
/-- bytes as a text -/
theorem run_bytes_str {P : Program} (w : World) (src dst e : TypeId) (hs : P.underlying src = some (.slice e)) (he : P.underlying e = some (.int .u8)) (hd : P.underlying dst = some .string)
    (a : Option Addr) (n c : Nat) (l : List UInt8) (ha : Reads w a n (l.map B8)) : (convert src dst (.slice a n c)).run P w = .ok (.string (bstr l)) w := by
  rw [run_convert_bytes_string w src dst e a n c hs he hd]
  have hl := ha.len
  rw [List.length_map] at hl
  have hfold : ∀ (l : List UInt8) (s : ByteArray), (l.map fun x => (x.toNat : Int)).foldl (fun (r : ByteArray) (n : Int) => r.push (UInt8.ofNat n.toNat)) s = ⟨(s.data.toList ++ l).toArray⟩ := by
    intro l
    induction l with
    | nil => intro s; simp
    | cons x l ih =>
      intro s
      rw [List.map_cons, List.foldl_cons, ih]
      simp
  cases a with
  | none =>
    have h0 : n = 0 := by
      rcases Nat.eq_zero_or_pos n with h | h
      · exact h
      · obtain ⟨b, o, e, _⟩ := ha.2 h
        cases e
    obtain rfl : l = [] := List.eq_nil_of_length_eq_zero (by omega)
    simp [Conv.bytesToString, bstr_empty]
  | some ad =>
    have hc : (loadCells ad n).run P w = .ok ((l.map fun x => (x.toNat : Int)).map (Value.int .u8)).toArray w := by
      rw [List.map_map, ← hl]
      have h1 := run_loadCells_list (P := P) w ad (l.map B8) (fun j v hv => by
        have hj : 0 < n := by
          have := (List.getElem?_eq_some_iff.1 hv).1
          rw [List.length_map] at this
          omega
        obtain ⟨ad', e, h⟩ := ha.src hj
        cases e
        exact h j v hv)
      rw [List.length_map] at h1
      exact h1
    rw [run_bytesToString w ad n c _ hc, hfold]
    rfl
theorem grownBy_refl (w : World) (r : Option Nat) : w.grownBy w r := ⟨rfl, rfl, rfl, Nat.le_refl _, fun _ _ _ => rfl⟩
theorem grownBy_trans {w w1 w2 : World} {r : Option Nat} (h : w.grownBy w1 r) (k : w1.grownBy w2 r) : w.grownBy w2 r :=
  ⟨k.os.trans h.os, k.tape.trans h.tape, k.output.trans h.output, Nat.le_trans h.size k.size, fun i hi hn => (k.block i (Nat.lt_of_lt_of_le hi h.size) hn).trans (h.block i hi hn)⟩
theorem grownBy_below {w w' : World} (h : Below w.heap.size w w') (r : Option Nat) : w.grownBy w' r := ⟨h.os, h.tape, h.output, h.size, fun k hk _ => h.block k hk⟩
theorem grownBy_quiet {w w' : World} (h : Quiet w w') (r : Option Nat) : w.grownBy w' r := grownBy_below (h.below _) r
theorem grownBy_setRow (w : World) (g : Nat) (cs : Array Value) : w.grownBy (w.setRow g cs) (some g) :=
  ⟨rfl, rfl, rfl, by simp [World.setRow], fun k _ hn => setRow_other w g k cs (fun e => hn (by rw [e]))⟩
theorem grownBy_setCell (w : World) (g k : Nat) (v : Value) : w.grownBy (w.setCell ⟨g, k, none⟩ v) (some g) :=
  ⟨rfl, rfl, rfl, by simp, fun i _ hn => Below.heap_setCell w ⟨g, k, none⟩ v i (fun e => hn (by rw [e]))⟩
theorem below_grownBy {w w' : World} {g B : Nat} (h : w.grownBy w' (some g)) (hB : B ≤ g) (hB2 : B ≤ w.heap.size) : Below B w w' :=
  ⟨h.os, h.tape, h.output, h.size, fun k hk => h.block k (by omega) (fun e => by cases e; omega)⟩
theorem Row.apart {w w' : World} {g k : Nat} {e : TypeId} {xs : List Value} (h : Row w k e xs) (hg : w.grownBy w' (some g)) (hk : k ≠ g) : Row w' k e xs := by
  have hl := h.lt
  unfold Row at h ⊢
  rw [hg.block k hl (fun e => hk (by cases e; rfl))]
  exact h
theorem Reads.apart {w w' : World} {g : Nat} {a : Option Addr} {n : Nat} {xs : List Value} (h : Reads w a n xs) (hg : w.grownBy w' (some g)) (hk : ∀ ad, a = some ad → ad.block ≠ g) : Reads w' a n xs := by
  obtain ⟨hl, h⟩ := h
  refine ⟨hl, fun hn => ?_⟩
  obtain ⟨b, off, ha, hlt, hc⟩ := h hn
  refine ⟨b, off, ha, Nat.lt_of_lt_of_le hlt hg.size, fun j hj => ?_⟩
  rw [World.cell?_of_block (w := w) (hg.block b hlt (fun e => hk _ ha (by cases e; rfl)))]
  exact hc j hj
/-- one operation, its run known -/
theorem wpList_run {P : Program} {w : World} {ops : Array Oper} {rest : List Oper} {o : Oper} {a : Act} {Q : Exit → Act → World → Prop} (hgd : o.guard = none) (v : Value) (w' : World) (hrun : (execOp a.eval o).run P w = .ok (.value v) w')
    (h : wpList P ops Q rest (a.put o.dst v) w') : wpList P ops Q (o :: rest) a w :=
  wpList_plain hgd fun K hK => by
    unfold Oper.wp
    rw [hrun]
    exact hK _ _ h
theorem Reads.sub {w : World} {b o n : Nat} {xs : List Value} (h : Reads w (some ⟨b, o, none⟩) n xs) (f k : Nat) (hk : f + k ≤ n) : Reads w (some ⟨b, o + f, none⟩) k ((xs.drop f).take k) := by
  obtain ⟨hl, h⟩ := h
  refine ⟨by rw [List.length_take, List.length_drop]; omega, fun hk0 => ?_⟩
  obtain ⟨b', o', e, hb, hc⟩ := h (by omega)
  cases e
  refine ⟨b, o + f, rfl, hb, fun j hj => ?_⟩
  rw [Nat.add_assoc, hc (f + j) (by omega), List.getElem?_take, if_pos hj, List.getElem?_drop]
theorem sub_bytes {w : World} {b o n : Nat} {l : List UInt8} (h : Reads w (some ⟨b, o, none⟩) n (l.map B8)) (f k : Nat) (hk : f + k ≤ n) : Reads w (some ⟨b, o + f, none⟩) k (((l.drop f).take k).map B8) := by
  have := h.sub f k hk
  rwa [← List.map_drop, ← List.map_take] at this
/-- 'copy' within blocks known whole -/
theorem wpList_copy_grown {P : Program} {w : World} {ops : Array Oper} {rest : List Oper} {o : Oper} {a : Act} {Q : Exit → Act → World → Prop} (hgd : o.guard = none) (d s : Operand) (dT sT : TypeId)
    (ho : o.op = .call { callee := .builtin .copy, args := #[d, s], argTypes := #[dT, sT] }) (elem : TypeId) (hu : P.underlying dT = some (.slice elem)) (hsz : (P.info? elem).map (·.size) = some 1)
    (dp sp : Option Addr) (dLen dCap sLen sCap : Nat) (hd : a.eval d = .slice dp dLen dCap) (hs : a.eval s = .slice sp sLen sCap)
    (g off : Nat) (cur : List Value) (t : TypeId) (hg : w.heap[g]? = some (.cells cur.toArray t (0, 0))) (cs : List Value) (hn : cs.length = Nat.min sLen dLen)
    (hpos : 0 < cs.length → dp = some ⟨g, off, none⟩ ∧ ∃ ad, sp = some ad ∧ ∀ j v, cs[j]? = some v → w.cell? (ad.add j) = some v)
    (hfit : off + cs.length ≤ cur.length) (h1 : ∀ v ∈ cs, v.oneCell' = true)
    (h : ∀ w', Hid (w'.heap[g]? = some (.cells (splice cur off cs).toArray t (0, 0))) → w.grownBy w' (some g) → wpList P ops Q rest (a.put o.dst (goInt cs.length)) w') :
    wpList P ops Q (o :: rest) a w := by
  by_cases h0 : cs.length = 0
  · obtain rfl : cs = [] := List.eq_nil_of_length_eq_zero h0
    refine wpList_copy_nothing hgd d s dT sT ho elem hu hsz dp sp dLen dCap sLen sCap hd hs (by simpa using hn.symm) ?_
    exact h w (show _ = _ by simpa [splice] using hg) (grownBy_refl _ _)
  · obtain ⟨rfl, ad, rfl, hsrc⟩ := hpos (by omega)
    refine wpList_copy_own hgd d s dT sT ho elem hu hsz g off dLen dCap ad sLen sCap hd hs cur.toArray t hg cs hn hsrc (by simpa using hfit) h1 ?_
    exact h _ (show _ = _ by simpa [splice] using setRow_heap w g _ _ t _ hg) (grownBy_setRow _ _ _)
/-- 'copy' out of a text into a block known whole -/
theorem run_copy_str {P : Program} (w : World) (dT sT ty elem : TypeId) (dp : Option Addr) (g o dLen dCap : Nat) (s cs : List UInt8) (cur : List Value) (t : TypeId)
    (hu : P.underlying dT = some (.slice elem)) (hs : (P.info? elem).map (·.size) = some 1) (hg : w.heap[g]? = some (.cells cur.toArray t (0, 0))) (hcs : cs = s.take dLen)
    (hpos : 0 < cs.length → dp = some ⟨g, o, none⟩) (hfit : o + cs.length ≤ cur.length) :
    (Builtin.copy_ #[dT, sT] ty #[.slice dp dLen dCap, .string (bstr s)]).run P w = .ok (goInt cs.length) (w.setRow g (splice cur o (cs.map B8)).toArray) := by
  have hn : Nat.min s.length dLen = cs.length := by
    rw [hcs, List.length_take, Nat.min_comm]
  have hfc : ((((bstr s).extract 0 cs.length).data).map fun b => Value.int .u8 (b.toNat : Int)).toList = cs.map B8 := by
    rw [bstr_extract]
    simp [bstr, hcs]
  cases hq : P.info? elem with
  | none => simp [hq] at hs
  | some i =>
    have hi : i.size = 1 := by simpa [hq] using hs
    rcases Nat.eq_zero_or_pos cs.length with h0 | h0
    · obtain rfl : cs = [] := List.eq_nil_of_length_eq_zero h0
      have hset : w.setRow g (splice cur o ([] : List Value)).toArray = w := by
        have : splice cur o ([] : List Value) = cur := by simp [splice]
        rw [this, setRow_self w g _ t (0, 0) hg]
      rw [List.length_nil] at hn
      cases dp <;> simp [Builtin.copy_, run_underlying hu, Builtin.lenOf, Builtin.firstCells, sizeOf, typeInfo, hq, hi, hn, hset, storeCells]
    · obtain rfl := hpos h0
      have hst := run_storeCells_at P g o t (cs.map B8) 0 cur.toArray w hg (by simpa using hfit) (b8_one cs)
      simp only [Nat.add_zero] at hst
      simp [Builtin.copy_, run_underlying hu, Builtin.lenOf, Builtin.firstCells, sizeOf, typeInfo, hq, hi, hn]
      simp at hfc
      rw [hfc, hst]
      simp [splice]
theorem wpList_copy_str {P : Program} {w : World} {ops : Array Oper} {rest : List Oper} {o : Oper} {a : Act} {Q : Exit → Act → World → Prop} (hgd : o.guard = none) (d s : Operand) (dT sT : TypeId)
    (ho : o.op = .call { callee := .builtin .copy, args := #[d, s], argTypes := #[dT, sT] }) (elem : TypeId) (hu : P.underlying dT = some (.slice elem)) (hsz : (P.info? elem).map (·.size) = some 1)
    (dp : Option Addr) (dLen dCap : Nat) (str : List UInt8) (hd : a.eval d = .slice dp dLen dCap) (hs : a.eval s = .string (bstr str))
    (g off : Nat) (cur : List Value) (t : TypeId) (hg : w.heap[g]? = some (.cells cur.toArray t (0, 0))) (cs : List UInt8) (hcs : cs = str.take dLen)
    (hpos : 0 < cs.length → dp = some ⟨g, off, none⟩) (hfit : off + cs.length ≤ cur.length)
    (h : ∀ w', Hid (w'.heap[g]? = some (.cells (splice cur off (cs.map B8)).toArray t (0, 0))) → w.grownBy w' (some g) → wpList P ops Q rest (a.put o.dst (goInt cs.length)) w') :
    wpList P ops Q (o :: rest) a w := by
  refine wpList_plain hgd fun K hK => ?_
  have hrun := run_copy_str (P := P) w dT sT o.type elem dp g off dLen dCap str cs cur t hu hsz hg hcs hpos hfit
  unfold Oper.wp
  simp [execOp, ho, resolve, invoke, builtin, hd, hs, hrun, Result.andThen]
  exact hK _ _ (h _ (show _ = _ by exact setRow_heap w g _ _ t _ hg) (grownBy_setRow _ _ _))
/-- the same as one step of a region that draws its order -/
theorem step_copy_str {P : Program} {ops : Array Oper} {o : Oper} {a : Act} {w : World} {K : Act → World → Prop} {Q : Exit → Act → World → Prop} {E : Prop} (hgd : o.guard = none) (d s : Operand) (dT sT : TypeId)
    (ho : o.op = .call { callee := .builtin .copy, args := #[d, s], argTypes := #[dT, sT] }) (elem : TypeId) (hu : P.underlying dT = some (.slice elem)) (hsz : (P.info? elem).map (·.size) = some 1)
    (dp : Option Addr) (dLen dCap : Nat) (str : List UInt8) (hd : a.eval d = .slice dp dLen dCap) (hs : a.eval s = .string (bstr str))
    (g off : Nat) (cur : List Value) (t : TypeId) (hg : w.heap[g]? = some (.cells cur.toArray t (0, 0))) (cs : List UInt8) (hcs : cs = str.take dLen)
    (hpos : 0 < cs.length → dp = some ⟨g, off, none⟩) (hfit : off + cs.length ≤ cur.length)
    (h : ∀ w', Hid (w'.heap[g]? = some (.cells (splice cur off (cs.map B8)).toArray t (0, 0))) → w.grownBy w' (some g) → K (a.put o.dst (goInt cs.length)) w') :
    if Region.wanted o (yielded ops a.tmps) = true then Oper.wp P o a w K Q else E := by
  have hw : Region.wanted o (yielded ops a.tmps) = true := by simp [Region.wanted, hgd]
  rw [if_pos hw]
  have hrun := run_copy_str (P := P) w dT sT o.type elem dp g off dLen dCap str cs cur t hu hsz hg hcs hpos hfit
  unfold Oper.wp
  simp [execOp, ho, resolve, invoke, builtin, hd, hs, hrun, Result.andThen]
  exact h _ (show _ = _ by exact setRow_heap w g _ _ t _ hg) (grownBy_setRow _ _ _)
/-- 'clear' on a part of a block known whole -/
theorem run_clear_row {P : Program} (w : World) (T e ty : TypeId) (sp : Option Addr) (g o n c : Nat) (cur : List Value) (t : TypeId) (z : Value) (hT : P.underlying T = some (.slice e)) (hz : ∀ w, (zeroValue e).run P w = .ok z w) (hzc : z.cells = #[z]) (h1 : z.oneCell' = true)
    (hg : w.heap[g]? = some (.cells cur.toArray t (0, 0))) (hpos : 0 < n → sp = some ⟨g, o, none⟩) (hfit : o + n ≤ cur.length) :
    (Builtin.clear_ #[T] ty #[.slice sp n c]).run P w = .ok (.tuple #[]) (w.setRow g (splice cur o (List.replicate n z)).toArray) := by
  rcases Nat.eq_zero_or_pos n with h0 | h0
  · subst h0
    have : splice cur o (List.replicate 0 z) = cur := by simp [splice]
    rw [this, setRow_self w g _ t (0, 0) hg]
    cases sp <;> simp [Builtin.clear_, run_underlying hT]
  · obtain rfl := hpos h0
    have hzl : (Builtin.zeroCells z.cells n).toList = List.replicate n z := by
      rw [hzc]
      simp [Builtin.zeroCells]
      apply List.ext_getElem
      · simp
      · intro i h1 h2
        simp [Nat.mod_one]
    have hst := run_storeCells_at P g o t (List.replicate n z) 0 cur.toArray w hg (by simpa using hfit) (by intro v hv; rw [List.eq_of_mem_replicate hv]; exact h1)
    simp only [Nat.add_zero] at hst
    obtain ⟨m, rfl⟩ : ∃ m, n = m + 1 := ⟨n - 1, by omega⟩
    simp [Builtin.clear_, run_underlying hT, hz, hzl, hst, splice]
theorem wpList_clear_splice {P : Program} {w : World} {ops : Array Oper} {rest : List Oper} {o : Oper} {a : Act} {Q : Exit → Act → World → Prop} (hgd : o.guard = none) (x : Operand) (T : TypeId)
    (ho : o.op = .call { callee := .builtin .clear, args := #[x], argTypes := #[T] }) (e : TypeId) (z : Value) (hT : P.underlying T = some (.slice e)) (hz : ∀ w, (zeroValue e).run P w = .ok z w) (hzc : z.cells = #[z]) (h1 : z.oneCell' = true)
    (sp : Option Addr) (n c : Nat) (hx : a.eval x = .slice sp n c) (g off : Nat) (cur : List Value) (t : TypeId) (hg : w.heap[g]? = some (.cells cur.toArray t (0, 0)))
    (hpos : 0 < n → sp = some ⟨g, off, none⟩) (hfit : off + n ≤ cur.length)
    (h : ∀ w', Hid (w'.heap[g]? = some (.cells (splice cur off (List.replicate n z)).toArray t (0, 0))) → w.grownBy w' (some g) → wpList P ops Q rest (a.put o.dst (.tuple #[])) w') :
    wpList P ops Q (o :: rest) a w := by
  refine wpList_plain hgd fun K hK => ?_
  have hrun := run_clear_row (P := P) w T e o.type sp g off n c cur t z hT hz hzc h1 hg hpos hfit
  unfold Oper.wp
  simp [execOp, ho, resolve, invoke, builtin, hx, hrun, Result.andThen]
  exact hK _ _ (h _ (show _ = _ by exact setRow_heap w g _ _ t _ hg) (grownBy_setRow _ _ _))
end Go.Proofs.YtchdeboialbdiaaDoor
/- Laws on rows of structs of the call's own, whatever the program: append, cells, what stays. -/
namespace Go.Proofs.YtchdeboialbdiaaDoor
set_option linter.unusedVariables false
set_option linter.unusedSimpArgs false
open Go.RowKit
open Go.Lib
theorem alloc_last (w : World) (o : Obj) : (w.alloc o).heap[w.heap.size]? = some o := by
  show (w.heap.push o)[w.heap.size]? = _
  simp
/-- elements, or none, put behind a row of the call's own -/
theorem appSlice {T e : TypeId} {w : World} {ops : Array Oper} {rest : List Oper} {o : Oper} {a : Act} {Q : Exit → Act → World → Prop} (hgd : o.guard = none) (sl x : Operand) (ho : o.op = .call { callee := .builtin .append, args := #[sl, x], argTypes := #[T, T] })
    (hT : Tryd.prog.underlying T = some (.slice e)) (z : Value) (size bytes : Nat) (hinfo : (Tryd.prog.info? e).map (fun i => (i.zero, i.size, i.bytes)) = some (some z, size, bytes)) (hz : z.cells.size = size) (hs0 : 0 < size) (hby : bytes ≤ 4096)
    (B : Nat) (v : Value) (n : Nat) (xs : List Value) (hs : a.eval sl = v) (hown : w.ownsRow B e size v n xs) (ad : Option Addr) (m c : Nat) (news : List Value) (hx : a.eval x = .slice ad m c) (hnl : news.length = m * size)
    (hsrc : 0 < m → ∃ b off, ad = some ⟨b, off, none⟩ ∧ ∀ j u, news[j]? = some u → w.cell? ⟨b, off + j, none⟩ = some u) (hone : ∀ u ∈ news, u.oneCell' = true) (hl : n + m ≤ 17179869184) (hB : B ≤ w.heap.size)
    (h : ∀ v' w', w'.ownsRow B e size v' (n + m) (xs ++ news) → w.grownBy w' v.ownBlock → wpList Tryd.prog ops Q rest (a.put o.dst v') w') : wpList Tryd.prog ops Q (o :: rest) a w := by
  obtain ⟨i0, hi, hz0, hz1, hz2⟩ := info_parts hinfo
  have hb : (n + m) * bytes ≤ 140737488355328 := by
    calc (n + m) * bytes ≤ (n + m) * 4096 := Nat.mul_le_mul (Nat.le_refl _) hby
      _ ≤ 140737488355328 := by omega
  by_cases hm : m = 0
  · subst hm
    obtain rfl : news = [] := List.eq_nil_of_length_eq_zero (by simpa using hnl)
    rcases hown.2 with ⟨rfl, h0⟩ | ⟨g, cap, cur, rfl, hb, hg, hnc, hcm, hs', ht⟩
    · have hrun : (Builtin.append_ #[T, T] o.type #[.slice none 0 0, .slice ad 0 c]).run Tryd.prog w = .ok (.slice none 0 0) w := by
        cases ad <;> simp [Builtin.append_, run_underlying hT, sizeOf, typeInfo, hi, Builtin.lenOf, Builtin.firstCells, loadCells, loadCellsFrom, storeCells]
      refine Lib.wpList_append_run w hgd sl x T T ho _ _ hs hx _ _ hrun (h _ w ?_ ⟨rfl, rfl, rfl, Nat.le_refl _, fun _ _ _ => rfl⟩)
      rw [List.append_nil]
      exact hown
    · have hrun : (Builtin.append_ #[T, T] o.type #[.slice (some ⟨g, 0, none⟩) n cap, .slice ad 0 c]).run Tryd.prog w = .ok (.slice (some ⟨g, 0, none⟩) n cap) w := by
        cases ad <;> simp [Builtin.append_, run_underlying hT, sizeOf, typeInfo, hi, Builtin.lenOf, Builtin.firstCells, loadCells, loadCellsFrom, storeCells, hnc]
      refine Lib.wpList_append_run w hgd sl x T T ho _ _ hs hx _ _ hrun (h _ w ?_ ⟨rfl, rfl, rfl, Nat.le_refl _, fun _ _ _ => rfl⟩)
      rw [List.append_nil]
      exact hown
  · obtain ⟨b, off, rfl, hc⟩ := hsrc (by omega)
    refine wpList_append_own w hgd sl x T ho B e i0 z size bytes hT hi hz0 hz1 hz2 hz hs0 v n xs hs hown ⟨b, off, none⟩ m c news hx hnl (fun j u hj => ?_) hone (by unfold maxLen; omega) hb hB (fun v' w' r1 r2 _ => h v' w' r1 r2)
    rw [cell_add]
    exact hc j u hj
/-- a cell of an element of a flat list -/
theorem flat_at {α : Type} {f : α → List Value} {c : Nat} (hf : ∀ x, (f x).length = c) : ∀ {L : List α} {i : Nat} {x : α}, L[i]? = some x → ∀ {j : Nat} {v : Value}, (f x)[j]? = some v → (L.flatMap f)[i * c + j]? = some v
  | [], i, x, h, _, _, _ => by cases h
  | t :: L, 0, x, h, j, v, hj => by
    cases h
    rw [List.flatMap_cons, Nat.zero_mul, Nat.zero_add, List.getElem?_append_left (List.getElem?_eq_some_iff.1 hj).1]
    exact hj
  | t :: L, i + 1, x, h, j, v, hj => by
    rw [List.flatMap_cons, List.getElem?_append_right (by rw [hf, Nat.succ_mul]; omega), hf, show (i + 1) * c + j - c = i * c + j by rw [Nat.succ_mul]; omega]
    exact flat_at hf (by simpa using h) hj
theorem own_below {B : Nat} {e : TypeId} {size : Nat} {v : Value} {n : Nat} {xs : List Value} {w w' : World} (h : w.ownsRow B e size v n xs) (b : Below w.heap.size w w') : w'.ownsRow B e size v n xs := by
  refine ⟨h.1, ?_⟩
  rcases h.2 with hn | ⟨g, cap, cur, rfl, hb, hgg, rest⟩
  · exact .inl hn
  · exact .inr ⟨g, cap, cur, rfl, hb, (b.block g (Array.getElem?_eq_some_iff.1 hgg).1).trans hgg, rest⟩
/-- one struct, just built, put behind a row of the call's own -/
theorem appNew {T e : TypeId} {ops : Array Oper} {rest : List Oper} {o : Oper} {a : Act} {w : World} {Q : Exit → Act → World → Prop} (hgd : o.guard = none) (sl x : Operand) (ho : o.op = .call { callee := .builtin .append, args := #[sl, x], argTypes := #[T, T] })
    (hT : Tryd.prog.underlying T = some (.slice e)) (z : Value) (size bytes : Nat) (hinfo : (Tryd.prog.info? e).map (fun i => (i.zero, i.size, i.bytes)) = some (some z, size, bytes)) (hz : z.cells.size = size) (hs0 : 0 < size) (hby : bytes ≤ 4096)
    (B B0 : Nat) (w0 wp : World) (v : Value) (n : Nat) (xs : List Value) (cs : List Value) (hcs : cs.length = size) (hone : ∀ u ∈ cs, u.oneCell' = true) (hs : a.eval sl = v) (hown : wp.ownsRow B e size v n xs) (hx : a.eval x = .slice (some ⟨wp.heap.size, 0, none⟩) 1 1) (hw : w = wp.alloc (.cells cs.toArray e)) (hl : n ≤ 1073741824) (hb : Below B0 w0 wp) (hB0 : B0 ≤ B) (hB : B ≤ wp.heap.size)
    (h : ∀ v' w', w'.ownsRow B e size v' (n + 1) (xs ++ cs) → Below B0 w0 w' → wp.heap.size ≤ w'.heap.size → wpList Tryd.prog ops Q rest (a.put o.dst v') w') : wpList Tryd.prog ops Q (o :: rest) a w := by
  subst hw
  have hsz : (wp.alloc (.cells cs.toArray e)).heap.size = wp.heap.size + 1 := by simp
  refine appSlice hgd sl x ho hT z size bytes hinfo hz hs0 hby B v n xs hs (World.ownsRow.alloc hown _) (some ⟨wp.heap.size, 0, none⟩) 1 1 cs hx (by rw [hcs, Nat.one_mul]) (fun _ => ⟨wp.heap.size, 0, rfl, fun j u hj => ?_⟩) hone (by omega) (by omega) ?_
  · have hr : Row (wp.alloc (.cells cs.toArray e)) wp.heap.size e cs := alloc_last _ _
    have := Row.cell hr j
    rw [hj] at this
    rw [Nat.zero_add]
    exact this
  · intro v' w' h1 h2
    have hlt : ∀ k, v.ownBlock = some k → B ≤ k := fun k hk => (World.ownsRow.lt hown k hk).1
    exact h v' w' h1 ((hb.alloc (Nat.le_trans hB0 hB) _).grown h2 (by omega) (fun k hk => Nat.le_trans hB0 (hlt k hk))) (by have := h2.size; omega)
theorem slice_own {w : World} {B : Nat} {e : TypeId} {size : Nat} {v : Value} {n : Nat} {xs : List Value} (h : w.ownsRow B e size v n xs) : ∃ a c, v = .slice a n c := by
  rcases h.2 with ⟨rfl, rfl⟩ | ⟨g, cap, cur, rfl, _⟩
  · exact ⟨none, 0, rfl⟩
  · exact ⟨_, cap, rfl⟩
theorem own_cell {w : World} {B : Nat} {e : TypeId} {size : Nat} {a : Option Addr} {n c : Nat} {xs : List Value} (h : w.ownsRow B e size (.slice a n c) n xs) (hn : 0 < n) : ∃ g, a = some ⟨g, 0, none⟩ ∧ g < w.heap.size ∧ ∀ j v, xs[j]? = some v → w.cell? ⟨g, j, none⟩ = some v := by
  rcases h.2 with ⟨h1, h2⟩ | ⟨g, cap, cur, hv, hb, hg, _⟩
  · omega
  · cases hv
    refine ⟨g, rfl, (Array.getElem?_eq_some_iff.1 hg).1, fun j v hj => ?_⟩
    rw [h.cellAt j (by have := (List.getElem?_eq_some_iff.1 hj).1; rw [h.1] at this; exact this), hj]
theorem new_cells (w : World) (cs : List Value) (t : TypeId) : ∀ j u, cs[j]? = some u → (w.alloc (.cells cs.toArray t)).cell? ((⟨w.heap.size, 0, none⟩ : Addr).add j) = some u := by
  intro j u hj
  have hr : Row (w.alloc (.cells cs.toArray t)) w.heap.size t cs := alloc_last _ _
  have := Row.cell hr j
  rw [hj] at this
  rw [cell_add, Nat.zero_add]
  exact this
theorem prefix_take7 {α : Type} {a b : List α} {n : Nat} (h : a <+: b) (hn : a.length = n) : b.take n = a := by
  obtain ⟨r, rfl⟩ := h
  rw [← hn]; exact List.take_left
theorem ret_true {P : Prop} [Decidable P] (h : P) : Ending.returned (.bool true) = Ending.returned (.bool (decide P)) := by rw [decide_eq_true h]
theorem ret_false {P : Prop} [Decidable P] (h : ¬ P) : Ending.returned (.bool false) = Ending.returned (.bool (decide P)) := by rw [decide_eq_false h]
theorem ret_bool {b : Bool} {P : Prop} [Decidable P] (h : b = true ↔ P) : Ending.returned (.bool b) = Ending.returned (.bool (decide P)) := by
  congr 2
  cases b
  · simpa using h
  · simpa using h
theorem ret_int {k : IntKind} {a b : Int} (h : a = b) : Ending.returned (.int k a) = Ending.returned (.int k b) := by rw [h]
end Go.Proofs.YtchdeboialbdiaaDoor
