/- Slices that are read, in plain words: what every walk of this seat uses. -/
import Derived.Test.YtnbihjocdlpplaaDoorProg
import Derived.WalkKit
import Derived.WalkSpells
import Derived.WalkLawsBesides
import Derived.Lib.Hide
import Derived.Outline
import Derived.Handy
import Derived.BigQuiet
import Derived.Deep.QuietTactic
import Derived.Laws.CopyOwn
import Derived.Laws.BitsAllLaws
namespace Go.Proofs.YtnbihjocdlpplaaDoor
set_option linter.unusedVariables false
set_option linter.unusedSimpArgs false
open Go.RowKit
theorem Tryd.size1U8 : (Tryd.prog.info? 5).map (·.size) = some 1 := by kernel_rfl
theorem Tryd.infoU8 : (Tryd.prog.info? 5).map (fun i => (i.zero, i.size, i.bytes)) = some (some (.int .u8 0), 1, 1) := by kernel_rfl

/-- The slice at a of n elements of one cell each reads as xs. -/
def Reads (w : World) (a : Option Addr) (n : Nat) (xs : List Value) : Prop :=
  xs.length = n ∧ (0 < n → ∃ b off, a = some ⟨b, off, none⟩ ∧ b < w.heap.size ∧ ∀ j, j < n → w.cell? ⟨b, off + j, none⟩ = xs[j]?)

theorem Reads.len {w : World} {a : Option Addr} {n : Nat} {xs : List Value} (h : Reads w a n xs) : xs.length = n := h.1

theorem Reads.at {w : World} {a : Option Addr} {n : Nat} {xs : List Value} (h : Reads w a n xs) {k : Nat} (hk : k < n) :
    ∃ b off x, a = some ⟨b, off, none⟩ ∧ b < w.heap.size ∧ xs[k]? = some x ∧ w.cell? ⟨b, off + k, none⟩ = some x := by
  obtain ⟨hl, h⟩ := h
  obtain ⟨b, off, ha, hb, hc⟩ := h (by omega)
  exact ⟨b, off, xs[k], ha, hb, by simp, by rw [hc k hk]; simp⟩

theorem Reads.keep {B : Nat} {w w' : World} {a : Option Addr} {n : Nat} {xs : List Value} (h : Reads w a n xs) (hb : Below B w w') (hB : w.heap.size ≤ B) : Reads w' a n xs := by
  obtain ⟨hl, h⟩ := h
  refine ⟨hl, fun hn => ?_⟩
  obtain ⟨b, off, ha, hlt, hc⟩ := h hn
  exact ⟨b, off, ha, Nat.lt_of_lt_of_le hlt hb.size, fun j hj => by rw [hb.cell (p := ⟨b, off + j, none⟩) (Nat.lt_of_lt_of_le hlt hB)]; exact hc j hj⟩

theorem Reads.nil (w : World) (a : Option Addr) : Reads w a 0 [] := ⟨rfl, fun h => absurd h (by omega)⟩

/-- a row of the call's own, read -/
theorem reads_of_own {w : World} {base : Nat} {e : TypeId} {v : Value} {n : Nat} {xs : List Value} (h : w.ownsRow base e 1 v n xs) :
    ∃ a c, v = .slice a n c ∧ Reads w a n xs ∧ n ≤ c ∧ c ≤ maxLen := by
  have hl := h.1
  rcases h.2 with ⟨rfl, rfl⟩ | ⟨g, cap, cur, rfl, hb, hg, hnc, hcm, hs, ht⟩
  · exact ⟨none, 0, rfl, ⟨by simpa using hl, fun h => absurd h (by omega)⟩, Nat.le_refl _, Nat.zero_le _⟩
  · refine ⟨_, cap, rfl, ⟨by simpa using hl, fun _ => ⟨g, 0, rfl, (Array.getElem?_eq_some_iff.1 hg).1, fun j hj => ?_⟩⟩, hnc, hcm⟩
    rw [Nat.zero_add]
    exact h.cellAt j (by omega)

/-- a byte -/
abbrev B8 (x : UInt8) : Value := .int .u8 (x.toNat : Int)
theorem b8_at {l : List UInt8} {k : Nat} {x : Value} (h : (l.map B8)[k]? = some x) : ∃ y, x = B8 y ∧ l[k]? = some y := by
  rw [List.getElem?_map] at h
  cases hy : l[k]? with
  | none => rw [hy] at h; simp at h
  | some y => rw [hy] at h; simp at h; exact ⟨y, h.symm, rfl⟩
theorem b8_lt (x : UInt8) : (x.toNat : Int) < 256 := by have := x.toNat_lt; omega

/-- a byte of a slice of bytes, at a place in it -/
theorem Reads.byte {w : World} {a : Option Addr} {n : Nat} {l : List UInt8} (h : Reads w a n (l.map B8)) {k : Nat} (hk : k < n) :
    ∃ b off x, a = some ⟨b, off, none⟩ ∧ b < w.heap.size ∧ l[k]? = some x ∧ w.cell? ⟨b, off + k, none⟩ = some (.int .u8 (x.toNat : Int)) := by
  obtain ⟨b, off, x, ha, hb, hx, hc⟩ := h.at hk
  obtain ⟨y, rfl, hy⟩ := b8_at hx
  exact ⟨b, off, y, ha, hb, hy, hc⟩

theorem take_next {α : Type} {l : List α} {k : Nat} {x : α} (h : l[k]? = some x) : l.take (k + 1) = l.take k ++ [x] := by
  rw [List.take_add_one, h]; rfl
theorem lt_of_at {α : Type} {l : List α} {k : Nat} {x : α} (h : l[k]? = some x) : k < l.length := (List.getElem?_eq_some_iff.1 h).1

/-- behind an append of one element to a row of the call's own -/
theorem below_append {B : Nat} {W w w2 : World} {e : TypeId} {size : Nat} {v : Value} {n : Nat} {xs : List Value} {o : Obj} (h : Below B W w) (hB : B ≤ w.heap.size) (ho : w.ownsRow B e size v n xs) (hg : (w.alloc o).grownBy w2 v.ownBlock) : Below B W w2 :=
  (h.alloc hB o).grown hg (by simp; omega) (fun k hk => (ho.lt k hk).1)
theorem map_next {α β : Type} {l : List α} {k : Nat} {x : α} (f : α → β) (h : l[k]? = some x) : (l.take k).map f ++ [f x] = (l.take (k + 1)).map f := by
  rw [take_next h, List.map_append]; rfl

/-- A slice value that reads as these bytes. -/
def SliceOf (w : World) (v : Value) (l : List UInt8) : Prop := ∃ a c, v = .slice a l.length c ∧ Reads w a l.length (l.map B8) ∧ l.length ≤ c ∧ c ≤ maxLen
theorem SliceOf.keep {B : Nat} {w w' : World} {v : Value} {l : List UInt8} (h : SliceOf w v l) (hb : Below B w w') (hB : w.heap.size ≤ B) : SliceOf w' v l := by
  obtain ⟨a, c, hv, hr, h1, h2⟩ := h
  exact ⟨a, c, hv, hr.keep hb hB, h1, h2⟩
theorem sliceOf_own {w : World} {base : Nat} {e : TypeId} {v : Value} {n : Nat} {l : List UInt8} (h : w.ownsRow base e 1 v n (l.map B8)) : SliceOf w v l := by
  obtain ⟨a, c, hv, hr, h1, h2⟩ := reads_of_own h
  have := hr.len
  rw [List.length_map] at this
  subst this
  exact ⟨a, c, hv, hr, h1, h2⟩
/-- The slice at a of n slices of bytes reads as these lists. -/
def ReadsRows (w : World) (a : Option Addr) (n : Nat) (ll : List (List UInt8)) : Prop :=
  ∃ vs : List Value, Reads w a n vs ∧ ll.length = n ∧ ∀ (i : Nat) (v : Value) (l : List UInt8), vs[i]? = some v → ll[i]? = some l → SliceOf w v l
theorem ReadsRows.len {w : World} {a : Option Addr} {n : Nat} {ll : List (List UInt8)} (h : ReadsRows w a n ll) : ll.length = n := by
  obtain ⟨_, _, h, _⟩ := h
  exact h
theorem ReadsRows.keep {B : Nat} {w w' : World} {a : Option Addr} {n : Nat} {ll : List (List UInt8)} (h : ReadsRows w a n ll) (hb : Below B w w') (hB : w.heap.size ≤ B) : ReadsRows w' a n ll := by
  obtain ⟨vs, hr, hl, h⟩ := h
  exact ⟨vs, hr.keep hb hB, hl, fun i v l h1 h2 => (h i v l h1 h2).keep hb hB⟩
theorem ReadsRows.at {w : World} {a : Option Addr} {n : Nat} {ll : List (List UInt8)} (h : ReadsRows w a n ll) {k : Nat} (hk : k < n) :
    ∃ b off a' l c', a = some ⟨b, off, none⟩ ∧ b < w.heap.size ∧ ll[k]? = some l ∧ w.cell? ⟨b, off + k, none⟩ = some (.slice a' l.length c') ∧ Reads w a' l.length (l.map B8) ∧ l.length ≤ c' ∧ c' ≤ maxLen := by
  obtain ⟨vs, hr, hl, h⟩ := h
  obtain ⟨b, off, x, ha, hb, hx, hc⟩ := hr.at hk
  have hlk : ll[k]? = some ll[k] := by simp
  obtain ⟨a', c', hv, hr', h1, h2⟩ := h k x _ hx hlk
  subst hv
  exact ⟨b, off, a', _, c', ha, hb, hlk, hc, hr', h1, h2⟩

theorem cell_new (w : World) (cs : List Value) (e : TypeId) (j : Nat) : (w.alloc (.cells cs.toArray e)).cell? ⟨w.heap.size, j, none⟩ = cs[j]? := by
  have h : (w.alloc (.cells cs.toArray e)).heap[w.heap.size]? = some (.cells cs.toArray e) := heap_alloc_new w _
  simp only [World.cell?, h]
  simp
theorem own_mono {w : World} {b b' : Nat} {e : TypeId} {size : Nat} {v : Value} {n : Nat} {xs : List Value} (h : w.ownsRow b e size v n xs) (hb : b' ≤ b) : w.ownsRow b' e size v n xs := by
  refine ⟨h.1, ?_⟩
  rcases h.2 with h2 | ⟨g, cap, cur, hv, hg, r⟩
  · exact .inl h2
  · exact .inr ⟨g, cap, cur, hv, by omega, r⟩
theorem own_mono_size {w : World} {b b' : Nat} {e : TypeId} {size : Nat} {v : Value} {n : Nat} {xs : List Value} (h : w.ownsRow b e size v n xs) (hb : b' ≤ b) : w.ownsRow b' e size v n xs := own_mono h hb
theorem below_past {w w' : World} {o : Obj} (h : Below (w.alloc o).heap.size (w.alloc o) w') : Below w.heap.size w w' :=
  ((Below.refl _ w).alloc (Nat.le_refl _) o).trans (h.mono (by simp))

/-- A block of cells, known whole. -/
def Row (w : World) (g : Nat) (e : TypeId) (xs : List Value) : Prop := w.heap[g]? = some (.cells xs.toArray e (0, 0))
theorem Row.out {w : World} {g : Nat} {e : TypeId} {xs : List Value} (h : Row w g e xs) : w.heap[g]? = some (.cells xs.toArray e (0, 0)) := h
theorem Row.cell {w : World} {g : Nat} {e : TypeId} {xs : List Value} (h : Row w g e xs) (k : Nat) : w.cell? ⟨g, k, none⟩ = xs[k]? := by
  unfold Row at h
  simp [World.cell?, h]
theorem Row.frozen {w : World} {g : Nat} {e : TypeId} {xs : List Value} (h : Row w g e xs) (k : Nat) : w.frozen? ⟨g, k, none⟩ = false := by
  unfold Row at h
  simp [World.frozen?, h]
theorem Row.lt {w : World} {g : Nat} {e : TypeId} {xs : List Value} (h : Row w g e xs) : g < w.heap.size := (Array.getElem?_eq_some_iff.1 h).1
theorem Row.set {w : World} {g : Nat} {e : TypeId} {xs : List Value} (h : Row w g e xs) (k : Nat) (v : Value) : Row (w.setCell ⟨g, k, none⟩ v) g e (xs.set k v) := by
  unfold Row at h ⊢
  simp [World.setCell, Array.getElem?_modify, h]
theorem Row.other {w : World} {g : Nat} {e : TypeId} {xs : List Value} (h : Row w g e xs) {p : Addr} (hp : p.block ≠ g) (v : Value) : Row (w.setCell p v) g e xs := by
  unfold Row at h ⊢
  rw [Below.heap_setCell _ _ _ _ (Ne.symm hp)]; exact h
theorem Row.keep {B : Nat} {w w' : World} {g : Nat} {e : TypeId} {xs : List Value} (h : Row w g e xs) (hb : Below B w w') (hB : g < B) : Row w' g e xs := by
  unfold Row at h ⊢
  rw [hb.block g hB]; exact h
theorem Row.alloc {w : World} {g : Nat} {e : TypeId} {xs : List Value} (h : Row w g e xs) (o : Obj) : Row (w.alloc o) g e xs := h.keep ((Below.refl _ w).alloc (Nat.le_refl _) o) h.lt
theorem row_new (w : World) (xs : List Value) (e : TypeId) : Row (w.alloc (.cells xs.toArray e)) w.heap.size e xs := heap_alloc_new w _
theorem row_own {w : World} {base : Nat} {e : TypeId} {g n : Nat} {xs : List Value} (h : w.ownsRow base e 1 (.slice (some ⟨g, 0, none⟩) n n) n xs) : Row w g e xs := by
  rcases h.2 with ⟨h, _⟩ | ⟨g', cap, cur, hv, hb, hg, hnc, hcm, hs, ht⟩
  · cases h
  · cases hv
    have : cur = xs.toArray := by
      rw [← ht, List.take_of_length_le (by simp; omega)]
    unfold Row
    rw [hg, this]
theorem Row.reads {w : World} {g : Nat} {e : TypeId} {xs : List Value} (h : Row w g e xs) (o n : Nat) (hn : o + n ≤ xs.length) : Reads w (some ⟨g, o, none⟩) n ((xs.drop o).take n) := by
  refine ⟨by simp; omega, fun _ => ⟨g, o, rfl, h.lt, fun j hj => ?_⟩⟩
  rw [h.cell, List.getElem?_take, if_pos hj, List.getElem?_drop]

/-- a row that is filled place by place -/
def fill {α : Type} (xs : List α) (z : α) (m k : Nat) : List α := xs.take k ++ List.replicate (m - k) z
theorem fill_zero {α : Type} (xs : List α) (z : α) (m : Nat) : fill xs z m 0 = List.replicate m z := by simp [fill]
theorem fill_all {α : Type} (xs : List α) (z : α) (m : Nat) (h : xs.length = m) : fill xs z m m = xs := by simp [fill, ← h]
theorem fill_length {α : Type} (xs : List α) (z : α) (m k : Nat) (h : xs.length = m) (hk : k ≤ m) : (fill xs z m k).length = m := by simp [fill]; omega
theorem fill_set {α : Type} {xs : List α} {z x : α} {m k : Nat} (hk : k < m) (hx : xs[k]? = some x) : (fill xs z m k).set k x = fill xs z m (k + 1) := by
  have hl : k < xs.length := (List.getElem?_eq_some_iff.1 hx).1
  have hl2 : (xs.take k).length = k := by simp; omega
  unfold fill
  rw [List.set_append_right _ _ (by omega), hl2, Nat.sub_self, show m - k = (m - (k + 1)) + 1 from by omega, List.replicate_succ, List.set_cons_zero, take_next hx]
  simp
theorem fill_at {α : Type} (xs : List α) (z : α) (m k j : Nat) (h : xs.length = m) (hj : j < m) : ∃ y, (fill xs z m k)[j]? = some y := by
  have : j < (fill xs z m k).length := by simp [fill]; omega
  exact ⟨(fill xs z m k)[j], by simp⟩

theorem row_made {w : World} {g : Nat} {e : TypeId} {z : Value} {m : Nat} (h : Row w g e (madeCells z.cells (m * 1)).toList) (hz : z.cells = #[z]) : Row w g e (List.replicate m z) := by
  rw [hz, Nat.mul_one, toList_madeCells_one] at h
  exact h

/-- 'make([]T, l, c)' of elements of one cell -/
theorem wpList_make_row {P : Program} (w : World) {ops : Array Oper} {rest : List Oper} {o : Oper} {a : Act} {Q : Exit → Act → World → Prop}
    (hg : o.guard = none) (l c : Operand) (t : TypeId) (hop : o.op = Op.makeSlice t l c)
    (e : TypeId) (i : TypeInfo) (z : Value) (h1 : P.underlying t = some (.slice e)) (h2 : P.info? e = some i) (h3 : i.zero = some z) (h4 : i.size = 1) (hz : z.cells = #[z])
    (kl kc : IntKind) (L C : Int) (n m : Nat) (hl : a.eval l = .int kl L) (hc : a.eval c = .int kc C) (hL : L = (n : Int)) (hC : C = (m : Int)) (hnm : n ≤ m) (b2 : i.bytes * m ≤ 281474976710656) (b3 : m ≤ maxLen)
    (B : Nat) (w0 : World) (hb : Below B w0 w) (hB : B ≤ w.heap.size)
    (hK : ∀ w', Row w' w.heap.size e (List.replicate m z) → Below B w0 w' → wpList P ops Q rest (a.put o.dst (.slice (some ⟨w.heap.size, 0, none⟩) n m)) w') :
    wpList P ops Q (o :: rest) a w := by
  refine wpList_plain hg fun K hK' => ?_
  subst hL
  subst hC
  have b3' : m ≤ 9223372036854775807 := by simpa [maxLen] using b3
  have hb' : (i.bytes : Int) * (m : Int) ≤ 281474976710656 := by
    have h : ((i.bytes * m : Nat) : Int) ≤ 281474976710656 := by omega
    rwa [Int.natCast_mul] at h
  have hr := run_make (P := P) w t e i z h1 h2 h3 kl kc n m (by omega) (by omega) hb' (by omega)
  simp only [Int.toNat_natCast] at hr
  unfold Oper.wp
  simp [execOp, hop, hl, hc, hr, Result.andThen]
  refine hK' _ _ (hK _ ?_ (hb.alloc hB _))
  have h := heap_alloc_new w (.cells (madeCells z.cells (m * i.size)) e)
  unfold Row
  rw [h, h4, Nat.mul_one, hz]
  simp [← toList_madeCells_one]
/-- a row of the call's own, as append wants it -/
theorem own_row {w : World} {g : Nat} {e : TypeId} {xs : List Value} (h : Row w g e xs) (base n : Nat) (hb : base ≤ g) (hn : n ≤ xs.length) (hm : xs.length ≤ maxLen) : w.ownsRow base e 1 (.slice (some ⟨g, 0, none⟩) n xs.length) n (xs.take n) :=
  ⟨by simp; omega, .inr ⟨g, xs.length, xs.toArray, rfl, hb, h, hn, hm, by simp, by simp⟩⟩
theorem cell_add {w : World} {b o j : Nat} : w.cell? ((⟨b, o, none⟩ : Addr).add j) = w.cell? ⟨b, o + j, none⟩ := by
  unfold Addr.add; split <;> simp_all
/-- what 'copy' and 'append' ask of their source -/
theorem Reads.src {w : World} {a : Option Addr} {n : Nat} {xs : List Value} (h : Reads w a n xs) (hn : 0 < n) : ∃ ad, a = some ad ∧ ∀ j v, xs[j]? = some v → w.cell? (ad.add j) = some v := by
  obtain ⟨hl, h⟩ := h
  obtain ⟨b, o, rfl, _, hc⟩ := h hn
  refine ⟨_, rfl, fun j v hv => ?_⟩
  rw [cell_add, hc j (by rw [← hl]; exact (List.getElem?_eq_some_iff.1 hv).1), hv]
theorem b8_one (l : List UInt8) : ∀ v ∈ l.map B8, v.oneCell' = true := by
  intro v hv
  obtain ⟨x, _, rfl⟩ := List.mem_map.1 hv
  rfl

/-- only draws lie between two worlds -/
def Quiet (w w' : World) : Prop := ∃ m, w' = w.drewN m
theorem Quiet.refl (w : World) : Quiet w w := ⟨0, rfl⟩
theorem Quiet.drewN {w w' : World} (h : Quiet w w') (n : Nat) : Quiet w (w'.drewN n) := by
  obtain ⟨m, rfl⟩ := h
  exact ⟨m + n, by rw [World.drewN_drewN]⟩
theorem Quiet.trans {w w' w'' : World} (h : Quiet w w') (h' : Quiet w' w'') : Quiet w w'' := by
  obtain ⟨n, rfl⟩ := h'
  exact h.drewN n
theorem Quiet.below {w w' : World} (h : Quiet w w') (B : Nat) : Below B w w' := by
  obtain ⟨m, rfl⟩ := h
  exact below_drewN (Below.refl _ _) m
theorem Quiet.heap {w w' : World} (h : Quiet w w') : w'.heap = w.heap := by
  obtain ⟨m, rfl⟩ := h
  rfl
theorem Reads.quiet {w w' : World} {a : Option Addr} {n : Nat} {xs : List Value} (h : Reads w a n xs) (hq : Quiet w w') : Reads w' a n xs := h.keep (hq.below w.heap.size) (Nat.le_refl _)
theorem Reads.drewN {w : World} {a : Option Addr} {n : Nat} {xs : List Value} (h : Reads w a n xs) (m : Nat) : Reads (w.drewN m) a n xs := h.quiet ⟨m, rfl⟩

end Go.Proofs.YtnbihjocdlpplaaDoor
