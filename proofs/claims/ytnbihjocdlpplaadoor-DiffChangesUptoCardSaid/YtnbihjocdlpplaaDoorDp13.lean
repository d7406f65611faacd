/- Texts joined, one behind the other (DDone, DMark). -/
import Derived.Test.YtnbihjocdlpplaaDoorDp12
/- The program's writer: done; what a patch of a call's own is. -/
namespace Go.Proofs.YtnbihjocdlpplaaDoor
set_option linter.unusedVariables false
set_option linter.unusedSimpArgs false
open Go.RowKit
open Go.Lib
/-- a patch of the call's own: hunks in one block, the lines of each in a block of their own, all without spare room -/
def PatchAt (B : Nat) (w : World) (v : Value) (H : List Hk) : Prop :=
  ∃ (a : Option Addr) (c : Nat) (hs : List HCell), v = .slice a H.length H.length ∧ SW B w (.slice a H.length c) hs H [] ∧ ∀ h ∈ hs, h.2.2.1 = h.2.2.2
theorem SW.bare {B : Nat} {w : World} {vo : Value} {hs : List HCell} {H : List Hk} {vals : List Wait} (h : SW B w vo hs H vals) : SW B w vo hs H [] :=
  ⟨h.own, h.len, fun k c x h1 h2 => by
    obtain ⟨q1, q2, q3, q4, q5⟩ := h.each k c x h1 h2
    exact ⟨q1, q2, q3, q4, fun ad had => ⟨(q5 ad had).1, (q5 ad had).2.1, fun p hp => (by cases hp)⟩⟩, fun p hp => (by cases hp), fun i j p q hi hj _ => (by cases hi), h.dist⟩
theorem PatchAt.keep {B : Nat} {w w' : World} {v : Value} {H : List Hk} (h : PatchAt B w v H) (hb : Below w.heap.size w w') : PatchAt B w' v H := by
  obtain ⟨a, c, hs, h1, h2, h3⟩ := h
  exact ⟨a, c, hs, h1, h2.keep hb, h3⟩
theorem hk_len : ∀ hs : List HCell, (hs.flatMap hkCells).length = hs.length * 2 := by
  intro hs
  induction hs with
  | nil => rfl
  | cons x l ih => rw [List.flatMap_cons, List.length_append, ih, List.length_cons]; show 2 + _ = _; omega
/-- what a row of hunks reads as -/
theorem SW.reads {B : Nat} {w : World} {a : Option Addr} {c : Nat} {hs : List HCell} {H : List Hk} {vals : List Wait} {n : Nat} (h : SW B w (.slice a n c) hs H vals) : n = H.length ∧ ReadsK w a H.length (H.map toI) := by
  have hn : n = hs.length := by
    rcases h.own.2 with ⟨h1, h2⟩ | ⟨g, cap, cur, hv, _⟩
    · cases h1; exact h2.symm
    · cases hv; rfl
  subst hn
  refine ⟨h.len, by simp, fun h0 => ?_⟩
  obtain ⟨g, rfl, hg, hc⟩ := own_cell h.own (by rw [h.len]; exact h0)
  refine ⟨g, 0, rfl, hg, fun i x hx => ?_⟩
  rw [List.getElem?_map] at hx
  cases hy : H[i]? with
  | none => rw [hy] at hx; cases hx
  | some y =>
    rw [hy] at hx
    cases hx
    have hil := (List.getElem?_eq_some_iff.1 hy).1
    have hp : hs[i]? = some (hs[i]'(by rw [h.len]; exact hil)) := by simp
    obtain ⟨q1, q2, q3, q4, q5⟩ := h.each i _ y hp hy
    have hl : (hs[i]'(by rw [h.len]; exact hil)).2.2.1 = y.2.length := q4.len.symm
    have f0 := flat_at (f := hkCells) (c := 2) (fun _ => rfl) hp (j := 0) rfl
    have f1 := flat_at (f := hkCells) (c := 2) (fun _ => rfl) hp (j := 1) rfl
    refine ⟨_, _, ?_, ?_, by show ReadsS w _ y.2.length y.2; rw [← hl]; exact q4, by show y.2.length ≤ _; rw [← hl]; exact q2, q3⟩
    · rw [Nat.zero_add]
      have := hc _ _ f0
      rw [Nat.add_zero] at this
      rw [this, q1]
      rfl
    · rw [Nat.zero_add]
      rw [hc _ _ f1, hl]
      rfl
theorem PatchAt.reads {B : Nat} {w : World} {v : Value} {H : List Hk} (h : PatchAt B w v H) : ∃ a, v = .slice a H.length H.length ∧ ReadsK w a H.length (H.map toI) := by
  obtain ⟨a, c, hs, h1, h2, _⟩ := h
  exact ⟨a, h1, h2.reads.2⟩
theorem own_caps {w : World} {B : Nat} {e : TypeId} {size : Nat} {a : Option Addr} {n c m : Nat} {xs : List Value} (h : w.ownsRow B e size (.slice a n c) m xs) : n = m ∧ n ≤ c ∧ c ≤ maxLen := by
  rcases h.2 with ⟨h1, h2⟩ | ⟨g, cap, cur, hv, _, _, h3, h4, _⟩
  · cases h1; subst h2; exact ⟨rfl, Nat.le_refl _, Nat.zero_le _⟩
  · cases hv; exact ⟨rfl, h3, h4⟩
set_option maxHeartbeats 8000000 in
set_option maxRecDepth 100000 in
theorem doneC (w : World) (B p : Nat) (st : St7) (h : WS B w p st) (hH : st.out.length ≤ 1048500) :
    Calls Tryd.prog 43 #[.pointer (some ⟨p, 0, none⟩)] w fun e w' => ∃ v, e = .returned v ∧ PatchAt B w' v (doneW st) ∧ KB B p w w' ∧ B ≤ w'.heap.size := by
  obtain ⟨hs0, vo0, vs, vg, vc, h0⟩ := h
  have HW0 := Lib.hid h0
  clear h0
  have k1 := putK_le 1 st.same st.out
  have k2 := putK_le 2 st.gone (putK 1 st.same st.out)
  go_enter Tryd.func43, Tryd.ntmps43
  go_upto_region 4 with (first
    | (go_at_call_of 74 (Value.int .i64 1); refine (putC w B p hs0 st.out vo0 vs [(vs, st.same), (vg, st.gone), (vc, st.come)] 0 1 st.same HW0.out rfl (by omega)).mono ?_; rintro e w1 ⟨⟨u0, rfl⟩, vo1, hs1, v1, hw1, hb1, _⟩; have HW1 := Lib.hid hw1; have HB1 := Lib.hid hb1; clear hw1 hb1)
    | (go_at_call_of 74 (Value.int .i64 2); refine (putC w1 B p hs1 (putK 1 st.same st.out) vo1 vg [(v1, []), (vg, st.gone), (vc, st.come)] 1 2 st.gone HW1.out rfl (by omega)).mono ?_; rintro e w2 ⟨⟨u1, rfl⟩, vo2, hs2, v2, hw2, hb2, _⟩; have HW2 := Lib.hid hw2; have HB2 := Lib.hid hb2; clear hw2 hb2)
    | (go_at_call_of 74 (Value.int .i64 3); refine (putC w2 B p hs2 (putK 2 st.gone (putK 1 st.same st.out)) vo2 vc [(v1, []), (v2, []), (vc, st.come)] 2 3 st.come HW2.out rfl (by omega)).mono ?_; rintro e w3 ⟨⟨u2, rfl⟩, vo3, hs3, v3, hw3, hb3, _⟩; have HW3 := Lib.hid hw3; have HB3 := Lib.hid hb3; clear hw3 hb3))
  obtain ⟨a, c, hv⟩ := slice_own HW3.out.sw.own
  subst hv
  have d0 : w3.cell? ⟨p, 0, none⟩ = some (.slice a hs3.length c) := HW3.out.row.cell 0
  obtain ⟨_, c1, c2⟩ := own_caps HW3.out.sw.own
  have hcm : c ≤ 9223372036854775807 := by unfold maxLen at c2; omega
  have HC := Lib.hid (⟨c1, hcm⟩ : hs3.length ≤ c ∧ c ≤ 9223372036854775807)
  have hlen : hs3.length = (doneW st).length := HW3.out.sw.len
  have HFIN : Hid (PatchAt B w3 (.slice a hs3.length hs3.length) (doneW st)) := Lib.hid (by
    refine ⟨a, c, hs3, by rw [hlen], ?_, HW3.out.clip⟩
    rw [← hlen]
    exact HW3.out.sw.bare)
  obtain ⟨n, hn⟩ : ∃ n, n = hs3.length := ⟨_, rfl⟩
  rw [← hn] at d0 HC HFIN
  clear hn hlen c1 c2 k1 k2
  go_wp2_with (go_at_call 68; refine (clipH w3 a n c HC.out.1 HC.out.2).mono ?_; rintro e w4 ⟨rfl, rfl⟩)
  go_ret
  exact ⟨_, rfl, HFIN.out, (HB1.out.trans HB2.out).trans HB3.out, HW3.out.size⟩
end Go.Proofs.YtnbihjocdlpplaaDoor
/- The mark of a place of a list of texts; rows of texts that are marked. -/
namespace Go.Proofs.YtnbihjocdlpplaaDoor
set_option linter.unusedVariables false
set_option linter.unusedSimpArgs false
open Go.RowKit
open Go.Lib
def mk3 (i k : Nat) : List UInt8 := [UInt8.ofNat i, UInt8.ofNat k, UInt8.ofNat (k / 256)]
theorem wrap8 (i : Nat) : IntKind.u8.wrap (i : Int) = ((UInt8.ofNat i).toNat : Int) := by
  rw [UInt8.toNat_ofNat']
  simp [IntKind.wrap, IntKind.bits, IntKind.signed]
theorem tdiv256 (k : Nat) : (k : Int).tdiv 256 = ((k / 256 : Nat) : Int) := by
  rw [Int.tdiv_eq_ediv_of_nonneg (by omega)]
  omega
theorem conv_lit (w : World) (l : List UInt8) : (convert 30 9 (.slice (some ⟨w.heap.size, 0, none⟩) l.length l.length)).run Tryd.prog (w.alloc (.cells (l.map B8).toArray 5)) = .ok (.string (bstr l)) (w.alloc (.cells (l.map B8).toArray 5)) := by
  have hr : Row (w.alloc (.cells (l.map B8).toArray 5)) w.heap.size 5 (l.map B8) := row_new w _ _
  have h := hr.reads 0 l.length (by simp)
  rw [List.drop_zero, List.take_of_length_le (by simp)] at h
  exact run_bytes_str _ _ _ 5 Tryd.underlying30 Tryd.underlying5 Tryd.underlying9 _ _ _ l h
set_option maxHeartbeats 1000000 in
theorem textMarkC (w : World) (i k : Nat) (hi : i ≤ 1099511627776) (hk : k ≤ 1099511627776) :
    Calls Tryd.prog 77 #[.int .i64 (i : Int), .int .i64 (k : Int)] w fun e w' => e = .returned (.string (bstr (mk3 i k))) ∧ Below w.heap.size w w' := by
  have h1 := wrap8 i
  have h2 := wrap8 k
  have h3 := wrap8 (k / 256)
  have h4 := tdiv256 k
  obtain ⟨q, hq⟩ : ∃ q, k / 256 = q := ⟨_, rfl⟩
  obtain ⟨a, ha⟩ : ∃ a, UInt8.ofNat i = a := ⟨_, rfl⟩
  obtain ⟨b, hb⟩ : ∃ a, UInt8.ofNat k = a := ⟨_, rfl⟩
  rw [hq] at h3 h4
  obtain ⟨c, hc⟩ : ∃ a, UInt8.ofNat q = a := ⟨_, rfl⟩
  have hm : mk3 i k = [a, b, c] := by unfold mk3; rw [hq, ha, hb, hc]
  rw [ha] at h1
  rw [hb] at h2
  rw [hc] at h3
  have h5 : IntKind.i64.wrap (q : Int) = (q : Int) := IntWalk.i64_in _ (by omega)
  have HM := Lib.hid hm
  have hcv : (convert 30 9 (.slice (some ⟨w.heap.size, 0, none⟩) 3 3)).run Tryd.prog (w.alloc (.cells #[.int .u8 (a.toNat : Int), .int .u8 (b.toNat : Int), .int .u8 (c.toNat : Int)] 5)) = .ok (.string (bstr [a, b, c])) (w.alloc (.cells #[.int .u8 (a.toNat : Int), .int .u8 (b.toNat : Int), .int .u8 (c.toNat : Int)] 5)) := conv_lit w [a, b, c]
  clear hq ha hb hc hm
  go_enter Tryd.func77, Tryd.ntmps77
  go_wp2
  go_ret
  exact ⟨by rw [HM.out]; rfl, (Below.refl _ w).alloc (Nat.le_refl _) _⟩
/-- a row: its block, its first place, its length; there is no spare room -/
abbrev R4 := Nat × Nat × Nat
def rowT (r : R4) : Value := .slice (some ⟨r.1, r.2.1, none⟩) r.2.2 r.2.2
def DistT (rows : List R4) : Prop := ∀ (j j' : Nat) (r r' : R4), rows[j]? = some r → rows[j']? = some r' → r.1 = r'.1 → j = j'
/-- every row lies in a block of texts; of the rows ahead of i all are marked, of row i the first k places -/
def MkT (w : World) (rows : List R4) (i k : Nat) : Prop :=
  ∀ (j : Nat) (r : R4), rows[j]? = some r → ∃ cur : Array Value, w.heap[r.1]? = some (.cells cur 9 (0, 0)) ∧ r.2.1 + r.2.2 ≤ cur.size ∧ ∀ t, t < r.2.2 → (j < i ∨ (j = i ∧ t < k)) → cur[r.2.1 + t]? = some (S1 (mk3 j t))
theorem MkT.keep {w w' : World} {rows : List R4} {i k : Nat} (h : MkT w rows i k) (hb : Below w.heap.size w w') : MkT w' rows i k := by
  intro j r hj
  obtain ⟨cur, h1, h2, h3⟩ := h j r hj
  exact ⟨cur, (hb.block r.1 (Array.getElem?_eq_some_iff.1 h1).1).trans h1, h2, h3⟩
theorem MkT.nextRow {w : World} {rows : List R4} {i : Nat} {r : R4} (h : MkT w rows i r.2.2) (hr : rows[i]? = some r) : MkT w rows (i + 1) 0 := by
  intro j r' hj
  obtain ⟨cur, h3, h4, h5⟩ := h j r' hj
  refine ⟨cur, h3, h4, fun t ht hor => h5 t ht ?_⟩
  rcases hor with hor | hor
  · by_cases e : j = i
    · subst e
      rw [hr] at hj
      obtain rfl := Option.some.inj hj
      exact .inr ⟨rfl, ht⟩
    · exact .inl (by omega)
  · omega
theorem MkT.mark {w : World} {rows : List R4} {i k : Nat} {r : R4} (h : MkT w rows i k) (hd : DistT rows) (hr : rows[i]? = some r) (hk : k < r.2.2) : MkT (w.setCell ⟨r.1, r.2.1 + k, none⟩ (S1 (mk3 i k))) rows i (k + 1) := by
  intro j r' hj
  obtain ⟨cur, h3, h4, h5⟩ := h j r' hj
  by_cases e : r'.1 = r.1
  · obtain rfl := hd j i r' r hj hr e
    rw [hr] at hj
    obtain rfl := Option.some.inj hj
    refine ⟨cur.setIfInBounds (r.2.1 + k) (S1 (mk3 j k)), ?_, by simpa using h4, fun t ht hor => ?_⟩
    · simp [World.setCell, Array.getElem?_modify, h3]
    · by_cases et : t = k
      · subst et
        exact Array.getElem?_setIfInBounds_self_of_lt (by omega)
      · rw [Array.getElem?_setIfInBounds_ne (by omega)]
        exact h5 t ht (by omega)
  · refine ⟨cur, ?_, h4, fun t ht hor => h5 t ht ?_⟩
    · rw [Below.heap_setCell _ _ _ _ e]; exact h3
    · rcases hor with hor | ⟨rfl, hor⟩
      · exact .inl hor
      · rw [hr] at hj; exact absurd (congrArg (·.1) (Option.some.inj hj)).symm e
theorem MkT.cell {w : World} {rows : List R4} {i k : Nat} {r : R4} (h : MkT w rows i k) {j : Nat} (hr : rows[j]? = some r) {t : Nat} (ht : t < r.2.2) : ∃ u, w.cell? ⟨r.1, r.2.1 + t, none⟩ = some u ∧ w.frozen? ⟨r.1, r.2.1 + t, none⟩ = false := by
  obtain ⟨cur, h3, h4, h5⟩ := h j r hr
  have hlt : r.2.1 + t < cur.size := by omega
  refine ⟨cur[r.2.1 + t], ?_, ?_⟩
  · simp [World.cell?, h3]
  · simp [World.frozen?, h3]
theorem MkT.marked {w : World} {rows : List R4} {i k : Nat} {r : R4} (h : MkT w rows i k) {j : Nat} (hr : rows[j]? = some r) {t : Nat} (ht : t < r.2.2) (hj : j < i) : w.cell? ⟨r.1, r.2.1 + t, none⟩ = some (.string (bstr (mk3 j t))) := by
  obtain ⟨cur, h3, h4, h5⟩ := h j r hr
  have := h5 t ht (.inl hj)
  simp [World.cell?, h3, this, S1]
theorem MkT.lt {w : World} {rows : List R4} {i k : Nat} {r : R4} (h : MkT w rows i k) {j : Nat} (hr : rows[j]? = some r) : r.1 < w.heap.size := by
  obtain ⟨cur, h3, _⟩ := h j r hr
  exact (Array.getElem?_eq_some_iff.1 h3).1
def marks3 (i n : Nat) : List (List UInt8) := (List.range n).map fun k => mk3 i k
theorem marks3_len (i n : Nat) : (marks3 i n).length = n := by simp [marks3]
theorem marks3_next (i n : Nat) : marks3 i (n + 1) = marks3 i n ++ [mk3 i n] := by simp [marks3, List.range_succ]
theorem marks3_at (i n k : Nat) (h : k < n) : (marks3 i n)[k]? = some (mk3 i k) := by simp [marks3, h]
/-- a row that is marked whole reads as its marks -/
theorem MkT.reads {w : World} {rows : List R4} {i k : Nat} {r : R4} (h : MkT w rows i k) {j : Nat} (hr : rows[j]? = some r) (hj : j < i) : ReadsS w (some ⟨r.1, r.2.1, none⟩) r.2.2 (marks3 j r.2.2) := by
  refine ⟨by rw [List.length_map, marks3_len], fun _ => ⟨r.1, r.2.1, rfl, h.lt hr, fun t ht => ?_⟩⟩
  rw [h.marked hr ht hj, List.getElem?_map, marks3_at j _ t ht]
  rfl
theorem own_keep_ty {w w' : World} {row : Option Nat} {B : Nat} {e : TypeId} {v : Value} {n : Nat} {xs : List Value} (h : w.ownsRow B e 1 v n xs) (hg : w.grownBy w' row) (hne : ∀ b, row = some b → ∃ (cur : Array Value) (e' : TypeId) (fr : Nat × Nat), w.heap[b]? = some (.cells cur e' fr) ∧ e' ≠ e) : w'.ownsRow B e 1 v n xs := by
  refine h.kept hg ?_
  rcases h.2 with ⟨rfl, _⟩ | ⟨g, cap, cur, rfl, _, hgr, _⟩
  · exact .inl rfl
  · refine .inr fun e' => ?_
    have e' : some g = row := e'
    obtain ⟨cur', t', fr, h1, h2⟩ := hne g e'.symm
    rw [hgr] at h1
    cases h1
    exact h2 rfl
theorem own_at {w : World} {B : Nat} {e : TypeId} {b o m c : Nat} {xs : List Value} (h : w.ownsRow B e 1 (.slice (some ⟨b, o, none⟩) m c) m xs) {i : Nat} (hi : i < m) : w.cell? ⟨b, o + i, none⟩ = xs[i]? := by
  obtain ⟨a', c', hv, hr, _, _⟩ := reads_of_own h
  cases hv
  obtain ⟨_, hr⟩ := hr
  obtain ⟨b', o', he, _, hc⟩ := hr (by omega)
  cases he
  exact hc i hi
/-- one element put behind a slice without spare room: a new row -/
theorem run_append_clip {P : Program} {T ty e : TypeId} (hT : P.underlying T = some (.slice e)) (z : Value) (size bytes : Nat) (hinfo : (P.info? e).map (fun i => (i.zero, i.size, i.bytes)) = some (some z, size, bytes)) (hz : z.cells.size = size) (hs0 : 0 < size) (hby : bytes ≤ 4096)
    (wp : World) (a : Option Addr) (n : Nat) (xs cs : List Value) (hxl : xs.length = n * size) (hn0 : 0 < n) (hxs : ∃ ad, a = some ad ∧ ∀ j u, xs[j]? = some u → wp.cell? (ad.add j) = some u) (hcs : cs.length = size) (hl : n ≤ 1073741824) :
    ∃ v' w', (Builtin.append_ #[T, T] ty #[.slice a n n, .slice (some ⟨wp.heap.size, 0, none⟩) 1 1]).run P (wp.alloc (.cells cs.toArray e)) = .ok v' w' ∧ w'.ownsRow wp.heap.size e size v' (n + 1) (xs ++ cs) ∧ Below wp.heap.size wp w' := by
  obtain ⟨i0, hi, hz0, hz1, hz2⟩ := info_parts hinfo
  obtain ⟨ad, rfl, hc⟩ := hxs
  have hbt : (n + 1) * bytes ≤ 140737488355328 := by
    calc (n + 1) * bytes ≤ (n + 1) * 4096 := Nat.mul_le_mul (Nat.le_refl _) hby
      _ ≤ 140737488355328 := by omega
  have hsz : (wp.alloc (.cells cs.toArray e)).heap.size = wp.heap.size + 1 := by simp
  have hb : Below wp.heap.size wp (wp.alloc (.cells cs.toArray e)) := (Below.refl _ wp).alloc (Nat.le_refl _) _
  obtain ⟨v', w', hrun, r1, r2⟩ := run_append_arg_grows (P := P) (wp.alloc (.cells cs.toArray e)) T ty e i0 z size bytes hT hi hz0 hz1 hz2 hz hs0 ad n n xs hxl (fun j u hj => by
    have h1 := hc j u hj
    have h2 : (ad.add j).block < wp.heap.size := World.block_lt_of_cell? wp _ h1
    rw [hb.cell h2]
    exact h1) ⟨wp.heap.size, 0, none⟩ 1 1 cs (by rw [hcs, Nat.one_mul]) (new_cells _ _ _) (by omega) (by unfold maxLen; omega) hbt
  exact ⟨v', w', hrun, own_mono_size r1 (by rw [hsz]; omega), hb.grown r2 (by rw [hsz]; omega) (fun k hk => by cases hk)⟩
theorem appClip {T e : TypeId} {ops : Array Oper} {rest : List Oper} {o : Oper} {a : Act} {w : World} {Q : Exit → Act → World → Prop} (hgd : o.guard = none) (sl x : Operand) (ho : o.op = .call { callee := .builtin .append, args := #[sl, x], argTypes := #[T, T] })
    (hT : Tryd.prog.underlying T = some (.slice e)) (z : Value) (size bytes : Nat) (hinfo : (Tryd.prog.info? e).map (fun i => (i.zero, i.size, i.bytes)) = some (some z, size, bytes)) (hz : z.cells.size = size) (hs0 : 0 < size) (hby : bytes ≤ 4096)
    (wp : World) (ad : Option Addr) (n : Nat) (xs cs : List Value) (hxl : xs.length = n * size) (hn0 : 0 < n) (hxs : ∃ a, ad = some a ∧ ∀ j u, xs[j]? = some u → wp.cell? (a.add j) = some u) (hcs : cs.length = size) (hs : a.eval sl = .slice ad n n) (hx : a.eval x = .slice (some ⟨wp.heap.size, 0, none⟩) 1 1) (hw : w = wp.alloc (.cells cs.toArray e)) (hl : n ≤ 1073741824)
    (h : ∀ v' w', w'.ownsRow wp.heap.size e size v' (n + 1) (xs ++ cs) → Below wp.heap.size wp w' → wpList Tryd.prog ops Q rest (a.put o.dst v') w') : wpList Tryd.prog ops Q (o :: rest) a w := by
  subst hw
  obtain ⟨v', w', hrun, h1, h2⟩ := run_append_clip (ty := o.type) hT z size bytes hinfo hz hs0 hby wp ad n xs cs hxl hn0 hxs hcs hl
  refine wpList_plain hgd fun K hK => ?_
  unfold Oper.wp
  simp [execOp, ho, resolve, invoke, builtin, hs, hx, hrun, Result.andThen]
  exact hK _ _ (h v' w' h1 h2)
end Go.Proofs.YtnbihjocdlpplaaDoor
