/- The walk of BitsPuts. -/
import Derived.Test.YtgcgbpehedkckaaWorks
import Derived.Test.YtgcgbpehedkckaaOpen
import Derived.Test.YtgcgbpehedkckaaLawa
import Derived.Test.YtgcgbpehedkckaaEqr
import Derived.Test.YtgcgbpehedkckaaSpare
import Derived.Test.YtgcgbpehedkckaaApart
import Derived.Test.YtgcgbpehedkckaaRowsown
namespace Go.Proofs.Ytgcgbpehedkckaa
open Go.RowKit
theorem putLaw (w : World) (a : Option Addr) (n ca : Nat) (la : List UInt8) (v s : Nat) (hs : s = 1 ∨ s = 2 ∨ s = 4 ∨ s = 8) (ha : Reads w a n (la.map B8)) (hn : n ≤ 140737488355320) (hv : v < 18446744073709551616) :
    Calls Try.prog 14 #[.slice a n ca, .int .u64 v, .int .i64 s] w fun e w' => ∃ r, e = .returned r ∧ w'.ownsRow w.heap.size 5 1 r (la ++ leB v s).length ((la ++ leB v s).map B8) ∧ Below w.heap.size w w' := by
  have hl := ha.len
  rw [List.length_map] at hl
  have e : (la ++ leB v s).length = n + s := by simp [leB, hl]
  rw [e]
  rcases hs with rfl | rfl | rfl | rfl
  · exact putLaw1 w a n ca la v ha hn hv
  · exact putLaw2 w a n ca la v ha hn hv
  · exact putLaw4 w a n ca la v ha hn hv
  · exact putLaw8 w a n ca la v ha hn hv
theorem cutLaw (v s : Nat) (w : World) (hs : s = 1 ∨ s = 2 ∨ s = 4 ∨ s = 8) (hv : v < 18446744073709551616) :
    Calls Try.prog 16 #[.int .u64 v, .int .i64 s] w fun e w' => e = .returned (.int .u64 (cutN v s : Nat)) ∧ w = w' := by
  rcases hs with rfl | rfl | rfl | rfl
  · exact cutLaw1 v w hv
  · exact cutLaw2 v w hv
  · exact cutLaw4 v w hv
  · have e : cutN v 8 = v := by unfold cutN; exact Nat.mod_eq_of_lt hv
    rw [e]; exact cutLaw8 v w hv
theorem cutN_lt (v s : Nat) (hv : v < 18446744073709551616) : cutN v s < 18446744073709551616 := Nat.lt_of_le_of_lt (Nat.mod_le _ _) hv
/-- what stands in both lists behind j rounds -/
def clP (la : List UInt8) (v : Nat) : Nat → List (List UInt8)
  | 0 => []
  | j + 1 => clP la v j ++ [la ++ leB v (2 ^ j), la ++ leB v (2 ^ j)]
theorem clP_len (la : List UInt8) (v j : Nat) : (clP la v j).length = 2 * j := by
  induction j with
  | zero => rfl
  | succ j ih => simp [clP, ih]; omega
/-- two rows more, apart from all others -/
theorem dist_push {rows : List R3} {r1 r2 : R3} (h : Dist rows) (h1 : ∀ (j : Nat) (r : R3), rows[j]? = some r → r.1 ≠ r1.1 ∧ r.1 ≠ r2.1) (h12 : r1.1 ≠ r2.1) : Dist (rows ++ [r1, r2]) := by
  have key : ∀ (j : Nat) (r : R3), (rows ++ [r1, r2])[j]? = some r → (j < rows.length ∧ rows[j]? = some r) ∨ (j = rows.length ∧ r = r1) ∨ (j = rows.length + 1 ∧ r = r2) := by
    intro j r hj
    by_cases hl : j < rows.length
    · rw [List.getElem?_append_left hl] at hj; exact .inl ⟨hl, hj⟩
    · rw [List.getElem?_append_right (by omega)] at hj
      match hd : j - rows.length, hj with
      | 0, hj => simp at hj; exact .inr (.inl ⟨by omega, hj.symm⟩)
      | 1, hj => simp at hj; exact .inr (.inr ⟨by omega, hj.symm⟩)
      | k + 2, hj => simp at hj
  intro j j' r r' hj hj' e
  rcases key j r hj with ⟨a1, a2⟩ | ⟨a1, rfl⟩ | ⟨a1, rfl⟩ <;> rcases key j' r' hj' with ⟨b1, b2⟩ | ⟨b1, rfl⟩ | ⟨b1, rfl⟩
  · exact h j j' r r' a2 b2 e
  · exact absurd e (h1 j r a2).1
  · exact absurd e (h1 j r a2).2
  · exact absurd e.symm (h1 j' r' b2).1
  · omega
  · exact absurd e h12
  · exact absurd e.symm (h1 j' r' b2).2
  · exact absurd e.symm h12
  · omega
/-- what both lists are behind j rounds -/
def PutsInv (B : Nat) (la : List UInt8) (v j : Nat) (va vw : Value) (W : World) : Prop :=
  ∃ (rows : List R3) (valsw : List Value), RowsOwn B W va (rows.map rowV) (clP la v j) ∧ Dist rows ∧ RowsOwn B W vw valsw (clP la v j) ∧ ∀ b, va.ownBlock = some b → vw.ownBlock ≠ some b
/-- in the midst of a round: the first list has grown, the second one not yet -/
def PutsMid (B : Nat) (la : List UInt8) (v j : Nat) (va vw : Value) (W : World) : Prop :=
  ∃ (rows : List R3) (valsw : List Value), RowsOwn B W va (rows.map rowV) (clP la v (j + 1)) ∧ Dist rows ∧ RowsOwn B W vw valsw (clP la v j) ∧ ∀ b, va.ownBlock = some b → vw.ownBlock ≠ some b
theorem PutsInv.keepNone {B : Nat} {la : List UInt8} {v j : Nat} {va vw : Value} {W W' : World} (h : PutsInv B la v j va vw W) (hg : W.grownBy W' none) : PutsInv B la v j va vw W' := by
  obtain ⟨rows, valsw, h1, h2, h3, h4⟩ := h
  exact ⟨rows, valsw, h1.keepNone hg, h2, h3.keepNone hg, h4⟩
theorem PutsMid.keepNone {B : Nat} {la : List UInt8} {v j : Nat} {va vw : Value} {W W' : World} (h : PutsMid B la v j va vw W) (hg : W.grownBy W' none) : PutsMid B la v j va vw W' := by
  obtain ⟨rows, valsw, h1, h2, h3, h4⟩ := h
  exact ⟨rows, valsw, h1.keepNone hg, h2, h3.keepNone hg, h4⟩
theorem PutsInv.shapes {B : Nat} {la : List UInt8} {v j : Nat} {va vw : Value} {W : World} (h : PutsInv B la v j va vw W) : (∃ (a : Option Addr) (c : Nat) (xs : List Value), va = .slice a (2 * j) c ∧ W.ownsRow B 22 1 (.slice a (2 * j) c) (2 * j) xs) ∧ ∃ (a : Option Addr) (c : Nat), vw = .slice a (2 * j) c := by
  obtain ⟨rows, valsw, h1, h2, h3, h4⟩ := h
  obtain ⟨a, c, hv, _, _, _⟩ := h1.reads
  obtain ⟨a', c', hv', _, _, _⟩ := h3.reads
  rw [clP_len] at hv hv'
  refine ⟨⟨a, c, rows.map rowV, hv, ?_⟩, a', c', hv'⟩
  have h5 := h1.own
  rw [hv, h1.len, clP_len] at h5
  exact h5
theorem sep_of {va vw va' : Value} {W : World} (h : ∀ b, va.ownBlock = some b → vw.ownBlock ≠ some b) (hs : va'.ownBlock = va.ownBlock ∨ ∀ b, va'.ownBlock = some b → W.heap.size ≤ b) (hw : ∀ b, vw.ownBlock = some b → b < W.heap.size) : ∀ b, va'.ownBlock = some b → vw.ownBlock ≠ some b := by
  intro b hb e
  rcases hs with hs | hs
  · rw [hs] at hb; exact h b hb e
  · have := hs b hb
    have := hw b e
    omega
theorem puts_a {B : Nat} {la : List UInt8} {v j s : Nat} {va va' vw : Value} {W w2 w3 w4 : World} {g1 n1 c1 g2 c2 : Nat} {o : Obj} (h : PutsInv B la v j va vw W) (hs : s = 2 ^ j) (hn1 : n1 = (la ++ leB v s).length) (h12 : W.grownBy w2 none) (h23 : w2.grownBy w3 none) (hBW : B ≤ W.heap.size)
    (o1 : w2.ownsRow W.heap.size 5 1 (.slice (some ⟨g1, 0, none⟩) n1 c1) n1 ((la ++ leB v s).map B8)) (o2 : w3.ownsRow w2.heap.size 5 1 (.slice (some ⟨g2, 0, none⟩) n1 c2) n1 ((la ++ leB v s).map B8))
    (hg : (w3.alloc o).grownBy w4 va.ownBlock) (hsep : va'.ownBlock = va.ownBlock ∨ ∀ b, va'.ownBlock = some b → (w3.alloc o).heap.size ≤ b)
    (hnew : ∀ xs, w3.ownsRow B 22 1 va (2 * j) xs → w4.ownsRow B 22 1 va' (2 * j + 2) (xs ++ [.slice (some ⟨g1, 0, none⟩) n1 c1, .slice (some ⟨g2, 0, none⟩) n1 c2])) : PutsMid B la v j va' vw w4 := by
  subst hs
  have z2 := h12.size
  have z3 := h23.size
  obtain ⟨rows, valsw, k1, k2, k3, k4⟩ := h
  have hlt : ∀ (i : Nat) (r : R3), rows[i]? = some r → r.1 < W.heap.size := by
    intro i r hr
    have hi : i < (clP la v j).length := by
      rw [← k1.len, List.length_map]; exact (List.getElem?_eq_some_iff.1 hr).1
    exact ((k1.each i (rowV r) _ (by rw [List.getElem?_map, hr]; rfl) (List.getElem?_eq_getElem hi)).lt r.1 rfl).2
  replace k1 := (k1.keepNone h12).keepNone h23
  replace k3 := (k3.keepNone h12).keepNone h23
  have hl1 := (o1.lt g1 rfl)
  have hl2 := (o2.lt g2 rfl)
  have o1' := o1.kept h23 (.inr fun e => by cases e)
  have hrl : (rows.map rowV).length = 2 * j := by rw [k1.len, clP_len]
  have hva : w3.ownsRow B 22 1 va (2 * j) (rows.map rowV) := by have h := k1.own; rw [hrl] at h; exact h
  have hpush := k1.push (vg' := va') (news := [.slice (some ⟨g1, 0, none⟩) n1 c1, .slice (some ⟨g2, 0, none⟩) n1 c2]) (cn := [la ++ leB v (2 ^ j), la ++ leB v (2 ^ j)]) hg (by rw [hrl]; exact hnew _ hva) rfl (fun i x l h1 h2 => by
    match i, h1, h2 with
    | 0, h1, h2 => simp at h1 h2; subst h1; subst h2; rw [← hn1]; exact own_mono_size o1' (by omega)
    | 1, h1, h2 => simp at h1 h2; subst h1; subst h2; rw [← hn1]; exact own_mono_size o2 (by omega))
  refine ⟨rows ++ [(g1, n1, c1), (g2, n1, c2)], valsw, ?_, dist_push k2 (fun i r hr => ?_) (by simp; omega), ?_, ?_⟩
  · rw [List.map_append]; exact hpush
  · have := hlt i r hr
    simp only
    omega
  · refine k3.keep (grown_alloc_then hg) (fun b hb => ⟨k4 b hb, own_block_ty k1.own hb⟩)
  · refine sep_of (W := w3.alloc o) k4 hsep (fun b hb => ?_)
    have := (k3.own.lt b hb).2
    simp
    omega
theorem puts_b {B : Nat} {la : List UInt8} {v j s : Nat} {va vw vw' : Value} {W w5 w6 : World} {n1 : Nat} {r3 : Value} {o : Obj} (h : PutsMid B la v j va vw W) (hs : s = 2 ^ j) (hn1 : n1 = (la ++ leB v s).length) (h45 : W.grownBy w5 none) (hBW : B ≤ W.heap.size)
    (o3 : w5.ownsRow W.heap.size 5 1 r3 n1 ((la ++ leB v s).map B8))
    (hg : (w5.alloc o).grownBy w6 vw.ownBlock) (hsep : vw'.ownBlock = vw.ownBlock ∨ ∀ b, vw'.ownBlock = some b → (w5.alloc o).heap.size ≤ b)
    (hnew : ∀ xs, w5.ownsRow B 22 1 vw (2 * j) xs → w6.ownsRow B 22 1 vw' (2 * j + 2) (xs ++ [r3, r3])) : PutsInv B la v (j + 1) va vw' w6 := by
  subst hs
  obtain ⟨rows, valsw, k1, k2, k3, k4⟩ := h.keepNone h45
  have z5 := h45.size
  have hvl : valsw.length = 2 * j := by rw [k3.len, clP_len]
  have hvw : w5.ownsRow B 22 1 vw (2 * j) valsw := by have h := k3.own; rw [hvl] at h; exact h
  have hpush := k3.push (vg' := vw') (news := [r3, r3]) (cn := [la ++ leB v (2 ^ j), la ++ leB v (2 ^ j)]) hg (by rw [hvl]; exact hnew _ hvw) rfl (fun i x l h1 h2 => by
    match i, h1, h2 with
    | 0, h1, h2 => simp at h1 h2; subst h1; subst h2; rw [← hn1]; exact own_mono_size o3 (by omega)
    | 1, h1, h2 => simp at h1 h2; subst h1; subst h2; rw [← hn1]; exact own_mono_size o3 (by omega))
  refine ⟨rows, valsw ++ [r3, r3], k1.keep (grown_alloc_then hg) (fun b hb => ⟨fun e => k4 b e hb, own_block_ty k3.own hb⟩), k2, hpush, fun b hb e => ?_⟩
  have hb2 := (k1.own.lt b hb).2
  rcases hsep with hs | hs
  · rw [hs] at e; exact k4 b hb e
  · have := hs b e
    simp at this
    omega
theorem clP_le (la : List UInt8) (v j : Nat) (hj : j ≤ 4) : ∀ l, l ∈ clP la v j → l.length ≤ la.length + 8 := by
  induction j with
  | zero => intro l h; cases h
  | succ j ih =>
    intro l h
    rcases List.mem_append.1 h with h | h
    · exact ih (by omega) l h
    · have e : l = la ++ leB v (2 ^ j) := by simpa using h
      subst e
      have h8 : 2 ^ j ≤ 8 := by
        rcases (show j = 0 ∨ j = 1 ∨ j = 2 ∨ j = 3 by omega) with rfl | rfl | rfl | rfl <;> decide
      simp [leB]
      omega
/-- where each row of such a list lies -/
theorem RowsOwn.where {B : Nat} {W : World} {vg : Value} {rows : List R3} {cl : List (List UInt8)} (h : RowsOwn B W vg (rows.map rowV) cl) {j : Nat} {r : R3} (hr : rows[j]? = some r) :
    B ≤ r.1 ∧ (∃ l, l ∈ cl ∧ r.2.1 = l.length) ∧ r.2.1 ≤ r.2.2 ∧ r.2.2 ≤ maxLen ∧ ∃ cur : Array Value, W.heap[r.1]? = some (.cells cur 5 (0, 0)) ∧ cur.size = r.2.2 := by
  have hj : j < cl.length := by rw [← h.len, List.length_map]; exact (List.getElem?_eq_some_iff.1 hr).1
  have ho := h.each j (rowV r) _ (by rw [List.getElem?_map, hr]; rfl) (List.getElem?_eq_getElem hj)
  have hmem : cl[j] ∈ cl := List.getElem_mem hj
  generalize cl[j] = l at ho hmem
  rcases ho.2 with ⟨hv, _⟩ | ⟨g, c, cur, hv, hB, hg, hn, hc, hs, ht⟩
  · cases hv
  · simp only [rowV, Value.slice.injEq, Option.some.injEq, Addr.mk.injEq] at hv
    obtain ⟨⟨e1, _⟩, e2, e3⟩ := hv
    rw [e1, e2, e3]
    exact ⟨hB, ⟨l, hmem, rfl⟩, hn, hc, cur, hg, by rw [hs, Nat.mul_one]⟩
theorem RowsOwn.mkd {B : Nat} {W : World} {vg : Value} {rows : List R3} {cl : List (List UInt8)} (h : RowsOwn B W vg (rows.map rowV) cl) : Mkd W rows 0 0 := by
  intro j r hr
  obtain ⟨_, _, h1, h2, cur, h3, h4⟩ := h.where hr
  exact ⟨h1, h2, cur, h3, h4, fun t _ hlt => by omega⟩
set_option maxHeartbeats 2000000 in
set_option maxRecDepth 100000 in
theorem bitsPuts_walk (w : World) (a : Option Addr) (n ca : Nat) (la : List UInt8) (ha : Reads w a n (la.map B8)) (hc : n ≤ ca) (hm : ca ≤ maxLen) (hb : n * 1 ≤ 140737488351232) (x : Int) (hx : (Lit.int .u64 x).wf = true) :
    Calls Try.prog 3 #[.slice a n ca, .int .u64 x] w fun e w' => e = .returned (.bool true) ∧ Below w.heap.size w w' := by
  obtain ⟨hx0, hx1⟩ := wf_u64 hx
  obtain ⟨v, rfl⟩ := Int.eq_ofNat_of_zero_le hx0
  have hv : v < 18446744073709551616 := by omega
  have HV := Lib.hid hv
  have hla := ha.len
  rw [List.length_map] at hla
  have HL := Lib.hid hla
  have HA := Lib.hid ha
  obtain ⟨i1, hi1, hy0, hy1, hy2⟩ := info_parts Try.infoSl8
  clear hx hx0 hx1 hv hla ha
  go_enter Try.func3, Try.ntmps3
  go_wp2_with fail
  refine (spare _ _ _ _ _ HA.out (by omega)).mono ?_
  rintro e w1 ⟨g, rfl, hg0, hrow, hb1⟩
  have hg1 := hrow.lt
  have HROW := Lib.hid hrow
  have B1 := Lib.hid hb1
  have z1 := hb1.size
  have hin : Reads w1 (some ⟨g, 0, none⟩) n (la.map B8) := by
    have h := hrow.reads 0 n (by rw [spareL, List.length_append, List.length_map, HL.out]; omega)
    rw [List.drop_zero, spareL, List.take_append_of_le_length (by rw [List.length_map, HL.out]; exact Nat.le_refl _), List.take_of_length_le (by rw [List.length_map, HL.out]; exact Nat.le_refl _)] at h
    exact h
  have HIN := Lib.hid hin
  have HA1 := Lib.hid (HA.out.keep hb1 (Nat.le_refl _))
  clear hrow hb1 hin HA
  go_wp2
  go_loopw [6, 7, 8] (fun va vw x wr => ∃ j s : Nat, j ≤ 4 ∧ s ≤ 16 ∧ Hid (s = 2 ^ j) ∧ x = .int .i64 s ∧ Hid (Below w1.heap.size w1 wr) ∧ w1.heap.size ≤ wr.heap.size ∧ Hid (PutsInv w1.heap.size la v j va vw wr)) (fun _ _ x _ => 17 - (intOf x).toNat)
  case atStart => exact ⟨0, 1, by omega, by omega, rfl, rfl, Below.refl _ _, Nat.le_refl _, [], [], RowsOwn.nil _ _, fun j j' r r' h => (by cases h), RowsOwn.nil _ _, fun b h => (by cases h)⟩
  case round =>
    obtain ⟨j, s, hj, hs16, HSJ, rfl, HB, zr, HI⟩ := hrel
    obtain ⟨va, rfl⟩ : ∃ va : Value, va = u6 := ⟨_, rfl⟩
    obtain ⟨vw, rfl⟩ : ∃ vw : Value, vw = u7 := ⟨_, rfl⟩
    by_cases hj4 : j < 4
    · have hs : Hid (s = 1 ∨ s = 2 ∨ s = 4 ∨ s = 8) ∧ 1 ≤ s ∧ s ≤ 8 := by
        have h := HSJ.out
        rcases (show j = 0 ∨ j = 1 ∨ j = 2 ∨ j = 3 by omega) with rfl | rfl | rfl | rfl <;> simp at h <;> subst h <;> exact ⟨by simp [Hid], by omega, by omega⟩
      obtain ⟨HS, hs1, hs8⟩ := hs
      go_wp2_with fail
      refine (putLaw wr _ n _ la v s HS.out (HIN.out.keep HB.out (Nat.le_refl _)) (by omega) HV.out).mono ?_
      rintro e w2 ⟨r1, rfl, hown1, hb2⟩
      have B2 := Lib.hid (HB.out.trans (hb2.mono zr))
      have z2 := hb2.size
      have hnl : (la ++ leB v s).length = n + s := by simp [leB, HL.out]
      rw [hnl] at hown1
      obtain ⟨g1, c1, rfl⟩ := own_pos hown1 (by omega)
      have HO1 := Lib.hid hown1
      have HG2 := Lib.hid (grown_below hb2)
      clear hb2 hown1
      go_wp2_with fail
      refine (putLaw w2 _ n _ la v s HS.out (HIN.out.keep B2.out (Nat.le_refl _)) (by omega) HV.out).mono ?_
      rintro e w3 ⟨r2, rfl, hown2, hb3⟩
      rw [hnl] at hown2
      obtain ⟨g2, c2, rfl⟩ := own_pos hown2 (by omega)
      have B3 := Lib.hid (B2.out.trans (hb3.mono (by omega)))
      have z3 := hb3.size
      have HO2 := Lib.hid hown2
      have HG3 := Lib.hid (grown_below hb3)
      have HNL := Lib.hid hnl
      clear hb3 hown2 hnl
      obtain ⟨⟨aa, ca2, xs, hva, hxo⟩, aw, cw, hvw⟩ := ((HI.out.keepNone HG2.out).keepNone HG3.out).shapes
      subst hva
      have HXO := Lib.hid hxo
      clear hxo
      go_wp2_with (at_builtin; refine wpList_append_sep rfl _ _ 25 rfl w1.heap.size 22 i1 (.slice none 0 0) 1 24 Try.underlying25 hi1 hy0 hy1 hy2 rfl (by decide) aa (2 * j) ca2 xs rfl (HXO.out.alloc _) ⟨w3.heap.size, 0, none⟩ 2 2 [.slice (some ⟨g1, 0, none⟩) (n + s) c1, .slice (some ⟨g2, 0, none⟩) (n + s) c2] rfl rfl (cell_two_new _ _ _ _) (by simp [Value.oneCell']) (by unfold maxLen; omega) (by omega) (by simp; omega) ?_; intro va' w4 hown4 hgrow4 hsep4)
      have hmid := puts_a (va' := va') (w4 := w4) HI.out HSJ.out HNL.out.symm HG2.out HG3.out zr HO1.out HO2.out hgrow4 hsep4 (fun xs' h => by rw [own_unique h HXO.out]; exact hown4)
      have HMID := Lib.hid hmid
      have z4 := hgrow4.size
      rw [World.size_alloc] at z4
      have B4 := Lib.hid ((B3.out.alloc (by omega) _).grown hgrow4 (by simp; omega) (fun b hb => (HXO.out.lt b hb).1))
      subst hvw
      clear hmid hgrow4 hown4 hsep4
      refine (cutLaw v s w4 HS.out HV.out).mono ?_
      rintro e w4' ⟨rfl, rfl⟩
      go_wp2_with fail
      refine (putRef w4 a n ca la (cutN v s) s (HA1.out.keep B4.out (Nat.le_refl _)) hc hm (by omega) (cutN_lt v s HV.out) hs8).mono ?_
      rintro e w5 ⟨r3, rfl, hown5, hb5⟩
      have hcb : leB (cutN v s) s = leB v s := leB_mod v s
      rw [hcb] at hown5
      have HO5 := Lib.hid hown5
      have HG5 := Lib.hid (grown_below hb5)
      have B5 := Lib.hid (B4.out.trans (hb5.mono (by omega)))
      have z5 := hb5.size
      clear hown5 hb5 hcb
      obtain ⟨a5, c5, rfl, _, _, _⟩ := reads_of_own HO5.out
      obtain ⟨xw, hxw⟩ : ∃ xw, w5.ownsRow w1.heap.size 22 1 (.slice aw (2 * j) cw) (2 * j) xw := by
        obtain ⟨rows, valsw, _, _, k3, _⟩ := HMID.out.keepNone HG5.out
        have h := k3.own
        rw [k3.len, clP_len] at h
        exact ⟨_, h⟩
      have HXW := Lib.hid hxw
      clear hxw
      go_wp2_with (at_builtin; refine wpList_append_sep rfl _ _ 25 rfl w1.heap.size 22 i1 (.slice none 0 0) 1 24 Try.underlying25 hi1 hy0 hy1 hy2 rfl (by decide) aw (2 * j) cw xw rfl (HXW.out.alloc _) ⟨w5.heap.size, 0, none⟩ 2 2 [.slice a5 (n + s) c5, .slice a5 (n + s) c5] rfl rfl (cell_two_new _ _ _ _) (by simp [Value.oneCell']) (by unfold maxLen; omega) (by omega) (by simp; omega) ?_; intro vw' w6 hown6 hgrow6 hsep6)
      have hfin := puts_b (vw' := vw') (w6 := w6) HMID.out HSJ.out HNL.out.symm HG5.out (by omega) HO5.out hgrow6 hsep6 (fun xs' h => by rw [own_unique h HXW.out]; exact hown6)
      have HFIN := Lib.hid hfin
      have z6 := hgrow6.size
      rw [World.size_alloc] at z6
      have B6 := Lib.hid ((B5.out.alloc (by omega) _).grown hgrow6 (by simp; omega) (fun b hb => (HXW.out.lt b hb).1))
      have HSJ2 : Hid (2 * s = 2 ^ (j + 1)) := by show _ = _; rw [HSJ.out, Nat.pow_succ]; omega
      clear hfin hgrow6 hown6 hsep6
      go_roundw
      case rel => exact ⟨j + 1, 2 * s, by omega, by omega, HSJ2, by go_num, B6, by omega, HFIN⟩
      case measure => simp [intOf] <;> omega
    · obtain rfl : j = 4 := by omega
      have hs16' : s = 16 := HSJ.out
      subst hs16'
      obtain ⟨rows, valsw, k1, k2, k3, k4⟩ := HI.out
      obtain ⟨aa, caa, hva, hra, _, _⟩ := k1.reads
      obtain ⟨aw, caw, hvw, hrw, _, _⟩ := k3.reads
      have hcl : (clP la v 4).length = 8 := clP_len la v 4
      rw [hcl] at hva hra hvw hrw
      have hcm : ∀ l, l ∈ clP la v 4 → l.length ≤ n + 8 := fun l h => by
        have := clP_le la v 4 (Nat.le_refl _) l h
        rw [HL.out] at this
        exact this
      have HCM := Lib.hid hcm
      have HRA := Lib.hid hra
      have HRW := Lib.hid hrw
      subst hva
      subst hvw
      have HK1 := Lib.hid k1
      have HD := Lib.hid k2
      have HCL := Lib.hid hcl
      clear hcm hra hrw k1 k2 k3 k4 hcl HI HSJ valsw
      go_wp2_with fail
      refine (eqRows wr aa aw 8 caa caw (clP la v 4) HRA.out HRW.out (by omega) (fun l h => by have := HCM.out l h; omega)).mono ?_
      rintro e wq ⟨rfl, hq⟩
      have hbq := hq.below wr.heap.size
      have zq := hbq.size
      have BQ := Lib.hid (HB.out.trans (hbq.mono zr))
      have HKQ := Lib.hid (HK1.out.keepNone (grown_below hbq))
      clear hq hbq HRA HRW HK1
      go_wp2_with fail
      refine (kept wq g a n ca la (HROW.out.keep BQ.out hg1) (HA1.out.keep BQ.out (Nat.le_refl _)) (by omega)).mono ?_
      rintro e wk ⟨rfl, hbk⟩
      have zk := hbk.size
      have BK := Lib.hid (BQ.out.trans (hbk.mono (by omega)))
      have HKK := Lib.hid (HKQ.out.keepNone (grown_below hbk))
      clear hbk HKQ
      have hout : wk.ownsRow w1.heap.size 22 1 (.slice aa 8 caa) 8 (rows.map rowV) := by
        have h := HKK.out.own
        rw [HKK.out.len, HCL.out] at h
        exact h
      have HOUT := Lib.hid hout
      clear hout
      go_wp2_with fail
      refine (apart1 wk w1.heap.size w1.heap.size aa 8 caa rows HOUT.out HKK.out.mkd HD.out (fun j r hr => by
        obtain ⟨h1, ⟨l, h2, h3⟩, _⟩ := HKK.out.where hr
        have := HCM.out l h2
        exact ⟨h1, by omega⟩) (by omega) (by omega)).mono ?_
      rintro e wa ⟨rfl, hba⟩
      have za := hba.size
      have BA := Lib.hid (BK.out.trans hba)
      clear hba HOUT HKK
      go_wp2_with fail
      refine (kept wa g a n ca la (HROW.out.keep BA.out hg1) (HA1.out.keep BA.out (Nat.le_refl _)) (by omega)).mono ?_
      rintro e wl ⟨rfl, hbl⟩
      have zl := hbl.size
      have BL := Lib.hid (BA.out.trans (hbl.mono (by omega)))
      clear hbl
      go_wp2_with fail
      refine (worksC wl).mono ?_
      rintro e w9 ⟨rfl, hb9⟩
      have B9 := Lib.hid (B1.out.trans ((BL.out.trans (hb9.mono (by omega))).mono z1))
      clear hb9
      go_wp2
      go_ret
      exact ⟨rfl, B9⟩
end Go.Proofs.Ytgcgbpehedkckaa
