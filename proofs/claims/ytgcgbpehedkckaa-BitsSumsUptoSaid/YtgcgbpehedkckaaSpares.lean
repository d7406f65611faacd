/- SpareRows, KeptRows. -/
import Derived.Test.YtgcgbpehedkckaaSpare
namespace Go.Proofs.Ytgcgbpehedkckaa
open Go.RowKit
theorem Try.infoSl8' : (Try.prog.info? 22).map (fun i => (i.zero, i.size, i.bytes)) = some (some (.slice none 0 0), 1, 24) := by kernel_rfl
/-- the two bytes behind the list -/
def tailL (i : Nat) : List Value := [.int .u8 ((i : Int) % 256), .int .u8 119]
/-- place i of the whole list -/
def SRow (W : World) (B G n : Nat) (ll : List (List UInt8)) (vals : List Value) (i : Nat) : Prop :=
  (∀ l, ll[i]? = some l → ∃ g, vals[i]? = some (.slice (some ⟨g, 0, none⟩) l.length (l.length + 80)) ∧ B ≤ g ∧ g ≠ G ∧ Row W g 5 (spareL l)) ∧
  (n ≤ i → ∃ g, vals[i]? = some (.slice (some ⟨g, 0, none⟩) 2 2) ∧ B ≤ g ∧ g ≠ G ∧ Row W g 5 (tailL i))
def SR (W : World) (B G n : Nat) (ll : List (List UInt8)) (vals : List Value) (k : Nat) : Prop :=
  Row W G 22 vals ∧ vals.length = n + 3 ∧ ll.length = n ∧ B ≤ G ∧ ∀ i, i < k → SRow W B G n ll vals i
theorem SR.keep {C : Nat} {W W' : World} {B G n k : Nat} {ll : List (List UInt8)} {vals : List Value} (h : SR W B G n ll vals k) (hb : Below C W W') (hC : W.heap.size ≤ C) : SR W' B G n ll vals k := by
  obtain ⟨h1, h2, h3, h4, h5⟩ := h
  refine ⟨h1.keep hb (Nat.lt_of_lt_of_le h1.lt hC), h2, h3, h4, fun i hi => ⟨fun l hl => ?_, fun hn => ?_⟩⟩
  · obtain ⟨g, a, b, c, d⟩ := (h5 i hi).1 l hl
    exact ⟨g, a, b, c, d.keep hb (Nat.lt_of_lt_of_le d.lt hC)⟩
  · obtain ⟨g, a, b, c, d⟩ := (h5 i hi).2 hn
    exact ⟨g, a, b, c, d.keep hb (Nat.lt_of_lt_of_le d.lt hC)⟩
/-- one place more -/
theorem SR.step {W W' : World} {B G n k : Nat} {ll : List (List UInt8)} {vals : List Value} (h : SR W B G n ll vals k) (hk : k < n + 3) {v : Value}
    (hG : Row W' G 22 (vals.set k v)) (ho : ∀ (g : Nat) (xs : List Value), g ≠ G → Row W g 5 xs → Row W' g 5 xs)
    (h1 : ∀ l, ll[k]? = some l → ∃ g, v = .slice (some ⟨g, 0, none⟩) l.length (l.length + 80) ∧ B ≤ g ∧ g ≠ G ∧ Row W' g 5 (spareL l))
    (h2 : n ≤ k → ∃ g, v = .slice (some ⟨g, 0, none⟩) 2 2 ∧ B ≤ g ∧ g ≠ G ∧ Row W' g 5 (tailL k)) :
    SR W' B G n ll (vals.set k v) (k + 1) := by
  obtain ⟨r1, r2, r3, r4, r5⟩ := h
  refine ⟨hG, by rw [List.length_set]; exact r2, r3, r4, fun i hi => ?_⟩
  by_cases hik : i = k
  · subst hik
    have hv : (vals.set i v)[i]? = some v := List.getElem?_set_self (by omega)
    refine ⟨fun l hl => ?_, fun hn => ?_⟩
    · obtain ⟨g, e, b, c, d⟩ := h1 l hl
      exact ⟨g, by rw [hv, e], b, c, d⟩
    · obtain ⟨g, e, b, c, d⟩ := h2 hn
      exact ⟨g, by rw [hv, e], b, c, d⟩
  · have hv : (vals.set k v)[i]? = vals[i]? := List.getElem?_set_ne (Ne.symm hik)
    refine ⟨fun l hl => ?_, fun hn => ?_⟩
    · obtain ⟨g, e, b, c, d⟩ := (r5 i (by omega)).1 l hl
      exact ⟨g, by rw [hv, e], b, c, ho g _ c d⟩
    · obtain ⟨g, e, b, c, d⟩ := (r5 i (by omega)).2 hn
      exact ⟨g, by rw [hv, e], b, c, ho g _ c d⟩
theorem SR.put {W : World} {B G n k : Nat} {ll : List (List UInt8)} {vals : List Value} (h : SR W B G n ll vals k) (hk : k < n + 3) {v : Value}
    (h1 : ∀ l, ll[k]? = some l → ∃ g, v = .slice (some ⟨g, 0, none⟩) l.length (l.length + 80) ∧ B ≤ g ∧ g ≠ G ∧ Row W g 5 (spareL l))
    (h2 : n ≤ k → ∃ g, v = .slice (some ⟨g, 0, none⟩) 2 2 ∧ B ≤ g ∧ g ≠ G ∧ Row W g 5 (tailL k)) :
    SR (W.setCell ⟨G, k, none⟩ v) B G n ll (vals.set k v) (k + 1) := by
  refine h.step hk (h.1.set k v) (fun g xs hg hr => hr.other (fun e => hg e.symm) v) (fun l hl => ?_) (fun hn => ?_)
  · obtain ⟨g, e, b, c, d⟩ := h1 l hl
    exact ⟨g, e, b, c, d.other (fun e => c e.symm) v⟩
  · obtain ⟨g, e, b, c, d⟩ := h2 hn
    exact ⟨g, e, b, c, d.other (fun e => c e.symm) v⟩
theorem SR.tail {W : World} {B G n k : Nat} {ll : List (List UInt8)} {vals : List Value} (h : SR W B G n ll vals k) (hk : k < n + 3) (hn : n ≤ k) (hB : B ≤ W.heap.size) (hG : G < W.heap.size) :
    SR ((W.setCell ⟨G, k, none⟩ (.slice (some ⟨W.heap.size, 0, none⟩) 2 2)).alloc (.cells (tailL k).toArray 5)) B G n ll (vals.set k (.slice (some ⟨W.heap.size, 0, none⟩) 2 2)) (k + 1) := by
  refine h.step hk ((h.1.set k _).alloc _) (fun g xs hg hr => (hr.other (fun e => hg e.symm) _).alloc _) (fun l hl => ?_) (fun _ => ⟨W.heap.size, rfl, hB, by omega, ?_⟩)
  · have h1 := (List.getElem?_eq_some_iff.1 hl).1
    have h2 := h.2.2.1
    omega
  · have h := row_new (W.setCell ⟨G, k, none⟩ (.slice (some ⟨W.heap.size, 0, none⟩) 2 2)) (tailL k) 5
    rw [World.size_setCell] at h
    exact h
set_option maxHeartbeats 400000 in
theorem keptQ (w : World) (g : Nat) (b : Option Addr) (n cb : Nat) (la : List UInt8) (ha : Row w g 5 (spareL la)) (hb : Reads w b n (la.map B8)) (hn : n ≤ 140737488355328) :
    Calls Try.prog 18 #[.slice (some ⟨g, 0, none⟩) n (n + 80), .slice b n cb] w fun e w' => e = .returned (.bool true) ∧ Quiet w w' := by
  have hln := hb.len
  rw [List.length_map] at hln
  have hsl : (spareL la).length = n + 80 := by
    simp [spareL]
    exact hln
  have hra := ha.reads 0 n (by omega)
  have e1 : ((spareL la).drop 0).take n = la.map B8 := by
    rw [List.drop_zero, spareL, List.take_append_of_le_length (by simp; omega), List.take_of_length_le (by simp; omega)]
  rw [e1] at hra
  have hsame : sameB la la = true := by simp [sameB]
  have HS := Lib.hid hsl
  have HN := Lib.hid hln
  have hslice : ((n : Int) + 80).toNat = n + 80 := by omega
  clear hsl hln e1
  go_enter Try.func18, Try.ntmps18
  go_wp2_with (go_at_call 24; refine (eqBytes _ _ _ _ _ _ _ _ _ hra hb (by omega) (by omega)).mono ?_; rw [hsame]; rintro e w' ⟨rfl, hb1⟩)
  have hq1 := Lib.hid hb1
  replace hb1 := hb1.below w.heap.size
  clear hslice hsame
  have hrow := ha.keep hb1 ha.lt
  go_loop [6] (fun i => ∃ k : Nat, n ≤ k ∧ k ≤ n + 80 ∧ i = .int .i64 k) (fun i => n + 80 - (intOf i).toNat)
  case atStart => exact ⟨n, Nat.le_refl _, by omega, rfl⟩
  case round =>
    obtain ⟨k, hk0, hk, rfl⟩ := hrel
    by_cases hlt : k < n + 80
    · have hcell : w'.cell? ⟨g, k, none⟩ = some (.int .u8 (bits .xor .i64 165 (k : Int) % 256)) := by
        rw [hrow.cell, spareL, List.getElem?_append_right (by rw [List.length_map, HN.out]; omega), List.getElem?_map, List.length_map, HN.out, List.getElem?_range (by omega)]
        simp only [Option.map_some, markI]
        rw [show n + (k - n) = k from by omega]
      have hbe : (bits .xor .i64 165 (k : Int) % 256 != bits .xor .i64 165 (k : Int) % 256) = false := by simp
      go_wp2
      go_round
      case rel => exact ⟨k + 1, by omega, by omega, by go_num⟩
      case measure => simp [intOf]; omega
    · obtain rfl : k = n + 80 := by omega
      go_wp2
      go_ret
      exact ⟨rfl, hq1⟩
set_option maxHeartbeats 1000000 in
theorem spareRows (w : World) (a : Option Addr) (n ca : Nat) (ll : List (List UInt8)) (ha : ReadsRows w a n ll) (hn : n ≤ 1048576) (hm : ∀ l, l ∈ ll → l.length ≤ 140737488355000) :
    Calls Try.prog 25 #[.slice a n ca] w fun e w' => ∃ G vals, e = .returned (.slice (some ⟨G, 0, none⟩) n (n + 3)) ∧ SR w' w.heap.size G n ll vals (n + 3) ∧ Below w.heap.size w w' := by
  obtain ⟨i1, hi1, hy0, hy1, hy2⟩ := info_parts Try.infoSl8'
  have HL := Lib.hid ha.len
  have HM := Lib.hid hm
  have HA := Lib.hid ha
  clear hm ha
  go_enter Try.func25, Try.ntmps25
  go_wp2_with (at_make; refine wpList_make_row _ rfl (.tmp 7) (.tmp 7) 25 rfl 22 i1 (.slice none 0 0) Try.underlying25 hi1 hy0 hy1 rfl .i64 .i64 ((n : Int) + 3) ((n : Int) + 3) (n + 3) (n + 3) rfl rfl (by omega) (by omega) (Nat.le_refl _) (by rw [hy2]; omega) (by unfold maxLen; omega) w.heap.size w (Below.refl _ _) (Nat.le_refl _) ?_; intro w1 hrow1 hb1)
  have z1 := hb1.size
  have hg1 := hrow1.lt
  have HS := Lib.hid (show SR w1 w.heap.size w.heap.size n ll (List.replicate (n + 3) (.slice none 0 0)) 0 from ⟨hrow1, by simp, HL.out, Nat.le_refl _, fun i hi => absurd hi (by omega)⟩)
  have B1 := Lib.hid hb1
  clear hrow1 hb1
  go_loopw [4] (fun x wr => ∃ (k : Nat) (vals : List Value), k ≤ n + 3 ∧ x = .int .i64 k ∧ Hid (SR wr w.heap.size w.heap.size n ll vals k) ∧ Hid (Below w.heap.size w wr) ∧ w.heap.size < wr.heap.size) (fun x _ => n + 3 - (intOf x).toNat)
  case atStart => exact ⟨0, _, Nat.zero_le _, rfl, HS, B1, hg1⟩
  case round =>
    clear HS B1
    obtain ⟨k, vals, hk, rfl, HS, HB, zr⟩ := hrel
    by_cases hlt : k < n + 3
    · by_cases hlt2 : k < n
      · obtain ⟨b, o, a', l, c', rfl, hb, hx, hcx, hrl, hl1, hl2⟩ := (HA.out.keep HB.out (Nat.le_refl _)).at hlt2
        have hll := HM.out l (List.mem_of_getElem? hx)
        have HX := Lib.hid hx
        have HRL := Lib.hid hrl
        clear hx hrl
        go_wp2_with fail
        refine (spare wr a' l.length c' l HRL.out (by omega)).mono ?_
        rintro e w2 ⟨g, rfl, hg0, hrow, hb2⟩
        have hSR := HS.out.keep hb2 (Nat.le_refl _)
        have B2 := Lib.hid (HB.out.trans (hb2.mono (by omega)))
        have z2 := hb2.size
        obtain ⟨y, hy⟩ : ∃ y, vals[k]? = some y := ⟨vals[k]'(by have := hSR.2.1; omega), List.getElem?_eq_getElem _⟩
        have hcg : w2.cell? ⟨w.heap.size, k, none⟩ = some y := (hSR.1.cell k).trans hy
        have hfg : w2.frozen? ⟨w.heap.size, k, none⟩ = false := hSR.1.frozen k
        have HS2 := Lib.hid hSR
        have HRW := Lib.hid hrow
        clear hSR hrow hb2 hy
        go_wp2
        go_roundw
        case rel =>
          refine ⟨k + 1, _, by omega, by go_num, HS2.out.put hlt (v := .slice (some ⟨g, 0, none⟩) l.length (l.length + 80)) (fun l' hl' => ?_) (fun h => absurd h (by omega)), B2.out.setCell (Nat.le_refl _) _, by rw [World.size_setCell]; omega⟩
          rw [HX.out] at hl'
          obtain rfl := Option.some.inj hl'
          exact ⟨g, rfl, by omega, by omega, HRW.out⟩
        case measure => simp [intOf]; omega
      · obtain ⟨y, hy⟩ : ∃ y, vals[k]? = some y := ⟨vals[k]'(by have := HS.out.2.1; omega), List.getElem?_eq_getElem _⟩
        have hcg : wr.cell? ⟨w.heap.size, k, none⟩ = some y := (HS.out.1.cell k).trans hy
        have hfg : wr.frozen? ⟨w.heap.size, k, none⟩ = false := HS.out.1.frozen k
        clear hy
        go_wp2
        go_roundw
        case rel =>
          have hsr := HS.out.tail hlt (by omega) (by omega) zr
          exact ⟨k + 1, _, by omega, by go_num, hsr, (HB.out.setCell (Nat.le_refl _) _).alloc (by rw [World.size_setCell]; omega) _, by rw [World.size_alloc, World.size_setCell]; omega⟩
        case measure => simp [intOf]; omega
    · obtain rfl : k = n + 3 := by omega
      go_wp2
      go_ret
      exact ⟨_, _, rfl, HS.out, HB.out⟩
set_option maxHeartbeats 1000000 in
theorem keptRows (w : World) (B G : Nat) (b : Option Addr) (n cb : Nat) (ll : List (List UInt8)) (vals : List Value) (hs : SR w B G n ll vals (n + 3)) (hb : ReadsRows w b n ll) (hn : n ≤ 1048576) (hm : ∀ l, l ∈ ll → l.length ≤ 140737488355000) :
    Calls Try.prog 31 #[.slice (some ⟨G, 0, none⟩) n (n + 3), .slice b n cb] w fun e w' => e = .returned (.bool true) ∧ Quiet w w' := by
  have HM := Lib.hid hm
  have HS := Lib.hid hs
  have HB := Lib.hid hb
  have hne : ((n : Int) != (n : Int)) = false := by simp
  have hslice : ((n : Int) + 3).toNat = n + 3 := by omega
  clear hm hs hb
  go_enter Try.func31, Try.ntmps31
  go_wp2
  clear hne
  go_loopw [5] (fun i wr => ∃ k : Nat, k ≤ n ∧ i = .int .i64 k ∧ Quiet w wr) (fun i _ => n - (intOf i).toNat)
  case atStart => exact ⟨0, Nat.zero_le _, rfl, Quiet.refl _⟩
  case round =>
    obtain ⟨k, hk, rfl, hq⟩ := hrel
    by_cases hlt : k < n
    · obtain ⟨b2, o2, a2, l, c2, rfl, hb2, hx, hcy, hr2, _, _⟩ := (HB.out.keep (hq.below w.heap.size) (Nat.le_refl _)).at hlt
      have hS := HS.out.keep (hq.below w.heap.size) (Nat.le_refl _)
      obtain ⟨g, hv, hg0, _, hrow⟩ := (hS.2.2.2.2 k (by omega)).1 l hx
      have hcx : wr.cell? ⟨G, k, none⟩ = some (.slice (some ⟨g, 0, none⟩) l.length (l.length + 80)) := (hS.1.cell k).trans hv
      have hl := HM.out l (List.mem_of_getElem? hx)
      have hcall : ∀ m, Calls Try.prog 18 #[.slice (some ⟨g, 0, none⟩) l.length (l.length + 80), .slice a2 l.length c2] (wr.drewN m) fun e w' => e = .returned (.bool true) ∧ ∃ m', w' = (wr.drewN m).drewN m' := fun m =>
        keptQ (wr.drewN m) g a2 l.length c2 l (hrow.keep (Quiet.below ⟨m, rfl⟩ wr.heap.size) hrow.lt) (hr2.drewN m) (by omega)
      have HC := Lib.hid hcall
      clear hcall hx hr2 hS hv hrow hl hg0
      obtain ⟨n1, hn1⟩ : ∃ n1, n1 = l.length := ⟨_, rfl⟩
      rw [← hn1] at hcx hcy HC
      clear hn1
      go_wp2
      go_quiet ((go_at_call 18; exact Calls.quiet_of (HC.out _)))
      go_wp2
      go_roundw
      case rel => exact ⟨k + 1, by omega, by go_num, hq.drewN _⟩
      case measure => simp [intOf] <;> omega
    · obtain rfl : k = n := by omega
      obtain ⟨wq, rfl⟩ : ∃ wq : World, wq = wr := ⟨_, rfl⟩
      go_wp2
      go_loopw [7] (fun i wr => ∃ j : Nat, k ≤ j ∧ j ≤ k + 3 ∧ i = .int .i64 j ∧ Quiet w wr) (fun i _ => k + 3 - (intOf i).toNat)
      case atStart => exact ⟨k, Nat.le_refl _, by omega, rfl, hq⟩
      case round =>
        clear hq
        obtain ⟨j, hj0, hj, rfl, hq⟩ := hrel
        by_cases hlt : j < k + 3
        · have hS := HS.out.keep (hq.below w.heap.size) (Nat.le_refl _)
          obtain ⟨g, hv, hg0, _, hrow⟩ := (hS.2.2.2.2 j hlt).2 hj0
          have hcx : wr.cell? ⟨G, j, none⟩ = some (.slice (some ⟨g, 0, none⟩) 2 2) := (hS.1.cell j).trans hv
          have hc0 : wr.cell? ⟨g, 0, none⟩ = some (.int .u8 ((j : Int) % 256)) := hrow.cell 0
          have hc1 : wr.cell? ⟨g, 1, none⟩ = some (.int .u8 119) := hrow.cell 1
          have hbe : ((j : Int) % 256 != (j : Int) % 256) = false := by simp
          clear hS hv hrow
          go_wp2
          go_roundw
          case rel => exact ⟨j + 1, by omega, by omega, by go_num, hq⟩
          case measure => simp [intOf]; omega
        · obtain rfl : j = k + 3 := by omega
          go_wp2
          go_ret
          exact ⟨rfl, hq⟩
end Go.Proofs.Ytgcgbpehedkckaa
