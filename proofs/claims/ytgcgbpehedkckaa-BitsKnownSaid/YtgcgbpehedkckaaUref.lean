/- The reference's Units; the lines are the units of 64. -/
import Derived.Test.YtgcgbpehedkckaaGone
namespace Go.Proofs.Ytgcgbpehedkckaa
open Go.RowKit
theorem lineSt_range (a : Int) (ha : 0 ≤ a) (m : Nat) : lineSt ((List.range (m + 1)).map fun (i : Nat) => a + (i : Int)) = ((List.range (((a + m) / 8 - a / 8).toNat + 1)).map (fun (i : Nat) => a / 8 + (i : Int)), (a + m) / 8) := by
  induction m with
  | zero =>
    simp [lineSt, lineStep, List.range_succ]
    omega
  | succ m ih =>
    rw [List.range_succ, List.map_append, List.map_singleton, lineSt_next, ih, lineStep]
    by_cases h : (a + ((m + 1 : Nat) : Int)) / 8 = (a + (m : Int)) / 8
    · rw [if_pos h, h]
    · rw [if_neg h]
      have e : (a + ((m + 1 : Nat) : Int)) / 8 = (a + (m : Int)) / 8 + 1 := by omega
      obtain ⟨q, hq⟩ : ∃ q, q = ((a + (m : Int)) / 8 - a / 8).toNat := ⟨_, rfl⟩
      have e2 : ((a + ((m + 1 : Nat) : Int)) / 8 - a / 8).toNat = q + 1 := by omega
      have e3 : (List.range (q + 1 + 1)).map (fun (i : Nat) => a / 8 + (i : Int)) = (List.range (q + 1)).map (fun (i : Nat) => a / 8 + (i : Int)) ++ [a / 8 + ((q + 1 : Nat) : Int)] := by rw [List.range_succ (n := q + 1), List.map_append]; rfl
      have e4 : a / 8 + ((q + 1 : Nat) : Int) = (a + ((m + 1 : Nat) : Int)) / 8 := by omega
      rw [e2, e3, e4, ← hq]
theorem linesOf_eq (p n : Int) : linesOf p n = unitsL p n 64 := by
  unfold linesOf unitsL
  by_cases h : p < 0 ∨ n < 1 ∨ n > 9223372036854775807 - p
  · rw [if_pos h, if_pos h]; rfl
  · rw [if_neg h, if_neg h, lineSt_range _ (by omega)]
    have e1 : p / 8 / 8 = p / 64 := by omega
    have e2 : (p / 8 + (((p + n - 1) / 8 - p / 8).toNat : Int)) / 8 = (p + n - 1) / 64 := by omega
    simp only [e1, e2]
set_option maxHeartbeats 800000 in
theorem unitsRef8 (w : World) (p n : Int) (most : Nat) (h2 : most ≤ 1000000) (hp : p ≤ 9223372036854775807) (hp0 : -9223372036854775808 ≤ p) (hn : n ≤ 9223372036854775807) (hn0 : -9223372036854775808 ≤ n) :
    Calls Try.prog 36 #[.int .i64 p, .int .i64 n, .int .i64 8, .int .i64 most] w fun e w' => ∃ v, e = .returned v ∧ w'.ownsRow w.heap.size 3 1 v ((unitsL p n 8).take most).length (((unitsL p n 8).take most).map I8) ∧ Below w.heap.size w w' := by
  obtain ⟨i0, hi, hz0, hz1, hz2⟩ := info_parts Try.infoI64
  obtain ⟨ll, hll⟩ : ∃ ll, ll = (unitsL p n 8).take most := ⟨_, rfl⟩
  rw [← hll]
  have HLL := Lib.hid hll
  clear hll
  by_cases hc : p < 0 ∨ n < 1 ∨ n > 9223372036854775807 - p
  · have HE : Hid (unitsL p n 8 = []) := by show _ = _; unfold unitsL; rw [if_pos hc]
    have fin : w.ownsRow w.heap.size 3 1 (.slice none 0 0) ll.length (ll.map I8) := by
      rw [HLL.out, HE.out]; simpa using World.ownsRow_nil _ _ _ _
    have HF := Lib.hid fin
    clear fin
    by_cases a1 : p < 0
    · clear hc
      go_enter Try.func36, Try.ntmps36
      go_wp2
      go_ret
      exact ⟨_, rfl, HF.out, Below.refl _ _⟩
    · by_cases a2 : n < 1
      · clear hc
        go_enter Try.func36, Try.ntmps36
        go_wp2
        go_ret
        exact ⟨_, rfl, HF.out, Below.refl _ _⟩
      · have a3 : 9223372036854775807 - p < n := by omega
        clear hc
        go_enter Try.func36, Try.ntmps36
        go_wp2
        go_ret
        exact ⟨_, rfl, HF.out, Below.refl _ _⟩
  · have q1 : 0 ≤ p := by omega
    have q2 : 1 ≤ n := by omega
    have q3 : p + n ≤ 9223372036854775807 := by omega
    have q4 : ¬ 9223372036854775807 - p < n := by omega
    have q6 : p + (n - 1) ≤ 9223372036854775807 := by omega
    have HC := Lib.hid hc
    have HL := Lib.hid (unitsL_len (s := 8) hc)
    clear hc
    go_enter Try.func36, Try.ntmps36
    go_wp2
    go_loopw [9, 10] (fun v u wr => ∃ k : Nat, k ≤ most ∧ u = .int .i64 (p / 8 + (k : Int)) ∧ Hid (k ≤ (unitsL p n 8).length) ∧ wr.ownsRow w.heap.size 3 1 v k (((unitsL p n 8).take k).map I8) ∧ Below w.heap.size w wr) (fun _ u _ => (p / 8 + (most : Int) - intOf u).toNat)
    case atStart => exact ⟨0, Nat.zero_le _, by simp, Nat.zero_le _, by simpa using World.ownsRow_nil _ _ _ _, Below.refl _ _⟩
    case round =>
      obtain ⟨k, hk, rfl, HK, hown, hbel⟩ := hrel
      obtain ⟨a2, c2, rfl, hr, _, _⟩ := reads_of_own hown
      have hsz := hbel.size
      by_cases hlt : p / 8 + (k : Int) ≤ (p + (n - 1)) / 8
      · by_cases hkm : k < most
        · have hx := unitsL_at (s := 8) HC.out (by decide) (k := k) (by rw [show p + n - 1 = p + (n - 1) from by omega]; exact hlt)
          have HX := Lib.hid hx
          clear hx
          go_wp2_with (at_builtin; refine wpList_append_own _ rfl _ _ 50 rfl w.heap.size 3 i0 (.int .i64 0) 1 8 Try.underlying50 hi hz0 hz1 hz2 rfl (by decide) _ _ _ rfl (hown.alloc _) ⟨wr.heap.size, 0, none⟩ 1 1 [.int .i64 (p / 8 + (k : Int))] rfl rfl (cell_one_new _ _ _) (by simp [Value.oneCell']) (by unfold maxLen; omega) (by omega) (by simp; omega) ?_; intro v' w3 hown3 hgrow3 _)
          rw [map_next I8 HX.out] at hown3
          have hb3 := below_append hbel (by omega) hown hgrow3
          clear hgrow3
          go_roundw
          case rel => exact ⟨k + 1, by omega, by rw [show p / 8 + (k : Int) + 1 = p / 8 + ((k + 1 : Nat) : Int) from by omega], lt_of_at HX.out, hown3, hb3⟩
          case measure => simp [intOf]; omega
        · have HE : Hid ((unitsL p n 8).take most = (unitsL p n 8).take k ∧ ((unitsL p n 8).take k).length = k) := ⟨by rw [show most = k from by omega], by rw [List.length_take]; have := HK.out; omega⟩
          go_wp2
          go_ret
          refine ⟨_, rfl, ?_, hbel⟩
          rw [HLL.out, HE.out.1, HE.out.2]
          exact hown
      · have HE : Hid ((unitsL p n 8).take most = (unitsL p n 8).take k ∧ ((unitsL p n 8).take k).length = k) := by
          have h1 := HL.out
          have h2 := HK.out
          rw [show p + n - 1 = p + (n - 1) from by omega] at h1
          refine ⟨?_, by rw [List.length_take]; omega⟩
          rw [List.take_of_length_le (by omega), List.take_of_length_le (by omega)]
        go_wp2
        go_ret
        refine ⟨_, rfl, ?_, hbel⟩
        rw [HLL.out, HE.out.1, HE.out.2]
        exact hown
set_option maxHeartbeats 800000 in
theorem unitsRef64 (w : World) (p n : Int) (most : Nat) (h2 : most ≤ 1000000) (hp : p ≤ 9223372036854775807) (hp0 : -9223372036854775808 ≤ p) (hn : n ≤ 9223372036854775807) (hn0 : -9223372036854775808 ≤ n) :
    Calls Try.prog 36 #[.int .i64 p, .int .i64 n, .int .i64 64, .int .i64 most] w fun e w' => ∃ v, e = .returned v ∧ w'.ownsRow w.heap.size 3 1 v ((unitsL p n 64).take most).length (((unitsL p n 64).take most).map I8) ∧ Below w.heap.size w w' := by
  obtain ⟨i0, hi, hz0, hz1, hz2⟩ := info_parts Try.infoI64
  obtain ⟨ll, hll⟩ : ∃ ll, ll = (unitsL p n 64).take most := ⟨_, rfl⟩
  rw [← hll]
  have HLL := Lib.hid hll
  clear hll
  by_cases hc : p < 0 ∨ n < 1 ∨ n > 9223372036854775807 - p
  · have HE : Hid (unitsL p n 64 = []) := by show _ = _; unfold unitsL; rw [if_pos hc]
    have fin : w.ownsRow w.heap.size 3 1 (.slice none 0 0) ll.length (ll.map I8) := by
      rw [HLL.out, HE.out]; simpa using World.ownsRow_nil _ _ _ _
    have HF := Lib.hid fin
    clear fin
    by_cases a1 : p < 0
    · clear hc
      go_enter Try.func36, Try.ntmps36
      go_wp2
      go_ret
      exact ⟨_, rfl, HF.out, Below.refl _ _⟩
    · by_cases a2 : n < 1
      · clear hc
        go_enter Try.func36, Try.ntmps36
        go_wp2
        go_ret
        exact ⟨_, rfl, HF.out, Below.refl _ _⟩
      · have a3 : 9223372036854775807 - p < n := by omega
        clear hc
        go_enter Try.func36, Try.ntmps36
        go_wp2
        go_ret
        exact ⟨_, rfl, HF.out, Below.refl _ _⟩
  · have q1 : 0 ≤ p := by omega
    have q2 : 1 ≤ n := by omega
    have q3 : p + n ≤ 9223372036854775807 := by omega
    have q4 : ¬ 9223372036854775807 - p < n := by omega
    have q6 : p + (n - 1) ≤ 9223372036854775807 := by omega
    have HC := Lib.hid hc
    have HL := Lib.hid (unitsL_len (s := 64) hc)
    clear hc
    go_enter Try.func36, Try.ntmps36
    go_wp2
    go_loopw [9, 10] (fun v u wr => ∃ k : Nat, k ≤ most ∧ u = .int .i64 (p / 64 + (k : Int)) ∧ Hid (k ≤ (unitsL p n 64).length) ∧ wr.ownsRow w.heap.size 3 1 v k (((unitsL p n 64).take k).map I8) ∧ Below w.heap.size w wr) (fun _ u _ => (p / 64 + (most : Int) - intOf u).toNat)
    case atStart => exact ⟨0, Nat.zero_le _, by simp, Nat.zero_le _, by simpa using World.ownsRow_nil _ _ _ _, Below.refl _ _⟩
    case round =>
      obtain ⟨k, hk, rfl, HK, hown, hbel⟩ := hrel
      obtain ⟨a2, c2, rfl, hr, _, _⟩ := reads_of_own hown
      have hsz := hbel.size
      by_cases hlt : p / 64 + (k : Int) ≤ (p + (n - 1)) / 64
      · by_cases hkm : k < most
        · have hx := unitsL_at (s := 64) HC.out (by decide) (k := k) (by rw [show p + n - 1 = p + (n - 1) from by omega]; exact hlt)
          have HX := Lib.hid hx
          clear hx
          go_wp2_with (at_builtin; refine wpList_append_own _ rfl _ _ 50 rfl w.heap.size 3 i0 (.int .i64 0) 1 8 Try.underlying50 hi hz0 hz1 hz2 rfl (by decide) _ _ _ rfl (hown.alloc _) ⟨wr.heap.size, 0, none⟩ 1 1 [.int .i64 (p / 64 + (k : Int))] rfl rfl (cell_one_new _ _ _) (by simp [Value.oneCell']) (by unfold maxLen; omega) (by omega) (by simp; omega) ?_; intro v' w3 hown3 hgrow3 _)
          rw [map_next I8 HX.out] at hown3
          have hb3 := below_append hbel (by omega) hown hgrow3
          clear hgrow3
          go_roundw
          case rel => exact ⟨k + 1, by omega, by rw [show p / 64 + (k : Int) + 1 = p / 64 + ((k + 1 : Nat) : Int) from by omega], lt_of_at HX.out, hown3, hb3⟩
          case measure => simp [intOf]; omega
        · have HE : Hid ((unitsL p n 64).take most = (unitsL p n 64).take k ∧ ((unitsL p n 64).take k).length = k) := ⟨by rw [show most = k from by omega], by rw [List.length_take]; have := HK.out; omega⟩
          go_wp2
          go_ret
          refine ⟨_, rfl, ?_, hbel⟩
          rw [HLL.out, HE.out.1, HE.out.2]
          exact hown
      · have HE : Hid ((unitsL p n 64).take most = (unitsL p n 64).take k ∧ ((unitsL p n 64).take k).length = k) := by
          have h1 := HL.out
          have h2 := HK.out
          rw [show p + n - 1 = p + (n - 1) from by omega] at h1
          refine ⟨?_, by rw [List.length_take]; omega⟩
          rw [List.take_of_length_le (by omega), List.take_of_length_le (by omega)]
        go_wp2
        go_ret
        refine ⟨_, rfl, ?_, hbel⟩
        rw [HLL.out, HE.out.1, HE.out.2]
        exact hown
end Go.Proofs.Ytgcgbpehedkckaa
