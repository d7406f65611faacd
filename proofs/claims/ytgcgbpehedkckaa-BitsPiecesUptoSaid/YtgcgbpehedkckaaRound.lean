/- Round, both. -/
import Derived.Test.YtgcgbpehedkckaaBase
namespace Go.Proofs.Ytgcgbpehedkckaa
open Go.RowKit
def roundN (n to : Int) : Int := if n < 0 ∨ to < 1 then 0 else if n % to = 0 then n else if n > 9223372036854775807 - (to - n % to) then 0 else n + (to - n % to)
def roundE (n to : Int) : Int := if n < 0 ∨ to < 1 then 2 else if n % to = 0 then 0 else if n > 9223372036854775807 - (to - n % to) then 2 else 0
theorem rem_of (n to : Int) (h1 : 0 ≤ n) (h2 : 1 ≤ to) : 0 ≤ n % to ∧ n % to < to := ⟨Int.emod_nonneg _ (by omega), Int.emod_lt_of_pos _ (by omega)⟩
theorem more_of (n to : Int) (h1 : 0 ≤ n) (h2 : 1 ≤ to) : -(n % to) % to = if n % to = 0 then 0 else to - n % to := by
  have := rem_of n to h1 h2
  rw [show -(n % to) % to = (to - n % to) % to from by simp]
  split
  · rename_i h; rw [h, Int.sub_zero, Int.emod_self]
  · exact Int.emod_eq_of_lt (by omega) (by omega)
theorem round_big {n to : Int} (h1 : 0 ≤ n) (h2 : 1 ≤ to) (h0 : n ≤ 9223372036854775807) (h : 9223372036854775807 - -(n % to) % to < n) : roundN n to = 0 ∧ roundE n to = 2 := by
  have hr := rem_of n to h1 h2
  rw [more_of n to h1 h2] at h
  unfold roundN roundE
  have e1 : ¬ (n < 0 ∨ to < 1) := by omega
  rw [if_neg e1, if_neg e1]
  by_cases hz : n % to = 0
  · rw [if_pos hz] at h; omega
  · rw [if_neg hz] at h
    rw [if_neg hz, if_neg hz, if_pos (by omega), if_pos (by omega)]
    exact ⟨rfl, rfl⟩
theorem round_fits {n to : Int} (h1 : 0 ≤ n) (h2 : 1 ≤ to) (h : ¬ 9223372036854775807 - -(n % to) % to < n) : roundN n to = n + -(n % to) % to ∧ roundE n to = 0 := by
  have hr := rem_of n to h1 h2
  rw [more_of n to h1 h2] at h ⊢
  unfold roundN roundE
  have e1 : ¬ (n < 0 ∨ to < 1) := by omega
  rw [if_neg e1, if_neg e1]
  by_cases hz : n % to = 0
  · rw [if_pos hz, if_pos hz, if_pos hz]; exact ⟨by omega, rfl⟩
  · rw [if_neg hz] at h
    rw [if_neg hz, if_neg hz, if_neg hz, if_neg (by omega), if_neg (by omega)]
    exact ⟨rfl, rfl⟩
theorem more_bounds {n to : Int} (h1 : 0 ≤ n) (h2 : 1 ≤ to) : 0 ≤ -(n % to) % to ∧ -(n % to) % to ≤ to := by
  have hr := rem_of n to h1 h2
  rw [more_of n to h1 h2]; split <;> omega
theorem ret2_int {k k' : IntKind} {a b c d : Int} (h : a = b) (h' : c = d) : Ending.returned (.tuple #[.int k a, .int k' c]) = Ending.returned (.tuple #[.int k b, .int k' d]) := by rw [h, h']
set_option maxHeartbeats 400000 in
theorem roundBits (n to : Int) (w : World) (h0 : n ≤ 9223372036854775807) (h1 : to ≤ 9223372036854775807) :
    Calls Try.prog 33 #[.int .i64 n, .int .i64 to] w fun e w' => e = .returned (.tuple #[.int .i64 (roundN n to), .int .i64 (roundE n to)]) ∧ w = w' := by
  by_cases hn : n < 0
  · have e1 : roundN n to = 0 := by simp [roundN, hn]
    have e2 : roundE n to = 2 := by simp [roundE, hn]
    rw [e1, e2]
    go_enter Try.func33, Try.ntmps33
    go_wp2
    go_ret2
    exact ⟨rfl, rfl⟩
  · by_cases ht : to < 1
    · have e1 : roundN n to = 0 := by simp [roundN, ht]
      have e2 : roundE n to = 2 := by simp [roundE, ht]
      rw [e1, e2]
      go_enter Try.func33, Try.ntmps33
      go_wp2
      go_ret2
      exact ⟨rfl, rfl⟩
    · have hr := rem_of n to (by omega) (by omega)
      have hmb := more_bounds (n := n) (to := to) (by omega) (by omega)
      have hnn : 0 ≤ n := by omega
      have htt : 1 ≤ to := by omega
      clear hn ht
      by_cases hc : 9223372036854775807 - -(n % to) % to < n
      · have HR := Lib.hid (round_big hnn htt h0 hc)
        go_enter Try.func33, Try.ntmps33
        go_wp2
        go_ret2
        exact ⟨ret2_int HR.out.1.symm HR.out.2.symm, rfl⟩
      · have HR := Lib.hid (round_fits hnn htt hc)
        go_enter Try.func33, Try.ntmps33
        go_wp2
        go_ret2
        exact ⟨ret2_int HR.out.1.symm HR.out.2.symm, rfl⟩
set_option maxHeartbeats 400000 in
theorem roundRef (n to : Int) (w : World) (h0 : n ≤ 9223372036854775807) (h1 : to ≤ 9223372036854775807) :
    Calls Try.prog 34 #[.int .i64 n, .int .i64 to] w fun e w' => e = .returned (.tuple #[.int .i64 (roundN n to), .int .i64 (roundE n to)]) ∧ w = w' := by
  by_cases hn : n < 0
  · have e1 : roundN n to = 0 := by simp [roundN, hn]
    have e2 : roundE n to = 2 := by simp [roundE, hn]
    rw [e1, e2]
    go_enter Try.func34, Try.ntmps34
    go_wp2
    go_ret2
    exact ⟨rfl, rfl⟩
  · by_cases ht : to < 1
    · have e1 : roundN n to = 0 := by simp [roundN, ht]
      have e2 : roundE n to = 2 := by simp [roundE, ht]
      rw [e1, e2]
      go_enter Try.func34, Try.ntmps34
      go_wp2
      go_ret2
      exact ⟨rfl, rfl⟩
    · have hr := rem_of n to (by omega) (by omega)
      have hnn : 0 ≤ n := by omega
      have htt : 1 ≤ to := by omega
      have e0 : ¬ (n < 0 ∨ to < 1) := by omega
      by_cases hz : n % to = 0
      · have HR : Hid (roundN n to = n ∧ roundE n to = 0) := by
          show _ ∧ _
          unfold roundN roundE
          rw [if_neg e0, if_neg e0, if_pos hz, if_pos hz]
          exact ⟨rfl, rfl⟩
        have hzb : (n % to == 0) = true := by simpa using hz
        clear e0 hn ht
        go_enter Try.func34, Try.ntmps34
        go_wp2
        go_ret2
        exact ⟨ret2_int HR.out.1.symm HR.out.2.symm, rfl⟩
      · have hzb : (n % to == 0) = false := by simpa using hz
        by_cases hc : n > 9223372036854775807 - (to - n % to)
        · have HR : Hid (roundN n to = 0 ∧ roundE n to = 2) := by
            show _ ∧ _
            unfold roundN roundE
            rw [if_neg e0, if_neg e0, if_neg hz, if_neg hz, if_pos hc, if_pos hc]
            exact ⟨rfl, rfl⟩
          clear e0 hn ht
          go_enter Try.func34, Try.ntmps34
          go_wp2
          go_ret2
          exact ⟨ret2_int HR.out.1.symm HR.out.2.symm, rfl⟩
        · have HR : Hid (roundN n to = n + (to - n % to) ∧ roundE n to = 0) := by
            show _ ∧ _
            unfold roundN roundE
            rw [if_neg e0, if_neg e0, if_neg hz, if_neg hz, if_neg hc, if_neg hc]
            exact ⟨rfl, rfl⟩
          clear e0 hn ht
          go_enter Try.func34, Try.ntmps34
          go_wp2
          go_ret2
          exact ⟨ret2_int HR.out.1.symm HR.out.2.symm, rfl⟩
end Go.Proofs.Ytgcgbpehedkckaa
