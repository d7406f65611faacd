/- The walk of BitsRounds. -/
import Derived.Test.YtgcgbpehedkckaaWorks
import Derived.Test.YtgcgbpehedkckaaOpen
namespace Go.Proofs.Ytgcgbpehedkckaa
open Go.RowKit
set_option maxHeartbeats 400000 in
theorem bitsRounds_walk (w : World) (n : Int) (hn : (Lit.int .i64 n).wf = true) (to : Int) (ht : (Lit.int .i64 to).wf = true) :
    Calls Try.prog 6 #[.int .i64 n, .int .i64 to] w fun e w' => e = .returned (.bool true) ∧ Below w.heap.size w w' := by
  have H1 := Lib.hid (roundBits n to w (wf_i64 hn).2 (wf_i64 ht).2)
  have H2 := Lib.hid (roundRef n to w (wf_i64 hn).2 (wf_i64 ht).2)
  clear hn ht
  obtain ⟨x, hx⟩ : ∃ x, x = roundN n to := ⟨_, rfl⟩
  obtain ⟨y, hy⟩ : ∃ y, y = roundE n to := ⟨_, rfl⟩
  rw [← hx, ← hy] at H1 H2
  clear hx hy
  have e1 : (x == x) = true := by simp
  have e2 : (y == y) = true := by simp
  go_enter Try.func6, Try.ntmps6
  go_wp2_with fail
  refine H1.out.mono ?_
  rintro e w1 ⟨rfl, rfl⟩
  go_wp2_with fail
  refine H2.out.mono ?_
  rintro e w1 ⟨rfl, rfl⟩
  go_wp2_with fail
  refine (worksC w).mono ?_
  rintro e w1 ⟨rfl, hb⟩
  go_wp2
  go_ret
  exact ⟨rfl, hb⟩
end Go.Proofs.Ytgcgbpehedkckaa
