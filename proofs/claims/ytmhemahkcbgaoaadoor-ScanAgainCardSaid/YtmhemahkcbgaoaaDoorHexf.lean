/- The library's FormatInt at base 16, of the three characters that are not plain and stand in the quoted form by their number. -/
import Derived.Test.YtmhemahkcbgaoaaDoorScanD
namespace Go.Proofs.YtmhemahkcbgaoaaDoor
set_option linter.unusedVariables false
set_option linter.unusedSimpArgs false
open Go.RowKit
open Go.Lib hiding intOf
theorem and16 : bits .and .u64 16 18446744073709551600 = 16 := by decide
theorem wneg16 : IntKind.u64.wrap (-16) = 18446744073709551600 := by decide
theorem wmul16 : IntKind.u64.wrap (16 * 285870213051353865) = 4573923408821661840 := by decide
theorem and15 : bits .and .i64 16 15 = 0 := by decide
set_option maxHeartbeats 1000000 in
theorem tz16 (w : World) (hT : Tabs w) : Calls Tryd.prog 100 #[.int .u64 16] w fun e w' => e = .returned (.int .i64 4) ∧ w' = w := by
  have hl := hT.lsb
  have hs := hT.size
  have h1 := and16
  have h2 := wneg16
  have h3 := wmul16
  go_enter Tryd.func100, Tryd.ntmps100
  go_wp2
  go_ret
  exact ⟨rfl, rfl⟩
set_option maxHeartbeats 1000000 in
theorem tzU (w : World) (hT : Tabs w) : Calls Tryd.prog 93 #[.int .u64 16] w fun e w' => e = .returned (.int .i64 4) ∧ w' = w := by
  go_enter Tryd.func93, Tryd.ntmps93
  go_wp2_with (go_at_call 100; refine (tz16 w hT).mono ?_; rintro e w' ⟨rfl, rfl⟩)
  go_ret
  exact ⟨rfl, rfl⟩
set_option maxHeartbeats 1000000 in
theorem pow2 (w : World) : Calls Tryd.prog 92 #[.int .i64 16] w fun e w' => e = .returned (.bool true) ∧ w' = w := by
  have h1 := and15
  go_enter Tryd.func92, Tryd.ntmps92
  go_wp2
  go_ret
  exact ⟨rfl, rfl⟩
set_option maxHeartbeats 4000000 in
set_option maxRecDepth 100000 in
theorem bits133 (w : World) (hT : Tabs w) : Calls Tryd.prog 73 #[.slice none 0 0, .int .u64 133, .int .i64 16, .bool false, .bool false] w fun e w' => e = .returned (.tuple #[.slice none 0 0, .string (bstr [56, 53])]) ∧ Below w.heap.size w w' := by
  go_enter Tryd.func73, Tryd.ntmps73
  go_wp2_with (first | (go_at_call 92; refine (pow2 _).mono ?_; rintro e w' ⟨rfl, rfl⟩) | (go_at_call 93; refine (tzU _ (hT.next ((Below.refl _ _).alloc (Nat.le_refl _) _))).mono ?_; rintro e w' ⟨rfl, rfl⟩))
  have a0 : bits .and .u64 133 15 = 5 := by decide
  refine wp_loop_rounds 3 ?_
  rw [rounds_succ]
  go_wp2
  rw [rounds_succ]
  go_wp2
  rw [run_bytes_str (P := Tryd.prog) _ 54 9 5 Tryd.underlying54 Tryd.underlying5 Tryd.underlying9 (some ⟨w.heap.size, 63, none⟩) 2 2 [56, 53] ?hr]
  case hr =>
    refine ⟨rfl, fun _ => ⟨w.heap.size, 63, rfl, by simp, fun j hj => ?_⟩⟩
    rcases j with _ | (_ | j)
    all_goals first | omega | (simp; rfl) | rfl
  go_wp2
  go_ret2
  exact ⟨rfl, (Below.refl _ w).alloc (Nat.le_refl _) _⟩
set_option maxHeartbeats 4000000 in
set_option maxRecDepth 100000 in
theorem bits8232 (w : World) (hT : Tabs w) : Calls Tryd.prog 73 #[.slice none 0 0, .int .u64 8232, .int .i64 16, .bool false, .bool false] w fun e w' => e = .returned (.tuple #[.slice none 0 0, .string (bstr [50, 48, 50, 56])]) ∧ Below w.heap.size w w' := by
  go_enter Tryd.func73, Tryd.ntmps73
  go_wp2_with (first | (go_at_call 92; refine (pow2 _).mono ?_; rintro e w' ⟨rfl, rfl⟩) | (go_at_call 93; refine (tzU _ (hT.next ((Below.refl _ _).alloc (Nat.le_refl _) _))).mono ?_; rintro e w' ⟨rfl, rfl⟩))
  have a0 : bits .and .u64 8232 15 = 8 := by decide
  have a1 : bits .and .u64 514 15 = 2 := by decide
  have a2 : bits .and .u64 32 15 = 0 := by decide
  refine wp_loop_rounds 5 ?_
  rw [rounds_succ]
  go_wp2
  rw [rounds_succ]
  go_wp2
  rw [rounds_succ]
  go_wp2
  rw [rounds_succ]
  go_wp2
  rw [run_bytes_str (P := Tryd.prog) _ 54 9 5 Tryd.underlying54 Tryd.underlying5 Tryd.underlying9 (some ⟨w.heap.size, 61, none⟩) 4 4 [50, 48, 50, 56] ?hr]
  case hr =>
    refine ⟨rfl, fun _ => ⟨w.heap.size, 61, rfl, by simp, fun j hj => ?_⟩⟩
    rcases j with _ | (_ | (_ | (_ | j)))
    all_goals first | omega | (simp; rfl) | rfl
  go_wp2
  go_ret2
  exact ⟨rfl, (Below.refl _ w).alloc (Nat.le_refl _) _⟩
set_option maxHeartbeats 4000000 in
set_option maxRecDepth 100000 in
theorem bits8233 (w : World) (hT : Tabs w) : Calls Tryd.prog 73 #[.slice none 0 0, .int .u64 8233, .int .i64 16, .bool false, .bool false] w fun e w' => e = .returned (.tuple #[.slice none 0 0, .string (bstr [50, 48, 50, 57])]) ∧ Below w.heap.size w w' := by
  go_enter Tryd.func73, Tryd.ntmps73
  go_wp2_with (first | (go_at_call 92; refine (pow2 _).mono ?_; rintro e w' ⟨rfl, rfl⟩) | (go_at_call 93; refine (tzU _ (hT.next ((Below.refl _ _).alloc (Nat.le_refl _) _))).mono ?_; rintro e w' ⟨rfl, rfl⟩))
  have a0 : bits .and .u64 8233 15 = 9 := by decide
  have a1 : bits .and .u64 514 15 = 2 := by decide
  have a2 : bits .and .u64 32 15 = 0 := by decide
  refine wp_loop_rounds 5 ?_
  rw [rounds_succ]
  go_wp2
  rw [rounds_succ]
  go_wp2
  rw [rounds_succ]
  go_wp2
  rw [rounds_succ]
  go_wp2
  rw [run_bytes_str (P := Tryd.prog) _ 54 9 5 Tryd.underlying54 Tryd.underlying5 Tryd.underlying9 (some ⟨w.heap.size, 61, none⟩) 4 4 [50, 48, 50, 57] ?hr]
  case hr =>
    refine ⟨rfl, fun _ => ⟨w.heap.size, 61, rfl, by simp, fun j hj => ?_⟩⟩
    rcases j with _ | (_ | (_ | (_ | j)))
    all_goals first | omega | (simp; rfl) | rfl
  go_wp2
  go_ret2
  exact ⟨rfl, (Below.refl _ w).alloc (Nat.le_refl _) _⟩
set_option maxHeartbeats 1000000 in
theorem fmtI (w : World) (hT : Tabs w) (r : Nat) (hr : r = 133 ∨ r = 8232 ∨ r = 8233) : Calls Tryd.prog 53 #[.int .i64 (r : Int), .int .i64 16] w fun e w' => e = .returned (.string (bstr (hexOf r))) ∧ Below w.heap.size w w' := by
  rcases hr with rfl | rfl | rfl
  · go_enter Tryd.func53, Tryd.ntmps53
    go_wp2_with (go_at_call 73; refine (bits133 _ hT).mono ?_; rintro e w' ⟨rfl, hb⟩)
    go_ret
    exact ⟨rfl, hb⟩
  · go_enter Tryd.func53, Tryd.ntmps53
    go_wp2_with (go_at_call 73; refine (bits8232 _ hT).mono ?_; rintro e w' ⟨rfl, hb⟩)
    go_ret
    exact ⟨rfl, hb⟩
  · go_enter Tryd.func53, Tryd.ntmps53
    go_wp2_with (go_at_call 73; refine (bits8233 _ hT).mono ?_; rintro e w' ⟨rfl, hb⟩)
    go_ret
    exact ⟨rfl, hb⟩
/-- the number at base 16 -/
theorem fmt16 (w : World) (hT : Tabs w) (r : Nat) (hr : r = 133 ∨ r = 8232 ∨ r = 8233) : Calls Tryd.prog 30 #[.int .i64 (r : Int), .int .i64 16] w fun e w' => e = .returned (.string (bstr (hexOf r))) ∧ Below w.heap.size w w' := by
  go_enter Tryd.func30, Tryd.ntmps30
  go_wp2_with (go_at_call 53; refine (fmtI _ hT r hr).mono ?_; rintro e w' ⟨rfl, hb⟩)
  go_ret
  exact ⟨rfl, hb⟩
end Go.Proofs.YtmhemahkcbgaoaaDoor
