/- The scan's tests of a byte, of a character. -/
import Derived.Test.YtmhemahkcbgaoaaDoorScanP
import Derived.Test.YtmhemahkcbgaoaaDoorMem
namespace Go.Proofs.YtmhemahkcbgaoaaDoor
set_option linter.unusedVariables false
set_option linter.unusedSimpArgs false
open Go.RowKit
theorem ret_true {P : Prop} [Decidable P] (h : P) : Ending.returned (.bool true) = Ending.returned (.bool (decide P)) := by rw [decide_eq_true h]
theorem ret_false {P : Prop} [Decidable P] (h : ¬ P) : Ending.returned (.bool false) = Ending.returned (.bool (decide P)) := by rw [decide_eq_false h]
theorem ret_bool {b : Bool} {P : Prop} [Decidable P] (h : b = true ↔ P) : Ending.returned (.bool b) = Ending.returned (.bool (decide P)) := by
  congr 2
  cases b
  · simpa using h
  · simpa using h
theorem ret_int {k : IntKind} {a b : Int} (h : a = b) : Ending.returned (.int k a) = Ending.returned (.int k b) := by rw [h]
set_option maxHeartbeats 400000 in
theorem blankC (w : World) (n : Nat) : Calls Tryd.prog 39 #[.int .u8 (n : Int)] w fun e w' => e = .returned (.bool (decide (BlankN n))) ∧ w' = w := by
  go_enter Tryd.func39, Tryd.ntmps39
  go_wp2
  all_goals (go_ret; refine ⟨?_, rfl⟩)
  all_goals exact ret_bool (P := BlankN n) (by unfold BlankN; (try simp only [Bool.or_eq_true, Bool.and_eq_true, decide_eq_true_eq, beq_iff_eq, bne_iff_ne, ne_eq, eq_self, true_iff, false_iff, iff_true, iff_false, Bool.false_eq_true, Bool.true_eq_false]); omega)
set_option maxHeartbeats 400000 in
theorem blankR (w : World) (n : Nat) : Calls Tryd.prog 44 #[.int .u8 (n : Int)] w fun e w' => e = .returned (.bool (decide (BlankN n))) ∧ w' = w := by
  go_enter Tryd.func44, Tryd.ntmps44
  go_wp2
  all_goals (go_ret; refine ⟨?_, rfl⟩)
  all_goals exact ret_bool (P := BlankN n) (by unfold BlankN; (try simp only [Bool.or_eq_true, Bool.and_eq_true, decide_eq_true_eq, beq_iff_eq, bne_iff_ne, ne_eq, eq_self, true_iff, false_iff, iff_true, iff_false, Bool.false_eq_true, Bool.true_eq_false]); omega)
set_option maxHeartbeats 1000000 in
theorem runsC (w : World) (n : Nat) : Calls Tryd.prog 40 #[.int .u8 (n : Int)] w fun e w' => e = .returned (.bool (decide (RunN n))) ∧ w' = w := by
  go_enter Tryd.func40, Tryd.ntmps40
  go_wp2
  all_goals (go_ret; refine ⟨?_, rfl⟩)
  all_goals exact ret_bool (P := RunN n) (by unfold RunN; (try simp only [Bool.or_eq_true, Bool.and_eq_true, decide_eq_true_eq, beq_iff_eq, bne_iff_ne, ne_eq, eq_self, true_iff, false_iff, iff_true, iff_false, Bool.false_eq_true, Bool.true_eq_false]); omega)
set_option maxHeartbeats 1000000 in
theorem runsR (w : World) (n : Nat) : Calls Tryd.prog 46 #[.int .u8 (n : Int)] w fun e w' => e = .returned (.bool (decide (RunN n))) ∧ w' = w := by
  go_enter Tryd.func46, Tryd.ntmps46
  go_wp2
  all_goals (go_ret; refine ⟨?_, rfl⟩)
  all_goals exact ret_bool (P := RunN n) (by unfold RunN; (try simp only [Bool.or_eq_true, Bool.and_eq_true, decide_eq_true_eq, beq_iff_eq, bne_iff_ne, ne_eq, eq_self, true_iff, false_iff, iff_true, iff_false, Bool.false_eq_true, Bool.true_eq_false]); omega)
set_option maxHeartbeats 1000000 in
theorem plainC (w : World) (n : Nat) : Calls Tryd.prog 29 #[.int .i32 (n : Int)] w fun e w' => e = .returned (.bool (decide (PlainN n))) ∧ w' = w := by
  go_enter Tryd.func29, Tryd.ntmps29
  go_wp2
  all_goals (go_ret; refine ⟨?_, rfl⟩)
  all_goals exact ret_bool (P := PlainN n) (by (try simp only [beq_iff_eq, beq_eq_false_iff_ne, ne_eq] at *); unfold PlainN; (try simp only [Bool.or_eq_true, Bool.and_eq_true, decide_eq_true_eq, beq_iff_eq, bne_iff_ne, ne_eq, eq_self, true_iff, false_iff, iff_true, iff_false, Bool.false_eq_true, Bool.true_eq_false]); omega)
set_option maxHeartbeats 1000000 in
theorem plainR (w : World) (n : Nat) : Calls Tryd.prog 34 #[.int .i32 (n : Int)] w fun e w' => e = .returned (.bool (decide (PlainN n))) ∧ w' = w := by
  go_enter Tryd.func34, Tryd.ntmps34
  go_wp2
  all_goals (go_ret; refine ⟨?_, rfl⟩)
  all_goals exact ret_bool (P := PlainN n) (by unfold PlainN; (try simp only [Bool.or_eq_true, Bool.and_eq_true, decide_eq_true_eq, beq_iff_eq, bne_iff_ne, ne_eq, eq_self, true_iff, false_iff, iff_true, iff_false, Bool.false_eq_true, Bool.true_eq_false]); omega)
set_option maxHeartbeats 1000000 in
/-- the reference's digit of sixteen -/
theorem digitR (w : World) (x : UInt8) : Calls Tryd.prog 77 #[.int .u8 (x.toNat : Int)] w fun e w' => e = .returned (.int .i64 (digit16 x)) ∧ w' = w := by
  have hx := x.toNat_lt
  obtain ⟨n, hn⟩ : ∃ n, x.toNat = n := ⟨_, rfl⟩
  have hd : digit16 x = if 48 ≤ n ∧ n ≤ 57 then n - 48 else if 97 ≤ n ∧ n ≤ 102 then n - 87 else 16 := by unfold digit16; rw [hn]
  rw [hn] at hx ⊢
  have HD := Lib.hid hd
  clear hd hn
  go_enter Tryd.func77, Tryd.ntmps77
  go_wp2
  all_goals (go_ret; refine ⟨?_, rfl⟩)
  all_goals (rw [HD.out]; exact ret_int (by split <;> (try split) <;> omega))
end Go.Proofs.YtmhemahkcbgaoaaDoor
