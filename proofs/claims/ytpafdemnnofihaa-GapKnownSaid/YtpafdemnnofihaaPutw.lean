/- Put at its four kinds. -/
import Derived.Test.YtpafdemnnofihaaTwo
import Derived.Test.YtpafdemnnofihaaSizew
namespace Go.Proofs.Ytpafdemnnofihaa
open Go.RowKit
theorem leB_succ (v k : Nat) : leB v (k + 1) = leB v k ++ [UInt8.ofNat (v / 256 ^ k)] := by simp [leB, List.range_succ]
set_option maxHeartbeats 400000 in
set_option maxRecDepth 100000 in
theorem put16 (w : World) (a : Option Addr) (n ca : Nat) (la : List UInt8) (v : Nat) (ha : Reads w a n (la.map B8)) (hn : n ≤ 140737488355320) (hv : v < 65536) :
    Calls Try.prog 33 #[.slice a n ca, .int .u16 v] w fun e w' => ∃ r, e = .returned r ∧ w'.ownsRow w.heap.size 5 1 r (n + 2) ((la ++ leB v 2).map B8) ∧ Below w.heap.size w w' := by
  obtain ⟨i0, hi, hz0, hz1, hz2⟩ := info_parts Try.infoU8
  have HL := Lib.hid ha.len
  have hv2 : (v : Int) ≤ 65535 := by omega
  go_enter Try.func33, Try.ntmps33
  go_wp2_with (first | (at_make; refine wpList_make_row _ rfl (.tmp 8) (.tmp 11) 22 rfl 5 i0 (.int .u8 0) Try.underlying22 hi hz0 hz1 rfl .i64 .i64 (n : Int) ((n : Int) + 8) n (n + 8) rfl rfl rfl (by omega) (by omega) (by rw [hz2]; omega) (by unfold maxLen; omega) w.heap.size w (Below.refl _ _) (Nat.le_refl _) ?_; intro w1 hr1 hb1) | ((with_reducible show wpList _ _ _ (Oper.mk (some 15) _ _ _ _ _ :: _) _ _); go_must (refine wpList_copy_splice rfl (.tmp 13) (.tmp 14) 22 22 rfl 5 Try.underlying22 Try.size1U8 (some ⟨w.heap.size, 0, none⟩) a n (n + 8) n ca rfl rfl w.heap.size 0 _ 5 hr1.out (la.map B8) (by rw [HL.out]; simp) (fun h => ⟨rfl, (ha.keep hb1 (Nat.le_refl _)).src (by rw [← HL.out]; exact h)⟩) (by rw [HL.out]; simp) (b8_one la) w.heap.size w hb1 (Nat.le_refl _) ?_); intro w2 hr2 hb2) | (go_at_call 42; refine (size16 _).mono ?_; rintro e w' ⟨rfl, rfl⟩))
  have hown2 : w2.ownsRow w.heap.size 5 1 (.slice (some ⟨w.heap.size, 0, none⟩) n (n + 8)) n (la.map B8) := by
    have h := own_row (show Row w2 w.heap.size 5 _ from hr2) w.heap.size n (Nat.le_refl _) (by rw [length_splice _ _ _ (by rw [HL.out]; simp)]; simp) (by rw [length_splice _ _ _ (by rw [HL.out]; simp)]; simp [maxLen]; omega)
    rw [length_splice _ _ _ (by rw [HL.out]; simp), List.length_replicate] at h
    rw [splice, List.take_zero, List.nil_append, ← HL.out, List.take_left] at h
    rw [← HL.out]
    exact h
  clear hr1 hr2 hv hv2
  go_loopw [5, 6, 19] (fun r u i wr => ∃ k : Nat, k ≤ 2 ∧ i = .int .i64 k ∧ (∃ uu : Nat, u = .int .u64 uu ∧ Hid (uu = v / 256 ^ k)) ∧ wr.ownsRow w.heap.size 5 1 r (n + k) ((la ++ leB v k).map B8) ∧ Below w.heap.size w wr) (fun _ _ i _ => 2 - (intOf i).toNat)
  case atStart => exact ⟨0, by omega, rfl, ⟨v, rfl, by show v = v / 256 ^ 0; simp⟩, by simpa [leB] using hown2, hb2⟩
  case round =>
    obtain ⟨k, hk, rfl, ⟨uu, rfl, HU⟩, hown, hbel⟩ := hrel
    by_cases hlt : k < 2
    · have hsz := hbel.size
      go_wp2_with (at_builtin; refine wpList_append_own _ rfl _ _ 22 rfl w.heap.size 5 i0 (.int .u8 0) 1 1 Try.underlying22 hi hz0 hz1 hz2 rfl (by decide) _ _ _ rfl (hown.alloc _) ⟨wr.heap.size, 0, none⟩ 1 1 [.int .u8 ((uu : Int) % 256)] rfl rfl (cell_one_new _ _ _) (by simp [Value.oneCell']) (by unfold maxLen; omega) (by omega) (by simp; omega) ?_; intro v' w3 hown3 hgrow3 _)
      have e2 : (la ++ leB v k).map B8 ++ [Value.int .u8 ((uu : Int) % 256)] = (la ++ leB v (k + 1)).map B8 := by
        rw [leB_succ, ← HU.out]; simp
      rw [e2] at hown3
      clear e2
      have hb3 := below_append hbel (by omega) hown hgrow3
      clear hgrow3
      go_roundw
      case rel => exact ⟨k + 1, by omega, by go_num, ⟨uu / 256, by simp, by show _ = _; rw [HU.out, Nat.pow_succ, Nat.div_div_eq_div_mul]⟩, hown3, hb3⟩
      case measure => simp [intOf]; omega
    · obtain rfl : k = 2 := by omega
      obtain ⟨a2, c2, rfl, hr, _, _⟩ := reads_of_own hown
      go_wp2
      go_ret
      exact ⟨_, rfl, hown, hbel⟩
end Go.Proofs.Ytpafdemnnofihaa
