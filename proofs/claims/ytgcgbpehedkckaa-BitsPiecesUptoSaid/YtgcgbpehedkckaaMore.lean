/- More and Sum of the program. -/
import Derived.Test.YtgcgbpehedkckaaCrc
namespace Go.Proofs.Ytgcgbpehedkckaa
open Go.RowKit
theorem ret_num {k : IntKind} {a b : Int} (h : a = b) : Ending.returned (.int k a) = Ending.returned (.int k b) := by rw [h]
set_option maxHeartbeats 400000 in
set_option maxRecDepth 100000 in
theorem moreBits (w : World) (s : Nat) (a : Option Addr) (n ca : Nat) (la : List UInt8) (ha : Reads w a n (la.map B8)) (hn : n ≤ 140737488355328) (hs : s < 4294967296) :
    Calls Try.prog 29 #[.int .u32 s, .slice a n ca] w fun e w' => e = .returned (.int .u32 (crcMore s la)) ∧ Quiet w w' := by
  have hla := ha.len
  rw [List.length_map] at hla
  have HL := Lib.hid hla
  have HS := Lib.hid hs
  clear hla hs
  go_enter Try.func29, Try.ntmps29
  go_wp2
  go_loopw [5, 13] (fun r i wr => ∃ k : Nat, k ≤ n ∧ i = .int .i64 k ∧ (∃ rr : Nat, r = .int .u32 rr ∧ Hid (rr < 4294967296 ∧ rr = crcReg (4294967295 - s) (la.take k))) ∧ Quiet w wr) (fun _ i _ => n - (intOf i).toNat)
  case atStart =>
    exact ⟨0, Nat.zero_le _, rfl, ⟨4294967295 - s, by rw [not32 s HS.out], ⟨by omega, by simp [crcReg]⟩⟩, Quiet.refl _⟩
  case round =>
    obtain ⟨k, hk, rfl, ⟨rr, rfl, HR⟩, hq⟩ := hrel
    by_cases hlt : k < n
    · obtain ⟨b, o, x, rfl, hb, hx, hcx⟩ := (ha.quiet hq).byte hlt
      have HX := Lib.hid hx
      clear hx
      go_wp2
      go_loop [5, 21] (fun r i => ∃ j : Nat, j ≤ 8 ∧ i = .int .i64 j ∧ (∃ qq : Nat, r = .int .u32 qq ∧ Hid (qq < 4294967296 ∧ qq = crcBits j (rr ^^^ x.toNat)))) (fun _ i => 8 - (intOf i).toNat)
      case atStart =>
        exact ⟨0, by omega, rfl, rr ^^^ x.toNat, by rw [byte32 rr x HR.out.1], xor_lt32 HR.out.1 (by have := x.toNat_lt; omega), rfl⟩
      case round =>
        obtain ⟨j, hj, rfl, ⟨qq, rfl, HQ⟩⟩ := hrel
        by_cases hj8 : j < 8
        · go_wp2
          go_round
          case rel => exact ⟨j + 1, by omega, by go_num, crcStep qq, by rw [step32 qq HQ.out.1], crcStep_lt HQ.out.1, by rw [crcBits, ← HQ.out.2]⟩
          case measure => simp [intOf] <;> omega
        · obtain rfl : j = 8 := by omega
          go_wp2
          go_roundw
          case rel => exact ⟨k + 1, by omega, by go_num, ⟨qq, rfl, HQ.out.1, by rw [crcReg_next _ HX.out, ← HR.out.2, HQ.out.2, crcByte]⟩, hq⟩
          case measure => simp [intOf] <;> omega
    · obtain rfl : k = n := by omega
      go_wp2
      go_ret
      refine ⟨ret_num ?_, hq⟩
      rw [not32 rr HR.out.1, HR.out.2, List.take_of_length_le (by rw [HL.out]; exact Nat.le_refl _), crcMore]
end Go.Proofs.Ytgcgbpehedkckaa
