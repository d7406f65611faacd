/- More and Sum of the reference. -/
import Derived.Test.YtgcgbpehedkckaaMore
namespace Go.Proofs.Ytgcgbpehedkckaa
open Go.RowKit
theorem ref_start (s : Nat) (h : s < 4294967296) : bits .xor .u64 (IntKind.u64.wrap (s : Int)) 4294967295 = ((4294967295 - s : Nat) : Int) := by
  rw [IntWalk.u64_in _ (by omega)]
  have := u64_xor_nat s 4294967295 (by omega) (by decide)
  rw [Nat.xor_comm, not_xor s h] at this
  exact this
theorem ref_end (s : Nat) (h : s < 4294967296) : bits .xor .u64 (s : Int) 4294967295 % 4294967296 = ((4294967295 - s : Nat) : Int) := by
  have := u64_xor_nat s 4294967295 (by omega) (by decide)
  rw [Nat.xor_comm, not_xor s h] at this
  have e : bits .xor .u64 (s : Int) 4294967295 = ((4294967295 - s : Nat) : Int) := this
  rw [e]
  omega
theorem xor_half (a b : Nat) : (a ^^^ b) / 2 = (a / 2) ^^^ (b / 2) := by
  have h := Nat.shiftRight_xor_distrib (a := a) (b := b) (i := 1)
  simpa [Nat.shiftRight_eq_div_pow] using h
theorem wrap_byte (x : UInt8) (j : Nat) : IntKind.u64.wrap ((x.toNat : Int) / 2 ^ j) = ((x.toNat / 2 ^ j : Nat) : Int) := by
  have h := x.toNat_lt
  have h2 : x.toNat / 2 ^ j ≤ x.toNat := Nat.div_le_self _ _
  have e : ((x.toNat : Int) / 2 ^ j) = ((x.toNat / 2 ^ j : Nat) : Int) := by simp
  rw [e]
  generalize x.toNat / 2 ^ j = y at *
  rw [IntWalk.u64_in _ (by omega)]
theorem xor_par (a b : Nat) : (a ^^^ b) % 2 = (a + b) % 2 := by
  have h := @Nat.xor_mod_two_eq_one a b
  have h1 := Nat.mod_two_eq_zero_or_one (a ^^^ b)
  have h2 := Nat.mod_two_eq_zero_or_one a
  have h3 := Nat.mod_two_eq_zero_or_one b
  omega
theorem ref_turn {S q : Nat} {x : UInt8} {j : Nat} (hq : q < 4294967296) (e : q = S ^^^ (x.toNat / 2 ^ j)) (h : ((IntKind.u64.wrap ((x.toNat : Int) / 2 ^ j)).tmod 2 != (q : Int) % 2) = true) :
    bits .xor .u64 (IntKind.u64.wrap ((q : Int) / 2)) 2197175160 = ((crcStep S ^^^ (x.toNat / 2 ^ (j + 1)) : Nat) : Int) := by
  rw [wrap_byte] at h
  rw [IntWalk.u64_in _ (by omega)]
  have h1 : x.toNat / 2 ^ j % 2 ≠ q % 2 := by
    generalize x.toNat / 2 ^ j = y at *
    intro hh
    simp only [bne_iff_ne, ne_eq] at h
    apply h
    rw [Int.tmod_eq_emod_of_nonneg (by omega)]
    omega
  have h2 : S % 2 = 1 := by
    generalize x.toNat / 2 ^ j = y at *
    rw [e, xor_par] at h1
    omega
  have h3 := u64_xor_nat (q / 2) 2197175160 (by omega) (by decide)
  rw [show ((q / 2 : Nat) : Int) = (q : Int) / 2 from by omega] at h3
  have e4 : bits .xor .u64 ((q : Int) / 2) 2197175160 = (((q / 2) ^^^ 2197175160 : Nat) : Int) := h3
  rw [e4, e, xor_half, crcStep, h2, Nat.mul_one, Nat.pow_succ, ← Nat.div_div_eq_div_mul]
  congr 1
  rw [Nat.xor_assoc, Nat.xor_assoc, Nat.xor_comm (x.toNat / 2 ^ j / 2)]
theorem ref_stay {S q : Nat} {x : UInt8} {j : Nat} (hq : q < 4294967296) (e : q = S ^^^ (x.toNat / 2 ^ j)) (h : ((IntKind.u64.wrap ((x.toNat : Int) / 2 ^ j)).tmod 2 != (q : Int) % 2) = false) :
    IntKind.u64.wrap ((q : Int) / 2) = ((crcStep S ^^^ (x.toNat / 2 ^ (j + 1)) : Nat) : Int) := by
  rw [wrap_byte] at h
  rw [IntWalk.u64_in _ (by omega)]
  have h1 : x.toNat / 2 ^ j % 2 = q % 2 := by
    generalize x.toNat / 2 ^ j = y at *
    simp only [bne_eq_false_iff_eq] at h
    rw [Int.tmod_eq_emod_of_nonneg (by omega)] at h
    omega
  have h2 : S % 2 = 0 := by
    generalize x.toNat / 2 ^ j = y at *
    rw [e, xor_par] at h1
    omega
  have h3 : (q : Int) / 2 = ((q / 2 : Nat) : Int) := by omega
  rw [h3, e, xor_half, crcStep, h2, Nat.mul_zero, Nat.xor_zero, Nat.pow_succ, ← Nat.div_div_eq_div_mul]
set_option maxHeartbeats 400000 in
set_option maxRecDepth 100000 in
theorem moreRef (w : World) (s : Nat) (a : Option Addr) (n ca : Nat) (la : List UInt8) (ha : Reads w a n (la.map B8)) (hn : n ≤ 140737488355328) (hs : s < 4294967296) :
    Calls Try.prog 30 #[.int .u32 s, .slice a n ca] w fun e w' => e = .returned (.int .u32 (crcMore s la)) ∧ Quiet w w' := by
  have hla := ha.len
  rw [List.length_map] at hla
  have HL := Lib.hid hla
  have HS := Lib.hid hs
  clear hla hs
  go_enter Try.func30, Try.ntmps30
  go_wp2
  go_loopw [5, 6] (fun r i wr => ∃ k : Nat, k ≤ n ∧ i = .int .i64 k ∧ (∃ rr : Nat, r = .int .u64 rr ∧ Hid (rr < 4294967296 ∧ rr = crcReg (4294967295 - s) (la.take k))) ∧ Quiet w wr) (fun _ i _ => n - (intOf i).toNat)
  case atStart =>
    exact ⟨0, Nat.zero_le _, rfl, ⟨4294967295 - s, by rw [ref_start s HS.out], ⟨by omega, by simp [crcReg]⟩⟩, Quiet.refl _⟩
  case round =>
    obtain ⟨k, hk, rfl, ⟨rr, rfl, HR⟩, hq⟩ := hrel
    by_cases hlt : k < n
    · obtain ⟨b, o, x, rfl, hb, hx, hcx⟩ := (ha.quiet hq).byte hlt
      have HX := Lib.hid hx
      clear hx
      go_wp2
      go_loop [5, 7] (fun r i => ∃ j : Nat, j ≤ 8 ∧ i = .int .i64 j ∧ (∃ qq : Nat, r = .int .u64 qq ∧ Hid (qq < 4294967296 ∧ qq = crcBits j (rr ^^^ x.toNat) ^^^ (x.toNat / 2 ^ j)))) (fun _ i => 8 - (intOf i).toNat)
      case atStart =>
        refine ⟨0, by omega, rfl, rr, rfl, HR.out.1, ?_⟩
        rw [crcBits, Nat.pow_zero, Nat.div_one, Nat.xor_assoc, Nat.xor_self, Nat.xor_zero]
      case round =>
        obtain ⟨j, hj, rfl, ⟨qq, rfl, HQ⟩⟩ := hrel
        by_cases hj8 : j < 8
        · have hS : crcBits j (rr ^^^ x.toNat) < 4294967296 := crcBits_lt (xor_lt32 HR.out.1 (by have := x.toNat_lt; omega)) j
          have HS2 := Lib.hid hS
          clear hS
          have hlt2 : ∀ i, x.toNat / 2 ^ i < 4294967296 := fun i => Nat.lt_of_le_of_lt (Nat.div_le_self _ _) (by have := x.toNat_lt; omega)
          have HX2 := Lib.hid hlt2
          clear hlt2
          go_wp2
          · have ht : ((IntKind.u64.wrap ((x.toNat : Int) / 2 ^ j)).tmod 2 != (qq : Int) % 2) = true := by assumption
            go_round
            case rel => exact ⟨j + 1, by omega, by go_num, _, by rw [ref_turn HQ.out.1 HQ.out.2 ht], xor_lt32 (crcStep_lt HS2.out) (HX2.out _), rfl⟩
            case measure => simp [intOf] <;> omega
          · have ht : ((IntKind.u64.wrap ((x.toNat : Int) / 2 ^ j)).tmod 2 != (qq : Int) % 2) = false := by assumption
            go_round
            case rel => exact ⟨j + 1, by omega, by go_num, _, by rw [ref_stay HQ.out.1 HQ.out.2 ht], xor_lt32 (crcStep_lt HS2.out) (HX2.out _), rfl⟩
            case measure => simp [intOf] <;> omega
        · obtain rfl : j = 8 := by omega
          have e8 : qq = crcByte rr x := by
            rw [HQ.out.2, crcByte, show x.toNat / 2 ^ 8 = 0 from by have := x.toNat_lt; omega, Nat.xor_zero]
          have HE := Lib.hid e8
          clear e8
          go_wp2
          go_roundw
          case rel => exact ⟨k + 1, by omega, by go_num, ⟨qq, rfl, HQ.out.1, by rw [crcReg_next _ HX.out, ← HR.out.2, HE.out]⟩, hq⟩
          case measure => simp [intOf] <;> omega
    · obtain rfl : k = n := by omega
      go_wp2
      go_ret
      refine ⟨ret_num ?_, hq⟩
      rw [ref_end rr HR.out.1, HR.out.2, List.take_of_length_le (by rw [HL.out]; exact Nat.le_refl _), crcMore]
set_option maxHeartbeats 400000 in
theorem sumRef (w : World) (a : Option Addr) (n ca : Nat) (la : List UInt8) (ha : Reads w a n (la.map B8)) (hn : n ≤ 140737488355328) :
    Calls Try.prog 28 #[.slice a n ca] w fun e w' => e = .returned (.int .u32 (crcMore 0 la)) ∧ Quiet w w' := by
  have HC := Lib.hid (moreRef w 0 a n ca la ha hn (by decide))
  go_enter Try.func28, Try.ntmps28
  go_wp2_with (go_at_call 30; refine HC.out.mono ?_; rintro e w' ⟨rfl, hq2⟩)
  go_ret
  exact ⟨rfl, hq2⟩
end Go.Proofs.Ytgcgbpehedkckaa
