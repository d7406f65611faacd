/- Sum of the program. -/
import Derived.Test.YtgcgbpehedkckaaMore
import Derived.Test.YtgcgbpehedkckaaJoin
namespace Go.Proofs.Ytgcgbpehedkckaa
open Go.RowKit
theorem crcMore_lt (s : Nat) (l : List UInt8) : crcMore s l < 4294967296 := by unfold crcMore; omega
theorem crcMore_append {s : Nat} (hs : s < 4294967296) (a b : List UInt8) : crcMore (crcMore s a) b = crcMore s (a ++ b) := by
  unfold crcMore
  have h := crcReg_lt (r := 4294967295 - s) (by omega) a
  have e : 4294967295 - (4294967295 - crcReg (4294967295 - s) a) = crcReg (4294967295 - s) a := by omega
  rw [e, crcReg, crcReg, crcReg, List.foldl_append]
theorem crcMore_nil {s : Nat} (hs : s < 4294967296) : crcMore s [] = s := by
  unfold crcMore crcReg
  simp
  omega
set_option maxHeartbeats 400000 in
set_option maxRecDepth 100000 in
theorem sumBits (w : World) (a : Option Addr) (n ca : Nat) (ll : List (List UInt8)) (ha : ReadsRows w a n ll) (hn : n ≤ 140737488355328) (hm : ∀ l, l ∈ ll → l.length ≤ 140737488355328) :
    Calls Try.prog 27 #[.slice a n ca] w fun e w' => e = .returned (.int .u32 (crcMore 0 ll.flatten)) ∧ Quiet w w' := by
  have HL := Lib.hid ha.len
  have HM := Lib.hid hm
  clear hm
  go_enter Try.func27, Try.ntmps27
  go_wp2
  go_loopw [3, 8] (fun r i wr => ∃ k : Nat, k ≤ n ∧ i = .int .i64 k ∧ (∃ rr : Nat, r = .int .u32 rr ∧ Hid (rr = crcMore 0 (ll.take k).flatten)) ∧ Quiet w wr) (fun _ i _ => n - (intOf i).toNat)
  case atStart => exact ⟨0, Nat.zero_le _, rfl, ⟨0, rfl, (crcMore_nil (by decide)).symm⟩, Quiet.refl _⟩
  case round =>
    obtain ⟨k, hk, rfl, ⟨rr, rfl, HR⟩, hq⟩ := hrel
    by_cases hlt : k < n
    · obtain ⟨b, o, a', l, c', rfl, hb, hx, hcx, hrl, hlc, hcm⟩ := (ha.keep (hq.below w.heap.size) (Nat.le_refl _)).at hlt
      have hll := HM.out l (List.mem_of_getElem? hx)
      obtain ⟨m, hm⟩ : ∃ m, m = l.length := ⟨_, rfl⟩
      rw [← hm] at hcx hrl hlc hll
      have HX := Lib.hid hx
      clear hx hm
      have hrr : rr < 4294967296 := by rw [HR.out]; exact crcMore_lt _ _
      have HC := Lib.hid (moreBits wr rr a' m c' l hrl hll hrr)
      clear hrr
      go_wp2_with (go_at_call 29; refine HC.out.mono ?_; rintro e w' ⟨rfl, hq2⟩)
      go_roundw
      case rel => exact ⟨k + 1, by omega, by go_num, ⟨crcMore rr l, rfl, by
        show _ = _
        rw [flatten_next HX.out, ← crcMore_append (by decide), ← HR.out]⟩, hq.trans hq2⟩
      case measure => simp [intOf] <;> omega
    · obtain rfl : k = n := by omega
      go_wp2
      go_ret
      refine ⟨ret_num ?_, hq⟩
      rw [HR.out, List.take_of_length_le (by rw [HL.out]; exact Nat.le_refl _)]
end Go.Proofs.Ytgcgbpehedkckaa
