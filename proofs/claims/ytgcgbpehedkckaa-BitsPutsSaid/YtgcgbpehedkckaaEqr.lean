/- EqRows, where the lists are the same. -/
import Derived.Test.YtgcgbpehedkckaaEqb
namespace Go.Proofs.Ytgcgbpehedkckaa
open Go.RowKit
theorem ReadsRows.quiet {w w' : World} {a : Option Addr} {n : Nat} {ll : List (List UInt8)} (h : ReadsRows w a n ll) (hq : Quiet w w') : ReadsRows w' a n ll := h.keep (hq.below w.heap.size) (Nat.le_refl _)
set_option maxHeartbeats 400000 in
theorem eqRows (w : World) (a b : Option Addr) (n ca cb : Nat) (ll : List (List UInt8)) (ha : ReadsRows w a n ll) (hb : ReadsRows w b n ll) (hn : n ≤ 4611686018427387904) (hm : ∀ l, l ∈ ll → l.length ≤ 4611686018427387904) :
    Calls Try.prog 17 #[.slice a n ca, .slice b n cb] w fun e w' => e = .returned (.bool true) ∧ Quiet w w' := by
  have HM := Lib.hid hm
  clear hm
  have hne : ((n : Int) != (n : Int)) = false := by simp
  go_enter Try.func17, Try.ntmps17
  go_wp2
  go_loopw [5] (fun i wr => ∃ k : Nat, k ≤ n ∧ i = .int .i64 k ∧ Quiet w wr) (fun i _ => n - (intOf i).toNat)
  case atStart => exact ⟨0, Nat.zero_le _, rfl, Quiet.refl _⟩
  case round =>
    obtain ⟨k, hk, rfl, hq⟩ := hrel
    by_cases hlt : k < n
    · obtain ⟨b1, o1, a1, l1, c1, rfl, hb1, hx, hcx, hr1, _, _⟩ := (ha.quiet hq).at hlt
      obtain ⟨b2, o2, a2, l2, c2, rfl, hb2, hy, hcy, hr2, _, _⟩ := (hb.quiet hq).at hlt
      obtain rfl : l1 = l2 := by rw [hx] at hy; exact Option.some.inj hy
      have hl := HM.out l1 (List.mem_of_getElem? hx)
      have hcall : ∀ m, Calls Try.prog 24 #[.slice a1 l1.length c1, .slice a2 l1.length c2] (wr.drewN m) fun e w' => e = .returned (.bool true) ∧ ∃ m', w' = (wr.drewN m).drewN m' := by
        intro m
        have h := eqBytes (wr.drewN m) a1 a2 l1.length l1.length c1 c2 l1 l1 (hr1.drewN m) (hr2.drewN m) hl hl
        rw [show sameB l1 l1 = true from by simp [sameB]] at h
        exact h
      have HC := Lib.hid hcall
      clear hcall hx hy hr1 hr2
      obtain ⟨n1, hn1⟩ : ∃ n1, n1 = l1.length := ⟨_, rfl⟩
      rw [← hn1] at hcx hcy HC hl
      clear hn1
      go_wp2
      go_quiet ((go_at_call 24; exact Calls.quiet_of (HC.out _)))
      go_wp2
      go_roundw
      case rel => exact ⟨k + 1, by omega, by go_num, hq.drewN _⟩
      case measure => simp [intOf] <;> omega
    · obtain rfl : k = n := by omega
      go_wp2
      go_ret
      exact ⟨rfl, hq⟩
end Go.Proofs.Ytgcgbpehedkckaa
