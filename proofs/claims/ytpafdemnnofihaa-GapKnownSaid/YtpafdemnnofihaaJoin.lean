/- Join, Two, Little. -/
import Derived.Test.YtpafdemnnofihaaBase
namespace Go.Proofs.Ytpafdemnnofihaa
open Go.RowKit
theorem flatten_next {l : List (List UInt8)} {k : Nat} {x : List UInt8} (h : l[k]? = some x) : (l.take (k + 1)).flatten = (l.take k).flatten ++ x := by
  rw [take_next h, List.flatten_append]; simp
theorem flatten_le {l : List (List UInt8)} (k : Nat) : (l.take k).flatten.length ≤ l.flatten.length := by
  have h : l.flatten = (l.take k).flatten ++ (l.drop k).flatten := by rw [← List.flatten_append, List.take_append_drop]
  rw [h, List.length_append]; omega
set_option maxHeartbeats 800000 in
theorem join (w : World) (a : Option Addr) (n ca : Nat) (ll : List (List UInt8)) (ha : ReadsRows w a n ll) (hn : n ≤ 140737488355328) (hsum : ll.flatten.length ≤ 140737488355328) :
    Calls Try.prog 41 #[.slice a n ca] w fun e w' => ∃ v, e = .returned v ∧ w'.ownsRow w.heap.size 5 1 v ll.flatten.length (ll.flatten.map B8) ∧ Below w.heap.size w w' := by
  obtain ⟨i0, hi, hz0, hz1, hz2⟩ := info_parts Try.infoU8
  have HL := Lib.hid ha.len
  go_enter Try.func41, Try.ntmps41
  go_wp2
  go_loopw [3, 4] (fun v i wr => ∃ k : Nat, k ≤ n ∧ i = .int .i64 k ∧ wr.ownsRow w.heap.size 5 1 v (ll.take k).flatten.length ((ll.take k).flatten.map B8) ∧ Below w.heap.size w wr) (fun _ i _ => n - (intOf i).toNat)
  case atStart => exact ⟨0, Nat.zero_le _, rfl, by simpa using World.ownsRow_nil _ _ _ _, Below.refl _ _⟩
  case round =>
    obtain ⟨k, hk, rfl, hown, hbel⟩ := hrel
    by_cases hlt : k < n
    · obtain ⟨b, o, a', l, c', rfl, hb, hx, hcw, hrl, hlc, hcm⟩ := ha.at hlt
      have hsz := hbel.size
      have hfn := flatten_next hx
      have hfl := flatten_le (l := ll) (k + 1)
      rw [hfn, List.length_append] at hfl
      obtain ⟨m, hm⟩ : ∃ m, m = l.length := ⟨_, rfl⟩
      rw [← hm] at hcw hrl hfl hlc
      obtain ⟨p, hp⟩ : ∃ p, p = (ll.take k).flatten := ⟨_, rfl⟩
      rw [← hp] at hown hfl hfn
      have HX := Lib.hid hx
      have HF := Lib.hid hfn
      have HM := Lib.hid hm
      have HP := Lib.hid hp
      have HC := Lib.hid hcw
      clear hx hfn hm hp hcw
      have hcx := (hbel.cell (p := ⟨b, o + k, none⟩) hb).trans HC.out
      go_wp2
      clear hcx
      go_loopw [3, 5] (fun v i wr => ∃ j : Nat, j ≤ m ∧ i = .int .i64 j ∧ wr.ownsRow w.heap.size 5 1 v (p.length + j) ((p ++ l.take j).map B8) ∧ Below w.heap.size w wr) (fun _ i _ => m - (intOf i).toNat)
      case atStart => exact ⟨0, Nat.zero_le _, rfl, by simpa using hown, hbel⟩
      case round =>
        clear hown hbel hsz
        obtain ⟨j, hj, rfl, hown, hbel⟩ := hrel
        have hcx := (hbel.cell (p := ⟨b, o + k, none⟩) hb).trans HC.out
        have hsz := hbel.size
        by_cases hjm : j < m
        · obtain ⟨b2, o2, x, rfl, hb2, hx, hcx2⟩ := (hrl.keep hbel (Nat.le_refl _)).byte hjm
          have HX2 := Lib.hid hx
          clear hx
          go_wp2_with (at_builtin; refine wpList_append_own _ rfl _ _ 22 rfl w.heap.size 5 i0 (.int .u8 0) 1 1 Try.underlying22 hi hz0 hz1 hz2 rfl (by decide) _ _ _ rfl (hown.alloc _) ⟨wr.heap.size, 0, none⟩ 1 1 [.int .u8 (x.toNat : Int)] rfl rfl (cell_one_new _ _ _) (by simp [Value.oneCell']) (by unfold maxLen; omega) (by omega) (by simp; omega) ?_; intro v' w2 hown2 hgrow2 _)
          have e2 : ((p ++ l.take j).map B8) ++ [Value.int .u8 (x.toNat : Int)] = (p ++ l.take (j + 1)).map B8 := by rw [take_next HX2.out]; simp
          rw [e2] at hown2
          clear e2
          have hb3 := below_append hbel (by omega) hown hgrow2
          clear hgrow2
          go_roundw
          case rel => exact ⟨j + 1, by omega, by go_num, hown2, hb3⟩
          case measure => simp [intOf]; omega
        · obtain rfl : j = m := by omega
          go_wp2
          go_roundw
          case rel =>
            refine ⟨k + 1, by omega, by go_num, ?_, hbel⟩
            rw [HF.out, List.length_append, ← HM.out]
            rw [List.take_of_length_le (by rw [HM.out]; exact Nat.le_refl _)] at hown
            exact hown
          case measure => simp [intOf]; omega
    · obtain rfl : k = n := by omega
      obtain ⟨a2, c2, rfl, hr, _, _⟩ := reads_of_own hown
      go_wp2
      go_ret
      rw [List.take_of_length_le (by rw [HL.out]; exact Nat.le_refl _)] at hown ⊢
      exact ⟨_, rfl, hown, hbel⟩
end Go.Proofs.Ytpafdemnnofihaa
