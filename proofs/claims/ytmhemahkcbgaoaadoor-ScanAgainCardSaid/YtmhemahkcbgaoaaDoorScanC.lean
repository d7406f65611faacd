/- A run's number, by the program and by the reference. -/
import Derived.Test.YtmhemahkcbgaoaaDoorScanB
namespace Go.Proofs.YtmhemahkcbgaoaaDoor
set_option linter.unusedVariables false
set_option linter.unusedSimpArgs false
open Go.RowKit
open Go.Lib hiding intOf
theorem bstr_get (l : List UInt8) (k : Nat) (h : k < (bstr l).size) : (bstr l)[k] = l[k]'(by simpa using h) := rfl
theorem bstr_at {l : List UInt8} {k : Nat} {x : UInt8} (hx : l[k]? = some x) (h : k < (bstr l).size) : (bstr l)[k] = x := by
  rw [bstr_get]
  rw [List.getElem?_eq_some_iff] at hx
  exact hx.2
@[go_sem, simp] theorem bstr_toList (l : List UInt8) : (bstr l).toList = l := by
  rw [Lib.toList_data]; rfl
theorem some_at {l : List UInt8} {k : Nat} (h : k < l.length) : ∃ x, l[k]? = some x := ⟨l[k], List.getElem?_eq_getElem h⟩
theorem drop_at {l : List UInt8} {k : Nat} {y : UInt8} (hy : l[k]? = some y) : l.drop k = y :: l.drop (k + 1) := by
  obtain ⟨h, rfl⟩ := List.getElem?_eq_some_iff.1 hy
  exact List.drop_eq_getElem_cons h
theorem numGo_bound : ∀ (l : List UInt8) (n m : Nat), numGo l n = some m → n ≤ 9223372036854775807 → m ≤ 9223372036854775807
  | [], n, m, h, hn => by simp only [numGo, Option.some.injEq] at h; omega
  | x :: r, n, m, h, hn => by
    simp only [numGo] at h
    split at h
    · cases h
    · split at h
      · cases h
      · exact numGo_bound r _ m h (by omega)
set_option maxHeartbeats 1000000 in
theorem numberC (w : World) (l : List UInt8) (hm : l.length ≤ 140737488355328) :
    Calls Tryd.prog 42 #[.string (bstr l)] w fun e w' => e = .returned (.tuple #[.int .i64 (((numOf l).getD 0 : Nat) : Int), .bool (numOf l).isSome]) ∧ w' = w := by
  rcases Nat.eq_zero_or_pos l.length with h0 | h0
  · obtain rfl := List.eq_nil_of_length_eq_zero h0
    go_enter Tryd.func42, Tryd.ntmps42
    go_wp2
    go_ret2
    exact ⟨rfl, rfl⟩
  obtain ⟨n, hn⟩ : ∃ n, n = l.length := ⟨_, rfl⟩
  have hsz : (bstr l).size = n := by rw [bstr_size, hn]
  have hE : l.isEmpty = false := by cases l with
    | nil => simp at h0
    | cons _ _ => rfl
  have hE2 : ¬ l = [] := by intro e; subst e; simp at h0
  obtain ⟨x, hx⟩ := some_at h0
  have hat : (bstr l)[0]'(by rw [bstr_size]; exact h0) = x := bstr_at hx _
  have hg : l.getD 0 0 = x := by rw [List.getD_eq_getElem?_getD, hx]; rfl
  have hN : numOf l = if 1 < n ∧ x = 48 then none else numGo l 0 := by
    unfold numOf
    rw [hg, hn]
    simp [Nat.ne_of_gt h0]
  rw [← hn] at hm h0
  have HN := Lib.hid hn
  by_cases hz : 1 < n ∧ x = 48
  · rw [if_pos hz] at hN
    rw [hN]
    obtain ⟨hz1, rfl⟩ := hz
    clear hN hx hg hn
    go_enter Tryd.func42, Tryd.ntmps42
    go_wp2
    all_goals go_ret2
    all_goals exact ⟨rfl, rfl⟩
  · rw [if_neg hz] at hN
    rw [hN]
    have hz1 : (1 : Int) < (n : Int) → ((x.toNat : Int) == 48) = false := by
      intro h
      rw [beq_eq_false_iff_ne]
      intro e
      exact hz ⟨by omega, UInt8.toNat_inj.1 (by simpa using (by omega : x.toNat = 48))⟩
    clear hN hx hg hn hz
    go_enter Tryd.func42, Tryd.ntmps42
    go_wp2
    all_goals (
      go_loopw [4, 21] (fun nv iv wr => ∃ k m : Nat, k ≤ n ∧ nv = .int .i64 (m : Int) ∧ iv = .int .i64 (k : Int) ∧ m ≤ 9223372036854775807 ∧ numGo (l.drop k) m = numGo l 0 ∧ wr = w) (fun _ iv _ => n - (RowKit.intOf iv).toNat)
      case atStart => exact ⟨0, 0, Nat.zero_le _, rfl, rfl, by omega, rfl, rfl⟩
      case round =>
        obtain ⟨k, m, hk, rfl, rfl, hmx, hgo, rfl⟩ := hrel
        by_cases hlt : k < n
        · have hkl : k < l.length := by rw [← HN.out]; exact hlt
          obtain ⟨y, hy⟩ := some_at hkl
          have hya : (bstr l)[k]'(by rw [hsz]; exact hlt) = y := bstr_at hy _
          have hdrop := drop_at hy
          rw [hdrop, numGo] at hgo
          have hy8 := y.toNat_lt
          by_cases hd : y.toNat < 48 ∨ 57 < y.toNat
          · rw [if_pos hd] at hgo
            have HGO := Lib.hid hgo
            clear hgo hdrop hy hkl
            go_wp2
            all_goals go_ret2
            all_goals (rw [← HGO.out]; exact ⟨rfl, rfl⟩)
          · rw [if_neg hd] at hgo
            obtain ⟨q, hq⟩ : ∃ q, q = (9223372036854775807 - (y.toNat - 48)) / 10 := ⟨_, rfl⟩
            have hqi : ((9223372036854775807 : Int) - ((y.toNat : Int) - 48)).tdiv 10 = (q : Int) := by
              rw [Int.tdiv_eq_ediv_of_nonneg (by omega)]; omega
            have hqb : (q : Int) ≤ 922337203685477580 := by omega
            rw [← hq] at hgo
            by_cases hbig : q < m
            · rw [if_pos hbig] at hgo
              have HGO := Lib.hid hgo
              clear hgo hdrop hy hkl
              go_wp2
              all_goals go_ret2
              all_goals (rw [← HGO.out]; exact ⟨rfl, rfl⟩)
            · rw [if_neg hbig] at hgo
              have hs : 10 * (m : Int) + ((y.toNat : Int) - 48) ≤ 9223372036854775807 := by omega
              have HGO := Lib.hid hgo
              clear hgo hdrop hy hkl hq
              go_wp2
              go_roundw
              case rel => exact ⟨k + 1, 10 * m + (y.toNat - 48), by omega, by congr 1; omega, by go_num, by omega, HGO.out, trivial⟩
              case measure => simp [RowKit.intOf]; omega
        · obtain rfl : k = n := by omega
          have hgo2 : numGo l 0 = some m := by
            rw [← hgo, List.drop_eq_nil_of_le (by rw [← HN.out]; exact Nat.le_refl _)]
            rfl
          have HGO := Lib.hid hgo2
          clear hgo hgo2
          go_wp2
          go_ret2
          rw [HGO.out]
          exact ⟨rfl, rfl⟩)
set_option maxHeartbeats 1000000 in
theorem numberR (w : World) (l : List UInt8) (hm : l.length ≤ 140737488355328) :
    Calls Tryd.prog 47 #[.string (bstr l)] w fun e w' => ∃ z : Int, e = .returned (.tuple #[.int .i64 z, .bool (numOf l).isSome]) ∧ (∀ v, numOf l = some v → z = (v : Int)) ∧ Quiet w w' := by
  obtain ⟨n, hn⟩ : ∃ n, n = l.length := ⟨_, rfl⟩
  have hsz : (bstr l).size = n := by rw [bstr_size, hn]
  have hnone : numGo l 0 = none → numOf l = none := by intro h; unfold numOf; rw [h]; simp
  rw [← hn] at hm
  have HN := Lib.hid hn
  have HZ := Lib.hid hnone
  clear hn hnone
  go_enter Tryd.func47, Tryd.ntmps47
  go_wp2
  go_loopw [4, 5] (fun nv iv wr => ∃ k m : Nat, k ≤ n ∧ nv = .int .i64 (m : Int) ∧ iv = .int .i64 (k : Int) ∧ m ≤ 9223372036854775807 ∧ numGo (l.drop k) m = numGo l 0 ∧ wr = w) (fun _ iv _ => n - (RowKit.intOf iv).toNat)
  case atStart => exact ⟨0, 0, Nat.zero_le _, rfl, rfl, by omega, rfl, rfl⟩
  case round =>
    obtain ⟨k, m, hk, rfl, rfl, hmx, hgo, rfl⟩ := hrel
    by_cases hlt : k < n
    · have hkl : k < l.length := by rw [← HN.out]; exact hlt
      obtain ⟨y, hy⟩ := some_at hkl
      have hya : (bstr l)[k]'(by rw [hsz]; exact hlt) = y := bstr_at hy _
      rw [drop_at hy, numGo] at hgo
      have hy8 := y.toNat_lt
      by_cases hd : y.toNat < 48 ∨ 57 < y.toNat
      · rw [if_pos hd] at hgo
        have HGO := Lib.hid (HZ.out hgo.symm)
        clear hgo hy hkl
        go_wp2
        all_goals go_ret2
        all_goals (rw [HGO.out]; exact ⟨_, rfl, by (intro v hv; cases hv), Quiet.refl _⟩)
      · rw [if_neg hd] at hgo
        obtain ⟨q, hq⟩ : ∃ q, q = (9223372036854775807 - (y.toNat - 48)) / 10 := ⟨_, rfl⟩
        have hqi : ((9223372036854775807 : Int) - ((y.toNat : Int) - 48)).tdiv 10 = (q : Int) := by
          rw [Int.tdiv_eq_ediv_of_nonneg (by omega)]; omega
        have hqb : (q : Int) ≤ 922337203685477580 := by omega
        rw [← hq] at hgo
        by_cases hbig : q < m
        · rw [if_pos hbig] at hgo
          have HGO := Lib.hid (HZ.out hgo.symm)
          clear hgo hy hkl
          go_wp2
          all_goals go_ret2
          all_goals (rw [HGO.out]; exact ⟨_, rfl, by (intro v hv; cases hv), Quiet.refl _⟩)
        · rw [if_neg hbig] at hgo
          have hs : 10 * (m : Int) + ((y.toNat : Int) - 48) ≤ 9223372036854775807 := by omega
          have HGO := Lib.hid hgo
          clear hgo hy hkl hq
          go_wp2
          go_roundw
          case rel => exact ⟨k + 1, 10 * m + (y.toNat - 48), by omega, by congr 1; omega, by go_num, by omega, HGO.out, trivial⟩
          case measure => simp [RowKit.intOf]; omega
    · obtain rfl : k = n := by omega
      have hgo2 : numGo l 0 = some m := by
        rw [← hgo, List.drop_eq_nil_of_le (by rw [← HN.out]; exact Nat.le_refl _)]
        rfl
      have HGO := Lib.hid hgo2
      clear hgo
      by_cases h1 : 1 < k
      · obtain ⟨x, hx⟩ := some_at (l := l) (k := 0) (by rw [← HN.out]; omega)
        have hat : (bstr l)[0]'(by rw [hsz]; omega) = x := bstr_at hx _
        have hE : l.isEmpty = false := by cases l with
          | nil => simp at hx
          | cons _ _ => rfl
        have hg : l.getD 0 0 = x := by rw [List.getD_eq_getElem?_getD, hx]; rfl
        have hres : (numOf l) = if x = 48 then none else some m := by
          unfold numOf
          rw [hg, ← HN.out, hgo2]
          by_cases hz : x = 48
          · rw [if_pos (.inr ⟨h1, hz⟩), if_pos hz]
          · rw [if_neg (by rintro (h | h); · omega
                           · exact hz h.2), if_neg hz]
        have HR := Lib.hid hres
        clear hres hg hx hgo2
        have h1i : (1 : Int) < (k : Int) := by omega
        have h1b : ((k : Int) == 1) = false := by rw [beq_eq_false_iff_ne]; omega
        by_cases hz : x = 48
        · subst hz
          go_wp2
          go_quiet (fail)
          go_wp2
          go_ret2
          rw [HR.out]
          exact ⟨_, rfl, by (intro v hv; cases hv), (Quiet.refl _).drewN _⟩
        · have hzb : ((x.toNat : Int) != 48) = true := by
            rw [bne_iff_ne]
            intro e
            exact hz (UInt8.toNat_inj.1 (by simpa using (by omega : x.toNat = 48)))
          go_wp2
          go_quiet (fail)
          go_wp2
          go_ret2
          rw [HR.out, if_neg hz]
          exact ⟨_, rfl, by (intro v hv; cases hv; rfl), (Quiet.refl _).drewN _⟩
      · by_cases h0 : k = 0
        · subst h0
          have hnil : l = [] := List.eq_nil_of_length_eq_zero HN.out.symm
          have hres : numOf l = none := by rw [hnil]; rfl
          have HR := Lib.hid hres
          clear hres hnil hgo2
          go_wp2
          go_quiet (fail)
          go_wp2
          go_ret2
          rw [HR.out]
          exact ⟨_, rfl, by (intro v hv; cases hv), (Quiet.refl _).drewN _⟩
        · obtain rfl : k = 1 := by omega
          have hres : numOf l = some m := by
            unfold numOf
            rw [if_neg (by rw [← HN.out]; omega), hgo2]
          have HR := Lib.hid hres
          clear hres hgo2
          go_wp2
          go_quiet (fail)
          go_wp2
          go_ret2
          rw [HR.out]
          exact ⟨_, rfl, by (intro v hv; cases hv; rfl), (Quiet.refl _).drewN _⟩
end Go.Proofs.YtmhemahkcbgaoaaDoor
