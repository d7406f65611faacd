/- A token's bytes, by the program. -/
import Derived.Test.YtmhemahkcbgaoaaDoorScanM
import Derived.Deep.DeepCutAuto
namespace Go.Proofs.YtmhemahkcbgaoaaDoor
set_option linter.unusedVariables false
set_option linter.unusedSimpArgs false
open Go.RowKit
open Go.Lib hiding intOf
theorem below_grow {w : World} (k : Nat) (os : Array Obj) : Below w.heap.size w (Go.Sort.grow (w.drewN k) os) := by
  refine ⟨rfl, rfl, rfl, ?_, fun j hj => ?_⟩
  · simp [Go.Sort.grow]
  · simp [Go.Sort.grow, Array.getElem?_append, hj]
theorem itoaC (w : World) (n : Int) (h0 : -9223372036854775808 ≤ n) (h1 : n ≤ 9223372036854775807) (hT : Tabs w) :
    Calls Tryd.prog 38 #[.int .i64 n] w fun e w' => e = .returned (.string (bstr (itoa n))) ∧ Below w.heap.size w w' := by
  refine (Tryd.strconv_Itoa n h0 h1 w hT.pow).mono ?_
  rintro e w' ⟨rfl, k, os, rfl⟩
  exact ⟨rfl, below_grow k os⟩
def badRun (b : Bool) (l : List UInt8) : Bool := b || l.any fun x => !decide (RunN x.toNat)
theorem badRun_next {b : Bool} {l : List UInt8} {k : Nat} {x : UInt8} (hx : l[k]? = some x) : badRun b (l.take (k + 1)) = (badRun b (l.take k) || !decide (RunN x.toNat)) := by
  unfold badRun
  rw [take_next hx, List.any_append, Bool.or_assoc]
  simp
def PrintedQ (w : World) (t : Tok) (e : Ending) (w' : World) : Prop := ∃ (s : List UInt8) (b : Bool), e = .returned (.tuple #[.string (bstr s), .bool b]) ∧ printed t = (if b = true then some s else none) ∧ Below w.heap.size w w'
theorem printed_one (a n : Int) (s : List UInt8) (b : Bool) (hb : b = (!decide (s = []) && (!badRun (numOf s).isSome s && decide (n = 0)))) : printed ⟨1, a, s, n⟩ = if b = true then some s else none := by
  subst hb
  unfold printed
  simp only [if_true]
  by_cases h0 : s = []
  · subst h0; simp
  · have hl : ¬ s.length = 0 := fun h => h0 (List.eq_nil_of_length_eq_zero h)
    simp only [hl, h0, false_or, decide_false, Bool.not_false, Bool.true_and, badRun]
    have e : (∃ x ∈ s, ¬ RunN x.toNat) ↔ (s.any fun x => !decide (RunN x.toNat)) = true := by simp
    by_cases hA : (numOf s).isSome = true
    · rw [if_pos (.inl hA), hA]; rfl
    by_cases hB : ∃ x ∈ s, ¬ RunN x.toNat
    · rw [if_pos (.inr (.inl hB)), e.1 hB]; simp
    by_cases hC : n = 0
    · have hB' : (s.any fun x => !decide (RunN x.toNat)) = false := by
        cases h : (s.any fun x => !decide (RunN x.toNat))
        · rfl
        · exact absurd (e.2 h) hB
      have hA' : (numOf s).isSome = false := by simpa using hA
      rw [if_neg (fun h => by rcases h with h | h | h; exact hA h; exact hB h; exact h hC), hA', hB']
      simp [hC]
    · rw [if_pos (.inr (.inr hC))]
      simp [hC]
def tokV (t : Tok) : Value := .agg (tokCells t).toArray
set_option maxHeartbeats 4000000 in
theorem printed_word (w : World) (a n : Int) (s : List UInt8) (hs : s.length ≤ 1048576) :
    Calls Tryd.prog 35 #[.agg #[.int .i64 1, .int .i64 a, .string (bstr s), .int .i64 n]] w (PrintedQ w ⟨1, a, s, n⟩) := by
  obtain ⟨m, hm⟩ : ∃ m, m = s.length := ⟨_, rfl⟩
  have hsz : (bstr s).size = m := by rw [bstr_size, hm]
  have HN := Lib.hid hm
  have HNU := Lib.hid (fun w1 => numberC w1 s (by omega))
  rw [← hm] at hs
  obtain ⟨N0, hN0⟩ : ∃ N0, (((numOf s).getD 0 : Nat) : Int) = N0 := ⟨_, rfl⟩
  obtain ⟨b0, hb0⟩ : ∃ b0, (numOf s).isSome = b0 := ⟨_, rfl⟩
  rw [hN0, hb0] at HNU
  have HB0 := Lib.hid hb0
  clear hm hN0 hb0
  go_enter Tryd.func35, Tryd.ntmps35
  go_upto_region 1 with fail
  obtain ⟨w1, hw1⟩ : ∃ w1, w1 = w.alloc (.cells #[.int .i64 1, .int .i64 a, .string (bstr s), .int .i64 n] 38) := ⟨_, rfl⟩
  have hR : Row w1 w.heap.size 38 [.int .i64 1, .int .i64 a, .string (bstr s), .int .i64 n] := by rw [hw1]; exact alloc_last _ _
  have hb1 : Below w.heap.size w w1 := by rw [hw1]; exact (Below.refl _ _).alloc (Nat.le_refl _) _
  rw [← hw1]
  clear hw1
  have c0 := Row.cell hR 0
  have c2 := Row.cell hR 2
  have c3 := Row.cell hR 3
  simp only [List.getElem?_cons_zero, List.getElem?_cons_succ] at c0 c2 c3
  go_wp2_with (go_at_call 42; refine (HNU.out _).mono ?_; rintro e wq ⟨rfl, hwq⟩; obtain rfl := hwq.symm)
  go_loopw [5, 20] (fun isv kv w2 => ∃ k : Nat, k ≤ m ∧ kv = .int .i64 (k : Int) ∧ isv = .bool (badRun b0 (s.take k)) ∧ w2 = w1) (fun _ kv _ => m - (RowKit.intOf kv).toNat)
  case atStart => exact ⟨0, Nat.zero_le _, rfl, by simp [badRun], rfl⟩
  case round =>
    obtain ⟨k, hkm, rfl, rfl, rfl⟩ := hrel
    by_cases hlt : k < m
    · obtain ⟨x, hx⟩ := some_at (l := s) (k := k) (by rw [← HN.out]; exact hlt)
      have ik : k < (bstr s).size := by rw [hsz]; exact hlt
      have hxa : (bstr s)[k]'ik = x := bstr_at hx _
      have HX := Lib.hid hx
      have HRN := Lib.hid (fun w1 => runsC w1 x.toNat)
      obtain ⟨r0, hr0⟩ : ∃ r0, decide (RunN x.toNat) = r0 := ⟨_, rfl⟩
      obtain ⟨q0, hq0⟩ : ∃ q0, badRun b0 (s.take k) = q0 := ⟨_, rfl⟩
      rw [hr0] at HRN
      rw [hq0]
      have HNX := Lib.hid (badRun_next (b := b0) hx)
      rw [hr0, hq0] at HNX
      clear hx hr0 hq0
      cases q0
      · go_wp2_with (go_at_call 40; refine (HRN.out _).mono ?_; rintro e wq ⟨rfl, hwq⟩; obtain rfl := hwq.symm)
        go_roundw
        case rel => exact ⟨k + 1, by omega, by go_num, by rw [HNX.out]; cases r0 <;> rfl, trivial⟩
        case measure => simp [RowKit.intOf]; omega
      · go_wp2_with (go_at_call 40; refine (HRN.out _).mono ?_; rintro e wq ⟨rfl, hwq⟩; obtain rfl := hwq.symm)
        go_roundw
        case rel => exact ⟨k + 1, by omega, by go_num, by rw [HNX.out]; rfl, trivial⟩
        case measure => simp [RowKit.intOf]; omega
    · obtain rfl : k = m := by omega
      have hall : s.take k = s := List.take_of_length_le (by rw [← HN.out]; exact Nat.le_refl _)
      rw [hall, ← HB0.out]
      obtain ⟨q0, hq0⟩ : ∃ q0, badRun (numOf s).isSome s = q0 := ⟨_, rfl⟩
      rw [hq0]
      have HQ0 := Lib.hid hq0
      clear hq0 hall
      rcases Nat.eq_zero_or_pos k with h0 | h0
      · have hs0 : s = [] := List.eq_nil_of_length_eq_zero (by rw [← HN.out]; exact h0)
        subst hs0
        go_wp2
        go_quiet (fail)
        go_wp2
        go_ret2
        exact ⟨[], _, rfl, printed_one _ _ _ _ (by have := HQ0.out; simp_all), bl_drewN hb1 _⟩
      · have hnil : s ≠ [] := by rintro rfl; have := HN.out; simp at this; omega
        cases q0
        · by_cases hn : n = 0
          · subst hn
            go_wp2
            go_quiet (fail)
            go_wp2
            go_ret2
            exact ⟨s, _, rfl, printed_one _ _ _ _ (by have := HQ0.out; simp_all), bl_drewN hb1 _⟩
          · have hnb : (n == 0) = false := by simpa using hn
            go_wp2
            go_quiet (fail)
            go_wp2
            go_ret2
            exact ⟨s, _, rfl, printed_one _ _ _ _ (by have := HQ0.out; simp_all), bl_drewN hb1 _⟩
        · go_wp2
          go_quiet (fail)
          go_wp2
          go_ret2
          exact ⟨s, _, rfl, printed_one _ _ _ _ (by have := HQ0.out; simp_all), bl_drewN hb1 _⟩
end Go.Proofs.YtmhemahkcbgaoaaDoor
