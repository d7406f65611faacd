/- The reference's May: may a token be? -/
import Derived.Test.YtmhemahkcbgaoaaDoorPrintB
namespace Go.Proofs.YtmhemahkcbgaoaaDoor
set_option linter.unusedVariables false
set_option linter.unusedSimpArgs false
open Go.RowKit
open Go.Lib hiding intOf
def MayQ (w : World) (t : Tok) (e : Ending) (w' : World) : Prop := e = .returned (.bool (printed t).isSome) ∧ Below w.heap.size w w'
theorem may_one (a n : Int) (s : List UInt8) : (printed ⟨1, a, s, n⟩).isSome = (!decide (s = []) && (!badRun (numOf s).isSome s && decide (n = 0))) := by
  rw [printed_one a n s _ rfl]
  cases (!decide (s = []) && (!badRun (numOf s).isSome s && decide (n = 0))) <;> rfl
set_option maxHeartbeats 4000000 in
set_option maxRecDepth 100000 in
theorem may_word (w : World) (a n : Int) (s : List UInt8) (hs : s.length ≤ 1048576) :
    Calls Tryd.prog 37 #[.agg #[.int .i64 1, .int .i64 a, .string (bstr s), .int .i64 n]] w (MayQ w ⟨1, a, s, n⟩) := by
  obtain ⟨m, hm⟩ : ∃ m, m = s.length := ⟨_, rfl⟩
  have hsz : (bstr s).size = m := by rw [bstr_size, hm]
  have HN := Lib.hid hm
  have HNU := Lib.hid (fun w1 => numberR w1 s (by omega))
  have HM := Lib.hid (may_one a n s)
  rw [← hm] at hs
  clear hm
  go_enter Tryd.func37, Tryd.ntmps37
  go_upto_region 1 with fail
  obtain ⟨w1, hw1⟩ : ∃ w1, w1 = w.alloc (.cells #[.int .i64 1, .int .i64 a, .string (bstr s), .int .i64 n] 38) := ⟨_, rfl⟩
  have hR : Row w1 w.heap.size 38 [.int .i64 1, .int .i64 a, .string (bstr s), .int .i64 n] := by rw [hw1]; exact alloc_last _ _
  have hb1 : Below w.heap.size w w1 := by rw [hw1]; exact (Below.refl _ _).alloc (Nat.le_refl _) _
  rw [← hw1]
  clear hw1
  have c0 := Row.cell hR 0
  have c2 := Row.cell hR 2
  have c3 := Row.cell hR 3
  simp only [List.getElem?_cons_zero, List.getElem?_cons_succ] at c0 c2 c3
  go_wp2
  go_loopw [3] (fun kv w2 => ∃ k : Nat, k ≤ m ∧ kv = .int .i64 (k : Int) ∧ Hid (badRun false (s.take k) = false) ∧ w2 = w1) (fun kv _ => m - (RowKit.intOf kv).toNat)
  case atStart => exact ⟨0, Nat.zero_le _, rfl, Lib.hid (by simp [badRun]), rfl⟩
  case round =>
    obtain ⟨k, hkm, rfl, HB, rfl⟩ := hrel
    by_cases hlt : k < m
    · obtain ⟨x, hx⟩ := some_at (l := s) (k := k) (by rw [← HN.out]; exact hlt)
      have ik : k < (bstr s).size := by rw [hsz]; exact hlt
      have hxa : (bstr s)[k]'ik = x := bstr_at hx _
      have HX := Lib.hid hx
      have HNX := Lib.hid (badRun_next (b := false) hx)
      by_cases hr : RunN x.toNat
      · have HRN := Lib.hid (fun w1 => decide_eq_true hr ▸ runsR w1 x.toNat)
        have HR := Lib.hid (decide_eq_true hr)
        clear hx hr
        go_wp2_with (go_at_call 46; refine (HRN.out _).mono ?_; rintro e wq ⟨rfl, hwq⟩; obtain rfl := hwq.symm)
        go_roundw
        case rel => exact ⟨k + 1, by omega, by go_num, Lib.hid (by rw [HNX.out, HB.out, HR.out]; rfl), trivial⟩
        case measure => simp [RowKit.intOf]; omega
      · have HRN := Lib.hid (fun w1 => decide_eq_false hr ▸ runsR w1 x.toNat)
        have hbad : badRun (numOf s).isSome s = true := by
          unfold badRun
          rw [Bool.or_eq_true]
          exact .inr (List.any_eq_true.2 ⟨x, List.mem_of_getElem? hx, by simp [hr]⟩)
        have HBAD := Lib.hid hbad
        clear hx hr hbad
        go_wp2_with (go_at_call 46; refine (HRN.out _).mono ?_; rintro e wq ⟨rfl, hwq⟩; obtain rfl := hwq.symm)
        go_ret
        unfold MayQ
        rw [HM.out, HBAD.out]
        exact ⟨by simp, hb1⟩
    · obtain rfl : k = m := by omega
      have hall : s.take k = s := List.take_of_length_le (by rw [← HN.out]; exact Nat.le_refl _)
      have hbr := HB.out
      rw [hall] at hbr
      obtain ⟨b0, hb0⟩ : ∃ b0, (numOf s).isSome = b0 := ⟨_, rfl⟩
      have hbr2 : badRun (numOf s).isSome s = b0 := by
        unfold badRun at hbr ⊢
        rw [hb0]
        rw [Bool.false_or] at hbr
        rw [hbr, Bool.or_false]
      have HBR := Lib.hid hbr2
      have HNU2 : Hid (∀ w1, Calls Tryd.prog 47 #[.string (bstr s)] w1 fun e w' => ∃ z : Int, e = .returned (.tuple #[.int .i64 z, .bool b0]) ∧ Quiet w1 w') := Lib.hid fun w1 => (HNU.out w1).mono fun e w' ⟨z, he, _, hq⟩ => ⟨z, by rw [he, hb0], hq⟩
      clear hall hbr hb0 hbr2
      have hfin : ∀ b : Bool, b = (!decide (s = []) && (!b0 && decide (n = 0))) → ∀ w', Below w.heap.size w w' → MayQ w ⟨1, a, s, n⟩ (.returned (.bool b)) w' := by
        intro b hb w' hw
        unfold MayQ
        rw [HM.out, HBR.out, hb]
        exact ⟨rfl, hw⟩
      have HF := Lib.hid hfin
      clear hfin
      rcases Nat.eq_zero_or_pos k with h0 | h0
      · have hs0 : s = [] := List.eq_nil_of_length_eq_zero (by rw [← HN.out]; exact h0)
        have HS0 := Lib.hid hs0
        clear hs0
        subst h0
        go_wp2_with (go_at_call 47; refine (HNU2.out _).mono ?_; rintro e wq ⟨z, rfl, hq⟩; obtain ⟨nd, rfl⟩ := hq)
        go_ret
        exact HF.out _ (by rw [HS0.out]; simp) _ (bl_drewN hb1 _)
      · have HS0 : Hid (¬ s = []) := Lib.hid (by rintro rfl; have := HN.out; simp at this; omega)
        cases b0
        · by_cases hn : n = 0
          · subst hn
            go_wp2_with (go_at_call 47; refine (HNU2.out _).mono ?_; rintro e wq ⟨z, rfl, hq⟩; obtain ⟨nd, rfl⟩ := hq)
            go_ret
            exact HF.out _ (by simp [HS0.out]) _ (bl_drewN hb1 _)
          · have hnb : (n == 0) = false := by simpa using hn
            go_wp2_with (go_at_call 47; refine (HNU2.out _).mono ?_; rintro e wq ⟨z, rfl, hq⟩; obtain ⟨nd, rfl⟩ := hq)
            go_ret
            exact HF.out _ (by simp [hn]) _ (bl_drewN hb1 _)
        · go_wp2_with (go_at_call 47; refine (HNU2.out _).mono ?_; rintro e wq ⟨z, rfl, hq⟩; obtain ⟨nd, rfl⟩ := hq)
          go_ret
          exact HF.out _ (by simp) _ (bl_drewN hb1 _)
set_option maxHeartbeats 4000000 in
set_option maxRecDepth 100000 in
theorem mayR (w : World) (t : Tok) (h : TokOk t) : Calls Tryd.prog 37 #[tokV t] w (MayQ w t) := by
  obtain ⟨k, a, s, n⟩ := t
  obtain ⟨h0, h1, h2⟩ := h
  by_cases e1 : k = 1
  · subst e1; exact may_word w a n s h0
  have hp : ∀ b : Bool, b = (if k = 2 then decide (s = []) && decide (0 ≤ n) else if k = 3 then decide (n = 0) else false) → ∀ w', Below w.heap.size w w' → MayQ w ⟨k, a, s, n⟩ (.returned (.bool b)) w' := by
    intro b hb w' hw
    refine ⟨?_, hw⟩
    congr 2
    rw [hb]
    unfold printed
    simp only [e1, if_false]
    by_cases e2 : k = 2
    · subst e2
      simp only [if_true]
      by_cases hs : s = []
      · subst hs
        by_cases hn : n < 0
        · simp [hn]
        · simp [hn]; omega
      · have : ¬ s.length = 0 := fun h => hs (List.eq_nil_of_length_eq_zero h)
        simp [hs]
    simp only [e2, if_false]
    by_cases e3 : k = 3
    · by_cases hn : n = 0 <;> simp [e3, hn]
    · simp [e3]
  have HP := Lib.hid hp
  clear hp h0 h1 h2
  have k1 : (k == 1) = false := by simpa using e1
  have HW : Hid (Below w.heap.size w (w.alloc (.cells #[.int .i64 k, .int .i64 a, .string (bstr s), .int .i64 n] 38))) := Lib.hid ((Below.refl _ _).alloc (Nat.le_refl _) _)
  show Calls Tryd.prog 37 #[.agg #[.int .i64 k, .int .i64 a, .string (bstr s), .int .i64 n]] w (MayQ w ⟨k, a, s, n⟩)
  by_cases e2 : k = 2
  · subst e2
    by_cases hs : s = []
    · subst hs
      go_enter Tryd.func37, Tryd.ntmps37
      go_wp2
      go_ret
      exact HP.out _ (by simp) _ HW.out
    · obtain ⟨x, s', rfl⟩ := List.exists_cons_of_ne_nil hs
      go_enter Tryd.func37, Tryd.ntmps37
      go_wp2
      go_ret
      exact HP.out _ (by simp) _ HW.out
  have k2 : (k == 2) = false := by simpa using e2
  by_cases e3 : k = 3
  · subst e3
    go_enter Tryd.func37, Tryd.ntmps37
    go_wp2
    go_ret
    exact HP.out _ (by by_cases hn : n = 0 <;> simp [hn]) _ HW.out
  have k3 : (k == 3) = false := by simpa using e3
  go_enter Tryd.func37, Tryd.ntmps37
  go_wp2
  go_ret
  exact HP.out _ (by simp [e2, e3]) _ HW.out
end Go.Proofs.YtmhemahkcbgaoaaDoor
