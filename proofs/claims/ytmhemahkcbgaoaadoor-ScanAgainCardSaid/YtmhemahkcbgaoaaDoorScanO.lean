/- A token's bytes, by the program: numbers, texts; the whole contract. -/
import Derived.Test.YtmhemahkcbgaoaaDoorScanN
import Derived.Test.YtmhemahkcbgaoaaDoorInC
namespace Go.Proofs.YtmhemahkcbgaoaaDoor
set_option linter.unusedVariables false
set_option linter.unusedSimpArgs false
open Go.RowKit
open Go.Lib hiding intOf
set_option maxHeartbeats 4000000 in
theorem printed_num (w : World) (a n : Int) (s : List UInt8) (h0 : -9223372036854775808 ≤ n) (h1 : n ≤ 9223372036854775807) (hT : Tabs w) :
    Calls Tryd.prog 35 #[.agg #[.int .i64 2, .int .i64 a, .string (bstr s), .int .i64 n]] w (PrintedQ w ⟨2, a, s, n⟩) := by
  go_enter Tryd.func35, Tryd.ntmps35
  go_upto_region 1 with fail
  obtain ⟨w1, hw1⟩ : ∃ w1, w1 = w.alloc (.cells #[.int .i64 2, .int .i64 a, .string (bstr s), .int .i64 n] 38) := ⟨_, rfl⟩
  have hR : Row w1 w.heap.size 38 [.int .i64 2, .int .i64 a, .string (bstr s), .int .i64 n] := by rw [hw1]; exact alloc_last _ _
  have hb1 : Below w.heap.size w w1 := by rw [hw1]; exact (Below.refl _ _).alloc (Nat.le_refl _) _
  rw [← hw1]
  clear hw1
  have HI : Hid (∀ w', InC w1 w' → Calls Tryd.prog 38 #[.int .i64 n] w' fun e w'' => e = .returned (.string (bstr (itoa n))) ∧ InC w1 w'') := Lib.hid fun w' h => (itoaC w' n h0 h1 ((hT.next hb1).next h)).mono fun e w'' ⟨he, hb⟩ => ⟨he, h.next hb⟩
  have c0 := Row.cell hR 0
  have c2 := Row.cell hR 2
  have c3 := Row.cell hR 3
  simp only [List.getElem?_cons_zero, List.getElem?_cons_succ] at c0 c2 c3
  have HC : Hid (∀ w', InC w1 w' → w'.cell? ⟨w.heap.size, 2, none⟩ = some (.string (bstr s)) ∧ w'.cell? ⟨w.heap.size, 3, none⟩ = some (.int .i64 n)) := Lib.hid fun w' h => ⟨h.cell c2, h.cell c3⟩
  clear h0 h1
  go_wp2
  clear c2 c3
  by_cases hs : s = []
  · subst hs
    refine wp_region_inC (by kernel_rfl) (by kernel_rfl) ?_
    repeat (first
      | (refine wpQuiet_step (fun K hK => ?_); go_simp; refine hK _ ?_; clear hK K)
      | (refine wpQuiet_step (fun K hK => ?_); go_simp; apply Exists.intro; refine ⟨fun w' hw' => ?_, hK _ ?_⟩; (first | rfl | (go_at_call 38; exact HI.out _ hw') | (obtain ⟨d2, d3⟩ := HC.out _ hw'; go_simp; rfl) | (obtain ⟨d2, d3⟩ := HC.out _ hw'; go_simp; done)); clear hK K))
    refine wpQuiet_nil ?_
    intro w5 hb5
    go_wp2
    go_ret2
    exact ⟨itoa n, decide (0 ≤ n), rfl, by unfold printed; by_cases hn : n < 0 <;> simp [hn] <;> omega, hb1.trans (Below.mono hb5 hb1.size)⟩
  · obtain ⟨x, s', rfl⟩ := List.exists_cons_of_ne_nil hs
    refine wp_region_inC (by kernel_rfl) (by kernel_rfl) ?_
    repeat (first
      | (refine wpQuiet_step (fun K hK => ?_); go_simp; refine hK _ ?_; clear hK K)
      | (refine wpQuiet_step (fun K hK => ?_); go_simp; apply Exists.intro; refine ⟨fun w' hw' => ?_, hK _ ?_⟩; (first | rfl | (go_at_call 38; exact HI.out _ hw') | (obtain ⟨d2, d3⟩ := HC.out _ hw'; go_simp; rfl) | (obtain ⟨d2, d3⟩ := HC.out _ hw'; go_simp; done)); clear hK K))
    refine wpQuiet_nil ?_
    intro w5 hb5
    go_wp2
    go_ret2
    exact ⟨itoa n, false, rfl, by unfold printed; simp, hb1.trans (Below.mono hb5 hb1.size)⟩
set_option maxHeartbeats 4000000 in
theorem printed_text (w : World) (a n : Int) (s : List UInt8) (hs : s.length ≤ 1048576) (hT : Tabs w) :
    Calls Tryd.prog 35 #[.agg #[.int .i64 3, .int .i64 a, .string (bstr s), .int .i64 n]] w (PrintedQ w ⟨3, a, s, n⟩) := by
  go_enter Tryd.func35, Tryd.ntmps35
  go_upto_region 1 with fail
  obtain ⟨w1, hw1⟩ : ∃ w1, w1 = w.alloc (.cells #[.int .i64 3, .int .i64 a, .string (bstr s), .int .i64 n] 38) := ⟨_, rfl⟩
  have hR : Row w1 w.heap.size 38 [.int .i64 3, .int .i64 a, .string (bstr s), .int .i64 n] := by rw [hw1]; exact alloc_last _ _
  have hb1 : Below w.heap.size w w1 := by rw [hw1]; exact (Below.refl _ _).alloc (Nat.le_refl _) _
  rw [← hw1]
  clear hw1
  have HI : Hid (∀ w', InC w1 w' → Calls Tryd.prog 11 #[.string (bstr s)] w' fun e w'' => e = .returned (.string (bstr (quoteOf s))) ∧ InC w1 w'') := Lib.hid fun w' h => (quoteC w' s hs ((hT.next hb1).next h)).mono fun e w'' ⟨he, hb⟩ => ⟨he, h.next hb⟩
  have c0 := Row.cell hR 0
  have c2 := Row.cell hR 2
  have c3 := Row.cell hR 3
  simp only [List.getElem?_cons_zero, List.getElem?_cons_succ] at c0 c2 c3
  have HC : Hid (∀ w', InC w1 w' → w'.cell? ⟨w.heap.size, 2, none⟩ = some (.string (bstr s)) ∧ w'.cell? ⟨w.heap.size, 3, none⟩ = some (.int .i64 n)) := Lib.hid fun w' h => ⟨h.cell c2, h.cell c3⟩
  clear hs
  go_wp2
  clear c2 c3
  refine wp_region_inC (by kernel_rfl) (by kernel_rfl) ?_
  repeat (first
    | (refine wpQuiet_step (fun K hK => ?_); go_simp; refine hK _ ?_; clear hK K)
    | (refine wpQuiet_step (fun K hK => ?_); go_simp; apply Exists.intro; refine ⟨fun w' hw' => ?_, hK _ ?_⟩; (first | rfl | (go_at_call 11; exact HI.out _ hw') | (obtain ⟨d2, d3⟩ := HC.out _ hw'; go_simp; rfl) | (obtain ⟨d2, d3⟩ := HC.out _ hw'; go_simp; done)); clear hK K))
  refine wpQuiet_nil ?_
  intro w5 hb5
  go_wp2
  go_ret2
  exact ⟨quoteOf s, n == 0, rfl, by unfold printed; by_cases hn : n = 0 <;> simp [hn], hb1.trans (Below.mono hb5 hb1.size)⟩
theorem printed_none (w : World) (k a n : Int) (s : List UInt8) (h1 : k ≠ 1) (h2 : k ≠ 2) (h3 : k ≠ 3) :
    Calls Tryd.prog 35 #[.agg #[.int .i64 k, .int .i64 a, .string (bstr s), .int .i64 n]] w (PrintedQ w ⟨k, a, s, n⟩) := by
  have e1 : (k == 1) = false := by simpa using h1
  have e2 : (k == 2) = false := by simpa using h2
  have e3 : (k == 3) = false := by simpa using h3
  have hp : printed ⟨k, a, s, n⟩ = none := by unfold printed; simp [h1, h2, h3]
  have HP := Lib.hid hp
  clear hp h1 h2 h3
  go_enter Tryd.func35, Tryd.ntmps35
  go_wp2
  go_ret2
  exact ⟨[], false, rfl, HP.out, (Below.refl _ _).alloc (Nat.le_refl _) _⟩
/-- a token within the reading's bounds -/
def TokOk (t : Tok) : Prop := t.text.length ≤ 1048576 ∧ -9223372036854775808 ≤ t.num ∧ t.num ≤ 9223372036854775807
theorem printedC (w : World) (t : Tok) (h : TokOk t) (hT : Tabs w) : Calls Tryd.prog 35 #[tokV t] w (PrintedQ w t) := by
  obtain ⟨k, a, s, n⟩ := t
  obtain ⟨h0, h1, h2⟩ := h
  by_cases e1 : k = 1
  · subst e1; exact printed_word w a n s h0
  by_cases e2 : k = 2
  · subst e2; exact printed_num w a n s h1 h2 hT
  by_cases e3 : k = 3
  · subst e3; exact printed_text w a n s h0 hT
  exact printed_none w k a n s e1 e2 e3
end Go.Proofs.YtmhemahkcbgaoaaDoor
