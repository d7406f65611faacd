/- How many lines a text has, and whether a line has its end: by both. -/
import Derived.Test.YtnbihjocdlpplaaDoorDSplitC
namespace Go.Proofs.YtnbihjocdlpplaaDoor
set_option linter.unusedVariables false
set_option linter.unusedSimpArgs false
open Go.RowKit Go.Shelf
open Go.Lib
attribute [local go_sem] Oper.semAt_some
set_option maxHeartbeats 4000000 in
set_option maxRecDepth 100000 in
theorem countC (w : World) (l : List UInt8) (hl : l.length ≤ 67108864) (hT : Tabs w) :
    Calls Tryd.prog 83 #[.string (bstr l)] w fun e w' => e = .returned (.int .i64 ((linesL l).length : Int)) ∧ Below w.heap.size w w' := by
  have hB7 := hT.size
  have HT := Lib.hid hT
  have hgf := enters_of Tryd.func93 (by kernel_rfl) rfl
  have HE := Lib.hid hgf
  clear hT hgf
  refine (callsIn_wide (n := 20)).1 ?_
  refine callsIn_of_wp_marks Tryd.func83 rfl trivial ?_ rfl
  simp only [Tryd.ntmps83, List.size_toArray, List.length_cons, List.length_nil, Nat.reduceAdd, Nat.reduceSub, Array.replicate_succ, Array.replicate_zero, List.push_toArray, List.append_toArray, List.nil_append, List.cons_append]
  gi_wp2_with (refine ⟨trivial, ?_⟩; gi_at_call 81; refine (callsIn_wide.2 (allC _ _)).mono ?_; rintro e w' ⟨rfl, hw'⟩)
  obtain ⟨s, hs⟩ : ∃ s, s = w.heap.size := ⟨_, rfl⟩
  have x1 : Boxed w' s 3 (.int .i64 0) := by rw [← hw', hs]; exact (Boxed.new w _ _).alloc _
  have x2 : Boxed w' (s + 1) 9 (.string (bstr l)) := by
    rw [← hw', hs]
    have := Boxed.new (w.alloc (.cells #[.int .i64 0] 3)) 9 (.string (bstr l))
    rwa [World.size_alloc] at this
  have zl : w'.heap.size = s + 2 := by rw [← hw', hs]; simp
  have bl : Below w.heap.size w w' := by rw [← hw']; exact ((Below.refl _ w).alloc (Nat.le_refl _) _).alloc (by simp) _
  rw [← hs] at bl hB7 ⊢
  have HTL : Hid (Tabs w') := Lib.hid (HT.out.below (hs ▸ bl) (by omega))
  have HSS := Lib.hid hs
  clear hs hw'
  have hseq := fun m hm => all1 m hm s (s + 1) w' l x2 hl HTL.out hB7 (by omega)
  have HSQ := Lib.hid hseq
  clear hseq
  refine wpIn_rangeFunc_C rfl (by decide) (gf := 93) (lb := #[.pointer (some ⟨s + 1, 0, none⟩)]) rfl trivial HE.out (HSQ.out 19 (by decide)) (fun r hr => ⟨by have hr : r < s ∨ r = s + 1 := hr; omega, rfl⟩) (Nat.le_refl _) (fun _ => rfl)
    (fun hi pre W => Below s w W ∧ Boxed W s 3 (.int .i64 (pre.length : Int)))
    (fun c hi pre W => False) ?hI ?hIx ?h0
    (fun x => { tmps := #[.string (bstr l), undef, .int .i64 0, .pointer (some ⟨s, 0, none⟩), .string (bstr l), .func (.func 93) #[] #[.pointer (some ⟨s + 1, 0, none⟩)], .agg #[.int .i64 (x.1 : Int), .int .i64 (x.2.1 : Int)], .int .i64 (x.2.2 : Int), undef, undef, undef], defers := [] }) ?assign ?body ?done ?stop
  case assign =>
    intro l' x Wx K hK
    obtain ⟨xa, xb, xe⟩ := x
    unfold pieceV
    gi_wp2
    exact hK
  case hI =>
    rintro hi pre A A' row ⟨h2, h3⟩ hg ht
    have ne : ∀ k, k < s + 2 → some k ≠ row := fun k hk e => by have := (ht k e.symm).1; omega
    exact ⟨h2.grown hg (by have := h3.lt; omega) (fun r e => by have := (ht r e).1; omega), h3.kept hg (ne _ (by omega))⟩
  case hIx =>
    rintro c hi pre A A' row h hg ht
    exact h
  case h0 =>
    intro hi hh
    exact ⟨bl, x1⟩
  case done =>
    rintro D hi xs Wx hD hDh rfl ⟨q2, q3⟩ hd
    have c3 := q3.cell
    have hlt := (Array.getElem?_eq_some_iff.1 hd).1
    have HQ2 := Lib.hid q2
    have HQ3 := Lib.hid q3
    clear q2 q3
    gi_wp2
    refine ⟨by simp, .inl ⟨_, _, rfl, run_takeDeferred hd, ?_⟩⟩
    refine ⟨_, results_tmp rfl _ _ _, rfl, ?_⟩
    rw [← HSS.out]
    exact HQ2.out.grown (grownBy_putObj' Wx D _) (by omega) (fun r e => by cases e; omega)
  case stop =>
    rintro D hi c pre Wx hD hDh hpre h hd
    exact h.elim
  case body =>
    rintro l' hi pre x Wx hhi1 hhi2 hpx ⟨q2, q3⟩
    have hpl := hpx.length_le
    have hll := linesL_len l
    rw [List.length_append, List.length_singleton] at hpl
    have c3 := q3.cell
    have f3 := q3.frozen
    have h1 : pre.length ≤ 67108864 := by omega
    have hn : (pre ++ [x]).length = pre.length + 1 := by simp
    have HQ2 := Lib.hid q2
    have HQ3 := Lib.hid q3
    obtain ⟨k, hk⟩ : ∃ k, k = pre.length := ⟨_, rfl⟩
    rw [← hk] at c3 h1 hn HQ3
    have HN := Lib.hid hn
    clear q2 q3 hpx hpl hn hk
    gi_wp2
    have hg : Wx.grownBy (Wx.setCell ⟨s, 0, none⟩ (.int .i64 ((k : Int) + 1))) (some s) := grownBy_setCell' Wx s _
    refine ⟨KeepsC.grown hg (fun r hr => by have hr : r < s ∨ r = s + 1 := hr; omega) (by omega) (fun r e => by cases e; exact ⟨fun h => by have h : s < s ∨ s = s + 1 := h; omega, .inl (by omega)⟩), HQ2.out.setCell (Nat.le_refl _) _, ?_⟩
    rw [HN.out, show ((k + 1 : Nat) : Int) = (k : Int) + 1 by omega]
    exact HQ3.out.set _
def endedL (l : List UInt8) : Bool := decide (1 < (linesL l).length)
theorem endsC (w : World) (l : List UInt8) (hl : l.length ≤ 67108864) (hT : Tabs w) :
    Calls Tryd.prog 61 #[.string (bstr l)] w fun e w' => e = .returned (.bool (endedL l)) ∧ Below w.heap.size w w' := by
  have HC := Lib.hid (countC w l hl hT)
  have hE : (decide ((1 : Int) < ((linesL l).length : Int))) = endedL l := by
    unfold endedL
    rw [decide_eq_decide]
    omega
  have HE := Lib.hid hE
  obtain ⟨n, hn⟩ : ∃ n, n = (linesL l).length := ⟨_, rfl⟩
  rw [← hn] at HC HE
  clear hE hn hT
  go_enter Tryd.func61, Tryd.ntmps61
  go_wp2_with (go_at_call 83; refine (HC.out).mono ?_; rintro e w1 ⟨rfl, hb1⟩; have HB1 := Lib.hid hb1; clear hb1)
  go_ret
  refine ⟨?_, HB1.out⟩
  rw [← HE.out]
  by_cases h : 1 < n
  · rw [decide_eq_true (show (1 : Int) < (n : Int) by omega)]; simp [h]
  · rw [decide_eq_false (show ¬ (1 : Int) < (n : Int) by omega)]; simp [h]
theorem endedR (w : World) (l : List UInt8) (hl : l.length ≤ 67108864) :
    Calls Tryd.prog 69 #[.string (bstr l)] w fun e w' => e = .returned (.bool (endedL l)) ∧ Below w.heap.size w w' := by
  have HC := Lib.hid (allR w l hl)
  have hE : (decide ((1 : Int) < ((linesL l).length : Int))) = endedL l := by
    unfold endedL
    rw [decide_eq_decide]
    omega
  have HE := Lib.hid hE
  clear hE
  go_enter Tryd.func69, Tryd.ntmps69
  go_wp2_with (go_at_call 88; refine (HC.out).mono ?_; rintro e w1 ⟨v1, rfl, hO1, hb1⟩; obtain ⟨a1, c1, rfl⟩ := slice_own hO1; have HB1 := Lib.hid hb1; clear hb1 hO1)
  go_ret
  refine ⟨?_, HB1.out⟩
  rw [← HE.out]
  by_cases h : 1 < (linesL l).length
  · rw [decide_eq_true (show (1 : Int) < ((linesL l).length : Int) by omega)]; simp [h]
  · rw [decide_eq_false (show ¬ (1 : Int) < ((linesL l).length : Int) by omega)]; simp [h]
end Go.Proofs.YtnbihjocdlpplaaDoor
