/- Move, Insert, Delete of a gap, in words of its text. -/
import Derived.Test.YtpafdemnnofihaaGapD
namespace Go.Proofs.Ytpafdemnnofihaa
open Go.RowKit
theorem moveA (w : World) (g : Nat) (s : List UInt8) (p : Nat) (h : GapAt w g s p) (q : Nat) (hq : q ≤ s.length) :
    Calls Try.prog 19 #[gapV g, .int .i64 q] w fun e w' => e = .returned (.int .i64 0) ∧ GapAt w' g s q ∧ w.grownBy w' (some g) := by
  have hp := h.place
  have hr := h.room
  have hl := gapB_length s p hp hr
  rcases Nat.lt_or_ge q p with hlt | hge
  · refine (moveDown w g p _ (q + (252 - s.length)) _ h.raw hl (by omega) (by omega) q hlt (by omega)).mono fun e w' ⟨h1, h2, h3⟩ => ⟨h1, ⟨hq, hr, ?_⟩, h3⟩
    rw [show q + (252 - s.length) - q = 252 - s.length from by omega, gap_down s p q (by omega) hp hr] at h2
    exact h2
  · refine (moveUp w g p _ (q + (252 - s.length)) _ h.raw hl (by omega) (by omega) q hge (by omega) (by omega)).mono fun e w' ⟨h1, h2, h3⟩ => ⟨h1, ⟨hq, hr, ?_⟩, h3⟩
    rw [show q + (252 - s.length) - q = 252 - s.length from by omega, gap_up s p q hge hq hr] at h2
    exact h2
set_option maxHeartbeats 400000 in
theorem moveAno (w : World) (g : Nat) (s : List UInt8) (p : Nat) (h : GapAt w g s p) (q : Int) (hno : q < 0 ∨ (s.length : Int) < q) :
    Calls Try.prog 19 #[gapV g, .int .i64 q] w fun e w' => e = .returned (.int .i64 6) ∧ Quiet w w' := by
  go_enter Try.func19, Try.ntmps19
  go_wp2_with fail
  refine (thereYes _ g _ _ _ h.raw).mono ?_
  rintro e w' ⟨rfl, rfl⟩
  go_wp2_with fail
  refine (rightAno w g s p h q q (by omega)).mono ?_
  rintro e w1 ⟨rfl, hq⟩
  clear hno
  go_wp2
  go_ret
  exact ⟨rfl, hq⟩
set_option maxHeartbeats 400000 in
theorem insertAno (w : World) (g : Nat) (s : List UInt8) (p : Nat) (h : GapAt w g s p) (q : Int) (x : List UInt8) (hno : q < 0 ∨ (s.length : Int) < q) :
    Calls Try.prog 20 #[gapV g, .int .i64 q, .string (bstr x)] w fun e w' => e = .returned (.int .i64 6) ∧ Quiet w w' := by
  go_enter Try.func20, Try.ntmps20
  go_wp2_with fail
  refine (thereYes _ g _ _ _ h.raw).mono ?_
  rintro e w' ⟨rfl, rfl⟩
  go_wp2_with fail
  refine (rightAno w g s p h q q (by omega)).mono ?_
  rintro e w1 ⟨rfl, hq⟩
  clear hno
  go_wp2
  go_ret
  exact ⟨rfl, hq⟩
set_option maxHeartbeats 400000 in
theorem insertAfull (w : World) (g : Nat) (s : List UInt8) (p : Nat) (h : GapAt w g s p) (q : Nat) (x : List UInt8) (hq : q ≤ s.length) (hx : 252 - s.length < x.length) (hm : x.length ≤ 140737488351232) :
    Calls Try.prog 20 #[gapV g, .int .i64 q, .string (bstr x)] w fun e w' => e = .returned (.int .i64 161) ∧ Quiet w w' := by
  go_enter Try.func20, Try.ntmps20
  go_wp2_with fail
  refine (thereYes _ g _ _ _ h.raw).mono ?_
  rintro e w' ⟨rfl, rfl⟩
  go_wp2_with fail
  refine (rightA w g s p h q q (by omega) (by omega) (by omega)).mono ?_
  rintro e w1 ⟨rfl, hq1⟩
  go_wp2_with fail
  refine (roomA w1 g s p (h.quiet hq1)).mono ?_
  rintro e w2 ⟨rfl, hq2⟩
  have hlt : ((252 - s.length : Nat) : Int) < (x.length : Int) := by omega
  go_wp2
  go_ret
  exact ⟨rfl, hq1.trans hq2⟩
set_option maxHeartbeats 1000000 in
theorem insertA (w : World) (g : Nat) (s : List UInt8) (p : Nat) (h : GapAt w g s p) (q : Nat) (x : List UInt8) (hq : q ≤ s.length) (hx : x.length ≤ 252 - s.length) :
    Calls Try.prog 20 #[gapV g, .int .i64 q, .string (bstr x)] w fun e w' => e = .returned (.int .i64 0) ∧ GapAt w' g (s.take q ++ (x ++ s.drop q)) (q + x.length) ∧ w.grownBy w' (some g) := by
  have HX := Lib.hid hx
  have hr := h.room
  go_enter Try.func20, Try.ntmps20
  go_wp2_with fail
  refine (thereYes _ g _ _ _ h.raw).mono ?_
  rintro e w' ⟨rfl, rfl⟩
  go_wp2_with fail
  refine (rightA w g s p h q q (by omega) (by omega) (by omega)).mono ?_
  rintro e w1 ⟨rfl, hq1⟩
  go_wp2_with fail
  refine (roomA w1 g s p (h.quiet hq1)).mono ?_
  rintro e w2 ⟨rfl, hq2⟩
  have hlt : (x.length : Int) ≤ ((252 - s.length : Nat) : Int) := by omega
  go_wp2_with fail
  refine (moveA w2 g s p ((h.quiet hq1).quiet hq2) q hq).mono ?_
  rintro e w3 ⟨rfl, h3, hg3⟩
  have G3 := Lib.hid (grownBy_trans (grownBy_quiet (hq1.trans hq2) (some g)) hg3)
  have HR := Lib.hid hr
  obtain ⟨t, ht⟩ : ∃ t, t = q + (252 - s.length) := ⟨_, rfl⟩
  have hqt : q + x.length ≤ t := by omega
  have ht2 : t ≤ 252 := by omega
  obtain ⟨D, hD⟩ : ∃ D, D = gapB s q := ⟨_, rfl⟩
  have hD2 : D.length = 252 := by rw [hD]; exact gapB_length s q hq hr
  have r3 := h3.raw
  rw [← ht, ← hD] at r3
  have HT := Lib.hid ht
  have HD := Lib.hid hD
  have HD2 := Lib.hid hD2
  clear hg3 hq1 hq2 hx hlt h3 ht hD hD2 hr
  have hf := r3.from
  have hff := r3.fr 1
  go_wp2_with fail
  have hi2 : (q : Int) ≤ 252 := by omega
  have hwr : IntKind.i64.wrap ((q : Int) + (x.length : Int)) = (q : Int) + (x.length : Int) := IntWalk.i64_in _ (by omega)
  have h5 : Raw w3.drew g q t D := r3.quiet ⟨1, rfl⟩
  have G5 : Hid (w.grownBy w3.drew (some g)) := grownBy_trans G3.out (grownBy_quiet ⟨1, rfl⟩ _)
  go_region_law (refine step_copy_str rfl (.tmp 34) (.tmp 35) 22 9 rfl 5 Try.underlying22 Try.size1U8 (some (if 252 = q then ⟨g, 3, none⟩ else ⟨g, 3 + q, none⟩)) (252 - q) (252 - q) x (by simp [Act.eval, Act.put]) (by simp [Act.eval, Act.put]) g (3 + q) _ 60 h5 x (List.take_of_length_le (by omega)).symm (fun hpos => by first | rfl | rw [if_neg (show ¬ 252 = q by omega)]) (by rw [h5.len, HD2.out]; omega) ?_; intro w6 hr6 hg6; have h6 : Raw w6 g q t (splice D q x) := Raw.spliced hr6.out; have G6 := Lib.hid (grownBy_trans G5.out hg6); clear hr6 hg6; have hff6 := h6.fr 1; have hf6 := h6.from)
  all_goals
    clear hwr
    have h7 : Raw _ g _ t _ := h6.setFrom (q + x.length)
    rw [Int.natCast_add] at h7
    have G7 : Hid (w.grownBy _ (some g)) := grownBy_trans G6.out (grownBy_setCell w6 g 1 (.int .i64 ((q : Int) + (x.length : Int))))
    generalize (if 252 = q then ({ block := g, off := 3 } : Addr) else { block := g, off := 3 + q }) = X3
    generalize w6.setCell ⟨g, 1, none⟩ (.int .i64 ((q : Int) + (x.length : Int))) = w7 at h7 G7 ⊢
    clear h6 hff6 hf6 h5 hf hff
    go_wp2
    go_ret
    rw [HD.out, gap_put s x q hq (by have := HX.out; have := HR.out; omega)] at h7
    refine ⟨rfl, ⟨by simp; omega, by have := HX.out; have := HR.out; simp; omega, ?_⟩, G7.out⟩
    rw [show (q + x.length + (252 - (s.take q ++ (x ++ s.drop q)).length)) = t from by have := HT.out; have := HX.out; have := HR.out; simp; omega]
    exact h7
set_option maxHeartbeats 400000 in
theorem deleteAno (w : World) (g : Nat) (s : List UInt8) (p : Nat) (h : GapAt w g s p) (f u : Int) (hno : f < 0 ∨ u < f ∨ (s.length : Int) < u) :
    Calls Try.prog 21 #[gapV g, .int .i64 f, .int .i64 u] w fun e w' => e = .returned (.int .i64 6) ∧ Quiet w w' := by
  go_enter Try.func21, Try.ntmps21
  go_wp2_with fail
  refine (thereYes _ g _ _ _ h.raw).mono ?_
  rintro e w' ⟨rfl, rfl⟩
  go_wp2_with fail
  refine (rightAno w g s p h f u hno).mono ?_
  rintro e w1 ⟨rfl, hq⟩
  clear hno
  go_wp2
  go_ret
  exact ⟨rfl, hq⟩
set_option maxHeartbeats 1000000 in
theorem deleteA (w : World) (g : Nat) (s : List UInt8) (p : Nat) (h : GapAt w g s p) (f u : Nat) (hf : f ≤ u) (hu : u ≤ s.length) :
    Calls Try.prog 21 #[gapV g, .int .i64 f, .int .i64 u] w fun e w' => e = .returned (.int .i64 0) ∧ GapAt w' g (s.take f ++ s.drop u) f ∧ w.grownBy w' (some g) := by
  have hr := h.room
  go_enter Try.func21, Try.ntmps21
  go_wp2_with fail
  refine (thereYes _ g _ _ _ h.raw).mono ?_
  rintro e w' ⟨rfl, rfl⟩
  go_wp2_with fail
  refine (rightA w g s p h f u (by omega) (by omega) (by omega)).mono ?_
  rintro e w1 ⟨rfl, hq1⟩
  go_wp2_with fail
  refine (moveA w1 g s p (h.quiet hq1) u hu).mono ?_
  rintro e w3 ⟨rfl, h3, hg3⟩
  have G3 := Lib.hid (grownBy_trans (grownBy_quiet hq1 (some g)) hg3)
  have HR := Lib.hid hr
  obtain ⟨t, ht⟩ : ∃ t, t = u + (252 - s.length) := ⟨_, rfl⟩
  have hft : f ≤ t := by omega
  have ht2 : t ≤ 252 := by omega
  obtain ⟨D, hD⟩ : ∃ D, D = gapB s u := ⟨_, rfl⟩
  have hD2 : D.length = 252 := by rw [hD]; exact gapB_length s u hu hr
  have r3 := h3.raw
  rw [← ht, ← hD] at r3
  have HT := Lib.hid ht
  have HD := Lib.hid hD
  have HD2 := Lib.hid hD2
  clear hg3 hq1 h3 ht hD hD2 hr
  have hc := r3.from
  have hff := r3.fr 1
  go_wp2_with fail
  have h4 : Raw _ g f t D := r3.setFrom f
  have G4 : Hid (w.grownBy _ (some g)) := grownBy_trans G3.out (grownBy_setCell w3 g 1 (.int .i64 f))
  generalize (w3.setCell ⟨g, 1, none⟩ (.int .i64 f)) = w4 at h4 G4 ⊢
  clear hc hff r3 G3
  have hc := h4.from
  have hto := h4.to
  have hi1 : (f : Int) ≤ t := by omega
  have hi2 : (t : Int) ≤ 252 := by omega
  go_still_tail 12, (by kernel_rfl)
  change wpList _ _ _ _ _ w4.drew
  have h5 : Raw w4.drew g f t D := h4.quiet ⟨1, rfl⟩
  have G5 : Hid (w.grownBy w4.drew (some g)) := grownBy_trans G4.out (grownBy_quiet ⟨1, rfl⟩ _)
  generalize w4.drew = w5 at h5 G5 ⊢
  clear hc hto h4 G4 hi1 hi2
  refine wpList_clear_splice rfl (.tmp 33) 22 rfl 5 (.int .u8 0) Try.underlying22 zeroU8 rfl rfl _ (t - f) _ rfl g (3 + f) _ 60 h5
    (fun _ => by first | rfl | rw [if_neg (show ¬ 252 = f by omega)]) (by rw [h5.len, HD2.out]; omega) ?_
  intro w6 hr6 hg6
  generalize (if 252 = f then ({ block := g, off := 3 } : Addr) else { block := g, off := 3 + f }) = X3
  have h6 : Raw w6 g f t (splice D f (List.replicate (t - f) 0)) := Raw.spliced (cs := List.replicate (t - f) 0) (by rw [List.map_replicate]; exact hr6.out)
  have G6 := Lib.hid (grownBy_trans G5.out hg6)
  clear hr6 hg6 h5 G5
  go_wp2
  go_ret
  rw [HD.out, HT.out, gap_out s f u hf hu HR.out] at h6
  refine ⟨rfl, ⟨by simp; omega, by have := HR.out; simp; omega, ?_⟩, G6.out⟩
  rw [show f + (252 - (s.take f ++ s.drop u).length) = u + (252 - s.length) from by have := HR.out; simp; omega]
  exact h6
end Go.Proofs.Ytpafdemnnofihaa
