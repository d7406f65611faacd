/- Move of a gap. -/
import Derived.Test.YtpafdemnnofihaaGapC
import Derived.StillTailTactics
namespace Go.Proofs.Ytpafdemnnofihaa
open Go.RowKit
theorem raw_splice (p t : Nat) (D cs : List UInt8) (a : Nat) : splice (Value.bool true :: .int .i64 p :: .int .i64 t :: D.map B8) (3 + a) (cs.map B8) = .bool true :: .int .i64 p :: .int .i64 t :: (splice D a cs).map B8 := by
  unfold splice
  rw [show 3 + a = a + 3 from by omega, show a + 3 + (cs.map B8).length = (a + cs.length) + 3 from by rw [List.length_map]; omega, List.map_append, List.map_append, List.map_take, List.map_drop]
  rfl
theorem Raw.spliced {w : World} {g p t : Nat} {D cs : List UInt8} {a : Nat} (h : w.heap[g]? = some (.cells (splice (Value.bool true :: .int .i64 p :: .int .i64 t :: D.map B8) (3 + a) (cs.map B8)).toArray 60 (0, 0))) : Raw w g p t (splice D a cs) := by
  rw [raw_splice] at h
  exact h
theorem Raw.setFrom {w : World} {g p t : Nat} {D : List UInt8} (h : Raw w g p t D) (v : Nat) : Raw (w.setCell ⟨g, 1, none⟩ (.int .i64 v)) g v t D := Row.set h 1 _
theorem Raw.setTo {w : World} {g p t : Nat} {D : List UInt8} (h : Raw w g p t D) (v : Nat) : Raw (w.setCell ⟨g, 2, none⟩ (.int .i64 v)) g p v D := Row.set h 2 _
theorem Raw.fr {w : World} {g p t : Nat} {D : List UInt8} (h : Raw w g p t D) (k : Nat) : w.frozen? ⟨g, k, none⟩ = false := Row.frozen h k
theorem Raw.len {w : World} {g p t : Nat} {D : List UInt8} (_ : Raw w g p t D) : (Value.bool true :: .int .i64 p :: .int .i64 t :: D.map B8).length = D.length + 3 := by simp
theorem Raw.src {w : World} {g p t : Nat} {D : List UInt8} (h : Raw w g p t D) (o n : Nat) (hn : o + n ≤ D.length) (hn0 : 0 < n) : ∃ ad, (some ⟨g, 3 + o, none⟩ : Option Addr) = some ad ∧ ∀ j v, (((D.drop o).take n).map B8)[j]? = some v → w.cell? (ad.add j) = some v :=
  (h.reads o n hn).src hn0
theorem zeroU8 (w : World) : (zeroValue 5).run Try.prog w = .ok (.int .u8 0) w := by kernel_rfl
set_option maxHeartbeats 1000000 in
theorem moveDown (w : World) (g p t a : Nat) (D : List UInt8) (h : Raw w g p t D) (hD : D.length = 252) (hp : p ≤ t) (ht : t ≤ 252) (q : Nat) (hq : q < p) (ha : a = q + (t - p)) :
    Calls Try.prog 19 #[gapV g, .int .i64 q] w fun e w' => e = .returned (.int .i64 0) ∧ Raw w' g q a (splice (splice D a ((D.drop q).take (p - q))) q (List.replicate (a - q) 0)) ∧ w.grownBy w' (some g) := by
  have HD := Lib.hid hD
  have hqt : a < t := by omega
  have hqa : q ≤ a := by omega
  have hw1 : IntKind.i64.wrap ((t : Int) + ((q : Int) - p)) = (a : Int) := by rw [IntWalk.i64_in _ (by omega)]; omega
  have HW := Lib.hid hw1
  have HA := Lib.hid ha
  clear hD hw1 ha
  go_enter Try.func19, Try.ntmps19
  go_wp2_with fail
  refine (thereYes _ g _ _ _ h).mono ?_
  rintro e w' ⟨rfl, rfl⟩
  go_wp2_with fail
  refine (rightYes w g p t D h hp ht q q (by omega) (by omega) (by omega)).mono ?_
  rintro e w1 ⟨rfl, hq1⟩
  have h1 := h.quiet hq1
  have G1 := Lib.hid (grownBy_quiet hq1 (some g))
  have hf := h1.from
  have hto := h1.to
  clear hq1
  go_wp2_with fail
  have hw1 := HW.out
  have hi1 : (a : Int) ≤ t := by omega
  have hi2 : (t : Int) ≤ 252 := by omega
  have hi3 : (q : Int) ≤ p := by omega
  have hi4 : (p : Int) ≤ 252 := by omega
  go_still_tail 23, (by kernel_rfl)
  change wpList _ _ _ _ _ w1.drew
  have h2 : Raw w1.drew g p t D := h1.quiet ⟨1, rfl⟩
  have G2 : Hid (w.grownBy w1.drew (some g)) := grownBy_trans G1.out (grownBy_quiet ⟨1, rfl⟩ _)
  have hcl : ((D.drop q).take (p - q)).length = p - q := by have := HD.out; simp; omega
  have HC := Lib.hid hcl
  generalize w1.drew = w2 at h2 G2 ⊢
  clear hf hto h1 G1 hw1 hi1 hi2 hi3 hi4 hcl
  refine wpList_copy_grown rfl (.tmp 35) (.tmp 44) 22 22 rfl 5 Try.underlying22 Try.size1U8 _ _ _ _ _ _ rfl rfl g (3 + a) _ 60 h2 (((D.drop q).take (p - q)).map B8) (by rw [List.length_map, HC.out]; show p - q = min (p - q) (t - a); have := HA.out; omega)
    (fun hpos => by
      rw [if_neg (show ¬ 252 = a by omega), if_neg (show ¬ 252 = q by omega)]
      exact ⟨rfl, h2.src q (p - q) (by have := HD.out; omega) (by omega)⟩) (by rw [List.length_map, HC.out, h2.len, HD.out]; have := HA.out; omega) (b8_one _) ?_
  intro w3 hr3 hg3
  have h3 : Raw w3 g p t _ := Raw.spliced hr3.out
  have G3 := Lib.hid (grownBy_trans G2.out hg3)
  have HL3 : Hid ((splice D a ((D.drop q).take (p - q))).length = 252) := by
    have e := length_splice D a ((D.drop q).take (p - q)) (by rw [HC.out, HD.out]; have := HA.out; omega)
    rw [HD.out] at e
    exact e
  clear hr3 hg3 G2 h2
  obtain ⟨D3, hD3⟩ : ∃ D3, D3 = splice D a ((D.drop q).take (p - q)) := ⟨_, rfl⟩
  rw [← hD3] at h3 HL3
  have HD3 := Lib.hid hD3
  clear hD3
  have hf := h3.from
  have hto := h3.to
  have hff := h3.fr 1
  have hft := h3.fr 2
  have hqi : IntKind.i64.wrap ((p : Int) + ((q : Int) - p)) = (q : Int) := by rw [IntWalk.i64_in _ (by omega)]; omega
  have hai : (t : Int) + ((q : Int) - p) = (a : Int) := by have := HA.out; omega
  go_wp2_with fail
  have h4 : Raw _ g q a D3 := (h3.setFrom q).setTo a
  have G4 : Hid (w.grownBy _ (some g)) := grownBy_trans G3.out (grownBy_trans (grownBy_setCell w3 g 1 (.int .i64 q)) (grownBy_setCell _ g 2 (.int .i64 a)))
  generalize ((w3.setCell ⟨g, 1, none⟩ (.int .i64 q)).setCell ⟨g, 2, none⟩ (.int .i64 a)) = w4 at h4 G4 ⊢
  clear hf hto hff hft h3 G3 hqi hai
  have hf := h4.from
  have hto := h4.to
  have hi1 : (q : Int) ≤ a := by omega
  have hi2 : (a : Int) ≤ 252 := by omega
  go_still_tail 12, (by kernel_rfl)
  change wpList _ _ _ _ _ w4.drew
  have h5 : Raw w4.drew g q a D3 := h4.quiet ⟨1, rfl⟩
  have G5 : Hid (w.grownBy w4.drew (some g)) := grownBy_trans G4.out (grownBy_quiet ⟨1, rfl⟩ _)
  generalize w4.drew = w5 at h5 G5 ⊢
  clear hf hto h4 G4 hi1 hi2
  refine wpList_clear_splice rfl (.tmp 96) 22 rfl 5 (.int .u8 0) Try.underlying22 zeroU8 rfl rfl _ (a - q) _ rfl g (3 + q) _ 60 h5
    (fun _ => by first | rfl | rw [if_neg (show ¬ 252 = q by omega)]) (by rw [h5.len, HL3.out]; omega) ?_
  intro w6 hr6 hg6
  have h6 : Raw w6 g q a (splice D3 q (List.replicate (a - q) 0)) := Raw.spliced (cs := List.replicate (a - q) 0) (by rw [List.map_replicate]; exact hr6.out)
  have G6 := Lib.hid (grownBy_trans G5.out hg6)
  clear hr6 hg6 h5 G5
  go_wp2
  go_ret
  rw [HD3.out] at h6
  exact ⟨rfl, h6, G6.out⟩
set_option maxHeartbeats 1000000 in
theorem moveUp (w : World) (g p t a : Nat) (D : List UInt8) (h : Raw w g p t D) (hD : D.length = 252) (hp : p ≤ t) (ht : t ≤ 252) (q : Nat) (hq : p ≤ q) (hqs : q ≤ 252 - (t - p)) (ha : a = q + (t - p)) :
    Calls Try.prog 19 #[gapV g, .int .i64 q] w fun e w' => e = .returned (.int .i64 0) ∧ Raw w' g q a (splice (splice D p ((D.drop t).take (q - p))) q (List.replicate (a - q) 0)) ∧ w.grownBy w' (some g) := by
  have HD := Lib.hid hD
  have hqt : t ≤ a := by omega
  have ha2 : a ≤ 252 := by omega
  have hqa : q ≤ a := by omega
  have hw1 : IntKind.i64.wrap ((t : Int) + ((q : Int) - p)) = (a : Int) := by rw [IntWalk.i64_in _ (by omega)]; omega
  have HW := Lib.hid hw1
  have HA := Lib.hid ha
  clear hD hw1 ha
  go_enter Try.func19, Try.ntmps19
  go_wp2_with fail
  refine (thereYes _ g _ _ _ h).mono ?_
  rintro e w' ⟨rfl, rfl⟩
  go_wp2_with fail
  refine (rightYes w g p t D h hp ht q q (by omega) (by omega) (by omega)).mono ?_
  rintro e w1 ⟨rfl, hq1⟩
  have h1 := h.quiet hq1
  have G1 := Lib.hid (grownBy_quiet hq1 (some g))
  have hf := h1.from
  have hto := h1.to
  clear hq1
  go_wp2_with fail
  have hw1 := HW.out
  have hi1 : (t : Int) ≤ a := by omega
  have hi2 : (a : Int) ≤ 252 := by omega
  have hi4 : (p : Int) ≤ 252 := by omega
  go_still_tail 22, (by kernel_rfl)
  change wpList _ _ _ _ _ w1.drew
  have h2 : Raw w1.drew g p t D := h1.quiet ⟨1, rfl⟩
  have G2 : Hid (w.grownBy w1.drew (some g)) := grownBy_trans G1.out (grownBy_quiet ⟨1, rfl⟩ _)
  have hcl : ((D.drop t).take (q - p)).length = q - p := by have := HD.out; simp; omega
  have HC := Lib.hid hcl
  generalize w1.drew = w2 at h2 G2 ⊢
  clear hf hto h1 G1 hw1 hi1 hi2 hi4 hcl
  refine wpList_copy_grown rfl (.tmp 53) (.tmp 67) 22 22 rfl 5 Try.underlying22 Try.size1U8 _ _ _ _ _ _ rfl rfl g (3 + p) _ 60 h2 (((D.drop t).take (q - p)).map B8) (by rw [List.length_map, HC.out]; show q - p = min (a - t) (252 - p); have := HA.out; omega)
    (fun hpos => by
      rw [List.length_map, HC.out] at hpos
      have := HA.out
      rw [if_neg (show ¬ 252 = p by omega), if_neg (show ¬ 252 = t by omega)]
      exact ⟨rfl, h2.src t (q - p) (by have := HD.out; omega) (by omega)⟩) (by rw [List.length_map, HC.out, h2.len, HD.out]; have := HA.out; omega) (b8_one _) ?_
  intro w3 hr3 hg3
  generalize (if 252 = p then ({ block := g, off := 3 } : Addr) else { block := g, off := 3 + p }) = X1
  generalize (if 252 = t then ({ block := g, off := 3 } : Addr) else { block := g, off := 3 + t }) = X2
  have h3 : Raw w3 g p t _ := Raw.spliced hr3.out
  have G3 := Lib.hid (grownBy_trans G2.out hg3)
  have HL3 : Hid ((splice D p ((D.drop t).take (q - p))).length = 252) := by
    have e := length_splice D p ((D.drop t).take (q - p)) (by rw [HC.out, HD.out]; have := HA.out; omega)
    rw [HD.out] at e
    exact e
  clear hr3 hg3 G2 h2
  obtain ⟨D3, hD3⟩ : ∃ D3, D3 = splice D p ((D.drop t).take (q - p)) := ⟨_, rfl⟩
  rw [← hD3] at h3 HL3
  have HD3 := Lib.hid hD3
  clear hD3
  have hf := h3.from
  have hto := h3.to
  have hff := h3.fr 1
  have hft := h3.fr 2
  have hqi : IntKind.i64.wrap ((p : Int) + ((q : Int) - p)) = (q : Int) := by rw [IntWalk.i64_in _ (by omega)]; omega
  have hai : (t : Int) + ((q : Int) - p) = (a : Int) := by have := HA.out; omega
  go_wp2_with fail
  have h4 : Raw _ g q a D3 := (h3.setFrom q).setTo a
  have G4 : Hid (w.grownBy _ (some g)) := grownBy_trans G3.out (grownBy_trans (grownBy_setCell w3 g 1 (.int .i64 q)) (grownBy_setCell _ g 2 (.int .i64 a)))
  generalize ((w3.setCell ⟨g, 1, none⟩ (.int .i64 q)).setCell ⟨g, 2, none⟩ (.int .i64 a)) = w4 at h4 G4 ⊢
  clear hf hto hff hft h3 G3 hqi hai
  have hf := h4.from
  have hto := h4.to
  have hi1 : (q : Int) ≤ a := by omega
  have hi2 : (a : Int) ≤ 252 := by omega
  go_still_tail 12, (by kernel_rfl)
  change wpList _ _ _ _ _ w4.drew
  have h5 : Raw w4.drew g q a D3 := h4.quiet ⟨1, rfl⟩
  have G5 : Hid (w.grownBy w4.drew (some g)) := grownBy_trans G4.out (grownBy_quiet ⟨1, rfl⟩ _)
  generalize w4.drew = w5 at h5 G5 ⊢
  clear hf hto h4 G4 hi1 hi2
  refine wpList_clear_splice rfl (.tmp 96) 22 rfl 5 (.int .u8 0) Try.underlying22 zeroU8 rfl rfl _ (a - q) _ rfl g (3 + q) _ 60 h5
    (fun _ => by first | rfl | rw [if_neg (show ¬ 252 = q by omega)]) (by rw [h5.len, HL3.out]; omega) ?_
  intro w6 hr6 hg6
  generalize (if 252 = q then ({ block := g, off := 3 } : Addr) else { block := g, off := 3 + q }) = X3
  have h6 : Raw w6 g q a (splice D3 q (List.replicate (a - q) 0)) := Raw.spliced (cs := List.replicate (a - q) 0) (by rw [List.map_replicate]; exact hr6.out)
  have G6 := Lib.hid (grownBy_trans G5.out hg6)
  clear hr6 hg6 h5 G5
  go_wp2
  go_ret
  rw [HD3.out] at h6
  exact ⟨rfl, h6, G6.out⟩
end Go.Proofs.Ytpafdemnnofihaa
