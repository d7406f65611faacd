/- A step of both gaps, act by act. -/
import Derived.Test.YtpafdemnnofihaaStep
namespace Go.Proofs.Ytpafdemnnofihaa
open Go.RowKit

set_option maxHeartbeats 4000000 in
set_option maxRecDepth 100000 in
theorem step1Yes (w : World) (g r : Nat) (s : List UInt8) (p : Nat) (H : Both w g r s p) (q : Nat) (hq : q ≤ s.length) (hi : Int) (x : List UInt8) :
    Calls Try.prog 27 #[gapV g, gapV r, .agg #[.int .i64 1, .int .i64 q, .int .i64 hi, .string (bstr x)]] w fun e w' => e = .returned (.tuple #[gapV g, .bool true]) ∧ Both w' g r s q ∧ Kept2 w w' g r := by
  have hs := H.gap.room
  have hne := H.ne
  have HB := Lib.hid H
  have hlg := H.gap.lt
  have hlr := H.ref.lt
  clear H
  go_enter Try.func27, Try.ntmps27
  go_wp2_with fail
  obtain ⟨w0, hw0⟩ : ∃ w0, w0 = w.alloc (.cells #[.int .i64 1, .int .i64 q, .int .i64 hi, .string (bstr x)] 41) := ⟨_, rfl⟩
  have hc : ∀ k v, ([.int .i64 1, .int .i64 q, .int .i64 hi, .string (bstr x)] : List Value)[k]? = some v → w0.cell? ⟨w.heap.size, k, none⟩ = some v := fun k v hv => by rw [hw0, cell_new w [.int .i64 1, .int .i64 q, .int .i64 hi, .string (bstr x)] _ k]; exact hv
  have hbw : Below w.heap.size w w0 := by rw [hw0]; exact (Below.refl _ _).alloc (Nat.le_refl _) _
  have K0 : Hid (Kept2 w w0.drew g r) := (Kept2.below hbw).trans (Kept2.quiet ⟨1, rfl⟩)
  have H0 : Hid (Both w0.drew g r s p) := (HB.out.keep hbw hlg hlr).quiet ⟨1, rfl⟩
  have z0 : w.heap.size < w0.heap.size := by rw [hw0]; simp
  have c01 : w0.cell? ⟨w.heap.size, 1, none⟩ = some (.int .i64 (q : Int)) := hc 1 _ rfl
  rw [← hw0]
  clear hc hbw hw0
  go_region_held3 (fun w' => w'.cell? ⟨w.heap.size, 1, none⟩ = some (.int .i64 (q : Int))) (first | exact c01 | exact c11 | exact c21)
   (first
    | (go_at_call 19; refine (moveA _ g s p H0.out.gap q hq).mono ?_; rintro e w1 ⟨rfl, h1, hg1⟩; have R1 : Hid (RefAt w1 r s p) := H0.out.ref.apart hg1 (Ne.symm hne); have K1 := Lib.hid (K0.out.trans (Kept2.left hg1)); have z1 : w.heap.size < w1.heap.size := Nat.lt_of_lt_of_le z0 hg1.size; have H1 := Lib.hid h1; have c11 : w1.cell? ⟨w.heap.size, 1, none⟩ = some (.int .i64 (q : Int)) := (by rw [World.cell?_of_block (w := w0) (hg1.block w.heap.size z0 (by simp; omega))]; exact c01); clear h1)
    | (go_at_call 36; refine (rMove _ r s p R1.out hs q hq).mono ?_; rintro e w2 ⟨rfl, k2, hg2⟩; have K2 := Lib.hid (K1.out.trans (Kept2.right hg2)); have H2 : Hid (GapAt w2 g _ _) := H1.out.apart hg2 hne; have c21 : w2.cell? ⟨w.heap.size, 1, none⟩ = some (.int .i64 (q : Int)) := (by rw [World.cell?_of_block (w := w1) (hg2.block w.heap.size z1 (by simp; omega))]; exact c11)))
  go_wp2
  go_ret2
  exact ⟨rfl, ⟨H2.out, k2, hne⟩, K2.out⟩

set_option maxHeartbeats 4000000 in
set_option maxRecDepth 100000 in
theorem step1No (w : World) (g r : Nat) (s : List UInt8) (p : Nat) (H : Both w g r s p) (lo : Int) (hno : lo < 0 ∨ (s.length : Int) < lo) (hi : Int) (x : List UInt8) :
    Calls Try.prog 27 #[gapV g, gapV r, .agg #[.int .i64 1, .int .i64 lo, .int .i64 hi, .string (bstr x)]] w fun e w' => e = .returned (.tuple #[gapV g, .bool true]) ∧ Both w' g r s p ∧ Kept2 w w' g r := by
  have hs := H.gap.room
  have hne := H.ne
  have HB := Lib.hid H
  have hlg := H.gap.lt
  have hlr := H.ref.lt
  clear H
  have HNO := Lib.hid hno
  clear hno
  go_enter Try.func27, Try.ntmps27
  go_wp2_with fail
  obtain ⟨w0, hw0⟩ : ∃ w0, w0 = w.alloc (.cells #[.int .i64 1, .int .i64 lo, .int .i64 hi, .string (bstr x)] 41) := ⟨_, rfl⟩
  have hc : ∀ k v, ([.int .i64 1, .int .i64 lo, .int .i64 hi, .string (bstr x)] : List Value)[k]? = some v → w0.cell? ⟨w.heap.size, k, none⟩ = some v := fun k v hv => by rw [hw0, cell_new w [.int .i64 1, .int .i64 lo, .int .i64 hi, .string (bstr x)] _ k]; exact hv
  have hbw : Below w.heap.size w w0 := by rw [hw0]; exact (Below.refl _ _).alloc (Nat.le_refl _) _
  have K0 : Hid (Kept2 w w0.drew g r) := (Kept2.below hbw).trans (Kept2.quiet ⟨1, rfl⟩)
  have H0 : Hid (Both w0.drew g r s p) := (HB.out.keep hbw hlg hlr).quiet ⟨1, rfl⟩
  have z0 : w.heap.size < w0.heap.size := by rw [hw0]; simp
  have c01 : w0.cell? ⟨w.heap.size, 1, none⟩ = some (.int .i64 lo) := hc 1 _ rfl
  rw [← hw0]
  clear hc hbw hw0
  go_region_held3 (fun w' => w'.cell? ⟨w.heap.size, 1, none⟩ = some (.int .i64 lo)) (first | exact c01 | exact c11 | exact c21)
   (first
    | (go_at_call 19; refine (moveAno _ g s p H0.out.gap lo HNO.out).mono ?_; rintro e w1 ⟨rfl, hq1⟩; have H1 := Lib.hid (H0.out.quiet hq1); have K1 := Lib.hid (K0.out.trans (Kept2.quiet hq1)); have z1 : w.heap.size < w1.heap.size := (by rw [hq1.heap]; exact z0); have c11 : w1.cell? ⟨w.heap.size, 1, none⟩ = some (.int .i64 lo) := (by rw [World.cell?_of_block (w := w0) (by rw [hq1.heap]; rfl)]; exact c01); clear hq1)
    | (go_at_call 36; refine (rMoveNo _ r s p H1.out.ref hs lo HNO.out).mono ?_; rintro e w2 ⟨rfl, rfl⟩; have c21 := c11))
  go_wp2
  go_ret2
  exact ⟨rfl, H1.out, K1.out⟩

set_option maxHeartbeats 4000000 in
set_option maxRecDepth 100000 in
theorem step2Yes (w : World) (g r : Nat) (s : List UInt8) (p : Nat) (H : Both w g r s p) (q : Nat) (hq : q ≤ s.length) (hi : Int) (x : List UInt8) (hx : x.length ≤ 252 - s.length) :
    Calls Try.prog 27 #[gapV g, gapV r, .agg #[.int .i64 2, .int .i64 q, .int .i64 hi, .string (bstr x)]] w fun e w' => e = .returned (.tuple #[gapV g, .bool true]) ∧ Both w' g r (s.take q ++ (x ++ s.drop q)) (q + x.length) ∧ Kept2 w w' g r := by
  have hs := H.gap.room
  have hne := H.ne
  have HB := Lib.hid H
  have hlg := H.gap.lt
  have hlr := H.ref.lt
  clear H
  go_enter Try.func27, Try.ntmps27
  go_wp2_with fail
  obtain ⟨w0, hw0⟩ : ∃ w0, w0 = w.alloc (.cells #[.int .i64 2, .int .i64 q, .int .i64 hi, .string (bstr x)] 41) := ⟨_, rfl⟩
  have hc : ∀ k v, ([.int .i64 2, .int .i64 q, .int .i64 hi, .string (bstr x)] : List Value)[k]? = some v → w0.cell? ⟨w.heap.size, k, none⟩ = some v := fun k v hv => by rw [hw0, cell_new w [.int .i64 2, .int .i64 q, .int .i64 hi, .string (bstr x)] _ k]; exact hv
  have hbw : Below w.heap.size w w0 := by rw [hw0]; exact (Below.refl _ _).alloc (Nat.le_refl _) _
  have K0 : Hid (Kept2 w w0.drew g r) := (Kept2.below hbw).trans (Kept2.quiet ⟨1, rfl⟩)
  have H0 : Hid (Both w0.drew g r s p) := (HB.out.keep hbw hlg hlr).quiet ⟨1, rfl⟩
  have z0 : w.heap.size < w0.heap.size := by rw [hw0]; simp
  have c01 : w0.cell? ⟨w.heap.size, 1, none⟩ = some (.int .i64 (q : Int)) := hc 1 _ rfl
  have c03 : w0.cell? ⟨w.heap.size, 3, none⟩ = some (.string (bstr x)) := hc 3 _ rfl
  rw [← hw0]
  clear hc hbw hw0
  go_region_held3 (fun w' => w'.cell? ⟨w.heap.size, 1, none⟩ = some (.int .i64 (q : Int)) ∧ w'.cell? ⟨w.heap.size, 3, none⟩ = some (.string (bstr x))) (first | exact ⟨c01, c03⟩ | exact ⟨c11, c13⟩ | exact ⟨c21, c23⟩)
   (first
    | (go_at_call 20; refine (insertA _ g s p H0.out.gap q x hq hx).mono ?_; rintro e w1 ⟨rfl, h1, hg1⟩; have R1 : Hid (RefAt w1 r s p) := H0.out.ref.apart hg1 (Ne.symm hne); have K1 := Lib.hid (K0.out.trans (Kept2.left hg1)); have z1 : w.heap.size < w1.heap.size := Nat.lt_of_lt_of_le z0 hg1.size; have H1 := Lib.hid h1; have c11 : w1.cell? ⟨w.heap.size, 1, none⟩ = some (.int .i64 (q : Int)) := (by rw [World.cell?_of_block (w := w0) (hg1.block w.heap.size z0 (by simp; omega))]; exact c01); have c13 : w1.cell? ⟨w.heap.size, 3, none⟩ = some (.string (bstr x)) := (by rw [World.cell?_of_block (w := w0) (hg1.block w.heap.size z0 (by simp; omega))]; exact c03); clear h1)
    | (go_at_call 37; refine (rInsert _ r s p R1.out hs q x hq hx).mono ?_; rintro e w2 ⟨rfl, k2, hg2⟩; have K2 := Lib.hid (K1.out.trans (Kept2.right hg2)); have H2 : Hid (GapAt w2 g _ _) := H1.out.apart hg2 hne; have c21 : w2.cell? ⟨w.heap.size, 1, none⟩ = some (.int .i64 (q : Int)) := (by rw [World.cell?_of_block (w := w1) (hg2.block w.heap.size z1 (by simp; omega))]; exact c11); have c23 : w2.cell? ⟨w.heap.size, 3, none⟩ = some (.string (bstr x)) := (by rw [World.cell?_of_block (w := w1) (hg2.block w.heap.size z1 (by simp; omega))]; exact c13)))
  go_wp2
  go_ret2
  exact ⟨rfl, ⟨H2.out, k2, hne⟩, K2.out⟩

set_option maxHeartbeats 4000000 in
set_option maxRecDepth 100000 in
theorem step2No (w : World) (g r : Nat) (s : List UInt8) (p : Nat) (H : Both w g r s p) (lo : Int) (hno : lo < 0 ∨ (s.length : Int) < lo) (hi : Int) (x : List UInt8) :
    Calls Try.prog 27 #[gapV g, gapV r, .agg #[.int .i64 2, .int .i64 lo, .int .i64 hi, .string (bstr x)]] w fun e w' => e = .returned (.tuple #[gapV g, .bool true]) ∧ Both w' g r s p ∧ Kept2 w w' g r := by
  have hs := H.gap.room
  have hne := H.ne
  have HB := Lib.hid H
  have hlg := H.gap.lt
  have hlr := H.ref.lt
  clear H
  have HNO := Lib.hid hno
  clear hno
  go_enter Try.func27, Try.ntmps27
  go_wp2_with fail
  obtain ⟨w0, hw0⟩ : ∃ w0, w0 = w.alloc (.cells #[.int .i64 2, .int .i64 lo, .int .i64 hi, .string (bstr x)] 41) := ⟨_, rfl⟩
  have hc : ∀ k v, ([.int .i64 2, .int .i64 lo, .int .i64 hi, .string (bstr x)] : List Value)[k]? = some v → w0.cell? ⟨w.heap.size, k, none⟩ = some v := fun k v hv => by rw [hw0, cell_new w [.int .i64 2, .int .i64 lo, .int .i64 hi, .string (bstr x)] _ k]; exact hv
  have hbw : Below w.heap.size w w0 := by rw [hw0]; exact (Below.refl _ _).alloc (Nat.le_refl _) _
  have K0 : Hid (Kept2 w w0.drew g r) := (Kept2.below hbw).trans (Kept2.quiet ⟨1, rfl⟩)
  have H0 : Hid (Both w0.drew g r s p) := (HB.out.keep hbw hlg hlr).quiet ⟨1, rfl⟩
  have z0 : w.heap.size < w0.heap.size := by rw [hw0]; simp
  have c01 : w0.cell? ⟨w.heap.size, 1, none⟩ = some (.int .i64 lo) := hc 1 _ rfl
  have c03 : w0.cell? ⟨w.heap.size, 3, none⟩ = some (.string (bstr x)) := hc 3 _ rfl
  rw [← hw0]
  clear hc hbw hw0
  go_region_held3 (fun w' => w'.cell? ⟨w.heap.size, 1, none⟩ = some (.int .i64 lo) ∧ w'.cell? ⟨w.heap.size, 3, none⟩ = some (.string (bstr x))) (first | exact ⟨c01, c03⟩ | exact ⟨c11, c13⟩ | exact ⟨c21, c23⟩)
   (first
    | (go_at_call 20; refine (insertAno _ g s p H0.out.gap lo x HNO.out).mono ?_; rintro e w1 ⟨rfl, hq1⟩; have H1 := Lib.hid (H0.out.quiet hq1); have K1 := Lib.hid (K0.out.trans (Kept2.quiet hq1)); have z1 : w.heap.size < w1.heap.size := (by rw [hq1.heap]; exact z0); have c11 : w1.cell? ⟨w.heap.size, 1, none⟩ = some (.int .i64 lo) := (by rw [World.cell?_of_block (w := w0) (by rw [hq1.heap]; rfl)]; exact c01); have c13 : w1.cell? ⟨w.heap.size, 3, none⟩ = some (.string (bstr x)) := (by rw [World.cell?_of_block (w := w0) (by rw [hq1.heap]; rfl)]; exact c03); clear hq1)
    | (go_at_call 37; refine (rInsertNo _ r s p H1.out.ref hs lo x HNO.out).mono ?_; rintro e w2 ⟨rfl, rfl⟩; have c21 := c11; have c23 := c13))
  go_wp2
  go_ret2
  exact ⟨rfl, H1.out, K1.out⟩

set_option maxHeartbeats 4000000 in
set_option maxRecDepth 100000 in
theorem step2Full (w : World) (g r : Nat) (s : List UInt8) (p : Nat) (H : Both w g r s p) (q : Nat) (hq : q ≤ s.length) (hi : Int) (x : List UInt8) (hx : 252 - s.length < x.length) (hm : x.length ≤ 140737488351232) :
    Calls Try.prog 27 #[gapV g, gapV r, .agg #[.int .i64 2, .int .i64 q, .int .i64 hi, .string (bstr x)]] w fun e w' => e = .returned (.tuple #[gapV g, .bool true]) ∧ Both w' g r s p ∧ Kept2 w w' g r := by
  have hs := H.gap.room
  have hne := H.ne
  have HB := Lib.hid H
  have hlg := H.gap.lt
  have hlr := H.ref.lt
  clear H
  go_enter Try.func27, Try.ntmps27
  go_wp2_with fail
  obtain ⟨w0, hw0⟩ : ∃ w0, w0 = w.alloc (.cells #[.int .i64 2, .int .i64 q, .int .i64 hi, .string (bstr x)] 41) := ⟨_, rfl⟩
  have hc : ∀ k v, ([.int .i64 2, .int .i64 q, .int .i64 hi, .string (bstr x)] : List Value)[k]? = some v → w0.cell? ⟨w.heap.size, k, none⟩ = some v := fun k v hv => by rw [hw0, cell_new w [.int .i64 2, .int .i64 q, .int .i64 hi, .string (bstr x)] _ k]; exact hv
  have hbw : Below w.heap.size w w0 := by rw [hw0]; exact (Below.refl _ _).alloc (Nat.le_refl _) _
  have K0 : Hid (Kept2 w w0.drew g r) := (Kept2.below hbw).trans (Kept2.quiet ⟨1, rfl⟩)
  have H0 : Hid (Both w0.drew g r s p) := (HB.out.keep hbw hlg hlr).quiet ⟨1, rfl⟩
  have z0 : w.heap.size < w0.heap.size := by rw [hw0]; simp
  have c01 : w0.cell? ⟨w.heap.size, 1, none⟩ = some (.int .i64 (q : Int)) := hc 1 _ rfl
  have c03 : w0.cell? ⟨w.heap.size, 3, none⟩ = some (.string (bstr x)) := hc 3 _ rfl
  rw [← hw0]
  clear hc hbw hw0
  go_region_held3 (fun w' => w'.cell? ⟨w.heap.size, 1, none⟩ = some (.int .i64 (q : Int)) ∧ w'.cell? ⟨w.heap.size, 3, none⟩ = some (.string (bstr x))) (first | exact ⟨c01, c03⟩ | exact ⟨c11, c13⟩ | exact ⟨c21, c23⟩)
   (first
    | (go_at_call 20; refine (insertAfull _ g s p H0.out.gap q x hq hx hm).mono ?_; rintro e w1 ⟨rfl, hq1⟩; have H1 := Lib.hid (H0.out.quiet hq1); have K1 := Lib.hid (K0.out.trans (Kept2.quiet hq1)); have z1 : w.heap.size < w1.heap.size := (by rw [hq1.heap]; exact z0); have c11 : w1.cell? ⟨w.heap.size, 1, none⟩ = some (.int .i64 (q : Int)) := (by rw [World.cell?_of_block (w := w0) (by rw [hq1.heap]; rfl)]; exact c01); have c13 : w1.cell? ⟨w.heap.size, 3, none⟩ = some (.string (bstr x)) := (by rw [World.cell?_of_block (w := w0) (by rw [hq1.heap]; rfl)]; exact c03); clear hq1)
    | (go_at_call 37; refine (rInsertFull _ r s p H1.out.ref hs q x hq hx hm).mono ?_; rintro e w2 ⟨rfl, rfl⟩; have c21 := c11; have c23 := c13))
  go_wp2
  go_ret2
  exact ⟨rfl, H1.out, K1.out⟩

set_option maxHeartbeats 4000000 in
set_option maxRecDepth 100000 in
theorem step3Yes (w : World) (g r : Nat) (s : List UInt8) (p : Nat) (H : Both w g r s p) (f u : Nat) (hf : f ≤ u) (hu : u ≤ s.length) (x : List UInt8) :
    Calls Try.prog 27 #[gapV g, gapV r, .agg #[.int .i64 3, .int .i64 f, .int .i64 u, .string (bstr x)]] w fun e w' => e = .returned (.tuple #[gapV g, .bool true]) ∧ Both w' g r (s.take f ++ s.drop u) f ∧ Kept2 w w' g r := by
  have hs := H.gap.room
  have hne := H.ne
  have HB := Lib.hid H
  have hlg := H.gap.lt
  have hlr := H.ref.lt
  clear H
  go_enter Try.func27, Try.ntmps27
  go_wp2_with fail
  obtain ⟨w0, hw0⟩ : ∃ w0, w0 = w.alloc (.cells #[.int .i64 3, .int .i64 f, .int .i64 u, .string (bstr x)] 41) := ⟨_, rfl⟩
  have hc : ∀ k v, ([.int .i64 3, .int .i64 f, .int .i64 u, .string (bstr x)] : List Value)[k]? = some v → w0.cell? ⟨w.heap.size, k, none⟩ = some v := fun k v hv => by rw [hw0, cell_new w [.int .i64 3, .int .i64 f, .int .i64 u, .string (bstr x)] _ k]; exact hv
  have hbw : Below w.heap.size w w0 := by rw [hw0]; exact (Below.refl _ _).alloc (Nat.le_refl _) _
  have K0 : Hid (Kept2 w w0.drew g r) := (Kept2.below hbw).trans (Kept2.quiet ⟨1, rfl⟩)
  have H0 : Hid (Both w0.drew g r s p) := (HB.out.keep hbw hlg hlr).quiet ⟨1, rfl⟩
  have z0 : w.heap.size < w0.heap.size := by rw [hw0]; simp
  have c01 : w0.cell? ⟨w.heap.size, 1, none⟩ = some (.int .i64 (f : Int)) := hc 1 _ rfl
  have c02 : w0.cell? ⟨w.heap.size, 2, none⟩ = some (.int .i64 (u : Int)) := hc 2 _ rfl
  rw [← hw0]
  clear hc hbw hw0
  go_region_held3 (fun w' => w'.cell? ⟨w.heap.size, 1, none⟩ = some (.int .i64 (f : Int)) ∧ w'.cell? ⟨w.heap.size, 2, none⟩ = some (.int .i64 (u : Int))) (first | exact ⟨c01, c02⟩ | exact ⟨c11, c12⟩ | exact ⟨c21, c22⟩)
   (first
    | (go_at_call 21; refine (deleteA _ g s p H0.out.gap f u hf hu).mono ?_; rintro e w1 ⟨rfl, h1, hg1⟩; have R1 : Hid (RefAt w1 r s p) := H0.out.ref.apart hg1 (Ne.symm hne); have K1 := Lib.hid (K0.out.trans (Kept2.left hg1)); have z1 : w.heap.size < w1.heap.size := Nat.lt_of_lt_of_le z0 hg1.size; have H1 := Lib.hid h1; have c11 : w1.cell? ⟨w.heap.size, 1, none⟩ = some (.int .i64 (f : Int)) := (by rw [World.cell?_of_block (w := w0) (hg1.block w.heap.size z0 (by simp; omega))]; exact c01); have c12 : w1.cell? ⟨w.heap.size, 2, none⟩ = some (.int .i64 (u : Int)) := (by rw [World.cell?_of_block (w := w0) (hg1.block w.heap.size z0 (by simp; omega))]; exact c02); clear h1)
    | (go_at_call 38; refine (rDelete _ r s p R1.out hs f u hf hu).mono ?_; rintro e w2 ⟨rfl, k2, hg2⟩; have K2 := Lib.hid (K1.out.trans (Kept2.right hg2)); have H2 : Hid (GapAt w2 g _ _) := H1.out.apart hg2 hne; have c21 : w2.cell? ⟨w.heap.size, 1, none⟩ = some (.int .i64 (f : Int)) := (by rw [World.cell?_of_block (w := w1) (hg2.block w.heap.size z1 (by simp; omega))]; exact c11); have c22 : w2.cell? ⟨w.heap.size, 2, none⟩ = some (.int .i64 (u : Int)) := (by rw [World.cell?_of_block (w := w1) (hg2.block w.heap.size z1 (by simp; omega))]; exact c12)))
  go_wp2
  go_ret2
  exact ⟨rfl, ⟨H2.out, k2, hne⟩, K2.out⟩

set_option maxHeartbeats 4000000 in
set_option maxRecDepth 100000 in
theorem step3No (w : World) (g r : Nat) (s : List UInt8) (p : Nat) (H : Both w g r s p) (lo hi : Int) (hno : lo < 0 ∨ hi < lo ∨ (s.length : Int) < hi) (x : List UInt8) :
    Calls Try.prog 27 #[gapV g, gapV r, .agg #[.int .i64 3, .int .i64 lo, .int .i64 hi, .string (bstr x)]] w fun e w' => e = .returned (.tuple #[gapV g, .bool true]) ∧ Both w' g r s p ∧ Kept2 w w' g r := by
  have hs := H.gap.room
  have hne := H.ne
  have HB := Lib.hid H
  have hlg := H.gap.lt
  have hlr := H.ref.lt
  clear H
  have HNO := Lib.hid hno
  clear hno
  go_enter Try.func27, Try.ntmps27
  go_wp2_with fail
  obtain ⟨w0, hw0⟩ : ∃ w0, w0 = w.alloc (.cells #[.int .i64 3, .int .i64 lo, .int .i64 hi, .string (bstr x)] 41) := ⟨_, rfl⟩
  have hc : ∀ k v, ([.int .i64 3, .int .i64 lo, .int .i64 hi, .string (bstr x)] : List Value)[k]? = some v → w0.cell? ⟨w.heap.size, k, none⟩ = some v := fun k v hv => by rw [hw0, cell_new w [.int .i64 3, .int .i64 lo, .int .i64 hi, .string (bstr x)] _ k]; exact hv
  have hbw : Below w.heap.size w w0 := by rw [hw0]; exact (Below.refl _ _).alloc (Nat.le_refl _) _
  have K0 : Hid (Kept2 w w0.drew g r) := (Kept2.below hbw).trans (Kept2.quiet ⟨1, rfl⟩)
  have H0 : Hid (Both w0.drew g r s p) := (HB.out.keep hbw hlg hlr).quiet ⟨1, rfl⟩
  have z0 : w.heap.size < w0.heap.size := by rw [hw0]; simp
  have c01 : w0.cell? ⟨w.heap.size, 1, none⟩ = some (.int .i64 lo) := hc 1 _ rfl
  have c02 : w0.cell? ⟨w.heap.size, 2, none⟩ = some (.int .i64 hi) := hc 2 _ rfl
  rw [← hw0]
  clear hc hbw hw0
  go_region_held3 (fun w' => w'.cell? ⟨w.heap.size, 1, none⟩ = some (.int .i64 lo) ∧ w'.cell? ⟨w.heap.size, 2, none⟩ = some (.int .i64 hi)) (first | exact ⟨c01, c02⟩ | exact ⟨c11, c12⟩ | exact ⟨c21, c22⟩)
   (first
    | (go_at_call 21; refine (deleteAno _ g s p H0.out.gap lo hi HNO.out).mono ?_; rintro e w1 ⟨rfl, hq1⟩; have H1 := Lib.hid (H0.out.quiet hq1); have K1 := Lib.hid (K0.out.trans (Kept2.quiet hq1)); have z1 : w.heap.size < w1.heap.size := (by rw [hq1.heap]; exact z0); have c11 : w1.cell? ⟨w.heap.size, 1, none⟩ = some (.int .i64 lo) := (by rw [World.cell?_of_block (w := w0) (by rw [hq1.heap]; rfl)]; exact c01); have c12 : w1.cell? ⟨w.heap.size, 2, none⟩ = some (.int .i64 hi) := (by rw [World.cell?_of_block (w := w0) (by rw [hq1.heap]; rfl)]; exact c02); clear hq1)
    | (go_at_call 38; refine (rDeleteNo _ r s p H1.out.ref hs lo hi HNO.out).mono ?_; rintro e w2 ⟨rfl, rfl⟩; have c21 := c11; have c22 := c12))
  go_wp2
  go_ret2
  exact ⟨rfl, H1.out, K1.out⟩

end Go.Proofs.Ytpafdemnnofihaa
