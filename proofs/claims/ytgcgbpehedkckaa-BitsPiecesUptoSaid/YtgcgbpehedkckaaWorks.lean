/- works: the closed part of each statement of the layer. -/
import Derived.Test.YtgcgbpehedkckaaGone
import Derived.Test.YtgcgbpehedkckaaTake
import Derived.Test.YtgcgbpehedkckaaPut
import Derived.Test.YtgcgbpehedkckaaSum
import Derived.Test.YtgcgbpehedkckaaRound
import Derived.Lib.SlBytesConst
namespace Go.Proofs.Ytgcgbpehedkckaa
open Go.RowKit Go.Shelf
theorem goneWords (w : World) (s0 : Nat) (p n : Int) (b1 : Boxed w s0 3 (.int .i64 p)) (b2 : Boxed w (s0 + 1) 3 (.int .i64 n)) (b3 : Boxed w (s0 + 2) 3 (.int .i64 8)) (hp : p ≤ 9223372036854775807) (hp0 : -9223372036854775808 ≤ p) (hn : n ≤ 9223372036854775807)
    (most : Nat) (h1 : 1 ≤ most) (h2 : most ≤ 1000000) :
    Calls Try.prog 38 #[wordsV s0, .int .i64 most] w fun e w' => ∃ v, e = .returned v ∧ w'.ownsRow w.heap.size 3 1 v ((unitsL p n 8).take most).length (((unitsL p n 8).take most).map I8) ∧ Below w.heap.size w w' :=
  goneC w _ _ (enters_of Try.func57 (by kernel_rfl) rfl) _ _ (fun m hm => units1 Fence.wide m trivial rfl (by omega) s0 (s0 + 1) (s0 + 2) w p n b1 b2 b3 hp hp0 hn)
    (fun r hr => by rcases hr with rfl | rfl | rfl; exact b1.lt; exact b2.lt; exact b3.lt) most h1 h2
theorem goneLines (w : World) (s0 : Nat) (p n : Int) (b1 : Boxed w s0 3 (.int .i64 p)) (b2 : Boxed w (s0 + 1) 3 (.int .i64 n)) (hp : p ≤ 9223372036854775807) (hp0 : -9223372036854775808 ≤ p) (hn : n ≤ 9223372036854775807)
    (most : Nat) (h1 : 1 ≤ most) (h2 : most ≤ 1000000) :
    Calls Try.prog 38 #[linesV s0, .int .i64 most] w fun e w' => ∃ v, e = .returned v ∧ w'.ownsRow w.heap.size 3 1 v ((linesOf p n).take most).length (((linesOf p n).take most).map I8) ∧ Below w.heap.size w w' :=
  goneC w _ _ (enters_of Try.func52 (by kernel_rfl) rfl) _ _ (fun m hm => lines1 m hm s0 (s0 + 1) w p n b1 b2 hp hp0 hn)
    (fun r hr => by rcases hr with rfl | rfl; exact b1.lt; exact b2.lt) most h1 h2
theorem reads_new (w : World) (xs : List Value) (e : TypeId) : Reads (w.alloc (.cells xs.toArray e)) (some ⟨w.heap.size, 0, none⟩) xs.length xs := by
  have h := (row_new w xs e).reads 0 xs.length (by omega)
  simpa using h
theorem reads_mark (w : World) (xs : List Value) (e : TypeId) (fr : Nat × Nat) : Reads (w.alloc (.cells xs.toArray e fr)) (some ⟨w.heap.size, 0, none⟩) xs.length xs :=
  ⟨rfl, fun _ => ⟨w.heap.size, 0, rfl, by simp, fun j _ => by rw [Nat.zero_add, World.cell?_alloc_mark]; simp⟩⟩
theorem conv_const2 (w : World) (o : Obj) (C : Array Value) (n c : Nat) :
    (convert 22 22 (.slice (some ⟨w.heap.size + 1, 0, none⟩) n c)).run Try.prog ((w.alloc o).alloc (.cells C 5)) = .ok (.slice (some ⟨w.heap.size + 1, 0, none⟩) n c) ((w.alloc o).alloc (.cells C 5 (C.size, C.size + 1))) := by
  have h := Lib.run_convert_bytes_const (P := Try.prog) (w.alloc o) 22 5 C n c Try.underlying22 Try.underlying5
  rw [World.size_alloc] at h
  exact h
def wk1 (w : World) : World := w.alloc (.cells #[.int .u8 49, .int .u8 50, .int .u8 51, .int .u8 52] 5 (4, 5))
def wk2 (w : World) : World := (wk1 w).alloc (.cells #[.int .u8 53, .int .u8 54, .int .u8 55, .int .u8 56, .int .u8 57] 5 (5, 6))
def wk3 (w : World) : World := (wk2 w).alloc (.cells #[.slice (some ⟨w.heap.size, 0, none⟩) 4 4, .slice (some ⟨w.heap.size + 1, 0, none⟩) 5 5] 22)
theorem wk2_size (w : World) : (wk2 w).heap.size = w.heap.size + 1 + 1 := by simp [wk2, wk1]
theorem wk3_below (w : World) : Below w.heap.size w (wk3 w) := by
  unfold wk3 wk2 wk1
  exact (((Below.refl _ w).alloc (Nat.le_refl _) _).alloc (by simp) _).alloc (by simp; omega) _
theorem works_rows (w : World) : ReadsRows (wk3 w) (some ⟨w.heap.size + 1 + 1, 0, none⟩) 2 [[49, 50, 51, 52], [53, 54, 55, 56, 57]] := by
  have r1 : Reads (wk1 w) (some ⟨w.heap.size, 0, none⟩) 4 ([49, 50, 51, 52].map B8) := reads_mark w [.int .u8 49, .int .u8 50, .int .u8 51, .int .u8 52] 5 (4, 5)
  have r2 : Reads (wk2 w) (some ⟨w.heap.size + 1, 0, none⟩) 5 ([53, 54, 55, 56, 57].map B8) := by
    have h := reads_mark (wk1 w) [.int .u8 53, .int .u8 54, .int .u8 55, .int .u8 56, .int .u8 57] 5 (5, 6)
    rw [show (wk1 w).heap.size = w.heap.size + 1 from by simp [wk1]] at h
    exact h
  have r1' : Reads (wk2 w) (some ⟨w.heap.size, 0, none⟩) 4 ([49, 50, 51, 52].map B8) := r1.keep ((Below.refl _ _).alloc (Nat.le_refl _) _) (Nat.le_refl _)
  have h := rows2 (wk2 w) 22 _ _ [49, 50, 51, 52] [53, 54, 55, 56, 57] 4 5 r1' r2 (by decide) (by decide) (by decide) (by decide)
  rw [wk2_size] at h
  exact h
theorem works_sum : crcMore 0 [49, 50, 51, 52, 53, 54, 55, 56, 57] = 3808858755 := by decide +kernel
theorem works_lines : (linesOf 60 8).take 9 = [0, 1] := by decide +kernel
theorem works_take : leV (piece ([7] ++ leB 513 2) 1 2) = 513 := by decide +kernel
set_option maxHeartbeats 1000000 in
theorem worksC (w : World) : Calls Try.prog 20 #[] w fun e w' => e = .returned (.bool true) ∧ Below w.heap.size w w' := by
  have hr0 : Reads (w.alloc (.cells #[.int .u8 7] 5)) (some ⟨w.heap.size, 0, none⟩) 1 ([7].map B8) := reads_new w [.int .u8 7] 5
  have HR0 := Lib.hid hr0
  clear hr0
  go_enter Try.func20, Try.ntmps20
  go_wp2_with fail
  refine (put16 _ _ _ _ _ 513 HR0.out (by decide) (by decide)).mono ?_
  rintro e w1 ⟨r1, rfl, hown1, hb1⟩
  have B1 := Lib.hid (below_past hb1)
  have z1 := B1.out.size
  clear hb1
  obtain ⟨a1, c1, rfl, hr1, _, _⟩ := reads_of_own hown1
  have HR1 := Lib.hid hr1
  clear hr1 hown1
  go_wp2_with fail
  have hT := take16 w1 a1 3 c1 ([7] ++ leB 513 2) 1 HR1.out (by decide) (by decide)
  rw [works_take] at hT
  refine hT.mono ?_
  clear hT
  rintro e w2 ⟨rfl, hb2⟩
  have B2 := Lib.hid (B1.out.trans (hb2.mono z1))
  have z2 := B2.out.size
  clear hb2
  go_wp2_with fail
  have hRd := roundBits 1 8 w2 (by decide) (by decide)
  rw [show roundN 1 8 = 8 from by decide, show roundE 1 8 = 0 from by decide] at hRd
  refine hRd.mono ?_
  clear hRd
  rintro e w3 ⟨rfl, rfl⟩
  have kc := fun (w : World) (C : Array Value) (n c : Nat) => Lib.run_convert_bytes_const (P := Try.prog) w 22 5 C n c Try.underlying22 Try.underlying5
  have kc2 := conv_const2
  go_wp2_with fail
  clear kc kc2
  have hS := sumBits (wk3 w2) _ 2 2 _ (works_rows w2) (by decide) (by decide)
  rw [show ([[49, 50, 51, 52], [53, 54, 55, 56, 57]] : List (List UInt8)).flatten = [49, 50, 51, 52, 53, 54, 55, 56, 57] from rfl, works_sum] at hS
  refine hS.mono ?_
  clear hS
  rintro e w3 ⟨rfl, hq3⟩
  have B3 := Lib.hid (B2.out.trans (((wk3_below w2).mono z2).trans (hq3.below _)))
  have z3 := B3.out.size
  clear hq3
  go_wp2_with fail
  refine (linesC _ _ _).mono ?_
  rintro e w4 ⟨rfl, hw4⟩
  have hbx := linesW_box w3 60 8
  have hbl := linesW_below w3 60 8
  rw [hw4] at hbx hbl
  have B4 := Lib.hid (B3.out.trans (hbl.mono z3))
  have z4 := B4.out.size
  have HB := Lib.hid hbx
  clear hbx hbl hw4
  go_wp2_with fail
  have hg := goneLines w4 w3.heap.size 60 8 HB.out.1 HB.out.2 (by decide) (by decide) (by decide) 9 (by decide) (by decide)
  rw [works_lines] at hg
  refine hg.mono ?_
  clear hg
  rintro e w5 ⟨v5, rfl, hown5, hb5⟩
  have B5 := Lib.hid (B4.out.trans (hb5.mono z4))
  have z5 := B5.out.size
  obtain ⟨a5, c5, rfl, hr5, _, _⟩ := reads_of_own hown5
  have HR5 := Lib.hid hr5
  clear hr5 hb5 hown5
  have hn5 := reads_new w5 [.int .i64 0, .int .i64 1] 3
  have ha5 : Below w5.heap.size w5 (w5.alloc (.cells #[.int .i64 0, .int .i64 1] 3)) := (Below.refl _ _).alloc (Nat.le_refl _) _
  have hE := eqInts (w5.alloc (.cells #[.int .i64 0, .int .i64 1] 3)) a5 (some ⟨w5.heap.size, 0, none⟩) 2 2 c5 2 [0, 1] [0, 1] (HR5.out.keep ha5 (Nat.le_refl _)) hn5 (by decide) (by decide)
  rw [show sameI [0, 1] [0, 1] = true from by decide] at hE
  have HE := Lib.hid hE
  have B6 := Lib.hid (B5.out.trans (ha5.mono z5))
  clear hn5 ha5 hE
  go_wp2_with fail
  refine HE.out.mono ?_
  rintro e w6 ⟨rfl, hq6⟩
  have B7 := Lib.hid (B6.out.trans (hq6.below _))
  clear hq6
  go_wp2
  go_ret
  exact ⟨rfl, B7.out⟩
end Go.Proofs.Ytgcgbpehedkckaa
