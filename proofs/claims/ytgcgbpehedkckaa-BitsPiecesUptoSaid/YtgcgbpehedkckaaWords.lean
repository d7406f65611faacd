/- units, Words, Lines as they are made. -/
import Derived.Test.YtgcgbpehedkckaaUnits
namespace Go.Proofs.Ytgcgbpehedkckaa
open Go.RowKit Go.Shelf
def wordsV (s : Nat) : Value := .func (.func 57) #[] #[.pointer (some ⟨s, 0, none⟩), .pointer (some ⟨s + 1, 0, none⟩), .pointer (some ⟨s + 2, 0, none⟩)]
def linesV (s : Nat) : Value := .func (.func 52) #[] #[.pointer (some ⟨s, 0, none⟩), .pointer (some ⟨s + 1, 0, none⟩)]
def wordsW (w : World) (p n : Int) : World := ((w.alloc (.cells #[.int .i64 p] 3)).alloc (.cells #[.int .i64 n] 3)).alloc (.cells #[.int .i64 8] 3)
def linesW (w : World) (p n : Int) : World := (w.alloc (.cells #[.int .i64 p] 3)).alloc (.cells #[.int .i64 n] 3)
set_option maxHeartbeats 400000 in
theorem unitsC (w : World) (p n : Int) : Calls Try.prog 51 #[.int .i64 p, .int .i64 n, .int .i64 8] w fun e w' => e = .returned (wordsV w.heap.size) ∧ wordsW w p n = w' := by
  go_enter Try.func51, Try.ntmps51
  go_wp2
  go_ret
  exact ⟨rfl, rfl⟩
set_option maxHeartbeats 400000 in
theorem wordsC (w : World) (p n : Int) : Calls Try.prog 35 #[.int .i64 p, .int .i64 n] w fun e w' => e = .returned (wordsV w.heap.size) ∧ wordsW w p n = w' := by
  go_enter Try.func35, Try.ntmps35
  go_wp2_with (go_at_call 51; refine (unitsC _ _ _).mono ?_; rintro e w' ⟨rfl, rfl⟩)
  go_ret
  exact ⟨rfl, rfl⟩
set_option maxHeartbeats 400000 in
theorem linesC (w : World) (p n : Int) : Calls Try.prog 39 #[.int .i64 p, .int .i64 n] w fun e w' => e = .returned (linesV w.heap.size) ∧ linesW w p n = w' := by
  go_enter Try.func39, Try.ntmps39
  go_wp2
  go_ret
  exact ⟨rfl, rfl⟩
theorem wordsW_size (w : World) (p n : Int) : (wordsW w p n).heap.size = w.heap.size + 3 := by simp [wordsW]
theorem linesW_size (w : World) (p n : Int) : (linesW w p n).heap.size = w.heap.size + 2 := by simp [linesW]
theorem wordsW_box (w : World) (p n : Int) : Boxed (wordsW w p n) w.heap.size 3 (.int .i64 p) ∧ Boxed (wordsW w p n) (w.heap.size + 1) 3 (.int .i64 n) ∧ Boxed (wordsW w p n) (w.heap.size + 2) 3 (.int .i64 8) := by
  have a1 := Boxed.new w 3 (.int .i64 p)
  have a2 := Boxed.new (w.alloc (.cells #[.int .i64 p] 3)) 3 (.int .i64 n)
  have a3 := Boxed.new ((w.alloc (.cells #[.int .i64 p] 3)).alloc (.cells #[.int .i64 n] 3)) 3 (.int .i64 8)
  rw [World.size_alloc] at a2
  rw [World.size_alloc, World.size_alloc] at a3
  exact ⟨(a1.alloc _).alloc _, a2.alloc _, a3⟩
theorem linesW_box (w : World) (p n : Int) : Boxed (linesW w p n) w.heap.size 3 (.int .i64 p) ∧ Boxed (linesW w p n) (w.heap.size + 1) 3 (.int .i64 n) := by
  have a1 := Boxed.new w 3 (.int .i64 p)
  have a2 := Boxed.new (w.alloc (.cells #[.int .i64 p] 3)) 3 (.int .i64 n)
  rw [World.size_alloc] at a2
  exact ⟨a1.alloc _, a2⟩
theorem wordsW_below (w : World) (p n : Int) : Below w.heap.size w (wordsW w p n) :=
  (((Below.refl _ w).alloc (Nat.le_refl _) _).alloc (by simp) _).alloc (by simp; omega) _
theorem linesW_below (w : World) (p n : Int) : Below w.heap.size w (linesW w p n) :=
  ((Below.refl _ w).alloc (Nat.le_refl _) _).alloc (by simp) _
theorem wordsW_grown (w : World) (p n : Int) : w.grownBy (wordsW w p n) none := by
  refine ⟨rfl, rfl, rfl, by rw [wordsW_size]; omega, fun k hk _ => ?_⟩
  exact (wordsW_below w p n).block k hk
end Go.Proofs.Ytgcgbpehedkckaa
