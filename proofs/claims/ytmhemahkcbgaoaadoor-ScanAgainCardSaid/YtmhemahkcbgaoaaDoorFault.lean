/- isFault: is an error nil for OK, and else a fault with this code and place? -/
import Derived.Test.YtmhemahkcbgaoaaDoorAs
namespace Go.Proofs.YtmhemahkcbgaoaaDoor
set_option linter.unusedVariables false
set_option linter.unusedSimpArgs false
open Go.RowKit
/-- the handle of the type 'error', where errors.As reads it -/
def ErrT (w : World) : Prop := w.cell? ⟨0, 0, none⟩ = some (.iface 129 (.agg #[.pointer (some ⟨7, 34, none⟩)]))
theorem cell_lt {w : World} {b o : Nat} {v : Value} (h : w.cell? ⟨b, o, none⟩ = some v) : b < w.heap.size := by
  rcases Nat.lt_or_ge b w.heap.size with h1 | h1
  · exact h1
  · simp [World.cell?, Array.getElem?_eq_none h1] at h
theorem ErrT.next {w w' : World} (h : ErrT w) (b : Below w.heap.size w w') : ErrT w' := by
  unfold ErrT at *
  rw [b.cell (p := ⟨0, 0, none⟩) (cell_lt h)]
  exact h
theorem isFault_nil (w : World) (e p : Int) : Calls Tryd.prog 21 #[.nilIface, .int .i64 e, .int .i64 p] w fun ev w' => ev = .returned (.bool (e == 0)) ∧ w' = w := by
  go_enter Tryd.func21, Tryd.ntmps21
  go_wp2
  go_ret
  exact ⟨rfl, rfl⟩
set_option maxHeartbeats 4000000 in
theorem isFault_hit (w : World) (g : Nat) (c q e p : Int) (b1 b2 b3 : Bool) (h1 : (c == e) = b1) (h2 : (q == p) = b2) (h3 : (e != 0) = b3) (hR : Row w g 75 [.int .i64 c, .int .i64 q]) (hE : ErrT w) :
    Calls Tryd.prog 21 #[.iface 73 (.pointer (some ⟨g, 0, none⟩)), .int .i64 e, .int .i64 p] w fun ev w' => ev = .returned (.bool (b1 && (b2 && b3))) ∧ Below w.heap.size w w' := by
  have hlt : 0 < w.heap.size := cell_lt hE
  have hgl := hR.lt
  have hEA : (w.alloc (.cells #[.pointer none] 73)).cell? ⟨0, 0, none⟩ = some (.iface 129 (.agg #[.pointer (some ⟨7, 34, none⟩)])) := by
    rw [World.cell?_alloc_lt _ _ ⟨0, 0, none⟩ hlt]; exact hE
  have htA : (w.alloc (.cells #[.pointer none] 73)).cell? ⟨w.heap.size, 0, none⟩ = some (.pointer none) := by simp
  have hfA : (w.alloc (.cells #[.pointer none] 73)).frozen? ⟨w.heap.size, 0, none⟩ = false := by simp
  have hA : Calls Tryd.prog 48 #[.iface 73 (.pointer (some ⟨g, 0, none⟩)), .iface 82 (.pointer (some ⟨w.heap.size, 0, none⟩))] (w.alloc (.cells #[.pointer none] 73)) fun ev w' => ev = .returned (.bool true) ∧ w'.cell? ⟨w.heap.size, 0, none⟩ = some (.pointer (some ⟨g, 0, none⟩)) ∧ w'.cell? ⟨g, 0, none⟩ = some (.int .i64 c) ∧ w'.cell? ⟨g, 1, none⟩ = some (.int .i64 q) ∧ Below w.heap.size w w' := by
    refine (as_hit ⟨g, 0, none⟩ ⟨w.heap.size, 0, none⟩ (.pointer none) _ hEA htA hfA).mono ?_
    rintro ev w' ⟨rfl, rfl⟩
    have r0 : Row (w.alloc (.cells #[.pointer none] 73)) w.heap.size 73 [.pointer none] := alloc_last _ _
    have r1 := ((((r0.alloc (.cells #[.pointer (some ⟨w.heap.size, 0, none⟩)] 82)).alloc (.cells #[.pointer (some ⟨7, 82, none⟩), .pointer (some ⟨(w.alloc (.cells #[.pointer none] 73)).heap.size, 0, none⟩), .int .u64 150] 100)).alloc (.cells #[.pointer (some ⟨7, 82, none⟩), .pointer (some ⟨(w.alloc (.cells #[.pointer none] 73)).heap.size, 0, none⟩), .int .u64 150] 100)).alloc (.cells #[.pointer (some ⟨g, 0, none⟩)] 73)).set 0 (.pointer (some ⟨g, 0, none⟩))
    have r2 := (((((hR.alloc (.cells #[.pointer none] 73)).alloc (.cells #[.pointer (some ⟨w.heap.size, 0, none⟩)] 82)).alloc (.cells #[.pointer (some ⟨7, 82, none⟩), .pointer (some ⟨(w.alloc (.cells #[.pointer none] 73)).heap.size, 0, none⟩), .int .u64 150] 100)).alloc (.cells #[.pointer (some ⟨7, 82, none⟩), .pointer (some ⟨(w.alloc (.cells #[.pointer none] 73)).heap.size, 0, none⟩), .int .u64 150] 100)).alloc (.cells #[.pointer (some ⟨g, 0, none⟩)] 73)).other (p := ⟨w.heap.size, 0, none⟩) (show w.heap.size ≠ g by omega) (.pointer (some ⟨g, 0, none⟩))
    refine ⟨rfl, r1.cell 0, r2.cell 0, r2.cell 1, ?_⟩
    exact ((((((Below.refl _ w).alloc (Nat.le_refl _) _).alloc (by simp) _).alloc (by simp; omega) _).alloc (by simp; omega) _).alloc (by simp; omega) _).setCell (p := ⟨w.heap.size, 0, none⟩) (Nat.le_refl _) _
  have HA := Lib.hid hA
  clear hE hEA htA hfA hR hA
  cases b1
  all_goals cases b2
  all_goals cases b3
  all_goals
    go_enter Tryd.func21, Tryd.ntmps21
    go_wp2_with (go_at_call 48; refine (HA.out).mono ?_; rintro ev w1 ⟨rfl, c0, c1, c2, hb⟩)
    go_ret
    exact ⟨rfl, hb⟩
end Go.Proofs.YtmhemahkcbgaoaaDoor
