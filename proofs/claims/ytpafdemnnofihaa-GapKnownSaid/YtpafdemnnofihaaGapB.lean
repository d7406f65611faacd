/- The gap's text, its pieces. -/
import Derived.Test.YtpafdemnnofihaaGapA
namespace Go.Proofs.Ytpafdemnnofihaa
open Go.RowKit
set_option maxHeartbeats 400000 in
theorem rightYes (w : World) (g p t : Nat) (D : List UInt8) (h : Raw w g p t D) (hp : p ≤ t) (ht : t ≤ 252) (f u : Int) (h1 : 0 ≤ f) (h2 : f ≤ u) (h3 : u ≤ ((252 - (t - p) : Nat) : Int)) :
    Calls Try.prog 35 #[gapV g, .int .i64 f, .int .i64 u] w fun e w' => e = .returned (.bool true) ∧ Quiet w w' := by
  go_enter Try.func35, Try.ntmps35
  go_wp2_with (go_at_call 23; refine (lenG _ g p t D h hp ht).mono ?_; rintro e w' ⟨rfl, hq⟩)
  go_ret
  exact ⟨rfl, hq⟩
set_option maxHeartbeats 400000 in
theorem rightNo (w : World) (g p t : Nat) (D : List UInt8) (h : Raw w g p t D) (hp : p ≤ t) (ht : t ≤ 252) (f u : Int) (hno : f < 0 ∨ u < f ∨ ((252 - (t - p) : Nat) : Int) < u) :
    Calls Try.prog 35 #[gapV g, .int .i64 f, .int .i64 u] w fun e w' => e = .returned (.bool false) ∧ Quiet w w' := by
  rcases Int.lt_or_le f 0 with h0 | h0
  · clear hno
    go_enter Try.func35, Try.ntmps35
    go_wp2_with fail
    go_ret
    exact ⟨rfl, Quiet.refl _⟩
  rcases Int.lt_or_le u f with h1 | h1
  · clear hno
    go_enter Try.func35, Try.ntmps35
    go_wp2_with fail
    go_ret
    exact ⟨rfl, Quiet.refl _⟩
  have h3 : ((252 - (t - p) : Nat) : Int) < u := by omega
  clear hno
  go_enter Try.func35, Try.ntmps35
  go_wp2_with (go_at_call 23; refine (lenG _ g p t D h hp ht).mono ?_; rintro e w' ⟨rfl, hq⟩)
  go_ret
  exact ⟨by simp; omega, hq⟩
theorem Raw.reads {w : World} {g p t : Nat} {D : List UInt8} (h : Raw w g p t D) (o n : Nat) (hn : o + n ≤ D.length) : Reads w (some ⟨g, 3 + o, none⟩) n (((D.drop o).take n).map B8) := by
  have h1 := Row.reads h (3 + o) n (by simp; omega)
  have e : ((Value.bool true :: .int .i64 p :: .int .i64 t :: D.map B8).drop (3 + o)) = (D.drop o).map B8 := by
    rw [Nat.add_comm, List.map_drop]; rfl
  rw [e, ← List.map_take] at h1
  exact h1
set_option maxHeartbeats 800000 in
theorem textG (w : World) (g p t : Nat) (D : List UInt8) (h : Raw w g p t D) (hD : D.length = 252) (hp : p ≤ t) (ht : t ≤ 252) :
    Calls Try.prog 22 #[gapV g] w fun e w' => e = .returned (.string (bstr (D.take p ++ D.drop t))) ∧ Quiet w w' := by
  have h1 := h.from
  have h2 := h.to
  have HD := Lib.hid hD
  have hpi : (p : Int) ≤ 252 := by omega
  have hti : (t : Int) ≤ 252 := by omega
  have hc1 : ∀ m, (convert 22 9 (.slice (some ⟨g, 3, none⟩) p 252)).run Try.prog (w.drewN m) = .ok (.string (bstr (D.take p))) (w.drewN m) := fun m =>
    run_bytes_str (w.drewN m) _ _ _ Try.underlying22 Try.underlying5 Try.underlying9 _ p 252 _ (by simpa using ((h.quiet ⟨m, rfl⟩).reads 0 p (by omega)))
  have hr2 : ∀ m, Reads (w.drewN m) (some ⟨g, 3 + t, none⟩) (252 - t) ((D.drop t).map B8) := fun m => by
    have := (h.quiet ⟨m, rfl⟩).reads t (252 - t) (by omega)
    rwa [List.take_of_length_le (by rw [List.length_drop]; omega)] at this
  rcases Nat.lt_or_ge t 252 with hlt | hge
  · have hc2 : ∀ m, (convert 22 9 (.slice (some ⟨g, 3 + t, none⟩) (252 - t) (252 - t))).run Try.prog (w.drewN m) = .ok (.string (bstr (D.drop t))) (w.drewN m) := fun m =>
      run_bytes_str (w.drewN m) _ _ _ Try.underlying22 Try.underlying5 Try.underlying9 _ _ _ _ (hr2 m)
    have hnb : ¬ 9223372036854775807 < (D.take p).length + (D.drop t).length := by simp; omega
    clear hr2 hD
    generalize D.take p = A at *
    generalize D.drop t = B at *
    go_enter Try.func22, Try.ntmps22
    go_wp2_with (go_at_call 32; refine (thereYes _ g p t D h).mono ?_; rintro e w' ⟨rfl, rfl⟩)
    go_quiet (fail)
    go_wp2
    go_ret
    exact ⟨rfl, ⟨_, rfl⟩⟩
  · obtain rfl : t = 252 := by omega
    have hc2 : ∀ m, (convert 22 9 (.slice (some ⟨g, 3, none⟩) 0 0)).run Try.prog (w.drewN m) = .ok (.string (bstr [])) (w.drewN m) := fun m =>
      run_bytes_str (w.drewN m) _ _ _ Try.underlying22 Try.underlying5 Try.underlying9 _ _ _ _ (Reads.nil _ _)
    have hd : D.drop 252 = [] := List.drop_eq_nil_of_le (by omega)
    rw [hd, List.append_nil]
    have hnb : ¬ 9223372036854775807 < (D.take p).length := by simp; omega
    clear hr2 hD hd
    generalize D.take p = A at *
    go_enter Try.func22, Try.ntmps22
    go_wp2_with (go_at_call 32; refine (thereYes _ g p 252 D h).mono ?_; rintro e w' ⟨rfl, rfl⟩)
    go_quiet (fail)
    go_wp2
    go_ret
    exact ⟨rfl, ⟨_, rfl⟩⟩
end Go.Proofs.Ytpafdemnnofihaa
