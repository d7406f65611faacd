/- A gap that is none tells nothing. -/
import Derived.Test.YtpafdemnnofihaaMem
import Derived.Test.YtpafdemnnofihaaGapA
namespace Go.Proofs.Ytpafdemnnofihaa
open Go.RowKit
/-- a nil gap, or one that no call made -/
def Off (w : World) (v : Value) : Prop := v = .pointer none ∨ ∃ g, v = .pointer (some ⟨g, 0, none⟩) ∧ w.cell? ⟨g, 0, none⟩ = some (.bool false)
theorem thereOff (w : World) (v : Value) (h : Off w v) : Calls Try.prog 32 #[v] w fun e w' => e = .returned (.bool false) ∧ w = w' := by
  rcases h with rfl | ⟨g, rfl, hc⟩
  all_goals
    go_enter Try.func32, Try.ntmps32
    go_wp2
    go_ret
    exact ⟨rfl, rfl⟩

theorem lenOff (w : World) (v : Value) (h : Off w v) : Calls Try.prog 23 #[v] w fun e w' => e = .returned (.int .i64 0) ∧ w = w' := by
  have hp : ∃ a, v = .pointer a := by
    rcases h with rfl | ⟨g, rfl, _⟩
    · exact ⟨_, rfl⟩
    · exact ⟨_, rfl⟩
  obtain ⟨a, rfl⟩ := hp
  have H := Lib.hid h
  clear h
  go_enter Try.func23, Try.ntmps23
  go_wp2_with (go_at_call 32; refine (thereOff _ _ H.out).mono ?_; rintro e w' ⟨rfl, rfl⟩)
  go_ret
  exact ⟨rfl, rfl⟩
theorem roomOff (w : World) (v : Value) (h : Off w v) : Calls Try.prog 24 #[v] w fun e w' => e = .returned (.int .i64 0) ∧ w = w' := by
  have hp : ∃ a, v = .pointer a := by
    rcases h with rfl | ⟨g, rfl, _⟩
    · exact ⟨_, rfl⟩
    · exact ⟨_, rfl⟩
  obtain ⟨a, rfl⟩ := hp
  have H := Lib.hid h
  clear h
  go_enter Try.func24, Try.ntmps24
  go_wp2_with (go_at_call 32; refine (thereOff _ _ H.out).mono ?_; rintro e w' ⟨rfl, rfl⟩)
  go_ret
  exact ⟨rfl, rfl⟩
theorem atOff (w : World) (v : Value) (h : Off w v) : Calls Try.prog 18 #[v] w fun e w' => e = .returned (.int .i64 0) ∧ w = w' := by
  have hp : ∃ a, v = .pointer a := by
    rcases h with rfl | ⟨g, rfl, _⟩
    · exact ⟨_, rfl⟩
    · exact ⟨_, rfl⟩
  obtain ⟨a, rfl⟩ := hp
  have H := Lib.hid h
  clear h
  go_enter Try.func18, Try.ntmps18
  go_wp2_with (go_at_call 32; refine (thereOff _ _ H.out).mono ?_; rintro e w' ⟨rfl, rfl⟩)
  go_ret
  exact ⟨rfl, rfl⟩
theorem textOff (w : World) (v : Value) (h : Off w v) : Calls Try.prog 22 #[v] w fun e w' => e = .returned (.string (bstr [])) ∧ w = w' := by
  have hp : ∃ a, v = .pointer a := by
    rcases h with rfl | ⟨g, rfl, _⟩
    · exact ⟨_, rfl⟩
    · exact ⟨_, rfl⟩
  obtain ⟨a, rfl⟩ := hp
  have H := Lib.hid h
  clear h
  go_enter Try.func22, Try.ntmps22
  go_wp2_with (go_at_call 32; refine (thereOff _ _ H.out).mono ?_; rintro e w' ⟨rfl, rfl⟩)
  go_ret
  exact ⟨rfl, rfl⟩
theorem blockOff (w : World) (v : Value) (h : Off w v) : Calls Try.prog 14 #[v] w fun e w' => e = .returned (.slice none 0 0) ∧ w = w' := by
  have hp : ∃ a, v = .pointer a := by
    rcases h with rfl | ⟨g, rfl, _⟩
    · exact ⟨_, rfl⟩
    · exact ⟨_, rfl⟩
  obtain ⟨a, rfl⟩ := hp
  have H := Lib.hid h
  clear h
  go_enter Try.func14, Try.ntmps14
  go_wp2_with (go_at_call 32; refine (thereOff _ _ H.out).mono ?_; rintro e w' ⟨rfl, rfl⟩)
  go_ret
  exact ⟨rfl, rfl⟩
theorem sliceOff (w : World) (v : Value) (h : Off w v) (f u : Int) : Calls Try.prog 39 #[v, .int .i64 f, .int .i64 u] w fun e w' => e = .returned (.tuple #[.string (bstr []), .int .i64 1]) ∧ w = w' := by
  have hp : ∃ a, v = .pointer a := by
    rcases h with rfl | ⟨g, rfl, _⟩
    · exact ⟨_, rfl⟩
    · exact ⟨_, rfl⟩
  obtain ⟨a, rfl⟩ := hp
  have H := Lib.hid h
  clear h
  go_enter Try.func39, Try.ntmps39
  go_wp2_with (go_at_call 32; refine (thereOff _ _ H.out).mono ?_; rintro e w' ⟨rfl, rfl⟩)
  go_ret2
  exact ⟨rfl, rfl⟩
theorem moveOff (w : World) (v : Value) (h : Off w v) (q : Int) : Calls Try.prog 19 #[v, .int .i64 q] w fun e w' => e = .returned (.int .i64 1) ∧ w = w' := by
  have hp : ∃ a, v = .pointer a := by
    rcases h with rfl | ⟨g, rfl, _⟩
    · exact ⟨_, rfl⟩
    · exact ⟨_, rfl⟩
  obtain ⟨a, rfl⟩ := hp
  have H := Lib.hid h
  clear h
  go_enter Try.func19, Try.ntmps19
  go_wp2_with (go_at_call 32; refine (thereOff _ _ H.out).mono ?_; rintro e w' ⟨rfl, rfl⟩)
  go_ret
  exact ⟨rfl, rfl⟩
theorem insertOff (w : World) (v : Value) (h : Off w v) (q : Int) (x : ByteArray) : Calls Try.prog 20 #[v, .int .i64 q, .string x] w fun e w' => e = .returned (.int .i64 1) ∧ w = w' := by
  have hp : ∃ a, v = .pointer a := by
    rcases h with rfl | ⟨g, rfl, _⟩
    · exact ⟨_, rfl⟩
    · exact ⟨_, rfl⟩
  obtain ⟨a, rfl⟩ := hp
  have H := Lib.hid h
  clear h
  go_enter Try.func20, Try.ntmps20
  go_wp2_with (go_at_call 32; refine (thereOff _ _ H.out).mono ?_; rintro e w' ⟨rfl, rfl⟩)
  go_ret
  exact ⟨rfl, rfl⟩
theorem deleteOff (w : World) (v : Value) (h : Off w v) (f u : Int) : Calls Try.prog 21 #[v, .int .i64 f, .int .i64 u] w fun e w' => e = .returned (.int .i64 1) ∧ w = w' := by
  have hp : ∃ a, v = .pointer a := by
    rcases h with rfl | ⟨g, rfl, _⟩
    · exact ⟨_, rfl⟩
    · exact ⟨_, rfl⟩
  obtain ⟨a, rfl⟩ := hp
  have H := Lib.hid h
  clear h
  go_enter Try.func21, Try.ntmps21
  go_wp2_with (go_at_call 32; refine (thereOff _ _ H.out).mono ?_; rintro e w' ⟨rfl, rfl⟩)
  go_ret
  exact ⟨rfl, rfl⟩
set_option maxHeartbeats 1000000 in
theorem nothingC (w : World) (v : Value) (h : Off w v) : Calls Try.prog 29 #[v] w fun e w' => e = .returned (.bool true) ∧ w = w' := by
  have hp : ∃ a, v = .pointer a := by
    rcases h with rfl | ⟨g, rfl, _⟩
    · exact ⟨_, rfl⟩
    · exact ⟨_, rfl⟩
  obtain ⟨a, rfl⟩ := hp
  have H := Lib.hid h
  have hbs : bstr [] = ⟨#[]⟩ := rfl
  clear h
  go_enter Try.func29, Try.ntmps29
  go_wp2_with (first
    | (go_at_call 39; refine (sliceOff _ _ H.out 0 0).mono ?_; rintro e w' ⟨rfl, rfl⟩)
    | (go_at_call 19; refine (moveOff _ _ H.out 0).mono ?_; rintro e w' ⟨rfl, rfl⟩)
    | (go_at_call 20; refine (insertOff _ _ H.out 0 _).mono ?_; rintro e w' ⟨rfl, rfl⟩)
    | (go_at_call 21; refine (deleteOff _ _ H.out 0 0).mono ?_; rintro e w' ⟨rfl, rfl⟩)
    | (go_at_call 23; refine (lenOff _ _ H.out).mono ?_; rintro e w' ⟨rfl, rfl⟩)
    | (go_at_call 24; refine (roomOff _ _ H.out).mono ?_; rintro e w' ⟨rfl, rfl⟩)
    | (go_at_call 18; refine (atOff _ _ H.out).mono ?_; rintro e w' ⟨rfl, rfl⟩)
    | (go_at_call 22; refine (textOff _ _ H.out).mono ?_; rintro e w' ⟨rfl, rfl⟩)
    | (go_at_call 14; refine (blockOff _ _ H.out).mono ?_; rintro e w' ⟨rfl, rfl⟩))
  go_ret
  exact ⟨rfl, rfl⟩
end Go.Proofs.Ytpafdemnnofihaa
