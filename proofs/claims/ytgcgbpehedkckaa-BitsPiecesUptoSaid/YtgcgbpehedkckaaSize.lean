/- The walks of size at its four kinds. -/
import Derived.Test.YtgcgbpehedkckaaProg
import Derived.WalkKit
import Derived.WalkSpells
import Derived.WalkLawsBesides
import Derived.Lib.Hide
import Derived.Outline
import Derived.Handy
namespace Go.Proofs.Ytgcgbpehedkckaa
open Go.RowKit
theorem size8 (w : World) : Calls Try.prog 53 #[] w fun e w' => e = .returned (.int .i64 1) ∧ w = w' := by
  go_enter Try.func53, Try.ntmps53
  go_wp2
  go_rounds 9
  go_ret
  exact ⟨rfl, rfl⟩
theorem size16 (w : World) : Calls Try.prog 54 #[] w fun e w' => e = .returned (.int .i64 2) ∧ w = w' := by
  go_enter Try.func54, Try.ntmps54
  go_wp2
  go_rounds 17
  go_ret
  exact ⟨rfl, rfl⟩
theorem size32 (w : World) : Calls Try.prog 55 #[] w fun e w' => e = .returned (.int .i64 4) ∧ w = w' := by
  go_enter Try.func55, Try.ntmps55
  go_wp2
  go_rounds 33
  go_ret
  exact ⟨rfl, rfl⟩
theorem size64 (w : World) : Calls Try.prog 56 #[] w fun e w' => e = .returned (.int .i64 8) ∧ w = w' := by
  go_enter Try.func56, Try.ntmps56
  go_wp2
  go_rounds 65
  go_ret
  exact ⟨rfl, rfl⟩
end Go.Proofs.Ytgcgbpehedkckaa
