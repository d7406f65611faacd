/- The walks of size at its four kinds. -/
import Derived.Test.YtpafdemnnofihaaProg
import Derived.WalkKit
import Derived.WalkSpells
import Derived.WalkLawsBesides
import Derived.Lib.Hide
import Derived.Outline
import Derived.Handy
namespace Go.Proofs.Ytpafdemnnofihaa
open Go.RowKit
theorem size16 (w : World) : Calls Try.prog 42 #[] w fun e w' => e = .returned (.int .i64 2) ∧ w = w' := by
  go_enter Try.func42, Try.ntmps42
  go_wp2
  go_rounds 17
  go_ret
  exact ⟨rfl, rfl⟩
end Go.Proofs.Ytpafdemnnofihaa
