/- Texts joined, one behind the other (ScanP, QuoteP). -/
import Derived.Test.YtchdeboialbdiaaGreatDoorSn01
import Derived.Lib.MapLaws
import Derived.Lib.ItoaNum
import Derived.Lib.Bytealg
namespace Go.Proofs.YtchdeboialbdiaaGreatDoor
set_option linter.unusedVariables false
set_option linter.unusedSimpArgs false
set_option maxHeartbeats 8000000
set_option maxRecDepth 100000
open Go.Lib
def BlankN (n : Nat) : Prop:=n = 32 ∨ n = 9
instance (n : Nat) : Decidable (BlankN n):=by unfold BlankN; infer_instance
def RunN (n : Nat) : Prop:=(97 ≤ n ∧ n ≤ 122) ∨ (48 ≤ n ∧ n ≤ 57) ∨ n = 46 ∨ n = 95 ∨ n = 45
instance (n : Nat) : Decidable (RunN n):=by unfold RunN; infer_instance
def PlainN (r : Nat) : Prop:=32 ≤ r ∧ r ≠ 34 ∧ r ≠ 92 ∧ r ≠ 127 ∧ r ≠ 133 ∧ r ≠ 8232 ∧ r ≠ 8233
instance (n : Nat) : Decidable (PlainN n):=by unfold PlainN; infer_instance
def RightD (d : Nat × Nat) : Prop:=d.1 ≠ 65533 ∨ 1 < d.2
instance (d : Nat × Nat) : Decidable (RightD d):=by unfold RightD; infer_instance
theorem dec_low {l : List UInt8} (h : (l.getD 0 0).toNat < 128) : decodeL l = ((l.getD 0 0).toNat,1):=by
 rw [decodeL_N]; exact decodeN_ascii _ _ _ _ _ h
theorem dec_width_one {l : List UInt8} : 1 ≤ (decodeL l).2:=by rw [decodeL_N]; exact decodeN_ge1 _ _ _ _ _
theorem dec_width {l : List UInt8} (hl : l ≠ []) : (decodeL l).2 ≤ l.length:=decodeL_le l hl
theorem dec_width_four {l : List UInt8} : (decodeL l).2 ≤ 4:=by
 rw [decodeL_N]
 rcases decodeN_shape l.length (l.getD 0 0).toNat (l.getD 1 0).toNat (l.getD 2 0).toNat (l.getD 3 0).toNat with ⟨c,e⟩ | ⟨c1,c2,c3,cv,e⟩ | ⟨c1,c2,c3,c4,cv,cs,e⟩ | ⟨c1,c2,c3,c4,c5,cv,cw,e⟩ | e
 all_goals (rw [e]; dsimp only; omega)
theorem dec_rune_le {l : List UInt8} : (decodeL l).1 ≤ 1114111:=by rw [decodeL_N]; exact decodeN_rune_le _ _ _ _ _ (UInt8.toNat_lt _)
end Go.Proofs.YtchdeboialbdiaaGreatDoor
