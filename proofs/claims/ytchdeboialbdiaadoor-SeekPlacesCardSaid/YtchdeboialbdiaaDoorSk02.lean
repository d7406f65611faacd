/- Texts joined, one behind the other (ScanP, QuoteP). -/
import Derived.Test.YtchdeboialbdiaaDoorSk01
import Derived.Lib.MapLaws
import Derived.Lib.ItoaNum
import Derived.Lib.Bytealg
/- The plain law of the scan: no program in sight: what a line's tokens are, what a quoted text stands for, the quoted form of bytes, the line of tokens. -/
namespace Go.Proofs.YtchdeboialbdiaaDoor
set_option linter.unusedVariables false
set_option linter.unusedSimpArgs false
open Go.Lib
def BlankN (n : Nat) : Prop := n = 32 ∨ n = 9
instance (n : Nat) : Decidable (BlankN n) := by unfold BlankN; infer_instance
def RunN (n : Nat) : Prop := (97 ≤ n ∧ n ≤ 122) ∨ (48 ≤ n ∧ n ≤ 57) ∨ n = 46 ∨ n = 95 ∨ n = 45
instance (n : Nat) : Decidable (RunN n) := by unfold RunN; infer_instance
def PlainN (r : Nat) : Prop := 32 ≤ r ∧ r ≠ 34 ∧ r ≠ 92 ∧ r ≠ 127 ∧ r ≠ 133 ∧ r ≠ 8232 ∧ r ≠ 8233
instance (n : Nat) : Decidable (PlainN n) := by unfold PlainN; infer_instance
/-- is the character right? -/
def RightD (d : Nat × Nat) : Prop := d.1 ≠ 65533 ∨ 1 < d.2
instance (d : Nat × Nat) : Decidable (RightD d) := by unfold RightD; infer_instance
/-! a run's end -/
/-! numbers -/
/-! what is escaped -/
/-! a quoted text: what it stands for, how many bytes it has, whether it is one -/
/-! the quoted form -/
/-! tokens -/
/-! one of the character -/
theorem dec_fst_byte {l : List UInt8} (hl : l ≠ []) (h : (decodeL l).1 < 128) : (decodeL l).2 = 1 ∧ (l.getD 0 0).toNat = (decodeL l).1 := by
  rw [decodeL_N] at h ⊢
  rcases decodeN_shape l.length (l.getD 0 0).toNat (l.getD 1 0).toNat (l.getD 2 0).toNat (l.getD 3 0).toNat with ⟨c, e⟩ | ⟨c1, c2, c3, cv, e⟩ | ⟨c1, c2, c3, c4, cv, cs, e⟩ | ⟨c1, c2, c3, c4, c5, cv, cw, e⟩ | e
  all_goals (rw [e] at h ⊢; dsimp only at h ⊢)
  all_goals first | exact ⟨rfl, rfl⟩ | omega
theorem dec_low {l : List UInt8} (h : (l.getD 0 0).toNat < 128) : decodeL l = ((l.getD 0 0).toNat, 1) := by
  rw [decodeL_N]; exact decodeN_ascii _ _ _ _ _ h
theorem dec_width_one {l : List UInt8} : 1 ≤ (decodeL l).2 := by rw [decodeL_N]; exact decodeN_ge1 _ _ _ _ _
theorem dec_width {l : List UInt8} (hl : l ≠ []) : (decodeL l).2 ≤ l.length := decodeL_le l hl
theorem dec_width_four {l : List UInt8} : (decodeL l).2 ≤ 4 := by
  rw [decodeL_N]
  rcases decodeN_shape l.length (l.getD 0 0).toNat (l.getD 1 0).toNat (l.getD 2 0).toNat (l.getD 3 0).toNat with ⟨c, e⟩ | ⟨c1, c2, c3, cv, e⟩ | ⟨c1, c2, c3, c4, cv, cs, e⟩ | ⟨c1, c2, c3, c4, c5, cv, cw, e⟩ | e
  all_goals (rw [e]; dsimp only; omega)
theorem dec_rune_le {l : List UInt8} : (decodeL l).1 ≤ 1114111 := by rw [decodeL_N]; exact decodeN_rune_le _ _ _ _ _ (UInt8.toNat_lt _)
end Go.Proofs.YtchdeboialbdiaaDoor
/- The plain law of the quoted form: all bytes come back. -/
namespace Go.Proofs.YtchdeboialbdiaaDoor
set_option linter.unusedVariables false
set_option linter.unusedSimpArgs false
open Go.Lib
theorem decodeN_local (n n' b0 b1 b2 b3 c1 c2 c3 : Nat) (hR : RightD (decodeN n b0 b1 b2 b3)) (hn' : (decodeN n b0 b1 b2 b3).2 ≤ n') (e1 : 1 < (decodeN n b0 b1 b2 b3).2 → c1 = b1) (e2 : 2 < (decodeN n b0 b1 b2 b3).2 → c2 = b2) (e3 : 3 < (decodeN n b0 b1 b2 b3).2 → c3 = b3) :
    decodeN n' b0 c1 c2 c3 = decodeN n b0 b1 b2 b3 := by
  unfold RightD at hR
  rcases decodeN_shape n b0 b1 b2 b3 with ⟨h, e⟩ | ⟨h0, h1, h2, h3, e⟩ | ⟨h0, h1, h2, h3, h4, h5, e⟩ | ⟨h0, h1, h2, h3, h4, h5, h6, e⟩ | e
  · rw [e]; exact decodeN_ascii _ _ _ _ _ h
  · rw [e] at hn' e1 ⊢
    obtain rfl := e1 (by dsimp only; omega)
    dsimp only at hn'
    unfold decodeN
    rw [if_neg (by omega), if_pos ⟨h0, by omega, h2⟩, if_pos (by omega)]
  · rw [e] at hn' e1 e2 ⊢
    obtain rfl := e1 (by dsimp only; omega)
    obtain rfl := e2 (by dsimp only; omega)
    dsimp only at hn'
    unfold decodeN
    rw [if_neg (by omega), if_neg (by omega), if_pos ⟨h0, ⟨by omega, h2⟩, by omega, h3⟩, if_pos ⟨by omega, by omega⟩]
  · rw [e] at hn' e1 e2 e3 ⊢
    obtain rfl := e1 (by dsimp only; omega)
    obtain rfl := e2 (by dsimp only; omega)
    obtain rfl := e3 (by dsimp only; omega)
    dsimp only at hn'
    unfold decodeN
    rw [if_neg (by omega), if_neg (by omega), if_neg (by omega), if_pos ⟨h0, ⟨by omega, h2⟩, ⟨by omega, h3⟩, by omega, h4⟩, if_pos ⟨by omega, by omega⟩]
  · rw [e] at hR; simp at hR
theorem getD_take {l r : List UInt8} {k j : Nat} (hj : j < k) (hk : k ≤ l.length) : (l.take k ++ r).getD j 0 = l.getD j 0 := by
  rw [List.getD_eq_getElem?_getD, List.getD_eq_getElem?_getD, List.getElem?_append_left (by rw [List.length_take]; omega), List.getElem?_take, if_pos hj]
/-- a right character is told by its own bytes -/
theorem decode_local {D : List UInt8} (r : List UInt8) (hD : D ≠ []) (hR : RightD (decodeL D)) : decodeL (D.take (decodeL D).2 ++ r) = decodeL D := by
  have hw := dec_width hD
  have h1 := dec_width_one (l := D)
  have h0 : (D.take (decodeL D).2 ++ r).getD 0 0 = D.getD 0 0 := getD_take (by omega) hw
  have hl : (decodeL D).2 ≤ (D.take (decodeL D).2 ++ r).length := by rw [List.length_append, List.length_take]; omega
  obtain ⟨E, hE⟩ : ∃ E, D.take (decodeL D).2 ++ r = E := ⟨_, rfl⟩
  have key : ∀ j, j < (decodeL D).2 → (E.getD j 0).toNat = (D.getD j 0).toNat := fun j hj => by rw [← hE, getD_take hj hw]
  rw [hE] at h0 hl ⊢
  have e := decodeL_N D
  rw [decodeL_N E, e, h0]
  rw [e] at hR hl key
  exact decodeN_local _ _ _ _ _ _ _ _ _ hR hl (fun h => key 1 h) (fun h => key 2 h) (fun h => key 3 h)
theorem take_one {D : List UInt8} (hD : D ≠ []) : D.take 1 = [D.getD 0 0] := by
  cases D with
  | nil => exact absurd rfl hD
  | cons x D => rfl
end Go.Proofs.YtchdeboialbdiaaDoor
