/- The plain law of a text with a gap: no program in sight. -/
import Derived.Test.YtpafdemnnofihaaMem
namespace Go.Proofs.Ytpafdemnnofihaa
open Go.RowKit
/-- a text with a gap: its bytes up to the place, zeros, its bytes behind the place -/
def gapB (s : List UInt8) (p : Nat) : List UInt8 := s.take p ++ (List.replicate (252 - s.length) 0 ++ s.drop p)
theorem gapB_at (s : List UInt8) (p i : Nat) (hp : p ≤ s.length) : (gapB s p)[i]? = if i < p then s[i]? else if i < p + (252 - s.length) then some 0 else s[i - (252 - s.length)]? := by
  unfold gapB
  by_cases h1 : i < p
  · rw [if_pos h1, List.getElem?_append_left (by simp; omega), List.getElem?_take, if_pos h1]
  · rw [if_neg h1, List.getElem?_append_right (by simp; omega), List.length_take, Nat.min_eq_left hp]
    by_cases h2 : i < p + (252 - s.length)
    · rw [if_pos h2, List.getElem?_append_left (by simp; omega), List.getElem?_replicate, if_pos (by omega)]
    · rw [if_neg h2, List.getElem?_append_right (by simp; omega), List.length_replicate, List.getElem?_drop]
      congr 1; omega
theorem gapB_length (s : List UInt8) (p : Nat) (hp : p ≤ s.length) (hs : s.length ≤ 252) : (gapB s p).length = 252 := by
  simp [gapB]; omega
theorem splice_at {α : Type} (L : List α) (off : Nat) (cs : List α) (h : off ≤ L.length) (i : Nat) : (splice L off cs)[i]? = if i < off then L[i]? else if i < off + cs.length then cs[i - off]? else L[i]? := by
  unfold splice
  by_cases h1 : i < off
  · rw [if_pos h1, List.getElem?_append_left (by simp; omega), List.getElem?_take, if_pos h1]
  · rw [if_neg h1, List.getElem?_append_right (by simp; omega), List.length_take, Nat.min_eq_left h]
    by_cases h2 : i < off + cs.length
    · rw [if_pos h2, List.getElem?_append_left (by omega)]
    · rw [if_neg h2, List.getElem?_append_right (by omega), List.getElem?_drop]
      congr 1; omega
theorem cut_at {α : Type} (L : List α) (a n i : Nat) : ((L.drop a).take n)[i]? = if i < n then L[a + i]? else none := by
  rw [List.getElem?_take]; split <;> simp
/-- the gap goes down from p to q -/
theorem gap_down (s : List UInt8) (p q : Nat) (hq : q ≤ p) (hp : p ≤ s.length) (hs : s.length ≤ 252) :
    splice (splice (gapB s p) (q + (252 - s.length)) (((gapB s p).drop q).take (p - q))) q (List.replicate (252 - s.length) 0) = gapB s q := by
  have hl := gapB_length s p hp hs
  have hc : (((gapB s p).drop q).take (p - q)).length = p - q := by simp; omega
  have hl2 : (splice (gapB s p) (q + (252 - s.length)) (((gapB s p).drop q).take (p - q))).length = 252 := by simp [splice]; omega
  apply List.ext_getElem?
  intro i
  rw [splice_at _ _ _ (by omega), splice_at _ _ _ (by omega), hc, List.length_replicate, cut_at, List.getElem?_replicate, gapB_at s q i (by omega), gapB_at s p i hp, gapB_at s p _ hp]
  repeat' split
  all_goals first | rfl | omega | (congr 1; omega)
/-- the gap goes up from p to q -/
theorem gap_up (s : List UInt8) (p q : Nat) (hq : p ≤ q) (hp : q ≤ s.length) (hs : s.length ≤ 252) :
    splice (splice (gapB s p) p (((gapB s p).drop (p + (252 - s.length))).take (q - p))) q (List.replicate (252 - s.length) 0) = gapB s q := by
  have hl := gapB_length s p (by omega) hs
  have hc : (((gapB s p).drop (p + (252 - s.length))).take (q - p)).length = q - p := by simp; omega
  have hl2 : (splice (gapB s p) p (((gapB s p).drop (p + (252 - s.length))).take (q - p))).length = 252 := by simp [splice]; omega
  apply List.ext_getElem?
  intro i
  rw [splice_at _ _ _ (by omega), splice_at _ _ _ (by omega), hc, List.length_replicate, cut_at, List.getElem?_replicate, gapB_at s q i (by omega), gapB_at s p i (by omega), gapB_at s p _ (by omega)]
  repeat' split
  all_goals first | rfl | omega | (congr 1; omega)
/-- what is put in lies behind the bytes ahead of the gap -/
theorem gap_put (s x : List UInt8) (p : Nat) (hp : p ≤ s.length) (hs : s.length + x.length ≤ 252) :
    splice (gapB s p) p x = gapB (s.take p ++ (x ++ s.drop p)) (p + x.length) := by
  have hl := gapB_length s p hp (by omega)
  have hn : (s.take p ++ (x ++ s.drop p)).length = s.length + x.length := by simp; omega
  apply List.ext_getElem?
  intro i
  rw [splice_at _ _ _ (by omega), gapB_at s p i hp, gapB_at _ _ i (by omega), hn]
  by_cases h1 : i < p
  · have h1' : i < p + x.length := by omega
    rw [if_pos h1, if_pos h1', List.getElem?_append_left (by simp; omega), List.getElem?_take, if_pos h1, if_pos h1]
  · rw [if_neg h1]
    by_cases h2 : i < p + x.length
    · rw [if_pos h2, if_pos h2, List.getElem?_append_right (by simp; omega), List.getElem?_append_left (by simp; omega)]
      congr 1; simp; omega
    · rw [if_neg h2, if_neg h2, if_neg h1]
      by_cases h3 : i < p + (252 - s.length)
      · rw [if_pos h3, if_pos (by omega)]
      · rw [if_neg h3, if_neg (by omega), List.getElem?_append_right (by simp; omega), List.getElem?_append_right (by simp; omega), List.getElem?_drop]
        congr 1; simp; omega
/-- what is taken out -/
theorem gap_out (s : List UInt8) (f t : Nat) (hf : f ≤ t) (ht : t ≤ s.length) (hs : s.length ≤ 252) :
    splice (gapB s t) f (List.replicate (t + (252 - s.length) - f) 0) = gapB (s.take f ++ s.drop t) f := by
  have hl := gapB_length s t ht (by omega)
  have hn : (s.take f ++ s.drop t).length = f + (s.length - t) := by simp; omega
  apply List.ext_getElem?
  intro i
  rw [splice_at _ _ _ (by omega), gapB_at s t i ht, gapB_at _ _ i (by omega), hn, List.length_replicate, List.getElem?_replicate]
  by_cases h1 : i < f
  · rw [if_pos h1, if_pos (by omega), if_pos h1, List.getElem?_append_left (by simp; omega), List.getElem?_take, if_pos h1]
  · rw [if_neg h1, if_neg h1]
    by_cases h2 : i < f + (t + (252 - s.length) - f)
    · rw [if_pos h2, if_pos (by omega), if_pos (by omega)]
    · rw [if_neg h2, if_neg (by omega), if_neg (by omega), if_neg (by omega), List.getElem?_append_right (by simp; omega), List.getElem?_drop]
      congr 1; simp; omega
theorem gap_text (s : List UInt8) (p : Nat) (hp : p ≤ s.length) : (gapB s p).take p ++ (gapB s p).drop (p + (252 - s.length)) = s := by
  have h1 : (gapB s p).take p = s.take p := by
    unfold gapB
    rw [List.take_append_of_le_length (by simp; omega), List.take_take, Nat.min_self]
  have h2 : (gapB s p).drop (p + (252 - s.length)) = s.drop p := by
    unfold gapB
    rw [← List.append_assoc, List.drop_append_of_le_length (by simp; omega)]
    rw [List.drop_eq_nil_of_le (by simp; omega)]; rfl
  rw [h1, h2, List.take_append_drop]
end Go.Proofs.Ytpafdemnnofihaa
