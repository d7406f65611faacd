/- Open of a gap, by definition. -/
import Derived.Test.YtpafdemnnofihaaGapG
namespace Go.Proofs.Ytpafdemnnofihaa
open Go.RowKit
theorem leV_le16 (l : List UInt8) (i : Nat) : leV (piece l i 2) < 65536 := by
  have h := leV_lt (piece l i 2)
  have h2 : (piece l i 2).length ≤ 2 := by simp [piece]; omega
  have h3 : 256 ^ (piece l i 2).length ≤ 256 ^ 2 := Nat.pow_le_pow_right (by decide) h2
  omega
theorem cut3 (D : List UInt8) (f t : Nat) (h1 : f ≤ t) : D = D.take f ++ ((D.drop f).take (t - f) ++ D.drop t) := by
  have e : D.drop f = (D.drop f).take (t - f) ++ D.drop t := by
    have := List.take_append_drop (t - f) (D.drop f)
    rw [List.drop_drop, show f + (t - f) = t from by omega] at this
    exact this.symm
  rw [← e, List.take_append_drop]
theorem clear_same (D : List UInt8) (f t : Nat) (h1 : f ≤ t) (ht : t ≤ D.length) : splice D f (List.replicate (t - f) 0) = D ↔ (D.drop f).take (t - f) = List.replicate (t - f) 0 := by
  have e := cut3 D f t h1
  have e2 : splice D f (List.replicate (t - f) 0) = D.take f ++ (List.replicate (t - f) 0 ++ D.drop t) := by
    unfold splice
    rw [List.length_replicate, show f + (t - f) = t from by omega]
  constructor
  · intro h
    rw [e2] at h
    have h' := h.trans e
    have h2 := List.append_cancel_left h'
    exact (List.append_inj h2 (by simp; omega)).1.symm
  · intro h
    rw [e2, ← h]
    exact e.symm
theorem gapB_of (D : List UInt8) (f t : Nat) (h1 : f ≤ t) (ht : t ≤ 252) (hD : D.length = 252) (hz : (D.drop f).take (t - f) = List.replicate (t - f) 0) : gapB (D.take f ++ D.drop t) f = D := by
  have hl : (D.take f ++ D.drop t).length = 252 - (t - f) := by simp; omega
  have e := cut3 D f t h1
  unfold gapB
  rw [hl, show 252 - (252 - (t - f)) = t - f from by omega, ← hz]
  have h3 : (D.take f ++ D.drop t).take f = D.take f := by
    rw [List.take_append_of_le_length (by simp; omega), List.take_take, Nat.min_self]
  have h4 : (D.take f ++ D.drop t).drop f = D.drop t := by
    rw [List.drop_append_of_le_length (by simp; omega), List.drop_eq_nil_of_le (by simp; omega), List.nil_append]
  rw [h3, h4]
  exact e.symm
/-- what Open answers -/
def OpenPost (w : World) (l : List UInt8) (e : Ending) (w' : World) : Prop :=
  (openB l = none ∧ e = .returned (.tuple #[.pointer none, .int .i64 160])) ∨
  (∃ s p g, openB l = some (s, p) ∧ w.heap.size ≤ g ∧ GapAt w' g s p ∧ e = .returned (.tuple #[gapV g, .int .i64 0]))
theorem openC (w : World) (a : Option Addr) (n ca : Nat) (l : List UInt8) (ha : Reads w a n (l.map B8)) (hc : n ≤ ca) (hm : n ≤ 140737488355328) :
    Calls Try.prog 9 #[.slice a n ca] w fun e w' => OpenPost w l e w' ∧ Below w.heap.size w w' := by
  have hl := ha.len
  rw [List.length_map] at hl
  by_cases hn : n = 256
  · subst hn
    by_cases hno : leV (piece l 2 2) < leV (piece l 0 2) ∨ 252 < leV (piece l 2 2)
    · refine (openNoBounds w a ca l ha hno).mono fun e w' ⟨he, hb⟩ => ⟨.inl ⟨?_, he⟩, hb⟩
      unfold openB
      rw [if_pos hl, if_pos hno]
    · have h1 : leV (piece l 0 2) ≤ leV (piece l 2 2) := by omega
      have h2 : leV (piece l 2 2) ≤ 252 := by omega
      have hD : (l.drop 4).length = 252 := by rw [List.length_drop, hl]
      have hdd : ∀ k, l.drop (4 + k) = (l.drop 4).drop k := fun k => by rw [List.drop_drop]
      refine (openMain w a ca l ha hc _ _ rfl rfl h1 h2 _ rfl).mono fun e w' ⟨g, hg, hr, he, hb⟩ => ⟨?_, hb⟩
      by_cases hz : ((l.drop 4).drop (leV (piece l 0 2))).take (leV (piece l 2 2) - leV (piece l 0 2)) = List.replicate (leV (piece l 2 2) - leV (piece l 0 2)) 0
      · have hs := (clear_same (l.drop 4) _ _ h1 (by omega)).2 hz
        rw [hs, beq_self_eq_true, if_pos rfl] at he
        refine .inr ⟨(l.drop 4).take (leV (piece l 0 2)) ++ l.drop (4 + leV (piece l 2 2)), leV (piece l 0 2), g, ?_, hg, ?_, he⟩
        · unfold openB
          rw [if_pos hl, if_neg hno, hdd (leV (piece l 0 2)), if_pos hz]
        · rw [hdd (leV (piece l 2 2))]
          have hgl : ((l.drop 4).take (leV (piece l 0 2)) ++ (l.drop 4).drop (leV (piece l 2 2))).length = 252 - (leV (piece l 2 2) - leV (piece l 0 2)) := by
            rw [List.length_append, List.length_take, hD, List.length_drop, hD]; omega
          refine ⟨by rw [hgl]; omega, by omega, ?_⟩
          rw [gapB_of _ _ _ h1 h2 hD hz, hgl, show leV (piece l 0 2) + (252 - (252 - (leV (piece l 2 2) - leV (piece l 0 2)))) = leV (piece l 2 2) from by omega]
          exact hr
      · have hs : (splice (l.drop 4) (leV (piece l 0 2)) (List.replicate (leV (piece l 2 2) - leV (piece l 0 2)) 0) == l.drop 4) = false := by
          rw [beq_eq_false_iff_ne]
          intro h
          exact hz ((clear_same (l.drop 4) _ _ h1 (by omega)).1 h)
        rw [hs] at he
        refine .inl ⟨?_, he⟩
        unfold openB
        rw [if_pos hl, if_neg hno, hdd (leV (piece l 0 2)), if_neg hz]
  · refine (openNoLen w a n ca hn hm).mono fun e w' ⟨he, hb⟩ => ⟨.inl ⟨?_, he⟩, hb⟩
    unfold openB
    rw [if_neg (by omega)]
/-- what a gap's own block is, opened -/
theorem leV_leB2 (v : Nat) (h : v < 65536) : leV (leB v 2) = v := by
  simp [leB, List.range_succ, leV, UInt8.toNat_ofNat']
  omega
theorem blockL_length (s : List UInt8) (p : Nat) (hp : p ≤ s.length) (hs : s.length ≤ 252) : (blockL s p).length = 256 := by
  rw [blockL, List.length_append, headB_length, gapB_length s p hp hs]
theorem openB_block (s : List UInt8) (p : Nat) (hp : p ≤ s.length) (hs : s.length ≤ 252) : openB (blockL s p) = some (s, p) := by
  have h0 : piece (blockL s p) 0 2 = leB p 2 := by
    simp [piece, blockL, headB, leB, List.range_succ]
  have h2 : piece (blockL s p) 2 2 = leB (p + (252 - s.length)) 2 := by
    simp [piece, blockL, headB, leB, List.range_succ]
  have hd : ∀ k, (blockL s p).drop (4 + k) = (gapB s p).drop k := fun k => by
    rw [← List.drop_drop]
    congr 1
  have hv0 : leV (leB p 2) = p := leV_leB2 p (by omega)
  have hv2 : leV (leB (p + (252 - s.length)) 2) = p + (252 - s.length) := leV_leB2 _ (by omega)
  have hg := gapB_length s p hp hs
  have hz : ((gapB s p).drop p).take (p + (252 - s.length) - p) = List.replicate (p + (252 - s.length) - p) 0 := by
    rw [show p + (252 - s.length) - p = 252 - s.length from by omega]
    apply List.ext_getElem?
    intro i
    rw [cut_at, List.getElem?_replicate, gapB_at s p _ hp]
    by_cases hi : i < 252 - s.length
    · rw [if_pos hi, if_pos hi, if_neg (by omega), if_pos (by omega)]
    · rw [if_neg hi, if_neg hi]
  unfold openB
  rw [if_pos (blockL_length s p hp hs), h0, h2, hv0, hv2, if_neg (by omega), hd, if_pos hz, hd]
  have e4 : (blockL s p).drop 4 = gapB s p := hd 0
  rw [e4, gap_text s p hp]
end Go.Proofs.Ytpafdemnnofihaa
