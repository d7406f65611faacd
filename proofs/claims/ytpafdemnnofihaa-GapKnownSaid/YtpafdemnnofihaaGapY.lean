/- Two blocks lie apart; what was opened is the block again. -/
import Derived.Test.YtpafdemnnofihaaGapX
import Derived.Test.YtpafdemnnofihaaGapU
import Derived.Test.YtpafdemnnofihaaGapW
import Derived.Test.YtpafdemnnofihaaApart
import Derived.Test.YtpafdemnnofihaaSpare
namespace Go.Proofs.Ytpafdemnnofihaa
open Go.RowKit
theorem own_shape {w : World} {B : Nat} {e : TypeId} {v : Value} {n : Nat} {xs : List Value} (h : w.ownsRow B e 1 v n xs) (hn : 0 < n) : ∃ g c, v = .slice (some ⟨g, 0, none⟩) n c ∧ B ≤ g ∧ n ≤ c ∧ c ≤ maxLen ∧ ∃ cur : Array Value, w.heap[g]? = some (.cells cur e (0, 0)) ∧ cur.size = c := by
  have hl := h.1
  rcases h.2 with ⟨rfl, rfl⟩ | ⟨g, cap, cur, rfl, hb, hg, hnc, hcm, hs, ht⟩
  · simp at hl; omega
  · exact ⟨g, cap, rfl, hb, hnc, hcm, cur, hg, by omega⟩
theorem apart2 (W : World) (B : Nat) (g1 c1 g2 c2 : Nat) (h1 : ∃ cur : Array Value, W.heap[g1]? = some (.cells cur 5 (0, 0)) ∧ cur.size = c1) (h2 : ∃ cur : Array Value, W.heap[g2]? = some (.cells cur 5 (0, 0)) ∧ cur.size = c2)
    (hne : g1 ≠ g2) (hb1 : B ≤ g1) (hb2 : B ≤ g2) (n1 : 256 ≤ c1) (m1 : c1 ≤ maxLen) (n2 : 256 ≤ c2) (m2 : c2 ≤ maxLen) (hB : B ≤ W.heap.size) :
    Calls Try.prog 16 #[.slice (some ⟨W.heap.size, 0, none⟩) 2 2] (W.alloc (.cells #[.slice (some ⟨g1, 0, none⟩) 256 c1, .slice (some ⟨g2, 0, none⟩) 256 c2] 22)) fun e w' => e = .returned (.bool true) ∧ Below B W w' := by
  have hrow := row_new W [.slice (some ⟨g1, 0, none⟩) 256 c1, .slice (some ⟨g2, 0, none⟩) 256 c2] 22
  have hown := own_row hrow W.heap.size 2 (Nat.le_refl _) (by simp) (by simp [maxLen])
  have hwB : Below W.heap.size W (W.alloc (.cells #[.slice (some ⟨g1, 0, none⟩) 256 c1, .slice (some ⟨g2, 0, none⟩) 256 c2] 22)) := (Below.refl _ _).alloc (Nat.le_refl _) _
  have lt : ∀ {g : Nat} {c : Nat}, (∃ cur : Array Value, W.heap[g]? = some (.cells cur 5 (0, 0)) ∧ cur.size = c) → g < W.heap.size := fun ⟨cur, h, _⟩ => (Array.getElem?_eq_some_iff.1 h).1
  refine (apart1 _ B W.heap.size _ 2 2 [(g1, 256, c1), (g2, 256, c2)] hown ?_ ?_ ?_ (by decide) (by simp; omega)).mono fun e w' ⟨he, hb⟩ => ⟨he, (hwB.mono hB).trans hb⟩
  · intro j r hr
    match j, hr with
    | 0, hr =>
      simp at hr
      subst hr
      obtain ⟨cur, hc, hs⟩ := h1
      exact ⟨n1, m1, cur, (hwB.block _ (lt ⟨cur, hc, hs⟩)).trans hc, hs, fun t _ h => by omega⟩
    | 1, hr =>
      simp at hr
      subst hr
      obtain ⟨cur, hc, hs⟩ := h2
      exact ⟨n2, m2, cur, (hwB.block _ (lt ⟨cur, hc, hs⟩)).trans hc, hs, fun t _ h => by omega⟩
  · intro j j' r r' hr hr' he
    match j, j', hr, hr' with
    | 0, 0, _, _ => rfl
    | 1, 1, _, _ => rfl
    | 0, 1, hr, hr' => simp at hr hr'; subst hr; subst hr'; exact absurd he hne
    | 1, 0, hr, hr' => simp at hr hr'; subst hr; subst hr'; exact absurd he (Ne.symm hne)
  · intro j r hr
    match j, hr with
    | 0, hr => simp at hr; subst hr; exact ⟨hb1, by simp⟩
    | 1, hr => simp at hr; subst hr; exact ⟨hb2, by simp⟩
theorem leB2_leV (x y : UInt8) : leB (leV [x, y]) 2 = [x, y] := by
  have h1 := x.toNat_lt
  have h2 := y.toNat_lt
  have e1 : UInt8.ofNat ((x.toNat + 256 * (y.toNat + 256 * 0)) / 256 ^ 0) = x := by
    apply UInt8.toNat.inj; rw [UInt8.toNat_ofNat']; omega
  have e2 : UInt8.ofNat ((x.toNat + 256 * (y.toNat + 256 * 0)) / 256 ^ 1) = y := by
    apply UInt8.toNat.inj; rw [UInt8.toNat_ofNat']; omega
  simp only [leB, leV, List.range_succ, List.range_zero, List.nil_append, List.cons_append, List.map_cons, List.map_nil, e1, e2]
theorem leB_piece (l : List UInt8) (i : Nat) (h : i + 2 ≤ l.length) : leB (leV (piece l i 2)) 2 = piece l i 2 := by
  have hl := piece_length h
  match hp : piece l i 2, hl with
  | [x, y], _ => exact leB2_leV x y
theorem block_of_open {l s : List UInt8} {p : Nat} (h : openB l = some (s, p)) : blockL s p = l ∧ p ≤ s.length ∧ s.length ≤ 252 := by
  unfold openB at h
  by_cases hl : l.length ≠ 256
  · rw [if_neg hl] at h; cases h
  have hl : l.length = 256 := by omega
  rw [if_pos hl] at h
  by_cases hno : leV (piece l 2 2) < leV (piece l 0 2) ∨ 252 < leV (piece l 2 2)
  · rw [if_pos hno] at h; cases h
  rw [if_neg hno] at h
  have hdd : ∀ k, l.drop (4 + k) = (l.drop 4).drop k := fun k => by rw [List.drop_drop]
  rw [hdd (leV (piece l 0 2)), hdd (leV (piece l 2 2))] at h
  by_cases hz : ((l.drop 4).drop (leV (piece l 0 2))).take (leV (piece l 2 2) - leV (piece l 0 2)) = List.replicate (leV (piece l 2 2) - leV (piece l 0 2)) 0
  case neg => rw [if_neg hz] at h; cases h
  rw [if_pos hz] at h
  have hD : (l.drop 4).length = 252 := by rw [List.length_drop, hl]
  have h1 : leV (piece l 0 2) ≤ leV (piece l 2 2) := by omega
  have h2 : leV (piece l 2 2) ≤ 252 := by omega
  have hg := gapB_of (l.drop 4) _ _ h1 h2 hD hz
  have hsl : ((l.drop 4).take (leV (piece l 0 2)) ++ (l.drop 4).drop (leV (piece l 2 2))).length = 252 - (leV (piece l 2 2) - leV (piece l 0 2)) := by
    rw [List.length_append, List.length_take, hD, List.length_drop, hD]; omega
  simp only [Option.some.injEq, Prod.mk.injEq] at h
  obtain ⟨rfl, rfl⟩ := h
  refine ⟨?_, by rw [hsl]; omega, by rw [hsl]; omega⟩
  rw [blockL, hsl, show leV (piece l 0 2) + (252 - (252 - (leV (piece l 2 2) - leV (piece l 0 2)))) = leV (piece l 2 2) from by omega, hg, headB, leB_piece l 0 (by omega), leB_piece l 2 (by omega)]
  have e : piece l 0 2 ++ piece l 2 2 = l.take 4 := by
    unfold piece
    rw [List.drop_zero, ← List.take_add]
  rw [e, List.take_append_drop]
end Go.Proofs.Ytpafdemnnofihaa
