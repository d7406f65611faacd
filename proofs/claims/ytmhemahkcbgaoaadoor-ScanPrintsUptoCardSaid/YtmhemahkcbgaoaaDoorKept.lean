/- Tokens with marked room behind them, and that they are kept. -/
import Derived.Test.YtmhemahkcbgaoaaDoorToks
namespace Go.Proofs.YtmhemahkcbgaoaaDoor
set_option linter.unusedVariables false
set_option linter.unusedSimpArgs false
open Go.RowKit
open Go.Lib hiding intOf
def marks7 (k : Nat) : List Tok := (List.range k).map fun (i : Nat) => ⟨9, 0, [], (i : Int)⟩
theorem marks7_len (k : Nat) : (marks7 k).length = k := by unfold marks7; simp
theorem marks7_succ (k : Nat) : marks7 (k + 1) = marks7 k ++ [⟨9, 0, [], (k : Int)⟩] := by unfold marks7; rw [List.range_succ, List.map_append]; rfl
theorem marks7_at {k i : Nat} (h : i < k) : (marks7 k)[i]? = some ⟨9, 0, [], (i : Int)⟩ := by
  unfold marks7
  rw [List.getElem?_map, List.getElem?_range h]
  rfl
set_option maxHeartbeats 4000000 in
theorem spareC (w : World) (a : Option Addr) (n c : Nat) (L : List Tok) (h : ReadsT w a n L) (hn : n ≤ 1048576) :
    Calls Tryd.prog 14 #[.slice a n c] w fun e w' => ∃ a' c', e = .returned (.slice a' n c') ∧ n + 5 ≤ c' ∧ c' ≤ maxLen ∧ ReadsT w' a' (n + 5) (L ++ marks7 5) ∧ Below w.heap.size w w' := by
  have hl := h.1
  have hnl : (L.flatMap tokCells).length = n * 4 := by rw [toks_len, hl]
  have hsrc : 0 < n → ∃ b off, a = some ⟨b, off, none⟩ ∧ ∀ j u, (L.flatMap tokCells)[j]? = some u → w.cell? ⟨b, off + j, none⟩ = some u := fun h0 => toks_cell h h0
  have HL := Lib.hid hl
  have HNL := Lib.hid hnl
  have HSRC := Lib.hid hsrc
  clear h hl hnl hsrc
  go_enter Tryd.func14, Tryd.ntmps14
  go_wp2_with (at_builtin; refine appSlice rfl _ _ rfl Tryd.underlying25 (.agg #[.int .i64 0, .int .i64 0, .string ByteArray.empty, .int .i64 0]) 4 40 infoTok rfl (by decide) (by decide) w.heap.size (.slice none 0 0) 0 [] rfl (World.ownsRow_nil _ _ _ _) a n c (L.flatMap tokCells) rfl HNL.out HSRC.out (toks_one L) (by omega) (Nat.le_refl _) ?_; intro v3 w3 hO3 hg3)
  have hb3 : Below w.heap.size w w3 := (Below.refl _ w).grown hg3 (Nat.le_refl _) (fun k hk => by cases hk)
  have hO3' : OwnT w.heap.size v3 (L ++ marks7 0) w3 := by
    unfold OwnT
    rw [show marks7 0 = [] from rfl, List.append_nil, HL.out]
    rw [Nat.zero_add, List.nil_append] at hO3
    exact hO3
  clear hO3 hg3
  go_wp2
  go_loopw [3, 4] (fun vv kv wr => ∃ k : Nat, k ≤ 5 ∧ kv = .int .i64 (k : Int) ∧ Hid (OwnT w.heap.size vv (L ++ marks7 k) wr ∧ Below w.heap.size w wr)) (fun _ kv _ => 5 - (RowKit.intOf kv).toNat)
  case atStart => exact ⟨0, by decide, rfl, Lib.hid ⟨hO3', hb3⟩⟩
  case round =>
    obtain ⟨k, hk5, rfl, HH⟩ := hrel
    obtain ⟨vv, rfl⟩ : ∃ v : Value, v = u3 := ⟨_, rfl⟩
    clear hO3' hb3
    have hLl : (L ++ marks7 k).length = n + k := by rw [List.length_append, HL.out, marks7_len]
    by_cases hlt : k < 5
    · have HLL := Lib.hid hLl
      clear hLl
      have hbr := HH.out.2.size
      go_wp2_with (at_builtin; refine appTok rfl _ _ rfl w.heap.size w.heap.size w wr vv (L ++ marks7 k) ⟨9, 0, [], (k : Int)⟩ rfl HH.out.1 rfl rfl (by rw [HLL.out]; omega) HH.out.2 (Nat.le_refl _) hbr ?_; intro v5 w5 hO5 hb5 hs5 hk5')
      have HNX : Hid (OwnT w.heap.size v5 (L ++ marks7 (k + 1)) w5 ∧ Below w.heap.size w w5) := Lib.hid ⟨by rw [marks7_succ, ← List.append_assoc]; exact hO5, hb5⟩
      clear hO5 hb5 hs5 hk5'
      go_roundw
      case rel => exact ⟨k + 1, by omega, by go_num, HNX⟩
      case measure => simp [RowKit.intOf]; omega
    · obtain rfl : k = 5 := by omega
      obtain ⟨a', c', hv, hR, h1, h2⟩ := readsT_own HH.out.1
      rw [hLl] at hv hR h1
      have HR := Lib.hid hR
      have hc5 : n ≤ c' := by omega
      have hc6 : c' ≤ 9223372036854775807 := by unfold maxLen at h2; omega
      have H2 := Lib.hid h2
      clear hR hLl h2
      subst hv
      go_wp2
      go_ret
      exact ⟨a', c', rfl, h1, H2.out, HR.out, HH.out.2⟩
set_option maxHeartbeats 4000000 in
theorem keptC (w : World) (a : Option Addr) (n c : Nat) (L : List Tok) (a' : Option Addr) (c' : Nat) (h : ReadsT w a (n + 5) (L ++ marks7 5)) (h' : ReadsT w a' n L) (hn : n ≤ 1048576) (hc : n + 5 ≤ c) (hcm : c ≤ maxLen) :
    Calls Tryd.prog 17 #[.slice a n c, .slice a' n c'] w fun e w' => e = .returned (.bool true) ∧ Below w.heap.size w w' := by
  have hl' := h'.1
  have H := Lib.hid h
  have H' := Lib.hid h'
  have HL := Lib.hid hl'
  have hcm' : c ≤ 9223372036854775807 := by unfold maxLen at hcm; omega
  clear h h' hl' hcm
  go_enter Tryd.func17, Tryd.ntmps17
  go_wp2
  go_loopw [6] (fun kv wr => ∃ k : Nat, k ≤ 5 ∧ kv = .int .i64 (k : Int) ∧ Hid (Below w.heap.size w wr)) (fun kv _ => 5 - (RowKit.intOf kv).toNat)
  case atStart => exact ⟨0, by decide, rfl, Lib.hid (Below.refl _ _)⟩
  case round =>
    obtain ⟨k, hk5, rfl, HB⟩ := hrel
    by_cases hlt : k < 5
    · obtain ⟨b, off, x, rfl, hb, hx, e0, e1, e2, e3⟩ := (H.out.keep HB.out (Nat.le_refl _)).at (i := n + k) (by omega)
      rw [List.getElem?_append_right (by rw [HL.out]; omega), HL.out, Nat.add_sub_cancel_left, marks7_at hlt] at hx
      cases hx
      simp only at e0 e1 e2 e3
      go_wp2
      go_roundw
      case rel => exact ⟨k + 1, by omega, by go_num, HB⟩
      case measure => simp [RowKit.intOf]; omega
    · obtain rfl : k = 5 := by omega
      have HS := Lib.hid (sameC wr a n c L a' n c' L ((H.out.keep HB.out (Nat.le_refl _)).take HL.out) (H'.out.keep HB.out (Nat.le_refl _)) (by omega) (by omega))
      go_wp2_with (go_at_call 22; refine (HS.out).mono ?_; rintro e w5 ⟨rfl, hq5⟩)
      go_ret
      refine ⟨rfl, HB.out.trans ((hq5.below _).mono HB.out.size)⟩
end Go.Proofs.YtmhemahkcbgaoaaDoor
