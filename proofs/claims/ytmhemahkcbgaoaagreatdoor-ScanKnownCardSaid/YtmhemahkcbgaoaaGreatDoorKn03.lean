/- Texts joined, one behind the other (ScanC, ScanD, ScanE, ScanF, Label). -/
import Derived.Test.YtmhemahkcbgaoaaGreatDoorKn02
import Derived.Lib.IndexLaws
import Derived.Lib.EndianBits
import Derived.ScopeJumps
import Derived.WalkMore
/- A run's number, by the program and by the reference. -/
namespace Go.Proofs.YtmhemahkcbgaoaaGreatDoor
set_option linter.unusedVariables false
set_option linter.unusedSimpArgs false
open Go.RowKit
open Go.Lib hiding intOf
theorem bstr_get (l : List UInt8) (k : Nat) (h : k < (bstr l).size) : (bstr l)[k] = l[k]'(by simpa using h) := rfl
theorem bstr_at {l : List UInt8} {k : Nat} {x : UInt8} (hx : l[k]? = some x) (h : k < (bstr l).size) : (bstr l)[k] = x := by
  rw [bstr_get]
  rw [List.getElem?_eq_some_iff] at hx
  exact hx.2
@[go_sem, simp] theorem bstr_toList (l : List UInt8) : (bstr l).toList = l := by
  rw [Lib.toList_data]; rfl
theorem some_at {l : List UInt8} {k : Nat} (h : k < l.length) : ∃ x, l[k]? = some x := ⟨l[k], List.getElem?_eq_getElem h⟩
theorem drop_at {l : List UInt8} {k : Nat} {y : UInt8} (hy : l[k]? = some y) : l.drop k = y :: l.drop (k + 1) := by
  obtain ⟨h, rfl⟩ := List.getElem?_eq_some_iff.1 hy
  exact List.drop_eq_getElem_cons h
theorem numGo_bound : ∀ (l : List UInt8) (n m : Nat), numGo l n = some m → n ≤ 9223372036854775807 → m ≤ 9223372036854775807
  | [], n, m, h, hn => by simp only [numGo, Option.some.injEq] at h; omega
  | x :: r, n, m, h, hn => by
    simp only [numGo] at h
    split at h
    · cases h
    · split at h
      · cases h
      · exact numGo_bound r _ m h (by omega)
set_option maxHeartbeats 1000000 in
theorem numberC (w : World) (l : List UInt8) (hm : l.length ≤ 140737488355328) :
    Calls Tryz.prog 29 #[.string (bstr l)] w fun e w' => e = .returned (.tuple #[.int .i64 (((numOf l).getD 0 : Nat) : Int), .bool (numOf l).isSome]) ∧ w' = w := by
  rcases Nat.eq_zero_or_pos l.length with h0 | h0
  · obtain rfl := List.eq_nil_of_length_eq_zero h0
    go_enter Tryz.func29, Tryz.ntmps29
    go_wp2
    go_ret2
    exact ⟨rfl, rfl⟩
  obtain ⟨n, hn⟩ : ∃ n, n = l.length := ⟨_, rfl⟩
  have hsz : (bstr l).size = n := by rw [bstr_size, hn]
  have hE : l.isEmpty = false := by cases l with
    | nil => simp at h0
    | cons _ _ => rfl
  have hE2 : ¬ l = [] := by intro e; subst e; simp at h0
  obtain ⟨x, hx⟩ := some_at h0
  have hat : (bstr l)[0]'(by rw [bstr_size]; exact h0) = x := bstr_at hx _
  have hg : l.getD 0 0 = x := by rw [List.getD_eq_getElem?_getD, hx]; rfl
  have hN : numOf l = if 1 < n ∧ x = 48 then none else numGo l 0 := by
    unfold numOf
    rw [hg, hn]
    simp [Nat.ne_of_gt h0]
  rw [← hn] at hm h0
  have HN := Lib.hid hn
  by_cases hz : 1 < n ∧ x = 48
  · rw [if_pos hz] at hN
    rw [hN]
    obtain ⟨hz1, rfl⟩ := hz
    clear hN hx hg hn
    go_enter Tryz.func29, Tryz.ntmps29
    go_wp2
    all_goals go_ret2
    all_goals exact ⟨rfl, rfl⟩
  · rw [if_neg hz] at hN
    rw [hN]
    have hz1 : (1 : Int) < (n : Int) → ((x.toNat : Int) == 48) = false := by
      intro h
      rw [beq_eq_false_iff_ne]
      intro e
      exact hz ⟨by omega, UInt8.toNat_inj.1 (by simpa using (by omega : x.toNat = 48))⟩
    clear hN hx hg hn hz
    go_enter Tryz.func29, Tryz.ntmps29
    go_wp2
    all_goals (
      go_loopw [4, 21] (fun nv iv wr => ∃ k m : Nat, k ≤ n ∧ nv = .int .i64 (m : Int) ∧ iv = .int .i64 (k : Int) ∧ m ≤ 9223372036854775807 ∧ numGo (l.drop k) m = numGo l 0 ∧ wr = w) (fun _ iv _ => n - (RowKit.intOf iv).toNat)
      case atStart => exact ⟨0, 0, Nat.zero_le _, rfl, rfl, by omega, rfl, rfl⟩
      case round =>
        obtain ⟨k, m, hk, rfl, rfl, hmx, hgo, rfl⟩ := hrel
        by_cases hlt : k < n
        · have hkl : k < l.length := by rw [← HN.out]; exact hlt
          obtain ⟨y, hy⟩ := some_at hkl
          have hya : (bstr l)[k]'(by rw [hsz]; exact hlt) = y := bstr_at hy _
          have hdrop := drop_at hy
          rw [hdrop, numGo] at hgo
          have hy8 := y.toNat_lt
          by_cases hd : y.toNat < 48 ∨ 57 < y.toNat
          · rw [if_pos hd] at hgo
            have HGO := Lib.hid hgo
            clear hgo hdrop hy hkl
            go_wp2
            all_goals go_ret2
            all_goals (rw [← HGO.out]; exact ⟨rfl, rfl⟩)
          · rw [if_neg hd] at hgo
            obtain ⟨q, hq⟩ : ∃ q, q = (9223372036854775807 - (y.toNat - 48)) / 10 := ⟨_, rfl⟩
            have hqi : ((9223372036854775807 : Int) - ((y.toNat : Int) - 48)).tdiv 10 = (q : Int) := by
              rw [Int.tdiv_eq_ediv_of_nonneg (by omega)]; omega
            have hqb : (q : Int) ≤ 922337203685477580 := by omega
            rw [← hq] at hgo
            by_cases hbig : q < m
            · rw [if_pos hbig] at hgo
              have HGO := Lib.hid hgo
              clear hgo hdrop hy hkl
              go_wp2
              all_goals go_ret2
              all_goals (rw [← HGO.out]; exact ⟨rfl, rfl⟩)
            · rw [if_neg hbig] at hgo
              have hs : 10 * (m : Int) + ((y.toNat : Int) - 48) ≤ 9223372036854775807 := by omega
              have HGO := Lib.hid hgo
              clear hgo hdrop hy hkl hq
              go_wp2
              go_roundw
              case rel => exact ⟨k + 1, 10 * m + (y.toNat - 48), by omega, by congr 1; omega, by go_num, by omega, HGO.out, trivial⟩
              case measure => simp [RowKit.intOf]; omega
        · obtain rfl : k = n := by omega
          have hgo2 : numGo l 0 = some m := by
            rw [← hgo, List.drop_eq_nil_of_le (by rw [← HN.out]; exact Nat.le_refl _)]
            rfl
          have HGO := Lib.hid hgo2
          clear hgo hgo2
          go_wp2
          go_ret2
          rw [HGO.out]
          exact ⟨rfl, rfl⟩)
set_option maxHeartbeats 1000000 in
theorem numberR (w : World) (l : List UInt8) (hm : l.length ≤ 140737488355328) :
    Calls Tryz.prog 34 #[.string (bstr l)] w fun e w' => ∃ z : Int, e = .returned (.tuple #[.int .i64 z, .bool (numOf l).isSome]) ∧ (∀ v, numOf l = some v → z = (v : Int)) ∧ Quiet w w' := by
  obtain ⟨n, hn⟩ : ∃ n, n = l.length := ⟨_, rfl⟩
  have hsz : (bstr l).size = n := by rw [bstr_size, hn]
  have hnone : numGo l 0 = none → numOf l = none := by intro h; unfold numOf; rw [h]; simp
  rw [← hn] at hm
  have HN := Lib.hid hn
  have HZ := Lib.hid hnone
  clear hn hnone
  go_enter Tryz.func34, Tryz.ntmps34
  go_wp2
  go_loopw [4, 5] (fun nv iv wr => ∃ k m : Nat, k ≤ n ∧ nv = .int .i64 (m : Int) ∧ iv = .int .i64 (k : Int) ∧ m ≤ 9223372036854775807 ∧ numGo (l.drop k) m = numGo l 0 ∧ wr = w) (fun _ iv _ => n - (RowKit.intOf iv).toNat)
  case atStart => exact ⟨0, 0, Nat.zero_le _, rfl, rfl, by omega, rfl, rfl⟩
  case round =>
    obtain ⟨k, m, hk, rfl, rfl, hmx, hgo, rfl⟩ := hrel
    by_cases hlt : k < n
    · have hkl : k < l.length := by rw [← HN.out]; exact hlt
      obtain ⟨y, hy⟩ := some_at hkl
      have hya : (bstr l)[k]'(by rw [hsz]; exact hlt) = y := bstr_at hy _
      rw [drop_at hy, numGo] at hgo
      have hy8 := y.toNat_lt
      by_cases hd : y.toNat < 48 ∨ 57 < y.toNat
      · rw [if_pos hd] at hgo
        have HGO := Lib.hid (HZ.out hgo.symm)
        clear hgo hy hkl
        go_wp2
        all_goals go_ret2
        all_goals (rw [HGO.out]; exact ⟨_, rfl, by (intro v hv; cases hv), Quiet.refl _⟩)
      · rw [if_neg hd] at hgo
        obtain ⟨q, hq⟩ : ∃ q, q = (9223372036854775807 - (y.toNat - 48)) / 10 := ⟨_, rfl⟩
        have hqi : ((9223372036854775807 : Int) - ((y.toNat : Int) - 48)).tdiv 10 = (q : Int) := by
          rw [Int.tdiv_eq_ediv_of_nonneg (by omega)]; omega
        have hqb : (q : Int) ≤ 922337203685477580 := by omega
        rw [← hq] at hgo
        by_cases hbig : q < m
        · rw [if_pos hbig] at hgo
          have HGO := Lib.hid (HZ.out hgo.symm)
          clear hgo hy hkl
          go_wp2
          all_goals go_ret2
          all_goals (rw [HGO.out]; exact ⟨_, rfl, by (intro v hv; cases hv), Quiet.refl _⟩)
        · rw [if_neg hbig] at hgo
          have hs : 10 * (m : Int) + ((y.toNat : Int) - 48) ≤ 9223372036854775807 := by omega
          have HGO := Lib.hid hgo
          clear hgo hy hkl hq
          go_wp2
          go_roundw
          case rel => exact ⟨k + 1, 10 * m + (y.toNat - 48), by omega, by congr 1; omega, by go_num, by omega, HGO.out, trivial⟩
          case measure => simp [RowKit.intOf]; omega
    · obtain rfl : k = n := by omega
      have hgo2 : numGo l 0 = some m := by
        rw [← hgo, List.drop_eq_nil_of_le (by rw [← HN.out]; exact Nat.le_refl _)]
        rfl
      have HGO := Lib.hid hgo2
      clear hgo
      by_cases h1 : 1 < k
      · obtain ⟨x, hx⟩ := some_at (l := l) (k := 0) (by rw [← HN.out]; omega)
        have hat : (bstr l)[0]'(by rw [hsz]; omega) = x := bstr_at hx _
        have hE : l.isEmpty = false := by cases l with
          | nil => simp at hx
          | cons _ _ => rfl
        have hg : l.getD 0 0 = x := by rw [List.getD_eq_getElem?_getD, hx]; rfl
        have hres : (numOf l) = if x = 48 then none else some m := by
          unfold numOf
          rw [hg, ← HN.out, hgo2]
          by_cases hz : x = 48
          · rw [if_pos (.inr ⟨h1, hz⟩), if_pos hz]
          · rw [if_neg (by rintro (h | h); · omega
                           · exact hz h.2), if_neg hz]
        have HR := Lib.hid hres
        clear hres hg hx hgo2
        have h1i : (1 : Int) < (k : Int) := by omega
        have h1b : ((k : Int) == 1) = false := by rw [beq_eq_false_iff_ne]; omega
        by_cases hz : x = 48
        · subst hz
          go_wp2
          go_quiet (fail)
          go_wp2
          go_ret2
          rw [HR.out]
          exact ⟨_, rfl, by (intro v hv; cases hv), (Quiet.refl _).drewN _⟩
        · have hzb : ((x.toNat : Int) != 48) = true := by
            rw [bne_iff_ne]
            intro e
            exact hz (UInt8.toNat_inj.1 (by simpa using (by omega : x.toNat = 48)))
          go_wp2
          go_quiet (fail)
          go_wp2
          go_ret2
          rw [HR.out, if_neg hz]
          exact ⟨_, rfl, by (intro v hv; cases hv; rfl), (Quiet.refl _).drewN _⟩
      · by_cases h0 : k = 0
        · subst h0
          have hnil : l = [] := List.eq_nil_of_length_eq_zero HN.out.symm
          have hres : numOf l = none := by rw [hnil]; rfl
          have HR := Lib.hid hres
          clear hres hnil hgo2
          go_wp2
          go_quiet (fail)
          go_wp2
          go_ret2
          rw [HR.out]
          exact ⟨_, rfl, by (intro v hv; cases hv), (Quiet.refl _).drewN _⟩
        · obtain rfl : k = 1 := by omega
          have hres : numOf l = some m := by
            unfold numOf
            rw [if_neg (by rw [← HN.out]; omega), hgo2]
          have HR := Lib.hid hres
          clear hres hgo2
          go_wp2
          go_quiet (fail)
          go_wp2
          go_ret2
          rw [HR.out]
          exact ⟨_, rfl, by (intro v hv; cases hv; rfl), (Quiet.refl _).drewN _⟩
end Go.Proofs.YtmhemahkcbgaoaaGreatDoor
/- What is escaped: a digit of sixteen. -/
namespace Go.Proofs.YtmhemahkcbgaoaaGreatDoor
set_option linter.unusedVariables false
set_option linter.unusedSimpArgs false
open Go.RowKit
open Go.Lib hiding intOf
theorem bl_drewN {B : Nat} {a w : World} (h : Below B a w) (n : Nat) : Below B a (w.drewN n) := ⟨h.os, h.tape, h.output, h.size, h.block⟩
def hexI (x : UInt8) : Int := if digit16 x < 16 then (digit16 x : Int) else -1
theorem hexI_all : ∀ n : Fin 256, indexByte [48, 49, 50, 51, 52, 53, 54, 55, 56, 57, 97, 98, 99, 100, 101, 102] (UInt8.ofNat n.val) = hexI (UInt8.ofNat n.val) := by decide +kernel
theorem hexI_eq (x : UInt8) : indexByte [48, 49, 50, 51, 52, 53, 54, 55, 56, 57, 97, 98, 99, 100, 101, 102] x = hexI x := by
  have := hexI_all ⟨x.toNat, x.toNat_lt⟩
  simpa using this
theorem hexIdx (w : World) (x : UInt8) :
    Calls Tryz.prog 67 #[.string ⟨#[48, 49, 50, 51, 52, 53, 54, 55, 56, 57, 97, 98, 99, 100, 101, 102]⟩, .int .u8 (x.toNat : Int)] w fun e w' => e = .returned (.int .i64 (hexI x)) ∧ w' = w := by
  refine (Tryz.strings_IndexByte ⟨#[48, 49, 50, 51, 52, 53, 54, 55, 56, 57, 97, 98, 99, 100, 101, 102]⟩ (x.toNat : Int) w).mono ?_
  rintro e w' ⟨rfl, rfl⟩
  refine ⟨?_, rfl⟩
  have hx : ((x.toNat : Int)).toNat.toUInt8 = x := by simp
  rw [hx]
  exact congrArg (fun z => Ending.returned (.int .i64 z)) (hexI_eq x)
theorem digit16_le (x : UInt8) : digit16 x ≤ 16 := by unfold digit16; split <;> (try split) <;> omega
theorem or_all : ∀ a b : Fin 16, bits .or .i64 ((a.val : Int) * 16) (b.val : Int) = ((UInt8.ofNat (16 * a.val + b.val)).toNat : Int) := by decide +kernel
theorem or_byte {a b : Nat} (ha : a < 16) (hb : b < 16) : bits .or .i64 ((a : Int) * 16) (b : Int) = ((UInt8.ofNat (16 * a + b)).toNat : Int) := or_all ⟨a, ha⟩ ⟨b, hb⟩
theorem conv_one (w : World) (c : UInt8) :
    (convert 25 9 (.slice (some ⟨w.heap.size, 0, none⟩) 1 1)).run Tryz.prog (w.alloc (.cells #[.int .u8 (c.toNat : Int)] 5)) = .ok (.string (bstr [c])) (w.alloc (.cells #[.int .u8 (c.toNat : Int)] 5)) := by
  refine run_bytes_str _ _ _ 5 Tryz.underlying25 Tryz.underlying5 Tryz.underlying9 _ _ _ [c] ⟨rfl, fun _ => ⟨w.heap.size, 0, rfl, by simp, fun j hj => ?_⟩⟩
  obtain rfl : j = 0 := by omega
  simp [B8]
set_option maxHeartbeats 2000000 in
set_option maxRecDepth 100000 in
theorem escapedX (w : World) (l : List UInt8) (hm : l.length ≤ 140737488355328) (h4 : 4 ≤ l.length) (hx1 : l[1]? = some 120) :
    Calls Tryz.prog 52 #[.string (bstr l)] w fun e w' => e = .returned (.tuple #[.string (bstr (escOf l).1), .int .i64 ((escOf l).2 : Int)]) ∧ Below w.heap.size w w' := by
  obtain ⟨n, hn⟩ : ∃ n, n = l.length := ⟨_, rfl⟩
  have hsz : (bstr l).size = n := by rw [bstr_size, hn]
  have h4n : ¬ l.length < 4 := by omega
  have h2n : ¬ l.length < 2 := by omega
  obtain ⟨x, hx⟩ := some_at (l := l) (k := 2) (by omega)
  obtain ⟨y, hy⟩ := some_at (l := l) (k := 3) (by omega)
  rw [← hn] at hm h4
  have ha1 : (bstr l)[1]'(by rw [hsz]; omega) = 120 := bstr_at hx1 _
  have ha2 : (bstr l)[2]'(by rw [hsz]; omega) = x := bstr_at hx _
  have ha3 : (bstr l)[3]'(by rw [hsz]; omega) = y := bstr_at hy _
  have hE : escOf l = if 15 < digit16 x ∨ 15 < digit16 y then ([], 0) else ([UInt8.ofNat (16 * digit16 x + digit16 y)], 4) := by
    unfold escOf
    simp only [List.getD_eq_getElem?_getD, hx1, hx, hy, Option.getD_some]
    rw [if_neg h2n, if_neg (by decide), if_neg (by decide), if_neg (by decide), if_neg (by decide), if_pos (by decide)]
    simp only [h4n, false_or]
  by_cases hxb : 15 < digit16 x ∨ 15 < digit16 y
  · rw [if_pos hxb] at hE
    obtain ⟨a, hae⟩ : ∃ a, hexI x = a := ⟨_, rfl⟩
    obtain ⟨b, hbe⟩ : ∃ b, hexI y = b := ⟨_, rfl⟩
    have hab : ¬ (0 ≤ a ∧ 0 ≤ b) := by
      rw [← hae, ← hbe]
      unfold hexI
      rcases hxb with h | h
      · rw [if_neg (by omega)]; omega
      · rw [if_neg (by omega : ¬ digit16 y < 16)]; omega
    have HX := Lib.hid (fun w => hae ▸ hexIdx w x)
    have HY := Lib.hid (fun w => hbe ▸ hexIdx w y)
    clear hae hbe hx hy hx1 hxb
    rw [hE]
    clear hE
    go_enter Tryz.func52, Tryz.ntmps52
    go_wp2
    go_quiet ((go_at_call 67; first | exact Calls.quiet_of_same (HX.out _) | exact Calls.quiet_of_same (HY.out _)))
    go_wp2
    all_goals try (exfalso; omega)
    all_goals go_ret2
    all_goals exact ⟨rfl, bl_drewN (Below.refl _ w) _⟩
  · rw [if_neg hxb] at hE
    obtain ⟨a, hae⟩ : ∃ a, digit16 x = a := ⟨_, rfl⟩
    obtain ⟨b, hbe⟩ : ∃ b, digit16 y = b := ⟨_, rfl⟩
    rw [hae, hbe] at hE hxb
    have ha : a < 16 := by omega
    have hb : b < 16 := by omega
    have HX := Lib.hid (fun w => (show hexI x = (a : Int) by unfold hexI; rw [hae, if_pos ha]) ▸ hexIdx w x)
    have HY := Lib.hid (fun w => (show hexI y = (b : Int) by unfold hexI; rw [hbe, if_pos hb]) ▸ hexIdx w y)
    have hor := or_byte ha hb
    obtain ⟨c, hc⟩ : ∃ c, UInt8.ofNat (16 * a + b) = c := ⟨_, rfl⟩
    rw [hc] at hor hE
    have hcm : (c.toNat : Int) % 256 = (c.toNat : Int) := by have := c.toNat_lt; omega
    have hcv : ∀ nq, (convert 25 9 (.slice (some ⟨w.heap.size, 0, none⟩) 1 1)).run Tryz.prog ((w.drewN nq).alloc (.cells #[.int .u8 (c.toNat : Int)] 5)) = .ok (.string (bstr [c])) ((w.drewN nq).alloc (.cells #[.int .u8 (c.toNat : Int)] 5)) := fun nq => conv_one (w.drewN nq) c
    clear hae hbe hx hy hx1 hc
    rw [hE]
    clear hE hxb
    go_enter Tryz.func52, Tryz.ntmps52
    go_wp2
    go_quiet ((go_at_call 67; first | exact Calls.quiet_of_same (HX.out _) | exact Calls.quiet_of_same (HY.out _)))
    go_wp2
    go_ret2
    refine ⟨rfl, ?_⟩
    exact (bl_drewN (Below.refl _ w) nq).alloc (by simp) _
theorem i64_small (n : Int) (h0 : 0 ≤ n) (h1 : n < 2 ^ 62) : IntKind.i64.wrap n = n := by
  have h : ¬ ((2 : Int) ^ (64 - 1) ≤ n % 2 ^ 64) := by omega
  simp only [IntKind.wrap, IntKind.bits, IntKind.signed, ge_iff_le, h, decide_false, Bool.and_false, Bool.false_eq_true, if_false]
  omega
theorem or64 {a b : Nat} (ha : a < 2 ^ 40) (hb : b < 16) : bits .or .i64 ((a : Int) * 16) (b : Int) = ((16 * a + b : Nat) : Int) := by
  rw [bits_join .i64 62 (by decide) i64_small 4 _ _ (by omega) (by omega) (by omega) (by omega) (by omega) (by omega)]
  omega
theorem cells_rune (r : Int) : runeCells r = (encodeRune r).map B8 := by
  rw [← byteCells_encodeRune]; rfl
set_option maxHeartbeats 1000000 in
set_option maxRecDepth 100000 in
/-- a character's bytes -/
theorem encodeC (w : World) (g : Nat) (r : Nat) (hr : r ≤ 1114111) (hg : g < w.heap.size) (hc : w.cell? ⟨g, 0, none⟩ = some (.int .i32 (r : Int))) :
    Calls Tryz.prog 68 #[.slice (some ⟨g, 0, none⟩) 1 1] w fun e w' => e = .returned (.string (bstr (encodeRune r))) ∧ Below w.heap.size w w' := by
  have hA := Tryz.utf8_AppendRune_plain w.heap.size (.slice none 0 0) 0 [] (r : Int) (by omega) (by omega) w (World.ownsRow_nil _ _ _ _) (by omega) (Nat.le_refl _)
  rw [cells_rune, List.nil_append, Nat.zero_add] at hA
  obtain ⟨N, hN⟩ : ∃ N, ((encodeRune (r : Int)).map B8).length = N := ⟨_, rfl⟩
  rw [hN] at hA
  have HA := Lib.hid hA
  clear hA
  go_enter Tryz.func68, Tryz.ntmps68
  go_wp2
  refine wp_loop_rounds 2 ?_
  rw [rounds_succ]
  go_wp2_with (go_at_call 89; refine (HA.out).mono ?_; rintro e w' ⟨v, rfl, hown, o, hgr⟩)
  obtain ⟨a, c, rfl, hrd, _, _⟩ := reads_of_own hown
  have hcv := run_bytes_str (P := Tryz.prog) w' 25 9 5 Tryz.underlying25 Tryz.underlying5 Tryz.underlying9 _ _ c _ hrd
  go_wp2
  rw [rounds_succ]
  go_wp2
  go_ret
  refine ⟨rfl, ?_⟩
  have hb0 : Below w.heap.size w (w.alloc o) := (Below.refl _ w).alloc (Nat.le_refl _) _
  exact hb0.grown hgr (by simp) (fun k hk => by cases hk)
end Go.Proofs.YtmhemahkcbgaoaaGreatDoor
/- What is escaped, by the program. -/
namespace Go.Proofs.YtmhemahkcbgaoaaGreatDoor
set_option linter.unusedVariables false
set_option linter.unusedSimpArgs false
open Go.RowKit
open Go.Lib hiding intOf
theorem index_cases (l : List UInt8) (c : UInt8) : indexByte l c = -1 ∨ ∃ e : Nat, indexByte l c = (e : Int) ∧ e < l.length ∧ l[e]? = some c := by
  have h := indexByte_ge l c
  by_cases h0 : indexByte l c < 0
  · left; omega
  · right
    obtain ⟨e, he⟩ := Int.eq_ofNat_of_zero_le (Int.not_lt.1 h0)
    have := indexByte_some he
    exact ⟨e, he, (List.getElem?_eq_some_iff.1 this.1).1, this.1⟩
def hexB (k : Nat) : Nat := 16 ^ (k - 3)
theorem hexB_step {k m d : Nat} (hk : 3 ≤ k) (h : m < hexB k) (hd : d < 16) : 16 * m + d < hexB (k + 1) := by
  unfold hexB at *
  rw [show k + 1 - 3 = (k - 3) + 1 by omega, Nat.pow_succ]
  omega
theorem hexB_le {k m : Nat} (hk : k ≤ 9) (h : m < hexB k) : m < 16777216 := by
  unfold hexB at h
  have : 16 ^ (k - 3) ≤ 16 ^ 6 := Nat.pow_le_pow_right (by omega) (by omega)
  have h6 : (16 : Nat) ^ 6 = 16777216 := by decide
  omega
theorem rune_cases (m : Nat) : (1114111 < m ∧ (1114111 < m ∨ 55296 ≤ m ∧ m ≤ 57343)) ∨ (55296 ≤ m ∧ m ≤ 57343 ∧ (1114111 < m ∨ 55296 ≤ m ∧ m ≤ 57343)) ∨ (m < 55296 ∧ ¬ (1114111 < m ∨ 55296 ≤ m ∧ m ≤ 57343)) ∨ (57343 < m ∧ m ≤ 1114111 ∧ ¬ (1114111 < m ∨ 55296 ≤ m ∧ m ≤ 57343)) := by omega
theorem piece_at {l : List UInt8} {k e : Nat} {y : UInt8} (hy : l[k]? = some y) (h : k < e) : (l.drop k).take (e - k) = y :: (l.drop (k + 1)).take (e - (k + 1)) := by
  rw [drop_at hy]
  obtain ⟨d, rfl⟩ : ∃ d, e = k + 1 + d := ⟨e - (k + 1), by omega⟩
  rw [show k + 1 + d - k = d + 1 by omega, show k + 1 + d - (k + 1) = d by omega, List.take_succ_cons]
set_option maxHeartbeats 4000000 in
set_option maxRecDepth 100000 in
theorem escapedU (w : World) (l : List UInt8) (hm : l.length ≤ 140737488355328) (h2 : 2 ≤ l.length) (hx1 : l[1]? = some 117) :
    Calls Tryz.prog 52 #[.string (bstr l)] w fun e w' => e = .returned (.tuple #[.string (bstr (escOf l).1), .int .i64 ((escOf l).2 : Int)]) ∧ Below w.heap.size w w' := by
  obtain ⟨n, hn⟩ : ∃ n, n = l.length := ⟨_, rfl⟩
  have hsz : (bstr l).size = n := by rw [bstr_size, hn]
  have h2n : ¬ l.length < 2 := by omega
  rw [← hn] at hm h2
  have i1 : 1 < (bstr l).size := by rw [hsz]; omega
  have ha1 : (bstr l)[1]'i1 = 117 := bstr_at hx1 _
  have hE : escOf l = bracedOf l := by
    unfold escOf
    simp only [List.getD_eq_getElem?_getD, hx1, Option.getD_some]
    rw [if_neg h2n, if_neg (by decide), if_neg (by decide), if_neg (by decide), if_neg (by decide), if_neg (by decide), if_pos (by decide)]
  rw [hE]
  have hI : ∀ w, Calls Tryz.prog 67 #[.string (bstr l), .int .u8 125] w fun e w' => e = .returned (.int .i64 (indexByte l 125)) ∧ w' = w := fun w => Tryz.strings_IndexByte (bstr l) 125 w
  by_cases h3 : n < 3
  · have hB : bracedOf l = ([], 0) := by unfold bracedOf; rw [if_pos (.inl (by omega))]
    rw [hB]
    have HI := Lib.hid hI
    clear hI hB hE hx1
    go_enter Tryz.func52, Tryz.ntmps52
    go_wp2_with (go_at_call 67; refine (HI.out _).mono ?_; rintro e w' ⟨rfl, rfl⟩)
    all_goals go_ret2
    all_goals exact ⟨rfl, Below.refl _ _⟩
  obtain ⟨c, hc⟩ := some_at (l := l) (k := 2) (by omega)
  have i2 : 2 < (bstr l).size := by rw [hsz]; omega
  have ha2 : (bstr l)[2]'i2 = c := bstr_at hc _
  have hg2 : l.getD 2 0 = c := by rw [List.getD_eq_getElem?_getD, hc]; rfl
  by_cases hc3 : ¬ c = 123
  · have hB : bracedOf l = ([], 0) := by unfold bracedOf; rw [if_pos (.inr (.inl (by rw [hg2]; exact hc3)))]
    rw [hB]
    have HI := Lib.hid hI
    have hcb : ((c.toNat : Int) != 123) = true := by
      rw [bne_iff_ne]; intro e; exact hc3 (UInt8.toNat_inj.1 (by simpa using (by omega : c.toNat = 123)))
    clear hI hB hE hx1 hc hg2 hc3
    go_enter Tryz.func52, Tryz.ntmps52
    go_wp2_with (go_at_call 67; refine (HI.out _).mono ?_; rintro e w' ⟨rfl, rfl⟩)
    all_goals go_ret2
    all_goals exact ⟨rfl, Below.refl _ _⟩
  obtain rfl : c = 123 := Decidable.not_not.1 hc3
  have hl3 : ¬ l.length < 3 := by omega
  by_cases hbad : indexByte l 125 < 4 ∨ 9 < indexByte l 125
  · have hB : bracedOf l = ([], 0) := by unfold bracedOf; rw [if_pos (.inr (.inr hbad))]
    rw [hB]
    obtain ⟨z, hz⟩ : ∃ z, indexByte l 125 = z := ⟨_, rfl⟩
    rw [hz] at hbad
    have HI := Lib.hid (fun w => hz ▸ hI w)
    clear hI hB hE hx1 hc hg2 hz
    go_enter Tryz.func52, Tryz.ntmps52
    go_wp2_with (go_at_call 67; refine (HI.out _).mono ?_; rintro e w' ⟨rfl, rfl⟩)
    all_goals try (exfalso; omega)
    all_goals go_ret2
    all_goals exact ⟨rfl, Below.refl _ _⟩
  rcases index_cases l 125 with hneg | ⟨e, he, hel, hle⟩
  · exfalso; omega
  rw [he] at hbad
  have he4 : 4 ≤ e := by omega
  have he9 : e ≤ 9 := by omega
  have hen : e < n := by omega
  have hB : bracedOf l = match hexGo ((l.drop 3).take (e - 3)) 0 with
    | none => ([], 0)
    | some n => if 1114111 < n ∨ 55296 ≤ n ∧ n ≤ 57343 then ([], 0) else (encodeRune n, e + 1) := by
    unfold bracedOf
    rw [hg2, he, if_neg (by rintro (h | h | h | h); · exact hl3 h
                            · exact h rfl
                            · omega
                            · omega)]
    rfl
  have HI := Lib.hid (fun w => he ▸ hI w)
  have HB := Lib.hid hB
  have HN := Lib.hid hn
  clear hI hB hE hx1 hc hg2 hbad hl3 h2n hle hel hn he
  go_enter Tryz.func52, Tryz.ntmps52
  go_wp2_with (go_at_call 67; refine (HI.out _).mono ?_; rintro e w' ⟨rfl, hww⟩; obtain rfl := hww.symm)
  go_loopw [7, 8] (fun nv iv wr => ∃ k m : Nat, 3 ≤ k ∧ k ≤ e ∧ nv = .int .i64 (m : Int) ∧ iv = .int .i64 (k : Int) ∧ m < hexB k ∧ hexGo ((l.drop k).take (e - k)) m = hexGo ((l.drop 3).take (e - 3)) 0 ∧ wr = w) (fun _ iv _ => e - (RowKit.intOf iv).toNat)
  case atStart => exact ⟨3, 0, by omega, by omega, rfl, rfl, by decide, rfl, rfl⟩
  case round =>
    obtain ⟨k, m, hk3, hke, rfl, rfl, pb, hgo, rfl⟩ := hrel
    have hmb := hexB_le (by omega) pb
    have PB := Lib.hid pb
    clear pb
    by_cases hlt : k < e
    · obtain ⟨y, hy⟩ := some_at (l := l) (k := k) (by rw [← HN.out]; omega)
      have ik : k < (bstr l).size := by rw [hsz]; omega
      have hya : (bstr l)[k]'ik = y := bstr_at hy _
      rw [piece_at hy hlt, hexGo] at hgo
      by_cases hd : 15 < digit16 y
      · rw [if_pos hd] at hgo
        have hyI : hexI y = -1 := by unfold hexI; rw [if_neg (by omega)]
        have HY := Lib.hid (fun w => hyI ▸ hexIdx w y)
        have HGO := Lib.hid hgo
        clear hgo hy hyI
        go_wp2_with (go_at_call 67; refine (HY.out _).mono ?_; rintro e w' ⟨rfl, rfl⟩)
        all_goals go_ret2
        all_goals (rw [HB.out, ← HGO.out]; exact ⟨rfl, Below.refl _ _⟩)
      · rw [if_neg hd] at hgo
        obtain ⟨d, hde⟩ : ∃ d, digit16 y = d := ⟨_, rfl⟩
        rw [hde] at hgo hd
        have hyI : hexI y = (d : Int) := by unfold hexI; rw [hde, if_pos (by omega)]
        have hor := or64 (by omega : m < 2 ^ 40) (by omega : d < 16)
        have HY := Lib.hid (fun w => hyI ▸ hexIdx w y)
        have HGO := Lib.hid hgo
        clear hgo hy hyI hde
        go_wp2_with (go_at_call 67; refine (HY.out _).mono ?_; rintro e w' ⟨rfl, rfl⟩)
        go_roundw
        case rel => exact ⟨k + 1, 16 * m + d, by omega, by omega, by go_num, by go_num, hexB_step hk3 PB.out (by omega), HGO.out, trivial⟩
        case measure => simp [RowKit.intOf]; omega
    · obtain rfl : k = e := by omega
      have hgo2 : hexGo ((l.drop 3).take (k - 3)) 0 = some m := by rw [← hgo, Nat.sub_self, List.take_zero]; rfl
      have HB2 := HB.out
      rw [hgo2] at HB2
      have HC := Lib.hid HB2
      clear hgo hgo2 HB HB2
      rcases rune_cases m with ⟨c1, hbad⟩ | ⟨c1, c2, hbad⟩ | ⟨c1, hbad⟩ | ⟨c1, c2, hbad⟩
      · have HBAD := Lib.hid hbad
        clear hbad
        go_wp2
        all_goals go_ret2
        all_goals (rw [HC.out]; simp only [if_pos HBAD.out]; exact ⟨rfl, Below.refl _ _⟩)
      · have HBAD := Lib.hid hbad
        clear hbad
        go_wp2
        all_goals go_ret2
        all_goals (rw [HC.out]; simp only [if_pos HBAD.out]; exact ⟨rfl, Below.refl _ _⟩)
      · have HBAD := Lib.hid hbad
        have hm1 : m ≤ 1114111 := by omega
        have hE := encodeC (wr.alloc (.cells #[.int .i32 (m : Int)] 21)) wr.heap.size m hm1 (by simp) (by simp)
        have HEc := Lib.hid hE
        clear hE hbad
        go_wp2_with (go_at_call 68; refine (HEc.out).mono ?_; rintro e w' ⟨rfl, hb⟩)
        all_goals go_ret2
        all_goals (rw [HC.out]; simp only [if_neg HBAD.out]; refine ⟨rfl, ?_⟩)
        all_goals exact ((Below.refl _ wr).alloc (Nat.le_refl _) _).trans (hb.mono (by simp))
      · have HBAD := Lib.hid hbad
        have hm1 : m ≤ 1114111 := by omega
        have hE := encodeC (wr.alloc (.cells #[.int .i32 (m : Int)] 21)) wr.heap.size m hm1 (by simp) (by simp)
        have HEc := Lib.hid hE
        clear hE hbad
        go_wp2_with (go_at_call 68; refine (HEc.out).mono ?_; rintro e w' ⟨rfl, hb⟩)
        all_goals go_ret2
        all_goals (rw [HC.out]; simp only [if_neg HBAD.out]; refine ⟨rfl, ?_⟩)
        all_goals exact ((Below.refl _ wr).alloc (Nat.le_refl _) _).trans (hb.mono (by simp))
end Go.Proofs.YtmhemahkcbgaoaaGreatDoor
/- What is escaped, by the program: all cases. -/
namespace Go.Proofs.YtmhemahkcbgaoaaGreatDoor
set_option linter.unusedVariables false
set_option linter.unusedSimpArgs false
open Go.RowKit
open Go.Lib hiding intOf
theorem byte_ne {x : UInt8} {n : Nat} (hn : n < 256) (h : x ≠ UInt8.ofNat n) : ((x.toNat : Int) == (n : Int)) = false := by
  rw [beq_eq_false_iff_ne]
  intro e
  apply h
  apply UInt8.toNat_inj.1
  rw [UInt8.toNat_ofNat_of_lt' (by simpa using hn)]
  omega
set_option maxHeartbeats 2000000 in
set_option maxRecDepth 100000 in
theorem escapedC (w : World) (l : List UInt8) (hm : l.length ≤ 140737488355328) :
    Calls Tryz.prog 52 #[.string (bstr l)] w fun e w' => e = .returned (.tuple #[.string (bstr (escOf l).1), .int .i64 ((escOf l).2 : Int)]) ∧ Below w.heap.size w w' := by
  obtain ⟨n, hn⟩ : ∃ n, n = l.length := ⟨_, rfl⟩
  have hsz : (bstr l).size = n := by rw [bstr_size, hn]
  by_cases h2 : l.length < 2
  · have hE : escOf l = ([], 0) := by unfold escOf; rw [if_pos h2]
    rw [hE]
    rw [← hn] at hm h2
    clear hE hn
    go_enter Tryz.func52, Tryz.ntmps52
    go_wp2
    go_ret2
    exact ⟨rfl, Below.refl _ _⟩
  obtain ⟨x, hx⟩ := some_at (l := l) (k := 1) (by omega)
  by_cases hu : x = 117
  · subst hu; exact escapedU w l hm (by omega) hx
  by_cases hX : x = 120
  · subst hX
    by_cases h4 : 4 ≤ l.length
    · exact escapedX w l hm h4 hx
    · have hE : escOf l = ([], 0) := by
        unfold escOf
        simp only [List.getD_eq_getElem?_getD, hx, Option.getD_some]
        rw [if_neg h2, if_neg (by decide), if_neg (by decide), if_neg (by decide), if_neg (by decide), if_pos (by decide), if_pos (.inl (by omega))]
      rw [hE]
      rw [← hn] at hm h2 h4
      have i1 : 1 < (bstr l).size := by rw [hsz]; omega
      have ha1 : (bstr l)[1]'i1 = 120 := bstr_at hx _
      clear hE hn hx hu
      go_enter Tryz.func52, Tryz.ntmps52
      go_wp2
      go_ret2
      exact ⟨rfl, Below.refl _ _⟩
  have i1 : 1 < (bstr l).size := by rw [hsz, hn]; omega
  have ha1 : (bstr l)[1]'i1 = x := bstr_at hx _
  have hE : escOf l = if x = 34 ∨ x = 92 then ([x], 2) else if x = 110 then ([10], 2) else if x = 114 then ([13], 2) else if x = 116 then ([9], 2) else ([], 0) := by
    unfold escOf
    simp only [List.getD_eq_getElem?_getD, hx, Option.getD_some]
    rw [if_neg h2, if_neg hX, if_neg hu]
  rw [← hn] at hm h2
  have hcut : (bstr l).extract 1 2 = bstr [x] := by
    rw [bstr_extract, drop_at hx]
    simp
  rw [hE]
  clear hE hn hx
  by_cases c1 : x = 34
  · subst c1
    go_enter Tryz.func52, Tryz.ntmps52
    go_wp2
    go_ret2
    rw [← hcut]
    exact ⟨rfl, Below.refl _ _⟩
  by_cases c2 : x = 92
  · subst c2
    go_enter Tryz.func52, Tryz.ntmps52
    go_wp2
    go_ret2
    rw [← hcut]
    exact ⟨rfl, Below.refl _ _⟩
  by_cases c3 : x = 110
  · subst c3
    go_enter Tryz.func52, Tryz.ntmps52
    go_wp2
    go_ret2
    exact ⟨rfl, Below.refl _ _⟩
  by_cases c4 : x = 114
  · subst c4
    go_enter Tryz.func52, Tryz.ntmps52
    go_wp2
    go_ret2
    exact ⟨rfl, Below.refl _ _⟩
  by_cases c5 : x = 116
  · subst c5
    go_enter Tryz.func52, Tryz.ntmps52
    go_wp2
    go_ret2
    exact ⟨rfl, Below.refl _ _⟩
  rw [if_neg (by rintro (h | h); · exact c1 h
                 · exact c2 h), if_neg c3, if_neg c4, if_neg c5]
  have b1 : ((x.toNat : Int) == 34) = false := byte_ne (n := 34) (by decide) c1
  have b2 : ((x.toNat : Int) == 92) = false := byte_ne (n := 92) (by decide) c2
  have b3 : ((x.toNat : Int) == 110) = false := byte_ne (n := 110) (by decide) c3
  have b4 : ((x.toNat : Int) == 114) = false := byte_ne (n := 114) (by decide) c4
  have b5 : ((x.toNat : Int) == 116) = false := byte_ne (n := 116) (by decide) c5
  have b6 : ((x.toNat : Int) == 120) = false := byte_ne (n := 120) (by decide) hX
  have b7 : ((x.toNat : Int) == 117) = false := byte_ne (n := 117) (by decide) hu
  clear c1 c2 c3 c4 c5 hX hu hcut
  go_enter Tryz.func52, Tryz.ntmps52
  go_wp2
  go_ret2
  exact ⟨rfl, Below.refl _ _⟩
end Go.Proofs.YtmhemahkcbgaoaaGreatDoor
/- A scope with labels that the run jumps to: what holds at each label's jump, and a measure that every pass lowers. -/
namespace Go.Proofs.YtmhemahkcbgaoaaGreatDoor
set_option linter.unusedVariables false
set_option linter.unusedSimpArgs false
open Go.RowKit
/-- as Q; by a goto to label l: J l -/
def jumps (J : Nat → Act → World → Prop) (Q : Exit → Act → World → Prop) : Exit → Act → World → Prop
  | .goto l, a, w => J l a w
  | e, a, w => Q e a w
@[go_sem] theorem jumps_normal {J : Nat → Act → World → Prop} {Q : Exit → Act → World → Prop} {a : Act} {w : World} : jumps J Q .normal a w = Q .normal a w := rfl
@[go_sem] theorem jumps_exit {J : Nat → Act → World → Prop} {Q : Exit → Act → World → Prop} {a : Act} {w : World} (id : Nat) : jumps J Q (.exit id) a w = Q (.exit id) a w := rfl
@[go_sem] theorem jumps_ret {J : Nat → Act → World → Prop} {Q : Exit → Act → World → Prop} {a : Act} {w : World} : jumps J Q .ret a w = Q .ret a w := rfl
@[go_sem] theorem jumps_panic {J : Nat → Act → World → Prop} {Q : Exit → Act → World → Prop} {a : Act} {w : World} (ch : List PanicEntry) : jumps J Q (.panic ch) a w = Q (.panic ch) a w := rfl
theorem jumps_goto {J : Nat → Act → World → Prop} {Q : Exit → Act → World → Prop} {a : Act} {w : World} (l : Nat) : jumps J Q (.goto l) a w = J l a w := rfl
theorem wp_scope_labels {P : Program} {c : Code} {Q : Exit → Act → World → Prop} {a : Act} {w : World} (J : Nat → Act → World → Prop) (μ : Nat → Act → World → Nat)
    (pass : ∀ l a w, J l a w → ∃ rest, findLabel c l = some rest ∧ rest.wp P (jumps (fun l' a' w' => J l' a' w' ∧ μ l' a' w' < μ l a w) Q) a w)
    (first : c.wp P (jumps J Q) a w) : (Code.scope c).wp P Q a w := by
  intro b k cs
  have key : ∀ n l a w rest, μ l a w = n → J l a w → findLabel c l = some rest → ∃ e a' w', Q e a' w' ∧ Arrives P (lone (b.at a (.code rest :: .inScope c :: k)) cs w) b k cs e a' w' := by
    intro n
    induction n using Nat.strongRecOn with
    | _ n ih =>
      intro l a w rest hn hJ hf
      obtain ⟨rest', hf', hp⟩ := pass l a w hJ
      obtain rfl := Option.some.inj (hf.symm.trans hf')
      obtain ⟨e, a₁, w₁, hq, harr⟩ := hp b (.inScope c :: k) cs
      cases e with
      | normal => exact ⟨.normal, a₁, w₁, hq, Steps.trans harr (.one step_inScope)⟩
      | exit id => exact ⟨.exit id, a₁, w₁, hq, fun k' hk => harr k' (by simp [exitTo, hk])⟩
      | goto l' =>
        obtain ⟨hJ', hlt⟩ := hq
        obtain ⟨rest2, hf2, _⟩ := pass l' a₁ w₁ hJ'
        obtain ⟨e₂, a₂, w₂, hq₂, harr₂⟩ := ih _ (by omega) l' a₁ w₁ rest2 rfl hJ' hf2
        exact ⟨e₂, a₂, w₂, hq₂, .of_steps (harr _ (by simp [gotoIn, hf2])) harr₂⟩
      | ret => exact ⟨_, a₁, w₁, hq, harr⟩
      | panic ch => exact ⟨_, a₁, w₁, hq, harr⟩
      | outgrown => exact ⟨_, a₁, w₁, hq, harr⟩
  obtain ⟨e, a₁, w₁, hq, harr⟩ := first b (.inScope c :: k) cs
  cases e with
  | normal => exact ⟨.normal, a₁, w₁, hq, .head step_scope (Steps.trans harr (.one step_inScope))⟩
  | exit id => exact ⟨.exit id, a₁, w₁, hq, fun k' hk => .head step_scope (harr k' (by simp [exitTo, hk]))⟩
  | goto l' =>
    obtain ⟨rest2, hf2, _⟩ := pass l' a₁ w₁ hq
    obtain ⟨e₂, a₂, w₂, hq₂, harr₂⟩ := key _ l' a₁ w₁ rest2 rfl hq hf2
    exact ⟨e₂, a₂, w₂, hq₂, .of_steps (.head step_scope (harr _ (by simp [gotoIn, hf2]))) harr₂⟩
  | ret => exact ⟨_, a₁, w₁, hq, .of_steps (.one step_scope) harr⟩
  | panic ch => exact ⟨_, a₁, w₁, hq, .of_steps (.one step_scope) harr⟩
  | outgrown => exact ⟨_, a₁, w₁, hq, .of_steps (.one step_scope) harr⟩
/-- the code in a body's scope -/
def scopeOf : Option Code → Code
  | some (.seq _ (.scope c)) => c
  | _ => .skip
end Go.Proofs.YtmhemahkcbgaoaaGreatDoor
