/- What is escaped: a digit of sixteen. -/
import Derived.Test.YtmhemahkcbgaoaaDoorScanC
import Derived.Lib.IndexLaws
import Derived.Lib.EndianBits
namespace Go.Proofs.YtmhemahkcbgaoaaDoor
set_option linter.unusedVariables false
set_option linter.unusedSimpArgs false
open Go.RowKit
open Go.Lib hiding intOf
theorem bl_drewN {B : Nat} {a w : World} (h : Below B a w) (n : Nat) : Below B a (w.drewN n) := ⟨h.os, h.tape, h.output, h.size, h.block⟩
def hexI (x : UInt8) : Int := if digit16 x < 16 then (digit16 x : Int) else -1
theorem hexI_all : ∀ n : Fin 256, indexByte [48, 49, 50, 51, 52, 53, 54, 55, 56, 57, 97, 98, 99, 100, 101, 102] (UInt8.ofNat n.val) = hexI (UInt8.ofNat n.val) := by decide +kernel
theorem hexI_eq (x : UInt8) : indexByte [48, 49, 50, 51, 52, 53, 54, 55, 56, 57, 97, 98, 99, 100, 101, 102] x = hexI x := by
  have := hexI_all ⟨x.toNat, x.toNat_lt⟩
  simpa using this
theorem hexIdx (w : World) (x : UInt8) :
    Calls Tryd.prog 75 #[.string ⟨#[48, 49, 50, 51, 52, 53, 54, 55, 56, 57, 97, 98, 99, 100, 101, 102]⟩, .int .u8 (x.toNat : Int)] w fun e w' => e = .returned (.int .i64 (hexI x)) ∧ w' = w := by
  refine (Tryd.strings_IndexByte ⟨#[48, 49, 50, 51, 52, 53, 54, 55, 56, 57, 97, 98, 99, 100, 101, 102]⟩ (x.toNat : Int) w).mono ?_
  rintro e w' ⟨rfl, rfl⟩
  refine ⟨?_, rfl⟩
  have hx : ((x.toNat : Int)).toNat.toUInt8 = x := by simp
  rw [hx]
  exact congrArg (fun z => Ending.returned (.int .i64 z)) (hexI_eq x)
theorem digit16_le (x : UInt8) : digit16 x ≤ 16 := by unfold digit16; split <;> (try split) <;> omega
theorem or_all : ∀ a b : Fin 16, bits .or .i64 ((a.val : Int) * 16) (b.val : Int) = ((UInt8.ofNat (16 * a.val + b.val)).toNat : Int) := by decide +kernel
theorem or_byte {a b : Nat} (ha : a < 16) (hb : b < 16) : bits .or .i64 ((a : Int) * 16) (b : Int) = ((UInt8.ofNat (16 * a + b)).toNat : Int) := or_all ⟨a, ha⟩ ⟨b, hb⟩
theorem conv_one (w : World) (c : UInt8) :
    (convert 54 9 (.slice (some ⟨w.heap.size, 0, none⟩) 1 1)).run Tryd.prog (w.alloc (.cells #[.int .u8 (c.toNat : Int)] 5)) = .ok (.string (bstr [c])) (w.alloc (.cells #[.int .u8 (c.toNat : Int)] 5)) := by
  refine run_bytes_str _ _ _ 5 Tryd.underlying54 Tryd.underlying5 Tryd.underlying9 _ _ _ [c] ⟨rfl, fun _ => ⟨w.heap.size, 0, rfl, by simp, fun j hj => ?_⟩⟩
  obtain rfl : j = 0 := by omega
  simp [B8]
set_option maxHeartbeats 2000000 in
set_option maxRecDepth 100000 in
theorem escapedX (w : World) (l : List UInt8) (hm : l.length ≤ 140737488355328) (h4 : 4 ≤ l.length) (hx1 : l[1]? = some 120) :
    Calls Tryd.prog 57 #[.string (bstr l)] w fun e w' => e = .returned (.tuple #[.string (bstr (escOf l).1), .int .i64 ((escOf l).2 : Int)]) ∧ Below w.heap.size w w' := by
  obtain ⟨n, hn⟩ : ∃ n, n = l.length := ⟨_, rfl⟩
  have hsz : (bstr l).size = n := by rw [bstr_size, hn]
  have h4n : ¬ l.length < 4 := by omega
  have h2n : ¬ l.length < 2 := by omega
  obtain ⟨x, hx⟩ := some_at (l := l) (k := 2) (by omega)
  obtain ⟨y, hy⟩ := some_at (l := l) (k := 3) (by omega)
  rw [← hn] at hm h4
  have ha1 : (bstr l)[1]'(by rw [hsz]; omega) = 120 := bstr_at hx1 _
  have ha2 : (bstr l)[2]'(by rw [hsz]; omega) = x := bstr_at hx _
  have ha3 : (bstr l)[3]'(by rw [hsz]; omega) = y := bstr_at hy _
  have hE : escOf l = if 15 < digit16 x ∨ 15 < digit16 y then ([], 0) else ([UInt8.ofNat (16 * digit16 x + digit16 y)], 4) := by
    unfold escOf
    simp only [List.getD_eq_getElem?_getD, hx1, hx, hy, Option.getD_some]
    rw [if_neg h2n, if_neg (by decide), if_neg (by decide), if_neg (by decide), if_neg (by decide), if_pos (by decide)]
    simp only [h4n, false_or]
  by_cases hxb : 15 < digit16 x ∨ 15 < digit16 y
  · rw [if_pos hxb] at hE
    obtain ⟨a, hae⟩ : ∃ a, hexI x = a := ⟨_, rfl⟩
    obtain ⟨b, hbe⟩ : ∃ b, hexI y = b := ⟨_, rfl⟩
    have hab : ¬ (0 ≤ a ∧ 0 ≤ b) := by
      rw [← hae, ← hbe]
      unfold hexI
      rcases hxb with h | h
      · rw [if_neg (by omega)]; omega
      · rw [if_neg (by omega : ¬ digit16 y < 16)]; omega
    have HX := Lib.hid (fun w => hae ▸ hexIdx w x)
    have HY := Lib.hid (fun w => hbe ▸ hexIdx w y)
    clear hae hbe hx hy hx1 hxb
    rw [hE]
    clear hE
    go_enter Tryd.func57, Tryd.ntmps57
    go_wp2
    go_quiet ((go_at_call 75; first | exact Calls.quiet_of_same (HX.out _) | exact Calls.quiet_of_same (HY.out _)))
    go_wp2
    all_goals try (exfalso; omega)
    all_goals go_ret2
    all_goals exact ⟨rfl, bl_drewN (Below.refl _ w) _⟩
  · rw [if_neg hxb] at hE
    obtain ⟨a, hae⟩ : ∃ a, digit16 x = a := ⟨_, rfl⟩
    obtain ⟨b, hbe⟩ : ∃ b, digit16 y = b := ⟨_, rfl⟩
    rw [hae, hbe] at hE hxb
    have ha : a < 16 := by omega
    have hb : b < 16 := by omega
    have HX := Lib.hid (fun w => (show hexI x = (a : Int) by unfold hexI; rw [hae, if_pos ha]) ▸ hexIdx w x)
    have HY := Lib.hid (fun w => (show hexI y = (b : Int) by unfold hexI; rw [hbe, if_pos hb]) ▸ hexIdx w y)
    have hor := or_byte ha hb
    obtain ⟨c, hc⟩ : ∃ c, UInt8.ofNat (16 * a + b) = c := ⟨_, rfl⟩
    rw [hc] at hor hE
    have hcm : (c.toNat : Int) % 256 = (c.toNat : Int) := by have := c.toNat_lt; omega
    have hcv : ∀ nq, (convert 54 9 (.slice (some ⟨w.heap.size, 0, none⟩) 1 1)).run Tryd.prog ((w.drewN nq).alloc (.cells #[.int .u8 (c.toNat : Int)] 5)) = .ok (.string (bstr [c])) ((w.drewN nq).alloc (.cells #[.int .u8 (c.toNat : Int)] 5)) := fun nq => conv_one (w.drewN nq) c
    clear hae hbe hx hy hx1 hc
    rw [hE]
    clear hE hxb
    go_enter Tryd.func57, Tryd.ntmps57
    go_wp2
    go_quiet ((go_at_call 75; first | exact Calls.quiet_of_same (HX.out _) | exact Calls.quiet_of_same (HY.out _)))
    go_wp2
    go_ret2
    refine ⟨rfl, ?_⟩
    exact (bl_drewN (Below.refl _ w) nq).alloc (by simp) _
theorem i64_small (n : Int) (h0 : 0 ≤ n) (h1 : n < 2 ^ 62) : IntKind.i64.wrap n = n := by
  have h : ¬ ((2 : Int) ^ (64 - 1) ≤ n % 2 ^ 64) := by omega
  simp only [IntKind.wrap, IntKind.bits, IntKind.signed, ge_iff_le, h, decide_false, Bool.and_false, Bool.false_eq_true, if_false]
  omega
theorem or64 {a b : Nat} (ha : a < 2 ^ 40) (hb : b < 16) : bits .or .i64 ((a : Int) * 16) (b : Int) = ((16 * a + b : Nat) : Int) := by
  rw [bits_join .i64 62 (by decide) i64_small 4 _ _ (by omega) (by omega) (by omega) (by omega) (by omega) (by omega)]
  omega
theorem cells_rune (r : Int) : runeCells r = (encodeRune r).map B8 := by
  rw [← byteCells_encodeRune]; rfl
set_option maxHeartbeats 1000000 in
set_option maxRecDepth 100000 in
/-- a character's bytes -/
theorem encodeC (w : World) (g : Nat) (r : Nat) (hr : r ≤ 1114111) (hg : g < w.heap.size) (hc : w.cell? ⟨g, 0, none⟩ = some (.int .i32 (r : Int))) :
    Calls Tryd.prog 76 #[.slice (some ⟨g, 0, none⟩) 1 1] w fun e w' => e = .returned (.string (bstr (encodeRune r))) ∧ Below w.heap.size w w' := by
  have hA := Tryd.utf8_AppendRune_plain w.heap.size (.slice none 0 0) 0 [] (r : Int) (by omega) (by omega) w (World.ownsRow_nil _ _ _ _) (by omega) (Nat.le_refl _)
  rw [cells_rune, List.nil_append, Nat.zero_add] at hA
  obtain ⟨N, hN⟩ : ∃ N, ((encodeRune (r : Int)).map B8).length = N := ⟨_, rfl⟩
  rw [hN] at hA
  have HA := Lib.hid hA
  clear hA
  go_enter Tryd.func76, Tryd.ntmps76
  go_wp2
  refine wp_loop_rounds 2 ?_
  rw [rounds_succ]
  go_wp2_with (go_at_call 96; refine (HA.out).mono ?_; rintro e w' ⟨v, rfl, hown, o, hgr⟩)
  obtain ⟨a, c, rfl, hrd, _, _⟩ := reads_of_own hown
  have hcv := run_bytes_str (P := Tryd.prog) w' 54 9 5 Tryd.underlying54 Tryd.underlying5 Tryd.underlying9 _ _ c _ hrd
  go_wp2
  rw [rounds_succ]
  go_wp2
  go_ret
  refine ⟨rfl, ?_⟩
  have hb0 : Below w.heap.size w (w.alloc o) := (Below.refl _ w).alloc (Nat.le_refl _) _
  exact hb0.grown hgr (by simp) (fun k hk => by cases hk)
end Go.Proofs.YtmhemahkcbgaoaaDoor
