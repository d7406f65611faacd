/- What is escaped, by the reference. -/
import Derived.Deep.RegionWith
import Derived.Test.YtmhemahkcbgaoaaDoorUnqA
namespace Go.Proofs.YtmhemahkcbgaoaaDoor
set_option linter.unusedVariables false
set_option linter.unusedSimpArgs false
open Go.RowKit
open Go.Lib hiding intOf
theorem byte_of {a b : Nat} (ha : a < 16) (hb : b < 16) : IntKind.u8.wrap (16 * (a : Int) + (b : Int)) = ((UInt8.ofNat (16 * a + b)).toNat : Int) := by
  have : ∀ a b : Fin 16, IntKind.u8.wrap (16 * (a.val : Int) + (b.val : Int)) = ((UInt8.ofNat (16 * a.val + b.val)).toNat : Int) := by decide +kernel
  exact this ⟨a, ha⟩ ⟨b, hb⟩
set_option maxHeartbeats 4000000 in
set_option maxRecDepth 100000 in
theorem escapeXR (w : World) (l : List UInt8) (hm : l.length ≤ 140737488355328) (h2 : 2 ≤ l.length) (hx1 : l[1]? = some 120) :
    Calls Tryd.prog 58 #[.string (bstr l)] w fun e w' => e = .returned (.tuple #[.string (bstr (escOf l).1), .int .i64 ((escOf l).2 : Int)]) ∧ Below w.heap.size w w' := by
  obtain ⟨n, hn⟩ : ∃ n, n = l.length := ⟨_, rfl⟩
  have hsz : (bstr l).size = n := by rw [bstr_size, hn]
  have h2n : ¬ l.length < 2 := by omega
  have i1 : 1 < (bstr l).size := by rw [hsz]; omega
  have ha1 : (bstr l)[1]'i1 = 120 := bstr_at hx1 _
  by_cases h4 : l.length < 4
  · have hE : escOf l = ([], 0) := by
      unfold escOf
      simp only [List.getD_eq_getElem?_getD, hx1, Option.getD_some]
      rw [if_neg h2n, if_neg (by decide), if_neg (by decide), if_neg (by decide), if_neg (by decide), if_pos (by decide), if_pos (.inl h4)]
    rw [← hn] at hm h2 h4
    rw [hE]
    clear hE hn hx1 h2n
    go_enter Tryd.func58, Tryd.ntmps58
    go_wp2
    go_ret2
    exact ⟨rfl, Below.refl _ _⟩
  obtain ⟨x, hx⟩ := some_at (l := l) (k := 2) (by omega)
  obtain ⟨y, hy⟩ := some_at (l := l) (k := 3) (by omega)
  rw [← hn] at hm h4
  have i2 : 2 < (bstr l).size := by rw [hsz]; omega
  have i3 : 3 < (bstr l).size := by rw [hsz]; omega
  have ha2 : (bstr l)[2]'i2 = x := bstr_at hx _
  have ha3 : (bstr l)[3]'i3 = y := bstr_at hy _
  have hE : escOf l = if 15 < digit16 x ∨ 15 < digit16 y then ([], 0) else ([UInt8.ofNat (16 * digit16 x + digit16 y)], 4) := by
    unfold escOf
    simp only [List.getD_eq_getElem?_getD, hx1, hx, hy, Option.getD_some]
    rw [if_neg h2n, if_neg (by decide), if_neg (by decide), if_neg (by decide), if_neg (by decide), if_pos (by decide)]
    simp only [← hn, h4, false_or]
  obtain ⟨a, hae⟩ : ∃ a, digit16 x = a := ⟨_, rfl⟩
  obtain ⟨b, hbe⟩ : ∃ b, digit16 y = b := ⟨_, rfl⟩
  have HX := Lib.hid (fun w1 => hae ▸ digitR w1 x)
  have HY := Lib.hid (fun w1 => hbe ▸ digitR w1 y)
  have hal : a ≤ 16 := hae ▸ digit16_le x
  have hbl : b ≤ 16 := hbe ▸ digit16_le y
  rw [hae, hbe] at hE
  rw [hE]
  clear hE hae hbe hx hy hx1 hn h2n h2
  by_cases hxb : 15 < a ∨ 15 < b
  · rw [if_pos hxb]
    by_cases ha : 15 < a
    · clear hxb
      go_enter Tryd.func58, Tryd.ntmps58
      go_wp2_with (go_at_call 77; first | ((with_reducible refine (HX.out _).mono ?_); rintro e w' ⟨rfl, hww⟩; obtain rfl := hww.symm) | ((with_reducible refine (HY.out _).mono ?_); rintro e w' ⟨rfl, hww⟩; obtain rfl := hww.symm))
      all_goals go_ret2
      all_goals exact ⟨rfl, Below.refl _ _⟩
    · have hb : 15 < b := by omega
      clear hxb
      go_enter Tryd.func58, Tryd.ntmps58
      go_wp2_with (go_at_call 77; first | ((with_reducible refine (HX.out _).mono ?_); rintro e w' ⟨rfl, hww⟩; obtain rfl := hww.symm) | ((with_reducible refine (HY.out _).mono ?_); rintro e w' ⟨rfl, hww⟩; obtain rfl := hww.symm))
      all_goals go_ret2
      all_goals exact ⟨rfl, Below.refl _ _⟩
  · rw [if_neg hxb]
    have ha : a < 16 := by omega
    have hb : b < 16 := by omega
    have hor := byte_of ha hb
    obtain ⟨c, hc⟩ : ∃ c, UInt8.ofNat (16 * a + b) = c := ⟨_, rfl⟩
    rw [hc] at hor
    rw [hc]
    have hcm : (c.toNat : Int) % 256 = (c.toNat : Int) := by have := c.toNat_lt; omega
    have hw1 : IntKind.i64.wrap (16 * (a : Int)) = 16 * (a : Int) := IntWalk.i64_in _ (by omega)
    have hw2 : IntKind.i64.wrap (16 * (a : Int) + (b : Int)) = 16 * (a : Int) + (b : Int) := IntWalk.i64_in _ (by omega)
    have hcv0 : (convert 54 9 (.slice (some ⟨w.heap.size, 0, none⟩) 1 1)).run Tryd.prog (w.alloc (.cells #[.int .u8 (c.toNat : Int)] 5)).drew = .ok (.string (bstr [c])) (w.alloc (.cells #[.int .u8 (c.toNat : Int)] 5)).drew := conv_one w.drew c
    clear hc hxb
    go_enter Tryd.func58, Tryd.ntmps58
    go_wp2_with (go_at_call 77; first | ((with_reducible refine (HX.out _).mono ?_); rintro e w' ⟨rfl, hww⟩; obtain rfl := hww.symm) | ((with_reducible refine (HY.out _).mono ?_); rintro e w' ⟨rfl, hww⟩; obtain rfl := hww.symm))
    go_region_with ((go_at_call 77; first | ((with_reducible refine (HX.out _).mono ?_); rintro e w' ⟨rfl, hww⟩; obtain rfl := hww.symm) | ((with_reducible refine (HY.out _).mono ?_); rintro e w' ⟨rfl, hww⟩; obtain rfl := hww.symm)))
    all_goals go_wp2
    all_goals go_ret2
    all_goals exact ⟨rfl, bl_drewN ((Below.refl _ w).alloc (Nat.le_refl _) _) 1⟩
set_option maxHeartbeats 2000000 in
set_option maxRecDepth 100000 in
theorem escapeR (w : World) (l : List UInt8) (hm : l.length ≤ 140737488355328) (h0 : l[0]? = some 92) :
    Calls Tryd.prog 58 #[.string (bstr l)] w fun e w' => e = .returned (.tuple #[.string (bstr (escOf l).1), .int .i64 ((escOf l).2 : Int)]) ∧ Below w.heap.size w w' := by
  obtain ⟨n, hn⟩ : ∃ n, n = l.length := ⟨_, rfl⟩
  have hsz : (bstr l).size = n := by rw [bstr_size, hn]
  by_cases h2 : l.length < 2
  · have hE : escOf l = ([], 0) := by unfold escOf; rw [if_pos h2]
    rw [hE]
    rw [← hn] at hm h2
    clear hE hn h0
    go_enter Tryd.func58, Tryd.ntmps58
    go_wp2
    go_ret2
    exact ⟨rfl, Below.refl _ _⟩
  obtain ⟨x, hx⟩ := some_at (l := l) (k := 1) (by omega)
  have i1 : 1 < (bstr l).size := by rw [hsz, hn]; omega
  have ha1 : (bstr l)[1]'i1 = x := bstr_at hx _
  by_cases hX : x = 120
  · subst hX
    exact escapeXR w l hm (by omega) hx
  by_cases hu : x = 117
  · subst hu
    have hE : escOf l = bracedOf l := by
      unfold escOf
      simp only [List.getD_eq_getElem?_getD, hx, Option.getD_some]
      rw [if_neg h2, if_neg (by decide), if_neg (by decide), if_neg (by decide), if_neg (by decide), if_neg (by decide), if_pos (by decide)]
    have HB := Lib.hid (fun w1 => bracedR w1 l hm h0 hx)
    rw [hE]
    rw [← hn] at hm h2
    clear hE hn hx h0 hX
    go_enter Tryd.func58, Tryd.ntmps58
    go_wp2_with (go_at_call 78; refine (HB.out _).mono ?_; rintro e w' ⟨rfl, hww⟩; obtain rfl := hww.symm)
    go_ret2
    exact ⟨rfl, Below.refl _ _⟩
  have hE : escOf l = if x = 34 ∨ x = 92 then ([x], 2) else if x = 110 then ([10], 2) else if x = 114 then ([13], 2) else if x = 116 then ([9], 2) else ([], 0) := by
    unfold escOf
    simp only [List.getD_eq_getElem?_getD, hx, Option.getD_some]
    rw [if_neg h2, if_neg hX, if_neg hu]
  rw [← hn] at hm h2
  rw [hE]
  clear hE hn hx h0
  by_cases c1 : x = 34
  · subst c1
    go_enter Tryd.func58, Tryd.ntmps58
    go_wp2
    go_ret2
    exact ⟨rfl, Below.refl _ _⟩
  by_cases c2 : x = 92
  · subst c2
    go_enter Tryd.func58, Tryd.ntmps58
    go_wp2
    go_ret2
    exact ⟨rfl, Below.refl _ _⟩
  by_cases c3 : x = 110
  · subst c3
    go_enter Tryd.func58, Tryd.ntmps58
    go_wp2
    go_ret2
    exact ⟨rfl, Below.refl _ _⟩
  by_cases c4 : x = 114
  · subst c4
    go_enter Tryd.func58, Tryd.ntmps58
    go_wp2
    go_ret2
    exact ⟨rfl, Below.refl _ _⟩
  by_cases c5 : x = 116
  · subst c5
    go_enter Tryd.func58, Tryd.ntmps58
    go_wp2
    go_ret2
    exact ⟨rfl, Below.refl _ _⟩
  rw [if_neg (by rintro (h | h); · exact c1 h
                 · exact c2 h), if_neg c3, if_neg c4, if_neg c5]
  have b1 : ((x.toNat : Int) == 34) = false := byte_ne (n := 34) (by decide) c1
  have b2 : ((x.toNat : Int) == 92) = false := byte_ne (n := 92) (by decide) c2
  have b3 : ((x.toNat : Int) == 110) = false := byte_ne (n := 110) (by decide) c3
  have b4 : ((x.toNat : Int) == 114) = false := byte_ne (n := 114) (by decide) c4
  have b5 : ((x.toNat : Int) == 116) = false := byte_ne (n := 116) (by decide) c5
  have b6 : ((x.toNat : Int) == 120) = false := byte_ne (n := 120) (by decide) hX
  have b7 : ((x.toNat : Int) == 117) = false := byte_ne (n := 117) (by decide) hu
  clear c1 c2 c3 c4 c5 hX hu
  go_enter Tryd.func58, Tryd.ntmps58
  go_wp2
  go_ret2
  exact ⟨rfl, Below.refl _ _⟩
end Go.Proofs.YtmhemahkcbgaoaaDoor
