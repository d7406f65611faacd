/- Where a line ends, by both. -/
import Derived.Test.YtnbihjocdlpplaaDoorLineP
import Derived.Test.YtnbihjocdlpplaaDoorDUtf
namespace Go.Proofs.YtnbihjocdlpplaaDoor
set_option linter.unusedVariables false
set_option linter.unusedSimpArgs false
open Go.RowKit
open Go.Lib hiding intOf
def EndQ (w : World) (l : List UInt8) (i : Nat) (e : Ending) (w' : World) : Prop := ∃ n : Int, e = .returned (.tuple #[.int .i64 n, .bool (endL l i != 0)]) ∧ Below w.heap.size w w' ∧ (endL l i ≠ 0 → n = (endL l i : Int))
theorem endQ_of {w w' : World} {l : List UInt8} {i k : Nat} {b : Bool} {n : Int} (h : endL l i = k) (hb : (k != 0) = b) (hn : k ≠ 0 → n = (k : Int)) (hw : Below w.heap.size w w') : EndQ w l i (.returned (.tuple #[.int .i64 n, .bool b])) w' := by
  subst h hb
  exact ⟨n, rfl, hw, hn⟩
theorem endL_nl {l : List UInt8} {i : Nat} (hi : i < l.length) (h : (l.getD i 0).toNat = 10) : endL l i = if 0 < i ∧ (l.getD (i - 1) 0).toNat = 13 then 0 else 1 := by
  unfold endL; rw [if_neg (by omega), if_pos h]
theorem endL_cr {l : List UInt8} {i : Nat} (hi : i < l.length) (h : (l.getD i 0).toNat = 13) : endL l i = if i + 1 < l.length ∧ (l.getD (i + 1) 0).toNat = 10 then 2 else 1 := by
  unfold endL; rw [if_neg (by omega), if_neg (by omega), if_pos h]
theorem endL_ch {l : List UInt8} {i : Nat} (hi : i < l.length) (h : (l.getD i 0).toNat ≠ 10) (h2 : (l.getD i 0).toNat ≠ 13) : endL l i = if (decodeL (l.drop i)).1 = 133 ∨ (decodeL (l.drop i)).1 = 8232 ∨ (decodeL (l.drop i)).1 = 8233 then (decodeL (l.drop i)).2 else 0 := by
  unfold endL; rw [if_neg (by omega), if_neg h, if_neg h2]
theorem getD_some {l : List UInt8} {i : Nat} {x : UInt8} (h : l[i]? = some x) : l.getD i 0 = x := by rw [List.getD_eq_getElem?_getD, h]; rfl
set_option maxHeartbeats 4000000 in
theorem endC (w : World) (l : List UInt8) (i : Nat) (hi : i < l.length) (hm : l.length ≤ 140737488355328) (hT : Tabs w) :
    Calls Tryd.prog 94 #[.string (bstr l), .int .i64 (i : Int)] w (EndQ w l i) := by
  obtain ⟨x, hx⟩ := some_at (l := l) (k := i) hi
  have hg := getD_some hx
  have i0 : i < (bstr l).size := by rw [bstr_size]; exact hi
  have ha : (bstr l)[i]'i0 = x := bstr_at hx i0
  have hsz := bstr_size l
  by_cases h10 : x.toNat = 10
  · have hE := endL_nl hi (by rw [hg]; exact h10)
    by_cases hp : 0 < i
    · obtain ⟨y, hy⟩ := some_at (l := l) (k := i - 1) (by omega)
      have i1 : i - 1 < (bstr l).size := by omega
      have hya : (bstr l)[i - 1]'i1 = y := bstr_at hy i1
      rw [getD_some hy] at hE
      by_cases h13 : y.toNat = 13
      · rw [if_pos ⟨hp, h13⟩] at hE
        have HE := Lib.hid hE
        have t1 : ((x.toNat : Int) == 10) = true := by rw [h10]; rfl
        have t2 : ((y.toNat : Int) == 13) = true := by rw [h13]; rfl
        clear hE hx hg hy hT h10 h13
        go_enter Tryd.func94, Tryd.ntmps94
        go_wp2
        go_ret2
        exact endQ_of HE.out rfl (by simp) (Below.refl _ _)
      · rw [if_neg (fun h => h13 h.2)] at hE
        have HE := Lib.hid hE
        have t1 : ((x.toNat : Int) == 10) = true := by rw [h10]; rfl
        have t2 : ((y.toNat : Int) == 13) = false := nat_ne (b := 13) h13
        clear hE hx hg hy hT h10 h13
        go_enter Tryd.func94, Tryd.ntmps94
        go_wp2
        go_ret2
        exact endQ_of HE.out rfl (by simp) (Below.refl _ _)
    · obtain rfl : i = 0 := by omega
      rw [if_neg (fun h => hp h.1)] at hE
      have HE := Lib.hid hE
      have t1 : ((x.toNat : Int) == 10) = true := by rw [h10]; rfl
      have hl0 : ¬ l = [] := List.length_pos_iff.1 hi
      clear hE hx hg hT h10 hp
      go_enter Tryd.func94, Tryd.ntmps94
      go_wp2
      go_ret2
      exact endQ_of HE.out rfl (by simp) (Below.refl _ _)
  have t1 : ((x.toNat : Int) == 10) = false := nat_ne (b := 10) h10
  by_cases h13 : x.toNat = 13
  · have hE := endL_cr hi (by rw [hg]; exact h13)
    have t2 : ((x.toNat : Int) == 13) = true := by rw [h13]; rfl
    by_cases hp : i + 1 < l.length
    · obtain ⟨y, hy⟩ := some_at (l := l) (k := i + 1) hp
      have i1 : i + 1 < (bstr l).size := by omega
      have hya : (bstr l)[i + 1]'i1 = y := bstr_at hy i1
      rw [getD_some hy] at hE
      by_cases hy10 : y.toNat = 10
      · rw [if_pos ⟨hp, hy10⟩] at hE
        have HE := Lib.hid hE
        have t3 : ((y.toNat : Int) == 10) = true := by rw [hy10]; rfl
        clear hE hx hg hy hT h10 h13 hy10
        go_enter Tryd.func94, Tryd.ntmps94
        go_wp2
        go_ret2
        exact endQ_of HE.out rfl (by simp) (Below.refl _ _)
      · rw [if_neg (fun h => hy10 h.2)] at hE
        have HE := Lib.hid hE
        have t3 : ((y.toNat : Int) == 10) = false := nat_ne (b := 10) hy10
        clear hE hx hg hy hT h10 h13 hy10
        go_enter Tryd.func94, Tryd.ntmps94
        go_wp2
        go_ret2
        exact endQ_of HE.out rfl (by simp) (Below.refl _ _)
    · rw [if_neg (fun h => hp h.1)] at hE
      have HE := Lib.hid hE
      clear hE hx hg hT h10 h13
      go_enter Tryd.func94, Tryd.ntmps94
      go_wp2
      go_ret2
      exact endQ_of HE.out rfl (by simp) (Below.refl _ _)
  · have hE := endL_ch hi (by rw [hg]; exact h10) (by rw [hg]; exact h13)
    have t2 : ((x.toNat : Int) == 13) = false := nat_ne (b := 13) h13
    have hd : l.drop i ≠ [] := drop_ne (by omega)
    obtain ⟨D, hD⟩ : ∃ D, l.drop i = D := ⟨_, rfl⟩
    rw [hD] at hE hd
    have hF := firstC w D hd hT
    have hr : (decodeL D).1 = 133 ∨ (decodeL D).1 = 8232 ∨ (decodeL D).1 = 8233 → RightD (decodeL D) := fun h => .inl (by omega)
    have hw1 := dec_width_one (l := D)
    have htk : D.take (l.length - i) = D := List.take_of_length_le (by rw [← hD, List.length_drop]; exact Nat.le_refl _)
    obtain ⟨R, hR⟩ : ∃ R, (decodeL D).1 = R := ⟨_, rfl⟩
    obtain ⟨K, hK⟩ : ∃ K, (decodeL D).2 = K := ⟨_, rfl⟩
    by_cases hc : R = 133 ∨ R = 8232 ∨ R = 8233
    · rw [decide_eq_true (hr (by rw [hR]; exact hc))] at hF
      rw [hR, hK, if_pos hc] at hE
      rw [hR, hK] at hF
      rw [hK] at hw1
      have HF := Lib.hid hF
      have HE := Lib.hid hE
      clear hF hE hr hR hK hT hx hg hd h10 h13
      rcases hc with rfl | rfl | rfl
      all_goals
        go_enter Tryd.func94, Tryd.ntmps94
        go_wp2_with (go_at_call 99; refine (HF.out).mono ?_; rintro e w1 ⟨rfl, hb1⟩)
        go_ret2
        exact endQ_of HE.out (by rw [bne_iff_ne]; omega) (fun _ => rfl) hb1
    · rw [hR, hK, if_neg hc] at hE
      rw [hR, hK] at hF
      have HF := Lib.hid hF
      have HE := Lib.hid hE
      have s1 : ((R : Int) == 133) = false := nat_ne (b := 133) (by omega)
      have s2 : ((R : Int) == 8232) = false := nat_ne (b := 8232) (by omega)
      have s3 : ((R : Int) == 8233) = false := nat_ne (b := 8233) (by omega)
      clear hF hE hr hR hK hT hx hg hd h10 h13 hc
      go_enter Tryd.func94, Tryd.ntmps94
      go_wp2_with (go_at_call 99; refine (HF.out).mono ?_; rintro e w1 ⟨rfl, hb1⟩)
      go_ret2
      exact endQ_of HE.out rfl (by simp) hb1
set_option maxHeartbeats 8000000 in
theorem endR (w : World) (l : List UInt8) (i : Nat) (hi : i < l.length) (hm : l.length ≤ 140737488355328) :
    Calls Tryd.prog 97 #[.string (bstr l), .int .i64 (i : Int)] w (EndQ w l i) := by
  obtain ⟨D, hD⟩ : ∃ D, l.drop i = D := ⟨_, rfl⟩
  have hDl : D.length = l.length - i := by rw [← hD, List.length_drop]
  have hgD : ∀ j, D.getD j 0 = l.getD (i + j) 0 := fun j => by rw [← hD, getD_drop]
  obtain ⟨x, hx⟩ := some_at (l := D) (k := 0) (by omega)
  have hgx := getD_some hx
  have htk : D.take (l.length - i) = D := List.take_of_length_le (by omega)
  have hsz := bstr_size l
  have hsD := bstr_size D
  have i0 : 0 < (bstr D).size := by omega
  have ha : (bstr D)[0]'i0 = x := bstr_at hx i0
  have hg : l.getD i 0 = x := by rw [← hgx, hgD]; rfl
  have hi' : (i : Int) < (l.length : Int) := by omega
  by_cases h10 : x.toNat = 10
  · have hE := endL_nl hi (by rw [hg]; exact h10)
    have t1 : ((x.toNat : Int) == 10) = true := by rw [h10]; rfl
    have t2 : ((x.toNat : Int) == 13) = false := nat_ne (b := 13) (by omega)
    by_cases hp : 0 < i
    · obtain ⟨y, hy⟩ := some_at (l := l) (k := i - 1) (by omega)
      have i1 : i - 1 < (bstr l).size := by omega
      have hya : (bstr l)[i - 1]'i1 = y := bstr_at hy i1
      have hi0 : ¬ i = 0 := by omega
      have hi2 : ((i : Int) == 0) = false := nat_ne (b := 0) hi0
      rw [getD_some hy] at hE
      by_cases h13 : y.toNat = 13
      · rw [if_pos ⟨hp, h13⟩] at hE
        have HE := Lib.hid hE
        have t3 : ((y.toNat : Int) != 13) = false := by rw [h13]; rfl
        clear hE hx hg hy h10 h13 hgD hgx
        by_cases h1 : 1 < D.length
        all_goals
          go_enter Tryd.func97, Tryd.ntmps97
          go_wp2
          go_quiet (fail)
          go_wp2
          go_ret2
          exact endQ_of HE.out rfl (by simp) (((Quiet.refl w).drewN _).below _)
      · rw [if_neg (fun h => h13 h.2)] at hE
        have HE := Lib.hid hE
        have t3 : ((y.toNat : Int) != 13) = true := by rw [bne_iff_ne]; omega
        clear hE hx hg hy h10 h13 hgD hgx
        by_cases h1 : 1 < D.length
        all_goals
          go_enter Tryd.func97, Tryd.ntmps97
          go_wp2
          go_quiet (fail)
          go_wp2
          go_ret2
          exact endQ_of HE.out rfl (by simp) (((Quiet.refl w).drewN _).below _)
    · obtain rfl : i = 0 := by omega
      rw [if_neg (fun h => hp h.1)] at hE
      have HE := Lib.hid hE
      have hl0 : ¬ l = [] := List.length_pos_iff.1 hi
      obtain rfl : l = D := hD
      have htk2 : l.take l.length = l := List.take_of_length_le (Nat.le_refl _)
      clear hE hx hg h10 hp hgD hgx htk hDl hsD hi'
      by_cases h1 : 1 < l.length
      all_goals
        go_enter Tryd.func97, Tryd.ntmps97
        go_wp2
        go_quiet (fail)
        go_wp2
        go_ret2
        exact endQ_of HE.out rfl (by simp) (((Quiet.refl w).drewN _).below _)
  have t1 : ((x.toNat : Int) == 10) = false := nat_ne (b := 10) h10
  by_cases h13 : x.toNat = 13
  · have hE := endL_cr hi (by rw [hg]; exact h13)
    have t2 : ((x.toNat : Int) == 13) = true := by rw [h13]; rfl
    by_cases hp : 1 < D.length
    · obtain ⟨y, hy⟩ := some_at (l := D) (k := 1) hp
      have i1 : 1 < (bstr D).size := by omega
      have hya : (bstr D)[1]'i1 = y := bstr_at hy i1
      rw [← hgD 1, getD_some hy] at hE
      by_cases hy10 : y.toNat = 10
      · rw [if_pos ⟨by omega, hy10⟩] at hE
        have HE := Lib.hid hE
        have t3 : ((y.toNat : Int) == 10) = true := by rw [hy10]; rfl
        clear hE hx hg hy h10 h13 hgD hgx hy10
        go_enter Tryd.func97, Tryd.ntmps97
        go_wp2
        go_ret2
        exact endQ_of HE.out rfl (by simp) (Below.refl _ _)
      · rw [if_neg (fun h => hy10 h.2)] at hE
        have HE := Lib.hid hE
        have t3 : ((y.toNat : Int) == 10) = false := nat_ne (b := 10) hy10
        clear hE hx hg hy h10 h13 hgD hgx hy10
        go_enter Tryd.func97, Tryd.ntmps97
        go_wp2
        go_ret2
        exact endQ_of HE.out rfl (by simp) (Below.refl _ _)
    · rw [if_neg (fun h => hp (by omega))] at hE
      have HE := Lib.hid hE
      clear hE hx hg h10 h13 hgD hgx
      go_enter Tryd.func97, Tryd.ntmps97
      go_wp2
      go_ret2
      exact endQ_of HE.out rfl (by simp) (Below.refl _ _)
  · have hE := endL_ch hi (by rw [hg]; exact h10) (by rw [hg]; exact h13)
    have t2 : ((x.toNat : Int) == 13) = false := nat_ne (b := 13) h13
    have hS := dec_sep (D := D)
    rw [hD] at hE
    rw [hgx] at hS
    rcases hS with ⟨e1, e2, h1, hx194, hy133⟩ | ⟨e1, e2, h2, hx226, hy128, hz⟩ | ⟨hn, hn1, hn2⟩
    · rw [if_pos (.inl e1), e2] at hE
      obtain ⟨y, hy⟩ := some_at (l := D) (k := 1) h1
      have i1 : 1 < (bstr D).size := by omega
      have hya : (bstr D)[1]'i1 = y := bstr_at hy i1
      rw [getD_some hy] at hy133
      have HE := Lib.hid hE
      have t3 : ((x.toNat : Int) == 194) = true := by rw [hx194]; rfl
      have t4 : ((y.toNat : Int) == 133) = true := by rw [hy133]; rfl
      clear hE hx hg hy h10 h13 hgD hgx e1 e2 hx194 hy133
      go_enter Tryd.func97, Tryd.ntmps97
      go_wp2
      go_ret2
      exact endQ_of HE.out rfl (by simp) (Below.refl _ _)
    · rw [if_pos (.inr e1), e2] at hE
      obtain ⟨y, hy⟩ := some_at (l := D) (k := 1) (by omega)
      obtain ⟨z, hz'⟩ := some_at (l := D) (k := 2) h2
      have i1 : 1 < (bstr D).size := by omega
      have i2 : 2 < (bstr D).size := by omega
      have hya : (bstr D)[1]'i1 = y := bstr_at hy i1
      have hza : (bstr D)[2]'i2 = z := bstr_at hz' i2
      rw [getD_some hy] at hy128
      rw [getD_some hz'] at hz
      have HE := Lib.hid hE
      have h1 : 1 < D.length := by omega
      have t3 : ((x.toNat : Int) == 194) = false := by rw [hx226]; rfl
      have t5 : ((x.toNat : Int) == 226) = true := by rw [hx226]; rfl
      have t4 : ((y.toNat : Int) == 128) = true := by rw [hy128]; rfl
      rcases hz with hz | hz
      · have t6 : ((z.toNat : Int) == 168) = true := by rw [hz]; rfl
        clear hE hx hg hy h10 h13 hgD hgx e1 e2 hx226 hy128 hz hz'
        go_enter Tryd.func97, Tryd.ntmps97
        go_wp2
        go_ret2
        exact endQ_of HE.out rfl (by simp) (Below.refl _ _)
      · have t6 : ((z.toNat : Int) == 168) = false := by rw [hz]; rfl
        have t7 : ((z.toNat : Int) == 169) = true := by rw [hz]; rfl
        clear hE hx hg hy h10 h13 hgD hgx e1 e2 hx226 hy128 hz hz'
        go_enter Tryd.func97, Tryd.ntmps97
        go_wp2
        go_ret2
        exact endQ_of HE.out rfl (by simp) (Below.refl _ _)
    · rw [if_neg hn] at hE
      have HE := Lib.hid hE
      by_cases h1 : 1 < D.length
      · obtain ⟨y, hy⟩ := some_at (l := D) (k := 1) h1
        have i1 : 1 < (bstr D).size := by omega
        have hya : (bstr D)[1]'i1 = y := bstr_at hy i1
        rw [getD_some hy] at hn1 hn2
        by_cases hx194 : x.toNat = 194
        · have t3 : ((x.toNat : Int) == 194) = true := by rw [hx194]; rfl
          have t5 : ((x.toNat : Int) == 226) = false := by rw [hx194]; rfl
          have t4 : ((y.toNat : Int) == 133) = false := nat_ne (b := 133) (fun h => hn1 ⟨h1, hx194, h⟩)
          clear hE hx hg hy h10 h13 hgD hgx hx194 hn hn1 hn2
          by_cases h2 : 2 < D.length
          all_goals
            go_enter Tryd.func97, Tryd.ntmps97
            go_wp2
            go_ret2
            exact endQ_of HE.out rfl (by simp) (Below.refl _ _)
        · have t3 : ((x.toNat : Int) == 194) = false := nat_ne (b := 194) hx194
          by_cases h2 : 2 < D.length
          · obtain ⟨z, hz'⟩ := some_at (l := D) (k := 2) h2
            have i2 : 2 < (bstr D).size := by omega
            have hza : (bstr D)[2]'i2 = z := bstr_at hz' i2
            rw [getD_some hz'] at hn2
            have hcase : ((x.toNat : Int) == 226) = false ∨ (((x.toNat : Int) == 226) = true ∧ ((y.toNat : Int) == 128) = false) ∨ (((x.toNat : Int) == 226) = true ∧ ((y.toNat : Int) == 128) = true ∧ ((z.toNat : Int) == 168) = false ∧ ((z.toNat : Int) == 169) = false) := by
              by_cases a1 : x.toNat = 226
              · by_cases a2 : y.toNat = 128
                · exact .inr (.inr ⟨by rw [a1]; rfl, by rw [a2]; rfl, nat_ne (b := 168) (fun h => hn2 ⟨h2, a1, a2, .inl h⟩), nat_ne (b := 169) (fun h => hn2 ⟨h2, a1, a2, .inr h⟩)⟩)
                · exact .inr (.inl ⟨by rw [a1]; rfl, nat_ne (b := 128) a2⟩)
              · exact .inl (nat_ne (b := 226) a1)
            clear hE hx hg hy h10 h13 hgD hgx hx194 hn hn1 hn2 hz'
            rcases hcase with t5 | ⟨t5, t6⟩ | ⟨t5, t6, t7, t8⟩
            all_goals
              go_enter Tryd.func97, Tryd.ntmps97
              go_wp2
              go_ret2
              exact endQ_of HE.out rfl (by simp) (Below.refl _ _)
          · clear hE hx hg hy h10 h13 hgD hgx hx194 hn hn1 hn2
            go_enter Tryd.func97, Tryd.ntmps97
            go_wp2
            go_ret2
            exact endQ_of HE.out rfl (by simp) (Below.refl _ _)
      · have h2 : ¬ 2 < D.length := by omega
        clear hE hx hg h10 h13 hgD hgx hn hn1 hn2
        go_enter Tryd.func97, Tryd.ntmps97
        go_wp2
        go_ret2
        exact endQ_of HE.out rfl (by simp) (Below.refl _ _)
end Go.Proofs.YtnbihjocdlpplaaDoor
