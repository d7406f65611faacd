/- Texts joined, one behind the other (LineA, Iter). -/
import Derived.Test.YtmhemahkcbgaoaaGreatDoorKn18
import Derived.RangeFuncNested
import Derived.RangeFuncBound
import Derived.RangeFuncCalls
import Derived.RangeFuncLeaves
import Derived.Shelf.Abstract
import Derived.Shelf.RegionOpen
import Derived.OwnWalkIn
import Derived.TacticsInMore
import Derived.LoopNIn
import Derived.LoopIn
/- Where a line ends, by both. -/
namespace Go.Proofs.YtmhemahkcbgaoaaGreatDoor
set_option linter.unusedVariables false
set_option linter.unusedSimpArgs false
open Go.RowKit
open Go.Lib hiding intOf
def EndQ (w : World) (l : List UInt8) (i : Nat) (e : Ending) (w' : World) : Prop := ∃ n : Int, e = .returned (.tuple #[.int .i64 n, .bool (endL l i != 0)]) ∧ Below w.heap.size w w' ∧ (endL l i ≠ 0 → n = (endL l i : Int))
theorem endQ_of {w w' : World} {l : List UInt8} {i k : Nat} {b : Bool} {n : Int} (h : endL l i = k) (hb : (k != 0) = b) (hn : k ≠ 0 → n = (k : Int)) (hw : Below w.heap.size w w') : EndQ w l i (.returned (.tuple #[.int .i64 n, .bool b])) w' := by
  subst h hb
  exact ⟨n, rfl, hw, hn⟩
theorem endL_nl {l : List UInt8} {i : Nat} (hi : i < l.length) (h : (l.getD i 0).toNat = 10) : endL l i = if 0 < i ∧ (l.getD (i - 1) 0).toNat = 13 then 0 else 1 := by
  unfold endL; rw [if_neg (by omega), if_pos h]
theorem endL_cr {l : List UInt8} {i : Nat} (hi : i < l.length) (h : (l.getD i 0).toNat = 13) : endL l i = if i + 1 < l.length ∧ (l.getD (i + 1) 0).toNat = 10 then 2 else 1 := by
  unfold endL; rw [if_neg (by omega), if_neg (by omega), if_pos h]
theorem endL_ch {l : List UInt8} {i : Nat} (hi : i < l.length) (h : (l.getD i 0).toNat ≠ 10) (h2 : (l.getD i 0).toNat ≠ 13) : endL l i = if (decodeL (l.drop i)).1 = 133 ∨ (decodeL (l.drop i)).1 = 8232 ∨ (decodeL (l.drop i)).1 = 8233 then (decodeL (l.drop i)).2 else 0 := by
  unfold endL; rw [if_neg (by omega), if_neg h, if_neg h2]
theorem getD_some {l : List UInt8} {i : Nat} {x : UInt8} (h : l[i]? = some x) : l.getD i 0 = x := by rw [List.getD_eq_getElem?_getD, h]; rfl
set_option maxHeartbeats 4000000 in
theorem endC (w : World) (l : List UInt8) (i : Nat) (hi : i < l.length) (hm : l.length ≤ 140737488355328) (hT : Tabs w) :
    Calls Tryz.prog 83 #[.string (bstr l), .int .i64 (i : Int)] w (EndQ w l i) := by
  obtain ⟨x, hx⟩ := some_at (l := l) (k := i) hi
  have hg := getD_some hx
  have i0 : i < (bstr l).size := by rw [bstr_size]; exact hi
  have ha : (bstr l)[i]'i0 = x := bstr_at hx i0
  have hsz := bstr_size l
  by_cases h10 : x.toNat = 10
  · have hE := endL_nl hi (by rw [hg]; exact h10)
    by_cases hp : 0 < i
    · obtain ⟨y, hy⟩ := some_at (l := l) (k := i - 1) (by omega)
      have i1 : i - 1 < (bstr l).size := by omega
      have hya : (bstr l)[i - 1]'i1 = y := bstr_at hy i1
      rw [getD_some hy] at hE
      by_cases h13 : y.toNat = 13
      · rw [if_pos ⟨hp, h13⟩] at hE
        have HE := Lib.hid hE
        have t1 : ((x.toNat : Int) == 10) = true := by rw [h10]; rfl
        have t2 : ((y.toNat : Int) == 13) = true := by rw [h13]; rfl
        clear hE hx hg hy hT h10 h13
        go_enter Tryz.func83, Tryz.ntmps83
        go_wp2
        go_ret2
        exact endQ_of HE.out rfl (by simp) (Below.refl _ _)
      · rw [if_neg (fun h => h13 h.2)] at hE
        have HE := Lib.hid hE
        have t1 : ((x.toNat : Int) == 10) = true := by rw [h10]; rfl
        have t2 : ((y.toNat : Int) == 13) = false := nat_ne (b := 13) h13
        clear hE hx hg hy hT h10 h13
        go_enter Tryz.func83, Tryz.ntmps83
        go_wp2
        go_ret2
        exact endQ_of HE.out rfl (by simp) (Below.refl _ _)
    · obtain rfl : i = 0 := by omega
      rw [if_neg (fun h => hp h.1)] at hE
      have HE := Lib.hid hE
      have t1 : ((x.toNat : Int) == 10) = true := by rw [h10]; rfl
      have hl0 : ¬ l = [] := List.length_pos_iff.1 hi
      clear hE hx hg hT h10 hp
      go_enter Tryz.func83, Tryz.ntmps83
      go_wp2
      go_ret2
      exact endQ_of HE.out rfl (by simp) (Below.refl _ _)
  have t1 : ((x.toNat : Int) == 10) = false := nat_ne (b := 10) h10
  by_cases h13 : x.toNat = 13
  · have hE := endL_cr hi (by rw [hg]; exact h13)
    have t2 : ((x.toNat : Int) == 13) = true := by rw [h13]; rfl
    by_cases hp : i + 1 < l.length
    · obtain ⟨y, hy⟩ := some_at (l := l) (k := i + 1) hp
      have i1 : i + 1 < (bstr l).size := by omega
      have hya : (bstr l)[i + 1]'i1 = y := bstr_at hy i1
      rw [getD_some hy] at hE
      by_cases hy10 : y.toNat = 10
      · rw [if_pos ⟨hp, hy10⟩] at hE
        have HE := Lib.hid hE
        have t3 : ((y.toNat : Int) == 10) = true := by rw [hy10]; rfl
        clear hE hx hg hy hT h10 h13 hy10
        go_enter Tryz.func83, Tryz.ntmps83
        go_wp2
        go_ret2
        exact endQ_of HE.out rfl (by simp) (Below.refl _ _)
      · rw [if_neg (fun h => hy10 h.2)] at hE
        have HE := Lib.hid hE
        have t3 : ((y.toNat : Int) == 10) = false := nat_ne (b := 10) hy10
        clear hE hx hg hy hT h10 h13 hy10
        go_enter Tryz.func83, Tryz.ntmps83
        go_wp2
        go_ret2
        exact endQ_of HE.out rfl (by simp) (Below.refl _ _)
    · rw [if_neg (fun h => hp h.1)] at hE
      have HE := Lib.hid hE
      clear hE hx hg hT h10 h13
      go_enter Tryz.func83, Tryz.ntmps83
      go_wp2
      go_ret2
      exact endQ_of HE.out rfl (by simp) (Below.refl _ _)
  · have hE := endL_ch hi (by rw [hg]; exact h10) (by rw [hg]; exact h13)
    have t2 : ((x.toNat : Int) == 13) = false := nat_ne (b := 13) h13
    have hd : l.drop i ≠ [] := drop_ne (by omega)
    obtain ⟨D, hD⟩ : ∃ D, l.drop i = D := ⟨_, rfl⟩
    rw [hD] at hE hd
    have hF := firstC w D hd hT
    have hr : (decodeL D).1 = 133 ∨ (decodeL D).1 = 8232 ∨ (decodeL D).1 = 8233 → RightD (decodeL D) := fun h => .inl (by omega)
    have hw1 := dec_width_one (l := D)
    have htk : D.take (l.length - i) = D := List.take_of_length_le (by rw [← hD, List.length_drop]; exact Nat.le_refl _)
    obtain ⟨R, hR⟩ : ∃ R, (decodeL D).1 = R := ⟨_, rfl⟩
    obtain ⟨K, hK⟩ : ∃ K, (decodeL D).2 = K := ⟨_, rfl⟩
    by_cases hc : R = 133 ∨ R = 8232 ∨ R = 8233
    · rw [decide_eq_true (hr (by rw [hR]; exact hc))] at hF
      rw [hR, hK, if_pos hc] at hE
      rw [hR, hK] at hF
      rw [hK] at hw1
      have HF := Lib.hid hF
      have HE := Lib.hid hE
      clear hF hE hr hR hK hT hx hg hd h10 h13
      rcases hc with rfl | rfl | rfl
      all_goals
        go_enter Tryz.func83, Tryz.ntmps83
        go_wp2_with (go_at_call 37; refine (HF.out).mono ?_; rintro e w1 ⟨rfl, hb1⟩)
        go_ret2
        exact endQ_of HE.out (by rw [bne_iff_ne]; omega) (fun _ => rfl) hb1
    · rw [hR, hK, if_neg hc] at hE
      rw [hR, hK] at hF
      have HF := Lib.hid hF
      have HE := Lib.hid hE
      have s1 : ((R : Int) == 133) = false := nat_ne (b := 133) (by omega)
      have s2 : ((R : Int) == 8232) = false := nat_ne (b := 8232) (by omega)
      have s3 : ((R : Int) == 8233) = false := nat_ne (b := 8233) (by omega)
      clear hF hE hr hR hK hT hx hg hd h10 h13 hc
      go_enter Tryz.func83, Tryz.ntmps83
      go_wp2_with (go_at_call 37; refine (HF.out).mono ?_; rintro e w1 ⟨rfl, hb1⟩)
      go_ret2
      exact endQ_of HE.out rfl (by simp) hb1
set_option maxHeartbeats 8000000 in
theorem endR (w : World) (l : List UInt8) (i : Nat) (hi : i < l.length) (hm : l.length ≤ 140737488355328) :
    Calls Tryz.prog 62 #[.string (bstr l), .int .i64 (i : Int)] w (EndQ w l i) := by
  obtain ⟨D, hD⟩ : ∃ D, l.drop i = D := ⟨_, rfl⟩
  have hDl : D.length = l.length - i := by rw [← hD, List.length_drop]
  have hgD : ∀ j, D.getD j 0 = l.getD (i + j) 0 := fun j => by rw [← hD, getD_drop]
  obtain ⟨x, hx⟩ := some_at (l := D) (k := 0) (by omega)
  have hgx := getD_some hx
  have htk : D.take (l.length - i) = D := List.take_of_length_le (by omega)
  have hsz := bstr_size l
  have hsD := bstr_size D
  have i0 : 0 < (bstr D).size := by omega
  have ha : (bstr D)[0]'i0 = x := bstr_at hx i0
  have hg : l.getD i 0 = x := by rw [← hgx, hgD]; rfl
  have hi' : (i : Int) < (l.length : Int) := by omega
  by_cases h10 : x.toNat = 10
  · have hE := endL_nl hi (by rw [hg]; exact h10)
    have t1 : ((x.toNat : Int) == 10) = true := by rw [h10]; rfl
    have t2 : ((x.toNat : Int) == 13) = false := nat_ne (b := 13) (by omega)
    by_cases hp : 0 < i
    · obtain ⟨y, hy⟩ := some_at (l := l) (k := i - 1) (by omega)
      have i1 : i - 1 < (bstr l).size := by omega
      have hya : (bstr l)[i - 1]'i1 = y := bstr_at hy i1
      have hi0 : ¬ i = 0 := by omega
      have hi2 : ((i : Int) == 0) = false := nat_ne (b := 0) hi0
      rw [getD_some hy] at hE
      by_cases h13 : y.toNat = 13
      · rw [if_pos ⟨hp, h13⟩] at hE
        have HE := Lib.hid hE
        have t3 : ((y.toNat : Int) != 13) = false := by rw [h13]; rfl
        clear hE hx hg hy h10 h13 hgD hgx
        by_cases h1 : 1 < D.length
        all_goals
          go_enter Tryz.func62, Tryz.ntmps62
          go_wp2
          go_quiet (fail)
          go_wp2
          go_ret2
          exact endQ_of HE.out rfl (by simp) (((Quiet.refl w).drewN _).below _)
      · rw [if_neg (fun h => h13 h.2)] at hE
        have HE := Lib.hid hE
        have t3 : ((y.toNat : Int) != 13) = true := by rw [bne_iff_ne]; omega
        clear hE hx hg hy h10 h13 hgD hgx
        by_cases h1 : 1 < D.length
        all_goals
          go_enter Tryz.func62, Tryz.ntmps62
          go_wp2
          go_quiet (fail)
          go_wp2
          go_ret2
          exact endQ_of HE.out rfl (by simp) (((Quiet.refl w).drewN _).below _)
    · obtain rfl : i = 0 := by omega
      rw [if_neg (fun h => hp h.1)] at hE
      have HE := Lib.hid hE
      have hl0 : ¬ l = [] := List.length_pos_iff.1 hi
      obtain rfl : l = D := hD
      have htk2 : l.take l.length = l := List.take_of_length_le (Nat.le_refl _)
      clear hE hx hg h10 hp hgD hgx htk hDl hsD hi'
      by_cases h1 : 1 < l.length
      all_goals
        go_enter Tryz.func62, Tryz.ntmps62
        go_wp2
        go_quiet (fail)
        go_wp2
        go_ret2
        exact endQ_of HE.out rfl (by simp) (((Quiet.refl w).drewN _).below _)
  have t1 : ((x.toNat : Int) == 10) = false := nat_ne (b := 10) h10
  by_cases h13 : x.toNat = 13
  · have hE := endL_cr hi (by rw [hg]; exact h13)
    have t2 : ((x.toNat : Int) == 13) = true := by rw [h13]; rfl
    by_cases hp : 1 < D.length
    · obtain ⟨y, hy⟩ := some_at (l := D) (k := 1) hp
      have i1 : 1 < (bstr D).size := by omega
      have hya : (bstr D)[1]'i1 = y := bstr_at hy i1
      rw [← hgD 1, getD_some hy] at hE
      by_cases hy10 : y.toNat = 10
      · rw [if_pos ⟨by omega, hy10⟩] at hE
        have HE := Lib.hid hE
        have t3 : ((y.toNat : Int) == 10) = true := by rw [hy10]; rfl
        clear hE hx hg hy h10 h13 hgD hgx hy10
        go_enter Tryz.func62, Tryz.ntmps62
        go_wp2
        go_ret2
        exact endQ_of HE.out rfl (by simp) (Below.refl _ _)
      · rw [if_neg (fun h => hy10 h.2)] at hE
        have HE := Lib.hid hE
        have t3 : ((y.toNat : Int) == 10) = false := nat_ne (b := 10) hy10
        clear hE hx hg hy h10 h13 hgD hgx hy10
        go_enter Tryz.func62, Tryz.ntmps62
        go_wp2
        go_ret2
        exact endQ_of HE.out rfl (by simp) (Below.refl _ _)
    · rw [if_neg (fun h => hp (by omega))] at hE
      have HE := Lib.hid hE
      clear hE hx hg h10 h13 hgD hgx
      go_enter Tryz.func62, Tryz.ntmps62
      go_wp2
      go_ret2
      exact endQ_of HE.out rfl (by simp) (Below.refl _ _)
  · have hE := endL_ch hi (by rw [hg]; exact h10) (by rw [hg]; exact h13)
    have t2 : ((x.toNat : Int) == 13) = false := nat_ne (b := 13) h13
    have hS := dec_sep (D := D)
    rw [hD] at hE
    rw [hgx] at hS
    rcases hS with ⟨e1, e2, h1, hx194, hy133⟩ | ⟨e1, e2, h2, hx226, hy128, hz⟩ | ⟨hn, hn1, hn2⟩
    · rw [if_pos (.inl e1), e2] at hE
      obtain ⟨y, hy⟩ := some_at (l := D) (k := 1) h1
      have i1 : 1 < (bstr D).size := by omega
      have hya : (bstr D)[1]'i1 = y := bstr_at hy i1
      rw [getD_some hy] at hy133
      have HE := Lib.hid hE
      have t3 : ((x.toNat : Int) == 194) = true := by rw [hx194]; rfl
      have t4 : ((y.toNat : Int) == 133) = true := by rw [hy133]; rfl
      clear hE hx hg hy h10 h13 hgD hgx e1 e2 hx194 hy133
      go_enter Tryz.func62, Tryz.ntmps62
      go_wp2
      go_ret2
      exact endQ_of HE.out rfl (by simp) (Below.refl _ _)
    · rw [if_pos (.inr e1), e2] at hE
      obtain ⟨y, hy⟩ := some_at (l := D) (k := 1) (by omega)
      obtain ⟨z, hz'⟩ := some_at (l := D) (k := 2) h2
      have i1 : 1 < (bstr D).size := by omega
      have i2 : 2 < (bstr D).size := by omega
      have hya : (bstr D)[1]'i1 = y := bstr_at hy i1
      have hza : (bstr D)[2]'i2 = z := bstr_at hz' i2
      rw [getD_some hy] at hy128
      rw [getD_some hz'] at hz
      have HE := Lib.hid hE
      have h1 : 1 < D.length := by omega
      have t3 : ((x.toNat : Int) == 194) = false := by rw [hx226]; rfl
      have t5 : ((x.toNat : Int) == 226) = true := by rw [hx226]; rfl
      have t4 : ((y.toNat : Int) == 128) = true := by rw [hy128]; rfl
      rcases hz with hz | hz
      · have t6 : ((z.toNat : Int) == 168) = true := by rw [hz]; rfl
        clear hE hx hg hy h10 h13 hgD hgx e1 e2 hx226 hy128 hz hz'
        go_enter Tryz.func62, Tryz.ntmps62
        go_wp2
        go_ret2
        exact endQ_of HE.out rfl (by simp) (Below.refl _ _)
      · have t6 : ((z.toNat : Int) == 168) = false := by rw [hz]; rfl
        have t7 : ((z.toNat : Int) == 169) = true := by rw [hz]; rfl
        clear hE hx hg hy h10 h13 hgD hgx e1 e2 hx226 hy128 hz hz'
        go_enter Tryz.func62, Tryz.ntmps62
        go_wp2
        go_ret2
        exact endQ_of HE.out rfl (by simp) (Below.refl _ _)
    · rw [if_neg hn] at hE
      have HE := Lib.hid hE
      by_cases h1 : 1 < D.length
      · obtain ⟨y, hy⟩ := some_at (l := D) (k := 1) h1
        have i1 : 1 < (bstr D).size := by omega
        have hya : (bstr D)[1]'i1 = y := bstr_at hy i1
        rw [getD_some hy] at hn1 hn2
        by_cases hx194 : x.toNat = 194
        · have t3 : ((x.toNat : Int) == 194) = true := by rw [hx194]; rfl
          have t5 : ((x.toNat : Int) == 226) = false := by rw [hx194]; rfl
          have t4 : ((y.toNat : Int) == 133) = false := nat_ne (b := 133) (fun h => hn1 ⟨h1, hx194, h⟩)
          clear hE hx hg hy h10 h13 hgD hgx hx194 hn hn1 hn2
          by_cases h2 : 2 < D.length
          all_goals
            go_enter Tryz.func62, Tryz.ntmps62
            go_wp2
            go_ret2
            exact endQ_of HE.out rfl (by simp) (Below.refl _ _)
        · have t3 : ((x.toNat : Int) == 194) = false := nat_ne (b := 194) hx194
          by_cases h2 : 2 < D.length
          · obtain ⟨z, hz'⟩ := some_at (l := D) (k := 2) h2
            have i2 : 2 < (bstr D).size := by omega
            have hza : (bstr D)[2]'i2 = z := bstr_at hz' i2
            rw [getD_some hz'] at hn2
            have hcase : ((x.toNat : Int) == 226) = false ∨ (((x.toNat : Int) == 226) = true ∧ ((y.toNat : Int) == 128) = false) ∨ (((x.toNat : Int) == 226) = true ∧ ((y.toNat : Int) == 128) = true ∧ ((z.toNat : Int) == 168) = false ∧ ((z.toNat : Int) == 169) = false) := by
              by_cases a1 : x.toNat = 226
              · by_cases a2 : y.toNat = 128
                · exact .inr (.inr ⟨by rw [a1]; rfl, by rw [a2]; rfl, nat_ne (b := 168) (fun h => hn2 ⟨h2, a1, a2, .inl h⟩), nat_ne (b := 169) (fun h => hn2 ⟨h2, a1, a2, .inr h⟩)⟩)
                · exact .inr (.inl ⟨by rw [a1]; rfl, nat_ne (b := 128) a2⟩)
              · exact .inl (nat_ne (b := 226) a1)
            clear hE hx hg hy h10 h13 hgD hgx hx194 hn hn1 hn2 hz'
            rcases hcase with t5 | ⟨t5, t6⟩ | ⟨t5, t6, t7, t8⟩
            all_goals
              go_enter Tryz.func62, Tryz.ntmps62
              go_wp2
              go_ret2
              exact endQ_of HE.out rfl (by simp) (Below.refl _ _)
          · clear hE hx hg hy h10 h13 hgD hgx hx194 hn hn1 hn2
            go_enter Tryz.func62, Tryz.ntmps62
            go_wp2
            go_ret2
            exact endQ_of HE.out rfl (by simp) (Below.refl _ _)
      · have h2 : ¬ 2 < D.length := by omega
        clear hE hx hg h10 h13 hgD hgx hn hn1 hn2
        go_enter Tryz.func62, Tryz.ntmps62
        go_wp2
        go_ret2
        exact endQ_of HE.out rfl (by simp) (Below.refl _ _)
end Go.Proofs.YtmhemahkcbgaoaaGreatDoor
/- A range over a function whose iterator keeps state of its own in cells: what the iterator owes, what the caller owes. -/
namespace Go.Proofs.YtmhemahkcbgaoaaGreatDoor
open Go.RowKit Go.Shelf

/-- the rows that an iterator may turn: its own, from lo up to hi, and from lo on whatever is no cells -/
def MayTurn (lo hi : Nat) (A : World) (row : Option Nat) : Prop := ∀ r, row = some r → lo ≤ r ∧ (r < hi ∨ ∃ o : Obj, A.heap[r]? = some o ∧ o.isCells = false)
def AbidesC {β : Type} (lo hi : Nat) (J : β → World → Prop) : Prop := ∀ s A A' row, J s A → A.grownBy A' row → MayTurn lo hi A row → J s A'
/-- what a round that goes on keeps for its iterator: the rows of K, the iterator's own rows, and from lo on whatever is no cells -/
structure KeepsC (K : Nat → Prop) (lo hi : Nat) (W W' : World) : Prop where
  size : W.heap.size ≤ W'.heap.size
  rows : ∀ r, K r ∨ (lo ≤ r ∧ r < hi) → W'.heap[r]? = W.heap[r]?
  others : ∀ r (o : Obj), lo ≤ r → W.heap[r]? = some o → o.isCells = false → W'.heap[r]? = some o

theorem KeepsC.refl (K : Nat → Prop) (lo hi : Nat) (W : World) : KeepsC K lo hi W W := ⟨Nat.le_refl _, fun _ _ => rfl, fun _ _ _ h _ => h⟩
theorem KeepsC.trans {K : Nat → Prop} {lo hi : Nat} {A B C : World} (h : KeepsC K lo hi A B) (k : KeepsC K lo hi B C) : KeepsC K lo hi A C :=
  ⟨Nat.le_trans h.size k.size, fun r hr => (k.rows r hr).trans (h.rows r hr), fun r o hr ho hc => k.others r o hr (h.others r o hr ho hc) hc⟩
theorem KeepsC.less {K : Nat → Prop} {lo lo' hi : Nat} {A B : World} (h : KeepsC K lo hi A B) (hl : lo ≤ lo') : KeepsC K lo' hi A B :=
  ⟨h.size, fun r hr => h.rows r (hr.imp id (fun h => ⟨by omega, h.2⟩)), fun r o hr ho hc => h.others r o (by omega) ho hc⟩
theorem KeepsC.putObj {K : Nat → Prop} {lo hi : Nat} (W : World) {l : Nat} (o : Obj) (h0 : ¬ K l) (hl : l < lo) : KeepsC K lo hi W (W.putObj l o) :=
  ⟨by simp, fun r hr => World.putObj_heap_other (fun e => by subst e; exact hr.elim h0 (fun h => by omega)), fun r o' hr ho _ => (World.putObj_heap_other (by omega)).trans ho⟩
/-- a step that turns one row of cells of the caller's, or none -/
theorem KeepsC.grown {K : Nat → Prop} {lo hi : Nat} {W W' : World} {row : Option Nat} (hg : W.grownBy W' row) (hn : ∀ r, K r → r < W.heap.size) (hh : hi ≤ W.heap.size) (hr : ∀ r, row = some r → ¬ K r ∧ (r < lo ∨ (hi ≤ r ∧ ∀ o : Obj, W.heap[r]? = some o → o.isCells = true))) : KeepsC K lo hi W W' := by
  refine ⟨hg.size, fun r h => ?_, fun r o hl ho hc => ?_⟩
  · refine hg.block r (h.elim (hn r) (fun h => by omega)) (fun e => ?_)
    obtain ⟨h1, h2⟩ := hr r e.symm
    rcases h with h | h
    · exact h1 h
    · omega
  · refine (hg.block r (Array.getElem?_eq_some_iff.1 ho).1 (fun e => ?_)).trans ho
    obtain ⟨_, h | ⟨_, h⟩⟩ := hr r e.symm
    · omega
    · rw [h o ho] at hc; cases hc

/-- WHAT AN ITERATOR OWES: S: all that comes; Sp: a part that has come when a round has said no more. -/
def SeqC {α : Type} (F : Fence) (n : Nat) (P : Program) (g : Nat) (lb : Array Value) (encs : α → Array Value) (K : Nat → Prop) (w0 : World) (S Sp : List α → Prop) : Prop :=
  ∀ (l : Nat) (J Jx : Nat → List α → World → Prop) (W : World), (∀ r, K r → r < w0.heap.size ∧ W.heap[r]? = w0.heap[r]?) → w0.heap.size ≤ W.heap.size →
    (∀ hi, AbidesC W.heap.size hi (J hi)) → (∀ hi, AbidesC W.heap.size hi (Jx hi)) →
    (∀ hi pre x W1, J hi pre W1 → Sp (pre ++ [x]) → W.heap.size ≤ hi → hi ≤ W1.heap.size → YieldAt F (n - 1) P l (encs x) W1 fun e W' =>
      (e = .returned (.bool true) ∧ J hi (pre ++ [x]) W' ∧ KeepsC K W.heap.size hi W1 W') ∨ (e = .returned (.bool false) ∧ Jx hi (pre ++ [x]) W' ∧ KeepsC K W.heap.size hi W1 W')) →
    (∀ hi, W.heap.size ≤ hi → J hi [] W) →
    CallsIn F n P g (#[.func (.yield l) #[] #[]] ++ lb) W fun e W' => (∃ v, e = .returned v) ∧ ∃ hi, W.heap.size ≤ hi ∧ ((∃ xs, S xs ∧ J hi xs W') ∨ (∃ pre, Sp pre ∧ Jx hi pre W'))

/-- how the body of a round may be left -/
def postC {α : Type} (K : Nat → Prop) (lo hi : Nat) (I : Nat → List α → World → Prop) (Ix : Code → Nat → List α → World → Prop) (xs : List α) (W : World) : Exit → Act → World → Prop
  | .normal, _, W' => KeepsC K lo hi W W' ∧ I hi xs W'
  | .ret, _, W' => KeepsC K lo hi W W' ∧ Ix .ret hi xs W'
  | .exit id, _, W' => KeepsC K lo hi W W' ∧ Ix (.exit id) hi xs W'
  | .goto t, _, W' => KeepsC K lo hi W W' ∧ Ix (.goto t) hi xs W'
  | .panic _, _, _ => False
  | .outgrown, _, _ => False

theorem KeepsC.sub {K K' : Nat → Prop} {lo lo' hi : Nat} {A B : World} (h : KeepsC K lo hi A B) (hl : lo ≤ lo') (hK : ∀ r, K' r → lo ≤ r ∧ r < hi) : KeepsC K' lo' hi A B :=
  ⟨h.size, fun r hr => h.rows r (.inr (hr.elim (hK r) (fun h => ⟨by omega, h.2⟩))), fun r o hr ho hc => h.others r o (by omega) ho hc⟩
theorem grown_below {w w' : World} (h : Below w.heap.size w w') : w.grownBy w' none := ⟨h.os, h.tape, h.output, h.size, fun k hk _ => h.block k hk⟩
theorem RoundIn_any {F : Fence} (hd : F.depth = none) {m m' : Nat} {P : Program} {l l' : Nat} {f : FuncId} {tmps : Array Value} {assign body : Code} {w : World} {R : Ending → World → Prop} (h : RoundIn F m P l f tmps assign body w R) : RoundIn (F.inRound l') m' P l f tmps assign body w R :=
  ⟨h.1, fun c cs _ => h.2 c cs (fun d e => by rw [hd] at e; cases e)⟩
theorem grown_other {W W' : World} {row : Option Nat} {k : Nat} {o : Obj} (hg : W.grownBy W' row) (h : W.heap[k]? = some o) (hk : ∀ r, row = some r → r ≠ k) : W'.heap[k]? = some o :=
  (hg.block k (Array.getElem?_eq_some_iff.1 h).1 (fun e => hk k e.symm rfl)).trans h

variable {F : Fence} {n : Nat} {P : Program}
/-- THE CALLER's LAW. -/
theorem wpIn_rangeFunc_C {α : Type} {g : Operand} {ps : Array Tmp} {assign body : Code} {Q : Exit → Act → World → Prop} {a : Act} {w : World}
    (hro : F.round = none) (h1 : 1 ≤ n) {gf : Nat} {lb : Array Value} (hg : a.eval g = .func (.func gf) #[] lb) (hFg : F.fn gf) (eg : ∀ args w, (callFunc gf args).run P w = .ok (.enter gf args) w)
    {encs : α → Array Value} {K : Nat → Prop} {w0 : World} {S Sp : List α → Prop} (hseq : SeqC F (n - 1) P gf lb encs K w0 S Sp)
    (hb0 : ∀ r, K r → r < w0.heap.size ∧ w.heap[r]? = w0.heap[r]?) (hn0 : w0.heap.size ≤ w.heap.size) (hps : ∀ x, (encs x).size = ps.size)
    (I : Nat → List α → World → Prop) (Ix : Code → Nat → List α → World → Prop)
    (hI : ∀ hi, AbidesC w.heap.size hi (I hi)) (hIx : ∀ c hi, AbidesC w.heap.size hi (Ix c hi))
    (h0 : ∀ hi, w.heap.size ≤ hi → I hi [] w) (a₁ : α → Act)
    (hassign : ∀ (l : Nat) (x : α) (W : World) (Kc : Act → World → Prop), Kc (a₁ x) W →
      assign.wpIn (F.inRound l) (n - 1 - 1) P (Exit.then Kc (fun _ _ _ => False)) { tmps := (ps.zip (encs x)).foldl (fun t (p, v) => t.setIfInBounds p v) a.tmps, defers := [] } W)
    (hbody : ∀ (l hi : Nat) (pre : List α) (x : α) (W : World), w.heap.size + 2 ≤ hi → hi ≤ W.heap.size → Sp (pre ++ [x]) → I hi pre W → body.wpIn (F.inRound l) (n - 1 - 1) P (postC K w.heap.size hi I Ix (pre ++ [x]) W) (a₁ x) W)
    (hdone : ∀ (D hi : Nat) (xs : List α) (W : World), w.heap.size ≤ D → D < hi → S xs → I hi xs W → W.heap[D]? = some (.deferred (some [])) → Q .normal { a with defers := { target := .collected D, args := #[] } :: a.defers } W)
    (hstop : ∀ (D hi : Nat) (c : Code) (pre : List α) (W : World), w.heap.size ≤ D → D < hi → Sp pre → Ix c hi pre W → W.heap[D]? = some (.deferred (some [])) → c.wpIn F n P Q { a with defers := { target := .collected D, args := #[] } :: a.defers } W) :
    (Code.rangeFunc g ps assign body).wpIn F n P Q a w := by
  refine wpIn_rangeFunc ?_
  intro fn hfn
  rw [hro]
  obtain ⟨L, hL⟩ : ∃ L : LoopState → Option Code → Loop, L = fun st pe => { state := st, pending := pe, fn, tmps := a.tmps, params := ps, assign, body, defers := w.heap.size } := ⟨_, rfl⟩
  obtain ⟨s, hs⟩ : ∃ s, s = w.heap.size := ⟨_, rfl⟩
  obtain ⟨W1, hW1⟩ : ∃ W1, W1 = (w.alloc (.deferred (some []))).alloc (.loop (L .ready none)) := ⟨_, rfl⟩
  have z1 : W1.heap.size = s + 2 := by rw [hW1, hs]; simp
  have r1 : W1.heap[s + 1]? = some (.loop (L .ready none)) := by
    rw [hW1, hs]
    have := World.alloc_heap_new (w.alloc (.deferred (some []))) (.loop (L .ready none))
    rwa [World.size_alloc] at this
  have d1 : W1.heap[s]? = some (.deferred (some [])) := by
    rw [hW1, hs]; exact (Below.heap_alloc _ _ _ (by simp)).trans (World.alloc_heap_new w _)
  have turn0 : ∀ (hi : Nat) (A : World), MayTurn w.heap.size hi A none := fun _ _ r e => by cases e
  have i1 : ∀ hi, W1.heap.size ≤ hi → I hi [] W1 := by
    intro hi hh
    rw [hW1]
    exact hI hi _ _ _ none (hI hi _ _ _ none (h0 hi (by omega)) (World.grownBy_alloc w _ none) (turn0 _ _)) (World.grownBy_alloc _ _ none) (turn0 _ _)
  have hKw : ∀ r, K r → r < s := fun r hr => by have := (hb0 r hr).1; omega
  have b1 : ∀ r, K r → r < w0.heap.size ∧ W1.heap[r]? = w0.heap[r]? := fun r hr => by
    refine ⟨(hb0 r hr).1, ?_⟩
    rw [hW1, ← (hb0 r hr).2]
    have := hKw r hr
    exact (Below.heap_alloc _ _ _ (by simp; omega)).trans (Below.heap_alloc _ _ _ (by omega))
  have nK : ¬ K (s + 1) := fun h => by have := hKw _ h; omega
  have step : ∀ {β : Type} {J : β → World → Prop} {hi : Nat}, AbidesC w.heap.size hi J → ∀ s' (A A' : World) (row : Option Nat), J s' A → A.grownBy A' row → MayTurn W1.heap.size hi A row → J s' A' :=
    fun hJ s' A A' row hj hgr hm => hJ s' A A' row hj hgr (fun r e => ⟨by have := (hm r e).1; omega, (hm r e).2⟩)
  have past : ∀ {hi : Nat} {A : World} {row : Option Nat}, MayTurn W1.heap.size hi A row → ∀ k, k < s + 2 → ∀ r, row = some r → r ≠ k := fun hm k hk r e => by have := (hm r e).1; omega
  refine ⟨s + 1, [{ target := .collected s, args := #[] }], W1, { target := .fn (.func gf) lb, args := #[.func (.yield (s + 1)) #[] #[]] }, W1, gf,
    #[.func (.yield (s + 1)) #[] #[]] ++ lb, W1, ?_, ?_, ?_, ?_, fun _ => h1, ?_⟩
  · rw [hW1, hL, hs]; exact run_enterLoop_outer _ _ _ _ _
  · simp only [resolve, hg]
    simp [go_sem]
  · intro f' hf'; simp [Target.leads] at hf'; subst hf'; exact hFg
  · simp [invoke, go_sem, eg]
  · refine (hseq (s + 1)
      (fun hi pre W => I hi pre W ∧ W.heap[s + 1]? = some (.loop (L .ready none)) ∧ W.heap[s]? = some (.deferred (some [])))
      (fun hi pre W => ∃ c, Ix c hi pre W ∧ W.heap[s + 1]? = some (.loop (L .done (some c))) ∧ W.heap[s]? = some (.deferred (some [])))
      W1 b1 (by omega)
      (fun hi p A A' row hj hgr hm => ⟨step (hI hi) p A A' row hj.1 hgr hm, grown_other hgr hj.2.1 (past hm _ (by omega)), grown_other hgr hj.2.2 (past hm _ (by omega))⟩)
      (fun hi p A A' row hj hgr hm => by
        obtain ⟨c, h1, h2, h3⟩ := hj
        exact ⟨c, step (hIx c hi) p A A' row h1 hgr hm, grown_other hgr h2 (past hm _ (by omega)), grown_other hgr h3 (past hm _ (by omega))⟩)
      ?_ (fun hi hh => ⟨i1 hi hh, r1, d1⟩)).mono ?_
    · rintro hi pre x W ⟨hi0, hl, hk⟩ hsp hlo hhi
      have hlt : s + 1 < W.heap.size := (Array.getElem?_eq_some_iff.1 hl).1
      have hy := run_yield (P := P) (args := encs x) hl (by rw [hL]; exact hps x)
      rw [hL] at hy
      refine ⟨fn, _, assign, body, hy, roundIn_of_wpIn hfn (hassign _ x W _ ⟨_, run_beginRound hl (by rw [hL]), ?_⟩)⟩
      obtain ⟨Wb, hWb⟩ : ∃ Wb, Wb = W.putObj (s + 1) (.loop { L .ready none with state := .busy }) := ⟨_, rfl⟩
      have hl2 : Wb.heap[s + 1]? = some (.loop { L .ready none with state := .busy }) := by rw [hWb]; exact World.putObj_heap_same hlt
      have hk2 : Wb.heap[s]? = some (.deferred (some [])) := by rw [hWb]; exact (World.putObj_heap_other (by omega)).trans hk
      have zb : Wb.heap.size = W.heap.size := by rw [hWb]; simp
      have turnL : ∀ (A : World) (o : Obj), A.heap[s + 1]? = some o → o.isCells = false → MayTurn w.heap.size hi A (some (s + 1)) := fun A o ho hc r e => by cases e; exact ⟨by omega, .inr ⟨o, ho, hc⟩⟩
      have hib : I hi pre Wb := by rw [hWb]; exact hI hi _ _ _ _ hi0 (grownBy_putObj' W (s + 1) _) (turnL W _ hl rfl)
      have kb : KeepsC K W1.heap.size hi W Wb := by rw [hWb]; exact KeepsC.putObj W _ nK (by omega)
      have hlo2 : w.heap.size + 2 ≤ hi := by omega
      have hbd := hbody (s + 1) hi pre x Wb hlo2 (by omega) hsp hib
      rw [hWb] at hbd
      refine wpIn_mono hbd ?_
      rw [← hWb]
      have fin : ∀ (jump : Option Code) (W3 : World), KeepsC K w.heap.size hi Wb W3 →
          (Instr.endRound (s + 1) jump).run P W3 = .ok (.bool jump.isNone) (W3.putObj (s + 1) (.loop (L (if jump.isNone then .ready else .done) jump))) ∧
          MayTurn w.heap.size hi W3 (some (s + 1)) ∧
          (W3.putObj (s + 1) (.loop (L (if jump.isNone then .ready else .done) jump))).heap[s + 1]? = some (.loop (L (if jump.isNone then .ready else .done) jump)) ∧
          (W3.putObj (s + 1) (.loop (L (if jump.isNone then .ready else .done) jump))).heap[s]? = some (.deferred (some [])) ∧
          KeepsC K W1.heap.size hi W3 (W3.putObj (s + 1) (.loop (L (if jump.isNone then .ready else .done) jump))) := fun jump W3 hk3 => by
        have hl3 : W3.heap[s + 1]? = some (.loop { L .ready none with state := .busy }) := (hk3.rows _ (.inr ⟨by omega, by omega⟩)).trans hl2
        have hr := run_endRound (P := P) jump hl3
        have e1 : ({ { L .ready none with state := .busy } with state := if jump.isNone then .ready else .done, pending := jump } : Loop) = L (if jump.isNone then .ready else .done) jump := by rw [hL]
        rw [e1] at hr
        exact ⟨hr, turnL W3 _ hl3 rfl, World.putObj_heap_same (Array.getElem?_eq_some_iff.1 hl3).1, (World.putObj_heap_other (by omega)).trans ((hk3.rows _ (.inr ⟨by omega, by omega⟩)).trans hk2), KeepsC.putObj W3 _ nK (by omega)⟩
      rintro e a3 W3 hp
      cases e with
      | normal =>
        obtain ⟨hk3, hi3⟩ := hp
        obtain ⟨hr, ht, hl4, hk4, hk5⟩ := fin none W3 hk3
        exact ⟨_, _, hr, .inl ⟨rfl, ⟨hI hi _ _ _ _ hi3 (grownBy_putObj' W3 (s + 1) _) ht, hl4, hk4⟩, kb.trans ((hk3.less (by omega)).trans hk5)⟩⟩
      | ret =>
        obtain ⟨hk3, hi3⟩ := hp
        obtain ⟨hr, ht, hl4, hk4, hk5⟩ := fin (some .ret) W3 hk3
        exact ⟨_, _, hr, .inr ⟨rfl, ⟨.ret, hIx _ hi _ _ _ _ hi3 (grownBy_putObj' W3 (s + 1) _) ht, hl4, hk4⟩, kb.trans ((hk3.less (by omega)).trans hk5)⟩⟩
      | exit id =>
        obtain ⟨hk3, hi3⟩ := hp
        obtain ⟨hr, ht, hl4, hk4, hk5⟩ := fin (some (.exit id)) W3 hk3
        exact ⟨_, _, hr, .inr ⟨rfl, ⟨.exit id, hIx _ hi _ _ _ _ hi3 (grownBy_putObj' W3 (s + 1) _) ht, hl4, hk4⟩, kb.trans ((hk3.less (by omega)).trans hk5)⟩⟩
      | goto t =>
        obtain ⟨hk3, hi3⟩ := hp
        obtain ⟨hr, ht, hl4, hk4, hk5⟩ := fin (some (.goto t)) W3 hk3
        exact ⟨_, _, hr, .inr ⟨rfl, ⟨.goto t, hIx _ hi _ _ _ _ hi3 (grownBy_putObj' W3 (s + 1) _) ht, hl4, hk4⟩, kb.trans ((hk3.less (by omega)).trans hk5)⟩⟩
      | panic ch => exact hp.elim
      | outgrown => exact hp.elim
    · rintro e W2 ⟨⟨v, rfl⟩, hi, hlo, (⟨xs, hS, hi2, hl, hk⟩ | ⟨pre, hSp, c, hi2, hl, hk⟩)⟩
      · have ht : MayTurn w.heap.size hi W2 (some (s + 1)) := fun r e => by cases e; exact ⟨by omega, .inr ⟨_, hl, rfl⟩⟩
        have hr := run_endLoop (P := P) hl (by rw [hL]; simp)
        obtain ⟨o3, ho3⟩ : ∃ o3 : Obj, o3 = .loop { L .ready none with state := .exhausted } := ⟨_, rfl⟩
        rw [← ho3] at hr
        have e2 : (L .ready none).pending = none := by rw [hL]
        rw [e2] at hr
        refine ⟨none, _, hr, ?_⟩
        have := hdone s hi xs _ (by omega) (by omega) hS (hI hi _ _ _ _ hi2 (grownBy_putObj' W2 (s + 1) o3) ht) ((World.putObj_heap_other (by omega)).trans hk)
        exact this
      · have ht : MayTurn w.heap.size hi W2 (some (s + 1)) := fun r e => by cases e; exact ⟨by omega, .inr ⟨_, hl, rfl⟩⟩
        have hr := run_endLoop (P := P) hl (by rw [hL]; simp)
        obtain ⟨o3, ho3⟩ : ∃ o3 : Obj, o3 = .loop { L .done (some c) with state := .exhausted } := ⟨_, rfl⟩
        rw [← ho3] at hr
        have e2 : (L .done (some c)).pending = some c := by rw [hL]
        rw [e2] at hr
        refine ⟨some c, _, hr, ?_⟩
        exact hstop s hi c pre _ (by omega) (by omega) hSp (hIx c hi _ _ _ _ hi2 (grownBy_putObj' W2 (s + 1) o3) ht) ((World.putObj_heap_other (by omega)).trans hk)
end Go.Proofs.YtmhemahkcbgaoaaGreatDoor
