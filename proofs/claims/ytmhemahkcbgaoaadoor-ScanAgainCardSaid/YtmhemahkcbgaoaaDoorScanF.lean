/- What is escaped, by the program: all cases. -/
import Derived.Test.YtmhemahkcbgaoaaDoorScanE
namespace Go.Proofs.YtmhemahkcbgaoaaDoor
set_option linter.unusedVariables false
set_option linter.unusedSimpArgs false
open Go.RowKit
open Go.Lib hiding intOf
theorem byte_ne {x : UInt8} {n : Nat} (hn : n < 256) (h : x ≠ UInt8.ofNat n) : ((x.toNat : Int) == (n : Int)) = false := by
  rw [beq_eq_false_iff_ne]
  intro e
  apply h
  apply UInt8.toNat_inj.1
  rw [UInt8.toNat_ofNat_of_lt' (by simpa using hn)]
  omega
set_option maxHeartbeats 2000000 in
set_option maxRecDepth 100000 in
theorem escapedC (w : World) (l : List UInt8) (hm : l.length ≤ 140737488355328) :
    Calls Tryd.prog 57 #[.string (bstr l)] w fun e w' => e = .returned (.tuple #[.string (bstr (escOf l).1), .int .i64 ((escOf l).2 : Int)]) ∧ Below w.heap.size w w' := by
  obtain ⟨n, hn⟩ : ∃ n, n = l.length := ⟨_, rfl⟩
  have hsz : (bstr l).size = n := by rw [bstr_size, hn]
  by_cases h2 : l.length < 2
  · have hE : escOf l = ([], 0) := by unfold escOf; rw [if_pos h2]
    rw [hE]
    rw [← hn] at hm h2
    clear hE hn
    go_enter Tryd.func57, Tryd.ntmps57
    go_wp2
    go_ret2
    exact ⟨rfl, Below.refl _ _⟩
  obtain ⟨x, hx⟩ := some_at (l := l) (k := 1) (by omega)
  by_cases hu : x = 117
  · subst hu; exact escapedU w l hm (by omega) hx
  by_cases hX : x = 120
  · subst hX
    by_cases h4 : 4 ≤ l.length
    · exact escapedX w l hm h4 hx
    · have hE : escOf l = ([], 0) := by
        unfold escOf
        simp only [List.getD_eq_getElem?_getD, hx, Option.getD_some]
        rw [if_neg h2, if_neg (by decide), if_neg (by decide), if_neg (by decide), if_neg (by decide), if_pos (by decide), if_pos (.inl (by omega))]
      rw [hE]
      rw [← hn] at hm h2 h4
      have i1 : 1 < (bstr l).size := by rw [hsz]; omega
      have ha1 : (bstr l)[1]'i1 = 120 := bstr_at hx _
      clear hE hn hx hu
      go_enter Tryd.func57, Tryd.ntmps57
      go_wp2
      go_ret2
      exact ⟨rfl, Below.refl _ _⟩
  have i1 : 1 < (bstr l).size := by rw [hsz, hn]; omega
  have ha1 : (bstr l)[1]'i1 = x := bstr_at hx _
  have hE : escOf l = if x = 34 ∨ x = 92 then ([x], 2) else if x = 110 then ([10], 2) else if x = 114 then ([13], 2) else if x = 116 then ([9], 2) else ([], 0) := by
    unfold escOf
    simp only [List.getD_eq_getElem?_getD, hx, Option.getD_some]
    rw [if_neg h2, if_neg hX, if_neg hu]
  rw [← hn] at hm h2
  have hcut : (bstr l).extract 1 2 = bstr [x] := by
    rw [bstr_extract, drop_at hx]
    simp
  rw [hE]
  clear hE hn hx
  by_cases c1 : x = 34
  · subst c1
    go_enter Tryd.func57, Tryd.ntmps57
    go_wp2
    go_ret2
    rw [← hcut]
    exact ⟨rfl, Below.refl _ _⟩
  by_cases c2 : x = 92
  · subst c2
    go_enter Tryd.func57, Tryd.ntmps57
    go_wp2
    go_ret2
    rw [← hcut]
    exact ⟨rfl, Below.refl _ _⟩
  by_cases c3 : x = 110
  · subst c3
    go_enter Tryd.func57, Tryd.ntmps57
    go_wp2
    go_ret2
    exact ⟨rfl, Below.refl _ _⟩
  by_cases c4 : x = 114
  · subst c4
    go_enter Tryd.func57, Tryd.ntmps57
    go_wp2
    go_ret2
    exact ⟨rfl, Below.refl _ _⟩
  by_cases c5 : x = 116
  · subst c5
    go_enter Tryd.func57, Tryd.ntmps57
    go_wp2
    go_ret2
    exact ⟨rfl, Below.refl _ _⟩
  rw [if_neg (by rintro (h | h); · exact c1 h
                 · exact c2 h), if_neg c3, if_neg c4, if_neg c5]
  have b1 : ((x.toNat : Int) == 34) = false := byte_ne (n := 34) (by decide) c1
  have b2 : ((x.toNat : Int) == 92) = false := byte_ne (n := 92) (by decide) c2
  have b3 : ((x.toNat : Int) == 110) = false := byte_ne (n := 110) (by decide) c3
  have b4 : ((x.toNat : Int) == 114) = false := byte_ne (n := 114) (by decide) c4
  have b5 : ((x.toNat : Int) == 116) = false := byte_ne (n := 116) (by decide) c5
  have b6 : ((x.toNat : Int) == 120) = false := byte_ne (n := 120) (by decide) hX
  have b7 : ((x.toNat : Int) == 117) = false := byte_ne (n := 117) (by decide) hu
  clear c1 c2 c3 c4 c5 hX hu hcut
  go_enter Tryd.func57, Tryd.ntmps57
  go_wp2
  go_ret2
  exact ⟨rfl, Below.refl _ _⟩
end Go.Proofs.YtmhemahkcbgaoaaDoor
