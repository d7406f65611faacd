/- The sides of a patch and texts put together, by the reference. -/
import Derived.Test.YtnbihjocdlpplaaDoorDSide
namespace Go.Proofs.YtnbihjocdlpplaaDoor
set_option linter.unusedVariables false
set_option linter.unusedSimpArgs false
open Go.RowKit
open Go.Lib
set_option maxHeartbeats 4000000 in
set_option maxRecDepth 100000 in
theorem sideR (w : World) (a : Option Addr) (n c : Nat) (X : List HkI) (k : Int) (hX : ReadsK w a n X) (hn : n ≤ 1073741824) (hl : linesK X ≤ 1073741824) :
    Calls Tryd.prog 51 #[.slice a n c, .int .i64 k] w fun e w' => ∃ v, e = .returned v ∧ StrOwn w.heap.size v (sideI k X) w' ∧ Below w.heap.size w w' := by
  have HX := Lib.hid hX
  have HL := Lib.hid hl
  have HN := Lib.hid hX.len
  have H0 : Hid (StrOwn w.heap.size (.slice none 0 0) [] w) := Lib.hid (World.ownsRow_nil _ _ _ _)
  clear hX hl
  go_enter Tryd.func51, Tryd.ntmps51
  go_wp2
  go_loopw [5, 6] (fun vv ui wr => ∃ i : Nat, ui = .int .i64 (i : Int) ∧ i ≤ n ∧ Hid (StrOwn w.heap.size vv (sideI k (X.take i)) wr ∧ Below w.heap.size w wr)) (fun _ ui _ => n - (RowKit.intOf ui).toNat)
  case atStart => exact ⟨0, rfl, Nat.zero_le _, Lib.hid ⟨H0.out, Below.refl _ _⟩⟩
  case round =>
    obtain ⟨i, rfl, hi, HR⟩ := hrel
    obtain ⟨vv, rfl⟩ : ∃ v : Value, v = u5 := ⟨_, rfl⟩
    by_cases hlt : i < n
    · obtain ⟨b, off, x, ad, m, cm, rfl, hb, hx, hc0, hc1, hrs, hmc, hcm, hm⟩ := (HX.out.keep HR.out.2 (Nat.le_refl _)).at hlt
      have hlx : linesK (X.take (i + 1)) ≤ 1073741824 := Nat.le_trans (linesK_take _ _) HL.out
      have hs1 : (sideI k (X.take i)).length + m ≤ 1073741824 := by
        rw [take_next hx, linesK_app] at hlx
        have h1 := sideI_len k (X.take i)
        have h2 : linesK [x] = m := by simp [linesK, hm]
        omega
      have HNX := Lib.hid (sideI_next (k := k) hx)
      obtain ⟨kd, hkd⟩ : ∃ kd, kd = x.1 := ⟨_, rfl⟩
      rw [← hkd] at hc0 HNX
      have HRS := Lib.hid hrs
      have HM := Lib.hid hm
      have hwb := HR.out.2.size
      have hit : (i : Int) < (n : Int) := by omega
      clear hx hrs hm hlx
      by_cases h1 : kd = 1 ∨ kd = k
      · rw [if_pos h1] at HNX
        have hbe : (kd == 1) = true ∨ ((kd == 1) = false ∧ (kd == k) = true) := by
          by_cases e : kd = 1
          · exact .inl (by rw [e]; rfl)
          · exact .inr ⟨by rw [beq_eq_false_iff_ne]; exact e, by rw [beq_iff_eq]; exact h1.resolve_left e⟩
        clear h1 hkd
        rcases hbe with q1 | ⟨q1, q2⟩
        all_goals
          go_wp2_with (at_builtin; refine appSlice rfl _ _ rfl Tryd.underlying29 (.string ByteArray.empty) 1 16 infoStr rfl (by decide) (by decide) w.heap.size vv (sideI k (X.take i)).length ((sideI k (X.take i)).map S1) rfl HR.out.1 ad m cm (x.2.map S1) rfl (by rw [List.length_map, HM.out, Nat.mul_one]) HRS.out.srcs (S1_one _) (by omega) hwb ?_; intro v8 w8 hO8 hg8)
          have HO8 : Hid (StrOwn w.heap.size v8 (sideI k (X.take (i + 1))) w8 ∧ Below w.heap.size w w8) := by
            refine Lib.hid ⟨by rw [HNX.out]; exact StrOwn.apps HM.out.symm hO8, ?_⟩
            exact HR.out.2.grown hg8 hwb (fun k hk => (World.ownsRow.lt HR.out.1 k hk).1)
          clear hO8 hg8
          go_roundw
          case rel => exact ⟨i + 1, by go_num, hlt, HO8⟩
          case measure => simp [RowKit.intOf]; omega
      · rw [if_neg h1, List.append_nil] at HNX
        have q1 : (kd == 1) = false := by rw [beq_eq_false_iff_ne]; exact fun e => h1 (.inl e)
        have q2 : (kd == k) = false := by rw [beq_eq_false_iff_ne]; exact fun e => h1 (.inr e)
        have hq1 : kd ≠ 1 := fun e => h1 (.inl e)
        have hq2 : kd ≠ k := fun e => h1 (.inr e)
        clear h1 hkd
        go_wp2
        go_roundw
        case rel => exact ⟨i + 1, by go_num, hlt, Lib.hid ⟨by rw [HNX.out]; exact HR.out.1, HR.out.2⟩⟩
        case measure => simp [RowKit.intOf]; omega
    · obtain rfl : i = n := by omega
      have hd : X.take i = X := List.take_of_length_le (by rw [HN.out]; exact Nat.le_refl _)
      have HD := Lib.hid hd
      clear hd
      go_wp2
      go_ret
      have h9 := HR.out.1
      rw [HD.out] at h9
      exact ⟨_, rfl, h9, HR.out.2⟩
theorem flat_next {L : List (List UInt8)} {i : Nat} {x : List UInt8} (h : L[i]? = some x) : (L.take (i + 1)).flatten = (L.take i).flatten ++ x := by
  rw [take_next h, List.flatten_append]
  simp
theorem flat_take (L : List (List UInt8)) (i : Nat) : (L.take i).flatten.length ≤ L.flatten.length := by
  have : L.flatten = (L.take i).flatten ++ (L.drop i).flatten := by rw [← List.flatten_append, List.take_append_drop]
  rw [this, List.length_append]
  omega
set_option maxHeartbeats 4000000 in
set_option maxRecDepth 100000 in
theorem joinR (w : World) (a : Option Addr) (n c : Nat) (L : List (List UInt8)) (h : ReadsS w a n L) (hn : n ≤ 1073741824) (hl : L.flatten.length ≤ 1099511627776) :
    Calls Tryd.prog 52 #[.slice a n c] w fun e w' => e = .returned (.string (bstr L.flatten)) ∧ Below w.heap.size w w' := by
  have HX := Lib.hid h
  have HL := Lib.hid hl
  have HN := Lib.hid h.len
  have H0 : Hid (OwnB w.heap.size (.slice none 0 0) [] w) := Lib.hid (World.ownsRow_nil _ _ _ _)
  clear h hl
  go_enter Tryd.func52, Tryd.ntmps52
  go_wp2
  go_loopw [3, 4] (fun vv ui wr => ∃ i : Nat, ui = .int .i64 (i : Int) ∧ i ≤ n ∧ Hid (OwnB w.heap.size vv (L.take i).flatten wr ∧ Below w.heap.size w wr)) (fun _ ui _ => n - (RowKit.intOf ui).toNat)
  case atStart => exact ⟨0, rfl, Nat.zero_le _, Lib.hid ⟨H0.out, Below.refl _ _⟩⟩
  case round =>
    obtain ⟨i, rfl, hi, HR⟩ := hrel
    obtain ⟨vv, rfl⟩ : ∃ v : Value, v = u3 := ⟨_, rfl⟩
    by_cases hlt : i < n
    · obtain ⟨b, off, x, rfl, hb, hx, hc0⟩ := (HX.out.keep HR.out.2 (Nat.le_refl _)).at hlt
      have HF := Lib.hid (flat_next hx)
      have hfx := flat_take L (i + 1)
      rw [HF.out, List.length_append] at hfx
      have hL := HL.out
      have l1 : (L.take i).flatten.length ≤ 1099511627776 := by omega
      have l2 : x.length ≤ 1099511627776 := by omega
      have hwb := HR.out.2.size
      have hit : (i : Int) < (n : Int) := by omega
      clear hx hfx hL
      go_wp2_with (at_builtin; refine appStr rfl _ _ rfl w.heap.size w vv (L.take i).flatten x rfl HR.out.1 rfl l1 l2 HR.out.2 hwb ?_; intro v8 w8 hO8 hb8 hs8)
      have HO8 : Hid (OwnB w.heap.size v8 (L.take (i + 1)).flatten w8 ∧ Below w.heap.size w w8) := Lib.hid ⟨by rw [HF.out]; exact hO8, hb8⟩
      clear hO8 hb8
      go_roundw
      case rel => exact ⟨i + 1, by go_num, hlt, HO8⟩
      case measure => simp [RowKit.intOf]; omega
    · obtain rfl : i = n := by omega
      have hd : L.take i = L := List.take_of_length_le (by rw [HN.out]; exact Nat.le_refl _)
      have hcv := conv_own HR.out.1
      rw [hd] at hcv
      clear hd
      go_wp2
      go_ret
      exact ⟨rfl, HR.out.2⟩
end Go.Proofs.YtnbihjocdlpplaaDoor
