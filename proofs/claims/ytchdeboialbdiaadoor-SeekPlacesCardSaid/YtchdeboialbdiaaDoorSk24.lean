/- Texts joined, one behind the other (SLast, SCut, SRefA, SRefB). -/
import Derived.Test.YtchdeboialbdiaaDoorSk23
import Derived.BigRegion
/- The program's Last. -/
namespace Go.Proofs.YtchdeboialbdiaaDoor
set_option linter.unusedVariables false
set_option linter.unusedSimpArgs false
open Go.RowKit
open Go.Lib hiding intOf
set_option maxHeartbeats 4000000 in
set_option maxRecDepth 100000 in
theorem lastC (w : World) (g : Nat) (lp l : List UInt8) (fo : Bool) (its : List Itm) (fr : Int) (hP : PatIs w g lp fo its) (hm : l.length ≤ 67108000) (hl : its.length ≤ 67108864) (hT : Tabs w) :
    Calls Tryd.prog 18 #[.pointer (some ⟨g, 0, none⟩), .string (bstr l), .int .i64 fr] w fun e w' => e = .returned (pieceV (atsL l) (lastP fo l its fr)) ∧ Below w.heap.size w w' := by
  have hb0 : Below w.heap.size w (w.alloc (.cells #[.int .i64 0, .int .i64 0] 40)) := (Below.refl _ w).alloc (Nat.le_refl _) _
  have hX := textOfC (w.alloc (.cells #[.int .i64 0, .int .i64 0] 40)) l (by omega) (hT.below hb0 hT.size)
  have hal := ats_len l
  have hvl := vals_len l
  have hok := vals_ok l
  have hrow0 : Row (w.alloc (.cells #[.int .i64 0, .int .i64 0] 40)) w.heap.size 40 [.int .i64 0, .int .i64 0] := row_new w [.int .i64 0, .int .i64 0] _
  obtain ⟨vm, Lm, Bm, hrow, hrest⟩ := id hP
  have p1 : w.cell? ⟨g, 1, none⟩ = some (.bool true) := hrow.cell 1
  have p2 := hrow.lt
  unfold lastP
  unfold TextP at hX
  obtain ⟨V, hV⟩ : ∃ V, valsL l = V := ⟨_, rfl⟩
  obtain ⟨A, hA⟩ : ∃ A, atsL l = A := ⟨_, rfl⟩
  obtain ⟨n, hn⟩ : ∃ n, V.length = n := ⟨_, rfl⟩
  rw [hV] at hX hvl hok hal ⊢
  rw [hA] at hX hal ⊢
  rw [hn] at hX hvl hal ⊢
  have HN := Lib.hid hn
  have HAL := Lib.hid hal
  have HOK := Lib.hid hok
  have HX := Lib.hid hX
  have HP := Lib.hid hP
  have HB0 := Lib.hid hb0
  have HR0 := Lib.hid hrow0
  obtain ⟨T, hT0⟩ : ∃ T, lastGo fo V A its fr (n + 1) = T := ⟨_, rfl⟩
  rw [hT0]
  have HT0 := Lib.hid hT0
  have hnb : n ≤ 67108000 := by omega
  clear hX hb0 hrow0 hal hvl hok hV hA hn hP hrow hrest hT hT0 hm
  go_enter Tryd.func18, Tryd.ntmps18
  go_wp2_with (go_at_call 39; refine (HX.out).mono ?_; rintro e w2 ⟨a, c, a2, c2, rfl, hrt, hai, hb2⟩; have hsz2 := hb2.size; have HRT := Lib.hid hrt; have HAI := Lib.hid hai; have HB2 := Lib.hid hb2; clear hrt hai hb2)
  have hw3 : ∀ W, W = w2.alloc (.cells #[.slice a n c, .slice a2 (n + 1) c2] 96) → Below w.heap.size w W ∧ Row W w.heap.size 40 [.int .i64 0, .int .i64 0] ∧ Row W w2.heap.size 96 [.slice a n c, .slice a2 (n + 1) c2] := by
    rintro W rfl
    have hs := HB0.out.size
    have h1 := HR0.out.keep HB2.out HR0.out.lt
    exact ⟨(HB0.out.trans (HB2.out.mono hs)).alloc (Nat.le_trans hs HB2.out.size) _, h1.alloc _, row_new w2 [.slice a n c, .slice a2 (n + 1) c2] _⟩
  have HW3 := Lib.hid hw3
  clear hw3
  have hws : w.heap.size < w2.heap.size := by rw [World.size_alloc] at hsz2; omega
  go_loopw [9] (fun uk wr => ∃ (zk : Int) (k : Nat), uk = .int .i64 zk ∧ k ≤ n + 1 ∧ Hid (zk = (k : Int) - 1) ∧ Hid (Below w.heap.size w wr ∧ Below w2.heap.size w2 wr ∧ Row wr w.heap.size 40 [.int .i64 0, .int .i64 0] ∧ Row wr w2.heap.size 96 [.slice a n c, .slice a2 (n + 1) c2] ∧ lastGo fo V A its fr k = T)) (fun uk _ => (RowKit.intOf uk + 1).toNat)
  case atStart =>
    obtain ⟨h1, h2, h3⟩ := HW3.out _ rfl
    exact ⟨(n : Int), n + 1, by first | rfl | go_num, Nat.le_refl _, Lib.hid (by omega), Lib.hid ⟨h1, (Below.refl _ w2).alloc (Nat.le_refl _) _, h2, h3, HT0.out⟩⟩
  case round =>
    obtain ⟨zk, k1_, rfl, hk, HZ, HR⟩ := hrel
    have t0 := HR.out.2.2.2.1.cell 0
    have t1 := HR.out.2.2.2.1.cell 1
    have t2 := HR.out.2.2.2.1.lt
    have s0 := HR.out.2.2.1.frozen 0
    have s1 := HR.out.2.2.1.frozen 1
    have s2 := HR.out.2.2.1.lt
    have s3 := HR.out.2.2.1.cell 0
    have s4 := HR.out.2.2.1.cell 1
    rcases k1_ with _ | k
    case succ =>
      obtain rfl : zk = (k : Int) := by have := HZ.out; omega
      have hlt : k < n + 1 := by omega
      have hk0 : (0 : Int) ≤ (k : Int) := by omega
      obtain ⟨ga, rfl, hga, hac⟩ := HAI.out
      have x0 : wr.cell? ⟨ga, k, none⟩ = some (.int .i64 ((A.getD k 0 : Nat) : Int)) := by
        rw [World.cell?_of_block (a := ⟨ga, k, none⟩) (HR.out.2.1.block ga hga)]
        exact hac _ _ (getD_at (by rw [HAL.out]; exact hlt))
      have hT1 := HR.out.2.2.2.2
      rw [lastGo] at hT1
      obtain ⟨x, hx⟩ : ∃ x, A.getD k 0 = x := ⟨_, rfl⟩
      rw [hx] at x0 hT1
      have HXE := Lib.hid hx
      clear hx
      have hlk : (k : Int) < ((n + 1 : Nat) : Int) := by omega
      have hlk2 : (k : Int) < (n : Int) + 1 := by omega
      by_cases hfr : (x : Int) ≤ fr
      · rw [if_pos hfr] at hT1
        have hfr2 : ¬ fr < (x : Int) := by omega
        have hM := matchC wr g lp fo its a (some ⟨ga, 0, none⟩) n c (n + 1) c2 V k (HP.out.keep HR.out.1) (HRT.out.keep HR.out.2.1 (Nat.le_refl _)) HOK.out (by omega) (by omega) hl
        cases hlo : longestP fo V its k with
        | none =>
          rw [hlo] at hM hT1
          dsimp only at hT1
          have HM := Lib.hid hM
          have HT1 := Lib.hid hT1
          clear hM hT1 hlo hac
          have HM2 : Hid (Calls Tryd.prog 40 #[.pointer (some ⟨g, 0, none⟩), .agg #[.slice a n c, .slice (some ⟨ga, 0, none⟩) (n + 1) c2], .int .i64 (k : Int)] wr fun e w' => e = .returned (.int .i64 (-1)) ∧ Below wr.heap.size wr w') := Lib.hid HM.out
          go_wp2_with (go_at_call 40; refine (HM2.out).mono ?_; rintro e w5 ⟨rfl, hb5⟩; have HB5 := Lib.hid hb5; clear hb5)
          go_roundw
          case rel => exact ⟨(k : Int) - 1, k, by go_num, by omega, Lib.hid rfl, Lib.hid ⟨HR.out.1.trans (HB5.out.mono HR.out.1.size), HR.out.2.1.trans (HB5.out.mono HR.out.2.1.size), HR.out.2.2.1.keep HB5.out HR.out.2.2.1.lt, HR.out.2.2.2.1.keep HB5.out HR.out.2.2.2.1.lt, HT1.out⟩⟩
          case measure => first | (simp [RowKit.intOf]; done) | (simp [RowKit.intOf]; omega)
        | some j =>
          rw [hlo] at hM hT1
          dsimp only at hT1
          have hjn : j ≤ n := by have := longest_le hlo; have := HN.out; omega
          have x1 : ∀ W, Below w2.heap.size w2 W → W.cell? ⟨ga, j, none⟩ = some (.int .i64 ((A.getD j 0 : Nat) : Int)) := fun W hW => by
            rw [World.cell?_of_block (a := ⟨ga, j, none⟩) (hW.block ga hga)]
            exact hac _ _ (getD_at (by rw [HAL.out]; omega))
          obtain ⟨y, hy⟩ : ∃ y, A.getD j 0 = y := ⟨_, rfl⟩
          rw [hy] at x1
          have HYE := Lib.hid hy
          have HX1 := Lib.hid x1
          have HM : Hid (Calls Tryd.prog 40 #[.pointer (some ⟨g, 0, none⟩), .agg #[.slice a n c, .slice (some ⟨ga, 0, none⟩) (n + 1) c2], .int .i64 (k : Int)] wr fun e w' => e = .returned (.int .i64 (j : Int)) ∧ Below wr.heap.size wr w') := Lib.hid hM
          have HT1 := Lib.hid hT1
          have hjl : (j : Int) < ((n + 1 : Nat) : Int) := by omega
          have hjl2 : (j : Int) < (n : Int) + 1 := by omega
          have hj0 : 0 ≤ (j : Int) := by omega
          have HX0 : Hid (∀ W, Below w2.heap.size w2 W → W.cell? ⟨ga, k, none⟩ = some (.int .i64 (x : Int))) := Lib.hid (fun W hW => by
            rw [World.cell?_of_block (a := ⟨ga, k, none⟩) (hW.block ga hga), ← HXE.out]
            exact hac _ _ (getD_at (by rw [HAL.out]; exact hlt)))
          clear hM hT1 hlo hac hy x1
          go_wp2_with (go_at_call 40; refine (HM.out).mono ?_; rintro e w5 ⟨rfl, hb5⟩; have y0 := HX1.out w5 (HR.out.2.1.trans (hb5.mono HR.out.2.1.size)); have z0 := HX0.out w5 (HR.out.2.1.trans (hb5.mono HR.out.2.1.size)); have k0 := (HR.out.2.2.2.1.keep hb5 HR.out.2.2.2.1.lt).lt; have k1 := HR.out.2.2.2.1.keep hb5 HR.out.2.2.2.1.lt; have k2 := k1.cell 1; have k3 := HR.out.2.2.1.keep hb5 HR.out.2.2.1.lt; have k4 := k3.frozen 0; have k5 := k3.frozen 1; have k6 := k3.cell 0; have k7 := k3.cell 1; have k8 := k3.lt; have K3 := Lib.hid k3; have HB5 := Lib.hid hb5; clear hb5 k1 k3)
          go_region
          all_goals go_wp2
          have hR := (K3.out.set 0 (.int .i64 (x : Int))).set 1 (.int .i64 (y : Int))
          refine bodyPost_ret (results_row_one rfl _ _ w.heap.size 40 #[.int .i64 (x : Int), .int .i64 (y : Int)] (0, 0) _ _ rfl rfl hR Tryd.underlying40 rfl (by kernel_rfl)) rfl ?_
          refine ⟨?_, (((HR.out.1.trans (HB5.out.mono HR.out.1.size)).setCell (p := ⟨w.heap.size, 0, none⟩) (Nat.le_refl _) _).setCell (p := ⟨w.heap.size, 1, none⟩) (Nat.le_refl _) _).drew⟩
          rw [← HT1.out]
          unfold pieceV
          dsimp only
          rw [HXE.out, HYE.out]
          rfl
      · rw [if_neg hfr] at hT1
        have hfr2 : fr < (x : Int) := by omega
        have HT1 := Lib.hid hT1
        clear hT1 hac
        go_wp2_with fail
        go_roundw
        case rel => exact ⟨(k : Int) - 1, k, by go_num, by omega, Lib.hid rfl, Lib.hid ⟨HR.out.1, HR.out.2.1, HR.out.2.2.1, HR.out.2.2.2.1, HT1.out⟩⟩
        case measure => first | (simp [RowKit.intOf]; done) | (simp [RowKit.intOf]; omega)
    case zero =>
      obtain rfl : zk = -1 := by have := HZ.out; omega
      have hT1 := HR.out.2.2.2.2
      change none = T at hT1
      have HT1 := Lib.hid hT1
      clear hT1
      go_wp2_with fail
      have hR := (HR.out.2.2.1.set 0 (.int .i64 0)).set 1 (.int .i64 0)
      refine bodyPost_ret (results_row_one rfl _ _ w.heap.size 40 #[.int .i64 0, .int .i64 0] (0, 0) _ _ rfl rfl hR Tryd.underlying40 rfl (by kernel_rfl)) rfl ?_
      refine ⟨?_, (HR.out.1.setCell (p := ⟨w.heap.size, 0, none⟩) (Nat.le_refl _) _).setCell (p := ⟨w.heap.size, 1, none⟩) (Nat.le_refl _) _⟩
      rw [← HT1.out]
      rfl
end Go.Proofs.YtchdeboialbdiaaDoor
/- A text cut. -/
namespace Go.Proofs.YtchdeboialbdiaaDoor
set_option linter.unusedVariables false
set_option linter.unusedSimpArgs false
open Go.RowKit
open Go.Lib hiding intOf
theorem cutC (w : World) (l : List UInt8) (k : Nat) (hk : k ≤ 1048576) : Calls Tryd.prog 13 #[.string (bstr l), .int .i64 (k : Int)] w fun e w' => e = .returned (.string (bstr (l.take k))) ∧ w' = w := by
  by_cases h : k < l.length
  · have h1 : (k : Int) < (l.length : Int) := by omega
    have h2 : ¬ (l.length : Int) ≤ (k : Int) := by omega
    have h3 : (k : Int) ≤ (l.length : Int) := by omega
    obtain ⟨T, hT⟩ : ∃ T, l.take k = T := ⟨_, rfl⟩
    rw [hT]
    have hT2 : (l.drop 0).take (k - 0) = T := by rw [List.drop_zero, Nat.sub_zero]; exact hT
    go_enter Tryd.func13, Tryd.ntmps13
    go_wp2_with fail
    go_ret
    exact ⟨by first | rfl | (rw [← hT]; rfl), rfl⟩
  · have h1 : ¬ (k : Int) < (l.length : Int) := by omega
    have h2 : (l.length : Int) ≤ (k : Int) := by omega
    rw [List.take_of_length_le (by omega)]
    go_enter Tryd.func13, Tryd.ntmps13
    go_wp2_with fail
    go_ret
    exact ⟨rfl, rfl⟩
end Go.Proofs.YtchdeboialbdiaaDoor
/- The reference's first character: May, number, begins, Sequence, First. -/
namespace Go.Proofs.YtchdeboialbdiaaDoor
set_option linter.unusedVariables false
set_option linter.unusedSimpArgs false
open Go.RowKit
open Go.Lib hiding intOf
abbrev U1 (n : Nat) : Value := .int .u8 (n : Int)
set_option maxHeartbeats 4000000 in
set_option maxRecDepth 100000 in
theorem mayR6 (w : World) (r : Int) : Calls Tryd.prog 48 #[.int .i32 r] w fun e w' => e = .returned (.bool (mayI r)) ∧ w' = w := by
  unfold mayI
  by_cases a : 0 ≤ r
  · by_cases b : r ≤ 1114111
    · by_cases c : r < 55296
      · rw [decide_eq_true a, decide_eq_true b, decide_eq_true c]
        go_enter Tryd.func48, Tryd.ntmps48
        go_wp2_with fail
        go_ret
        exact ⟨rfl, rfl⟩
      · by_cases d : 57343 < r
        · rw [decide_eq_true a, decide_eq_true b, decide_eq_false c, decide_eq_true d]
          go_enter Tryd.func48, Tryd.ntmps48
          go_wp2_with fail
          go_ret
          exact ⟨rfl, rfl⟩
        · rw [decide_eq_true a, decide_eq_true b, decide_eq_false c, decide_eq_false d]
          go_enter Tryd.func48, Tryd.ntmps48
          go_wp2_with fail
          go_ret
          exact ⟨rfl, rfl⟩
    · rw [decide_eq_true a, decide_eq_false b, Bool.and_false, Bool.false_and]
      go_enter Tryd.func48, Tryd.ntmps48
      go_wp2_with fail
      go_ret
      exact ⟨rfl, rfl⟩
  · rw [decide_eq_false a, Bool.false_and, Bool.false_and]
    go_enter Tryd.func48, Tryd.ntmps48
    go_wp2_with fail
    go_ret
    exact ⟨rfl, rfl⟩
/-- a number's part: of the first i bytes of k -/
def numPart (l : List UInt8) (b : Int) : Nat → Int
  | 0 => 0
  | 1 => (bN l 0 : Int) - b
  | i + 1 => numPart l b i * 64 + bN l i % 64
theorem byte_at {l : List UInt8} {i : Nat} (h : i < l.length) : ∃ x : UInt8, l[i]? = some x ∧ bN l i = x.toNat := by
  obtain ⟨x, hx⟩ := some_at h
  exact ⟨x, hx, by unfold bN; rw [List.getD_eq_getElem?_getD, hx]; rfl⟩
theorem part_next (l : List UInt8) (b : Int) (i : Nat) (h : 1 ≤ i) : numPart l b (i + 1) = numPart l b i * 64 + bN l i % 64 := by
  obtain ⟨j, rfl⟩ : ∃ j, i = j + 1 := ⟨i - 1, by omega⟩
  rfl
theorem part_bound (l : List UInt8) (b : Int) (h0 : 0 ≤ b) (h1 : b ≤ 256) (i : Nat) (hi : 1 ≤ i) (h4 : i ≤ 4) : -100000000 ≤ numPart l b i ∧ numPart l b i ≤ 100000000 := by
  have b0 := bN_lt l 0
  have b1 := bN_lt l 1
  have b2 := bN_lt l 2
  have b3 := bN_lt l 3
  have h : i = 1 ∨ i = 2 ∨ i = 3 ∨ i = 4 := by omega
  rcases h with rfl | rfl | rfl | rfl
  · show -100000000 ≤ (bN l 0 : Int) - b ∧ (bN l 0 : Int) - b ≤ _; omega
  · show -100000000 ≤ ((bN l 0 : Int) - b) * 64 + bN l 1 % 64 ∧ ((bN l 0 : Int) - b) * 64 + bN l 1 % 64 ≤ _; omega
  · show -100000000 ≤ (((bN l 0 : Int) - b) * 64 + bN l 1 % 64) * 64 + bN l 2 % 64 ∧ (((bN l 0 : Int) - b) * 64 + bN l 1 % 64) * 64 + bN l 2 % 64 ≤ _; omega
  · show -100000000 ≤ ((((bN l 0 : Int) - b) * 64 + bN l 1 % 64) * 64 + bN l 2 % 64) * 64 + bN l 3 % 64 ∧ ((((bN l 0 : Int) - b) * 64 + bN l 1 % 64) * 64 + bN l 2 % 64) * 64 + bN l 3 % 64 ≤ _; omega
theorem part_num (l : List UInt8) (k : Nat) (hk : k = 2 ∨ k = 3 ∨ k = 4) : numI l k = numPart l (if k = 2 then 192 else if k = 3 then 224 else 240) k := by
  rcases hk with rfl | rfl | rfl <;> rfl
set_option maxHeartbeats 4000000 in
set_option maxRecDepth 100000 in
theorem numberR6 (w : World) (l : List UInt8) (k : Nat) (h1 : 1 ≤ k) (h4 : k ≤ 4) (hl : k ≤ l.length) (hm : l.length ≤ 140737488355328) : Calls Tryd.prog 67 #[.string (bstr l), .int .i64 (k : Int)] w fun e w' => e = .returned (.int .i32 (numI l k)) ∧ Quiet w w' := by
  have hsz : (bstr l).size = l.length := bstr_size l
  obtain ⟨x, hx, hb⟩ := byte_at (l := l) (i := 0) (by omega)
  have i1 : 0 < (bstr l).size := by rw [hsz]; omega
  have hxa : (bstr l)[0]'i1 = x := bstr_at hx _
  have hxl := x.toNat_lt
  have hli : (0 : Int) < (l.length : Int) := by omega
  by_cases hk1 : k = 1
  · subst hk1
    have e : numI l 1 = (x.toNat : Int) := by show (bN l 0 : Int) = _; rw [hb]
    rw [e]
    clear e hx hb
    go_enter Tryd.func67, Tryd.ntmps67
    go_wp2_with fail
    go_ret
    exact ⟨rfl, Quiet.refl _⟩
  have hk : k = 2 ∨ k = 3 ∨ k = 4 := by omega
  obtain ⟨b, hbb, hb0, hb1⟩ : ∃ b : Int, b = (if k = 2 then 192 else if k = 3 then 224 else 240) ∧ 0 ≤ b ∧ b ≤ 256 := ⟨_, rfl, by rcases hk with rfl | rfl | rfl <;> decide, by rcases hk with rfl | rfl | rfl <;> decide⟩
  rw [part_num l k hk, ← hbb]
  have HP1 : Hid (numPart l b 1 = (x.toNat : Int) - b) := Lib.hid (by show (bN l 0 : Int) - b = _; rw [hb])
  have HPN := Lib.hid (part_next l b)
  have HPB := Lib.hid (part_bound l b hb0 hb1)
  have hk1f : ((k : Int) == 1) = false := by rw [beq_eq_false_iff_ne]; omega
  have hw : IntKind.i64.wrap ((256 : Int) - (256 : Int) / 2 ^ k) = b := by
    rw [hbb]
    rcases hk with rfl | rfl | rfl <;> decide
  have hw2 : (256 : Int) - (256 : Int) / 2 ^ k = b := by
    rw [hbb]
    rcases hk with rfl | rfl | rfl <;> decide
  clear hx hb hbb
  go_enter Tryd.func67, Tryd.ntmps67
  go_wp2_with fail
  go_quiet (fail)
  go_wp2_with fail
  go_loopw [5, 6] (fun un ui wr => ∃ i : Nat, ui = .int .i64 (i : Int) ∧ un = .int .i64 (numPart l b i) ∧ 1 ≤ i ∧ i ≤ k ∧ wr = w.drewN nq) (fun _ ui _ => k - (RowKit.intOf ui).toNat)
  case atStart => exact ⟨1, rfl, by rw [HP1.out], Nat.le_refl _, h1, rfl⟩
  case round =>
    obtain ⟨i, rfl, rfl, hi1, hik, rfl⟩ := hrel
    have hpb := HPB.out i hi1 (by omega)
    by_cases hlt : i < k
    · obtain ⟨y, hy, hby⟩ := byte_at (l := l) (i := i) (by omega)
      have i2 : i < (bstr l).size := by rw [hsz]; omega
      have hya : (bstr l)[i]'i2 = y := bstr_at hy _
      have hyl := y.toNat_lt
      have hik2 : (i : Int) < (k : Int) := by omega
      have hil : (i : Int) < (l.length : Int) := by omega
      have hn := HPN.out i hi1
      have hnb := HPB.out (i + 1) (by omega) (by omega)
      rw [hby] at hn
      have hmd : (y.toNat : Int).tmod 64 = (y.toNat : Int) % 64 := Int.tmod_eq_emod_of_nonneg (by omega)
      obtain ⟨r, hr⟩ : ∃ r, (y.toNat : Int) % 64 = r := ⟨_, rfl⟩
      rw [hr] at hn hmd
      have hrb : 0 ≤ r ∧ r < 64 := by omega
      obtain ⟨hr0, hr1⟩ := hrb
      obtain ⟨P, hP⟩ : ∃ P, numPart l b i = P := ⟨_, rfl⟩
      obtain ⟨P2, hP2⟩ : ∃ P, numPart l b (i + 1) = P := ⟨_, rfl⟩
      rw [hP] at hn hpb ⊢
      rw [hP2] at hn hnb
      have HN := Lib.hid hn
      have HP2 := Lib.hid hP2
      clear hr hn hy hby hP hP2
      go_wp2_with fail
      go_roundw
      case rel => exact ⟨i + 1, by go_num, by rw [HP2.out, HN.out], by omega, by omega, by first | rfl | trivial⟩
      case measure => simp [RowKit.intOf]; omega
    · obtain rfl : i = k := by omega
      have hnl : ¬ (i : Int) < (i : Int) := by omega
      obtain ⟨P, hP⟩ : ∃ P, numPart l b i = P := ⟨_, rfl⟩
      rw [hP] at hpb ⊢
      have HP := Lib.hid hP
      clear hP hlt
      go_wp2_with fail
      go_ret
      exact ⟨by rw [HP.out]; rfl, ⟨nq, rfl⟩⟩
/-- do the bytes begin with these? -/
def begU (l : List UInt8) (X : List Nat) (i : Nat) : Prop := ∀ k, k < i → bN l k = X.getD k 0
theorem beg_true {l : List UInt8} {X : List Nat} (h : X.length ≤ l.length) (hb : begU l X X.length) : begN l X = true := by
  unfold begN
  rw [Bool.and_eq_true]
  refine ⟨decide_eq_true h, List.all_eq_true.2 fun k hk => decide_eq_true (hb k (List.mem_range.1 hk))⟩
theorem beg_false {l : List UInt8} {X : List Nat} {k : Nat} (hk : k < X.length) (h : bN l k ≠ X.getD k 0) : begN l X = false := by
  unfold begN
  rw [Bool.and_eq_false_iff]
  right
  rw [List.all_eq_false]
  exact ⟨k, List.mem_range.2 hk, by simpa using h⟩
set_option maxHeartbeats 4000000 in
set_option maxRecDepth 100000 in
theorem beginsR6 (w : World) (l : List UInt8) (a : Option Addr) (n c : Nat) (X : List Nat) (hX : X.length = n) (hr : Reads w a n (X.map U1)) (hn : n ≤ 8) (hm : l.length ≤ 140737488355328) : Calls Tryd.prog 68 #[.string (bstr l), .slice a n c] w fun e w' => e = .returned (.bool (begN l X)) ∧ Quiet w w' := by
  have hsz : (bstr l).size = l.length := bstr_size l
  by_cases hll : l.length < n
  · have e : begN l X = false := by unfold begN; rw [decide_eq_false (by omega), Bool.false_and]
    have h1 : (l.length : Int) < (n : Int) := by omega
    rw [e]
    clear e hr
    go_enter Tryd.func68, Tryd.ntmps68
    go_wp2_with fail
    go_ret
    exact ⟨rfl, Quiet.refl _⟩
  have h1 : ¬ (l.length : Int) < (n : Int) := by omega
  have HX := Lib.hid hX
  have HR := Lib.hid hr
  clear hX hr
  go_enter Tryd.func68, Tryd.ntmps68
  go_wp2_with fail
  go_loopw [5] (fun ui wr => ∃ i : Nat, ui = .int .i64 (i : Int) ∧ i ≤ n ∧ Hid (begU l X i ∧ Quiet w wr)) (fun ui _ => n - (RowKit.intOf ui).toNat)
  case atStart => exact ⟨0, rfl, Nat.zero_le _, Lib.hid ⟨fun k hk => by omega, Quiet.refl _⟩⟩
  case round =>
    obtain ⟨i, rfl, hi, HI⟩ := hrel
    by_cases hlt : i < n
    · obtain ⟨y, hy, hby⟩ := byte_at (l := l) (i := i) (by omega)
      have i2 : i < (bstr l).size := by rw [hsz]; omega
      have hya : (bstr l)[i]'i2 = y := bstr_at hy _
      have hin : (i : Int) < (n : Int) := by omega
      have hil : (i : Int) < (l.length : Int) := by omega
      obtain ⟨b1, o1, x, rfl, hb1, hx, hcx⟩ := (HR.out.quiet HI.out.2).at (k := i) hlt
      rw [List.getElem?_map] at hx
      obtain ⟨z, hz⟩ : ∃ z, X.getD i 0 = z := ⟨_, rfl⟩
      have hxz : x = U1 z := by
        rw [List.getElem?_eq_getElem (by rw [HX.out]; exact hlt)] at hx
        have h2 := Option.some.inj hx
        rw [List.getD_eq_getElem?_getD, List.getElem?_eq_getElem (by rw [HX.out]; exact hlt)] at hz
        rw [← h2, ← hz]
        rfl
      subst hxz
      have HZ := Lib.hid hz
      have HBY := Lib.hid hby
      clear hx hz hby hy
      by_cases he : y.toNat = z
      · have hbe : ((y.toNat : Int) != (z : Int)) = false := by simp; omega
        have HE := Lib.hid he
        clear he
        go_wp2_with fail
        go_quiet (fail)
        go_wp2_with fail
        go_roundw
        case rel => exact ⟨i + 1, by go_num, by omega, Lib.hid ⟨fun k hk => by
          by_cases hki : k = i
          · rw [hki, HBY.out, HZ.out, HE.out]
          · exact HI.out.1 k (by omega), HI.out.2.drewN _⟩⟩
        case measure => simp [RowKit.intOf]; omega
      · have hbe : ((y.toNat : Int) != (z : Int)) = true := by simp; omega
        have e : begN l X = false := beg_false (k := i) (by rw [HX.out]; exact hlt) (by rw [HBY.out, HZ.out]; exact he)
        have HE := Lib.hid e
        clear e he
        go_wp2_with fail
        go_quiet (fail)
        go_wp2_with fail
        go_ret
        exact ⟨by rw [HE.out]; rfl, HI.out.2.drewN _⟩
    · obtain rfl : i = n := by omega
      have hnl : ¬ (i : Int) < (i : Int) := by omega
      have e : begN l X = true := beg_true (by rw [HX.out]; omega) (by rw [HX.out]; exact HI.out.1)
      have HE := Lib.hid e
      clear e hlt
      go_wp2_with fail
      go_ret
      exact ⟨by rw [HE.out]; rfl, HI.out.2⟩
theorem div_nat (n k : Nat) (hk : 0 < k) : (n : Int).tdiv (k : Int) = ((n / k : Nat) : Int) := by
  rw [Int.tdiv_eq_ediv_of_nonneg (by omega)]
  rfl
theorem mod_nat (n k : Nat) : (n : Int).tmod (k : Int) = ((n % k : Nat) : Int) := by
  rw [Int.tmod_eq_emod_of_nonneg (by omega)]
  rfl
theorem u_reads {W : World} {g : Nat} {t : TypeId} {xs : List Value} {X : List Nat} (hR : Row W g t xs) (hx : xs = X.map U1) : Reads W (some ⟨g, 0, none⟩) X.length (X.map U1) := by
  have := hR.reads 0 xs.length (by omega)
  rw [List.drop_zero, List.take_length] at this
  subst hx
  rwa [List.length_map] at this
def SeqR (w : World) (X : List Nat) (e : Ending) (w' : World) : Prop :=
  ∃ a, e = .returned (.slice a X.length X.length) ∧ Reads w' a X.length (X.map U1) ∧ Below w.heap.size w w'
set_option maxHeartbeats 4000000 in
set_option maxRecDepth 100000 in
theorem seqR6 (w : World) (n : Nat) (hn : n ≤ 1114111) : Calls Tryd.prog 69 #[.int .i32 (n : Int)] w (SeqR w (seqN n)) := by
  unfold seqN
  by_cases h1 : n < 128
  · rw [if_pos h1]
    have i1 : (n : Int) < 128 := by omega
    go_enter Tryd.func69, Tryd.ntmps69
    go_wp2_with fail
    go_ret
    exact ⟨_, rfl, u_reads (row_new w [U1 n] _) rfl, (Below.refl _ w).alloc (Nat.le_refl _) _⟩
  rw [if_neg h1]
  have i1 : ¬ (n : Int) < 128 := by omega
  by_cases h2 : n < 2048
  · rw [if_pos h2]
    have i2 : (n : Int) < 2048 := by omega
    have q1 := div_nat n 64 (by decide)
    have q2 := mod_nat n 64
    obtain ⟨q, hq⟩ : ∃ q, n / 64 = q := ⟨_, rfl⟩
    obtain ⟨r, hr⟩ : ∃ r, n % 64 = r := ⟨_, rfl⟩
    have hqb : q < 32 := by omega
    have hrb : r < 64 := by omega
    rw [hq] at q1 ⊢
    rw [hr] at q2 ⊢
    rw [show ((64 : Nat) : Int) = 64 from rfl] at q1 q2
    clear hq hr
    go_enter Tryd.func69, Tryd.ntmps69
    go_wp2_with fail
    go_ret
    exact ⟨_, rfl, u_reads (row_new w _ _) rfl, (Below.refl _ w).alloc (Nat.le_refl _) _⟩
  rw [if_neg h2]
  have i2 : ¬ (n : Int) < 2048 := by omega
  by_cases h3 : n < 65536
  · rw [if_pos h3]
    have i3 : (n : Int) < 65536 := by omega
    have q1 := div_nat n 4096 (by decide)
    have q3 := div_nat n 64 (by decide)
    have q2 := mod_nat n 64
    have q4 := mod_nat (n / 64) 64
    obtain ⟨q, hq⟩ : ∃ q, n / 4096 = q := ⟨_, rfl⟩
    obtain ⟨r, hr⟩ : ∃ r, n % 64 = r := ⟨_, rfl⟩
    obtain ⟨s, hs⟩ : ∃ s, n / 64 % 64 = s := ⟨_, rfl⟩
    obtain ⟨u, hu⟩ : ∃ u, n / 64 = u := ⟨_, rfl⟩
    have hqb : q < 16 := by omega
    have hrb : r < 64 := by omega
    have hsb : s < 64 := by omega
    have hub : u < 1024 := by omega
    rw [hq] at q1 ⊢
    rw [hr] at q2 ⊢
    rw [hs] at q4 ⊢
    rw [hu] at q3 q4
    rw [show ((64 : Nat) : Int) = 64 from rfl] at q2 q3 q4
    rw [show ((4096 : Nat) : Int) = 4096 from rfl] at q1
    clear hq hr hs hu
    go_enter Tryd.func69, Tryd.ntmps69
    go_wp2_with fail
    go_ret
    exact ⟨_, rfl, u_reads (row_new w _ _) rfl, (Below.refl _ w).alloc (Nat.le_refl _) _⟩
  rw [if_neg h3]
  have i3 : ¬ (n : Int) < 65536 := by omega
  have q1 := div_nat n 262144 (by decide)
  have q2 := mod_nat n 64
  have q3 := div_nat n 64 (by decide)
  have q4 := mod_nat (n / 64) 64
  have q5 := div_nat n 4096 (by decide)
  have q6 := mod_nat (n / 4096) 64
  obtain ⟨q, hq⟩ : ∃ q, n / 262144 = q := ⟨_, rfl⟩
  obtain ⟨r, hr⟩ : ∃ r, n % 64 = r := ⟨_, rfl⟩
  obtain ⟨s, hs⟩ : ∃ s, n / 64 % 64 = s := ⟨_, rfl⟩
  obtain ⟨t, ht⟩ : ∃ t, n / 4096 % 64 = t := ⟨_, rfl⟩
  obtain ⟨u, hu⟩ : ∃ u, n / 64 = u := ⟨_, rfl⟩
  obtain ⟨v, hv⟩ : ∃ v, n / 4096 = v := ⟨_, rfl⟩
  have hqb : q < 8 := by omega
  have hrb : r < 64 := by omega
  have hsb : s < 64 := by omega
  have htb : t < 64 := by omega
  have hub : u < 65536 := by omega
  have hvb : v < 65536 := by omega
  rw [hq] at q1 ⊢
  rw [hr] at q2 ⊢
  rw [hs] at q4 ⊢
  rw [ht] at q6 ⊢
  rw [hu] at q3 q4
  rw [hv] at q5 q6
  rw [show ((64 : Nat) : Int) = 64 from rfl] at q2 q3 q4 q6
  rw [show ((4096 : Nat) : Int) = 4096 from rfl] at q5
  rw [show ((262144 : Nat) : Int) = 262144 from rfl] at q1
  clear hq hr hs ht hu hv
  go_enter Tryd.func69, Tryd.ntmps69
  go_wp2_with fail
  go_ret
  exact ⟨_, rfl, u_reads (row_new w _ _) rfl, (Below.refl _ w).alloc (Nat.le_refl _) _⟩
end Go.Proofs.YtchdeboialbdiaaDoor
/- The reference's First. -/
namespace Go.Proofs.YtchdeboialbdiaaDoor
set_option linter.unusedVariables false
set_option linter.unusedSimpArgs false
open Go.RowKit
open Go.Lib hiding intOf
theorem seq_len (n : Nat) : (seqN n).length ≤ 4 := by
  unfold seqN
  repeat' split
  all_goals (simp only [List.length_cons, List.length_nil]; omega)
theorem may_nat {z : Int} (h : mayI z = true) : ∃ m : Nat, z = (m : Int) ∧ m ≤ 1114111 := by
  unfold mayI at h
  simp only [Bool.and_eq_true, decide_eq_true_iff] at h
  exact ⟨z.toNat, by omega, by omega⟩
set_option maxHeartbeats 4000000 in
set_option maxRecDepth 100000 in
theorem firstR6 (w : World) (l : List UInt8) (hl : l ≠ []) (hm : l.length ≤ 140737488355328) : Calls Tryd.prog 49 #[.string (bstr l)] w fun e w' => e = .returned (.tuple #[.int .i32 (firstR l).1, .int .i64 ((firstR l).2.1 : Int), .bool (firstR l).2.2]) ∧ Below w.heap.size w w' := by
  have h1 : 1 ≤ l.length := List.length_pos_iff.2 hl
  obtain ⟨⟨A, B, C⟩, hT⟩ : ∃ T, firstR l = T := ⟨_, rfl⟩
  rw [hT]
  have HT : Hid (firstGo l 4 1 = (A, B, C)) := Lib.hid hT
  have hnz : ((l.length : Int) == 0) = false := by rw [beq_eq_false_iff_ne]; omega
  have HNU := Lib.hid (fun (W : World) (k : Nat) (a : 1 ≤ k) (b : k ≤ 4) (c : k ≤ l.length) => numberR6 W l k a b c hm)
  have HBE := Lib.hid (fun (W : World) (a : Option Addr) (n : Nat) (X : List Nat) (hX : X.length = n) (hr : Reads W a n (X.map U1)) (hn : n ≤ 8) => beginsR6 W l a n n X hX hr hn hm)
  clear hT hl
  go_enter Tryd.func49, Tryd.ntmps49
  go_wp2_with fail
  go_loopw [5] (fun ui wr => ∃ k : Nat, ui = .int .i64 (k : Int) ∧ 1 ≤ k ∧ k ≤ 5 ∧ Hid (Below w.heap.size w wr ∧ firstGo l (5 - k) k = (A, B, C))) (fun ui _ => 5 - (RowKit.intOf ui).toNat)
  case atStart => exact ⟨1, rfl, Nat.le_refl _, by omega, Lib.hid ⟨Below.refl _ _, HT.out⟩⟩
  case round =>
    obtain ⟨k, rfl, hk1, hk5, HI⟩ := hrel
    by_cases hgo : k ≤ 4 ∧ k ≤ l.length
    · obtain ⟨hk4, hkl⟩ := hgo
      have hg := HI.out.2
      rw [show 5 - k = (4 - k) + 1 by omega, firstGo, if_pos ⟨hk4, hkl⟩] at hg
      have hk4i : (k : Int) ≤ 4 := by omega
      have hkli : (k : Int) ≤ (l.length : Int) := by omega
      have HN := Lib.hid (HNU.out wr k hk1 hk4 hkl)
      obtain ⟨z, hz⟩ : ∃ z, numI l k = z := ⟨_, rfl⟩
      have hc : condW l k = (mayI z && begN l (seqN z.toNat) && decide ((seqN z.toNat).length = k)) := by unfold condW; rw [hz]
      rw [hz] at HN hg
      rw [hc] at hg
      clear hc hz
      have HM := Lib.hid (fun W => mayR6 W z)
      obtain ⟨bm, hbm⟩ : ∃ b, mayI z = b := ⟨_, rfl⟩
      rw [hbm] at hg HM
      cases bm with
      | false =>
        rw [Bool.false_and, Bool.false_and, if_neg (by decide)] at hg
        have HG := Lib.hid hg
        clear hg hbm
        go_wp2_with (first
          | (go_at_call 67; refine (HN.out).mono ?_; rintro e w1 ⟨rfl, hq1⟩; have HQ1 := Lib.hid hq1; clear hq1)
          | (go_at_call 48; refine (HM.out _).mono ?_; rintro e w2 ⟨rfl, rfl⟩))
        go_roundw
        case rel => exact ⟨k + 1, by go_num, by omega, by omega, Lib.hid ⟨HI.out.1.trans (HQ1.out.below _), by rw [show 5 - (k + 1) = 4 - k by omega]; exact HG.out⟩⟩
        case measure => simp [RowKit.intOf]; omega
      | true =>
        obtain ⟨m, rfl, hmb⟩ := may_nat hbm
        rw [Int.toNat_natCast] at hg
        have hsq := fun W => seqR6 W m hmb
        have hsl := seq_len m
        obtain ⟨X, hX⟩ : ∃ X, seqN m = X := ⟨_, rfl⟩
        rw [hX] at hg hsq hsl
        obtain ⟨n0, hn0⟩ : ∃ n, X.length = n := ⟨_, rfl⟩
        unfold SeqR at hsq
        rw [hn0] at hg hsq hsl
        have HS := Lib.hid hsq
        have HN0 := Lib.hid hn0
        clear hsq hX hn0 hbm
        obtain ⟨bb, hbb⟩ : ∃ b, begN l X = b := ⟨_, rfl⟩
        have HB2 : Hid (∀ (W : World) (a : Option Addr) (hr : Reads W a n0 (X.map U1)), Calls Tryd.prog 68 #[.string (bstr l), .slice a n0 n0] W fun e w' => e = .returned (.bool bb) ∧ Quiet W w') := Lib.hid (fun W a hr => by have := HBE.out W a n0 X HN0.out hr (by omega); rw [hbb] at this; exact this)
        rw [hbb] at hg
        clear hbb
        cases bb with
        | false =>
          rw [Bool.and_false, Bool.false_and, if_neg (by decide)] at hg
          have HG := Lib.hid hg
          clear hg
          go_wp2_with (first
            | (go_at_call 67; refine (HN.out).mono ?_; rintro e w1 ⟨rfl, hq1⟩; have HQ1 := Lib.hid hq1; clear hq1)
            | (go_at_call 48; refine (HM.out _).mono ?_; rintro e w2 ⟨rfl, rfl⟩)
            | (go_at_call 69; refine (HS.out _).mono ?_; rintro e w3 ⟨a3, rfl, hr3, hb3⟩; have HR3 := Lib.hid hr3; have HB3 := Lib.hid hb3; clear hr3 hb3)
            | (go_at_call 68; refine (HB2.out _ _ HR3.out).mono ?_; rintro e w4 ⟨rfl, hq4⟩; have HQ4 := Lib.hid hq4; clear hq4))
          go_roundw
          case rel => exact ⟨k + 1, by go_num, by omega, by omega, Lib.hid ⟨((HI.out.1.trans (HQ1.out.below _)).trans (HB3.out.mono (HI.out.1.trans (HQ1.out.below _)).size)).trans (HQ4.out.below _), by rw [show 5 - (k + 1) = 4 - k by omega]; exact HG.out⟩⟩
          case measure => simp [RowKit.intOf]; omega
        | true =>
          by_cases hnk : n0 = k
          · have hq : ((n0 : Int) == (k : Int)) = true := by rw [beq_iff_eq]; omega
            rw [decide_eq_true hnk, if_pos (by decide)] at hg
            have HG := Lib.hid hg
            clear hg hnk
            go_wp2_with (first
              | (go_at_call 67; refine (HN.out).mono ?_; rintro e w1 ⟨rfl, hq1⟩; have HQ1 := Lib.hid hq1; clear hq1)
              | (go_at_call 48; refine (HM.out _).mono ?_; rintro e w2 ⟨rfl, rfl⟩)
              | (go_at_call 69; (with_reducible show Calls _ _ _ w2 _); refine (HS.out _).mono ?_; rintro e w3 ⟨a3, rfl, hr3, hb3⟩; have HR3 := Lib.hid hr3; have HB3 := Lib.hid hb3; clear hr3 hb3)
              | (go_at_call 68; refine (HB2.out _ _ HR3.out).mono ?_; rintro e w4 ⟨rfl, hq4⟩; have HQ4 := Lib.hid hq4; clear hq4)
              | (go_at_call 69; (with_reducible show Calls _ _ _ w4 _); refine (HS.out _).mono ?_; rintro e w5 ⟨a5, rfl, hr5, hb5⟩; have HB5 := Lib.hid hb5; clear hr5 hb5))
            go_ret3
            have hw4 := ((HI.out.1.trans (HQ1.out.below _)).trans (HB3.out.mono (HI.out.1.trans (HQ1.out.below _)).size)).trans (HQ4.out.below _)
            have hg := HG.out
            simp only [Prod.mk.injEq] at hg
            obtain ⟨g1, g2, g3⟩ := hg
            subst g1 g2 g3
            exact ⟨rfl, hw4.trans (HB5.out.mono hw4.size)⟩
          · have hq : ((n0 : Int) == (k : Int)) = false := by rw [beq_eq_false_iff_ne]; omega
            rw [decide_eq_false hnk, if_neg (by decide)] at hg
            have HG := Lib.hid hg
            clear hg hnk
            go_wp2_with (first
              | (go_at_call 67; refine (HN.out).mono ?_; rintro e w1 ⟨rfl, hq1⟩; have HQ1 := Lib.hid hq1; clear hq1)
              | (go_at_call 48; refine (HM.out _).mono ?_; rintro e w2 ⟨rfl, rfl⟩)
              | (go_at_call 69; (with_reducible show Calls _ _ _ w2 _); refine (HS.out _).mono ?_; rintro e w3 ⟨a3, rfl, hr3, hb3⟩; have HR3 := Lib.hid hr3; have HB3 := Lib.hid hb3; clear hr3 hb3)
              | (go_at_call 68; refine (HB2.out _ _ HR3.out).mono ?_; rintro e w4 ⟨rfl, hq4⟩; have HQ4 := Lib.hid hq4; clear hq4)
              | (go_at_call 69; (with_reducible show Calls _ _ _ w4 _); refine (HS.out _).mono ?_; rintro e w5 ⟨a5, rfl, hr5, hb5⟩; have HB5 := Lib.hid hb5; clear hr5 hb5))
            have hw4 := ((HI.out.1.trans (HQ1.out.below _)).trans (HB3.out.mono (HI.out.1.trans (HQ1.out.below _)).size)).trans (HQ4.out.below _)
            have HW5 := Lib.hid (hw4.trans (HB5.out.mono hw4.size))
            clear hw4
            go_roundw
            case rel => exact ⟨k + 1, by go_num, by omega, by omega, Lib.hid ⟨HW5.out, by rw [show 5 - (k + 1) = 4 - k by omega]; exact HG.out⟩⟩
            case measure => simp [RowKit.intOf]; omega
    · have hg := HI.out.2
      have hT2 : (A, B, C) = ((65533 : Int), 1, false) := by
        rw [← hg]
        cases hf : 5 - k with
        | zero => rfl
        | succ f => rw [firstGo, if_neg hgo]
      simp only [Prod.mk.injEq] at hT2
      obtain ⟨g1, g2, g3⟩ := hT2
      subst g1 g2 g3
      clear hg
      by_cases hk4 : k ≤ 4
      · have hk4i : (k : Int) ≤ 4 := by omega
        have hkli : ¬ (k : Int) ≤ (l.length : Int) := by omega
        have hkli2 : (l.length : Int) < (k : Int) := by omega
        go_wp2_with fail
        go_ret3
        exact ⟨rfl, HI.out.1⟩
      · have hk4i : ¬ (k : Int) ≤ 4 := by omega
        have hk4j : (4 : Int) < (k : Int) := by omega
        go_wp2_with fail
        go_ret3
        exact ⟨rfl, HI.out.1⟩
end Go.Proofs.YtchdeboialbdiaaDoor
