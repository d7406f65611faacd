/- GapKnown: the examples of the chapter; blocks with one flaw; a nil gap, and one that no call made. -/
import Derived.Test.YtpafdemnnofihaaLGapOne
import Derived.Test.YtpafdemnnofihaaLGapOpens
import Derived.Test.YtpafdemnnofihaaLGapPlays
import Derived.Test.YtpafdemnnofihaaLGapGoes
import Derived.Test.YtpafdemnnofihaaHeads
import Derived.Test.YtpafdemnnofihaaTwo
import Derived.Deep.DeepCutAuto
namespace Go.Proofs.Ytpafdemnnofihaa
open Go.RowKit
set_option maxHeartbeats 8000000 in
set_option maxRecDepth 100000 in
theorem gapKnown_walk (w : World) : Calls Try.prog 7 #[] w fun e w' => e = .returned (.bool true) ∧ Below w.heap.size w w' := by
  obtain ⟨i0, hi, hz0, hz1, hz2⟩ := info_parts Try.infoU8
  go_enter Try.func7, Try.ntmps7
  go_wp2_with (at_make; refine wpList_make_row w rfl _ _ 22 rfl 5 i0 (.int .u8 0) Try.underlying22 hi hz0 hz1 rfl .i64 .i64 253 253 253 253 rfl rfl rfl rfl (Nat.le_refl _) (by rw [hz2]; decide) (by unfold maxLen; decide) w.heap.size w (Below.refl _ _) (Nat.le_refl _) ?_; intro w1 hrow1 hb1)
  have z1 := hb1.size
  have HR1 : Hid (∃ xs : List UInt8, xs.length = 253 ∧ Row w1 w.heap.size 5 (xs.map B8)) := ⟨List.replicate 253 0, by simp, by simpa [B8] using hrow1⟩
  have B1 := Lib.hid hb1
  clear hrow1 hb1
  go_loopw [2] (fun x wr => ∃ k : Nat, k ≤ 253 ∧ x = .int .i64 k ∧ Hid (∃ xs : List UInt8, xs.length = 253 ∧ Row wr w.heap.size 5 (xs.map B8)) ∧ Hid (Below w.heap.size w wr) ∧ w.heap.size ≤ wr.heap.size) (fun x _ => 253 - (intOf x).toNat)
  case atStart => exact ⟨0, Nat.zero_le _, rfl, HR1, B1, z1⟩
  case round =>
    clear HR1 B1 z1
    obtain ⟨k, hk, rfl, HR, HB, zr⟩ := hrel
    obtain ⟨xs, hxl, hr0⟩ := HR.out
    have HX := Lib.hid hxl
    have HR0 := Lib.hid hr0
    clear hxl hr0 HR
    by_cases hlt : k < 253
    · have hcell : wr.cell? ⟨w.heap.size, k, none⟩ = some (B8 (xs[k]'(by rw [HX.out]; exact hlt))) := by rw [HR0.out.cell]; simp [HX.out, hlt]
      have hfr := HR0.out.frozen k
      go_wp2
      go_roundw
      case rel =>
        refine ⟨k + 1, by omega, by go_num, ?_, HB.out.setCell (Nat.le_refl _) _, by rw [World.size_setCell]; exact zr⟩
        obtain ⟨ys, hy1, hy2⟩ := set_b8 xs k ((k : Int) + 1) (by omega) (by omega)
        refine ⟨ys, by rw [hy1, HX.out], ?_⟩
        rw [← hy2]
        exact HR0.out.set k _
      case measure => simp [intOf]; omega
    · have hk32 : k = 253 := by omega
      clear hk32
      have hc1 : (convert 22 9 (.slice (some ⟨w.heap.size, 0, none⟩) 251 253)).run Try.prog wr.drew = .ok (.string (bstr (xs.take 251))) wr.drew :=
        run_bytes_str _ _ _ _ Try.underlying22 Try.underlying5 Try.underlying9 _ _ _ _ (by
          have := (show Row wr.drew _ _ _ from HR0.out).reads 0 251 (by rw [List.length_map, HX.out]; omega)
          simpa using this)
      have hc2 : (convert 22 9 (.slice (some ⟨w.heap.size, 0, none⟩) 252 253)).run Try.prog wr.drew = .ok (.string (bstr (xs.take 252))) wr.drew :=
        run_bytes_str _ _ _ _ Try.underlying22 Try.underlying5 Try.underlying9 _ _ _ _ (by
          have := (show Row wr.drew _ _ _ from HR0.out).reads 0 252 (by rw [List.length_map, HX.out]; omega)
          simpa using this)
      have hc3 : (convert 22 9 (.slice (some ⟨w.heap.size, 0, none⟩) 253 253)).run Try.prog wr.drew = .ok (.string (bstr xs)) wr.drew :=
        run_bytes_str _ _ _ _ Try.underlying22 Try.underlying5 Try.underlying9 _ _ _ _ (by
          have := (show Row wr.drew _ _ _ from HR0.out).reads 0 253 (by rw [List.length_map, HX.out]; omega)
          rw [List.take_of_length_le (by simp [HX.out])] at this
          simpa using this)
      have hl1 : (xs.take 251).length ≤ 253 := by simp; omega
      have hl2 : (xs.take 252).length ≤ 253 := by simp; omega
      have hl3 : xs.length ≤ 253 := by rw [HX.out]; exact Nat.le_refl _
      have HL1 := Lib.hid hl1
      have HL2 := Lib.hid hl2
      have HL3 := Lib.hid hl3
      generalize xs.take 251 = X1 at hc1 HL1
      generalize xs.take 252 = X2 at hc2 HL2
      generalize xs = X3 at hc3 HL3
      clear hl1 hl2 hl3
      go_wp2
      go_still_tail 8, (by kernel_rfl)
      change wpList _ _ _ _ _ wr.drew
      have B2 : Hid (Below w.heap.size w wr.drew) := HB.out.drew
      have z2 : w.heap.size ≤ wr.drew.heap.size := zr
      generalize wr.drew = w2 at B2 z2 ⊢
      clear hc1 hc2 hc3
      go_wp2
      obtain ⟨XS, hXS⟩ : ∃ XS : List (List UInt8), [[], [97, 98, 99], X1, X2, X3] = XS := ⟨_, rfl⟩
      have hxl : ∀ x ∈ XS, x.length ≤ 253 := by
        rw [← hXS]
        intro x hx
        have e1 := HL1.out
        have e2 := HL2.out
        have e3 := HL3.out
        simp at hx
        rcases hx with rfl | rfl | rfl | rfl | rfl
        · decide
        · decide
        · exact e1
        · exact e2
        · exact e3
      have hxn : XS.length = 5 := by rw [← hXS]; rfl
      have HXL := Lib.hid hxl
      have HXN := Lib.hid hxn
      have hrT : Row (w2.alloc (.cells #[.string (bstr []), .string (bstr [97, 98, 99]), .string (bstr X1), .string (bstr X2), .string (bstr X3)] 9)) w2.heap.size 9 (XS.map fun l => .string (bstr l)) := by rw [← hXS]; exact row_new w2 _ _
      have HRT := Lib.hid hrT
      have B3 := Lib.hid (B2.out.alloc z2 (.cells #[.string (bstr []), .string (bstr [97, 98, 99]), .string (bstr X1), .string (bstr X2), .string (bstr X3)] 9))
      have z3 : w.heap.size ≤ (w2.alloc (.cells #[.string (bstr []), .string (bstr [97, 98, 99]), .string (bstr X1), .string (bstr X2), .string (bstr X3)] 9)).heap.size := by simp; omega
      clear hxl hxn hrT hXS HL1 HL2 HL3 HX HR0 HB hlt zr
      go_loopw [4, 5] (fun x _ wq => ∃ k : Nat, k ≤ 5 ∧ x = .int .i64 k ∧ Hid (Row wq w2.heap.size 9 (XS.map fun l => .string (bstr l))) ∧ Hid (Below w.heap.size w wq) ∧ w.heap.size ≤ wq.heap.size) (fun x _ _ => 5 - (intOf x).toNat)
      case atStart => exact ⟨0, Nat.zero_le _, rfl, HRT, B3, z3⟩
      case round =>
        clear HRT B3 z3 B2
        obtain ⟨k, hk, rfl, HT, HB, zq⟩ := hrel
        by_cases hlt : k < 5
        · obtain ⟨m, hm⟩ : ∃ m, k + m = 4 := ⟨4 - k, by omega⟩
          obtain ⟨A, hA⟩ : ∃ A, XS[k]? = some A := ⟨_, List.getElem?_eq_getElem (by rw [HXN.out]; exact hlt)⟩
          obtain ⟨B, hB⟩ : ∃ B, XS[m]? = some B := ⟨_, List.getElem?_eq_getElem (by rw [HXN.out]; omega)⟩
          have hlA := HXL.out A (List.mem_of_getElem? hA)
          have hlB := HXL.out B (List.mem_of_getElem? hB)
          have cA : wr.cell? ⟨w2.heap.size, k, none⟩ = some (.string (bstr A)) := by rw [HT.out.cell]; simp [hA]
          have cB : wr.cell? ⟨w2.heap.size, m, none⟩ = some (.string (bstr B)) := by rw [HT.out.cell]; simp [hB]
          have hmb : (m : Int) < 5 := by omega
          have hm2 : IntKind.i64.wrap (IntKind.i64.wrap 4 - (k : Int)) = (m : Int) := by rw [show IntKind.i64.wrap 4 = 4 from by decide, show (4 : Int) - (k : Int) = (m : Int) by omega]; exact IntWalk.i64_in _ (by omega)
          have hA' := Lib.hid hA
          have hB' := Lib.hid hB
          clear hA hB
          go_wp2
          have hr3 : Row (wr.alloc (.cells (script17.flatMap StepL.cells).toArray 41)) wr.heap.size 41 (script17.flatMap StepL.cells) := row_new wr _ _
          have hb3 : Below w.heap.size w (wr.alloc (.cells (script17.flatMap StepL.cells).toArray 41)) := HB.out.alloc zq _
          have ht3 : Row (wr.alloc (.cells (script17.flatMap StepL.cells).toArray 41)) w2.heap.size 9 (XS.map fun l => .string (bstr l)) := HT.out.keep ((Below.refl _ wr).alloc (Nat.le_refl _) _) HT.out.lt
          change Code.wp _ _ _ _ (wr.alloc (.cells (script17.flatMap StepL.cells).toArray 41))
          have cA0 := ((Below.refl wr.heap.size wr).alloc (Nat.le_refl _) (.cells (script17.flatMap StepL.cells).toArray 41)).cell (p := ⟨w2.heap.size, k, none⟩) HT.out.lt
          have cB0 := ((Below.refl wr.heap.size wr).alloc (Nat.le_refl _) (.cells (script17.flatMap StepL.cells).toArray 41)).cell (p := ⟨w2.heap.size, m, none⟩) HT.out.lt
          rw [cA] at cA0
          rw [cB] at cB0
          generalize (wr.alloc (.cells (script17.flatMap StepL.cells).toArray 41)) = w3 at hr3 hb3 ht3 cA0 cB0 ⊢
          have S0 : Hid (Row w3.drew wr.heap.size 41 (script17.flatMap StepL.cells)) := hr3
          have T0 : Hid (Row w3.drew w2.heap.size 9 (XS.map fun l => .string (bstr l))) := ht3
          have B0 : Hid (Below w.heap.size w w3.drew) := hb3.drew
          have CA : Hid (∀ w', Row w' w2.heap.size 9 (XS.map fun l => .string (bstr l)) → w'.cell? ⟨w2.heap.size, k, none⟩ = some (.string (bstr A))) := fun w' h => by rw [h.cell]; simp [hA'.out]
          have CB : Hid (∀ w', Row w' w2.heap.size 9 (XS.map fun l => .string (bstr l)) → w'.cell? ⟨w2.heap.size, m, none⟩ = some (.string (bstr B))) := fun w' h => by rw [h.cell]; simp [hB'.out]
          clear hr3 hb3 ht3 cA cB hA' hB'
          go_region_held3 (fun w' => w'.cell? ⟨w2.heap.size, k, none⟩ = some (.string (bstr A)) ∧ w'.cell? ⟨w2.heap.size, m, none⟩ = some (.string (bstr B))) (first | exact ⟨cA0, cB0⟩ | exact ⟨cA1, cB1⟩ | exact ⟨cA2, cB2⟩ | exact ⟨cA3, cB3⟩)
            (first
              | (go_at_call 6; refine (gapPlays_walk _ A B (by omega) (by omega) _ 17 17 script17 (reads_steps_row S0.out) (by decide) script17_fine _ 17 17 script17 (reads_steps_row S0.out) (by decide) script17_fine).mono ?_; rintro e v1 ⟨rfl, hb⟩; have S1 := Lib.hid (S0.out.keep hb S0.out.lt); have T1 := Lib.hid (T0.out.keep hb T0.out.lt); have B1 := Lib.hid (B0.out.trans (hb.mono B0.out.size)); have cA1 := CA.out _ T1.out; have cB1 := CB.out _ T1.out; clear hb)
              | (go_at_call 4; refine (gapGoes_walk _ A (by omega) _ 17 17 script17 (reads_steps_row S1.out) (by decide) script17_fine).mono ?_; rintro e v2 ⟨rfl, hb⟩; have S2 := Lib.hid (S1.out.keep hb S1.out.lt); have T2 := Lib.hid (T1.out.keep hb T1.out.lt); have B2 := Lib.hid (B1.out.trans (hb.mono B1.out.size)); have cA2 := CA.out _ T2.out; have cB2 := CB.out _ T2.out; clear hb)
              | (go_at_call 5; refine (gapOne_walk _ A (by omega) 100 (by decide)).mono ?_; rintro e v3 ⟨rfl, hb⟩; have T3 := Lib.hid (T2.out.keep hb T2.out.lt); have B3 := Lib.hid (B2.out.trans (hb.mono B2.out.size)); have cA3 := CA.out _ T3.out; have cB3 := CB.out _ T3.out; clear hb))
          go_wp2
          go_roundw
          case rel => exact ⟨k + 1, by omega, by go_num, T3, B3, B3.out.size⟩
          case measure => simp [intOf]; omega
        · have hk5 : k = 5 := by omega
          subst hk5
          clear hlt
          have B4 := HB
          generalize hw4 : wr = w4 at HB B4 zq ⊢
          clear hw4 HT
          go_wp2_with (at_make; refine wpList_make_row w4 rfl _ _ 22 rfl 5 i0 (.int .u8 0) Try.underlying22 hi hz0 hz1 rfl .i64 .i64 256 256 256 256 rfl rfl rfl rfl (Nat.le_refl _) (by rw [hz2]; decide) (by unfold maxLen; decide) w4.heap.size w4 (Below.refl _ _) (Nat.le_refl _) ?_; intro w5 hrow5 hb5)
          have B5 := Lib.hid (HB.out.trans (hb5.mono zq))
          have z5 := hb5.size
          obtain ⟨Z, hZ⟩ : ∃ Z : List UInt8, List.replicate 256 (0 : UInt8) = Z := ⟨_, rfl⟩
          have hzl : Z.length = 256 := by rw [← hZ]; simp
          have HZ := Lib.hid hzl
          have R5 : Hid (Row w5 w4.heap.size 5 (Z.map B8)) := by
            have : Z.map B8 = List.replicate 256 (.int .u8 0) := by rw [← hZ]; simp [B8]
            rw [Hid, this]; exact hrow5
          have hg4 := zq
          clear hrow5 hb5 HB B4 hzl hZ HXL HXN z2 z5
          refine (gapOpens_walk _ _ 256 256 _ (row_pre R5.out 256 (by rw [HZ.out]; exact Nat.le_refl _)) (Nat.le_refl _) (by unfold maxLen; decide) (by decide)).mono ?_
          rintro e w6 ⟨rfl, hb⟩
          have R6 := Lib.hid (R5.out.keep hb R5.out.lt)
          have B6 := Lib.hid (B5.out.trans (hb.mono B5.out.size))
          clear hb
          go_wp2_with fail
          refine (gapOpens_walk _ _ 255 256 _ (row_pre R6.out 255 (by rw [HZ.out]; decide)) (by decide) (by unfold maxLen; decide) (by decide)).mono ?_
          rintro e w7 ⟨rfl, hb⟩
          have R7 := Lib.hid (R6.out.keep hb R6.out.lt)
          have B7 := Lib.hid (B6.out.trans (hb.mono B6.out.size))
          have O7 := Lib.hid (own_of_row (n := 256) R7.out hg4 (by rw [List.length_map, HZ.out]) (by unfold maxLen; decide))
          have z7 := B7.out.size
          clear hb
          go_wp2_with (at_builtin; refine wpList_bare (by first | rfl | kernel_rfl | simp [Region.wanted, yielded]) ?_; refine wpList_append_own _ rfl _ _ 22 rfl w.heap.size 5 i0 (.int .u8 0) 1 1 Try.underlying22 hi hz0 hz1 hz2 rfl (by decide) _ _ _ rfl (O7.out.alloc _) ⟨w7.heap.size, 0, none⟩ 1 1 [.int .u8 0] rfl rfl (cell_one_new _ _ _) (by simp [Value.oneCell']) (by unfold maxLen; omega) (by omega) (by simp; omega) ?_; intro v' w8 hown8 hgrow8 _)
          have B8' := Lib.hid (below_append B7.out z7 O7.out hgrow8)
          obtain ⟨a8, c8, rfl, hr8, hle8, hcm8⟩ := reads_of_own hown8
          have hr8' : Reads w8 a8 257 ((Z ++ [0]).map B8) := by rw [List.map_append]; exact hr8
          have HR8 := Lib.hid hr8'
          clear hown8 hgrow8 hr8 hr8' R5 R6 R7 O7 B5 B6
          go_wp2_with fail
          refine (gapOpens_walk _ a8 257 c8 _ HR8.out hle8 hcm8 (by decide)).mono ?_
          rintro e w9 ⟨rfl, hb⟩
          have B9 := Lib.hid (B8'.out.trans (hb.mono B8'.out.size))
          clear hb
          go_wp2_with fail
          refine (gapOpens_walk _ none 0 0 [] (Reads.nil _ _) (Nat.le_refl _) (by unfold maxLen; decide) (by decide)).mono ?_
          rintro e w10 ⟨rfl, hb⟩
          have B10 := Lib.hid (B9.out.trans (hb.mono B9.out.size))
          have z10 := B10.out.size
          clear hb B9 HR8 B7 B8'
          go_wp2_with fail
          change Code.wp _ _ _ _ (headsW w10)
          obtain ⟨s1, s2, s3, s4⟩ := headsW_facts w10
          have B11 : Hid (Below w.heap.size w (headsW w10)) := B10.out.trans (s2.mono z10)
          have HR := Lib.hid s3
          have HS := Lib.hid s4
          clear s2 s3 s4 B10
          generalize headsW w10 = w11 at s1 B11 HR HS ⊢
          have z11 : w.heap.size ≤ w11.heap.size := by omega
          clear s1
          generalize hgh : w10.heap.size + 1 + 1 + 1 + 1 + 1 + 1 + 1 + 1 = gh
          have hgh8 : w10.heap.size + 8 = gh := hgh
          rw [hgh8] at HS
          clear hgh hgh8
          go_loopw [8, 9, 10] (fun x _ _ wq => ∃ i : Nat, i ≤ 8 ∧ x = .int .i64 i ∧ Hid (Below w11.heap.size w11 wq)) (fun x _ _ _ => 8 - (intOf x).toNat)
          case atStart => exact ⟨0, Nat.zero_le _, rfl, Below.refl _ _⟩
          case round =>
            obtain ⟨i, hi8, rfl, HB⟩ := hrel
            by_cases hlt : i < 8
            · obtain ⟨l, hl⟩ : ∃ l, headsL[i]? = some l := ⟨_, List.getElem?_eq_getElem (by simpa [headsL] using hlt)⟩
              have hi8' : (i : Int) < 8 := by omega
              have hl4 := headsL_len l (List.mem_of_getElem? hl)
              have HL4 := Lib.hid hl4
              have hRl := HR.out i l hl
              have hRi : w11.cell? ⟨gh, i, none⟩ = some (.slice (some ⟨w10.heap.size + i, 0, none⟩) 4 4) := by rw [HS.out.cell]; simp [hlt]
              have lgi := hRl.lt
              generalize w10.heap.size + i = gi at hRl hRi lgi
              have HRL := Lib.hid hRl
              have HRI := Lib.hid hRi
              have lgh : gh < w11.heap.size := HS.out.lt
              obtain ⟨wq, rfl⟩ : ∃ wq : World, wq = wr := ⟨_, rfl⟩
              clear hl hRl hRi hl4
              go_wp2
              go_loopw [9, 10] (fun y _ wp => ∃ j : Nat, j ≤ 52 ∧ y = .int .i64 ((5 * j : Nat) : Int) ∧ Hid (Below w11.heap.size w11 wp)) (fun y _ _ => (260 - intOf y).toNat)
              case atStart => exact ⟨0, Nat.zero_le _, rfl, HB⟩
              case round =>
                obtain ⟨j, hj, rfl, HP⟩ := hrel
                by_cases hlt2 : j < 52
                · obtain ⟨q, hq⟩ : ∃ q : Nat, 5 * j = q := ⟨_, rfl⟩
                  rw [hq]
                  have hq256 : (q : Int) < 256 := by omega
                  have c0 : wr.cell? ⟨gh, i, none⟩ = some (.slice (some ⟨gi, 0, none⟩) 4 4) := (HP.out.cell (p := ⟨gh, i, none⟩) lgh).trans HRI.out
                  obtain ⟨wm, hmk, hzm, hbm⟩ := make252 wr.drew
                  have BM : Hid (Below w11.heap.size w11 wm) := (HP.out.drew).trans (hbm.mono HP.out.size)
                  have HZM : Hid (Reads wm (some ⟨wr.heap.size, 0, none⟩) 252 ((List.replicate 252 (0 : UInt8)).map B8)) := hzm
                  have HRM : Hid (Reads wm (some ⟨gi, 0, none⟩) 4 (l.map B8)) := by
                    have h := row_pre (HRL.out.keep BM.out lgi) 4 (by rw [HL4.out]; exact Nat.le_refl _)
                    rwa [List.take_of_length_le (by rw [HL4.out]; exact Nat.le_refl _)] at h
                  have c0m : wm.cell? ⟨gh, i, none⟩ = some (.slice (some ⟨gi, 0, none⟩) 4 4) := (BM.out.cell (p := ⟨gh, i, none⟩) lgh).trans HRI.out
                  clear hzm hbm
                  go_upto_region 23 with fail
                  go_cut [10] (fun v wc => ∃ (g c : Nat) (pad : List Value), v = .slice (some ⟨g, 0, none⟩) 256 c ∧ Hid (256 ≤ c ∧ c ≤ maxLen) ∧ Hid (Row wc g 5 ((l ++ List.replicate 252 0).map B8 ++ pad)) ∧ w11.heap.size ≤ g ∧ Hid (Below w11.heap.size w11 wc))
                  case first =>
                    go_region_with (go_at_call 28; refine (two _ _ _ 4 252 4 252 l (List.replicate 252 0) HRM.out HZM.out (Nat.le_refl _) (by unfold maxLen; decide) (Nat.le_refl _) (by unfold maxLen; decide) (by decide)).mono ?_; rintro e wt ⟨vt, rfl, hown, hbt⟩; obtain ⟨g, cg, rfl⟩ := own_pos1 hown (by decide); obtain ⟨pad, hrow, hg0⟩ := row_of_own hown; obtain ⟨a_, c_, hv_, hr_, hcc, hcm⟩ := reads_of_own hown; have HHCC : Hid (256 ≤ cg ∧ cg ≤ maxLen) := (by cases hv_; exact ⟨hcc, hcm⟩); have HHROW := Lib.hid hrow; have BT := Lib.hid (BM.out.trans (hbt.mono BM.out.size)); have hg1 := Nat.le_trans BM.out.size hg0; clear hown hbt hrow hg0 hv_ hr_ hcc hcm)
                    all_goals
                      go_wp2_with fail
                      (try simp only [Act.put, List.getElem_toArray, List.getElem_cons_zero, List.getElem_cons_succ, List.setIfInBounds_toArray, List.set_cons_zero, List.set_cons_succ])
                      go_meet
                      case rel => exact ⟨g, cg, pad, rfl, HHCC, HHROW, hg1, BT⟩
                  obtain ⟨g, cc, pad, rfl, HCC, HROW, hgw, HPC⟩ := hcut
                  clear hmk c0m HRM HZM BM c0 HP
                  have hDl : (l ++ List.replicate 252 (0 : UInt8)).length = 256 := by simp [HL4.out]
                  obtain ⟨D, hD⟩ : ∃ D, l ++ List.replicate 252 (0 : UInt8) = D := ⟨_, rfl⟩
                  rw [hD] at HROW hDl
                  clear hD
                  obtain ⟨x, hx⟩ : ∃ x, D[q]? = some x := ⟨_, List.getElem?_eq_getElem (by omega)⟩
                  obtain ⟨y, hy⟩ := xor_one x
                  have hcx : wc.cell? ⟨g, q, none⟩ = some (.int .u8 (x.toNat : Nat)) := by
                    rw [HROW.out.cell, List.getElem?_append_left (by rw [List.length_map]; omega), List.getElem?_map, hx]
                    rfl
                  have hfx : wc.frozen? ⟨g, q, none⟩ = false := HROW.out.frozen _
                  have HDL := Lib.hid hDl
                  clear hx hDl
                  go_wp2
                  have HR2 : Hid (Row (wc.setCell ⟨g, q, none⟩ (B8 y)) g 5 ((D.set q y).map B8 ++ pad)) := row_over1 HROW.out (by rw [HDL.out]; omega) y
                  have BC : Hid (Below w11.heap.size w11 (wc.setCell ⟨g, q, none⟩ (B8 y))) := HPC.out.setCell hgw _
                  change Code.wp _ _ _ _ (wc.setCell ⟨g, q, none⟩ (B8 y))
                  generalize wc.setCell ⟨g, q, none⟩ (B8 y) = wd at HR2 BC ⊢
                  have HD2 : Hid (Reads wd.drew (some ⟨g, 0, none⟩) 256 ((D.set q y).map B8)) := row_front1 (show Row wd.drew g _ _ from HR2.out) (by rw [List.length_set, HDL.out])
                  have BD : Hid (Below w11.heap.size w11 wd.drew) := BC.out.drew
                  have d0 : wd.cell? ⟨gh, i, none⟩ = some (.slice (some ⟨gi, 0, none⟩) 4 4) := (BC.out.cell (p := ⟨gh, i, none⟩) lgh).trans HRI.out
                  clear hcx hfx hy HROW HPC BC HR2
                  go_region_with (first
                    | (go_at_call_of 3 (Value.slice (some ⟨g, 0, none⟩) 256 cc); refine (gapOpens_walk _ _ 256 cc _ HD2.out HCC.out.1 HCC.out.2 (by decide)).mono ?_; rintro e we ⟨rfl, hb⟩; have BE := Lib.hid (BD.out.trans (hb.mono BD.out.size)); clear hb HD2; obtain ⟨wn, hmk, hzm, hbm⟩ := make252 we; have BN : Hid (Below w11.heap.size w11 wn) := BE.out.trans (hbm.mono BE.out.size); have HZM := Lib.hid hzm; have HRM : Hid (Reads wn (some ⟨gi, 0, none⟩) 4 (l.map B8)) := (by have h := row_pre (HRL.out.keep BN.out lgi) 4 (by rw [HL4.out]; exact Nat.le_refl _); rwa [List.take_of_length_le (by rw [HL4.out]; exact Nat.le_refl _)] at h); have d1 : we.cell? ⟨gh, i, none⟩ = some (.slice (some ⟨gi, 0, none⟩) 4 4) := (BE.out.cell (p := ⟨gh, i, none⟩) lgh).trans HRI.out; have d2 : wn.cell? ⟨gh, i, none⟩ = some (.slice (some ⟨gi, 0, none⟩) 4 4) := (BN.out.cell (p := ⟨gh, i, none⟩) lgh).trans HRI.out; clear hzm hbm)
                    | (go_at_call 28; refine (two _ _ _ 4 252 4 252 l (List.replicate 252 0) HRM.out HZM.out (Nat.le_refl _) (by unfold maxLen; decide) (Nat.le_refl _) (by unfold maxLen; decide) (by decide)).mono ?_; rintro e wt ⟨vt, rfl, hown, hbt⟩; obtain ⟨at_, ct, rfl, hrt, hct, hcmt⟩ := reads_of_own hown; have HRT := Lib.hid hrt; have BT := Lib.hid (BN.out.trans (hbt.mono BN.out.size)); clear hown hbt hrt)
                    | (go_at_call 3; refine (gapOpens_walk _ _ 256 ct _ HRT.out hct hcmt (by decide)).mono ?_; rintro e wu ⟨rfl, hb⟩; have BU := Lib.hid (BT.out.trans (hb.mono BT.out.size)); clear hb))
                  all_goals
                    go_wp2
                    go_roundw
                    case rel =>
                      (repeat apply Exists.intro)
                      exact ⟨(by omega : j + 1 ≤ 52), (by rw [show 5 * (j + 1) = q + 5 by omega]; try go_num), BU⟩
                    case measure => simp [intOf]; omega
                · obtain ⟨q, hq⟩ : ∃ q : Nat, 5 * j = q := ⟨_, rfl⟩
                  rw [hq]
                  have hq256 : (256 : Int) ≤ q := by omega
                  go_wp2
                  go_roundw
                  case rel => exact ⟨i + 1, by omega, by go_num, HP⟩
                  case measure => simp [intOf]; omega
            · have hi : i = 8 := by omega
              subst hi
              have BZ := Lib.hid (B11.out.trans (HB.out.mono z11))
              have zz := BZ.out.size
              go_wp2_with fail
              refine (nothingC _ _ (Or.inl rfl)).mono ?_
              rintro e wa ⟨rfl, hwa⟩
              subst hwa
              go_wp2_with ((with_reducible show wpList _ _ _ (Oper.mk (some 162) _ _ _ _ _ :: _) _ _); go_must (refine wpList_bare (by first | rfl | kernel_rfl | simp [Region.wanted, yielded]) ?_; refine wpList_run rfl (.agg gapNone.toArray) wr (by kernel_rfl) ?_))
              have hz0 : (wr.alloc (.cells gapNone.toArray 60)).cell? ⟨wr.heap.size, 0, none⟩ = some (.bool false) := (row_new wr gapNone 60).cell 0
              have BY := Lib.hid (BZ.out.alloc zz (.cells gapNone.toArray 60))
              refine (nothingC _ _ (Or.inr ⟨_, rfl, hz0⟩)).mono ?_
              rintro e wb ⟨rfl, hwb⟩
              rw [← hwb]
              clear hz0 hwb
              go_wp2_with fail
              refine (worksC _).mono ?_
              rintro e wc ⟨rfl, hb⟩
              have BX := Lib.hid (BY.out.trans (hb.mono BY.out.size))
              clear hb
              go_wp2
              go_ret
              exact ⟨rfl, BX.out⟩
end Go.Proofs.Ytpafdemnnofihaa
