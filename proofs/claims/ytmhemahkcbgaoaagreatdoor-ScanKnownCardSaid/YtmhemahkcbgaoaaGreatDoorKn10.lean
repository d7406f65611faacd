/- Texts joined, one behind the other (ScanW). -/
import Derived.Test.YtmhemahkcbgaoaaGreatDoorKn09
/- A line's tokens, by the reference. -/
namespace Go.Proofs.YtmhemahkcbgaoaaGreatDoor
set_option linter.unusedVariables false
set_option linter.unusedSimpArgs false
open Go.RowKit
open Go.Lib hiding intOf
def ScanRQ (B : Nat) (w : World) (r : Except (Nat × Nat) (List Tok)) (e : Ending) (w' : World) : Prop :=
  ∃ (v : Value) (c p : Int), e = .returned (.tuple #[v, .int .i64 c, .int .i64 p]) ∧ Below w.heap.size w w' ∧ match r with
    | .ok toks => c = 0 ∧ p = 0 ∧ OwnT B v toks w'
    | .error (c', p') => v = .slice none 0 0 ∧ c = (c' : Int) ∧ p = (p' : Int)
set_option maxHeartbeats 16000000 in
set_option maxRecDepth 100000 in
theorem scanR (w : World) (l : List UInt8) (hm : l.length ≤ 140737488355328) :
    Calls Tryz.prog 13 #[.string (bstr l)] w (ScanRQ w.heap.size w (scanOf l)) := by
  obtain ⟨n, hn⟩ : ∃ n, n = l.length := ⟨_, rfl⟩
  have hsz : (bstr l).size = n := by rw [bstr_size, hn]
  by_cases hlong : 16384 < l.length
  · have hs : scanOf l = .error (4, 0) := by unfold scanOf; rw [if_pos hlong]
    rw [hs]
    rw [← hn] at hm hlong
    clear hs hn
    go_enter Tryz.func13, Tryz.ntmps13
    go_wp2
    go_ret3
    exact ⟨_, _, _, rfl, Below.refl _ _, rfl, rfl, rfl⟩
  have hs : scanOf l = ScanF l := by unfold scanOf ScanF; rw [if_neg hlong]
  rw [hs]
  rw [← hn] at hm hlong
  have HN := Lib.hid hn
  have hO0 : OwnT w.heap.size (.slice none 0 0) [] w := World.ownsRow_nil _ _ _ _
  clear hs hn
  go_enter Tryz.func13, Tryz.ntmps13
  go_wp2
  go_loopw [5, 6] (fun rv iv wr => ∃ (i f : Nat) (acc : List Tok), iv = .int .i64 (i : Int) ∧ i ≤ n ∧ acc.length ≤ i ∧ Hid (OwnT w.heap.size rv acc wr ∧ Below w.heap.size w wr ∧ scanGo l f i acc = ScanF l ∧ n < i + f)) (fun _ iv _ => n - (RowKit.intOf iv).toNat)
  case atStart => exact ⟨0, l.length + 1, [], rfl, Nat.zero_le _, by simp, Lib.hid ⟨hO0, Below.refl _ _, rfl, by rw [← HN.out]; omega⟩⟩
  case round =>
    obtain ⟨i, f, acc, rfl, hin, hac, HH⟩ := hrel
    obtain ⟨rv, rfl⟩ : ∃ v : Value, v = u5 := ⟨_, rfl⟩
    obtain ⟨wo, rfl⟩ : ∃ wo : World, wo = wr := ⟨_, rfl⟩
    clear hO0
    obtain ⟨f, rfl⟩ : ∃ g, f = g + 1 := ⟨f - 1, by have := HH.out.2.2.2; omega⟩
    go_wp2
    go_loop [6] (fun v => ∃ j : Nat, i ≤ j ∧ j ≤ n ∧ v = .int .i64 (j : Int) ∧ Hid (endOf BlankN l j = endOf BlankN l i)) (fun v => n - (RowKit.intOf v).toNat)
    case atStart => exact ⟨i, Nat.le_refl _, hin, rfl, rfl⟩
    case round =>
      obtain ⟨j, hij, hjn, rfl, HE⟩ := hrel
      by_cases hlt : j < n
      · obtain ⟨x, hx⟩ := some_at (l := l) (k := j) (by rw [← HN.out]; exact hlt)
        have ij : j < (bstr l).size := by rw [hsz]; exact hlt
        have hxa : (bstr l)[j]'ij = x := bstr_at hx _
        have HX := Lib.hid hx
        clear hx
        by_cases hbl : BlankN x.toNat
        · have HBL := Lib.hid (fun w1 => decide_eq_true hbl ▸ blankR w1 x.toNat)
          have HNX : Hid (endOf BlankN l (j + 1) = endOf BlankN l i) := Lib.hid ((endOf_step HX.out hbl).trans HE.out)
          clear hbl
          go_wp2_with (go_at_call 31; refine (HBL.out _).mono ?_; rintro e wq ⟨rfl, hwq⟩; obtain rfl := hwq.symm)
          go_round
          case rel => exact ⟨j + 1, by omega, by omega, by go_num, HNX⟩
          case measure => simp [RowKit.intOf]; omega
        · have HBL := Lib.hid (fun w1 => decide_eq_false hbl ▸ blankR w1 x.toNat)
          have hej : endOf BlankN l j = j := endOf_stop HX.out hbl
          have hei : endOf BlankN l i = j := HE.out.symm.trans hej
          have HEI := Lib.hid hei
          have HJL : Hid (¬ l.length ≤ j) := Lib.hid (by rw [← HN.out]; omega)
          clear hbl hej hei
          by_cases hq34 : x = 34
          · subst hq34
            have hx34 : l.getD j 0 = 34 := by rw [List.getD_eq_getElem?_getD, HX.out]; rfl
            obtain ⟨D, hD⟩ : ∃ D, l.drop j = D := ⟨_, rfl⟩
            have hDl : D.length = n - j := by rw [← hD, List.length_drop, ← HN.out]
            have hsl : D.take (n - j) = D := List.take_of_length_le (by omega)
            have hq := HH.out.2.2.1
            rw [scanGo] at hq
            simp only [HEI.out, if_neg HJL.out, hx34, if_true] at hq
            rw [hD] at hq
            have hub := fun h => (unq_bound D (D.length + 1) 1 [] (by omega)).2 h
            change (quotedOf D).2.2 = true → (quotedOf D).2.1 ≤ D.length ∧ 1 < (quotedOf D).2.1 at hub
            have hQR := fun w1 => quotedR w1 D (by omega)
            obtain ⟨T, hTt⟩ : ∃ T, (quotedOf D).1 = T := ⟨_, rfl⟩
            obtain ⟨P, hP⟩ : ∃ P, (quotedOf D).2.1 = P := ⟨_, rfl⟩
            obtain ⟨b, hb⟩ : ∃ b, (quotedOf D).2.2 = b := ⟨_, rfl⟩
            rw [hTt, hP, hb] at hQR
            rw [hTt, hP, hb] at hq
            rw [hP, hb] at hub
            have hPb : P ≤ n - j + 1 := by have := (unq_bound D (D.length + 1) 1 [] (by omega)).1; change (quotedOf D).2.1 ≤ _ at this; omega
            have HQR := Lib.hid hQR
            have HBO := HH.out.2.1
            have hso := HBO.size
            clear hQR hTt hP hb hx34
            cases b
            · rw [if_pos rfl] at hq
              have HQ := Lib.hid hq.symm
              clear hq hub
              go_wp2_with (first | (go_at_call 31; refine (HBL.out _).mono ?_; rintro e wq ⟨rfl, hwq⟩; obtain rfl := hwq.symm) | (go_at_call 32; refine (HQR.out _).mono ?_; rintro e w2 ⟨rfl, hb2⟩))
              go_ret3
              unfold ScanRQ
              rw [HQ.out]
              exact ⟨_, _, _, rfl, HBO.trans ((((Below.refl _ wo).alloc (Nat.le_refl _) _).trans (hb2.mono (by simp))).mono hso), rfl, rfl, by go_num⟩
            · rw [if_neg (by simp)] at hq
              have HQ7 := Lib.hid hq
              have hP1 := hub rfl
              have hP2 : 1 < P := hP1.2
              have hP3 : j + P ≤ n := by have := hP1.1; omega
              clear hq hub hP1
              go_upto_region 14 with (first | (go_at_call 31; refine (HBL.out _).mono ?_; rintro e wq ⟨rfl, hwq⟩; obtain rfl := hwq.symm) | (go_at_call 32; refine (HQR.out _).mono ?_; rintro e w2 ⟨rfl, hb2⟩))
              have hR1 : Row (wo.alloc (.cells #[.int .i64 0, .int .i64 (j : Int), .string ⟨#[]⟩, .int .i64 0] 28)) wo.heap.size 28 (tokCells ⟨0, j, [], 0⟩) := alloc_last _ _
              have hR2 := hR1.keep hb2 hR1.lt
              have hbo2 : Below wo.heap.size wo w2 := ((Below.refl _ wo).alloc (Nat.le_refl _) _).trans (hb2.mono (by simp))
              have d0 := Row.cell hR2 0
              have d2 := Row.cell hR2 2
              have g0 := Row.frozen hR2 0
              have g2 := Row.frozen hR2 2
              simp only [tokCells, List.getElem?_cons_zero, List.getElem?_cons_succ] at d0 d2
              clear hR1 hb2
              go_upto_region 30 with fail
              have hR7 : Row ((w2.setCell ⟨wo.heap.size, 0, none⟩ (.int .i64 3)).setCell ⟨wo.heap.size, 2, none⟩ (.string (bstr T))) wo.heap.size 28 (tokCells ⟨3, j, T, 0⟩) := (hR2.set 0 (.int .i64 3)).set 2 (.string (bstr T))
              have hbo : Below wo.heap.size wo ((w2.setCell ⟨wo.heap.size, 0, none⟩ (.int .i64 3)).setCell ⟨wo.heap.size, 2, none⟩ (.string (bstr T))) := (hbo2.setCell (p := ⟨wo.heap.size, 0, none⟩) (Nat.le_refl _) _).setCell (p := ⟨wo.heap.size, 2, none⟩) (Nat.le_refl _) _
              generalize ((w2.setCell ⟨wo.heap.size, 0, none⟩ (.int .i64 3)).setCell ⟨wo.heap.size, 2, none⟩ (.string (bstr T))) = w7 at hR7 hbo ⊢
              clear hR2 hbo2 d0 d2 g0 g2
              have HO7 : Hid (OwnT w.heap.size rv acc w7) := Lib.hid (HH.out.1.below hbo)
              have HB7 : Hid (Below w.heap.size w w7) := Lib.hid (HH.out.2.1.trans (hbo.mono HH.out.2.1.size))
              have hs7 := HB7.out.size
              have c0 := Row.cell hR7 0
              have c1 := Row.cell hR7 1
              have c2 := Row.cell hR7 2
              have c3 := Row.cell hR7 3
              simp only [tokCells, List.getElem?_cons_zero, List.getElem?_cons_succ] at c0 c1 c2 c3
              by_cases hend : n ≤ j + P
              · have hq7 := HQ7.out
                rw [if_pos (.inl (by rw [← HN.out]; exact hend))] at hq7
                have HQ := Lib.hid hq7
                clear hq7 hbo hR7
                go_wp2_with (at_builtin; go_loud (refine appTok rfl _ _ rfl w.heap.size w.heap.size w w7 rv acc ⟨3, (j : Int), T, 0⟩ rfl HO7.out rfl rfl (by omega) HB7.out (Nat.le_refl _) hs7 ?_); intro v8 w8 hO8 hb8 hs8 hk8)
                have HNX : Hid (OwnT w.heap.size v8 (acc ++ [⟨3, (j : Int), T, 0⟩]) w8 ∧ Below w.heap.size w w8 ∧ scanGo l f (j + P) (acc ++ [⟨3, (j : Int), T, 0⟩]) = ScanF l ∧ n < j + P + f) := Lib.hid ⟨hO8, hb8, HQ.out, by have := HH.out.2.2.2; omega⟩
                clear hO8 hb8 hs8 hk8
                try go_wp2
                go_roundw
                case rel => exact ⟨j + P, f, acc ++ [⟨3, (j : Int), T, 0⟩], by go_num, by omega, by simp; omega, HNX⟩
                case measure => simp [RowKit.intOf]; omega
              · obtain ⟨y, hy⟩ := some_at (l := l) (k := j + P) (by rw [← HN.out]; omega)
                have iy : j + P < (bstr l).size := by rw [hsz]; omega
                have hya : (bstr l)[j + P]'iy = y := bstr_at hy _
                have hgy : l.getD (j + P) 0 = y := by rw [List.getD_eq_getElem?_getD, hy]; rfl
                have hq7 := HQ7.out
                rw [hgy] at hq7
                by_cases hbl : BlankN y.toNat
                · rw [if_pos (.inr hbl)] at hq7
                  have HQ := Lib.hid hq7
                  have HBL := Lib.hid (fun w1 => decide_eq_true hbl ▸ blankR w1 y.toNat)
                  clear hq7 hbo hR7 hgy hy hbl
                  go_wp2_with (first | (go_at_call 31; refine (HBL.out _).mono ?_; rintro e wq ⟨rfl, hwq⟩; obtain rfl := hwq.symm) | (at_builtin; go_loud (refine appTok rfl _ _ rfl w.heap.size w.heap.size w w7 rv acc ⟨3, (j : Int), T, 0⟩ rfl HO7.out rfl rfl (by omega) HB7.out (Nat.le_refl _) hs7 ?_); intro v8 w8 hO8 hb8 hs8 hk8))
                  have HNX : Hid (OwnT w.heap.size v8 (acc ++ [⟨3, (j : Int), T, 0⟩]) w8 ∧ Below w.heap.size w w8 ∧ scanGo l f (j + P) (acc ++ [⟨3, (j : Int), T, 0⟩]) = ScanF l ∧ n < j + P + f) := Lib.hid ⟨hO8, hb8, HQ.out, by have := HH.out.2.2.2; omega⟩
                  clear hO8 hb8 hs8 hk8
                  try go_wp2
                  go_roundw
                  case rel => exact ⟨j + P, f, acc ++ [⟨3, (j : Int), T, 0⟩], by go_num, by omega, by simp; omega, HNX⟩
                  case measure => simp [RowKit.intOf]; omega
                · rw [if_neg (fun h => h.elim (fun h => hend (by rw [HN.out]; exact h)) hbl)] at hq7
                  have HQ := Lib.hid hq7.symm
                  have HBL := Lib.hid (fun w1 => decide_eq_false hbl ▸ blankR w1 y.toNat)
                  clear hq7 hbo hR7 hgy hy hbl
                  go_wp2_with (go_at_call 31; refine (HBL.out _).mono ?_; rintro e wq ⟨rfl, hwq⟩; obtain rfl := hwq.symm)
                  go_ret3
                  unfold ScanRQ
                  rw [HQ.out]
                  exact ⟨_, _, _, rfl, HB7.out, rfl, rfl, by go_num⟩
          · have b34 : ((x.toNat : Int) == 34) = false := byte_ne (n := 34) (by decide) hq34
            have HG : Hid (¬ l.getD j 0 = 34) := Lib.hid (by rw [List.getD_eq_getElem?_getD, HX.out]; exact hq34)
            have HR1' : Hid (Row (wo.alloc (.cells #[.int .i64 0, .int .i64 (j : Int), .string ⟨#[]⟩, .int .i64 0] 28)) wo.heap.size 28 (tokCells ⟨0, j, [], 0⟩)) := Lib.hid (alloc_last _ _)
            have HB1' : Hid (Below wo.heap.size wo (wo.alloc (.cells #[.int .i64 0, .int .i64 (j : Int), .string ⟨#[]⟩, .int .i64 0] 28))) := Lib.hid ((Below.refl _ wo).alloc (Nat.le_refl _) _)
            have hnj : decide (n ≤ j) = false := by simp; omega
            clear hq34
            go_upto_region 17 with (go_at_call 31; refine (HBL.out _).mono ?_; rintro e wq ⟨rfl, hwq⟩; obtain rfl := hwq.symm)
            obtain ⟨w1, HR1, HB1, hw1⟩ : ∃ w1, Hid (Row w1 wo.heap.size 28 (tokCells ⟨0, j, [], 0⟩)) ∧ Hid (Below wo.heap.size wo w1) ∧ w1 = (wo.alloc (.cells #[.int .i64 0, .int .i64 (j : Int), .string ⟨#[]⟩, .int .i64 0] 28)) := ⟨_, HR1', HB1', rfl⟩
            rw [← hw1]
            clear hw1 HR1' HB1'
            go_wp2
            go_loop [11] (fun v => ∃ k : Nat, j ≤ k ∧ k ≤ n ∧ v = .int .i64 (k : Int) ∧ Hid (endOf RunN l k = endOf RunN l j)) (fun v => n - (RowKit.intOf v).toNat)
            case atStart => exact ⟨j, Nat.le_refl _, hjn, rfl, rfl⟩
            case round =>
              obtain ⟨k, hjk, hkn, rfl, HK⟩ := hrel
              clear hxa ij
              by_cases hlk : k < n
              · obtain ⟨r, hr⟩ := some_at (l := l) (k := k) (by rw [← HN.out]; exact hlk)
                have ik : k < (bstr l).size := by rw [hsz]; exact hlk
                have hra : (bstr l)[k]'ik = r := bstr_at hr _
                have HRX := Lib.hid hr
                clear hr
                by_cases hrn : RunN r.toNat
                · have HRN := Lib.hid (fun w1 => decide_eq_true hrn ▸ runsR w1 r.toNat)
                  have HNK : Hid (endOf RunN l (k + 1) = endOf RunN l j) := Lib.hid ((endOf_step HRX.out hrn).trans HK.out)
                  clear hrn
                  go_wp2_with (go_at_call 33; refine (HRN.out _).mono ?_; rintro e wq ⟨rfl, hwq⟩; obtain rfl := hwq.symm)
                  go_round
                  case rel => exact ⟨k + 1, by omega, by omega, by go_num, HNK⟩
                  case measure => simp [RowKit.intOf]; omega
                · have HRN := Lib.hid (fun w1 => decide_eq_false hrn ▸ runsR w1 r.toNat)
                  have hek : endOf RunN l j = k := HK.out.symm.trans (endOf_stop HRX.out hrn)
                  clear hrn
                  have hq := HH.out.2.2.1
                  rw [scanGo] at hq
                  simp only [HEI.out, if_neg HJL.out, if_neg HG.out, hek] at hq
                  by_cases hkj : k = j
                  · rw [if_pos hkj] at hq
                    subst hkj
                    have HQ := Lib.hid hq.symm
                    clear hq hek
                    go_wp2_with (go_at_call 33; refine (HRN.out _).mono ?_; rintro e wq ⟨rfl, hwq⟩; obtain rfl := hwq.symm)
                    go_ret3
                    unfold ScanRQ
                    rw [HQ.out]
                    exact ⟨_, _, _, rfl, HH.out.2.1.trans (HB1.out.mono HH.out.2.1.size), rfl, rfl, rfl⟩
                  · rw [if_neg hkj] at hq
                    have hkjb : ((k : Int) == (j : Int)) = false := nat_ne hkj
                    have hjk2 : j < k := by omega
                    obtain ⟨S, hS⟩ : ∃ S, (l.drop j).take (k - j) = S := ⟨_, rfl⟩
                    have hSl : S.length ≤ 16384 := by rw [← hS, List.length_take, List.length_drop, ← HN.out]; omega
                    have hwt : wordTok l j k = match numOf S with | some m => ⟨2, j, [], m⟩ | none => ⟨1, j, S, 0⟩ := by unfold wordTok; rw [hS]; cases numOf S <;> rfl
                    rw [hwt] at hq
                    have hNU := fun w1 => numberR w1 S (by omega)
                    cases hnum : numOf S with
                    | none =>
                      simp only [hnum] at hq hNU
                      have HQ7 := Lib.hid hq
                      have HNU := Lib.hid hNU
                      clear hq hNU hwt hkj hnum hek
                      go_upto_region 20 with (go_at_call 33; refine (HRN.out _).mono ?_; rintro e wq ⟨rfl, hwq⟩; obtain rfl := hwq.symm)
                      clear hra ik HRN
                      go_upto_region 23 with (go_at_call 34; refine (HNU.out _).mono ?_; rintro e w2 ⟨z, rfl, hz, hqu⟩)
                      have hR2 := HR1.out.keep (hqu.below w1.heap.size) HR1.out.lt
                      have hbo2 : Below wo.heap.size wo w2 := HB1.out.trans (hqu.below _)
                      have d0 := Row.cell hR2 0
                      have d2 := Row.cell hR2 2
                      have d3 := Row.cell hR2 3
                      have g0 := Row.frozen hR2 0
                      have g2 := Row.frozen hR2 2
                      have g3 := Row.frozen hR2 3
                      simp only [tokCells, List.getElem?_cons_zero, List.getElem?_cons_succ] at d0 d2 d3
                      clear hz hqu
                      go_upto_region 30 with fail
                      have hR7 : Row ((w2.setCell ⟨wo.heap.size, 0, none⟩ (.int .i64 1)).setCell ⟨wo.heap.size, 2, none⟩ (.string (bstr S))) wo.heap.size 28 (tokCells ⟨1, (j : Int), S, 0⟩) := ((hR2.set 0 (.int .i64 1)).set 2 (.string (bstr S)))
                      have hbo : Below wo.heap.size wo ((w2.setCell ⟨wo.heap.size, 0, none⟩ (.int .i64 1)).setCell ⟨wo.heap.size, 2, none⟩ (.string (bstr S))) := ((hbo2.setCell (p := ⟨wo.heap.size, 0, none⟩) (Nat.le_refl _) (.int .i64 1)).setCell (p := ⟨wo.heap.size, 2, none⟩) (Nat.le_refl _) (.string (bstr S)))
                      generalize ((w2.setCell ⟨wo.heap.size, 0, none⟩ (.int .i64 1)).setCell ⟨wo.heap.size, 2, none⟩ (.string (bstr S))) = w7 at hR7 hbo ⊢
                      clear hR2 hbo2 d0 d2 d3 g0 g2 g3
                      have HO7 : Hid (OwnT w.heap.size rv acc w7) := Lib.hid (HH.out.1.below hbo)
                      have HB7 : Hid (Below w.heap.size w w7) := Lib.hid (HH.out.2.1.trans (hbo.mono HH.out.2.1.size))
                      have hs7 := HB7.out.size
                      have c0 := Row.cell hR7 0
                      have c1 := Row.cell hR7 1
                      have c2 := Row.cell hR7 2
                      have c3 := Row.cell hR7 3
                      simp only [tokCells, List.getElem?_cons_zero, List.getElem?_cons_succ] at c0 c1 c2 c3
                      by_cases hend : n ≤ k
                      · omega
                      · obtain ⟨y, hy⟩ := some_at (l := l) (k := k) (by rw [← HN.out]; omega)
                        have iy : k < (bstr l).size := by rw [hsz]; omega
                        have hya : (bstr l)[k]'iy = y := bstr_at hy _
                        have hgy : l.getD (k) 0 = y := by rw [List.getD_eq_getElem?_getD, hy]; rfl
                        have hq7 := HQ7.out
                        rw [hgy] at hq7
                        by_cases hbl : BlankN y.toNat
                        · rw [if_pos (.inr hbl)] at hq7
                          have HQ := Lib.hid hq7
                          have HBL := Lib.hid (fun w1 => decide_eq_true hbl ▸ blankR w1 y.toNat)
                          clear hq7 hbo hR7 hgy hy hbl
                          go_wp2_with (first | (go_at_call 31; refine (HBL.out _).mono ?_; rintro e wq ⟨rfl, hwq⟩; obtain rfl := hwq.symm) | (at_builtin; go_loud (refine appTok rfl _ _ rfl w.heap.size w.heap.size w w7 rv acc ⟨1, (j : Int), S, 0⟩ rfl HO7.out rfl rfl (by omega) HB7.out (Nat.le_refl _) hs7 ?_); intro v8 w8 hO8 hb8 hs8 hk8))
                          have HNX : Hid (OwnT w.heap.size v8 (acc ++ [⟨1, (j : Int), S, 0⟩]) w8 ∧ Below w.heap.size w w8 ∧ scanGo l f (k) (acc ++ [⟨1, (j : Int), S, 0⟩]) = ScanF l ∧ n < k + f) := Lib.hid ⟨hO8, hb8, HQ.out, by have := HH.out.2.2.2; omega⟩
                          clear hO8 hb8 hs8 hk8
                          try go_wp2
                          go_roundw
                          case rel => exact ⟨k, f, acc ++ [⟨1, (j : Int), S, 0⟩], by go_num, by omega, by simp; omega, HNX⟩
                          case measure => simp [RowKit.intOf]; omega
                        · rw [if_neg (fun h => h.elim (fun h => hend (by rw [HN.out]; exact h)) hbl)] at hq7
                          have HQ := Lib.hid hq7.symm
                          have HBL := Lib.hid (fun w1 => decide_eq_false hbl ▸ blankR w1 y.toNat)
                          clear hq7 hbo hR7 hgy hy hbl
                          go_wp2_with (go_at_call 31; refine (HBL.out _).mono ?_; rintro e wq ⟨rfl, hwq⟩; obtain rfl := hwq.symm)
                          go_ret3
                          unfold ScanRQ
                          rw [HQ.out]
                          exact ⟨_, _, _, rfl, HB7.out, rfl, rfl, by go_num⟩
                    | some m =>
                      simp only [hnum] at hq hNU
                      have HQ7 := Lib.hid hq
                      have HNU := Lib.hid hNU
                      clear hq hNU hwt hkj hnum hek
                      go_upto_region 20 with (go_at_call 33; refine (HRN.out _).mono ?_; rintro e wq ⟨rfl, hwq⟩; obtain rfl := hwq.symm)
                      clear hra ik HRN
                      go_upto_region 23 with (go_at_call 34; refine (HNU.out _).mono ?_; rintro e w2 ⟨z, rfl, hz, hqu⟩)
                      have hR2 := HR1.out.keep (hqu.below w1.heap.size) HR1.out.lt
                      have hbo2 : Below wo.heap.size wo w2 := HB1.out.trans (hqu.below _)
                      have hzm := hz _ rfl
                      subst hzm
                      have d0 := Row.cell hR2 0
                      have d2 := Row.cell hR2 2
                      have d3 := Row.cell hR2 3
                      have g0 := Row.frozen hR2 0
                      have g2 := Row.frozen hR2 2
                      have g3 := Row.frozen hR2 3
                      simp only [tokCells, List.getElem?_cons_zero, List.getElem?_cons_succ] at d0 d2 d3
                      clear hz hqu
                      go_upto_region 30 with fail
                      have hR7 : Row (((((w2.setCell ⟨wo.heap.size, 0, none⟩ (.int .i64 1)).setCell ⟨wo.heap.size, 2, none⟩ (.string (bstr S))).setCell ⟨wo.heap.size, 0, none⟩ (.int .i64 2)).setCell ⟨wo.heap.size, 2, none⟩ (.string ⟨#[]⟩)).setCell ⟨wo.heap.size, 3, none⟩ (.int .i64 ((m : Nat) : Int))) wo.heap.size 28 (tokCells ⟨2, (j : Int), [], (m : Int)⟩) := (((((hR2.set 0 (.int .i64 1)).set 2 (.string (bstr S))).set 0 (.int .i64 2)).set 2 (.string ⟨#[]⟩)).set 3 (.int .i64 ((m : Nat) : Int)))
                      have hbo : Below wo.heap.size wo (((((w2.setCell ⟨wo.heap.size, 0, none⟩ (.int .i64 1)).setCell ⟨wo.heap.size, 2, none⟩ (.string (bstr S))).setCell ⟨wo.heap.size, 0, none⟩ (.int .i64 2)).setCell ⟨wo.heap.size, 2, none⟩ (.string ⟨#[]⟩)).setCell ⟨wo.heap.size, 3, none⟩ (.int .i64 ((m : Nat) : Int))) := (((((hbo2.setCell (p := ⟨wo.heap.size, 0, none⟩) (Nat.le_refl _) (.int .i64 1)).setCell (p := ⟨wo.heap.size, 2, none⟩) (Nat.le_refl _) (.string (bstr S))).setCell (p := ⟨wo.heap.size, 0, none⟩) (Nat.le_refl _) (.int .i64 2)).setCell (p := ⟨wo.heap.size, 2, none⟩) (Nat.le_refl _) (.string ⟨#[]⟩)).setCell (p := ⟨wo.heap.size, 3, none⟩) (Nat.le_refl _) (.int .i64 ((m : Nat) : Int)))
                      generalize (((((w2.setCell ⟨wo.heap.size, 0, none⟩ (.int .i64 1)).setCell ⟨wo.heap.size, 2, none⟩ (.string (bstr S))).setCell ⟨wo.heap.size, 0, none⟩ (.int .i64 2)).setCell ⟨wo.heap.size, 2, none⟩ (.string ⟨#[]⟩)).setCell ⟨wo.heap.size, 3, none⟩ (.int .i64 ((m : Nat) : Int))) = w7 at hR7 hbo ⊢
                      clear hR2 hbo2 d0 d2 d3 g0 g2 g3
                      have HO7 : Hid (OwnT w.heap.size rv acc w7) := Lib.hid (HH.out.1.below hbo)
                      have HB7 : Hid (Below w.heap.size w w7) := Lib.hid (HH.out.2.1.trans (hbo.mono HH.out.2.1.size))
                      have hs7 := HB7.out.size
                      have c0 := Row.cell hR7 0
                      have c1 := Row.cell hR7 1
                      have c2 := Row.cell hR7 2
                      have c3 := Row.cell hR7 3
                      simp only [tokCells, List.getElem?_cons_zero, List.getElem?_cons_succ] at c0 c1 c2 c3
                      by_cases hend : n ≤ k
                      · omega
                      · obtain ⟨y, hy⟩ := some_at (l := l) (k := k) (by rw [← HN.out]; omega)
                        have iy : k < (bstr l).size := by rw [hsz]; omega
                        have hya : (bstr l)[k]'iy = y := bstr_at hy _
                        have hgy : l.getD (k) 0 = y := by rw [List.getD_eq_getElem?_getD, hy]; rfl
                        have hq7 := HQ7.out
                        rw [hgy] at hq7
                        by_cases hbl : BlankN y.toNat
                        · rw [if_pos (.inr hbl)] at hq7
                          have HQ := Lib.hid hq7
                          have HBL := Lib.hid (fun w1 => decide_eq_true hbl ▸ blankR w1 y.toNat)
                          clear hq7 hbo hR7 hgy hy hbl
                          go_wp2_with (first | (go_at_call 31; refine (HBL.out _).mono ?_; rintro e wq ⟨rfl, hwq⟩; obtain rfl := hwq.symm) | (at_builtin; go_loud (refine appTok rfl _ _ rfl w.heap.size w.heap.size w w7 rv acc ⟨2, (j : Int), [], (m : Int)⟩ rfl HO7.out rfl rfl (by omega) HB7.out (Nat.le_refl _) hs7 ?_); intro v8 w8 hO8 hb8 hs8 hk8))
                          have HNX : Hid (OwnT w.heap.size v8 (acc ++ [⟨2, (j : Int), [], (m : Int)⟩]) w8 ∧ Below w.heap.size w w8 ∧ scanGo l f (k) (acc ++ [⟨2, (j : Int), [], (m : Int)⟩]) = ScanF l ∧ n < k + f) := Lib.hid ⟨hO8, hb8, HQ.out, by have := HH.out.2.2.2; omega⟩
                          clear hO8 hb8 hs8 hk8
                          try go_wp2
                          go_roundw
                          case rel => exact ⟨k, f, acc ++ [⟨2, (j : Int), [], (m : Int)⟩], by go_num, by omega, by simp; omega, HNX⟩
                          case measure => simp [RowKit.intOf]; omega
                        · rw [if_neg (fun h => h.elim (fun h => hend (by rw [HN.out]; exact h)) hbl)] at hq7
                          have HQ := Lib.hid hq7.symm
                          have HBL := Lib.hid (fun w1 => decide_eq_false hbl ▸ blankR w1 y.toNat)
                          clear hq7 hbo hR7 hgy hy hbl
                          go_wp2_with (go_at_call 31; refine (HBL.out _).mono ?_; rintro e wq ⟨rfl, hwq⟩; obtain rfl := hwq.symm)
                          go_ret3
                          unfold ScanRQ
                          rw [HQ.out]
                          exact ⟨_, _, _, rfl, HB7.out, rfl, rfl, by go_num⟩
              · have hkn2 : n ≤ k := by omega
                have hek : endOf RunN l j = k := HK.out.symm.trans (endOf_end (by rw [← HN.out]; exact hkn2))
                have hq := HH.out.2.2.1
                rw [scanGo] at hq
                simp only [HEI.out, if_neg HJL.out, if_neg HG.out, hek] at hq
                by_cases hkj : k = j
                · rw [if_pos hkj] at hq
                  subst hkj
                  have HQ := Lib.hid hq.symm
                  clear hq hek
                  go_wp2
                  go_ret3
                  unfold ScanRQ
                  rw [HQ.out]
                  exact ⟨_, _, _, rfl, HH.out.2.1.trans (HB1.out.mono HH.out.2.1.size), rfl, rfl, rfl⟩
                · rw [if_neg hkj] at hq
                  have hkjb : ((k : Int) == (j : Int)) = false := nat_ne hkj
                  have hjk2 : j < k := by omega
                  obtain ⟨S, hS⟩ : ∃ S, (l.drop j).take (k - j) = S := ⟨_, rfl⟩
                  have hSl : S.length ≤ 16384 := by rw [← hS, List.length_take, List.length_drop, ← HN.out]; omega
                  have hwt : wordTok l j k = match numOf S with | some m => ⟨2, j, [], m⟩ | none => ⟨1, j, S, 0⟩ := by unfold wordTok; rw [hS]; cases numOf S <;> rfl
                  rw [hwt] at hq
                  have hNU := fun w1 => numberR w1 S (by omega)
                  cases hnum : numOf S with
                  | none =>
                    simp only [hnum] at hq hNU
                    have HQ7 := Lib.hid hq
                    have HNU := Lib.hid hNU
                    clear hq hNU hwt hkj hnum hek
                    go_upto_region 20 with fail
                    skip
                    go_upto_region 23 with (go_at_call 34; refine (HNU.out _).mono ?_; rintro e w2 ⟨z, rfl, hz, hqu⟩)
                    have hR2 := HR1.out.keep (hqu.below w1.heap.size) HR1.out.lt
                    have hbo2 : Below wo.heap.size wo w2 := HB1.out.trans (hqu.below _)
                    have d0 := Row.cell hR2 0
                    have d2 := Row.cell hR2 2
                    have d3 := Row.cell hR2 3
                    have g0 := Row.frozen hR2 0
                    have g2 := Row.frozen hR2 2
                    have g3 := Row.frozen hR2 3
                    simp only [tokCells, List.getElem?_cons_zero, List.getElem?_cons_succ] at d0 d2 d3
                    clear hz hqu
                    go_upto_region 30 with fail
                    have hR7 : Row ((w2.setCell ⟨wo.heap.size, 0, none⟩ (.int .i64 1)).setCell ⟨wo.heap.size, 2, none⟩ (.string (bstr S))) wo.heap.size 28 (tokCells ⟨1, (j : Int), S, 0⟩) := ((hR2.set 0 (.int .i64 1)).set 2 (.string (bstr S)))
                    have hbo : Below wo.heap.size wo ((w2.setCell ⟨wo.heap.size, 0, none⟩ (.int .i64 1)).setCell ⟨wo.heap.size, 2, none⟩ (.string (bstr S))) := ((hbo2.setCell (p := ⟨wo.heap.size, 0, none⟩) (Nat.le_refl _) (.int .i64 1)).setCell (p := ⟨wo.heap.size, 2, none⟩) (Nat.le_refl _) (.string (bstr S)))
                    generalize ((w2.setCell ⟨wo.heap.size, 0, none⟩ (.int .i64 1)).setCell ⟨wo.heap.size, 2, none⟩ (.string (bstr S))) = w7 at hR7 hbo ⊢
                    clear hR2 hbo2 d0 d2 d3 g0 g2 g3
                    have HO7 : Hid (OwnT w.heap.size rv acc w7) := Lib.hid (HH.out.1.below hbo)
                    have HB7 : Hid (Below w.heap.size w w7) := Lib.hid (HH.out.2.1.trans (hbo.mono HH.out.2.1.size))
                    have hs7 := HB7.out.size
                    have c0 := Row.cell hR7 0
                    have c1 := Row.cell hR7 1
                    have c2 := Row.cell hR7 2
                    have c3 := Row.cell hR7 3
                    simp only [tokCells, List.getElem?_cons_zero, List.getElem?_cons_succ] at c0 c1 c2 c3
                    by_cases hend : n ≤ k
                    · have hq7 := HQ7.out
                      rw [if_pos (.inl (by rw [← HN.out]; exact hend))] at hq7
                      have HQ := Lib.hid hq7
                      clear hq7 hbo hR7
                      go_wp2_with (at_builtin; go_loud (refine appTok rfl _ _ rfl w.heap.size w.heap.size w w7 rv acc ⟨1, (j : Int), S, 0⟩ rfl HO7.out rfl rfl (by omega) HB7.out (Nat.le_refl _) hs7 ?_); intro v8 w8 hO8 hb8 hs8 hk8)
                      have HNX : Hid (OwnT w.heap.size v8 (acc ++ [⟨1, (j : Int), S, 0⟩]) w8 ∧ Below w.heap.size w w8 ∧ scanGo l f (k) (acc ++ [⟨1, (j : Int), S, 0⟩]) = ScanF l ∧ n < k + f) := Lib.hid ⟨hO8, hb8, HQ.out, by have := HH.out.2.2.2; omega⟩
                      clear hO8 hb8 hs8 hk8
                      try go_wp2
                      go_roundw
                      case rel => exact ⟨k, f, acc ++ [⟨1, (j : Int), S, 0⟩], by go_num, by omega, by simp; omega, HNX⟩
                      case measure => simp [RowKit.intOf]; omega
                    · omega
                  | some m =>
                    simp only [hnum] at hq hNU
                    have HQ7 := Lib.hid hq
                    have HNU := Lib.hid hNU
                    clear hq hNU hwt hkj hnum hek
                    go_upto_region 20 with fail
                    skip
                    go_upto_region 23 with (go_at_call 34; refine (HNU.out _).mono ?_; rintro e w2 ⟨z, rfl, hz, hqu⟩)
                    have hR2 := HR1.out.keep (hqu.below w1.heap.size) HR1.out.lt
                    have hbo2 : Below wo.heap.size wo w2 := HB1.out.trans (hqu.below _)
                    have hzm := hz _ rfl
                    subst hzm
                    have d0 := Row.cell hR2 0
                    have d2 := Row.cell hR2 2
                    have d3 := Row.cell hR2 3
                    have g0 := Row.frozen hR2 0
                    have g2 := Row.frozen hR2 2
                    have g3 := Row.frozen hR2 3
                    simp only [tokCells, List.getElem?_cons_zero, List.getElem?_cons_succ] at d0 d2 d3
                    clear hz hqu
                    go_upto_region 30 with fail
                    have hR7 : Row (((((w2.setCell ⟨wo.heap.size, 0, none⟩ (.int .i64 1)).setCell ⟨wo.heap.size, 2, none⟩ (.string (bstr S))).setCell ⟨wo.heap.size, 0, none⟩ (.int .i64 2)).setCell ⟨wo.heap.size, 2, none⟩ (.string ⟨#[]⟩)).setCell ⟨wo.heap.size, 3, none⟩ (.int .i64 ((m : Nat) : Int))) wo.heap.size 28 (tokCells ⟨2, (j : Int), [], (m : Int)⟩) := (((((hR2.set 0 (.int .i64 1)).set 2 (.string (bstr S))).set 0 (.int .i64 2)).set 2 (.string ⟨#[]⟩)).set 3 (.int .i64 ((m : Nat) : Int)))
                    have hbo : Below wo.heap.size wo (((((w2.setCell ⟨wo.heap.size, 0, none⟩ (.int .i64 1)).setCell ⟨wo.heap.size, 2, none⟩ (.string (bstr S))).setCell ⟨wo.heap.size, 0, none⟩ (.int .i64 2)).setCell ⟨wo.heap.size, 2, none⟩ (.string ⟨#[]⟩)).setCell ⟨wo.heap.size, 3, none⟩ (.int .i64 ((m : Nat) : Int))) := (((((hbo2.setCell (p := ⟨wo.heap.size, 0, none⟩) (Nat.le_refl _) (.int .i64 1)).setCell (p := ⟨wo.heap.size, 2, none⟩) (Nat.le_refl _) (.string (bstr S))).setCell (p := ⟨wo.heap.size, 0, none⟩) (Nat.le_refl _) (.int .i64 2)).setCell (p := ⟨wo.heap.size, 2, none⟩) (Nat.le_refl _) (.string ⟨#[]⟩)).setCell (p := ⟨wo.heap.size, 3, none⟩) (Nat.le_refl _) (.int .i64 ((m : Nat) : Int)))
                    generalize (((((w2.setCell ⟨wo.heap.size, 0, none⟩ (.int .i64 1)).setCell ⟨wo.heap.size, 2, none⟩ (.string (bstr S))).setCell ⟨wo.heap.size, 0, none⟩ (.int .i64 2)).setCell ⟨wo.heap.size, 2, none⟩ (.string ⟨#[]⟩)).setCell ⟨wo.heap.size, 3, none⟩ (.int .i64 ((m : Nat) : Int))) = w7 at hR7 hbo ⊢
                    clear hR2 hbo2 d0 d2 d3 g0 g2 g3
                    have HO7 : Hid (OwnT w.heap.size rv acc w7) := Lib.hid (HH.out.1.below hbo)
                    have HB7 : Hid (Below w.heap.size w w7) := Lib.hid (HH.out.2.1.trans (hbo.mono HH.out.2.1.size))
                    have hs7 := HB7.out.size
                    have c0 := Row.cell hR7 0
                    have c1 := Row.cell hR7 1
                    have c2 := Row.cell hR7 2
                    have c3 := Row.cell hR7 3
                    simp only [tokCells, List.getElem?_cons_zero, List.getElem?_cons_succ] at c0 c1 c2 c3
                    by_cases hend : n ≤ k
                    · have hq7 := HQ7.out
                      rw [if_pos (.inl (by rw [← HN.out]; exact hend))] at hq7
                      have HQ := Lib.hid hq7
                      clear hq7 hbo hR7
                      go_wp2_with (at_builtin; go_loud (refine appTok rfl _ _ rfl w.heap.size w.heap.size w w7 rv acc ⟨2, (j : Int), [], (m : Int)⟩ rfl HO7.out rfl rfl (by omega) HB7.out (Nat.le_refl _) hs7 ?_); intro v8 w8 hO8 hb8 hs8 hk8)
                      have HNX : Hid (OwnT w.heap.size v8 (acc ++ [⟨2, (j : Int), [], (m : Int)⟩]) w8 ∧ Below w.heap.size w w8 ∧ scanGo l f (k) (acc ++ [⟨2, (j : Int), [], (m : Int)⟩]) = ScanF l ∧ n < k + f) := Lib.hid ⟨hO8, hb8, HQ.out, by have := HH.out.2.2.2; omega⟩
                      clear hO8 hb8 hs8 hk8
                      try go_wp2
                      go_roundw
                      case rel => exact ⟨k, f, acc ++ [⟨2, (j : Int), [], (m : Int)⟩], by go_num, by omega, by simp; omega, HNX⟩
                      case measure => simp [RowKit.intOf]; omega
                    · omega
      · obtain rfl : j = n := by omega
        have hq : ScanF l = .ok acc := by
          rw [← HH.out.2.2.1, scanGo]
          have h1 := endOf_end (p := BlankN) (l := l) (i := j) (by rw [← HN.out]; exact Nat.le_refl _)
          simp only [HE.out.symm.trans h1, ← HN.out, Nat.le_refl, if_true]
        have HQ := Lib.hid hq
        clear hq
        go_wp2
        go_ret3
        unfold ScanRQ
        rw [HQ.out]
        exact ⟨_, _, _, rfl, HH.out.2.1, rfl, rfl, HH.out.1⟩
end Go.Proofs.YtmhemahkcbgaoaaGreatDoor
