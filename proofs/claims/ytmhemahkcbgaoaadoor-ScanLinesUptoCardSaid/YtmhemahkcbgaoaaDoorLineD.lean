/- What a script says, by the reference. -/
import Derived.Test.YtmhemahkcbgaoaaDoorLineC
import Derived.Test.YtmhemahkcbgaoaaDoorSplit7
namespace Go.Proofs.YtmhemahkcbgaoaaDoor
set_option linter.unusedVariables false
set_option linter.unusedSimpArgs false
open Go.RowKit
open Go.Lib hiding intOf
theorem blankB_iff (x : UInt8) : BlankB x = decide (BlankN x.toNat) := by
  unfold BlankB BlankN
  have h1 : (x == 32) = decide (x.toNat = 32) := by
    by_cases h : x = 32
    · subst h; rfl
    · rw [beq_eq_false_iff_ne.2 h, decide_eq_false (fun (e : x.toNat = 32) => h (UInt8.toNat_inj.1 e))]
  have h2 : (x == 9) = decide (x.toNat = 9) := by
    by_cases h : x = 9
    · subst h; rfl
    · rw [beq_eq_false_iff_ne.2 h, decide_eq_false (fun (e : x.toNat = 9) => h (UInt8.toNat_inj.1 e))]
  rw [h1, h2]
  by_cases a : x.toNat = 32 <;> by_cases b : x.toNat = 9 <;> simp [a, b]
theorem drop_cons {s : List UInt8} {j : Nat} {x : UInt8} (h : s[j]? = some x) : s.drop j = x :: s.drop (j + 1) := by
  obtain ⟨hj, rfl⟩ := List.getElem?_eq_some_iff.1 h
  exact List.drop_eq_getElem_cons hj
/-- where the blanks of a line end, there it says something or nothing -/
theorem says_at {s : List UInt8} {j : Nat} {x : UInt8} (h : s[j]? = some x) (hb : ¬ BlankN x.toNat) (hd : s.dropWhile BlankB = (s.drop j).dropWhile BlankB) : saysL s = (x != 35) := by
  unfold saysL
  rw [hd, drop_cons h, List.dropWhile_cons_of_neg (by rw [blankB_iff]; simpa using hb)]
theorem says_end {s : List UInt8} (hd : s.dropWhile BlankB = (s.drop s.length).dropWhile BlankB) : saysL s = false := by
  unfold saysL
  rw [hd, List.drop_length]
  rfl
theorem says_next {s : List UInt8} {j : Nat} {x : UInt8} (h : s[j]? = some x) (hb : BlankN x.toNat) (hd : s.dropWhile BlankB = (s.drop j).dropWhile BlankB) : s.dropWhile BlankB = (s.drop (j + 1)).dropWhile BlankB := by
  rw [hd, drop_cons h, List.dropWhile_cons_of_pos (by rw [blankB_iff]; simpa using hb)]
theorem pieceL_len {l : List UInt8} {x : Nat × Nat × Nat} (h : x.1 ≤ x.2.1 ∧ x.2.1 ≤ l.length) : (pieceL l x).length = x.2.1 - x.1 := by
  unfold pieceL
  rw [List.length_take, List.length_drop]
  omega
theorem own_cell {w : World} {B : Nat} {e : TypeId} {size : Nat} {a : Option Addr} {n c : Nat} {xs : List Value} (h : w.ownsRow B e size (.slice a n c) n xs) (hn : 0 < n) : ∃ g, a = some ⟨g, 0, none⟩ ∧ g < w.heap.size ∧ ∀ j v, xs[j]? = some v → w.cell? ⟨g, j, none⟩ = some v := by
  rcases h.2 with ⟨h1, h2⟩ | ⟨g, cap, cur, hv, hb, hg, _⟩
  · omega
  · cases hv
    refine ⟨g, rfl, (Array.getElem?_eq_some_iff.1 hg).1, fun j v hj => ?_⟩
    rw [h.cellAt j (by have := (List.getElem?_eq_some_iff.1 hj).1; rw [h.1] at this; exact this), hj]
theorem rowSt_take {l : List UInt8} {xs : List (Nat × Nat × Nat)} {k : Nat} {x : Nat × Nat × Nat} (h : xs[k]? = some x) : rowSt l (xs.take (k + 1)) = rowStep l (rowSt l (xs.take k)) x := by
  rw [take_next h, rowSt_next]
set_option maxHeartbeats 8000000 in
set_option maxRecDepth 100000 in
theorem rowsR (w : World) (l : List UInt8) (hm : l.length ≤ 1048700) :
    Calls Tryd.prog 24 #[.string (bstr l)] w fun e w' => ∃ v, e = .returned v ∧ OwnRw w.heap.size v (rowsL l) w' ∧ Below w.heap.size w w' := by
  have HA := Lib.hid (fun w1 => allR w1 l hm)
  obtain ⟨m, hml⟩ : ∃ m, (linesL l).length = m := ⟨_, rfl⟩
  have hmm := linesL_len l
  rw [hml] at hmm
  have HM := Lib.hid hml
  have HOK := Lib.hid (linesL_ok l)
  have hsz := bstr_size l
  clear hml
  go_enter Tryd.func24, Tryd.ntmps24
  go_upto_region 2 with (go_at_call 49; refine (HA.out _).mono ?_; rintro e w1 ⟨v1, rfl, hO1, hb1⟩)
  obtain ⟨a1, c1, hv1⟩ := slice_own hO1
  rw [HM.out] at hv1
  subst hv1
  have HO1 : Hid (w1.ownsRow w.heap.size 88 3 (.slice a1 m c1) m ((linesL l).flatMap lineCells)) := Lib.hid (by have := hO1; unfold OwnLn at this; rwa [HM.out] at this)
  have HB1 := Lib.hid hb1
  have hsb := hb1.size
  have H0 : Hid (OwnRw w1.heap.size (.slice none 0 0) (rowSt l ((linesL l).take 0)).1 w1) := Lib.hid (World.ownsRow_nil _ _ _ _)
  clear hO1 hb1
  go_wp2
  go_loopw [4, 5] (fun vv ui wr => ∃ k : Nat, k ≤ m ∧ ui = .int .i64 (k : Int) ∧ Hid (OwnRw w1.heap.size vv (rowSt l ((linesL l).take k)).1 wr ∧ Below w1.heap.size w1 wr)) (fun _ ui _ => m - (RowKit.intOf ui).toNat)
  case atStart => exact ⟨0, Nat.zero_le _, rfl, Lib.hid ⟨H0.out, Below.refl _ _⟩⟩
  case round =>
    obtain ⟨k, hkm, rfl, HR⟩ := hrel
    obtain ⟨vv, rfl⟩ : ∃ v : Value, v = u4 := ⟨_, rfl⟩
    clear H0
    by_cases hlt : k < m
    · obtain ⟨x, hx⟩ : ∃ x, (linesL l)[k]? = some x := ⟨_, List.getElem?_eq_getElem (by rw [HM.out]; exact hlt)⟩
      have hxo := HOK.out x (List.mem_of_getElem? hx)
      have hpl := pieceL_len hxo
      have HST := Lib.hid (rowSt_take (l := l) hx)
      obtain ⟨g, rfl, hg, hcell⟩ := own_cell (own_below HO1.out (HR.out.2)) (by omega)
      obtain ⟨xa, xb, xe⟩ := x
      have e0 : wr.cell? ⟨g, k * 3, none⟩ = some (.int .i64 (xa : Int)) := hcell _ _ (flat_at (c := 3) (fun _ => rfl) hx (j := 0) rfl)
      have e1 : wr.cell? ⟨g, k * 3 + 1, none⟩ = some (.int .i64 (xb : Int)) := hcell _ _ (flat_at (c := 3) (fun _ => rfl) hx (j := 1) rfl)
      simp only at hxo hpl
      obtain ⟨hab, hbl⟩ := hxo
      have i1 : (xa : Int) ≤ (xb : Int) := by omega
      have i2 : (xb : Int) ≤ (l.length : Int) := by omega
      have hnum := rowSt_num l ((linesL l).take k)
      have hlk : ((linesL l).take k).length = k := by rw [List.length_take, HM.out]; omega
      rw [hlk] at hnum
      obtain ⟨S, hS⟩ : ∃ S, pieceL l (xa, xb, xe) = S := ⟨_, rfl⟩
      have hex : (bstr l).extract xa xb = bstr S := by rw [← hS, bstr_extract]; rfl
      rw [hS] at hpl
      have HS := Lib.hid hS
      have HNUM := Lib.hid hnum
      have hS63 : S.length ≤ 1048700 := by omega
      clear hx hcell hnum hlk hS
      go_wp2
      go_quiet (fail)
      go_wp2
      have HSTS : Hid (rowSt l ((linesL l).take (k + 1)) = if saysL S then ((rowSt l ((linesL l).take k)).1 ++ [(k + 1, S)], k + 1) else ((rowSt l ((linesL l).take k)).1, k + 1)) := Lib.hid (by
        rw [HST.out, rowStep, HS.out, HNUM.out.1])
      have HB9 : Hid (Below w1.heap.size w1 (wr.drewN nq)) := Lib.hid (HR.out.2.trans (((Quiet.refl wr).drewN nq).below _))
      have hbw := HB9.out.size
      have HO9 : Hid (OwnRw w1.heap.size vv (rowSt l ((linesL l).take k)).1 (wr.drewN nq)) := Lib.hid (HR.out.1.below (((Quiet.refl wr).drewN nq).below _))
      have hal : (rowSt l ((linesL l).take k)).1.length ≤ 1073741824 := by have := HNUM.out.2; omega
      have HAL := Lib.hid hal
      have hszS := bstr_size S
      clear hal HST e0 e1 hex
      go_loop [7] (fun v => ∃ j : Nat, j ≤ S.length ∧ v = .int .i64 (j : Int) ∧ Hid (S.dropWhile BlankB = (S.drop j).dropWhile BlankB)) (fun v => S.length - (RowKit.intOf v).toNat)
      case atStart => exact ⟨0, Nat.zero_le _, rfl, Lib.hid rfl⟩
      case round =>
        obtain ⟨j, hjS, rfl, HD⟩ := hrel
        by_cases hjl : j < S.length
        · obtain ⟨x, hx⟩ := some_at (l := S) (k := j) hjl
          have ij : j < (bstr S).size := by rw [hszS]; exact hjl
          have hxa : (bstr S)[j]'ij = x := bstr_at hx _
          have HX := Lib.hid hx
          clear hx
          by_cases hbl : BlankN x.toNat
          · have HBL := Lib.hid (fun w1 => decide_eq_true hbl ▸ blankR w1 x.toNat)
            have HNX : Hid (S.dropWhile BlankB = (S.drop (j + 1)).dropWhile BlankB) := Lib.hid (says_next HX.out hbl HD.out)
            clear hbl
            go_wp2_with (go_at_call 44; refine (HBL.out _).mono ?_; rintro e wq ⟨rfl, hwq⟩; obtain rfl := hwq.symm)
            go_round
            case rel => exact ⟨j + 1, by omega, by go_num, HNX⟩
            case measure => simp [RowKit.intOf]; omega
          · have HBL := Lib.hid (fun w1 => decide_eq_false hbl ▸ blankR w1 x.toNat)
            have hsy := says_at HX.out hbl HD.out
            by_cases hq : x = 35
            · have b35 : ((x.toNat : Int) != 35) = false := by rw [hq]; rfl
              have b36 : ((x.toNat : Int) == 35) = true := by rw [hq]; rfl
              have HNX : Hid (OwnRw w1.heap.size vv (rowSt l ((linesL l).take (k + 1))).1 (wr.drewN nq)) := Lib.hid (by
                rw [HSTS.out, hsy, hq]
                exact HO9.out)
              clear hsy hbl hq
              go_wp2_with (go_at_call 44; refine (HBL.out _).mono ?_; rintro e wq ⟨rfl, hwq⟩; obtain rfl := hwq.symm)
              go_roundw
              case rel => exact ⟨k + 1, by omega, by go_num, Lib.hid ⟨HNX.out, HB9.out⟩⟩
              case measure => simp [RowKit.intOf]; omega
            · have b36 : ((x.toNat : Int) == 35) = false := byte_ne (n := 35) (by decide) hq
              have b35 : ((x.toNat : Int) != 35) = true := by rw [bne, b36]; rfl
              have hsy2 : saysL S = true := by rw [hsy]; simpa using hq
              have HSY := Lib.hid hsy2
              clear hsy hbl hq hsy2
              go_wp2_with (first
                | (go_at_call 44; refine (HBL.out _).mono ?_; rintro e wq ⟨rfl, hwq⟩; obtain rfl := hwq.symm)
                | (at_builtin; refine appNew rfl _ _ rfl Tryd.underlying47 (.agg #[.int .i64 0, .string ByteArray.empty]) 2 24 infoRow rfl (by decide) (by decide) w1.heap.size w1.heap.size w1 (wr.drewN nq) vv (rowSt l ((linesL l).take k)).1.length ((rowSt l ((linesL l).take k)).1.flatMap rowCells) [.int .i64 ((k : Int) + 1), .string (bstr S)] rfl (rowCells_one (k + 1, S)) rfl HO9.out rfl rfl HAL.out HB9.out (Nat.le_refl _) hbw ?_; intro v8 w8 hO8 hb8 hs8))
              have HNX : Hid (OwnRw w1.heap.size v8 (rowSt l ((linesL l).take (k + 1))).1 w8 ∧ Below w1.heap.size w1 w8) := Lib.hid ⟨by
                rw [HSTS.out, HSY.out]
                exact OwnRw.push hO8, hb8⟩
              clear hO8 hb8 hs8
              go_roundw
              case rel => exact ⟨k + 1, by omega, by go_num, HNX⟩
              case measure => simp [RowKit.intOf]; omega
        · obtain rfl : j = S.length := by omega
          have HNX : Hid (OwnRw w1.heap.size vv (rowSt l ((linesL l).take (k + 1))).1 (wr.drewN nq)) := Lib.hid (by
            rw [HSTS.out, says_end HD.out]
            exact HO9.out)
          go_wp2
          go_roundw
          case rel => exact ⟨k + 1, by omega, by go_num, Lib.hid ⟨HNX.out, HB9.out⟩⟩
          case measure => simp [RowKit.intOf]; omega
    · obtain rfl : k = m := by omega
      go_wp2
      go_ret
      refine ⟨_, rfl, ?_, HB1.out.trans (HR.out.2.mono hsb)⟩
      have := HR.out.1
      rw [List.take_of_length_le (by rw [HM.out]; exact Nat.le_refl _)] at this
      exact own_mono this hsb
end Go.Proofs.YtmhemahkcbgaoaaDoor
