/- ScanLines: of every script its lines, gone through whole, and left early. -/
import Derived.Test.YtmhemahkcbgaoaaDoorLineF
namespace Go.Proofs.YtmhemahkcbgaoaaDoor
set_option linter.unusedVariables false
set_option linter.unusedSimpArgs false
open Go.RowKit
open Go.Lib hiding intOf
theorem wf_u8 {x : Int} (h : (Lit.int .u8 x).wf = true) : 0 ≤ x ∧ x ≤ 255 := by
  simp [Lit.wf, IntKind.min, IntKind.max, IntKind.signed, IntKind.bits] at h
  omega
theorem rowNeq (w : World) (n : Int) (t : List UInt8) : (binOp .neq 51 (.agg #[.int .i64 n, .string (bstr t)]) (.agg #[.int .i64 n, .string (bstr t)])).run Tryd.prog w = .ok (.bool false) w := by
  rw [run_neq_struct]
  go_simp
theorem own_rows {w : World} {B : Nat} {v : Value} {L : List (Nat × List UInt8)} (h : OwnRw B v L w) : ∃ a c, v = .slice a L.length c ∧ (0 < L.length → ∃ g, a = some ⟨g, 0, none⟩ ∧ g < w.heap.size ∧ ∀ (i : Nat) (x : Nat × List UInt8), L[i]? = some x → w.cell? ⟨g, i * 2, none⟩ = some (.int .i64 (x.1 : Int)) ∧ w.cell? ⟨g, i * 2 + 1, none⟩ = some (.string (bstr x.2))) := by
  have h' := h
  unfold OwnRw at h'
  obtain ⟨a, c, rfl⟩ := slice_own h'
  refine ⟨a, c, rfl, fun hn => ?_⟩
  obtain ⟨g, rfl, hg, hc⟩ := own_cell h' hn
  exact ⟨g, rfl, hg, fun i x hx => ⟨hc _ _ (flat_at (c := 2) (fun _ => rfl) hx (j := 0) rfl), hc _ _ (flat_at (c := 2) (fun _ => rfl) hx (j := 1) rfl)⟩⟩
set_option maxHeartbeats 8000000 in
set_option maxRecDepth 100000 in
theorem scanLines_walk (w : World) (l : List UInt8) (hl : l.length ≤ 1048576) (x : Int) (hx : (Lit.int .u8 x).wf = true) (hT : Tabs w) :
    Calls Tryd.prog 10 #[.string (bstr l), .int .u8 x] w fun e w' => e = .returned (.bool true) ∧ Below w.heap.size w w' := by
  obtain ⟨hx0, hx1⟩ := wf_u8 hx
  obtain ⟨few, rfl⟩ := Int.eq_ofNat_of_zero_le hx0
  clear hx
  have hfw : few ≤ 255 := by omega
  obtain ⟨m, hm⟩ : ∃ m, (rowsL l).length = m := ⟨_, rfl⟩
  have hml := rowsL_len l
  rw [hm] at hml
  have hA : (rowsL l).take (m + 9) = rowsL l := List.take_of_length_le (by omega)
  have HW := Lib.hid (fun w1 => rowsR w1 l (by omega))
  have hr1 := fun w1 (h : Tabs w1) => rowsC w1 l (by omega) h (m + 9) (by omega) (by omega)
  have hr2 := fun w1 (h : Tabs w1) => rowsC w1 l (by omega) h (1 + few) (by omega) (by omega)
  rw [hA, show ((m + 9 : Nat) : Int) = (m : Int) + 9 by omega] at hr1
  rw [show ((1 + few : Nat) : Int) = 1 + (few : Int) by omega] at hr2
  have HR1 := Lib.hid hr1
  have HR2 := Lib.hid hr2
  clear hr1 hr2
  obtain ⟨q, hq⟩ : ∃ q, ((rowsL l).take (1 + few)).length = q := ⟨_, rfl⟩
  have hqm : q = min (1 + few) m := by rw [← hq, List.length_take, hm]
  have HM := Lib.hid hm
  have HQ := Lib.hid hq
  have HT := Lib.hid hT
  have hq1 : q ≤ m := by omega
  have hmin : ((q : Int) != min (m : Int) (1 + (few : Int))) = false := by
    have : (q : Int) = min (m : Int) (1 + (few : Int)) := by omega
    rw [← this]; simp
  clear hm hq hT hA hx0 hx1 hqm
  go_enter Tryd.func10, Tryd.ntmps10
  go_upto_region 2 with (go_at_call 24; refine (HW.out _).mono ?_; rintro e w1 ⟨v1, rfl, hO1, hb1⟩)
  have HB1 := Lib.hid hb1
  have HO1 := Lib.hid hO1
  obtain ⟨a1, c1, hv1, _⟩ := own_rows hO1
  rw [HM.out] at hv1
  subst hv1
  clear hb1 hO1
  go_upto_region 3 with (first
    | (go_at_call 25; (with_reducible refine (HR1.out _ (HT.out.next HB1.out)).mono ?_); rintro e w2 ⟨v2, rfl, hO2, hb2⟩; have HB12 := Lib.hid hb2; have HB2 : Hid (Below w.heap.size w w2) := Lib.hid (HB1.out.trans (hb2.mono HB1.out.size)); have HO2 := Lib.hid hO2; obtain ⟨a2, c2, hv2, _⟩ := own_rows hO2; rw [HM.out] at hv2; subst hv2; clear hb2 hO2)
    | (go_at_call 25; (with_reducible refine (HR2.out _ (HT.out.next HB2.out)).mono ?_); rintro e w3 ⟨v3, rfl, hO3, hb3⟩; have HB23 := Lib.hid hb3; have HB3 : Hid (Below w.heap.size w w3) := Lib.hid (HB2.out.trans (hb3.mono HB2.out.size)); have HO3 := Lib.hid hO3; obtain ⟨a3, c3, hv3, _⟩ := own_rows hO3; rw [HQ.out] at hv3; subst hv3; clear hb3 hO3))
  have HR : Hid (∀ wr, Below w3.heap.size w3 wr → OwnRw w.heap.size (.slice a1 m c1) (rowsL l) wr ∧ OwnRw w1.heap.size (.slice a2 m c2) (rowsL l) wr ∧ OwnRw w2.heap.size (.slice a3 q c3) ((rowsL l).take (1 + few)) wr) := Lib.hid (fun wr hb =>
    ⟨((HO1.out.below HB12.out).below HB23.out).below hb, (HO2.out.below HB23.out).below hb, HO3.out.below hb⟩)
  go_wp2
  go_loopw [8] (fun kv wr => ∃ k : Nat, k ≤ m ∧ kv = .int .i64 (k : Int) ∧ Hid (Below w3.heap.size w3 wr)) (fun kv _ => m - (RowKit.intOf kv).toNat)
  case atStart => exact ⟨0, Nat.zero_le _, rfl, Lib.hid (Below.refl _ _)⟩
  case round =>
    obtain ⟨k, hkm, rfl, HH⟩ := hrel
    obtain ⟨o1, o2, o3⟩ := HR.out wr HH.out
    by_cases hlt : k < m
    · obtain ⟨x, hx⟩ : ∃ x, (rowsL l)[k]? = some x := ⟨_, List.getElem?_eq_getElem (by rw [HM.out]; exact hlt)⟩
      obtain ⟨_, _, hv1, hr1⟩ := own_rows o1
      obtain ⟨_, _, hv2, hr2⟩ := own_rows o2
      obtain ⟨_, _, hv3, hr3⟩ := own_rows o3
      rw [HM.out] at hv1 hv2
      rw [HQ.out] at hv3
      cases hv1
      cases hv2
      cases hv3
      obtain ⟨g1, rfl, _, d1⟩ := hr1 (by rw [HM.out]; omega)
      obtain ⟨g2, rfl, _, d2⟩ := hr2 (by rw [HM.out]; omega)
      obtain ⟨e0, e1⟩ := d1 k x hx
      obtain ⟨f0, f1⟩ := d2 k x hx
      obtain ⟨xn, xt⟩ := x
      simp only at e0 e1 f0 f1
      have hn := fun w => rowNeq w (xn : Int) xt
      by_cases hq : k < q
      · obtain ⟨g3, rfl, _, d3⟩ := hr3 (by rw [HQ.out]; omega)
        have hx3 : ((rowsL l).take (1 + few))[k]? = some (xn, xt) := by
          have h0 : k < ((rowsL l).take (1 + few)).length := by rw [HQ.out]; exact hq
          rw [List.length_take] at h0
          rw [List.getElem?_take, if_pos (by omega)]; exact hx
        obtain ⟨r0, r1⟩ := d3 k _ hx3
        simp only at r0 r1
        clear d1 d2 d3 hr1 hr2 hr3 o1 o2 o3 hx hx3
        go_wp2
        go_quiet (fail)
        go_wp2
        go_roundw
        case rel => exact ⟨k + 1, by omega, by go_num, Lib.hid (HH.out.trans (((Quiet.refl _).drewN _).below _))⟩
        case measure => simp [RowKit.intOf]; omega
      · clear d1 d2 hr1 hr2 hr3 o1 o2 o3 hx
        go_wp2
        go_quiet (fail)
        go_wp2
        go_roundw
        case rel => exact ⟨k + 1, by omega, by go_num, Lib.hid (HH.out.trans (((Quiet.refl _).drewN _).below _))⟩
        case measure => simp [RowKit.intOf]; omega
    · obtain rfl : k = m := by omega
      have HBf : Hid (Below w.heap.size w wr) := Lib.hid (HB3.out.trans (HH.out.mono HB3.out.size))
      have HWK := Lib.hid (worksC wr (HT.out.next HBf.out))
      clear o1 o2 o3
      go_wp2_with (go_at_call 13; refine (HWK.out).mono ?_; rintro e w9 ⟨rfl, hb9⟩)
      go_ret
      exact ⟨rfl, HBf.out.trans (hb9.mono HBf.out.size)⟩
end Go.Proofs.YtmhemahkcbgaoaaDoor
