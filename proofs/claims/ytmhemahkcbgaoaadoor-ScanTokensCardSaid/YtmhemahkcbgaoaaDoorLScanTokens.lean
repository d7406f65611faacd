/- ScanTokens: of every line its tokens, or the fault and its place; answers are new memory. -/
import Derived.Test.YtmhemahkcbgaoaaDoorSplit7
namespace Go.Proofs.YtmhemahkcbgaoaaDoor
set_option linter.unusedVariables false
set_option linter.unusedSimpArgs false
open Go.RowKit
open Go.Lib hiding intOf
set_option maxHeartbeats 8000000 in
set_option maxRecDepth 100000 in
theorem scanTokens_walk (w : World) (l : List UInt8) (hm : l.length ≤ 140737488351232) (hT : Tabs w) (hE : ErrT w) :
    Calls Tryd.prog 7 #[.string (bstr l)] w fun e w' => e = .returned (.bool true) ∧ Below w.heap.size w w' := by
  have hlen : (toksOf (scanOf l)).length ≤ 1048576 := by
    cases hs : scanOf l with
    | error e => exact Nat.zero_le _
    | ok L =>
      have := toks_count (scanOf_ok.1 hs).2 (Nat.zero_le _)
      have := (scanOf_ok.1 hs).1
      show L.length ≤ _
      omega
  have HC := Lib.hid (fun w1 (h : Tabs w1) => scanC2 w1 l (by omega) h)
  have HR := Lib.hid (fun w1 => scanR2 w1 l (by omega))
  obtain ⟨T, hTT⟩ : ∃ T, toksOf (scanOf l) = T := ⟨_, rfl⟩
  obtain ⟨r, hr⟩ : ∃ r, scanOf l = r := ⟨_, rfl⟩
  obtain ⟨c, hc⟩ : ∃ c : Nat, (codeOf r).1 = c := ⟨_, rfl⟩
  obtain ⟨p, hp⟩ : ∃ p : Nat, (codeOf r).2 = p := ⟨_, rfl⟩
  have HF := Lib.hid (fun w1 err (h : ErrIs w1 r err) (hE : ErrT w1) => isFault_same w1 r err h hE)
  rw [hr] at hTT
  rw [hr, hTT] at HC
  rw [hr, hTT, hc, hp] at HR
  rw [hc, hp] at HF
  rw [hr, hTT] at hlen
  have HT := Lib.hid hT
  have HE := Lib.hid hE
  clear hT hE hTT hr hc hp hm
  go_enter Tryd.func7, Tryd.ntmps7
  go_upto_region 2 with (go_at_call 18; refine (HC.out _ HT.out).mono ?_; rintro e w1 ⟨v1, err1, rfl, hb1, hO1, hI1⟩)
  have HB1 := Lib.hid hb1
  have HO1 := Lib.hid hO1
  have HI1 := Lib.hid hI1
  clear hb1 hO1 hI1
  go_upto_region 3 with (go_at_call 18; refine (HC.out _ (HT.out.next HB1.out)).mono ?_; rintro e w2 ⟨v2, err2, rfl, hb2, hO2, hI2⟩)
  have HB12 := Lib.hid hb2
  have HB2 : Hid (Below w.heap.size w w2) := Lib.hid (HB1.out.trans (hb2.mono HB1.out.size))
  have HO2 := Lib.hid hO2
  clear hb2 hO2 hI2
  go_upto_region 4 with (go_at_call 20; refine (HR.out _).mono ?_; rintro e w3 ⟨v3, rfl, hb3, hO3⟩)
  have HB23 := Lib.hid hb3
  have HB13 : Hid (Below w1.heap.size w1 w3) := Lib.hid (HB12.out.trans (hb3.mono HB12.out.size))
  have HB3 : Hid (Below w.heap.size w w3) := Lib.hid (HB2.out.trans (hb3.mono HB2.out.size))
  have HO3 := Lib.hid hO3
  clear hb3 hO3
  have HI3 : Hid (ErrIs w3 r err1) := Lib.hid (HI1.out.next HB13.out)
  -- the two rows, behind what was compared
  have HO13 : Hid (OwnT w.heap.size v1 T w3) := Lib.hid (HO1.out.below HB13.out)
  have HO23 : Hid (OwnT w1.heap.size v2 T w3) := Lib.hid (HO2.out.below HB23.out)
  obtain ⟨a1, c1, hv1, _, hc1, hm1⟩ := readsT_own HO13.out
  obtain ⟨a2, c2, hv2, _, _, _⟩ := readsT_own HO23.out
  obtain ⟨a3, c3, hv3, _, _, _⟩ := readsT_own HO3.out
  obtain ⟨n, hn⟩ : ∃ n, T.length = n := ⟨_, rfl⟩
  rw [hn] at hv1 hv2 hv3 hc1 hlen
  have HN := Lib.hid hn
  have HR1 := Lib.hid (fun w4 (h : OwnT w.heap.size v1 T w4) => (by obtain ⟨a, c, e, hR, _, _⟩ := readsT_own h; rw [hv1, HN.out] at e; cases e; rw [HN.out] at hR; exact hR : ReadsT w4 a1 n T))
  have HR2 := Lib.hid (fun w4 (h : OwnT w1.heap.size v2 T w4) => (by obtain ⟨a, c, e, hR, _, _⟩ := readsT_own h; rw [hv2, HN.out] at e; cases e; rw [HN.out] at hR; exact hR : ReadsT w4 a2 n T))
  have HR3 := Lib.hid (fun w4 (h : OwnT w2.heap.size v3 T w4) => (by obtain ⟨a, c, e, hR, _, _⟩ := readsT_own h; rw [hv3, HN.out] at e; cases e; rw [HN.out] at hR; exact hR : ReadsT w4 a3 n T))
  have HV1 := Lib.hid hv1
  have HV2 := Lib.hid hv2
  have HV3 := Lib.hid hv3
  clear hn hc1 hm1
  subst hv1 hv2 hv3
  go_upto_if 44 with (first
    | (go_at_call 21; refine (HF.out _ _ HI3.out (HE.out.next HB3.out)).mono ?_; rintro e w4 ⟨rfl, hb4⟩; have HO14 := Lib.hid (HO13.out.below hb4); have HO24 := Lib.hid (HO23.out.below hb4); have HO34 := Lib.hid (HO3.out.below hb4))
    | (go_at_call 22; (with_reducible refine (sameC w4 a1 n c1 T a3 n c3 T (HR1.out _ HO14.out) (HR3.out _ HO34.out) (by omega) (by omega)).mono ?_); rintro e w5 ⟨rfl, hq5⟩; have HO15 := Lib.hid (HO14.out.below (hq5.below _)); have HO25 := Lib.hid (HO24.out.below (hq5.below _)); have HO35 := Lib.hid (HO34.out.below (hq5.below _)))
    | (go_at_call 22; (with_reducible refine (sameC w5 a2 n c2 T a3 n c3 T (HR2.out _ HO25.out) (HR3.out _ HO35.out) (by omega) (by omega)).mono ?_); rintro e w6 ⟨rfl, hq6⟩; have HO16 := Lib.hid (HO15.out.below (hq6.below _)); have HO26 := Lib.hid (HO25.out.below (hq6.below _)); have HO36 := Lib.hid (HO35.out.below (hq6.below _))))
  have hb6 : Below w3.heap.size w3 w6 := hb4.trans (((hq5.below _).trans ((hq6.below _).mono (hq5.below w4.heap.size).size)).mono hb4.size)
  have HB36 := Lib.hid hb6
  have HB6 : Hid (Below w.heap.size w w6) := Lib.hid (HB3.out.trans (hb6.mono HB3.out.size))
  clear hb4 hq5 hq6 hb6
  have hA : (n = 0 ∧ a1 = none) ∨ ∃ g, a1 = some ⟨g, 0, none⟩ ∧ w.heap.size ≤ g ∧ g < w1.heap.size := by
    rcases HO1.out.2 with ⟨h1, h2⟩ | ⟨g, cap, cur, h1, h2, h3, _⟩
    · cases h1; exact .inl ⟨rfl, rfl⟩
    · cases h1; exact .inr ⟨g, rfl, h2, (Array.getElem?_eq_some_iff.1 h3).1⟩
  have HA := Lib.hid hA
  have hown0 : w6.ownsRow w.heap.size 38 4 (.slice a1 n c1) n (T.flatMap tokCells) := by have := HO16.out; unfold OwnT at this; rwa [HN.out] at this
  have hs36 := HB36.out.size
  have hs13 := HB13.out.size
  have hs01 := HB1.out.size
  have hn36 := HB36.out
  have H1 : Hid ((∃ xs, w6.ownsRow w.heap.size 38 4 (.slice a1 n c1) n xs) ∧ Below w.heap.size w w6 ∧ w3.heap.size ≤ w6.heap.size ∧ ∀ g, w1.heap.size ≤ g → g < w3.heap.size → w6.heap[g]? = w3.heap[g]?) := Lib.hid ⟨⟨_, hown0⟩, HB6.out, hs36, fun g _ h => hn36.block g h⟩
  clear hA hown0 hn36
  go_wp2
  go_loopw [10] (fun kv wr => ∃ k : Nat, k ≤ n ∧ kv = .int .i64 (k : Int) ∧ Hid ((∃ xs, wr.ownsRow w.heap.size 38 4 (.slice a1 n c1) n xs) ∧ Below w.heap.size w wr ∧ w3.heap.size ≤ wr.heap.size ∧ ∀ g, w1.heap.size ≤ g → g < w3.heap.size → wr.heap[g]? = w3.heap[g]?)) (fun kv _ => n - (RowKit.intOf kv).toNat)
  case atStart => exact ⟨0, Nat.zero_le _, rfl, H1⟩
  case round =>
    obtain ⟨k, hkn, rfl, HH⟩ := hrel
    clear H1
    by_cases hlt : k < n
    · obtain ⟨xs, hown⟩ := HH.out.1
      rcases HA.out with ⟨h0, _⟩ | ⟨g, rfl, hg0, hg1⟩
      · omega
      have hx : ∀ j, j < n * 4 → ∃ u, wr.cell? ⟨g, j, none⟩ = some u := fun j hj => ⟨xs[j]'(by rw [hown.1]; exact hj), by rw [hown.cellAt j hj, List.getElem?_eq_getElem]⟩
      obtain ⟨y0, e0⟩ := hx (k * 4) (by omega)
      obtain ⟨y1, e1⟩ := hx (k * 4 + 1) (by omega)
      obtain ⟨y2, e2⟩ := hx (k * 4 + 2) (by omega)
      obtain ⟨y3, e3⟩ := hx (k * 4 + 3) (by omega)
      have f0 := hown.frozenAt (k * 4)
      have f1 := hown.frozenAt (k * 4 + 1)
      have f2 := hown.frozenAt (k * 4 + 2)
      have f3 := hown.frozenAt (k * 4 + 3)
      have HOW := Lib.hid hown
      clear hx hown
      have S0 := HOW.out.stored (k * 4) (.int .i64 (-1))
      have S1 := S0.1.stored (k * 4 + 1) (.int .i64 (k : Int))
      have S2 := S1.1.stored (k * 4 + 2) (.string ⟨#[]⟩)
      have S3 := S2.1.stored (k * 4 + 3) (.int .i64 0)
      have HNX : Hid ((∃ xs, ((((wr.setCell ⟨g, k * 4, none⟩ (.int .i64 (-1))).setCell ⟨g, k * 4 + 1, none⟩ (.int .i64 (k : Int))).setCell ⟨g, k * 4 + 2, none⟩ (.string ⟨#[]⟩)).setCell ⟨g, k * 4 + 3, none⟩ (.int .i64 0)).ownsRow w.heap.size 38 4 (.slice (some ⟨g, 0, none⟩) n c1) n xs) ∧ Below w.heap.size w ((((wr.setCell ⟨g, k * 4, none⟩ (.int .i64 (-1))).setCell ⟨g, k * 4 + 1, none⟩ (.int .i64 (k : Int))).setCell ⟨g, k * 4 + 2, none⟩ (.string ⟨#[]⟩)).setCell ⟨g, k * 4 + 3, none⟩ (.int .i64 0)) ∧ w3.heap.size ≤ ((((wr.setCell ⟨g, k * 4, none⟩ (.int .i64 (-1))).setCell ⟨g, k * 4 + 1, none⟩ (.int .i64 (k : Int))).setCell ⟨g, k * 4 + 2, none⟩ (.string ⟨#[]⟩)).setCell ⟨g, k * 4 + 3, none⟩ (.int .i64 0)).heap.size ∧ ∀ g', w1.heap.size ≤ g' → g' < w3.heap.size → ((((wr.setCell ⟨g, k * 4, none⟩ (.int .i64 (-1))).setCell ⟨g, k * 4 + 1, none⟩ (.int .i64 (k : Int))).setCell ⟨g, k * 4 + 2, none⟩ (.string ⟨#[]⟩)).setCell ⟨g, k * 4 + 3, none⟩ (.int .i64 0)).heap[g']? = w3.heap[g']?) := Lib.hid (by
        refine ⟨⟨_, S3.1⟩, (((HH.out.2.1.setCell (p := ⟨g, k * 4, none⟩) hg0 _).setCell (p := ⟨g, k * 4 + 1, none⟩) hg0 _).setCell (p := ⟨g, k * 4 + 2, none⟩) hg0 _).setCell (p := ⟨g, k * 4 + 3, none⟩) hg0 _, ?_, ?_⟩
        · have := HH.out.2.2.1
          have h0 := S0.2.size
          have h1 := S1.2.size
          have h2 := S2.2.size
          have h3 := S3.2.size
          omega
        · intro g' h1 h2
          have hne : g ≠ g' := by omega
          rw [Below.heap_setCell _ _ _ _ (by first | exact hne | exact hne.symm), Below.heap_setCell _ _ _ _ (by first | exact hne | exact hne.symm), Below.heap_setCell _ _ _ _ (by first | exact hne | exact hne.symm), Below.heap_setCell _ _ _ _ (by first | exact hne | exact hne.symm)]
          exact HH.out.2.2.2 g' h1 h2)
      clear S0 S1 S2 S3
      go_wp2
      go_roundw
      case rel => exact ⟨k + 1, by omega, by go_num, HNX⟩
      case measure => simp [RowKit.intOf]; omega
    · have hap : ∀ j, (Value.slice a1 n c1).ownBlock = some j → j < w1.heap.size ∨ w3.heap.size ≤ j := by
        intro j hj
        rcases HA.out with ⟨_, rfl⟩ | ⟨g, rfl, hg0, hg1⟩
        · cases hj
        · cases hj; exact .inl hg1
      have H2 : Hid ((∃ xs, wr.ownsRow w.heap.size 38 4 (.slice a1 n c1) (n + 0) xs) ∧ Below w.heap.size w wr ∧ w3.heap.size ≤ wr.heap.size ∧ (∀ g, w1.heap.size ≤ g → g < w3.heap.size → wr.heap[g]? = w3.heap[g]?) ∧ ∀ j, (Value.slice a1 n c1).ownBlock = some j → j < w1.heap.size ∨ w3.heap.size ≤ j) := Lib.hid ⟨HH.out.1, HH.out.2.1, HH.out.2.2.1, HH.out.2.2.2, hap⟩
      clear hap
      obtain ⟨wo, rfl⟩ : ∃ wo : World, wo = wr := ⟨_, rfl⟩
      go_wp2
      go_loopw [3, 11] (fun vv kv wr => ∃ k : Nat, k ≤ 20 ∧ kv = .int .i64 (k : Int) ∧ Hid ((∃ xs, wr.ownsRow w.heap.size 38 4 vv (n + k) xs) ∧ Below w.heap.size w wr ∧ w3.heap.size ≤ wr.heap.size ∧ (∀ g, w1.heap.size ≤ g → g < w3.heap.size → wr.heap[g]? = w3.heap[g]?) ∧ ∀ j, vv.ownBlock = some j → j < w1.heap.size ∨ w3.heap.size ≤ j)) (fun _ kv _ => 20 - (RowKit.intOf kv).toNat)
      case atStart => exact ⟨0, by decide, rfl, H2⟩
      case round =>
        obtain ⟨q, hq20, rfl, HG⟩ := hrel
        obtain ⟨vv, rfl⟩ : ∃ v : Value, v = u3 := ⟨_, rfl⟩
        clear H2
        by_cases hlq : q < 20
        · obtain ⟨xs, hown⟩ := HG.out.1
          have hbr := HG.out.2.1.size
          have HOW := Lib.hid hown
          have HB := Lib.hid HG.out.2.1
          clear hown
          go_wp2_with (at_builtin; refine appTokSep rfl _ _ rfl w.heap.size w.heap.size w wr vv (n + q) xs ⟨-2, 0, [], 0⟩ rfl HOW.out rfl rfl (by omega) HB.out (Nat.le_refl _) hbr ?_; intro v8 w8 hO8 hb8 hs8 hd8 hk8)
          have HNX : Hid ((∃ xs, w8.ownsRow w.heap.size 38 4 v8 (n + (q + 1)) xs) ∧ Below w.heap.size w w8 ∧ w3.heap.size ≤ w8.heap.size ∧ (∀ g, w1.heap.size ≤ g → g < w3.heap.size → w8.heap[g]? = w3.heap[g]?) ∧ ∀ j, v8.ownBlock = some j → j < w1.heap.size ∨ w3.heap.size ≤ j) := Lib.hid (by
            have h3 := HG.out.2.2.1
            refine ⟨⟨_, hO8⟩, hb8, by omega, fun g h1 h2 => ?_, fun j hj => ?_⟩
            · rw [hk8 g (by omega) (fun e => by have := HG.out.2.2.2.2 g e; omega)]
              exact HG.out.2.2.2.1 g h1 h2
            · rcases hd8 with h | h
              · exact HG.out.2.2.2.2 j (h ▸ hj)
              · exact .inr (Nat.le_trans h3 (h j hj)))
          clear hO8 hb8 hs8 hd8 hk8
          go_roundw
          case rel => exact ⟨q + 1, by omega, by go_num, HNX⟩
          case measure => simp [RowKit.intOf]; omega
        · have hs23 := HB23.out.size
          have hO2f : OwnT w1.heap.size (.slice a2 n c2) T wr := HO23.out.same fun g hg => by
            have h1 := (World.ownsRow.lt HO2.out g hg)
            exact HG.out.2.2.2.1 g h1.1 (by omega)
          have hO3f : OwnT w2.heap.size (.slice a3 n c3) T wr := HO3.out.same fun g hg => by
            have h1 := (World.ownsRow.lt HO3.out g hg)
            have h12 := HB12.out.size
            exact HG.out.2.2.2.1 g (by omega) h1.2
          have HS := Lib.hid (sameC wr a2 n c2 T a3 n c3 T (HR2.out _ hO2f) (HR3.out _ hO3f) (by omega) (by omega))
          have HBf := Lib.hid HG.out.2.1
          clear hO2f hO3f
          go_wp2_with (first
            | (go_at_call 22; refine (HS.out).mono ?_; rintro e w9 ⟨rfl, hq9⟩; have HB9 := Lib.hid (HBf.out.trans ((hq9.below _).mono HBf.out.size)); have HW := Lib.hid (worksC w9 (HT.out.next HB9.out)))
            | (go_at_call 13; refine (HW.out).mono ?_; rintro e w10 ⟨rfl, hb10⟩))
          go_ret
          exact ⟨rfl, HB9.out.trans (hb10.mono HB9.out.size)⟩
end Go.Proofs.YtmhemahkcbgaoaaDoor
