/- Texts joined, one behind the other (LScanTokens, UnqD, LScanUnquotes, LScanQuotes, LScanBack). -/
import Derived.Test.YtmhemahkcbgaoaaGreatDoorKn16
/- ScanTokens: of every line its tokens, or the fault and its place; answers are new memory. -/
namespace Go.Proofs.YtmhemahkcbgaoaaGreatDoor
set_option linter.unusedVariables false
set_option linter.unusedSimpArgs false
open Go.RowKit
open Go.Lib hiding intOf
set_option maxHeartbeats 8000000 in
set_option maxRecDepth 100000 in
theorem scanTokens_walk (w : World) (l : List UInt8) (hm : l.length ≤ 140737488351232) (hT : Tabs w) (hE : ErrT w) :
    Calls Tryz.prog 4 #[.string (bstr l)] w fun e w' => e = .returned (.bool true) ∧ Below w.heap.size w w' := by
  have hlen : (toksOf (scanOf l)).length ≤ 1048576 := by
    cases hs : scanOf l with
    | error e => exact Nat.zero_le _
    | ok L =>
      have := toks_count (scanOf_ok.1 hs).2 (Nat.zero_le _)
      have := (scanOf_ok.1 hs).1
      show L.length ≤ _
      omega
  have HC := Lib.hid (fun w1 (h : Tabs w1) => scanC2 w1 l (by omega) h)
  have HR := Lib.hid (fun w1 => scanR2 w1 l (by omega))
  obtain ⟨T, hTT⟩ : ∃ T, toksOf (scanOf l) = T := ⟨_, rfl⟩
  obtain ⟨r, hr⟩ : ∃ r, scanOf l = r := ⟨_, rfl⟩
  obtain ⟨c, hc⟩ : ∃ c : Nat, (codeOf r).1 = c := ⟨_, rfl⟩
  obtain ⟨p, hp⟩ : ∃ p : Nat, (codeOf r).2 = p := ⟨_, rfl⟩
  have HF := Lib.hid (fun w1 err (h : ErrIs w1 r err) (hE : ErrT w1) => isFault_same w1 r err h hE)
  rw [hr] at hTT
  rw [hr, hTT] at HC
  rw [hr, hTT, hc, hp] at HR
  rw [hc, hp] at HF
  rw [hr, hTT] at hlen
  have HT := Lib.hid hT
  have HE := Lib.hid hE
  clear hT hE hTT hr hc hp hm
  go_enter Tryz.func4, Tryz.ntmps4
  go_upto_region 2 with (go_at_call 12; refine (HC.out _ HT.out).mono ?_; rintro e w1 ⟨v1, err1, rfl, hb1, hO1, hI1⟩)
  have HB1 := Lib.hid hb1
  have HO1 := Lib.hid hO1
  have HI1 := Lib.hid hI1
  clear hb1 hO1 hI1
  go_upto_region 3 with (go_at_call 12; refine (HC.out _ (HT.out.next HB1.out)).mono ?_; rintro e w2 ⟨v2, err2, rfl, hb2, hO2, hI2⟩)
  have HB12 := Lib.hid hb2
  have HB2 : Hid (Below w.heap.size w w2) := Lib.hid (HB1.out.trans (hb2.mono HB1.out.size))
  have HO2 := Lib.hid hO2
  clear hb2 hO2 hI2
  go_upto_region 4 with (go_at_call 13; refine (HR.out _).mono ?_; rintro e w3 ⟨v3, rfl, hb3, hO3⟩)
  have HB23 := Lib.hid hb3
  have HB13 : Hid (Below w1.heap.size w1 w3) := Lib.hid (HB12.out.trans (hb3.mono HB12.out.size))
  have HB3 : Hid (Below w.heap.size w w3) := Lib.hid (HB2.out.trans (hb3.mono HB2.out.size))
  have HO3 := Lib.hid hO3
  clear hb3 hO3
  have HI3 : Hid (ErrIs w3 r err1) := Lib.hid (HI1.out.next HB13.out)
  -- the two rows, behind what was compared
  have HO13 : Hid (OwnT w.heap.size v1 T w3) := Lib.hid (HO1.out.below HB13.out)
  have HO23 : Hid (OwnT w1.heap.size v2 T w3) := Lib.hid (HO2.out.below HB23.out)
  obtain ⟨a1, c1, hv1, _, hc1, hm1⟩ := readsT_own HO13.out
  obtain ⟨a2, c2, hv2, _, _, _⟩ := readsT_own HO23.out
  obtain ⟨a3, c3, hv3, _, _, _⟩ := readsT_own HO3.out
  obtain ⟨n, hn⟩ : ∃ n, T.length = n := ⟨_, rfl⟩
  rw [hn] at hv1 hv2 hv3 hc1 hlen
  have HN := Lib.hid hn
  have HR1 := Lib.hid (fun w4 (h : OwnT w.heap.size v1 T w4) => (by obtain ⟨a, c, e, hR, _, _⟩ := readsT_own h; rw [hv1, HN.out] at e; cases e; rw [HN.out] at hR; exact hR : ReadsT w4 a1 n T))
  have HR2 := Lib.hid (fun w4 (h : OwnT w1.heap.size v2 T w4) => (by obtain ⟨a, c, e, hR, _, _⟩ := readsT_own h; rw [hv2, HN.out] at e; cases e; rw [HN.out] at hR; exact hR : ReadsT w4 a2 n T))
  have HR3 := Lib.hid (fun w4 (h : OwnT w2.heap.size v3 T w4) => (by obtain ⟨a, c, e, hR, _, _⟩ := readsT_own h; rw [hv3, HN.out] at e; cases e; rw [HN.out] at hR; exact hR : ReadsT w4 a3 n T))
  have HV1 := Lib.hid hv1
  have HV2 := Lib.hid hv2
  have HV3 := Lib.hid hv3
  clear hn hc1 hm1
  subst hv1 hv2 hv3
  go_upto_if 44 with (first
    | (go_at_call 14; refine (HF.out _ _ HI3.out (HE.out.next HB3.out)).mono ?_; rintro e w4 ⟨rfl, hb4⟩; have HO14 := Lib.hid (HO13.out.below hb4); have HO24 := Lib.hid (HO23.out.below hb4); have HO34 := Lib.hid (HO3.out.below hb4))
    | (go_at_call 15; (with_reducible refine (sameC w4 a1 n c1 T a3 n c3 T (HR1.out _ HO14.out) (HR3.out _ HO34.out) (by omega) (by omega)).mono ?_); rintro e w5 ⟨rfl, hq5⟩; have HO15 := Lib.hid (HO14.out.below (hq5.below _)); have HO25 := Lib.hid (HO24.out.below (hq5.below _)); have HO35 := Lib.hid (HO34.out.below (hq5.below _)))
    | (go_at_call 15; (with_reducible refine (sameC w5 a2 n c2 T a3 n c3 T (HR2.out _ HO25.out) (HR3.out _ HO35.out) (by omega) (by omega)).mono ?_); rintro e w6 ⟨rfl, hq6⟩; have HO16 := Lib.hid (HO15.out.below (hq6.below _)); have HO26 := Lib.hid (HO25.out.below (hq6.below _)); have HO36 := Lib.hid (HO35.out.below (hq6.below _))))
  have hb6 : Below w3.heap.size w3 w6 := hb4.trans (((hq5.below _).trans ((hq6.below _).mono (hq5.below w4.heap.size).size)).mono hb4.size)
  have HB36 := Lib.hid hb6
  have HB6 : Hid (Below w.heap.size w w6) := Lib.hid (HB3.out.trans (hb6.mono HB3.out.size))
  clear hb4 hq5 hq6 hb6
  have hA : (n = 0 ∧ a1 = none) ∨ ∃ g, a1 = some ⟨g, 0, none⟩ ∧ w.heap.size ≤ g ∧ g < w1.heap.size := by
    rcases HO1.out.2 with ⟨h1, h2⟩ | ⟨g, cap, cur, h1, h2, h3, _⟩
    · cases h1; exact .inl ⟨rfl, rfl⟩
    · cases h1; exact .inr ⟨g, rfl, h2, (Array.getElem?_eq_some_iff.1 h3).1⟩
  have HA := Lib.hid hA
  have hown0 : w6.ownsRow w.heap.size 28 4 (.slice a1 n c1) n (T.flatMap tokCells) := by have := HO16.out; unfold OwnT at this; rwa [HN.out] at this
  have hs36 := HB36.out.size
  have hs13 := HB13.out.size
  have hs01 := HB1.out.size
  have hn36 := HB36.out
  have H1 : Hid ((∃ xs, w6.ownsRow w.heap.size 28 4 (.slice a1 n c1) n xs) ∧ Below w.heap.size w w6 ∧ w3.heap.size ≤ w6.heap.size ∧ ∀ g, w1.heap.size ≤ g → g < w3.heap.size → w6.heap[g]? = w3.heap[g]?) := Lib.hid ⟨⟨_, hown0⟩, HB6.out, hs36, fun g _ h => hn36.block g h⟩
  clear hA hown0 hn36
  go_wp2
  go_loopw [10] (fun kv wr => ∃ k : Nat, k ≤ n ∧ kv = .int .i64 (k : Int) ∧ Hid ((∃ xs, wr.ownsRow w.heap.size 28 4 (.slice a1 n c1) n xs) ∧ Below w.heap.size w wr ∧ w3.heap.size ≤ wr.heap.size ∧ ∀ g, w1.heap.size ≤ g → g < w3.heap.size → wr.heap[g]? = w3.heap[g]?)) (fun kv _ => n - (RowKit.intOf kv).toNat)
  case atStart => exact ⟨0, Nat.zero_le _, rfl, H1⟩
  case round =>
    obtain ⟨k, hkn, rfl, HH⟩ := hrel
    clear H1
    by_cases hlt : k < n
    · obtain ⟨xs, hown⟩ := HH.out.1
      rcases HA.out with ⟨h0, _⟩ | ⟨g, rfl, hg0, hg1⟩
      · omega
      have hx : ∀ j, j < n * 4 → ∃ u, wr.cell? ⟨g, j, none⟩ = some u := fun j hj => ⟨xs[j]'(by rw [hown.1]; exact hj), by rw [hown.cellAt j hj, List.getElem?_eq_getElem]⟩
      obtain ⟨y0, e0⟩ := hx (k * 4) (by omega)
      obtain ⟨y1, e1⟩ := hx (k * 4 + 1) (by omega)
      obtain ⟨y2, e2⟩ := hx (k * 4 + 2) (by omega)
      obtain ⟨y3, e3⟩ := hx (k * 4 + 3) (by omega)
      have f0 := hown.frozenAt (k * 4)
      have f1 := hown.frozenAt (k * 4 + 1)
      have f2 := hown.frozenAt (k * 4 + 2)
      have f3 := hown.frozenAt (k * 4 + 3)
      have HOW := Lib.hid hown
      clear hx hown
      have S0 := HOW.out.stored (k * 4) (.int .i64 (-1))
      have S1 := S0.1.stored (k * 4 + 1) (.int .i64 (k : Int))
      have S2 := S1.1.stored (k * 4 + 2) (.string ⟨#[]⟩)
      have S3 := S2.1.stored (k * 4 + 3) (.int .i64 0)
      have HNX : Hid ((∃ xs, ((((wr.setCell ⟨g, k * 4, none⟩ (.int .i64 (-1))).setCell ⟨g, k * 4 + 1, none⟩ (.int .i64 (k : Int))).setCell ⟨g, k * 4 + 2, none⟩ (.string ⟨#[]⟩)).setCell ⟨g, k * 4 + 3, none⟩ (.int .i64 0)).ownsRow w.heap.size 28 4 (.slice (some ⟨g, 0, none⟩) n c1) n xs) ∧ Below w.heap.size w ((((wr.setCell ⟨g, k * 4, none⟩ (.int .i64 (-1))).setCell ⟨g, k * 4 + 1, none⟩ (.int .i64 (k : Int))).setCell ⟨g, k * 4 + 2, none⟩ (.string ⟨#[]⟩)).setCell ⟨g, k * 4 + 3, none⟩ (.int .i64 0)) ∧ w3.heap.size ≤ ((((wr.setCell ⟨g, k * 4, none⟩ (.int .i64 (-1))).setCell ⟨g, k * 4 + 1, none⟩ (.int .i64 (k : Int))).setCell ⟨g, k * 4 + 2, none⟩ (.string ⟨#[]⟩)).setCell ⟨g, k * 4 + 3, none⟩ (.int .i64 0)).heap.size ∧ ∀ g', w1.heap.size ≤ g' → g' < w3.heap.size → ((((wr.setCell ⟨g, k * 4, none⟩ (.int .i64 (-1))).setCell ⟨g, k * 4 + 1, none⟩ (.int .i64 (k : Int))).setCell ⟨g, k * 4 + 2, none⟩ (.string ⟨#[]⟩)).setCell ⟨g, k * 4 + 3, none⟩ (.int .i64 0)).heap[g']? = w3.heap[g']?) := Lib.hid (by
        refine ⟨⟨_, S3.1⟩, (((HH.out.2.1.setCell (p := ⟨g, k * 4, none⟩) hg0 _).setCell (p := ⟨g, k * 4 + 1, none⟩) hg0 _).setCell (p := ⟨g, k * 4 + 2, none⟩) hg0 _).setCell (p := ⟨g, k * 4 + 3, none⟩) hg0 _, ?_, ?_⟩
        · have := HH.out.2.2.1
          have h0 := S0.2.size
          have h1 := S1.2.size
          have h2 := S2.2.size
          have h3 := S3.2.size
          omega
        · intro g' h1 h2
          have hne : g ≠ g' := by omega
          rw [Below.heap_setCell _ _ _ _ (by first | exact hne | exact hne.symm), Below.heap_setCell _ _ _ _ (by first | exact hne | exact hne.symm), Below.heap_setCell _ _ _ _ (by first | exact hne | exact hne.symm), Below.heap_setCell _ _ _ _ (by first | exact hne | exact hne.symm)]
          exact HH.out.2.2.2 g' h1 h2)
      clear S0 S1 S2 S3
      go_wp2
      go_roundw
      case rel => exact ⟨k + 1, by omega, by go_num, HNX⟩
      case measure => simp [RowKit.intOf]; omega
    · have hap : ∀ j, (Value.slice a1 n c1).ownBlock = some j → j < w1.heap.size ∨ w3.heap.size ≤ j := by
        intro j hj
        rcases HA.out with ⟨_, rfl⟩ | ⟨g, rfl, hg0, hg1⟩
        · cases hj
        · cases hj; exact .inl hg1
      have H2 : Hid ((∃ xs, wr.ownsRow w.heap.size 28 4 (.slice a1 n c1) (n + 0) xs) ∧ Below w.heap.size w wr ∧ w3.heap.size ≤ wr.heap.size ∧ (∀ g, w1.heap.size ≤ g → g < w3.heap.size → wr.heap[g]? = w3.heap[g]?) ∧ ∀ j, (Value.slice a1 n c1).ownBlock = some j → j < w1.heap.size ∨ w3.heap.size ≤ j) := Lib.hid ⟨HH.out.1, HH.out.2.1, HH.out.2.2.1, HH.out.2.2.2, hap⟩
      clear hap
      obtain ⟨wo, rfl⟩ : ∃ wo : World, wo = wr := ⟨_, rfl⟩
      go_wp2
      go_loopw [3, 11] (fun vv kv wr => ∃ k : Nat, k ≤ 20 ∧ kv = .int .i64 (k : Int) ∧ Hid ((∃ xs, wr.ownsRow w.heap.size 28 4 vv (n + k) xs) ∧ Below w.heap.size w wr ∧ w3.heap.size ≤ wr.heap.size ∧ (∀ g, w1.heap.size ≤ g → g < w3.heap.size → wr.heap[g]? = w3.heap[g]?) ∧ ∀ j, vv.ownBlock = some j → j < w1.heap.size ∨ w3.heap.size ≤ j)) (fun _ kv _ => 20 - (RowKit.intOf kv).toNat)
      case atStart => exact ⟨0, by decide, rfl, H2⟩
      case round =>
        obtain ⟨q, hq20, rfl, HG⟩ := hrel
        obtain ⟨vv, rfl⟩ : ∃ v : Value, v = u3 := ⟨_, rfl⟩
        clear H2
        by_cases hlq : q < 20
        · obtain ⟨xs, hown⟩ := HG.out.1
          have hbr := HG.out.2.1.size
          have HOW := Lib.hid hown
          have HB := Lib.hid HG.out.2.1
          clear hown
          go_wp2_with (at_builtin; refine appTokSep rfl _ _ rfl w.heap.size w.heap.size w wr vv (n + q) xs ⟨-2, 0, [], 0⟩ rfl HOW.out rfl rfl (by omega) HB.out (Nat.le_refl _) hbr ?_; intro v8 w8 hO8 hb8 hs8 hd8 hk8)
          have HNX : Hid ((∃ xs, w8.ownsRow w.heap.size 28 4 v8 (n + (q + 1)) xs) ∧ Below w.heap.size w w8 ∧ w3.heap.size ≤ w8.heap.size ∧ (∀ g, w1.heap.size ≤ g → g < w3.heap.size → w8.heap[g]? = w3.heap[g]?) ∧ ∀ j, v8.ownBlock = some j → j < w1.heap.size ∨ w3.heap.size ≤ j) := Lib.hid (by
            have h3 := HG.out.2.2.1
            refine ⟨⟨_, hO8⟩, hb8, by omega, fun g h1 h2 => ?_, fun j hj => ?_⟩
            · rw [hk8 g (by omega) (fun e => by have := HG.out.2.2.2.2 g e; omega)]
              exact HG.out.2.2.2.1 g h1 h2
            · rcases hd8 with h | h
              · exact HG.out.2.2.2.2 j (h ▸ hj)
              · exact .inr (Nat.le_trans h3 (h j hj)))
          clear hO8 hb8 hs8 hd8 hk8
          go_roundw
          case rel => exact ⟨q + 1, by omega, by go_num, HNX⟩
          case measure => simp [RowKit.intOf]; omega
        · have hs23 := HB23.out.size
          have hO2f : OwnT w1.heap.size (.slice a2 n c2) T wr := HO23.out.same fun g hg => by
            have h1 := (World.ownsRow.lt HO2.out g hg)
            exact HG.out.2.2.2.1 g h1.1 (by omega)
          have hO3f : OwnT w2.heap.size (.slice a3 n c3) T wr := HO3.out.same fun g hg => by
            have h1 := (World.ownsRow.lt HO3.out g hg)
            have h12 := HB12.out.size
            exact HG.out.2.2.2.1 g (by omega) h1.2
          have HS := Lib.hid (sameC wr a2 n c2 T a3 n c3 T (HR2.out _ hO2f) (HR3.out _ hO3f) (by omega) (by omega))
          have HBf := Lib.hid HG.out.2.1
          clear hO2f hO3f
          go_wp2_with (first
            | (go_at_call 15; refine (HS.out).mono ?_; rintro e w9 ⟨rfl, hq9⟩; have HB9 := Lib.hid (HBf.out.trans ((hq9.below _).mono HBf.out.size)); have HW := Lib.hid (worksC w9 (HT.out.next HB9.out)))
            | (go_at_call 11; refine (HW.out).mono ?_; rintro e w10 ⟨rfl, hb10⟩))
          go_ret
          exact ⟨rfl, HB9.out.trans (hb10.mono HB9.out.size)⟩
end Go.Proofs.YtmhemahkcbgaoaaGreatDoor
/- Unquote, by both. -/
namespace Go.Proofs.YtmhemahkcbgaoaaGreatDoor
set_option linter.unusedVariables false
set_option linter.unusedSimpArgs false
open Go.RowKit
open Go.Lib hiding intOf
def UnqQ (w : World) (r : Except (Nat × Nat) (List UInt8)) (e : Ending) (w' : World) : Prop :=
  ∃ (t : List UInt8) (err : Value), e = .returned (.tuple #[.string (bstr t), err]) ∧ Below w.heap.size w w' ∧ match r with
    | .ok s => t = s ∧ err = .nilIface
    | .error (c, p) => t = [] ∧ ∃ g, err = .iface 54 (.pointer (some ⟨g, 0, none⟩)) ∧ w.heap.size ≤ g ∧ Row w' g 56 [.int .i64 (c : Int), .int .i64 (p : Int)]
def UnqR (w : World) (r : Except (Nat × Nat) (List UInt8)) (e : Ending) (w' : World) : Prop :=
  ∃ (t : List UInt8) (c p : Int), e = .returned (.tuple #[.string (bstr t), .int .i64 c, .int .i64 p]) ∧ Below w.heap.size w w' ∧ match r with
    | .ok s => t = s ∧ c = 0 ∧ p = 0
    | .error (c', p') => t = [] ∧ c = (c' : Int) ∧ p = (p' : Int)
theorem unquote_cases (l : List UInt8) : (16384 < l.length ∧ unquoteOf l = .error (4, 0)) ∨ (l.length ≤ 16384 ∧ l.length = 0 ∧ unquoteOf l = .error (71, 0)) ∨
    (∃ x, l.length ≤ 16384 ∧ l[0]? = some x ∧ x ≠ 34 ∧ unquoteOf l = .error (71, 0)) ∨
    (l.length ≤ 16384 ∧ l[0]? = some 34 ∧ (quotedOf l).2.2 = false ∧ unquoteOf l = .error (71, (quotedOf l).2.1)) ∨
    (l.length ≤ 16384 ∧ l[0]? = some 34 ∧ (quotedOf l).2.2 = true ∧ (quotedOf l).2.1 < l.length ∧ unquoteOf l = .error (71, (quotedOf l).2.1)) ∨
    (l.length ≤ 16384 ∧ l[0]? = some 34 ∧ (quotedOf l).2.2 = true ∧ l.length ≤ (quotedOf l).2.1 ∧ unquoteOf l = .ok (quotedOf l).1) := by
  unfold unquoteOf
  by_cases h1 : 16384 < l.length
  · exact .inl ⟨h1, by rw [if_pos h1]⟩
  rw [if_neg h1]
  by_cases h0 : l.length = 0
  · exact .inr (.inl ⟨by omega, h0, by rw [if_pos (.inl h0)]⟩)
  obtain ⟨x, hx⟩ := some_at (l := l) (k := 0) (by omega)
  have hg : l.getD 0 0 = x := by rw [List.getD_eq_getElem?_getD, hx]; rfl
  rw [hg]
  by_cases h2 : x = 34
  · subst h2
    rw [if_neg (by rintro (h | h); · exact h0 h
                   · exact h rfl)]
    by_cases h3 : (quotedOf l).2.2 = false
    · exact .inr (.inr (.inr (.inl ⟨by omega, hx, h3, by rw [if_pos (.inl h3)]⟩)))
    have h3' : (quotedOf l).2.2 = true := by simpa using h3
    by_cases h4 : (quotedOf l).2.1 < l.length
    · exact .inr (.inr (.inr (.inr (.inl ⟨by omega, hx, h3', h4, by rw [if_pos (.inr h4)]⟩))))
    · exact .inr (.inr (.inr (.inr (.inr ⟨by omega, hx, h3', by omega, by rw [if_neg (fun h => h.elim h3 h4)]⟩))))
  · exact .inr (.inr (.inl ⟨x, by omega, hx, h2, by rw [if_pos (.inr h2)]⟩))
set_option maxHeartbeats 4000000 in
set_option maxRecDepth 100000 in
theorem unquoteC (w : World) (l : List UInt8) (hm : l.length ≤ 140737488355328) (hT : Tabs w) :
    Calls Tryz.prog 16 #[.string (bstr l)] w (UnqQ w (unquoteOf l)) := by
  obtain ⟨n, hn⟩ : ∃ n, n = l.length := ⟨_, rfl⟩
  have hsz : (bstr l).size = n := by rw [bstr_size, hn]
  rcases unquote_cases l with ⟨h1, hu⟩ | ⟨h1, h0, hu⟩ | ⟨x, h1, hx, hne, hu⟩ | ⟨h1, hx, hf, hu⟩ | ⟨h1, hx, hf, hlt, hu⟩ | ⟨h1, hx, hf, hge, hu⟩
  · rw [hu]
    rw [← hn] at hm h1
    clear hn hu
    go_enter Tryz.func16, Tryz.ntmps16
    go_wp2
    go_ret2
    exact ⟨[], _, rfl, (Below.refl _ _).alloc (Nat.le_refl _) _, rfl, w.heap.size, rfl, Nat.le_refl _, alloc_last _ _⟩
  · obtain rfl : l = [] := List.eq_nil_of_length_eq_zero h0
    rw [hu]
    clear hn hu hsz
    go_enter Tryz.func16, Tryz.ntmps16
    go_wp2
    go_ret2
    exact ⟨[], _, rfl, (Below.refl _ _).alloc (Nat.le_refl _) _, rfl, w.heap.size, rfl, Nat.le_refl _, alloc_last _ _⟩
  all_goals
    have hl0 : 0 < l.length := (List.getElem?_eq_some_iff.1 hx).1
    have i0 : 0 < (bstr l).size := by rw [hsz, hn]; exact hl0
    have hxa := bstr_at hx i0
    obtain ⟨y, l', hly⟩ : ∃ y l', l = y :: l' := by cases l with | nil => cases hx | cons y l' => exact ⟨y, l', rfl⟩
    have hne0 : (bstr l).toList = l := by rw [ByteArray.toList_eq]; simp [bstr]
    have hne1 : (bstr l).toList.isEmpty = false := by rw [hne0, hly]; rfl
    have hne2 : ((bstr l).toList == []) = false := by rw [hne0, hly]; rfl
    have hnl : l.isEmpty = false := by rw [hly]; rfl
  · rw [hu]
    have b0 : ((x.toNat : Int) == 34) = false := byte_ne (n := 34) (by decide) hne
    have b1 : ((x.toNat : Int) != 34) = true := by rw [bne, b0]; rfl
    rw [← hn] at hm h1 hl0
    clear hn hu hne hne0 hx hly
    go_enter Tryz.func16, Tryz.ntmps16
    go_wp2
    go_ret2
    exact ⟨[], _, rfl, (Below.refl _ _).alloc (Nat.le_refl _) _, rfl, w.heap.size, rfl, Nat.le_refl _, alloc_last _ _⟩
  all_goals
    have hQ := quotedC w l (by omega) hT
    rw [hu]
    rw [hf] at hQ
    obtain ⟨T, hTt⟩ : ∃ T, (quotedOf l).1 = T := ⟨_, rfl⟩
    obtain ⟨P, hP⟩ : ∃ P, (quotedOf l).2.1 = P := ⟨_, rfl⟩
    rw [hTt, hP] at hQ
    have HQ := Lib.hid hQ
    clear hQ hu hne0 hx hly hf
  · rw [hP]
    rw [← hn] at hm h1 hl0
    clear hn hTt hP
    go_enter Tryz.func16, Tryz.ntmps16
    go_wp2_with (go_at_call 30; refine (HQ.out).mono ?_; rintro e w2 ⟨rfl, hb2⟩)
    go_ret2
    exact ⟨[], _, rfl, hb2.alloc hb2.size _, rfl, w2.heap.size, rfl, hb2.size, alloc_last _ _⟩
  · rw [hP]
    rw [hP] at hlt
    rw [← hn] at hm h1 hl0 hlt
    clear hn hTt hP
    go_enter Tryz.func16, Tryz.ntmps16
    go_wp2_with (go_at_call 30; refine (HQ.out).mono ?_; rintro e w2 ⟨rfl, hb2⟩)
    go_ret2
    exact ⟨[], _, rfl, hb2.alloc hb2.size _, rfl, w2.heap.size, rfl, hb2.size, alloc_last _ _⟩
  · rw [hTt]
    rw [hP] at hge
    rw [← hn] at hm h1 hl0 hge
    clear hn hTt hP
    go_enter Tryz.func16, Tryz.ntmps16
    go_wp2_with (go_at_call 30; refine (HQ.out).mono ?_; rintro e w2 ⟨rfl, hb2⟩)
    go_ret2
    exact ⟨T, _, rfl, hb2, rfl, rfl⟩
set_option maxHeartbeats 4000000 in
set_option maxRecDepth 100000 in
theorem unquoteR (w : World) (l : List UInt8) (hm : l.length ≤ 140737488355328) :
    Calls Tryz.prog 17 #[.string (bstr l)] w (UnqR w (unquoteOf l)) := by
  obtain ⟨n, hn⟩ : ∃ n, n = l.length := ⟨_, rfl⟩
  have hsz : (bstr l).size = n := by rw [bstr_size, hn]
  rcases unquote_cases l with ⟨h1, hu⟩ | ⟨h1, h0, hu⟩ | ⟨x, h1, hx, hne, hu⟩ | ⟨h1, hx, hf, hu⟩ | ⟨h1, hx, hf, hlt, hu⟩ | ⟨h1, hx, hf, hge, hu⟩
  · rw [hu]
    rw [← hn] at hm h1
    clear hn hu
    go_enter Tryz.func17, Tryz.ntmps17
    go_wp2
    go_ret3
    exact ⟨[], _, _, rfl, Below.refl _ _, rfl, rfl, rfl⟩
  · rw [hu]
    rw [← hn] at hm h1 h0
    clear hn hu
    subst h0
    go_enter Tryz.func17, Tryz.ntmps17
    go_wp2
    go_ret3
    exact ⟨[], _, _, rfl, Below.refl _ _, rfl, rfl, rfl⟩
  all_goals
    have hl0 : 0 < l.length := (List.getElem?_eq_some_iff.1 hx).1
    have i0 : 0 < (bstr l).size := by rw [hsz, hn]; exact hl0
    have hxa := bstr_at hx i0
  · rw [hu]
    have b0 : ((x.toNat : Int) == 34) = false := byte_ne (n := 34) (by decide) hne
    have b1 : ((x.toNat : Int) != 34) = true := by rw [bne, b0]; rfl
    rw [← hn] at hm h1 hl0
    have z0 : ((n : Int) == 0) = false := nat_ne (b := 0) (by omega)
    clear hn hu hne hx
    go_enter Tryz.func17, Tryz.ntmps17
    go_wp2
    go_ret3
    exact ⟨[], _, _, rfl, Below.refl _ _, rfl, rfl, rfl⟩
  all_goals
    have hQ := quotedR w l (by omega)
    rw [hu]
    rw [hf] at hQ
    obtain ⟨T, hTt⟩ : ∃ T, (quotedOf l).1 = T := ⟨_, rfl⟩
    obtain ⟨P, hP⟩ : ∃ P, (quotedOf l).2.1 = P := ⟨_, rfl⟩
    rw [hTt, hP] at hQ
    have HQ := Lib.hid hQ
    clear hQ hu hx hf
  · rw [hP]
    rw [← hn] at hm h1 hl0
    have z0 : ((n : Int) == 0) = false := nat_ne (b := 0) (by omega)
    clear hn hTt hP
    go_enter Tryz.func17, Tryz.ntmps17
    go_wp2_with (go_at_call 32; refine (HQ.out).mono ?_; rintro e w2 ⟨rfl, hb2⟩)
    go_ret3
    exact ⟨[], _, _, rfl, hb2, rfl, rfl, rfl⟩
  · rw [hP]
    rw [hP] at hlt
    rw [← hn] at hm h1 hl0 hlt
    have z0 : ((n : Int) == 0) = false := nat_ne (b := 0) (by omega)
    clear hn hTt hP
    go_enter Tryz.func17, Tryz.ntmps17
    go_wp2_with (go_at_call 32; refine (HQ.out).mono ?_; rintro e w2 ⟨rfl, hb2⟩)
    go_ret3
    exact ⟨[], _, _, rfl, hb2, rfl, rfl, rfl⟩
  · rw [hTt]
    rw [hP] at hge
    rw [← hn] at hm h1 hl0 hge
    have z0 : ((n : Int) == 0) = false := nat_ne (b := 0) (by omega)
    clear hn hTt hP
    go_enter Tryz.func17, Tryz.ntmps17
    go_wp2_with (go_at_call 32; refine (HQ.out).mono ?_; rintro e w2 ⟨rfl, hb2⟩)
    go_ret3
    exact ⟨T, _, _, rfl, hb2, rfl, rfl, rfl⟩
end Go.Proofs.YtmhemahkcbgaoaaGreatDoor
/- ScanUnquotes: of every text what it stands for, or the fault and its place. -/
namespace Go.Proofs.YtmhemahkcbgaoaaGreatDoor
set_option linter.unusedVariables false
set_option linter.unusedSimpArgs false
open Go.RowKit
open Go.Lib hiding intOf
theorem unquote_code {l : List UInt8} {c p : Nat} (h : unquoteOf l = .error (c, p)) : c ≠ 0 := by
  rcases unquote_cases l with ⟨_, hu⟩ | ⟨_, _, hu⟩ | ⟨_, _, _, _, hu⟩ | ⟨_, _, _, hu⟩ | ⟨_, _, _, _, hu⟩ | ⟨_, _, _, _, hu⟩ <;> (rw [hu] at h; cases h) <;> omega
theorem int_ne0 {c : Nat} (h : c ≠ 0) : ((c : Int) != 0) = true := by rw [bne_iff_ne]; omega
set_option maxHeartbeats 4000000 in
theorem scanUnquotes_walk (w : World) (l : List UInt8) (hm : l.length ≤ 140737488351232) (hT : Tabs w) (hE : ErrT w) :
    Calls Tryz.prog 5 #[.string (bstr l)] w fun e w' => e = .returned (.bool true) ∧ Below w.heap.size w w' := by
  have HR := Lib.hid (fun w1 => unquoteR w1 l (by omega))
  have HC := Lib.hid (unquoteC w l (by omega) hT)
  have HT := Lib.hid hT
  have HE := Lib.hid hE
  obtain ⟨r, hr⟩ : ∃ r, unquoteOf l = r := ⟨_, rfl⟩
  rw [hr] at HR HC
  have HRR := Lib.hid hr
  clear hT hE hm hr
  rcases r with ⟨c, p⟩ | s
  · have hc := unquote_code HRR.out
    have HC0 := Lib.hid (int_ne0 hc)
    clear hc
    go_enter Tryz.func5, Tryz.ntmps5
    go_wp2_with (first
      | (go_at_call 16; refine (HC.out).mono ?_; rintro e w1 ⟨t1, err1, rfl, hb1, rfl, g1, rfl, hg1, hR1⟩)
      | (go_at_call 17; refine (HR.out _).mono ?_; rintro e w2 ⟨t2, c2, p2, rfl, hb2, rfl, rfl, rfl⟩; have hb3 := hb1.trans (hb2.mono hb1.size); have HF := Lib.hid (isFault_hit w2 g1 (c : Int) (p : Int) (c : Int) (p : Int) true true true (by simp) (by simp) HC0.out (hR1.keep hb2 hR1.lt) (HE.out.next hb3)))
      | (go_at_call 14; refine (HF.out).mono ?_; rintro e w3 ⟨rfl, hb4⟩; have hb5 := hb3.trans (hb4.mono hb3.size); have H3 := Lib.hid (worksC w3 (HT.out.next hb5)))
      | (go_at_call 11; refine (H3.out).mono ?_; rintro e w4 ⟨rfl, hb6⟩))
    go_ret
    exact ⟨rfl, hb5.trans (hb6.mono hb5.size)⟩
  · go_enter Tryz.func5, Tryz.ntmps5
    go_wp2_with (first
      | (go_at_call 16; refine (HC.out).mono ?_; rintro e w1 ⟨t1, err1, rfl, hb1, rfl, rfl⟩)
      | (go_at_call 17; refine (HR.out _).mono ?_; rintro e w2 ⟨t2, c2, p2, rfl, hb2, rfl, rfl, rfl⟩; have hb3 := hb1.trans (hb2.mono hb1.size); have HF := Lib.hid (isFault_nil w2 0 0))
      | (go_at_call 14; refine (HF.out).mono ?_; rintro e w3 ⟨rfl, hww⟩; obtain rfl := hww.symm; have H3 := Lib.hid (worksC w2 (HT.out.next hb3)))
      | (go_at_call 11; refine (H3.out).mono ?_; rintro e w4 ⟨rfl, hb6⟩))
    go_ret
    exact ⟨rfl, hb3.trans (hb6.mono hb3.size)⟩
end Go.Proofs.YtmhemahkcbgaoaaGreatDoor
/- ScanQuotes: of all bytes the one form. -/
namespace Go.Proofs.YtmhemahkcbgaoaaGreatDoor
set_option linter.unusedVariables false
set_option linter.unusedSimpArgs false
open Go.RowKit
open Go.Lib hiding intOf
set_option maxHeartbeats 4000000 in
theorem scanQuotes_walk (w : World) (l : List UInt8) (hm : l.length ≤ 1048576) (hT : Tabs w) :
    Calls Tryz.prog 6 #[.string (bstr l)] w fun e w' => e = .returned (.bool true) ∧ Below w.heap.size w w' := by
  have H1 := Lib.hid (quoteC w l hm hT)
  have HT := Lib.hid hT
  have HM := Lib.hid hm
  clear hT hm
  go_enter Tryz.func6, Tryz.ntmps6
  go_wp2_with (first
    | (go_at_call 18; refine (H1.out).mono ?_; rintro e w1 ⟨rfl, hb1⟩; have H2 := Lib.hid (quoteR w1 l HM.out (HT.out.next hb1)))
    | (go_at_call 19; refine (H2.out).mono ?_; rintro e w2 ⟨rfl, hb2⟩; have hb3 := hb1.trans (hb2.mono hb1.size); have H3 := Lib.hid (worksC w2 (HT.out.next hb3)))
    | (go_at_call 11; refine (H3.out).mono ?_; rintro e w3 ⟨rfl, hb4⟩))
  go_ret
  exact ⟨rfl, hb3.trans (hb4.mono hb3.size)⟩
end Go.Proofs.YtmhemahkcbgaoaaGreatDoor
/- ScanBack: all bytes come back out of their quoted text, which is a token of its own. -/
namespace Go.Proofs.YtmhemahkcbgaoaaGreatDoor
set_option linter.unusedVariables false
set_option linter.unusedSimpArgs false
open Go.RowKit
open Go.Lib hiding intOf
set_option maxHeartbeats 4000000 in
theorem scanBack_walk (w : World) (s : List UInt8) (hm : s.length ≤ 1048576) (hT : Tabs w) :
    Calls Tryz.prog 7 #[.string (bstr s)] w fun e w' => e = .returned (.bool true) ∧ Below w.heap.size w w' := by
  have HQ := Lib.hid (quoteC w s hm hT)
  have HT := Lib.hid hT
  obtain ⟨q, hq⟩ : ∃ q, quoteOf s = q := ⟨_, rfl⟩
  have hends := quote_ends s
  have hsafe := quote_safe s
  have hback := fun h => quote_back (s := s) h
  have hscan := fun h => quote_scan (s := s) h
  have hlen : q.length ≤ 8388620 := by
    rw [← hq]
    have := quo_len s (s.length + 1) 0
    unfold quoteOf
    simp only [List.length_cons, List.length_append, List.length_nil]
    omega
  rw [hq] at HQ hends hsafe hback hscan
  obtain ⟨h2, hx0, hx1⟩ := hends
  obtain ⟨n, hn⟩ : ∃ n, n = q.length := ⟨_, rfl⟩
  have hsz : (bstr q).size = n := by rw [bstr_size, hn]
  rw [← hn] at h2 hx1 hlen
  have i0 : 0 < (bstr q).size := by rw [hsz]; omega
  have i1 : n - 1 < (bstr q).size := by rw [hsz]; omega
  have ha0 : (bstr q)[0]'i0 = 34 := bstr_at hx0 i0
  have ha1 : (bstr q)[n - 1]'i1 = 34 := bstr_at hx1 i1
  have HN := Lib.hid hn
  have HSF := Lib.hid hsafe
  have HBK := Lib.hid hback
  have HSC := Lib.hid hscan
  clear hT hm hq hsafe hback hscan hx0 hx1 hn
  go_enter Tryz.func7, Tryz.ntmps7
  go_wp2_with (go_at_call 18; refine (HQ.out).mono ?_; rintro e w1 ⟨rfl, hb1⟩)
  go_loopw [4] (fun kv wr => ∃ k : Nat, k ≤ n ∧ kv = .int .i64 (k : Int) ∧ wr = w1) (fun kv _ => n - (RowKit.intOf kv).toNat)
  case atStart => exact ⟨0, Nat.zero_le _, rfl, rfl⟩
  case round =>
    obtain ⟨k, hkn, rfl, hww⟩ := hrel
    obtain rfl := hww.symm
    by_cases hlt : k < n
    · obtain ⟨x, hx⟩ := some_at (l := q) (k := k) (by rw [← HN.out]; exact hlt)
      have ik : k < (bstr q).size := by rw [hsz]; exact hlt
      have hxa : (bstr q)[k]'ik = x := bstr_at hx ik
      have hs := HSF.out x (List.mem_of_getElem? hx)
      have h32 : (32 : Int) ≤ (x.toNat : Int) := by have := hs.1; omega
      have h127 : ((x.toNat : Int) == 127) = false := nat_ne (b := 127) hs.2
      clear hx hs
      go_wp2
      go_roundw
      case rel => exact ⟨k + 1, by omega, by go_num, trivial⟩
      case measure => simp [RowKit.intOf]; omega
    · obtain rfl : k = n := by omega
      by_cases hl : 16384 < k
      · have HW := Lib.hid (worksC w1 (HT.out.next hb1))
        go_wp2_with (go_at_call 11; refine (HW.out).mono ?_; rintro e w3 ⟨rfl, hb3⟩)
        go_ret
        exact ⟨rfl, hb1.trans (hb3.mono hb1.size)⟩
      · have hU := unquoteC w1 q (by rw [← HN.out]; omega) (HT.out.next hb1)
        rw [HBK.out (by rw [← HN.out]; omega)] at hU
        have HU := Lib.hid hU
        have hSa := HSC.out (by rw [← HN.out]; omega)
        have HSA := Lib.hid hSa
        clear hU hSa
        go_upto_region 12 with (go_at_call 16; refine (HU.out).mono ?_; rintro e w2 ⟨t2, err2, rfl, hb2, rfl, rfl⟩)
        have hb3 := hb1.trans (hb2.mono hb1.size)
        have hS := scanC w2 q (by rw [← HN.out]; omega) (HT.out.next hb3)
        rw [HSA.out] at hS
        have HS := Lib.hid hS
        clear hS
        go_upto_region 13 with (go_at_call 12; refine (HS.out).mono ?_; rintro e w3 ⟨v, err, rfl, hb4, rfl, hO⟩; obtain ⟨a, c, hv, hR, _, _⟩ := readsT_own hO; change v = .slice a 1 c at hv; change ReadsT w3 a 1 [⟨3, 0, t2, 0⟩] at hR; subst hv)
        have hb5 := hb3.trans (hb4.mono hb3.size)
        obtain ⟨b, off, x0, rfl, hbl, hx0, p0, p1, p2, p3⟩ := hR.at (i := 0) (by decide)
        cases hx0
        simp only [Nat.zero_mul, Nat.add_zero] at p0 p1 p2 p3
        have HW := Lib.hid (worksC w3 (HT.out.next hb5))
        clear hR hO
        go_wp2_with (go_at_call 11; refine (HW.out).mono ?_; rintro e w4 ⟨rfl, hb6⟩)
        go_ret
        exact ⟨rfl, hb5.trans (hb6.mono hb5.size)⟩
end Go.Proofs.YtmhemahkcbgaoaaGreatDoor
