/- Texts joined, one behind the other (LDiffChanges, DParM, DParN). -/
import Derived.Test.YtnbihjocdlpplaaGreatDoorKq24
/- DiffChanges: the walk. -/
namespace Go.Proofs.YtnbihjocdlpplaaGreatDoor
set_option linter.unusedVariables false
set_option linter.unusedSimpArgs false
open Go.RowKit
open Go.Lib hiding intOf
/-- a row of changes that may be written -/
def AC (B Bb : Nat) (a : Option Addr) (n : Nat) (w : World) : Prop := 0 < n → ∃ g, a = some ⟨g, 0, none⟩ ∧ B ≤ g ∧ g < Bb ∧ ∃ cur : Array Value, w.heap[g]? = some (.cells cur 51 (0, 0)) ∧ n * 3 ≤ cur.size
theorem AC.set {B Bb g n o : Nat} {w : World} (h : AC B Bb (some ⟨g, 0, none⟩) n w) (v : Value) : AC B Bb (some ⟨g, 0, none⟩) n (w.setCell ⟨g, o, none⟩ v) := fun h0 => by
  obtain ⟨g', e, h1, h2, cur, h3, h4⟩ := h h0
  cases e
  exact ⟨g, rfl, h1, h2, cur.setIfInBounds o v, by simp [World.setCell, Array.getElem?_modify, h3], by simpa using h4⟩
theorem AC.cells {B Bb n : Nat} {a : Option Addr} {w : World} (h : AC B Bb a n w) : ∃ xs : List Value, xs.length = n * 3 ∧ (0 < n → ∃ ad, a = some ad ∧ ∀ j u, xs[j]? = some u → w.cell? (ad.add j) = some u) := by
  rcases Nat.eq_zero_or_pos n with h0 | h0
  · subst h0
    exact ⟨[], rfl, fun h => by omega⟩
  · obtain ⟨g, rfl, h1, h2, cur, h3, h4⟩ := h h0
    refine ⟨cur.toList.take (n * 3), by simp; omega, fun _ => ⟨⟨g, 0, none⟩, rfl, fun j u hj => ?_⟩⟩
    rw [cell_add, Nat.zero_add]
    rw [List.getElem?_take] at hj
    split at hj
    · simp only [World.cell?, h3]
      simpa using hj
    · cases hj
theorem ChOwn.ac {B : Nat} {a : Option Addr} {n c : Nat} {L : List Ch} {w w' : World} (h : ChOwn B (.slice a n c) L w) (hn : n = L.length) (hb : Below w.heap.size w w') : AC B w.heap.size a n w' := fun h0 => by
  subst hn
  obtain ⟨g, rfl, hg, hc⟩ := own_cell h h0
  obtain ⟨hB, cur, hcur⟩ := own_block h (b := g) rfl
  refine ⟨g, rfl, hB, hg, cur, (hb.block g hg).trans hcur, ?_⟩
  obtain ⟨u, hu⟩ : ∃ u, (L.flatMap chCells)[L.length * 3 - 1]? = some u := ⟨_, List.getElem?_eq_getElem (by rw [chs_len]; omega)⟩
  have := cell_size hcur (hc _ _ hu)
  omega
theorem ChOwn.set {B g o : Nat} {v : Value} {L : List Ch} {w : World} (h : ChOwn B v L w) (hg : g < B) (u : Value) : ChOwn B v L (w.setCell ⟨g, o, none⟩ u) := by
  refine World.ownsRow.kept h (grownBy_setCell w g o u) ?_
  cases hb : v.ownBlock with
  | none => exact .inl rfl
  | some b => exact .inr (fun e => by cases e; have := (own_block h hb).1; omega)
theorem ChOwn.below {B : Nat} {v : Value} {L : List Ch} {w w' : World} (h : ChOwn B v L w) (hb : Below w.heap.size w w') : ChOwn B v L w' := own_below h hb
theorem ChOwn.readsA {B n c : Nat} {a : Option Addr} {L : List Ch} {w : World} (h : ChOwn B (.slice a n c) L w) (hn : n = L.length) : ReadsC w a n L := by
  obtain ⟨a', c', e, hr, _⟩ := h.reads
  cases e
  exact hr
theorem chOut_len (s : List UInt8) (X : List HkI) : (chOut s X).length ≤ X.length := by
  unfold chOut
  split
  · exact (chSt_bound X).2
  · exact Nat.zero_le _
def chCs (k : Int) : List Value := [.int .i64 k, .string ByteArray.empty, .string ByteArray.empty]
theorem chCs_one (k : Int) : ∀ u ∈ chCs k, u.oneCell' = true := by
  intro u hu
  simp only [chCs, List.mem_cons, List.not_mem_nil, or_false] at hu
  rcases hu with rfl | rfl | rfl <;> rfl
set_option maxHeartbeats 8000000 in
set_option maxRecDepth 100000 in
theorem diffChanges_walk (w : World) (s : List UInt8) (hsl : s.length ≤ 1048576) (a : Option Addr) (n c : Nat) (X : List HkI) (hX : ReadsK w a n X) (hnc : n ≤ c) (hcm : c ≤ maxLen) (hs : hunkSum X ≤ 1048576) (hT : Tabs w) :
    Calls Tryz.prog 8 #[.string (bstr s), .slice a n c] w fun e w' => e = .returned (.bool true) ∧ Below w.heap.size w w' := by
  have HF := Lib.hid (sum_fit hs)
  have HT := Lib.hid hT
  have HX := Lib.hid hX
  have hn : n ≤ 1048576 := by rw [← hX.len]; have := hunkSum_fit X; omega
  have hml : (chOut s X).length ≤ 1048576 := Nat.le_trans (chOut_len s X) (by have := hunkSum_fit X; omega)
  have HS := Lib.hid (spareC w a n c X hX HF.out)
  have HCP := Lib.hid (fun W a c (hR : ReadsK W a n X) hW => changesP W s a n c X hR HF.out hW)
  have HCQ := Lib.hid (fun W a c (hR : ReadsK W a n X) => changesQ W s a n c X hR HF.out)
  obtain ⟨L, hL⟩ : ∃ L, L = chOut s X := ⟨_, rfl⟩
  obtain ⟨cd, hcd⟩ : ∃ cd, cd = errP (fitsB s X) := ⟨_, rfl⟩
  rw [← hL, ← hcd] at HCP HCQ
  rw [← hL] at hml
  obtain ⟨m, hm⟩ : ∃ m, m = L.length := ⟨_, rfl⟩
  rw [← hm] at HCP hml
  have HM := Lib.hid hm
  have b1 : (cd != cd) = false := by simp
  clear hT hX hs hsl hcd hL hm
  go_enter Tryz.func8, Tryz.ntmps8
  go_upto_region 2 with (go_at_call 25; refine (HS.out).mono ?_; rintro e w1 ⟨a1, c1, rfl, hS1, hb1⟩; have HS1 := Lib.hid hS1; have HB1 := Lib.hid hb1; clear hS1 hb1)
  have hk : ∀ W, Below w1.heap.size w1 W → SpareK W a1 n c1 X ∧ ReadsK W a1 n X ∧ ReadsK W a n X ∧ Tabs W ∧ Below w.heap.size w W := fun W hW => by
    have h1 := HS1.out.keep hW
    have h2 : Below w.heap.size w W := HB1.out.trans (hW.mono HB1.out.size)
    exact ⟨h1, h1.reads, HX.out.keep h2 (Nat.le_refl _), HT.out.next h2, h2⟩
  have HK := Lib.hid hk
  have HZ := Lib.hid (Below.refl w1.heap.size w1)
  clear hk
  go_upto_region 3 with (go_at_call 22; refine (HCP.out w1 a1 c1 (HK.out w1 HZ.out).2.1 (HK.out w1 HZ.out).2.2.2.1).mono ?_; rintro e w2 ⟨⟨va, ca, rfl, hO⟩, hb⟩; have HO2 := Lib.hid hO; have HB2 := Lib.hid hb; clear hO hb)
  go_upto_region 4 with (go_at_call 22; refine (HCP.out w2 a1 c1 (HK.out w2 HB2.out).2.1 (HK.out w2 HB2.out).2.2.2.1).mono ?_; rintro e w3 ⟨⟨vb, cb, rfl, hO⟩, hb⟩; have HO3 := Lib.hid hO; have Hb3 := Lib.hid hb; have HB3 := Lib.hid (below_next HB2.out (Nat.le_refl _) hb); clear hO hb)
  go_upto_region 5 with (go_at_call 31; refine (HCQ.out w3 a c (HK.out w3 HB3.out).2.2.1).mono ?_; rintro e w4 ⟨⟨vw, rfl, hO⟩, hb⟩; have HO4 := Lib.hid hO; have Hb4 := Lib.hid hb; have HB4 := Lib.hid (below_next HB3.out (Nat.le_refl _) hb); clear hO hb)
  have s2 := HB2.out.size
  have s3 := Hb3.out.size
  have s4 := Hb4.out.size
  obtain ⟨aw, cw, hvw, _, _, _⟩ := HO4.out.reads
  rw [← HM.out] at hvw
  subst hvw
  -- the three rows, in every later world
  have K4 : ∀ W, Quiet w4 W → ReadsC W va m L ∧ ReadsC W vb m L ∧ ReadsC W aw m L := fun W hW => by
    have q2 : ChOwn w1.heap.size (.slice va m ca) L W := ((HO2.out.below Hb3.out).below Hb4.out).below (hW.below _)
    have q3 : ChOwn w2.heap.size (.slice vb m cb) L W := (HO3.out.below Hb4.out).below (hW.below _)
    have q4 : ChOwn w3.heap.size (.slice aw m cw) L W := HO4.out.below (hW.below _)
    exact ⟨q2.readsA HM.out, q3.readsA HM.out, q4.readsA HM.out⟩
  have HK4 := Lib.hid K4
  clear K4
  go_upto_region 7 with (first
    | (go_at_call_of 32 (Value.slice va m m); refine (eqChanges w4 va aw m m cw L (HK4.out w4 (Quiet.refl _)).1 (HK4.out w4 (Quiet.refl _)).2.2 (by omega)).mono ?_; rintro e w5 ⟨rfl, hq⟩; have HQ5 := Lib.hid hq; clear hq)
    | (go_at_call_of 32 (Value.slice vb m m); refine (eqChanges w5 vb aw m m cw L (HK4.out w5 HQ5.out).2.1 (HK4.out w5 HQ5.out).2.2 (by omega)).mono ?_; rintro e w6 ⟨rfl, hq⟩; have HQ6 := Lib.hid (HQ5.out.trans hq); have HB6 := Lib.hid (HB4.out.trans (HQ6.out.below _)); clear hq)
    | (go_at_call 30; refine (keptC _ a1 a n c1 c X (HK.out w6 HB6.out).1 (HK.out w6 HB6.out).2.2.1 HF.out).mono ?_; rintro e w7 ⟨rfl, hq⟩; have HQ7 := Lib.hid (HQ6.out.trans hq); clear hq))
  have HAC : Hid (AC w1.heap.size w2.heap.size va m w7) := Lib.hid (HO2.out.ac HM.out ((Hb3.out.trans (Hb4.out.mono s3)).trans ((HQ7.out.below w4.heap.size).mono (Nat.le_trans s3 s4))))
  have HO7 : Hid (ChOwn w2.heap.size (.slice vb m cb) L w7 ∧ ChOwn w3.heap.size (.slice aw m cw) L w7 ∧ Below w1.heap.size w1 w7) := Lib.hid ⟨(HO3.out.below Hb4.out).below (HQ7.out.below _), HO4.out.below (HQ7.out.below _), HB4.out.trans (HQ7.out.below _)⟩
  clear HO2 HO3 HO4 HK4 HQ5 HQ6 HQ7 HB2 HB3 HB4 HB6 Hb3 Hb4 HCP HCQ HS
  go_wp2
  go_loopw [12] (fun ui wr => ∃ k : Nat, ui = .int .i64 (k : Int) ∧ k ≤ m ∧ Hid (AC w1.heap.size w2.heap.size va m wr ∧ ChOwn w2.heap.size (.slice vb m cb) L wr ∧ ChOwn w3.heap.size (.slice aw m cw) L wr ∧ Below w1.heap.size w1 wr)) (fun ui _ => m - (RowKit.intOf ui).toNat)
  case atStart => exact ⟨0, rfl, Nat.zero_le _, Lib.hid ⟨HAC.out, HO7.out⟩⟩
  case round =>
    obtain ⟨k, rfl, hk, HR⟩ := hrel
    by_cases hlt3 : k < m
    · obtain ⟨g, rfl, hgB, hgBb, cur, hcur, hsz⟩ := HR.out.1 (by omega)
      obtain ⟨x0, h0⟩ : ∃ x0, cur[k * 3]? = some x0 := ⟨cur[k * 3], by simp⟩
      obtain ⟨x1, h1⟩ : ∃ x1, cur[k * 3 + 1]? = some x1 := ⟨cur[k * 3 + 1], by simp⟩
      obtain ⟨x2, h2⟩ : ∃ x2, cur[k * 3 + 2]? = some x2 := ⟨cur[k * 3 + 2], by simp⟩
      have d0 : wr.cell? ⟨g, k * 3, none⟩ = some x0 := by simp [World.cell?, hcur, h0]
      have d1 : wr.cell? ⟨g, k * 3 + 1, none⟩ = some x1 := by simp [World.cell?, hcur, h1]
      have d2 : wr.cell? ⟨g, k * 3 + 2, none⟩ = some x2 := by simp [World.cell?, hcur, h2]
      have e0 : wr.frozen? ⟨g, k * 3, none⟩ = false := by simp [World.frozen?, hcur]
      have e1 : wr.frozen? ⟨g, k * 3 + 1, none⟩ = false := by simp [World.frozen?, hcur]
      have e2 : wr.frozen? ⟨g, k * 3 + 2, none⟩ = false := by simp [World.frozen?, hcur]
      have hit : (k : Int) < (m : Int) := by omega
      have hg3 : g < w3.heap.size := by omega
      clear hcur h0 h1 h2
      go_wp2
      refine ⟨⟨k + 1, by go_num, hlt3, Lib.hid ⟨((HR.out.1.set _).set _).set _, ((HR.out.2.1.set hgBb _).set hgBb _).set hgBb _, ((HR.out.2.2.1.set hg3 _).set hg3 _).set hg3 _, ((HR.out.2.2.2.setCell hgB _).setCell hgB _).setCell hgB _⟩⟩, ?_⟩
      simp [RowKit.intOf]; omega
    · obtain rfl : k = m := by omega
      obtain ⟨w5, hw5⟩ : ∃ x : World, x = wr := ⟨_, rfl⟩
      have HR5 : Hid (AC w1.heap.size w2.heap.size va k w5 ∧ ChOwn w2.heap.size (.slice vb k cb) L w5 ∧ ChOwn w3.heap.size (.slice aw k cw) L w5 ∧ Below w1.heap.size w1 w5) := by rw [hw5]; exact HR
      rw [← hw5]
      clear HR hw5 HAC HO7
      obtain ⟨xs, hxl, hxs⟩ := HR5.out.1.cells
      have HXL := Lib.hid hxl
      have HXS := Lib.hid hxs
      clear hxl hxs
      go_wp2
      go_loopw [6, 13] (fun vg uy wr => ∃ t : Nat, t ≤ 20 ∧ uy = .int .i64 (t : Int) ∧ Hid (((t = 0 ∧ vg = .slice va k k) ∨ (0 < t ∧ ∃ ys, wr.ownsRow w5.heap.size 51 3 vg (k + t) ys)) ∧ Below w5.heap.size w5 wr)) (fun _ uy _ => 20 - (RowKit.intOf uy).toNat)
      case atStart => exact ⟨0, Nat.zero_le _, rfl, Lib.hid ⟨.inl ⟨rfl, rfl⟩, Below.refl _ _⟩⟩
      case round =>
        obtain ⟨t, ht, rfl, HQ⟩ := hrel
        obtain ⟨vq, rfl⟩ : ∃ v : Value, v = u6 := ⟨_, rfl⟩
        have hsq := HQ.out.2.size
        by_cases htl : t < 20
        · have htt : (t : Int) < 20 := by omega
          rcases HQ.out.1 with ⟨ht0, hv⟩ | ⟨ht0, ys, hO⟩
          · subst hv
            have HT0 := Lib.hid ht0
            clear ht0
            go_wp2_with (at_builtin; refine appClip2 rfl _ _ rfl Tryz.underlying46 (.agg #[.int .i64 0, .string ByteArray.empty, .string ByteArray.empty]) 3 40 infoCh rfl (by decide) (by decide) wr va k xs (chCs (-2)) HXL.out (fun h0 => by { obtain ⟨ad, e, hc⟩ := HXS.out h0; exact ⟨ad, e, fun j u hj => by { have h1 := hc j u hj; rw [HQ.out.2.cell (World.block_lt_of_cell? w5 _ h1)]; exact h1 }⟩ }) rfl (chCs_one _) rfl rfl rfl (by omega) ?_; intro v8 w8 hO8 hb8)
            have HNX : Hid ((∃ ys, w8.ownsRow w5.heap.size 51 3 v8 (k + (t + 1)) ys) ∧ Below w5.heap.size w5 w8) := Lib.hid ⟨⟨_, by have h1 := own_mono_size hO8 hsq; rw [show k + (t + 1) = k + 1 by have := HT0.out; omega]; exact h1⟩, HQ.out.2.trans (hb8.mono hsq)⟩
            clear hO8 hb8
            go_roundw
            case rel => exact ⟨t + 1, by omega, by go_num, Lib.hid ⟨.inr ⟨by omega, HNX.out.1⟩, HNX.out.2⟩⟩
            case measure => simp [RowKit.intOf]; omega
          · have HO := Lib.hid hO
            clear hO
            go_wp2_with (at_builtin; refine appNew rfl _ _ rfl Tryz.underlying46 (.agg #[.int .i64 0, .string ByteArray.empty, .string ByteArray.empty]) 3 40 infoCh rfl (by decide) (by decide) w5.heap.size w5.heap.size w5 wr vq (k + t) ys (chCs (-2)) rfl (chCs_one _) rfl HO.out rfl rfl (by omega) HQ.out.2 (Nat.le_refl _) hsq ?_; intro v8 w8 hO8 hb8 hs8)
            have HNX : Hid ((∃ ys, w8.ownsRow w5.heap.size 51 3 v8 (k + (t + 1)) ys) ∧ Below w5.heap.size w5 w8) := Lib.hid ⟨⟨_, hO8⟩, hb8⟩
            clear hO8 hb8
            go_roundw
            case rel => exact ⟨t + 1, by omega, by go_num, Lib.hid ⟨.inr ⟨by omega, HNX.out.1⟩, HNX.out.2⟩⟩
            case measure => simp [RowKit.intOf]; omega
        · obtain rfl : t = 20 := by omega
          have HB9 : Hid (Below w1.heap.size w1 wr) := Lib.hid (HR5.out.2.2.2.trans (HQ.out.2.mono HR5.out.2.2.2.size))
          have HE := Lib.hid (eqChanges wr vb aw k k cw L ((HR5.out.2.1.below HQ.out.2).readsA HM.out) ((HR5.out.2.2.1.below HQ.out.2).readsA HM.out) (by omega))
          clear HQ hsq
          go_wp2_with (first
            | (go_at_call 32; refine (HE.out).mono ?_; rintro e w9 ⟨rfl, hq⟩; have HB10 := Lib.hid (HB9.out.trans (hq.below _)); clear hq)
            | (go_at_call 10; refine (worksC w9 (HK.out w9 HB10.out).2.2.2.1).mono ?_; rintro e w16 ⟨rfl, hb⟩; have HB16 := Lib.hid (below_next HB10.out (Nat.le_refl _) hb); clear hb))
          go_ret
          exact ⟨rfl, (HK.out _ HB16.out).2.2.2.2⟩
end Go.Proofs.YtnbihjocdlpplaaGreatDoor
/- Hunks whose lines grow: what lies where. -/
namespace Go.Proofs.YtnbihjocdlpplaaGreatDoor
set_option linter.unusedVariables false
set_option linter.unusedSimpArgs false
open Go.RowKit
open Go.Lib hiding intOf
def slv (h : HCell) : Value := .slice h.2.1 h.2.2.1 h.2.2.2
structure PW (B : Nat) (w : World) (vo : Value) (hs : List HCell) (H : List Hk) : Prop where
  own : w.ownsRow B 25 2 vo hs.length (hs.flatMap hkCells)
  len : hs.length = H.length
  each : ∀ (k : Nat) (h : HCell) (x : Hk), hs[k]? = some h → H[k]? = some x → h.1 = x.1 ∧ StrOwn B (slv h) x.2 w
  dist : ∀ (i j : Nat) (p q : HCell), hs[i]? = some p → hs[j]? = some q → i ≠ j → (slv p).ownBlock = none ∨ (slv p).ownBlock ≠ (slv q).ownBlock
theorem PW.start (B : Nat) (w : World) : PW B w nilV [] [] :=
  ⟨World.ownsRow_nil _ _ _ _, rfl, fun k h x h1 => (by cases h1), fun i j p q h1 => (by cases h1)⟩
theorem PW.keep {B : Nat} {w w' : World} {vo : Value} {hs : List HCell} {H : List Hk} (h : PW B w vo hs H) (hb : Below w.heap.size w w') : PW B w' vo hs H :=
  ⟨own_below h.own hb, h.len, fun k c x h1 h2 => ⟨(h.each k c x h1 h2).1, (h.each k c x h1 h2).2.below hb⟩, h.dist⟩
theorem getElem?_snoc {α : Type} {l : List α} {x y : α} {i : Nat} (h : (l ++ [x])[i]? = some y) : (i < l.length ∧ l[i]? = some y) ∨ (i = l.length ∧ y = x) := by
  rcases Nat.lt_or_ge i l.length with h1 | h1
  · rw [List.getElem?_append_left h1] at h
    exact .inl ⟨h1, h⟩
  · have h2 := (List.getElem?_eq_some_iff.1 h).1
    rw [List.length_append, List.length_singleton] at h2
    obtain rfl : i = l.length := by omega
    rw [List.getElem?_concat_length] at h
    exact .inr ⟨rfl, (Option.some.inj h).symm⟩
/-- a hunk more, without lines -/
theorem PW.open {B : Nat} {w w' : World} {vo vo' : Value} {hs : List HCell} {H : List Hk} (h : PW B w vo hs H) (k : Nat) (hp : AppPost w B 25 2 vo hs.length (hs.flatMap hkCells) (hkCells (k, none, 0, 0)) vo' w') :
    PW B w' vo' (hs ++ [(k, none, 0, 0)]) (H ++ [(k, [])]) := by
  obtain ⟨p1, p2, p3⟩ := hp
  refine ⟨?_, by rw [List.length_append, List.length_append, h.len]; rfl, fun j c y h1 h2 => ?_, fun i j p q hi hj hij => ?_⟩
  · rw [List.length_append, List.flatMap_append]
    simpa using p1
  · rcases getElem?_snoc h1 with ⟨hj, h1⟩ | ⟨hj, rfl⟩
    · rw [List.getElem?_append_left (by rw [← h.len]; exact hj)] at h2
      obtain ⟨e1, e2⟩ := h.each j c y h1 h2
      exact ⟨e1, e2.grown p2 (own_apart_ty e2 h.own (by decide))⟩
    · rw [hj, h.len, List.getElem?_concat_length] at h2
      cases h2
      exact ⟨rfl, World.ownsRow_nil _ _ _ _⟩
  · rcases getElem?_snoc hi with ⟨_, hi⟩ | ⟨_, rfl⟩
    · rcases getElem?_snoc hj with ⟨_, hj⟩ | ⟨_, rfl⟩
      · exact h.dist i j p q hi hj hij
      · cases hb : (slv p).ownBlock with
        | none => exact .inl rfl
        | some b => exact .inr (by show some b ≠ none; simp)
    · exact .inl rfl
/-- where the hunks lie -/
theorem PW.at {B : Nat} {w : World} {vo : Value} {hs : List HCell} {H : List Hk} (h : PW B w vo hs H) {i : Nat} {c : HCell} (hi : hs[i]? = some c) :
    ∃ g cap, vo = .slice (some ⟨g, 0, none⟩) hs.length cap ∧ B ≤ g ∧ g < w.heap.size ∧ w.cell? ⟨g, i * 2, none⟩ = some (.int .i64 (c.1 : Int)) ∧ w.cell? ⟨g, i * 2 + 1, none⟩ = some (slv c) ∧ w.frozen? ⟨g, i * 2 + 1, none⟩ = false ∧ w.frozen? ⟨g, i * 2, none⟩ = false := by
  have hil := (List.getElem?_eq_some_iff.1 hi).1
  have hown := h.own
  obtain ⟨g, cap, rfl⟩ : ∃ g cap, vo = .slice (some ⟨g, 0, none⟩) hs.length cap := by
    rcases hown.2 with ⟨_, h0⟩ | ⟨g, cap, cur, hv, _⟩
    · omega
    · exact ⟨g, cap, hv⟩
  have hlt := hown.lt g rfl
  obtain ⟨_, cur, hcur⟩ := own_block hown (b := g) rfl
  have f0 := flat_at (f := hkCells) (c := 2) (fun _ => rfl) hi (j := 0) rfl
  have f1 := flat_at (f := hkCells) (c := 2) (fun _ => rfl) hi (j := 1) rfl
  have hl2 := hk_len hs
  refine ⟨g, cap, rfl, hlt.1, hlt.2, ?_, ?_, by simp [World.frozen?, hcur], by simp [World.frozen?, hcur]⟩
  · rw [World.ownsRow.cellAt hown (i * 2) (by omega)]; exact f0
  · rw [World.ownsRow.cellAt hown (i * 2 + 1) (by omega)]; exact f1
theorem hk_set (D : List HCell) (c c' : HCell) (hk : c.1 = c'.1) : ((D ++ [c]).flatMap hkCells).set (D.length * 2 + 1) (slv c') = (D ++ [c']).flatMap hkCells := by
  rw [List.flatMap_append, List.flatMap_append, List.set_append_right _ _ (by rw [hk_len]; omega), hk_len, Nat.add_sub_cancel_left]
  show _ ++ [Value.int .i64 (c.1 : Int), slv c'] = _ ++ [Value.int .i64 (c'.1 : Int), slv c']
  rw [hk]
/-- a line more in the last hunk: put into its row, the row put into the hunk -/
theorem PW.line {B : Nat} {w w1 : World} {g cap : Nat} {v' : Value} {D : List HCell} {c : HCell} {H : List Hk} {k : Nat} {L : List (List UInt8)} {x : List UInt8} (h : PW B w (.slice (some ⟨g, 0, none⟩) (D.length + 1) cap) (D ++ [c]) (H ++ [(k, L)]))
    (hp : AppPost w B 9 1 (slv c) L.length (L.map S1) [S1 x] v' w1) :
    ∃ c' : HCell, v' = slv c' ∧ c'.2.2.1 = L.length + 1 ∧ c'.1 = c.1 ∧ (∃ gl, c'.2.1 = some ⟨gl, 0, none⟩ ∧ B ≤ gl) ∧ w1.cell? ⟨g, D.length * 2 + 1, none⟩ = some (slv c) ∧ w1.frozen? ⟨g, D.length * 2 + 1, none⟩ = false ∧ B ≤ g ∧ g < w1.heap.size ∧
      PW B (w1.setCell ⟨g, D.length * 2 + 1, none⟩ v') (.slice (some ⟨g, 0, none⟩) (D.length + 1) cap) (D ++ [c']) (H ++ [(k, L ++ [x])]) ∧ w.grownBy w1 (slv c).ownBlock := by
  obtain ⟨p1, p2, p3⟩ := hp
  have hlen : D.length = H.length := by have := h.len; simpa using this
  obtain ⟨ek, hL⟩ := h.each D.length c (k, L) List.getElem?_concat_length (by rw [hlen]; exact List.getElem?_concat_length)
  dsimp only at ek hL
  have hnew : StrOwn B v' (L ++ [x]) w1 := StrOwn.push p1
  obtain ⟨gl, cl, rfl⟩ : ∃ gl cl, v' = .slice (some ⟨gl, 0, none⟩) (L.length + 1) cl := by
    rcases p1.2 with ⟨_, h0⟩ | ⟨g9, cap9, cur, hv, _⟩
    · omega
    · exact ⟨g9, cap9, hv⟩
  have hglB := (p1.lt gl rfl).1
  have hown1 : w1.ownsRow B 25 2 (.slice (some ⟨g, 0, none⟩) (D.length + 1) cap) (D.length + 1) ((D ++ [c]).flatMap hkCells) := by
    have := h.own
    rw [List.length_append, List.length_singleton] at this
    exact this.kept p2 (own_apart_ty this hL (by decide))
  have hB := hown1.lt g rfl
  have hfar : ∀ b, b < w.heap.size → (slv c).ownBlock ≠ some b → some gl ≠ some b := fun b hb hne e => by
    rcases p3 with p3 | p3
    · exact hne (p3 ▸ e)
    · have := p3 gl rfl
      cases e
      omega
  have hset := hown1.stored (D.length * 2 + 1) (slv (k, some ⟨gl, 0, none⟩, L.length + 1, cl))
  rw [hk_set D c (k, some ⟨gl, 0, none⟩, L.length + 1, cl) ek] at hset
  have hcell := hown1.cellAt (D.length * 2 + 1) (by omega)
  rw [flat_at (f := hkCells) (c := 2) (fun _ => rfl) (List.getElem?_concat_length (l := D) (a := c)) (j := 1) rfl] at hcell
  -- the other rows of lines
  have hoth : ∀ (j : Nat) (c2 : HCell) (y : Hk), j < D.length → D[j]? = some c2 → H[j]? = some y → StrOwn B (slv c2) y.2 w1 := fun j c2 y hj h1 h2 => by
    obtain ⟨_, e2⟩ := h.each j c2 y (by rw [List.getElem?_append_left hj]; exact h1) (by rw [List.getElem?_append_left (by omega)]; exact h2)
    exact e2.grown p2 (h.dist j D.length c2 c (by rw [List.getElem?_append_left hj]; exact h1) List.getElem?_concat_length (by omega))
  have hstr : ∀ (v : Value) (M : List (List UInt8)), StrOwn B v M w1 → StrOwn B v M (w1.setCell ⟨g, D.length * 2 + 1, none⟩ (slv (k, some ⟨gl, 0, none⟩, L.length + 1, cl))) := fun v M hv => hv.grown (grownBy_setCell w1 g _ _) (own_apart_ty hv hown1 (by decide))
  have hnone : ∀ (j : Nat) (c2 : HCell), j < D.length → D[j]? = some c2 → (slv c2).ownBlock = none ∨ (slv c2).ownBlock ≠ some gl := fun j c2 hj h1 => by
    obtain ⟨y, hy⟩ : ∃ y, H[j]? = some y := ⟨H[j]'(by omega), by simp⟩
    obtain ⟨_, e2⟩ := h.each j c2 y (by rw [List.getElem?_append_left hj]; exact h1) (by rw [List.getElem?_append_left (by omega)]; exact hy)
    cases hb : (slv c2).ownBlock with
    | none => exact .inl rfl
    | some b =>
      refine .inr fun e => ?_
      have hbl := (e2.lt b hb).2
      refine hfar b hbl (fun e3 => ?_) e.symm
      rcases h.dist j D.length c2 c (by rw [List.getElem?_append_left hj]; exact h1) List.getElem?_concat_length (by omega) with h9 | h9
      · rw [hb] at h9; cases h9
      · exact h9 (hb.trans e3.symm)
  refine ⟨(k, some ⟨gl, 0, none⟩, L.length + 1, cl), rfl, rfl, ek.symm, ⟨gl, rfl, hglB⟩, hcell, hown1.frozenAt _, hB.1, hB.2, ⟨?_, by simp [hlen], fun j c2 y h1 h2 => ?_, fun i j p q hi hj hij => ?_⟩, p2⟩
  · rw [List.length_append, List.length_singleton]
    exact hset.1
  · rcases getElem?_snoc h1 with ⟨hj, h1⟩ | ⟨hj, rfl⟩
    · rw [List.getElem?_append_left (by omega)] at h2
      have e1 := (h.each j c2 y (by rw [List.getElem?_append_left hj]; exact h1) (by rw [List.getElem?_append_left (by omega)]; exact h2)).1
      exact ⟨e1, hstr _ _ (hoth j c2 y hj h1 h2)⟩
    · rw [hj, hlen, List.getElem?_concat_length] at h2
      cases h2
      exact ⟨rfl, hstr _ _ hnew⟩
  · rcases getElem?_snoc hi with ⟨hil, hi⟩ | ⟨hil, rfl⟩
    · rcases getElem?_snoc hj with ⟨hjl, hj⟩ | ⟨hjl, rfl⟩
      · exact h.dist i j p q (by rw [List.getElem?_append_left hil]; exact hi) (by rw [List.getElem?_append_left hjl]; exact hj) hij
      · exact hnone i p hil hi
    · rcases getElem?_snoc hj with ⟨hjl, hj⟩ | ⟨hjl, rfl⟩
      · rcases hnone j q hjl hj with h9 | h9
        · exact .inr (by rw [h9]; show some gl ≠ none; simp)
        · exact .inr (Ne.symm h9)
      · omega
/-- the last line's text, another -/
theorem PW.cut {B : Nat} {w : World} {vo : Value} {D : List HCell} {c : HCell} {H : List Hk} {k gl : Nat} {L : List (List UInt8)} {x y : List UInt8} (h : PW B w vo (D ++ [c]) (H ++ [(k, L ++ [x])])) (hc : c.2.1 = some ⟨gl, 0, none⟩) :
    w.cell? ⟨gl, L.length, none⟩ = some (S1 x) ∧ w.frozen? ⟨gl, L.length, none⟩ = false ∧ B ≤ gl ∧ gl < w.heap.size ∧ PW B (w.setCell ⟨gl, L.length, none⟩ (S1 y)) vo (D ++ [c]) (H ++ [(k, L ++ [y])]) := by
  have hlen : D.length = H.length := by have := h.len; simpa using this
  obtain ⟨ek, hL⟩ := h.each D.length c (k, L ++ [x]) List.getElem?_concat_length (by rw [hlen]; exact List.getElem?_concat_length)
  dsimp only at ek hL
  obtain ⟨kc, ac, nc, cc⟩ := c
  dsimp only at hc
  subst hc
  have hbk : (slv (kc, some ⟨gl, 0, none⟩, nc, cc)).ownBlock = some gl := rfl
  unfold StrOwn at hL
  have hnl : nc = (L ++ [x]).length := by
    rcases hL.2 with ⟨h9, _⟩ | ⟨g9, cap9, cur, hv, _⟩
    · cases h9
    · cases hv; rfl
  subst hnl
  have hlt := hL.lt gl hbk
  have hcell := hL.cellAt L.length (by simp)
  have hget : ((L ++ [x]).map S1)[L.length]? = some (S1 x) := by rw [List.getElem?_map, List.getElem?_concat_length]; rfl
  rw [hget] at hcell
  have hs := hL.stored L.length (S1 y)
  have hmap : ((L ++ [x]).map S1).set L.length (S1 y) = (L ++ [y]).map S1 := by
    rw [List.map_append, List.map_append, List.set_append_right _ _ (by simp)]
    simp
  rw [hmap] at hs
  have hlen2 : (L ++ [x]).length = (L ++ [y]).length := by simp
  have hgr := grownBy_setCell w gl L.length (S1 y)
  refine ⟨hcell, hL.frozenAt _, hlt.1, hlt.2, ⟨h.own.kept hgr (by rw [← hbk]; exact own_apart_ty h.own hL (by decide)), by simp [hlen], fun j c2 z h1 h2 => ?_, h.dist⟩⟩
  rcases getElem?_snoc h1 with ⟨hj, h1'⟩ | ⟨hj, rfl⟩
  · rw [List.getElem?_append_left (by omega)] at h2
    obtain ⟨e1, e2⟩ := h.each j c2 z h1 (by rw [List.getElem?_append_left (by omega)]; exact h2)
    exact ⟨e1, e2.grown hgr (by rw [← hbk]; exact h.dist j D.length c2 _ h1 List.getElem?_concat_length (by omega))⟩
  · rw [hj, hlen, List.getElem?_concat_length] at h2
    cases h2
    refine ⟨ek, ?_⟩
    unfold StrOwn
    rw [← hlen2]
    exact hs.1
/-- the hunks as rows that are read -/
theorem PW.sw {B : Nat} {w : World} {vo : Value} {hs : List HCell} {H : List Hk} (h : PW B w vo hs H) : SW B w vo hs H [] := by
  refine ⟨h.own, h.len, fun j c y h1 h2 => ?_, fun p hp => (by cases hp), fun i j p q hi => (by cases hi), fun i j p q ad ad' hi hj h1 h2 e => ?_⟩
  · obtain ⟨e1, e2⟩ := h.each j c y h1 h2
    obtain ⟨kc, ac, nc, cc⟩ := c
    obtain ⟨a', c9, he, g2, g3, g4⟩ := readsS_own e2
    cases he
    refine ⟨e1, g3, g4, g2, fun ad had => ?_⟩
    have had : ac = some ad := had
    subst had
    obtain ⟨f1, cur, f2⟩ := own_block e2 (b := ad.block) rfl
    exact ⟨f1, ⟨cur, f2⟩, fun p hp => (by cases hp)⟩
  · apply Decidable.byContradiction
    intro hij
    obtain ⟨kp, ap, np, cp⟩ := p
    obtain ⟨kq, aq, nq, cq⟩ := q
    dsimp only at h1 h2
    subst h1
    subst h2
    rcases h.dist i j _ _ hi hj hij with h9 | h9
    · cases h9
    · exact h9 (congrArg some e)
/-- a hunk's row clipped -/
theorem SW.clip {B : Nat} {w : World} {g cap : Nat} {hs : List HCell} {H : List Hk} (h : SW B w (.slice (some ⟨g, 0, none⟩) hs.length cap) hs H []) {i : Nat} {c : HCell} (hi : hs[i]? = some c) :
    w.cell? ⟨g, i * 2 + 1, none⟩ = some (slv c) ∧ w.frozen? ⟨g, i * 2 + 1, none⟩ = false ∧ B ≤ g ∧ g < w.heap.size ∧
      SW B (w.setCell ⟨g, i * 2 + 1, none⟩ (.slice c.2.1 c.2.2.1 c.2.2.1)) (.slice (some ⟨g, 0, none⟩) hs.length cap) (hs.set i (c.1, c.2.1, c.2.2.1, c.2.2.1)) H [] := by
  have hil := (List.getElem?_eq_some_iff.1 hi).1
  have hl2 := hk_len hs
  have hB := h.own.lt g rfl
  have f1 := flat_at (f := hkCells) (c := 2) (fun _ => rfl) hi (j := 1) rfl
  have hcell := h.own.cellAt (i * 2 + 1) (by omega)
  rw [f1] at hcell
  have hs2 := h.own.stored (i * 2 + 1) (.slice c.2.1 c.2.2.1 c.2.2.1)
  have hset : (hs.flatMap hkCells).set (i * 2 + 1) (.slice c.2.1 c.2.2.1 c.2.2.1) = (hs.set i (c.1, c.2.1, c.2.2.1, c.2.2.1)).flatMap hkCells := by
    clear hs2 hcell f1 hB hl2 h
    induction hs generalizing i with
    | nil => simp at hil
    | cons d r ih =>
      cases i with
      | zero =>
        simp only [List.getElem?_cons_zero, Option.some.injEq] at hi
        subst hi
        rfl
      | succ i =>
        simp only [List.getElem?_cons_succ] at hi
        rw [List.set_cons_succ, List.flatMap_cons, List.flatMap_cons, ← ih hi (by simpa using hil)]
        show ([_, _] ++ r.flatMap hkCells).set ((i + 1) * 2 + 1) _ = _
        rw [show (i + 1) * 2 + 1 = (i * 2 + 1) + 2 by omega]
        rfl
  rw [hset] at hs2
  have hgr := grownBy_setCell w g (i * 2 + 1) (.slice c.2.1 c.2.2.1 c.2.2.1)
  refine ⟨hcell, h.own.frozenAt _, hB.1, hB.2, ⟨?_, by rw [List.length_set]; exact h.len, fun j d y h1 h2 => ?_, fun p hp => (by cases hp), fun i j p q hi => (by cases hi), fun i1 j1 p q ad ad' hi1 hj1 h1 h2 e => ?_⟩⟩
  · rw [List.length_set]
    exact hs2.1
  · have key : ∀ d0 : HCell, hs[j]? = some d0 → d0.1 = y.1 ∧ d0.2.2.1 ≤ d0.2.2.2 ∧ d0.2.2.2 ≤ maxLen ∧ ReadsS (w.setCell ⟨g, i * 2 + 1, none⟩ (.slice c.2.1 c.2.2.1 c.2.2.1)) d0.2.1 d0.2.2.1 y.2 ∧ ∀ ad, d0.2.1 = some ad → B ≤ ad.block ∧ (∃ cur, (w.setCell ⟨g, i * 2 + 1, none⟩ (.slice c.2.1 c.2.2.1 c.2.2.1)).heap[ad.block]? = some (.cells cur 9 (0, 0))) ∧ ∀ p ∈ ([] : List Wait), p.1.ownBlock ≠ some ad.block := fun d0 hd => by
      obtain ⟨q1, q2, q3, q4, q5⟩ := h.each j d0 y hd h2
      have hne : ∀ ad, d0.2.1 = some ad → ad.block ≠ g := fun ad had e => by
        obtain ⟨_, ⟨cur, hcur⟩, _⟩ := q5 ad had
        obtain ⟨_, c2, h3⟩ := own_block h.own (b := g) rfl
        rw [e, h3] at hcur
        cases hcur
      refine ⟨q1, q2, q3, q4.grown hgr (fun ad had e => hne ad had (by cases e; rfl)), fun ad had => ?_⟩
      obtain ⟨f1, ⟨cur, f2⟩, f3⟩ := q5 ad had
      exact ⟨f1, ⟨cur, by rw [hgr.block _ (Array.getElem?_eq_some_iff.1 f2).1 (fun e => hne ad had (by cases e; rfl))]; exact f2⟩, f3⟩
    by_cases hji : i = j
    · subst hji
      rw [List.getElem?_set_self hil] at h1
      cases h1
      obtain ⟨q1, q2, q3, q4, q5⟩ := key c hi
      exact ⟨q1, Nat.le_refl _, Nat.le_trans q2 q3, q4, q5⟩
    · rw [List.getElem?_set_ne hji] at h1
      exact key d h1
  · have key : ∀ (j : Nat) (d : HCell), (hs.set i (c.1, c.2.1, c.2.2.1, c.2.2.1))[j]? = some d → ∃ d0, hs[j]? = some d0 ∧ d0.2.1 = d.2.1 := fun j d hd => by
      by_cases hji : i = j
      · subst hji
        rw [List.getElem?_set_self hil] at hd
        cases hd
        exact ⟨c, hi, rfl⟩
      · rw [List.getElem?_set_ne hji] at hd
        exact ⟨d, hd, rfl⟩
    obtain ⟨p0, hp0, ep⟩ := key i1 p hi1
    obtain ⟨q0, hq0, eq⟩ := key j1 q hj1
    exact h.dist i1 j1 p0 q0 ad ad' hp0 hq0 (ep.trans h1) (eq.trans h2) e
end Go.Proofs.YtnbihjocdlpplaaGreatDoor
/- Parse: small contracts and what holds at the head of the loop over the rows. -/
namespace Go.Proofs.YtnbihjocdlpplaaGreatDoor
set_option linter.unusedVariables false
set_option linter.unusedSimpArgs false
open Go.RowKit
open Go.Lib hiding intOf
theorem sign_idx (w : World) (x : UInt8) (rt : List UInt8) (k : Nat) (hk : kindOf (x :: rt) = k) :
    Calls Tryz.prog 56 #[.string ⟨#[32, 45, 43]⟩, .int .u8 (x.toNat : Int)] w fun e w' => e = .returned (.int .i64 ((k : Int) - 1)) ∧ w' = w := by
  refine (Tryz.strings_IndexByte ⟨#[32, 45, 43]⟩ (x.toNat : Int) w).mono ?_
  rintro e w' ⟨rfl, rfl⟩
  refine ⟨?_, rfl⟩
  have hx : ((x.toNat : Int)).toNat.toUInt8 = x := by simp
  rw [hx]
  have hall : ∀ n : Fin 256, indexByte [32, 45, 43] (UInt8.ofNat n.val) = (kindOf [UInt8.ofNat n.val] : Int) - 1 := by decide +kernel
  have h1 := hall ⟨x.toNat, x.toNat_lt⟩
  simp only [UInt8.ofNat_toNat] at h1
  have h2 : kindOf (x :: rt) = kindOf [x] := rfl
  rw [← hk, h2]
  exact congrArg (fun z => Ending.returned (.int .i64 z)) h1
theorem kind_le (r : List UInt8) : kindOf r ≤ 3 := by
  unfold kindOf
  repeat' split
  all_goals decide
theorem suffix_ten (r : List UInt8) : hasSuffix r [10] = endsTen r := by
  unfold hasSuffix endsTen
  rw [Bool.eq_iff_iff, List.isSuffixOf_iff_suffix, decide_eq_true_iff]
  constructor
  · rintro ⟨t, rfl⟩
    exact List.getLast?_concat
  · intro h
    rcases List.eq_nil_or_concat r with rfl | ⟨t, y, rfl⟩
    · cases h
    · rw [List.concat_eq_append, List.getLast?_concat] at h
      cases h
      rw [List.concat_eq_append]
      exact List.suffix_append _ _
theorem trim_ten {x : List UInt8} (h : endsTen x = true) : trimSuffix x [10] = x.dropLast := by
  unfold trimSuffix
  rw [suffix_ten, if_pos h, List.dropLast_eq_take]
  rfl
theorem suffixC (w : World) (r : List UInt8) (b : Bool) (hb : endsTen r = b) (hl : r.length ≤ 67108864) :
    Calls Tryz.prog 58 #[.string (bstr r), .string ⟨#[10]⟩] w fun e w' => e = .returned (.bool b) ∧ w' = w := by
  refine (Tryz.strings_HasSuffix (bstr r) ⟨#[10]⟩ w (by rw [bstr_size]; omega)).mono ?_
  rintro e w' ⟨rfl, rfl⟩
  refine ⟨?_, rfl⟩
  rw [bstr_list]
  show Ending.returned (.bool (hasSuffix r [10])) = _
  rw [suffix_ten, hb]
theorem trimC (w : World) (x : List UInt8) (h : endsTen x = true) (hl : x.length ≤ 67108864) :
    Calls Tryz.prog 59 #[.string (bstr x), .string ⟨#[10]⟩] w fun e w' => e = .returned (.string (bstr x.dropLast)) ∧ w' = w := by
  refine (Tryz.strings_TrimSuffix (bstr x) ⟨#[10]⟩ w (by rw [bstr_size]; omega)).mono ?_
  rintro e w' ⟨rfl, rfl⟩
  refine ⟨?_, rfl⟩
  rw [bstr_list]
  show Ending.returned (.string (bstr (trimSuffix x [10]))) = _
  rw [trim_ten h]
/-- what the pointer to the last line is -/
def LastP (o : Bool) (vl : Value) (hs : List HCell) (H : List Hk) : Prop :=
  if o = true then ∃ (D : List HCell) (c : HCell) (H' : List Hk) (k : Nat) (L : List (List UInt8)) (x : List UInt8) (gl : Nat), hs = D ++ [c] ∧ H = H' ++ [(k, L ++ [x])] ∧ c.2.1 = some ⟨gl, 0, none⟩ ∧ vl = .pointer (some ⟨gl, L.length, none⟩) ∧ endsTen x = true
  else vl = .pointer none
structure PL (B : Nat) (w1 : World) (rows : List (List UInt8)) (i p : Nat) (o : Bool) (hs : List HCell) (H : List Hk) (vo : Value) (wr : World) : Prop where
  go : parGo (rows.drop i) ⟨H, o, p⟩ = parGo rows ⟨[], false, 0⟩
  pw : PW B wr vo hs H
  bel : Below B w1 wr
  pos : p = (rows.take i).flatten.length
  cnt : H.length ≤ i
  lns : linesK (H.map toI) ≤ i
  byt : bytesK (H.map toI) ≤ p
theorem PL.start (B : Nat) (w1 : World) (rows : List (List UInt8)) : PL B w1 rows 0 0 false [] [] nilV w1 :=
  ⟨rfl, PW.start _ _, Below.refl _ _, rfl, Nat.le_refl _, Nat.le_refl _, Nat.le_refl _⟩
theorem parR_next {rows : List (List UInt8)} {i : Nat} {r : List UInt8} (h : rows[i]? = some r) (st : PSt) : parGo (rows.drop i) st = (match stepPar st r with | none => .inl st.pos | some st' => parGo (rows.drop (i + 1)) st') := by
  obtain ⟨h1, h2⟩ := List.getElem?_eq_some_iff.1 h
  rw [List.drop_eq_getElem_cons h1, h2, parGo]
  rfl
theorem flatP_next {rows : List (List UInt8)} {i : Nat} {r : List UInt8} (h : rows[i]? = some r) : (rows.take (i + 1)).flatten.length = (rows.take i).flatten.length + r.length := by
  rw [take_next h, List.flatten_append, List.length_append]
  simp
theorem flatP_le (rows : List (List UInt8)) (i : Nat) : (rows.take i).flatten.length ≤ rows.flatten.length := by
  have : rows.flatten = (rows.take i).flatten ++ (rows.drop i).flatten := by rw [← List.flatten_append, List.take_append_drop]
  rw [this, List.length_append]
  omega
theorem rowP_le {rows : List (List UInt8)} {i : Nat} {r : List UInt8} (h : rows[i]? = some r) : r.length ≤ rows.flatten.length := by
  have h1 := flatP_next h
  have h2 := flatP_le rows (i + 1)
  omega
/-- a sign and a line -/
theorem PL.put {B : Nat} {w1 wr w2 : World} {rows : List (List UInt8)} {i p k : Nat} {o : Bool} {hs hs' : List HCell} {H : List Hk} {vo vo' : Value} {x : UInt8} {rt : List UInt8} (h : PL B w1 rows i p o hs H vo wr) (hr : rows[i]? = some (x :: rt)) (hk : kindOf (x :: rt) = k) (hk0 : k ≠ 0)
    (hp : PW B w2 vo' hs' (lastPut H k rt)) (hb : Below B w1 w2) : PL B w1 rows (i + 1) (p + (rt.length + 1)) (endsTen (x :: rt)) hs' (lastPut H k rt) vo' w2 := by
  have hgo := h.go
  rw [parR_next hr] at hgo
  unfold stepPar at hgo
  rw [hk, if_pos hk0] at hgo
  have hsum := lastPut_sums H k rt
  have h1 := h.cnt
  have h2 := h.lns
  have h3 := h.byt
  refine ⟨hgo, hp, hb, by rw [flatP_next hr, ← h.pos]; rfl, by omega, by omega, by omega⟩
/-- an end taken off -/
theorem PL.off {B : Nat} {w1 wr w2 : World} {rows : List (List UInt8)} {i p : Nat} {hs : List HCell} {H : List Hk} {vo : Value} (h : PL B w1 rows i p true hs H vo wr) (hr : rows[i]? = some [92, 10]) (hne : ∀ x, H.getLast? = some x → x.2 ≠ [])
    (hp : PW B w2 vo hs (lastCut H)) (hb : Below B w1 w2) : PL B w1 rows (i + 1) (p + 2) false hs (lastCut H) vo w2 := by
  have hgo := h.go
  rw [parR_next hr] at hgo
  unfold stepPar at hgo
  rw [if_neg (by decide), if_pos ⟨rfl, rfl⟩] at hgo
  have hsum := lastCut_sums H hne
  have h1 := h.cnt
  have h2 := h.lns
  have h3 := h.byt
  refine ⟨hgo, hp, hb, by rw [flatP_next hr, ← h.pos]; rfl, by omega, by omega, by omega⟩
/-- neither -/
theorem PL.bad {B : Nat} {w1 wr : World} {rows : List (List UInt8)} {i p : Nat} {o : Bool} {hs : List HCell} {H : List Hk} {vo : Value} {r : List UInt8} (h : PL B w1 rows i p o hs H vo wr) (hr : rows[i]? = some r) (hk : kindOf r = 0) (hn : ¬ (r = [92, 10] ∧ o = true)) : parGo rows ⟨[], false, 0⟩ = .inl p := by
  have hgo := h.go
  rw [parR_next hr] at hgo
  unfold stepPar at hgo
  rw [if_neg (by omega), if_neg hn] at hgo
  exact hgo.symm
theorem PL.fit {B : Nat} {w1 wr : World} {rows : List (List UInt8)} {i p : Nat} {o : Bool} {hs : List HCell} {H : List Hk} {vo : Value} (h : PL B w1 rows i p o hs H vo wr) (hi : i ≤ 16777216) (hf : rows.flatten.length ≤ 67108864) : Fit (H.map toI) := by
  have h1 := h.cnt
  have h2 := h.lns
  have h3 := h.byt
  have h4 := h.pos
  have h5 := flatP_le rows i
  exact ⟨by rw [List.length_map]; omega, by omega, by omega⟩
theorem PL.done {B : Nat} {w1 wr : World} {rows : List (List UInt8)} {i p : Nat} {o : Bool} {hs : List HCell} {H : List Hk} {vo : Value} (h : PL B w1 rows i p o hs H vo wr) (hi : rows.length ≤ i) : parGo rows ⟨[], false, 0⟩ = .inr H := by
  have hgo := h.go
  rw [List.drop_of_length_le hi, parGo] at hgo
  exact hgo.symm
/-- the rows of a text: none is empty -/
theorem rowP_ne {s : List UInt8} {i : Nat} {r : List UInt8} (h : (splitD s)[i]? = some r) : ∃ x rt, r = x :: rt := by
  have := (line_splitD (List.mem_of_getElem? h)).1
  cases r with
  | nil => exact absurd rfl this
  | cons x rt => exact ⟨x, rt, rfl⟩
end Go.Proofs.YtnbihjocdlpplaaGreatDoor
