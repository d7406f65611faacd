/- BitsPieces: however bytes are cut into parts, their sum is the same. -/
import Derived.Test.YtgcgbpehedkckaaWorks
import Derived.Test.YtgcgbpehedkckaaOpen
import Derived.Test.YtgcgbpehedkckaaCopyr
import Derived.Test.YtgcgbpehedkckaaSum
namespace Go.Proofs.Ytgcgbpehedkckaa
open Go.RowKit
/-- a list of slices that lead into what came in -/
structure PW (w W : World) (vg : Value) (vals : List Value) (pl : List (List UInt8)) : Prop where
  own : W.ownsRow w.heap.size 22 1 vg vals.length vals
  len : vals.length = pl.length
  each : ∀ (j : Nat) (v : Value) (l : List UInt8), vals[j]? = some v → pl[j]? = some l → SliceOf w v l
theorem PW.nil (w W : World) : PW w W (.slice none 0 0) [] [] := ⟨World.ownsRow_nil _ _ _ _, rfl, fun j v l h => by cases h⟩
theorem PW.keepNone {w W W' : World} {vg : Value} {vals : List Value} {pl : List (List UInt8)} (h : PW w W vg vals pl) (hg : W.grownBy W' none) : PW w W' vg vals pl := by
  refine ⟨h.own.kept hg ?_, h.len, h.each⟩
  cases hv : vg.ownBlock with
  | none => exact .inl rfl
  | some b => exact .inr fun e => by cases e
theorem PW.push {w W W' : World} {vg vg' x : Value} {vals : List Value} {pl : List (List UInt8)} {l : List UInt8} (h : PW w W vg vals pl) (ho : W'.ownsRow w.heap.size 22 1 vg' (vals.length + 1) (vals ++ [x])) (hx : SliceOf w x l) : PW w W' vg' (vals ++ [x]) (pl ++ [l]) := by
  refine ⟨by rw [List.length_append]; exact ho, by simp [h.len], fun j v l' h1 h2 => ?_⟩
  by_cases hj : j < vals.length
  · rw [List.getElem?_append_left hj] at h1
    rw [List.getElem?_append_left (by rw [← h.len]; exact hj)] at h2
    exact h.each j v l' h1 h2
  · rw [List.getElem?_append_right (by omega)] at h1
    rw [List.getElem?_append_right (by rw [← h.len]; omega), ← h.len] at h2
    match hd : j - vals.length, h1, h2 with
    | 0, h1, h2 => simp at h1 h2; subst h1; subst h2; exact hx
    | k + 1, h1, h2 => simp at h1
theorem PW.reads {w W : World} {vg : Value} {vals : List Value} {pl : List (List UInt8)} (h : PW w W vg vals pl) (hb : Below w.heap.size w W) : ∃ a c, vg = .slice a pl.length c ∧ ReadsRows W a pl.length pl := by
  obtain ⟨a, c, hv, hr, _, _⟩ := reads_of_own h.own
  rw [h.len] at hv hr
  exact ⟨a, c, hv, vals, hr, rfl, fun i v l h1 h2 => (h.each i v l h1 h2).keep hb (Nat.le_refl _)⟩
theorem Reads.sub {w : World} {b o n : Nat} {xs : List Value} (h : Reads w (some ⟨b, o, none⟩) n xs) (f k : Nat) (hk : f + k ≤ n) : Reads w (some ⟨b, o + f, none⟩) k ((xs.drop f).take k) := by
  obtain ⟨hl, h⟩ := h
  refine ⟨by rw [List.length_take, List.length_drop]; omega, fun hk0 => ?_⟩
  obtain ⟨b', o', e, hb, hc⟩ := h (by omega)
  cases e
  refine ⟨b, o + f, rfl, hb, fun j hj => ?_⟩
  rw [Nat.add_assoc, hc (f + j) (by omega), List.getElem?_take, if_pos hj, List.getElem?_drop]
theorem sub_bytes {w : World} {b o n : Nat} {l : List UInt8} (h : Reads w (some ⟨b, o, none⟩) n (l.map B8)) (f k : Nat) (hk : f + k ≤ n) : Reads w (some ⟨b, o + f, none⟩) k (((l.drop f).take k).map B8) := by
  have := h.sub f k hk
  rwa [← List.map_drop, ← List.map_take] at this
theorem crcMore_ltP (s : Nat) (l : List UInt8) : crcMore s l < 4294967296 := by unfold crcMore; omega
theorem len_le_flattenP {ll : List (List UInt8)} {l : List UInt8} (h : l ∈ ll) : l.length ≤ ll.flatten.length := by
  induction ll with
  | nil => cases h
  | cons x r ih =>
    rw [List.flatten_cons, List.length_append]
    rcases List.mem_cons.1 h with rfl | h
    · omega
    · have := ih h; omega
theorem take_more (l : List UInt8) (f k : Nat) : l.take f ++ (l.drop f).take k = l.take (f + k) := by rw [List.take_add]
theorem rows_oneP {W : World} {v : Value} {l : List UInt8} (h : SliceOf W v l) : ReadsRows (W.alloc (.cells #[v] 22)) (some ⟨W.heap.size, 0, none⟩) 1 [l] := by
  refine ⟨[v], reads_new W [v] _, rfl, fun i v' l' h1 h2 => ?_⟩
  match i, h1, h2 with
  | 0, h1, h2 =>
    simp at h1 h2
    subst h1; subst h2
    exact h.keep ((Below.refl _ W).alloc (Nat.le_refl _) _) (Nat.le_refl _)
theorem sliceOf_ownP {w : World} {B n : Nat} {v : Value} {l : List UInt8} (h : w.ownsRow B 5 1 v n (l.map B8)) (hl : l.length = n) : SliceOf w v l := by
  subst hl
  exact sliceOf_own h
set_option maxHeartbeats 20000000 in
set_option maxRecDepth 100000 in
theorem pieces_some (w : World) (b o : Nat) (n ca : Nat) (la : List UInt8) (ha : Reads w (some ⟨b, o, none⟩) n (la.map B8)) (hc : n ≤ ca) (hm : ca ≤ maxLen) (hb : n ≤ 1048576) (a2 : Option Addr) (m ca2 : Nat) (l2 : List Int) (ha2 : Reads w a2 m (l2.map (Value.int .i64))) (hb2 : m ≤ 1048576) (hwf : ∀ x, x ∈ l2 → (Lit.int .i64 x).wf = true) :
    Calls Try.prog 9 #[.slice (some ⟨b, o, none⟩) n ca, .slice a2 m ca2] w fun e w' => e = .returned (.bool true) ∧ Below w.heap.size w w' := by
  obtain ⟨i1, hi1, hy0, hy1, hy2⟩ := info_parts Try.infoSl8r
  have hla := ha.len
  rw [List.length_map] at hla
  have HL := Lib.hid hla
  have HA := Lib.hid ha
  have HA2 := Lib.hid ha2
  have HWF := Lib.hid hwf
  clear ha hla ha2 hwf
  go_enter Try.func9, Try.ntmps9
  go_wp2_with fail
  refine (sumBits w none 0 0 [] ⟨[], Reads.nil _ _, rfl, fun i v l h => by cases h⟩ (by omega) (fun l h => by cases h)).mono ?_
  rw [show crcMore 0 (([] : List (List UInt8)).flatten) = 0 from by rw [List.flatten_nil]; exact crcMore_nil (by decide)]
  rintro e w1 ⟨rfl, hq1⟩
  have B1 := Lib.hid (hq1.below w.heap.size)
  have z1 := B1.out.size
  clear hq1
  go_wp2
  go_loopw [5, 6, 7, 8] (fun vg y s x wr => ∃ (i fr S : Nat) (vals : List Value) (pl : List (List UInt8)), i ≤ m ∧ fr ≤ n ∧ x = .int .i64 i ∧ y = .int .i64 fr ∧ s = .int .u32 S ∧ S < 4294967296 ∧ Hid (S = crcMore 0 (la.take fr)) ∧ Hid (pl.flatten = la.take fr) ∧ Hid (vals.length ≤ i) ∧ Hid (PW w wr vg vals pl) ∧ Hid (Below w.heap.size w wr) ∧ w.heap.size ≤ wr.heap.size) (fun _ _ _ x _ => m - (intOf x).toNat)
  case atStart => exact ⟨0, 0, 0, [], [], Nat.zero_le _, Nat.zero_le _, rfl, rfl, rfl, by omega, by show _ = _; rw [List.take_zero]; exact (crcMore_nil (by decide)).symm, by show _ = _; rw [List.take_zero]; rfl, Nat.le_refl _, PW.nil _ _, B1, z1⟩
  case round =>
    obtain ⟨i, fr, S, vals, pl, hi, hfr, rfl, rfl, rfl, hS, HS, HFL, HVN, HP, HB, zr⟩ := hrel
    obtain ⟨vg, rfl⟩ : ∃ vg : Value, vg = u5 := ⟨_, rfl⟩
    by_cases hgo : i < m ∧ fr < n
    · obtain ⟨him, hfn⟩ := hgo
      obtain ⟨b2, o2, x, rfl, hb2', hx, hcx⟩ := (HA2.out.keep HB.out (Nat.le_refl _)).at him
      obtain ⟨y, hy, rfl⟩ : ∃ y : Int, y ∈ l2 ∧ x = .int .i64 y := by
        rw [List.getElem?_map] at hx
        cases hr : l2[i]? with
        | none => rw [hr] at hx; simp at hx
        | some y => rw [hr] at hx; simp at hx; exact ⟨y, List.mem_of_getElem? hr, hx.symm⟩
      obtain ⟨hy1', hy2'⟩ := wf_i64 (HWF.out y hy)
      have hr1 : y.tmod ((n : Int) - fr + 1) < (n : Int) - fr + 1 := Int.tmod_lt_of_pos _ (by omega)
      have hr2 : -((n : Int) - fr + 1) < y.tmod ((n : Int) - fr + 1) := Int.lt_tmod_of_pos y (by omega)
      obtain ⟨r, hr⟩ : ∃ r : Int, y.tmod ((n : Int) - fr + 1) = r := ⟨_, rfl⟩
      rw [hr] at hr1 hr2
      clear hx hy
      by_cases hneg : r < 0
      · obtain ⟨q, hq⟩ : ∃ q : Nat, -r = q := ⟨(-r).toNat, by omega⟩
        have hqn : fr + q ≤ n := by omega
        have hsub := sub_bytes HA.out fr q (by omega)
        have hpl : ((la.drop fr).take q).length = q := by rw [List.length_take, List.length_drop, HL.out]; omega
        have HSL : Hid (SliceOf w (.slice (some ⟨b, o + fr, none⟩) q (ca - fr)) ((la.drop fr).take q)) := ⟨_, _, by rw [hpl], by rw [hpl]; exact hsub, by rw [hpl]; omega, by unfold maxLen at hm ⊢; omega⟩
        have HSUB := Lib.hid hsub
        obtain ⟨lp, hlp⟩ : ∃ lp, lp = (la.drop fr).take q := ⟨_, rfl⟩
        rw [← hlp] at HSL HSUB hpl
        have HLP := Lib.hid hlp
        obtain ⟨aa, caa, hva, _⟩ := HP.out.reads HB.out
        have hvl := HP.out.len
        rw [← hvl] at hva
        subst hva
        have HVL := Lib.hid hvl
        have hvn := HVN.out
        obtain ⟨kk, hkk⟩ : ∃ kk, kk = vals.length := ⟨_, rfl⟩
        have hxo := HP.out.own
        rw [← hkk] at hxo hvn HP ⊢
        have HXO := Lib.hid hxo
        have HKK := Lib.hid hkk
        clear hsub hlp hxo hkk hvl
        go_wp2_with (at_builtin; refine wpList_append_sep rfl _ _ 25 rfl w.heap.size 22 i1 (.slice none 0 0) 1 24 Try.underlying25 hi1 hy0 hy1 hy2 rfl (by decide) aa kk caa vals rfl (HXO.out.alloc _) ⟨wr.heap.size, 0, none⟩ 1 1 [.slice (some ⟨b, o + fr, none⟩) q (ca - fr)] rfl rfl (cell_one_new _ _ _) (by simp [Value.oneCell']) (by unfold maxLen; omega) (by omega) (by simp; omega) ?_; intro v' w3 hown3 hgrow3 hsep3)
        have hpu : PW w w3 v' (vals ++ [.slice (some ⟨b, o + fr, none⟩) q (ca - fr)]) (pl ++ [lp]) := HP.out.push (by rw [← HKK.out]; exact hown3) HSL.out
        have HPU := Lib.hid hpu
        have B3 := Lib.hid ((HB.out.alloc (by omega) _).grown hgrow3 (by simp; omega) (fun b hb => (HXO.out.lt b hb).1))
        have z3 := hgrow3.size
        rw [World.size_alloc] at z3
        clear hpu hgrow3 hown3 hsep3
        go_wp2_with fail
        refine (copyBytes w3 _ q (ca - fr) lp (HSUB.out.keep B3.out (Nat.le_refl _)) (by omega)).mono ?_
        rintro e w4 ⟨v4, rfl, hown4, hb4⟩
        obtain ⟨a4, c4, rfl, hr4, _, _⟩ := reads_of_own hown4
        have HR4 := Lib.hid hr4
        have HP4 := Lib.hid (HPU.out.keepNone (grown_below hb4))
        have B4 := Lib.hid (B3.out.trans (hb4.mono (by omega)))
        have z4 := hb4.size
        clear hr4 hown4 hb4
        go_wp2_with fail
        refine (moreBits w4 S a4 q c4 lp HR4.out (by omega) hS).mono ?_
        rintro e w5 ⟨rfl, hq5⟩
        have hb5 := hq5.below w4.heap.size
        have HP5 := Lib.hid (HP4.out.keepNone (grown_below hb5))
        have B5 := Lib.hid (B4.out.trans (hb5.mono (by omega)))
        have z5 := hb5.size
        have HS5 : Hid (crcMore S lp = crcMore 0 (la.take (fr + q))) := by show _ = _; rw [HS.out, crcMore_append (by decide), HLP.out, take_more]
        have hS5 := crcMore_ltP S lp
        have HF5 : Hid ((pl ++ [lp]).flatten = la.take (fr + q)) := by show _ = _; rw [List.flatten_append, HFL.out, HLP.out, List.flatten_cons, List.flatten_nil, List.append_nil, take_more]
        have HV5 : Hid ((vals ++ [Value.slice (some ⟨b, o + fr, none⟩) q (ca - fr)]).length ≤ i + 1) := by show _ ≤ _; rw [List.length_append, ← HKK.out]; simp; omega
        clear hq5 hb5
        generalize crcMore S lp = S5 at HS5 hS5 ⊢
        go_wp2
        go_roundw
        case rel => exact ⟨i + 1, fr + q, S5, _, _, by omega, by omega, by go_num, by go_num, rfl, hS5, HS5, HF5, HV5, HP5, B5, by omega⟩
        case measure => simp [intOf]; omega
      · obtain ⟨q, rfl⟩ := Int.eq_ofNat_of_zero_le (show 0 ≤ r by omega)
        have hqn : fr + q ≤ n := by omega
        have hsub := sub_bytes HA.out fr q (by omega)
        have hpl : ((la.drop fr).take q).length = q := by rw [List.length_take, List.length_drop, HL.out]; omega
        have HSL : Hid (SliceOf w (.slice (some ⟨b, o + fr, none⟩) q (ca - fr)) ((la.drop fr).take q)) := ⟨_, _, by rw [hpl], by rw [hpl]; exact hsub, by rw [hpl]; omega, by unfold maxLen at hm ⊢; omega⟩
        have HSUB := Lib.hid hsub
        obtain ⟨lp, hlp⟩ : ∃ lp, lp = (la.drop fr).take q := ⟨_, rfl⟩
        rw [← hlp] at HSL HSUB hpl
        have HLP := Lib.hid hlp
        obtain ⟨aa, caa, hva, _⟩ := HP.out.reads HB.out
        have hvl := HP.out.len
        rw [← hvl] at hva
        subst hva
        have HVL := Lib.hid hvl
        have hvn := HVN.out
        obtain ⟨kk, hkk⟩ : ∃ kk, kk = vals.length := ⟨_, rfl⟩
        have hxo := HP.out.own
        rw [← hkk] at hxo hvn HP ⊢
        have HXO := Lib.hid hxo
        have HKK := Lib.hid hkk
        clear hsub hlp hxo hkk hvl
        go_wp2_with (at_builtin; refine wpList_append_sep rfl _ _ 25 rfl w.heap.size 22 i1 (.slice none 0 0) 1 24 Try.underlying25 hi1 hy0 hy1 hy2 rfl (by decide) aa kk caa vals rfl (HXO.out.alloc _) ⟨wr.heap.size, 0, none⟩ 1 1 [.slice (some ⟨b, o + fr, none⟩) q (ca - fr)] rfl rfl (cell_one_new _ _ _) (by simp [Value.oneCell']) (by unfold maxLen; omega) (by omega) (by simp; omega) ?_; intro v' w3 hown3 hgrow3 hsep3)
        have hpu : PW w w3 v' (vals ++ [.slice (some ⟨b, o + fr, none⟩) q (ca - fr)]) (pl ++ [lp]) := HP.out.push (by rw [← HKK.out]; exact hown3) HSL.out
        have HPU := Lib.hid hpu
        have B3 := Lib.hid ((HB.out.alloc (by omega) _).grown hgrow3 (by simp; omega) (fun b hb => (HXO.out.lt b hb).1))
        have z3 := hgrow3.size
        rw [World.size_alloc] at z3
        clear hpu hgrow3 hown3 hsep3
        go_wp2_with fail
        refine (copyBytes w3 _ q (ca - fr) lp (HSUB.out.keep B3.out (Nat.le_refl _)) (by omega)).mono ?_
        rintro e w4 ⟨v4, rfl, hown4, hb4⟩
        obtain ⟨a4, c4, rfl, hr4, _, _⟩ := reads_of_own hown4
        have HR4 := Lib.hid hr4
        have HP4 := Lib.hid (HPU.out.keepNone (grown_below hb4))
        have B4 := Lib.hid (B3.out.trans (hb4.mono (by omega)))
        have z4 := hb4.size
        clear hr4 hown4 hb4
        go_wp2_with fail
        refine (moreBits w4 S a4 q c4 lp HR4.out (by omega) hS).mono ?_
        rintro e w5 ⟨rfl, hq5⟩
        have hb5 := hq5.below w4.heap.size
        have HP5 := Lib.hid (HP4.out.keepNone (grown_below hb5))
        have B5 := Lib.hid (B4.out.trans (hb5.mono (by omega)))
        have z5 := hb5.size
        have HS5 : Hid (crcMore S lp = crcMore 0 (la.take (fr + q))) := by show _ = _; rw [HS.out, crcMore_append (by decide), HLP.out, take_more]
        have hS5 := crcMore_ltP S lp
        have HF5 : Hid ((pl ++ [lp]).flatten = la.take (fr + q)) := by show _ = _; rw [List.flatten_append, HFL.out, HLP.out, List.flatten_cons, List.flatten_nil, List.append_nil, take_more]
        have HV5 : Hid ((vals ++ [Value.slice (some ⟨b, o + fr, none⟩) q (ca - fr)]).length ≤ i + 1) := by show _ ≤ _; rw [List.length_append, ← HKK.out]; simp; omega
        clear hq5 hb5
        generalize crcMore S lp = S5 at HS5 hS5 ⊢
        go_wp2
        go_roundw
        case rel => exact ⟨i + 1, fr + q, S5, _, _, by omega, by omega, by go_num, by go_num, rfl, hS5, HS5, HF5, HV5, HP5, B5, by omega⟩
        case measure => simp [intOf]; omega
    · rcases Nat.lt_or_ge i m with him | him
      all_goals
        obtain ⟨aa, caa, hva, _⟩ := HP.out.reads HB.out
        have hvl := HP.out.len
        rw [← hvl] at hva
        subst hva
        have hvn := HVN.out
        obtain ⟨kk, hkk⟩ : ∃ kk, kk = vals.length := ⟨_, rfl⟩
        have hxo := HP.out.own
        rw [← hkk] at hxo hvn HP ⊢
        have HXO := Lib.hid hxo
        have HKK := Lib.hid hkk
        clear hxo hkk hvl
        by_cases hcf : ca = fr
        · have hfn : n = fr := by omega
          subst hfn
          have hcn : n = ca := by omega
          subst hcn
          clear hcf
          have HSL : Hid (SliceOf w (.slice (some ⟨b, o, none⟩) 0 0) ([] : List UInt8)) := ⟨_, _, rfl, Reads.nil _ _, Nat.le_refl _, Nat.zero_le _⟩
          have HLP : Hid (la.take n = la) := List.take_of_length_le (by rw [HL.out]; exact Nat.le_refl _)
          go_wp2_with (at_builtin; refine wpList_append_sep rfl _ _ 25 rfl w.heap.size 22 i1 (.slice none 0 0) 1 24 Try.underlying25 hi1 hy0 hy1 hy2 rfl (by decide) aa kk caa vals rfl (HXO.out.alloc _) ⟨wr.heap.size, 0, none⟩ 1 1 [.slice (some ⟨b, o, none⟩) 0 0] rfl rfl (cell_one_new _ _ _) (by simp [Value.oneCell']) (by unfold maxLen; omega) (by omega) (by simp; omega) ?_; intro v' w3 hown3 hgrow3 hsep3)
          have hpu : PW w w3 v' (vals ++ [.slice (some ⟨b, o, none⟩) 0 0]) (pl ++ [([] : List UInt8)]) := HP.out.push (by rw [← HKK.out]; exact hown3) HSL.out
          have HPU := Lib.hid hpu
          have B3 := Lib.hid ((HB.out.alloc (by omega) _).grown hgrow3 (by simp; omega) (fun b hb => (HXO.out.lt b hb).1))
          have z3 := hgrow3.size
          rw [World.size_alloc] at z3
          clear hpu hgrow3 hown3 hsep3
          go_wp2_with fail
          refine (copyBytes w3 (some ⟨b, o, none⟩) 0 0 [] (Reads.nil _ _) (by omega)).mono ?_
          rintro e w4 ⟨v4, rfl, hown4, hb4⟩
          obtain ⟨a4, c4, rfl, hr4, _, _⟩ := reads_of_own hown4
          have HR4 := Lib.hid hr4
          have HP4 := Lib.hid (HPU.out.keepNone (grown_below hb4))
          have B4 := Lib.hid (B3.out.trans (hb4.mono (by omega)))
          have z4 := hb4.size
          clear hr4 hown4 hb4
          go_wp2_with fail
          refine (moreBits w4 S a4 0 c4 [] HR4.out (by omega) hS).mono ?_
          rw [show crcMore S [] = crcMore 0 la from by rw [HS.out, crcMore_append (by decide), List.append_nil, HLP.out]]
          rintro e w5 ⟨rfl, hq5⟩
          have hb5 := hq5.below w4.heap.size
          have HP5 := Lib.hid (HP4.out.keepNone (grown_below hb5))
          have B5 := Lib.hid (B4.out.trans (hb5.mono (by omega)))
          have z5 := hb5.size
          have HF5 : Hid ((pl ++ [([] : List UInt8)]).flatten = la) := by show _ = _; rw [List.flatten_append, HFL.out, HLP.out]; simp
          have HN5 : Hid ((pl ++ [([] : List UInt8)]).length ≤ m + 1) := by show _ ≤ _; rw [← HP5.out.len, List.length_append, ← HKK.out]; simp; omega
          clear hq5 hb5
          go_wp2_with fail
          refine (copyBytes w5 (some ⟨b, o, none⟩) n n la (HA.out.keep B5.out (Nat.le_refl _)) (by omega)).mono ?_
          rintro e w6 ⟨v6, rfl, hown6, hb6⟩
          obtain ⟨a6, c6, rfl, _, _, _⟩ := reads_of_own hown6
          have HO6 := Lib.hid (sliceOf_ownP hown6 HL.out)
          have HP6 := Lib.hid (HP5.out.keepNone (grown_below hb6))
          have B6 := Lib.hid (B5.out.trans (hb6.mono (by omega)))
          have z6 := hb6.size
          clear hown6 hb6
          go_wp2_with fail
          refine (sumBits (w6.alloc (.cells #[.slice a6 n c6] 22)) _ 1 1 [la] (rows_oneP HO6.out) (by omega) (fun l hl => by rw [List.mem_singleton.1 hl, HL.out]; omega)).mono ?_
          rw [show [la].flatten = la from by simp]
          rintro e w7 ⟨rfl, hq7⟩
          have hb7 : Below w6.heap.size w6 w7 := below_past (hq7.below _)
          have HP7 := Lib.hid (HP6.out.keepNone (grown_below hb7))
          have B7 := Lib.hid (B6.out.trans (hb7.mono (by omega)))
          have z7 := hb7.size
          clear hq7 hb7
          obtain ⟨ap, cp, hvp, hrp⟩ := HP7.out.reads B7.out
          obtain ⟨pq, hpq⟩ : ∃ pq, pq = pl ++ [([] : List UInt8)] := ⟨_, rfl⟩
          rw [← hpq] at hvp hrp HF5 HN5
          have hmem : ∀ l, l ∈ pq → l.length ≤ n := fun l hl => by
            have h := len_le_flattenP hl
            rw [HF5.out, HL.out] at h
            exact h
          have HME := Lib.hid hmem
          have HRP := Lib.hid hrp
          obtain ⟨kp, hkp⟩ : ∃ kp, kp = pq.length := ⟨_, rfl⟩
          have hn5 := HN5.out
          rw [← hkp] at hvp HRP hn5
          subst hvp
          have HKP := Lib.hid hkp
          clear hpq hmem hrp hkp
          go_wp2_with fail
          refine (copyRows w7 ap kp cp pq HRP.out (by omega) (fun l hl => by have := HME.out l hl; omega)).mono ?_
          rintro e w8 ⟨v8, vals8, rfl, hro8, hb8⟩
          obtain ⟨a8, c8, rfl, hrd8, _, _⟩ := hro8.reads
          rw [← HKP.out] at hrd8 ⊢
          have HR8 := Lib.hid hrd8
          have B8' := Lib.hid (B7.out.trans (hb8.mono (by omega)))
          have z8 := hb8.size
          clear hro8 hrd8 hb8
          go_wp2_with fail
          refine (sumBits w8 a8 kp c8 pq HR8.out (by omega) (fun l hl => by have := HME.out l hl; omega)).mono ?_
          rw [HF5.out]
          rintro e w9 ⟨rfl, hq9⟩
          have hb9 := hq9.below w8.heap.size
          have B9 := Lib.hid (B8'.out.trans (hb9.mono (by omega)))
          have z9 := hb9.size
          have hee : (((crcMore 0 la : Nat) : Int) == ((crcMore 0 la : Nat) : Int)) = true := by simp
          clear hq9 hb9
          generalize crcMore 0 la = SS at hee ⊢
          go_wp2_with fail
          refine (worksC w9).mono ?_
          rintro e w10 ⟨rfl, hb10⟩
          have B10 := Lib.hid (B9.out.trans (hb10.mono (by omega)))
          clear hb10
          go_wp2
          go_ret
          exact ⟨rfl, B10⟩
        · skip
          have hsub := sub_bytes HA.out fr (n - fr) (by omega)
          have hdl : (la.drop fr).take (n - fr) = la.drop fr := List.take_of_length_le (by rw [List.length_drop, HL.out]; exact Nat.le_refl _)
          rw [hdl] at hsub
          have hpl : (la.drop fr).length = n - fr := by rw [List.length_drop, HL.out]
          have HSL : Hid (SliceOf w (.slice (some ⟨b, o + fr, none⟩) (n - fr) (ca - fr)) (la.drop fr)) := ⟨_, _, by rw [hpl], by rw [hpl]; exact hsub, by rw [hpl]; omega, by unfold maxLen at hm ⊢; omega⟩
          have HSUB := Lib.hid hsub
          obtain ⟨lp, hlp⟩ : ∃ lp, lp = la.drop fr := ⟨_, rfl⟩
          rw [← hlp] at HSL HSUB hpl
          have HLP := Lib.hid hlp
          have HPL := Lib.hid hpl
          clear hsub hlp hdl hpl
          go_wp2_with (at_builtin; refine wpList_append_sep rfl _ _ 25 rfl w.heap.size 22 i1 (.slice none 0 0) 1 24 Try.underlying25 hi1 hy0 hy1 hy2 rfl (by decide) aa kk caa vals rfl (HXO.out.alloc _) ⟨wr.heap.size, 0, none⟩ 1 1 [.slice (some ⟨b, o + fr, none⟩) (n - fr) (ca - fr)] rfl rfl (cell_one_new _ _ _) (by simp [Value.oneCell']) (by unfold maxLen; omega) (by omega) (by simp; omega) ?_; intro v' w3 hown3 hgrow3 hsep3)
          have hpu : PW w w3 v' (vals ++ [.slice (some ⟨b, o + fr, none⟩) (n - fr) (ca - fr)]) (pl ++ [lp]) := HP.out.push (by rw [← HKK.out]; exact hown3) HSL.out
          have HPU := Lib.hid hpu
          have B3 := Lib.hid ((HB.out.alloc (by omega) _).grown hgrow3 (by simp; omega) (fun b hb => (HXO.out.lt b hb).1))
          have z3 := hgrow3.size
          rw [World.size_alloc] at z3
          clear hpu hgrow3 hown3 hsep3
          go_wp2_with fail
          refine (copyBytes w3 _ (n - fr) (ca - fr) lp (HSUB.out.keep B3.out (Nat.le_refl _)) (by omega)).mono ?_
          rintro e w4 ⟨v4, rfl, hown4, hb4⟩
          obtain ⟨a4, c4, rfl, hr4, _, _⟩ := reads_of_own hown4
          have HR4 := Lib.hid hr4
          have HP4 := Lib.hid (HPU.out.keepNone (grown_below hb4))
          have B4 := Lib.hid (B3.out.trans (hb4.mono (by omega)))
          have z4 := hb4.size
          clear hr4 hown4 hb4
          go_wp2_with fail
          refine (moreBits w4 S a4 (n - fr) c4 lp HR4.out (by omega) hS).mono ?_
          rw [show crcMore S lp = crcMore 0 la from by rw [HS.out, crcMore_append (by decide), HLP.out, List.take_append_drop]]
          rintro e w5 ⟨rfl, hq5⟩
          have hb5 := hq5.below w4.heap.size
          have HP5 := Lib.hid (HP4.out.keepNone (grown_below hb5))
          have B5 := Lib.hid (B4.out.trans (hb5.mono (by omega)))
          have z5 := hb5.size
          have HF5 : Hid ((pl ++ [lp]).flatten = la) := by show _ = _; rw [List.flatten_append, HFL.out, HLP.out, List.flatten_cons, List.flatten_nil, List.append_nil, List.take_append_drop]
          have HN5 : Hid ((pl ++ [lp]).length ≤ m + 1) := by show _ ≤ _; rw [← HP5.out.len, List.length_append, ← HKK.out]; simp; omega
          clear hq5 hb5
          go_wp2_with fail
          refine (copyBytes w5 (some ⟨b, o, none⟩) n ca la (HA.out.keep B5.out (Nat.le_refl _)) (by omega)).mono ?_
          rintro e w6 ⟨v6, rfl, hown6, hb6⟩
          obtain ⟨a6, c6, rfl, _, _, _⟩ := reads_of_own hown6
          have HO6 := Lib.hid (sliceOf_ownP hown6 HL.out)
          have HP6 := Lib.hid (HP5.out.keepNone (grown_below hb6))
          have B6 := Lib.hid (B5.out.trans (hb6.mono (by omega)))
          have z6 := hb6.size
          clear hown6 hb6
          go_wp2_with fail
          refine (sumBits (w6.alloc (.cells #[.slice a6 n c6] 22)) _ 1 1 [la] (rows_oneP HO6.out) (by omega) (fun l hl => by rw [List.mem_singleton.1 hl, HL.out]; omega)).mono ?_
          rw [show [la].flatten = la from by simp]
          rintro e w7 ⟨rfl, hq7⟩
          have hb7 : Below w6.heap.size w6 w7 := below_past (hq7.below _)
          have HP7 := Lib.hid (HP6.out.keepNone (grown_below hb7))
          have B7 := Lib.hid (B6.out.trans (hb7.mono (by omega)))
          have z7 := hb7.size
          clear hq7 hb7
          obtain ⟨ap, cp, hvp, hrp⟩ := HP7.out.reads B7.out
          obtain ⟨pq, hpq⟩ : ∃ pq, pq = pl ++ [lp] := ⟨_, rfl⟩
          rw [← hpq] at hvp hrp HF5 HN5
          have hmem : ∀ l, l ∈ pq → l.length ≤ n := fun l hl => by
            have h := len_le_flattenP hl
            rw [HF5.out, HL.out] at h
            exact h
          have HME := Lib.hid hmem
          have HRP := Lib.hid hrp
          obtain ⟨kp, hkp⟩ : ∃ kp, kp = pq.length := ⟨_, rfl⟩
          have hn5 := HN5.out
          rw [← hkp] at hvp HRP hn5
          subst hvp
          have HKP := Lib.hid hkp
          clear hpq hmem hrp hkp
          go_wp2_with fail
          refine (copyRows w7 ap kp cp pq HRP.out (by omega) (fun l hl => by have := HME.out l hl; omega)).mono ?_
          rintro e w8 ⟨v8, vals8, rfl, hro8, hb8⟩
          obtain ⟨a8, c8, rfl, hrd8, _, _⟩ := hro8.reads
          rw [← HKP.out] at hrd8 ⊢
          have HR8 := Lib.hid hrd8
          have B8' := Lib.hid (B7.out.trans (hb8.mono (by omega)))
          have z8 := hb8.size
          clear hro8 hrd8 hb8
          go_wp2_with fail
          refine (sumBits w8 a8 kp c8 pq HR8.out (by omega) (fun l hl => by have := HME.out l hl; omega)).mono ?_
          rw [HF5.out]
          rintro e w9 ⟨rfl, hq9⟩
          have hb9 := hq9.below w8.heap.size
          have B9 := Lib.hid (B8'.out.trans (hb9.mono (by omega)))
          have z9 := hb9.size
          have hee : (((crcMore 0 la : Nat) : Int) == ((crcMore 0 la : Nat) : Int)) = true := by simp
          clear hq9 hb9
          generalize crcMore 0 la = SS at hee ⊢
          go_wp2_with fail
          refine (worksC w9).mono ?_
          rintro e w10 ⟨rfl, hb10⟩
          have B10 := Lib.hid (B9.out.trans (hb10.mono (by omega)))
          clear hb10
          go_wp2
          go_ret
          exact ⟨rfl, B10⟩
end Go.Proofs.Ytgcgbpehedkckaa
