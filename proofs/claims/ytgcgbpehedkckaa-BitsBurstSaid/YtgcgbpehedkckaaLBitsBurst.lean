/- BitsBurst. -/
import Derived.Test.YtgcgbpehedkckaaWorks
import Derived.Test.YtgcgbpehedkckaaOpen
import Derived.Test.YtgcgbpehedkckaaBurst
import Derived.Test.YtgcgbpehedkckaaSum
import Derived.Test.YtgcgbpehedkckaaCopyb
import Derived.Test.YtgcgbpehedkckaaEqb
import Derived.BigRegion
namespace Go.Proofs.Ytgcgbpehedkckaa
open Go.RowKit
theorem own_pos1 {w : World} {B : Nat} {e : TypeId} {size : Nat} {v : Value} {n : Nat} {xs : List Value} (h : w.ownsRow B e size v n xs) (hn : 0 < n) : ∃ g c, v = .slice (some ⟨g, 0, none⟩) n c := by
  rcases h.2 with ⟨_, h0⟩ | ⟨g, c, cur, hv, _⟩
  · omega
  · exact ⟨g, c, hv⟩
theorem row_of_own {w : World} {B : Nat} {e : TypeId} {g n c : Nat} {xs : List Value} (h : w.ownsRow B e 1 (.slice (some ⟨g, 0, none⟩) n c) n xs) : ∃ pad, Row w g e (xs ++ pad) ∧ B ≤ g := by
  rcases h.2 with ⟨hv, _⟩ | ⟨g', c', cur, hv, hB, hg, hn, hc, hs, ht⟩
  · cases hv
  · cases hv
    refine ⟨cur.toList.drop n, ?_, hB⟩
    rw [Nat.mul_one] at ht
    show w.heap[g]? = _
    rw [hg, ← ht, List.take_append_drop, Array.toArray_toList]
theorem row_front1 {w : World} {g : Nat} {l : List UInt8} {pad : List Value} (h : Row w g 5 (l.map B8 ++ pad)) {n : Nat} (hl : l.length = n) : Reads w (some ⟨g, 0, none⟩) n (l.map B8) := by
  have h := h.reads 0 n (by rw [List.length_append, List.length_map, hl]; omega)
  rw [List.drop_zero, List.take_append_of_le_length (by rw [List.length_map, hl]; exact Nat.le_refl _), List.take_of_length_le (by rw [List.length_map, hl]; exact Nat.le_refl _)] at h
  exact h
theorem sliceOf_own' {w : World} {B n : Nat} {v : Value} {l : List UInt8} (h : w.ownsRow B 5 1 v n (l.map B8)) (hl : l.length = n) : SliceOf w v l := by
  subst hl
  exact sliceOf_own h
theorem rows_one {W : World} {v : Value} {l : List UInt8} (h : SliceOf W v l) : ReadsRows (W.alloc (.cells #[v] 22)) (some ⟨W.heap.size, 0, none⟩) 1 [l] := by
  refine ⟨[v], reads_new W [v] _, rfl, fun i v' l' h1 h2 => ?_⟩
  match i, h1, h2 with
  | 0, h1, h2 =>
    simp at h1 h2
    subst h1; subst h2
    exact h.keep ((Below.refl _ W).alloc (Nat.le_refl _) _) (Nat.le_refl _)
theorem xor_bit (x : UInt8) (t : Nat) (ht : t < 8) : bits .xor .u8 (x.toNat : Int) ((2 : Int) ^ t % 256) = ((flipB x t).toNat : Int) := by
  have hx := x.toNat_lt
  have e : (2 : Int) ^ t % 256 = ((2 ^ t : Nat) : Int) ∧ 2 ^ t % 2 ^ 8 = 2 ^ t ∧ 2 ^ t < 256 := by
    rcases (show t = 0 ∨ t = 1 ∨ t = 2 ∨ t = 3 ∨ t = 4 ∨ t = 5 ∨ t = 6 ∨ t = 7 by omega) with rfl | rfl | rfl | rfl | rfl | rfl | rfl | rfl <;> decide
  rw [e.1, u8_xor_nat x.toNat (2 ^ t) (by omega) e.2.2, flipB, UInt8.toNat_xor, UInt8.toNat_ofNat', e.2.1]
theorem row_over1 {w : World} {g : Nat} {l : List UInt8} {pad : List Value} (h : Row w g 5 (l.map B8 ++ pad)) {i : Nat} (hi : i < l.length) (x : UInt8) : Row (w.setCell ⟨g, i, none⟩ (B8 x)) g 5 ((l.set i x).map B8 ++ pad) := by
  have e : (l.map B8 ++ pad).set i (B8 x) = (l.set i x).map B8 ++ pad := by
    rw [List.set_append_left _ _ (by rw [List.length_map]; exact hi), List.map_set]
  rw [← e]
  exact h.set i _
theorem bit_test (u k : Nat) : (((u : Int) / 2 ^ k).tmod 2 == 1) = decide (u / 2 ^ k % 2 = 1) := by
  have e : ((u : Int) / 2 ^ k) = ((u / 2 ^ k : Nat) : Int) := by simp
  rw [e]
  generalize u / 2 ^ k = x
  have e2 : ((x : Int)).tmod 2 = ((x % 2 : Nat) : Int) := rfl
  rw [e2, Bool.eq_iff_iff]
  simp
  omega
set_option maxHeartbeats 2000000 in
set_option maxRecDepth 100000 in
theorem bitsBurst_walk (w : World) (a : Option Addr) (n ca : Nat) (la : List UInt8) (ha : Reads w a n (la.map B8)) (hc : n ≤ ca) (hm : ca ≤ maxLen) (hb : n * 1 ≤ 140737488351232) (p : Int) (hp : (Lit.int .i64 p).wf = true) (x : Int) (hx : (Lit.int .u32 x).wf = true) :
    Calls Try.prog 10 #[.slice a n ca, .int .i64 p, .int .u32 x] w fun e w' => e = .returned (.bool true) ∧ Below w.heap.size w w' := by
  obtain ⟨hp1, hp2⟩ := wf_i64 hp
  obtain ⟨hx0, hx1⟩ := wf_u32 hx
  obtain ⟨u, rfl⟩ := Int.eq_ofNat_of_zero_le hx0
  have hu : u < 4294967296 := by omega
  have HU := Lib.hid hu
  have hla := ha.len
  rw [List.length_map] at hla
  have HL := Lib.hid hla
  have HA := Lib.hid ha
  have HW := Lib.hid (worksC w)
  have hn : n ≤ 140737488351232 := by omega
  clear hp hx hx0 hx1 hu hla ha hb
  by_cases hn0 : n = 0
  · subst hn0
    go_enter Try.func10, Try.ntmps10
    go_wp2_with fail
    refine HW.out.mono ?_
    rintro e w9 ⟨rfl, hb9⟩
    go_wp2
    go_ret
    exact ⟨rfl, hb9⟩
  by_cases hu0 : u = 0
  · subst hu0
    go_enter Try.func10, Try.ntmps10
    go_wp2_with fail
    refine HW.out.mono ?_
    rintro e w9 ⟨rfl, hb9⟩
    go_wp2
    go_ret
    exact ⟨rfl, hb9⟩
  have hr1 : p.tmod (8 * (n : Int)) < 8 * (n : Int) := Int.tmod_lt_of_pos _ (by omega)
  have hr2 : -(8 * (n : Int)) < p.tmod (8 * (n : Int)) := Int.lt_tmod_of_pos p (by omega)
  have hnb : ((n : Int) == 0) = false := by simp; omega
  have hub : ((u : Int) == 0) = false := by simp; omega
  obtain ⟨r, hr⟩ : ∃ r : Int, p.tmod (8 * (n : Int)) = r := ⟨_, rfl⟩
  rw [hr] at hr1 hr2
  go_enter Try.func10, Try.ntmps10
  by_cases hneg : r < 0
  · obtain ⟨q, hq⟩ : ∃ q : Nat, r + 8 * (n : Int) = q := ⟨(r + 8 * (n : Int)).toNat, by omega⟩
    have hq8 : q < 8 * n := by omega
    go_wp2_with fail
    refine (copyBytes w a n ca la HA.out (by omega)).mono ?_
    rintro e w1 ⟨v1, rfl, hown1, hb1⟩
    obtain ⟨g, cc, rfl⟩ := own_pos1 hown1 (by omega)
    obtain ⟨pad, hrow, hg0⟩ := row_of_own hown1
    have hshape := reads_of_own hown1
    obtain ⟨a_, c_, hv_, _, hcc, hcm⟩ := hshape
    cases hv_
    have HROW := Lib.hid hrow
    have B1 := Lib.hid hb1
    have z1 := hb1.size
    have HC := Lib.hid (And.intro hcc hcm)
    clear hown1 hrow hb1 hcc hcm
    go_wp2
    go_loopw [8] (fun x wr => ∃ (k : Nat) (c : List UInt8), k ≤ 32 ∧ q + k ≤ 8 * n ∧ x = .int .i64 k ∧ Hid (Burst la c q u k) ∧ Hid (Row wr g 5 (c.map B8 ++ pad)) ∧ Hid (Below w.heap.size w wr) ∧ w.heap.size ≤ wr.heap.size) (fun x _ => 32 - (intOf x).toNat)
    case atStart => exact ⟨0, la, by omega, by omega, rfl, Burst.start la q u, HROW, B1, z1⟩
    case round =>
      clear HROW B1
      obtain ⟨k, c, hk, hqk, rfl, HBU, HRW, HB, zr⟩ := hrel
      by_cases hgo : k < 32 ∧ q + k < 8 * n
      · obtain ⟨hk32, hq8⟩ := hgo
        by_cases hbit : u / 2 ^ k % 2 = 1
        · have hbt : (((u : Int) / 2 ^ k).tmod 2 == 1) = true := by rw [bit_test]; simpa using hbit
          obtain ⟨m, hm8⟩ : ∃ m, m = (q + k) / 8 := ⟨_, rfl⟩
          obtain ⟨x, hx⟩ : ∃ x : UInt8, c[(q + k) / 8]? = some x := ⟨c[(q + k) / 8]'(by have := HBU.out.1; have := HL.out; omega), List.getElem?_eq_getElem _⟩
          have hcx : wr.cell? ⟨g, (q + k) / 8, none⟩ = some (.int .u8 (x.toNat : Nat)) := by
            rw [HRW.out.cell, List.getElem?_append_left (by have := HBU.out.1; have := HL.out; rw [List.length_map]; omega), List.getElem?_map, hx]
            rfl
          have hfx : wr.frozen? ⟨g, (q + k) / 8, none⟩ = false := HRW.out.frozen _
          have HX := Lib.hid hx
          clear hx hm8
          go_wp2
          go_region
          all_goals go_wp2
          go_roundw
          case rel =>
            refine ⟨k + 1, flipL c (q + k), by omega, by omega, by go_num, HBU.out.one hbit (by have := HL.out; omega), ?_, (HB.out.setCell hg0 _).drew, ?_⟩
            · show Row (wr.setCell ⟨g, (q + k) / 8, none⟩ _) g 5 _
              have h := row_over1 HRW.out (i := (q + k) / 8) (lt_of_at HX.out) (flipB x ((q + k) % 8))
              rw [B8, ← xor_bit x _ (by omega)] at h
              rw [flipL, HX.out]
              exact h
            · show w.heap.size ≤ (wr.setCell ⟨g, (q + k) / 8, none⟩ _).heap.size
              rw [World.size_setCell]
              exact zr
          case measure => simp [intOf] <;> omega
        · have hbt : (((u : Int) / 2 ^ k).tmod 2 == 1) = false := by rw [bit_test]; simpa using hbit
          go_wp2
          go_roundw
          case rel => exact ⟨k + 1, c, by omega, by omega, by go_num, HBU.out.zero (by omega), HRW, HB, zr⟩
          case measure => simp [intOf] <;> omega
      · have hcl : c.length = n := HBU.out.1.trans HL.out
        have HRC := Lib.hid (row_front1 HRW.out hcl)
        have HEQ := Lib.hid (eqBytes wr a (some ⟨g, 0, none⟩) n n ca cc la c (HA.out.keep HB.out (Nat.le_refl _)) HRC.out (by omega) (by omega))
        rcases HBU.out.sums HU.out with hcc | ⟨hne, hsum⟩
        · obtain rfl : la = c := hcc.symm
          rw [show sameB la la = true from by simp [sameB]] at HEQ
          rcases Nat.lt_or_ge k 32 with hk32 | hk32
          all_goals
            go_wp2_with fail
            refine HEQ.out.mono ?_
            rintro e w3 ⟨rfl, hq3⟩
            have B3 := Lib.hid (HB.out.trans ((hq3.below wr.heap.size).mono zr))
            clear hq3
            go_wp2
            go_ret
            exact ⟨rfl, B3⟩
        · rw [show sameB la c = false from by simp only [sameB, decide_eq_false_iff_not]; exact fun e => hne e.symm] at HEQ
          have HSU : Hid (((crcMore 0 la : Nat) : Int) != ((crcMore 0 c : Nat) : Int)) := by show (_ != _) = true; rw [bne_iff_ne]; exact fun e => hsum (Int.ofNat.inj e)
          rcases Nat.lt_or_ge k 32 with hk32 | hk32
          all_goals
            go_wp2_with fail
            refine HEQ.out.mono ?_
            rintro e w3 ⟨rfl, hq3⟩
            have hb3 := hq3.below wr.heap.size
            have z3 := hb3.size
            have B3 := Lib.hid (HB.out.trans (hb3.mono zr))
            have HRC3 := Lib.hid (HRC.out.keep hb3 (Nat.le_refl _))
            clear hq3 hb3
            go_wp2_with fail
            refine (copyBytes w3 a n ca la (HA.out.keep B3.out (Nat.le_refl _)) (by omega)).mono ?_
            rintro e w4 ⟨v4, rfl, hown4, hb4⟩
            have z4 := hb4.size
            have B4 := Lib.hid (B3.out.trans (hb4.mono (by omega)))
            have HRC4 := Lib.hid (HRC3.out.keep hb4 (Nat.le_refl _))
            obtain ⟨a4, c4, rfl, _, _, _⟩ := reads_of_own hown4
            have HO4 := Lib.hid (sliceOf_own' hown4 HL.out)
            clear hown4 hb4
            go_wp2_with fail
            refine (sumBits (w4.alloc (.cells #[.slice a4 n c4] 22)) _ 1 1 [la] (rows_one HO4.out) (by omega) (fun l hl => by rw [List.mem_singleton.1 hl, HL.out]; omega)).mono ?_
            rw [show [la].flatten = la from by simp]
            rintro e w5 ⟨rfl, hq5⟩
            have hb5 := hq5.below (w4.alloc (.cells #[.slice a4 n c4] 22)).heap.size
            have z5 := hb5.size
            rw [World.size_alloc] at z5
            have hba : Below w4.heap.size w4 w5 := ((Below.refl _ w4).alloc (Nat.le_refl _) _).trans (hb5.mono (by rw [World.size_alloc]; omega))
            have B5 := Lib.hid (B4.out.trans (hba.mono (by omega)))
            have HRC5 := Lib.hid (HRC4.out.keep hba (Nat.le_refl _))
            clear hq5 hb5 hba
            go_wp2_with fail
            refine (sumBits (w5.alloc (.cells #[.slice (some ⟨g, 0, none⟩) n cc] 22)) _ 1 1 [c] (rows_one ⟨_, _, by rw [hcl], by rw [hcl]; exact HRC5.out, by rw [hcl]; exact HC.out.1, HC.out.2⟩) (by omega) (fun l hl => by rw [List.mem_singleton.1 hl]; omega)).mono ?_
            rw [show [c].flatten = c from by simp]
            rintro e w6 ⟨rfl, hq6⟩
            have hb6 := hq6.below (w5.alloc (.cells #[.slice (some ⟨g, 0, none⟩) n cc] 22)).heap.size
            have z6 := hb6.size
            rw [World.size_alloc] at z6
            have hba : Below w5.heap.size w5 w6 := ((Below.refl _ w5).alloc (Nat.le_refl _) _).trans (hb6.mono (by rw [World.size_alloc]; omega))
            have B6 := Lib.hid (B5.out.trans (hba.mono (by omega)))
            have hsu := HSU.out
            clear hq6 hb6 hba
            generalize crcMore 0 la = s1 at hsu ⊢
            generalize crcMore 0 c = s2 at hsu ⊢
            go_wp2_with fail
            refine (worksC w6).mono ?_
            rintro e w7 ⟨rfl, hb7⟩
            have B7 := Lib.hid (B6.out.trans (hb7.mono (by omega)))
            clear hb7
            go_wp2
            go_ret
            exact ⟨rfl, B7⟩
  · obtain ⟨q, rfl⟩ := Int.eq_ofNat_of_zero_le (show 0 ≤ r by omega)
    have hq8 : q < 8 * n := by omega
    go_wp2_with fail
    refine (copyBytes w a n ca la HA.out (by omega)).mono ?_
    rintro e w1 ⟨v1, rfl, hown1, hb1⟩
    obtain ⟨g, cc, rfl⟩ := own_pos1 hown1 (by omega)
    obtain ⟨pad, hrow, hg0⟩ := row_of_own hown1
    have hshape := reads_of_own hown1
    obtain ⟨a_, c_, hv_, _, hcc, hcm⟩ := hshape
    cases hv_
    have HROW := Lib.hid hrow
    have B1 := Lib.hid hb1
    have z1 := hb1.size
    have HC := Lib.hid (And.intro hcc hcm)
    clear hown1 hrow hb1 hcc hcm
    go_wp2
    go_loopw [8] (fun x wr => ∃ (k : Nat) (c : List UInt8), k ≤ 32 ∧ q + k ≤ 8 * n ∧ x = .int .i64 k ∧ Hid (Burst la c q u k) ∧ Hid (Row wr g 5 (c.map B8 ++ pad)) ∧ Hid (Below w.heap.size w wr) ∧ w.heap.size ≤ wr.heap.size) (fun x _ => 32 - (intOf x).toNat)
    case atStart => exact ⟨0, la, by omega, by omega, rfl, Burst.start la q u, HROW, B1, z1⟩
    case round =>
      clear HROW B1
      obtain ⟨k, c, hk, hqk, rfl, HBU, HRW, HB, zr⟩ := hrel
      by_cases hgo : k < 32 ∧ q + k < 8 * n
      · obtain ⟨hk32, hq8⟩ := hgo
        by_cases hbit : u / 2 ^ k % 2 = 1
        · have hbt : (((u : Int) / 2 ^ k).tmod 2 == 1) = true := by rw [bit_test]; simpa using hbit
          obtain ⟨m, hm8⟩ : ∃ m, m = (q + k) / 8 := ⟨_, rfl⟩
          obtain ⟨x, hx⟩ : ∃ x : UInt8, c[(q + k) / 8]? = some x := ⟨c[(q + k) / 8]'(by have := HBU.out.1; have := HL.out; omega), List.getElem?_eq_getElem _⟩
          have hcx : wr.cell? ⟨g, (q + k) / 8, none⟩ = some (.int .u8 (x.toNat : Nat)) := by
            rw [HRW.out.cell, List.getElem?_append_left (by have := HBU.out.1; have := HL.out; rw [List.length_map]; omega), List.getElem?_map, hx]
            rfl
          have hfx : wr.frozen? ⟨g, (q + k) / 8, none⟩ = false := HRW.out.frozen _
          have HX := Lib.hid hx
          clear hx hm8
          go_wp2
          go_region
          all_goals go_wp2
          go_roundw
          case rel =>
            refine ⟨k + 1, flipL c (q + k), by omega, by omega, by go_num, HBU.out.one hbit (by have := HL.out; omega), ?_, (HB.out.setCell hg0 _).drew, ?_⟩
            · show Row (wr.setCell ⟨g, (q + k) / 8, none⟩ _) g 5 _
              have h := row_over1 HRW.out (i := (q + k) / 8) (lt_of_at HX.out) (flipB x ((q + k) % 8))
              rw [B8, ← xor_bit x _ (by omega)] at h
              rw [flipL, HX.out]
              exact h
            · show w.heap.size ≤ (wr.setCell ⟨g, (q + k) / 8, none⟩ _).heap.size
              rw [World.size_setCell]
              exact zr
          case measure => simp [intOf] <;> omega
        · have hbt : (((u : Int) / 2 ^ k).tmod 2 == 1) = false := by rw [bit_test]; simpa using hbit
          go_wp2
          go_roundw
          case rel => exact ⟨k + 1, c, by omega, by omega, by go_num, HBU.out.zero (by omega), HRW, HB, zr⟩
          case measure => simp [intOf] <;> omega
      · have hcl : c.length = n := HBU.out.1.trans HL.out
        have HRC := Lib.hid (row_front1 HRW.out hcl)
        have HEQ := Lib.hid (eqBytes wr a (some ⟨g, 0, none⟩) n n ca cc la c (HA.out.keep HB.out (Nat.le_refl _)) HRC.out (by omega) (by omega))
        rcases HBU.out.sums HU.out with hcc | ⟨hne, hsum⟩
        · obtain rfl : la = c := hcc.symm
          rw [show sameB la la = true from by simp [sameB]] at HEQ
          rcases Nat.lt_or_ge k 32 with hk32 | hk32
          all_goals
            go_wp2_with fail
            refine HEQ.out.mono ?_
            rintro e w3 ⟨rfl, hq3⟩
            have B3 := Lib.hid (HB.out.trans ((hq3.below wr.heap.size).mono zr))
            clear hq3
            go_wp2
            go_ret
            exact ⟨rfl, B3⟩
        · rw [show sameB la c = false from by simp only [sameB, decide_eq_false_iff_not]; exact fun e => hne e.symm] at HEQ
          have HSU : Hid (((crcMore 0 la : Nat) : Int) != ((crcMore 0 c : Nat) : Int)) := by show (_ != _) = true; rw [bne_iff_ne]; exact fun e => hsum (Int.ofNat.inj e)
          rcases Nat.lt_or_ge k 32 with hk32 | hk32
          all_goals
            go_wp2_with fail
            refine HEQ.out.mono ?_
            rintro e w3 ⟨rfl, hq3⟩
            have hb3 := hq3.below wr.heap.size
            have z3 := hb3.size
            have B3 := Lib.hid (HB.out.trans (hb3.mono zr))
            have HRC3 := Lib.hid (HRC.out.keep hb3 (Nat.le_refl _))
            clear hq3 hb3
            go_wp2_with fail
            refine (copyBytes w3 a n ca la (HA.out.keep B3.out (Nat.le_refl _)) (by omega)).mono ?_
            rintro e w4 ⟨v4, rfl, hown4, hb4⟩
            have z4 := hb4.size
            have B4 := Lib.hid (B3.out.trans (hb4.mono (by omega)))
            have HRC4 := Lib.hid (HRC3.out.keep hb4 (Nat.le_refl _))
            obtain ⟨a4, c4, rfl, _, _, _⟩ := reads_of_own hown4
            have HO4 := Lib.hid (sliceOf_own' hown4 HL.out)
            clear hown4 hb4
            go_wp2_with fail
            refine (sumBits (w4.alloc (.cells #[.slice a4 n c4] 22)) _ 1 1 [la] (rows_one HO4.out) (by omega) (fun l hl => by rw [List.mem_singleton.1 hl, HL.out]; omega)).mono ?_
            rw [show [la].flatten = la from by simp]
            rintro e w5 ⟨rfl, hq5⟩
            have hb5 := hq5.below (w4.alloc (.cells #[.slice a4 n c4] 22)).heap.size
            have z5 := hb5.size
            rw [World.size_alloc] at z5
            have hba : Below w4.heap.size w4 w5 := ((Below.refl _ w4).alloc (Nat.le_refl _) _).trans (hb5.mono (by rw [World.size_alloc]; omega))
            have B5 := Lib.hid (B4.out.trans (hba.mono (by omega)))
            have HRC5 := Lib.hid (HRC4.out.keep hba (Nat.le_refl _))
            clear hq5 hb5 hba
            go_wp2_with fail
            refine (sumBits (w5.alloc (.cells #[.slice (some ⟨g, 0, none⟩) n cc] 22)) _ 1 1 [c] (rows_one ⟨_, _, by rw [hcl], by rw [hcl]; exact HRC5.out, by rw [hcl]; exact HC.out.1, HC.out.2⟩) (by omega) (fun l hl => by rw [List.mem_singleton.1 hl]; omega)).mono ?_
            rw [show [c].flatten = c from by simp]
            rintro e w6 ⟨rfl, hq6⟩
            have hb6 := hq6.below (w5.alloc (.cells #[.slice (some ⟨g, 0, none⟩) n cc] 22)).heap.size
            have z6 := hb6.size
            rw [World.size_alloc] at z6
            have hba : Below w5.heap.size w5 w6 := ((Below.refl _ w5).alloc (Nat.le_refl _) _).trans (hb6.mono (by rw [World.size_alloc]; omega))
            have B6 := Lib.hid (B5.out.trans (hba.mono (by omega)))
            have hsu := HSU.out
            clear hq6 hb6 hba
            generalize crcMore 0 la = s1 at hsu ⊢
            generalize crcMore 0 c = s2 at hsu ⊢
            go_wp2_with fail
            refine (worksC w6).mono ?_
            rintro e w7 ⟨rfl, hb7⟩
            have B7 := Lib.hid (B6.out.trans (hb7.mono (by omega)))
            clear hb7
            go_wp2
            go_ret
            exact ⟨rfl, B7⟩
end Go.Proofs.Ytgcgbpehedkckaa
