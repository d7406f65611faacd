/- BitsPieces: no bytes at all; and the whole. -/
import Derived.Test.YtgcgbpehedkckaaLBitsPieces
namespace Go.Proofs.Ytgcgbpehedkckaa
open Go.RowKit
set_option maxHeartbeats 4000000 in
set_option maxRecDepth 100000 in
theorem pieces_zero (w : World) (a : Option Addr) (ca : Nat) (hca : a = none → ca = 0) (hm : ca ≤ maxLen) (a2 : Option Addr) (m ca2 : Nat) (hb2 : m ≤ 1048576) :
    Calls Try.prog 9 #[.slice a 0 ca, .slice a2 m ca2] w fun e w' => e = .returned (.bool true) ∧ Below w.heap.size w w' := by
  obtain ⟨i1, hi1, hy0, hy1, hy2⟩ := info_parts Try.infoSl8r
  have HSLa : Hid (SliceOf w (.slice a 0 ca) ([] : List UInt8)) := ⟨_, _, rfl, Reads.nil _ _, Nat.zero_le _, hm⟩
  have HCA := Lib.hid hca
  clear hca
  go_enter Try.func9, Try.ntmps9
  go_wp2_with fail
  refine (sumBits w none 0 0 [] ⟨[], Reads.nil _ _, rfl, fun i v l h => by cases h⟩ (by omega) (fun l h => by cases h)).mono ?_
  rw [show crcMore 0 (([] : List (List UInt8)).flatten) = 0 from by rw [List.flatten_nil]; exact crcMore_nil (by decide)]
  rintro e w1 ⟨rfl, hq1⟩
  have B1 := Lib.hid (hq1.below w.heap.size)
  have z1 := B1.out.size
  clear hq1
  go_wp2
  go_loopw [5, 6, 7, 8] (fun vg y s x wr => vg = .slice none 0 0 ∧ y = .int .i64 0 ∧ s = .int .u32 0 ∧ x = .int .i64 0 ∧ wr = w1) (fun _ _ _ _ _ => 0)
  case atStart => exact ⟨rfl, rfl, rfl, rfl, rfl⟩
  case round =>
    obtain ⟨rfl, rfl, rfl, rfl, rfl⟩ := hrel
    rcases Nat.eq_zero_or_pos m with hm0 | hm0
    all_goals
      go_wp2_with (at_builtin; refine wpList_append_sep rfl _ _ 25 rfl w.heap.size 22 i1 (.slice none 0 0) 1 24 Try.underlying25 hi1 hy0 hy1 hy2 rfl (by decide) none 0 0 [] rfl ((World.ownsRow_nil _ _ _ _).alloc _) ⟨wr.heap.size, 0, none⟩ 1 1 [.slice a 0 ca] rfl rfl (cell_one_new _ _ _) (by simp [Value.oneCell']) (by unfold maxLen; omega) (by omega) (by simp; omega) ?_; intro v' w3 hown3 hgrow3 hsep3)
      have hpu : PW w w3 v' ([] ++ [.slice a 0 ca]) ([] ++ [([] : List UInt8)]) := (PW.nil w wr).push hown3 HSLa.out
      have HPU := Lib.hid hpu
      have B3 := Lib.hid ((B1.out.alloc z1 _).grown hgrow3 (by simp; omega) (fun b hb => by cases hb))
      have z3 := hgrow3.size
      rw [World.size_alloc] at z3
      clear hpu hgrow3 hown3 hsep3
      go_wp2_with fail
      refine (copyBytes w3 a 0 ca [] (Reads.nil _ _) (by omega)).mono ?_
      rintro e w4 ⟨v4, rfl, hown4, hb4⟩
      obtain ⟨a4, c4, rfl, hr4, _, _⟩ := reads_of_own hown4
      have HR4 := Lib.hid hr4
      have HP4 := Lib.hid (HPU.out.keepNone (grown_below hb4))
      have B4 := Lib.hid (B3.out.trans (hb4.mono (by omega)))
      have z4 := hb4.size
      clear hr4 hown4 hb4
      go_wp2_with fail
      refine (moreBits w4 0 a4 0 c4 [] HR4.out (by omega) (by omega)).mono ?_
      rw [show crcMore 0 [] = 0 from crcMore_nil (by decide)]
      rintro e w5 ⟨rfl, hq5⟩
      have hb5 := hq5.below w4.heap.size
      have HP5 := Lib.hid (HP4.out.keepNone (grown_below hb5))
      have B5 := Lib.hid (B4.out.trans (hb5.mono (by omega)))
      have z5 := hb5.size
      have HF5 : Hid (([] ++ [([] : List UInt8)]).flatten = []) := rfl
      have HN5 : Hid (([] ++ [([] : List UInt8)]).length ≤ 1) := Nat.le_refl _
      clear hq5 hb5
      go_wp2_with fail
      refine (copyBytes w5 a 0 ca [] (Reads.nil _ _) (by omega)).mono ?_
      rintro e w6 ⟨v6, rfl, hown6, hb6⟩
      obtain ⟨a6, c6, rfl, _, _, _⟩ := reads_of_own hown6
      have HO6 := Lib.hid (sliceOf_ownP hown6 rfl)
      have HP6 := Lib.hid (HP5.out.keepNone (grown_below hb6))
      have B6 := Lib.hid (B5.out.trans (hb6.mono (by omega)))
      have z6 := hb6.size
      clear hown6 hb6
      go_wp2_with fail
      refine (sumBits (w6.alloc (.cells #[.slice a6 0 c6] 22)) _ 1 1 [([] : List UInt8)] (rows_oneP HO6.out) (by omega) (fun l hl => by rw [List.mem_singleton.1 hl]; decide)).mono ?_
      rw [show crcMore 0 [([] : List UInt8)].flatten = 0 from crcMore_nil (by decide)]
      rintro e w7 ⟨rfl, hq7⟩
      have hb7 : Below w6.heap.size w6 w7 := below_past (hq7.below _)
      have HP7 := Lib.hid (HP6.out.keepNone (grown_below hb7))
      have B7 := Lib.hid (B6.out.trans (hb7.mono (by omega)))
      have z7 := hb7.size
      clear hq7 hb7
      obtain ⟨ap, cp, hvp, hrp⟩ := HP7.out.reads B7.out
      obtain ⟨pq, hpq⟩ : ∃ pq, pq = ([] : List (List UInt8)) ++ [([] : List UInt8)] := ⟨_, rfl⟩
      rw [← hpq] at hvp hrp HF5 HN5
      have hmem : ∀ l, l ∈ pq → l.length ≤ 0 := fun l hl => by
        have h := len_le_flattenP hl
        rw [HF5.out] at h
        exact h
      have HME := Lib.hid hmem
      have HRP := Lib.hid hrp
      obtain ⟨kp, hkp⟩ : ∃ kp, kp = pq.length := ⟨_, rfl⟩
      have hn5 := HN5.out
      rw [← hkp] at hvp HRP hn5
      subst hvp
      have HKP := Lib.hid hkp
      clear hpq hmem hrp hkp
      go_wp2_with fail
      refine (copyRows w7 ap kp cp pq HRP.out (by omega) (fun l hl => by have := HME.out l hl; omega)).mono ?_
      rintro e w8 ⟨v8, vals8, rfl, hro8, hb8⟩
      obtain ⟨a8, c8, rfl, hrd8, _, _⟩ := hro8.reads
      rw [← HKP.out] at hrd8 ⊢
      have HR8 := Lib.hid hrd8
      have B8' := Lib.hid (B7.out.trans (hb8.mono (by omega)))
      have z8 := hb8.size
      clear hro8 hrd8 hb8
      go_wp2_with fail
      refine (sumBits w8 a8 kp c8 pq HR8.out (by omega) (fun l hl => by have := HME.out l hl; omega)).mono ?_
      rw [HF5.out, crcMore_nil (by decide)]
      rintro e w9 ⟨rfl, hq9⟩
      have hb9 := hq9.below w8.heap.size
      have B9 := Lib.hid (B8'.out.trans (hb9.mono (by omega)))
      have z9 := hb9.size
      clear hq9 hb9
      go_wp2_with fail
      refine (worksC w9).mono ?_
      rintro e w10 ⟨rfl, hb10⟩
      have B10 := Lib.hid (B9.out.trans (hb10.mono (by omega)))
      clear hb10
      go_wp2
      go_ret
      exact ⟨rfl, B10⟩

theorem bitsPieces_walk (w : World) (a : Option Addr) (n ca : Nat) (la : List UInt8) (ha : Reads w a n (la.map B8)) (hc : n ≤ ca) (hm : ca ≤ maxLen) (hb : n ≤ 1048576) (hn : a = none → ca = 0) (a2 : Option Addr) (m ca2 : Nat) (l2 : List Int) (ha2 : Reads w a2 m (l2.map (Value.int .i64))) (_hc2 : m ≤ ca2) (_hm2 : ca2 ≤ maxLen) (hb2 : m ≤ 1048576) (hwf : ∀ x, x ∈ l2 → (Lit.int .i64 x).wf = true) :
    Calls Try.prog 9 #[.slice a n ca, .slice a2 m ca2] w fun e w' => e = .returned (.bool true) ∧ Below w.heap.size w w' := by
  rcases Nat.eq_zero_or_pos n with h0 | h0
  · subst h0
    exact pieces_zero w a ca hn hm a2 m ca2 hb2
  · obtain ⟨b, o, rfl, _, _⟩ := ha.2 h0
    exact pieces_some w b o n ca la ha hc hm hb a2 m ca2 l2 ha2 hb2 hwf
end Go.Proofs.Ytgcgbpehedkckaa
