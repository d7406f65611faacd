/- BitsBack: a number that was put is taken again from its place. -/
import Derived.Test.YtgcgbpehedkckaaWorks
import Derived.Test.YtgcgbpehedkckaaOpen
import Derived.Test.YtgcgbpehedkckaaLawc
import Derived.Test.YtgcgbpehedkckaaCopyb
import Derived.Test.YtgcgbpehedkckaaRowsown
namespace Go.Proofs.Ytgcgbpehedkckaa
open Go.RowKit
set_option maxHeartbeats 2000000 in
set_option maxRecDepth 100000 in
theorem bitsBack_walk (w : World) (a1 : Option Addr) (n1 q1 : Nat) (l1 : List UInt8) (ha1 : Reads w a1 n1 (l1.map B8)) (hc1 : n1 ≤ q1) (hm1 : q1 ≤ maxLen) (hb1 : n1 ≤ 1048576) (a2 : Option Addr) (n2 q2 : Nat) (l2 : List UInt8) (ha2 : Reads w a2 n2 (l2.map B8)) (hc2 : n2 ≤ q2) (hm2 : q2 ≤ maxLen) (hb2 : n2 ≤ 1048576) (x : Int) (hx : (Lit.int .u64 x).wf = true) :
    Calls Try.prog 8 #[.slice a1 n1 q1, .slice a2 n2 q2, .int .u64 x] w fun e w' => e = .returned (.bool true) ∧ Below w.heap.size w w' := by
  obtain ⟨hx0, hx1⟩ := wf_u64 hx
  obtain ⟨v, rfl⟩ := Int.eq_ofNat_of_zero_le hx0
  have hv : v < 18446744073709551616 := by omega
  have HV := Lib.hid hv
  obtain ⟨i0, hi, hz0, hz1, hz2⟩ := info_parts Try.infoU8
  have hla1 := ha1.len
  have hla2 := ha2.len
  rw [List.length_map] at hla1 hla2
  have HL1 := Lib.hid hla1
  have HL2 := Lib.hid hla2
  have HA1 := Lib.hid ha1
  have HA2 := Lib.hid ha2
  clear hx hx0 hx1 hv hla1 hla2 ha1 ha2
  go_enter Try.func8, Try.ntmps8
  go_wp2
  go_loopw [7] (fun x wr => ∃ j s : Nat, j ≤ 4 ∧ s ≤ 16 ∧ Hid (s = 2 ^ j) ∧ x = .int .i64 s ∧ Hid (Below w.heap.size w wr) ∧ w.heap.size ≤ wr.heap.size) (fun x _ => 17 - (intOf x).toNat)
  case atStart => exact ⟨0, 1, by omega, by omega, rfl, rfl, Below.refl _ _, Nat.le_refl _⟩
  case round =>
    obtain ⟨j, s, hj, hs16, HSJ, rfl, HB, zr⟩ := hrel
    by_cases hj4 : j < 4
    · have hs : Hid (s = 1 ∨ s = 2 ∨ s = 4 ∨ s = 8) ∧ 1 ≤ s ∧ s ≤ 8 := by
        have h := HSJ.out
        rcases (show j = 0 ∨ j = 1 ∨ j = 2 ∨ j = 3 by omega) with rfl | rfl | rfl | rfl <;> simp at h <;> subst h <;> exact ⟨by simp [Hid], by omega, by omega⟩
      obtain ⟨HS, hs1, hs8⟩ := hs
      have HSJ2 : Hid (2 * s = 2 ^ (j + 1)) := by show _ = _; rw [HSJ.out, Nat.pow_succ]; omega
      go_wp2_with fail
      refine (copyBytes wr a1 n1 q1 l1 (HA1.out.keep HB.out (Nat.le_refl _)) (by omega)).mono ?_
      rintro e w2 ⟨v3, rfl, hown2, hb2⟩
      obtain ⟨a3, c3, rfl, hr3, _, _⟩ := reads_of_own hown2
      have HR3 := Lib.hid hr3
      have B2 := Lib.hid (HB.out.trans (hb2.mono zr))
      have z2 := hb2.size
      clear hown2 hb2 hr3
      go_wp2_with fail
      refine (putLaw w2 a3 n1 c3 l1 v s HS.out HR3.out (by omega) HV.out).mono ?_
      rintro e w3 ⟨r4, rfl, hown3, hb3⟩
      have hnl : (l1 ++ leB v s).length = n1 + s := by simp [leB, HL1.out]
      rw [hnl] at hown3
      obtain ⟨g4, c4, rfl⟩ := own_pos hown3 (by omega)
      have B3 := Lib.hid (B2.out.trans (hb3.mono (by omega)))
      have z3 := hb3.size
      have HO3 := Lib.hid hown3
      have HA23 := Lib.hid (HA2.out.keep B3.out (Nat.le_refl _))
      have hg4 := (hown3.lt g4 rfl).1
      clear hb3 hown3 hnl
      go_wp2_with (at_builtin; refine wpList_append_reads rfl _ _ 22 rfl w2.heap.size 5 i0 (.int .u8 0) 1 Try.underlying22 hi hz0 hz1 hz2 rfl g4 (n1 + s) c4 ((l1 ++ leB v s).map B8) rfl HO3.out a2 n2 q2 (l2.map B8) rfl HA23.out (b8_one l2) (by unfold maxLen; omega) (by omega) (by omega) ?_; intro v8 w4 hown4 hgrow4)
      rw [← List.map_append] at hown4
      have z4 := hgrow4.size
      have B4 := Lib.hid (B3.out.grown hgrow4 (by omega) (fun b hb => by cases hb; omega))
      obtain ⟨a8, c8, rfl, hr8, _, _⟩ := reads_of_own hown4
      have HL8 : Hid ((l1 ++ leB v s ++ l2).length = n1 + s + n2) := by show _ = _; simp [leB, HL1.out, HL2.out, Nat.add_assoc]
      have c1 := takeLaw w4 a8 (n1 + s + n2) c8 (l1 ++ leB v s ++ l2) (n1 : Int) s HS.out hr8 (by omega) (by omega) (by omega)
      obtain ⟨t1, t2⟩ := tk_mid l1 l2 v s
      rw [HL1.out] at t1 t2
      rw [t1, t2] at c1
      have c2 : ∀ w5, Below w4.heap.size w4 w5 → Calls Try.prog 22 #[.slice a8 (n1 + s + n2) c8, .int .i64 (((n1 + s + n2 : Nat) : Int) - s + 1), .int .i64 s] w5 fun e w' => (∃ V : Nat, e = .returned (.tuple #[.int .u64 V, .int .i64 6])) ∧ Below w5.heap.size w5 w' := fun w5 hb5 => by
        refine (takeLaw w5 a8 (n1 + s + n2) c8 (l1 ++ leB v s ++ l2) (((n1 + s + n2 : Nat) : Int) - s + 1) s HS.out (hr8.keep hb5 (Nat.le_refl _)) (by omega) (by omega) (by omega)).mono ?_
        rintro e w6 ⟨rfl, h6⟩
        rw [tk_past _ _ _ (by rw [HL8.out]; omega)]
        exact ⟨⟨_, rfl⟩, h6⟩
      generalize hV : cutN v s = V at c1
      have C1 := Lib.hid c1
      have C2 := Lib.hid c2
      have hcl := cutLaw v s
      rw [hV] at hcl
      have HCL := Lib.hid hcl
      have nV : ((V : Int) != (V : Int)) = false := by simp
      clear hown4 hgrow4 t1 t2 c1 c2 hr8 hV hcl HO3 HA23
      go_wp2_with fail
      refine C1.out.mono ?_
      rintro e w5 ⟨rfl, hb5⟩
      have z5 := hb5.size
      have B5 := Lib.hid hb5
      clear hb5
      go_wp2_with fail
      refine (HCL.out w5 HS.out HV.out).mono ?_
      rintro e w5' ⟨rfl, rfl⟩
      go_wp2_with fail
      refine (C2.out w5 B5.out).mono ?_
      rintro e w6 ⟨⟨V2, rfl⟩, hb6⟩
      have z6 := hb6.size
      have B6 := Lib.hid (B4.out.trans ((B5.out.trans (hb6.mono z5)).mono (by omega)))
      clear hb6
      go_wp2
      go_roundw
      case rel => exact ⟨j + 1, 2 * s, by omega, by omega, HSJ2, by go_num, B6, by omega⟩
      case measure => simp [intOf] <;> omega
    · obtain rfl : j = 4 := by omega
      have hs16' : s = 16 := HSJ.out
      subst hs16'
      go_wp2_with fail
      refine (worksC wr).mono ?_
      rintro e w9 ⟨rfl, hb9⟩
      have B9 := Lib.hid (HB.out.trans (hb9.mono zr))
      clear hb9
      go_wp2
      go_ret
      exact ⟨rfl, B9⟩
end Go.Proofs.Ytgcgbpehedkckaa
