/- EqBytes. -/
import Derived.Test.YtpafdemnnofihaaBase
namespace Go.Proofs.Ytpafdemnnofihaa
open Go.RowKit
def sameB (l m : List UInt8) : Bool := decide (l = m)
set_option maxHeartbeats 400000 in
theorem eqBytes (w : World) (a b : Option Addr) (n m ca cb : Nat) (la lb : List UInt8) (ha : Reads w a n (la.map B8)) (hb : Reads w b m (lb.map B8)) (hn : n ≤ 4611686018427387904) (hm : m ≤ 4611686018427387904) :
    Calls Try.prog 15 #[.slice a n ca, .slice b m cb] w fun e w' => e = .returned (.bool (sameB la lb)) ∧ Quiet w w' := by
  have hla := ha.len
  have hlb := hb.len
  rw [List.length_map] at hla hlb
  by_cases hnm : n = m
  · subst hnm
    have HL := Lib.hid hla
    have HM := Lib.hid hlb
    clear hla hlb
    have hne : ((n : Int) != (n : Int)) = false := by simp
    go_enter Try.func15, Try.ntmps15
    go_wp2
    go_loopw [5] (fun i wr => ∃ k : Nat, k ≤ n ∧ i = .int .i64 k ∧ Hid (la.take k = lb.take k) ∧ Quiet w wr) (fun i _ => n - (intOf i).toNat)
    case atStart => exact ⟨0, Nat.zero_le _, rfl, rfl, Quiet.refl _⟩
    case round =>
      obtain ⟨k, hk, rfl, HE, hbel⟩ := hrel
      by_cases hlt : k < n
      · obtain ⟨b1, o1, x, rfl, hb1, hx, hcx⟩ := (ha.quiet hbel).byte hlt
        obtain ⟨b2, o2, y, rfl, hb2, hy, hcy⟩ := (hb.quiet hbel).byte hlt
        have HX := Lib.hid hx
        have HY := Lib.hid hy
        clear hx hy
        by_cases hxy : x = y
        · subst hxy
          have hbe : ((x.toNat : Int) != (x.toNat : Int)) = false := by simp
          go_wp2
          go_quiet (fail)
          go_wp2
          go_roundw
          case rel => exact ⟨k + 1, by omega, by go_num, by
            show _ = _
            rw [take_next HX.out, take_next HY.out, HE.out], hbel.drewN _⟩
          case measure => simp [intOf]; omega
        · have hbe : ((x.toNat : Int) != (y.toNat : Int)) = true := by
            simp only [bne_iff_ne, ne_eq]
            intro h
            exact hxy (UInt8.toNat.inj (by omega))
          go_wp2
          go_quiet (fail)
          go_wp2
          go_ret
          refine ⟨?_, hbel.drewN _⟩
          have hd : sameB la lb = false := by
            unfold sameB
            simp only [decide_eq_false_iff_not]
            intro h
            subst h
            have := HX.out.symm.trans HY.out
            simp at this
            exact hxy this
          rw [hd]; rfl
      · obtain rfl : k = n := by omega
        go_wp2
        go_ret
        refine ⟨?_, hbel⟩
        have hd : sameB la lb = true := by
          unfold sameB
          have h := HE.out
          rw [List.take_of_length_le (by rw [HL.out]; exact Nat.le_refl _), List.take_of_length_le (by rw [HM.out]; exact Nat.le_refl _)] at h
          simpa using h
        rw [hd]; rfl
  · have hne : ((n : Int) != (m : Int)) = true := by simp only [bne_iff_ne, ne_eq]; omega
    have HL := Lib.hid hla
    have HM := Lib.hid hlb
    clear hla hlb
    go_enter Try.func15, Try.ntmps15
    go_wp2
    go_ret
    refine ⟨?_, Quiet.refl _⟩
    have hd : sameB la lb = false := by
      unfold sameB
      simp only [decide_eq_false_iff_not]
      intro h
      subst h
      exact hnm (HL.out.symm.trans HM.out)
    rw [hd]; rfl
end Go.Proofs.Ytpafdemnnofihaa
