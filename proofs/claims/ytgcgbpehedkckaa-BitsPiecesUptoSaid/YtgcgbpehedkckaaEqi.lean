/- EqInts. -/
import Derived.Test.YtgcgbpehedkckaaBase
namespace Go.Proofs.Ytgcgbpehedkckaa
open Go.RowKit
abbrev I8 (x : Int) : Value := .int .i64 x
theorem i8_at {l : List Int} {k : Nat} {x : Value} (h : (l.map I8)[k]? = some x) : ∃ y, x = I8 y ∧ l[k]? = some y := by
  rw [List.getElem?_map] at h
  cases hy : l[k]? with
  | none => rw [hy] at h; simp at h
  | some y => rw [hy] at h; simp at h; exact ⟨y, h.symm, rfl⟩
theorem Reads.int {w : World} {a : Option Addr} {n : Nat} {l : List Int} (h : Reads w a n (l.map I8)) {k : Nat} (hk : k < n) :
    ∃ b off x, a = some ⟨b, off, none⟩ ∧ b < w.heap.size ∧ l[k]? = some x ∧ w.cell? ⟨b, off + k, none⟩ = some (.int .i64 x) := by
  obtain ⟨b, off, x, ha, hb, hx, hc⟩ := h.at hk
  obtain ⟨y, rfl, hy⟩ := i8_at hx
  exact ⟨b, off, y, ha, hb, hy, hc⟩
def sameI (l m : List Int) : Bool := decide (l = m)
set_option maxHeartbeats 400000 in
theorem eqInts (w : World) (a b : Option Addr) (n m ca cb : Nat) (la lb : List Int) (ha : Reads w a n (la.map I8)) (hb : Reads w b m (lb.map I8)) (hn : n ≤ 4611686018427387904) (hm : m ≤ 4611686018427387904) :
    Calls Try.prog 37 #[.slice a n ca, .slice b m cb] w fun e w' => e = .returned (.bool (sameI la lb)) ∧ Quiet w w' := by
  have hla := ha.len
  have hlb := hb.len
  rw [List.length_map] at hla hlb
  by_cases hnm : n = m
  · subst hnm
    have HL := Lib.hid hla
    have HM := Lib.hid hlb
    clear hla hlb
    have hne : ((n : Int) != (n : Int)) = false := by simp
    go_enter Try.func37, Try.ntmps37
    go_wp2
    go_loopw [5] (fun i wr => ∃ k : Nat, k ≤ n ∧ i = .int .i64 k ∧ Hid (la.take k = lb.take k) ∧ Quiet w wr) (fun i _ => n - (intOf i).toNat)
    case atStart => exact ⟨0, Nat.zero_le _, rfl, rfl, Quiet.refl _⟩
    case round =>
      obtain ⟨k, hk, rfl, HE, hbel⟩ := hrel
      by_cases hlt : k < n
      · obtain ⟨b1, o1, x, rfl, hb1, hx, hcx⟩ := (ha.quiet hbel).int hlt
        obtain ⟨b2, o2, y, rfl, hb2, hy, hcy⟩ := (hb.quiet hbel).int hlt
        have HX := Lib.hid hx
        have HY := Lib.hid hy
        clear hx hy
        by_cases hxy : x = y
        · subst hxy
          have hbe : (x != x) = false := by simp
          go_wp2
          go_quiet (fail)
          go_wp2
          go_roundw
          case rel => exact ⟨k + 1, by omega, by go_num, by
            show _ = _
            rw [take_next HX.out, take_next HY.out, HE.out], hbel.drewN _⟩
          case measure => simp [intOf]; omega
        · have hbe : (x != y) = true := by
            simp only [bne_iff_ne, ne_eq]
            intro h
            exact hxy (h)
          go_wp2
          go_quiet (fail)
          go_wp2
          go_ret
          refine ⟨?_, hbel.drewN _⟩
          have hd : sameI la lb = false := by
            unfold sameI
            simp only [decide_eq_false_iff_not]
            intro h
            subst h
            have := HX.out.symm.trans HY.out
            simp at this
            exact hxy this
          rw [hd]; rfl
      · obtain rfl : k = n := by omega
        go_wp2
        go_ret
        refine ⟨?_, hbel⟩
        have hd : sameI la lb = true := by
          unfold sameI
          have h := HE.out
          rw [List.take_of_length_le (by rw [HL.out]; exact Nat.le_refl _), List.take_of_length_le (by rw [HM.out]; exact Nat.le_refl _)] at h
          simpa using h
        rw [hd]; rfl
  · have hne : ((n : Int) != (m : Int)) = true := by simp only [bne_iff_ne, ne_eq]; omega
    have HL := Lib.hid hla
    have HM := Lib.hid hlb
    clear hla hlb
    go_enter Try.func37, Try.ntmps37
    go_wp2
    go_ret
    refine ⟨?_, Quiet.refl _⟩
    have hd : sameI la lb = false := by
      unfold sameI
      simp only [decide_eq_false_iff_not]
      intro h
      subst h
      exact hnm (HL.out.symm.trans HM.out)
    rw [hd]; rfl
end Go.Proofs.Ytgcgbpehedkckaa
