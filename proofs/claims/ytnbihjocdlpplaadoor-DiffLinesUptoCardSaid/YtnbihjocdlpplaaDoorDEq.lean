/- Rows of texts and lists of hunks that are read: the same? -/
import Derived.Test.YtnbihjocdlpplaaDoorDStr
import Derived.Test.YtnbihjocdlpplaaDoorDiffS
namespace Go.Proofs.YtnbihjocdlpplaaDoor
set_option linter.unusedVariables false
set_option linter.unusedSimpArgs false
open Go.RowKit
theorem ReadsS.quiet {w w' : World} {a : Option Addr} {n : Nat} {L : List (List UInt8)} (h : ReadsS w a n L) (hq : Quiet w w') : ReadsS w' a n L := h.keep (hq.below w.heap.size) (Nat.le_refl _)
/-- the slice at a of n hunks reads as these -/
def ReadsK (w : World) (a : Option Addr) (n : Nat) (X : List HkI) : Prop :=
  X.length = n ∧ (0 < n → ∃ b off, a = some ⟨b, off, none⟩ ∧ b < w.heap.size ∧ ∀ i x, X[i]? = some x → ∃ ad c, w.cell? ⟨b, off + i * 2, none⟩ = some (.int .i64 x.1) ∧ w.cell? ⟨b, off + i * 2 + 1, none⟩ = some (.slice ad x.2.length c) ∧ ReadsS w ad x.2.length x.2 ∧ x.2.length ≤ c ∧ c ≤ maxLen)
theorem ReadsK.len {w : World} {a : Option Addr} {n : Nat} {X : List HkI} (h : ReadsK w a n X) : X.length = n := h.1
theorem ReadsK.nil (w : World) (a : Option Addr) : ReadsK w a 0 [] := ⟨rfl, fun h => absurd h (by omega)⟩
theorem ReadsK.keep {B : Nat} {w w' : World} {a : Option Addr} {n : Nat} {X : List HkI} (h : ReadsK w a n X) (hb : Below B w w') (hB : w.heap.size ≤ B) : ReadsK w' a n X := by
  obtain ⟨hl, h⟩ := h
  refine ⟨hl, fun hn => ?_⟩
  obtain ⟨b, off, ha, hlt, hc⟩ := h hn
  refine ⟨b, off, ha, Nat.lt_of_lt_of_le hlt hb.size, fun i x hx => ?_⟩
  obtain ⟨ad, c, h1, h2, h3, h4⟩ := hc i x hx
  exact ⟨ad, c, by rw [hb.cell (p := ⟨b, off + i * 2, none⟩) (Nat.lt_of_lt_of_le hlt hB)]; exact h1, by rw [hb.cell (p := ⟨b, off + i * 2 + 1, none⟩) (Nat.lt_of_lt_of_le hlt hB)]; exact h2, h3.keep hb hB, h4⟩
theorem ReadsK.quiet {w w' : World} {a : Option Addr} {n : Nat} {X : List HkI} (h : ReadsK w a n X) (hq : Quiet w w') : ReadsK w' a n X := h.keep (hq.below w.heap.size) (Nat.le_refl _)
theorem ReadsK.at {w : World} {a : Option Addr} {n : Nat} {X : List HkI} (h : ReadsK w a n X) {i : Nat} (hi : i < n) :
    ∃ b off x ad m c, a = some ⟨b, off, none⟩ ∧ b < w.heap.size ∧ X[i]? = some x ∧ w.cell? ⟨b, off + i * 2, none⟩ = some (.int .i64 x.1) ∧ w.cell? ⟨b, off + i * 2 + 1, none⟩ = some (.slice ad m c) ∧ ReadsS w ad m x.2 ∧ m ≤ c ∧ c ≤ maxLen ∧ x.2.length = m := by
  obtain ⟨hl, h⟩ := h
  obtain ⟨b, off, ha, hlt, hc⟩ := h (by omega)
  have hx : X[i]? = some X[i] := List.getElem?_eq_getElem (by omega)
  obtain ⟨ad, c, h1, h2, h3, h4, h5⟩ := hc i _ hx
  exact ⟨b, off, X[i], ad, _, c, ha, hlt, hx, h1, h2, h3, h4, h5, rfl⟩
set_option maxHeartbeats 1000000 in
theorem eqTexts (w : World) (a b : Option Addr) (n m ca cb : Nat) (A B : List (List UInt8)) (ha : ReadsS w a n A) (hb : ReadsS w b m B) (hn : n ≤ 4611686018427387904) (hm : m ≤ 4611686018427387904) :
    Calls Tryd.prog 47 #[.slice a n ca, .slice b m cb] w fun e w' => e = .returned (.bool (A == B)) ∧ Quiet w w' := by
  have hla := ha.len
  have hlb := hb.len
  by_cases hnm : n = m
  · subst hnm
    have HL := Lib.hid hla
    have HM := Lib.hid hlb
    clear hla hlb
    have hne : ((n : Int) != (n : Int)) = false := by simp
    go_enter Tryd.func47, Tryd.ntmps47
    go_wp2
    go_loopw [5] (fun i wr => ∃ k : Nat, k ≤ n ∧ i = .int .i64 k ∧ Hid (A.take k = B.take k) ∧ Quiet w wr) (fun i _ => n - (intOf i).toNat)
    case atStart => exact ⟨0, Nat.zero_le _, rfl, rfl, Quiet.refl _⟩
    case round =>
      obtain ⟨k, hk, rfl, HE, hbel⟩ := hrel
      by_cases hlt : k < n
      · obtain ⟨b1, o1, x, rfl, hb1, hx, hcx⟩ := (ha.quiet hbel).at hlt
        obtain ⟨b2, o2, y, rfl, hb2, hy, hcy⟩ := (hb.quiet hbel).at hlt
        have HX := Lib.hid hx
        have HY := Lib.hid hy
        clear hx hy
        by_cases hxy : x = y
        · subst hxy
          have hbe : (x != x) = false := by simp
          have hbf : (x == x) = true := by simp
          go_wp2
          go_quiet (fail)
          go_wp2
          go_roundw
          case rel => exact ⟨k + 1, by omega, by go_num, by
            show _ = _
            rw [take_next HX.out, take_next HY.out, HE.out], hbel.drewN _⟩
          case measure => simp [intOf]; omega
        · have hbe : (x == y) = false := by rw [beq_eq_false_iff_ne]; exact hxy
          have hbf : (x != y) = true := by rw [bne_iff_ne]; exact hxy
          go_wp2
          go_quiet (fail)
          go_wp2
          go_ret
          refine ⟨?_, hbel.drewN _⟩
          have hd : (A == B) = false := by
            rw [beq_eq_false_iff_ne]
            intro h
            subst h
            have := HX.out.symm.trans HY.out
            simp at this
            exact hxy this
          rw [hd]; rfl
      · obtain rfl : k = n := by omega
        go_wp2
        go_ret
        refine ⟨?_, hbel⟩
        have hd : (A == B) = true := by
          rw [beq_iff_eq]
          have h := HE.out
          rw [List.take_of_length_le (by rw [HL.out]; exact Nat.le_refl _), List.take_of_length_le (by rw [HM.out]; exact Nat.le_refl _)] at h
          exact h
        rw [hd]; rfl
  · have hne : ((n : Int) != (m : Int)) = true := by simp only [bne_iff_ne, ne_eq]; omega
    have HL := Lib.hid hla
    have HM := Lib.hid hlb
    clear hla hlb
    go_enter Tryd.func47, Tryd.ntmps47
    go_wp2
    go_ret
    refine ⟨?_, Quiet.refl _⟩
    have hd : (A == B) = false := by
      rw [beq_eq_false_iff_ne]
      intro h
      subst h
      exact hnm (HL.out.symm.trans HM.out)
    rw [hd]; rfl
set_option maxHeartbeats 1000000 in
theorem eqHunks (w : World) (a b : Option Addr) (n ca cb : Nat) (X : List HkI) (ha : ReadsK w a n X) (hb : ReadsK w b n X) (hn : n ≤ 4611686018427387904) (hm : ∀ x ∈ X, x.2.length ≤ 4611686018427387904) :
    Calls Tryd.prog 12 #[.slice a n ca, .slice b n cb] w fun e w' => e = .returned (.bool true) ∧ Quiet w w' := by
  have HM := Lib.hid hm
  have HA := Lib.hid ha
  have HB := Lib.hid hb
  clear hm ha hb
  have hne : ((n : Int) != (n : Int)) = false := by simp
  go_enter Tryd.func12, Tryd.ntmps12
  go_wp2
  go_loopw [5] (fun i wr => ∃ k : Nat, k ≤ n ∧ i = .int .i64 k ∧ Quiet w wr) (fun i _ => n - (intOf i).toNat)
  case atStart => exact ⟨0, Nat.zero_le _, rfl, Quiet.refl _⟩
  case round =>
    obtain ⟨k, hk, rfl, hq⟩ := hrel
    by_cases hlt : k < n
    · obtain ⟨b1, o1, x, a1, m1, c1, rfl, hb1, hx, hk1, hl1, hr1, _, _, hm1⟩ := (HA.out.quiet hq).at hlt
      obtain ⟨b2, o2, y, a2, m2, c2, rfl, hb2, hy, hk2, hl2, hr2, _, _, hm2⟩ := (HB.out.quiet hq).at hlt
      obtain rfl : x = y := by rw [hx] at hy; exact Option.some.inj hy
      have hl := HM.out x (List.mem_of_getElem? hx)
      subst hm1
      obtain ⟨n1, hn1⟩ : ∃ n1, n1 = x.2.length := ⟨_, rfl⟩
      rw [← hn1] at hm2
      subst hm2
      rw [← hn1] at hl1 hr1 hl
      obtain ⟨kd, hkd⟩ : ∃ kd, kd = x.1 := ⟨_, rfl⟩
      rw [← hkd] at hk1 hk2
      have hcall : ∀ m, Calls Tryd.prog 47 #[.slice a1 n1 c1, .slice a2 n1 c2] (wr.drewN m) fun e w' => e = .returned (.bool true) ∧ ∃ m', w' = (wr.drewN m).drewN m' := by
        intro m
        have h := eqTexts (wr.drewN m) a1 a2 n1 n1 c1 c2 x.2 x.2 (hr1.quiet ⟨m, rfl⟩) (hr2.quiet ⟨m, rfl⟩) hl hl
        rw [show (x.2 == x.2) = true from by simp] at h
        exact h
      have HC := Lib.hid hcall
      have hbe : (kd != kd) = false := by simp
      clear hcall hx hy hr1 hr2 hn1 hkd hl
      go_wp2
      go_quiet ((go_at_call 47; exact Calls.quiet_of (HC.out _)))
      go_wp2
      go_roundw
      case rel => exact ⟨k + 1, by omega, by go_num, hq.drewN _⟩
      case measure => simp [intOf] <;> omega
    · obtain rfl : k = n := by omega
      go_wp2
      go_ret
      exact ⟨rfl, hq⟩
end Go.Proofs.YtnbihjocdlpplaaDoor
