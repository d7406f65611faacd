/- The reference's Take and Put; put, take, cut of the law's own text. -/
import Derived.Test.YtgcgbpehedkckaaTake
import Derived.Test.YtgcgbpehedkckaaPut
namespace Go.Proofs.Ytgcgbpehedkckaa
open Go.RowKit
set_option maxHeartbeats 400000 in
set_option maxRecDepth 100000 in
theorem takeRef (w : World) (a : Option Addr) (n ca : Nat) (la : List UInt8) (p s : Nat) (ha : Reads w a n (la.map B8)) (hn : n ≤ 140737488355328) (hp : p + s ≤ n) (hs : s ≤ 8) :
    Calls Try.prog 23 #[.slice a n ca, .int .i64 p, .int .i64 s] w fun e w' => e = .returned (.tuple #[.int .u64 (leV (piece la p s)), .int .i64 0]) ∧ Below w.heap.size w w' := by
  have hla := ha.len
  rw [List.length_map] at hla
  have HL := Lib.hid hla
  clear hla
  go_enter Try.func23, Try.ntmps23
  go_wp2
  go_loopw [8, 9] (fun u i wr => ∃ k : Nat, k ≤ s ∧ i = .int .i64 ((k : Int) - 1) ∧ (∃ uu : Nat, u = .int .u64 uu ∧ Hid (uu = leV (piece la (p + k) (s - k)))) ∧ Below w.heap.size w wr) (fun _ i _ => (intOf i + 1).toNat)
  case atStart => exact ⟨s, by omega, rfl, ⟨0, rfl, by simp [Hid, piece, leV]⟩, Below.refl _ _⟩
  case round =>
    obtain ⟨k, hk, rfl, ⟨uu, rfl, HU⟩, hbel⟩ := hrel
    by_cases hlt : 0 < k
    · obtain ⟨k, rfl⟩ : ∃ j, k = j + 1 := ⟨k - 1, by omega⟩
      obtain ⟨b, o, x, rfl, hb, hx, hcx⟩ := (ha.keep hbel (Nat.le_refl _)).byte (k := p + k) (by omega)
      have HX := Lib.hid hx
      clear hx
      have hki : ((k + 1 : Nat) : Int) - 1 = (k : Int) := by omega
      rw [hki]
      go_wp2
      go_roundw
      case rel =>
        refine ⟨k, by omega, rfl, ⟨x.toNat + 256 * uu, ?_, ?_⟩, hbel⟩
        · have h1 := leV_lt (piece la (p + (k + 1)) (s - (k + 1)))
          rw [piece_length (by rw [HL.out]; omega), ← HU.out] at h1
          rw [add_byte uu x.toNat (Nat.lt_of_lt_of_le h1 (pow_small (show k < s from by omega) (by omega))) x.toNat_lt]
        · show _ = _
          rw [show s - k = (s - (k + 1)) + 1 from by omega, piece_cons HX.out, leV, HU.out]
          rfl
      case measure => simp [intOf] <;> omega
    · obtain rfl : k = 0 := by omega
      have HU2 : Hid (uu = leV (piece la p s)) := HU.out
      clear HU
      go_wp2
      go_ret2
      refine ⟨ret_take ?_, hbel⟩
      have h2 := HU2.out
      omega
set_option maxHeartbeats 400000 in
set_option maxRecDepth 100000 in
theorem takeNoRef (w : World) (a : Option Addr) (n ca : Nat) (p : Int) (s : Nat) (hn : n ≤ 140737488355328) (hp : p < 0 ∨ (n : Int) - s < p) (hs : s ≤ 8) (hp1 : -9223372036854775808 ≤ p) (hp2 : p ≤ 9223372036854775807) :
    Calls Try.prog 23 #[.slice a n ca, .int .i64 p, .int .i64 s] w fun e w' => e = .returned (.tuple #[.int .u64 0, .int .i64 6]) ∧ Below w.heap.size w w' := by
  by_cases h0 : p < 0
  · clear hp
    go_enter Try.func23, Try.ntmps23
    go_wp2
    go_ret2
    exact ⟨rfl, Below.refl _ _⟩
  · have hp0 : (n : Int) - s < p := by omega
    clear hp
    by_cases h1 : (n : Int) < p
    · go_enter Try.func23, Try.ntmps23
      go_wp2
      go_ret2
      exact ⟨rfl, Below.refl _ _⟩
    · have h2 : (n : Int) - p < s := by omega
      go_enter Try.func23, Try.ntmps23
      go_wp2
      go_ret2
      exact ⟨rfl, Below.refl _ _⟩
set_option maxHeartbeats 400000 in
theorem putRef (w : World) (a : Option Addr) (n ca : Nat) (la : List UInt8) (v s : Nat) (ha : Reads w a n (la.map B8)) (h1 : n ≤ ca) (h2 : ca ≤ maxLen) (hn : n ≤ 140737488355320) (hv : v < 18446744073709551616) (hs : s ≤ 8) :
    Calls Try.prog 15 #[.slice a n ca, .int .u64 v, .int .i64 s] w fun e w' => ∃ r, e = .returned r ∧ w'.ownsRow w.heap.size 5 1 r (n + s) ((la ++ leB v s).map B8) ∧ Below w.heap.size w w' := by
  have HV := Lib.hid hv
  clear hv
  go_enter Try.func15, Try.ntmps15
  go_wp2_with fail
  refine (little _ _ _ HV.out hs).mono ?_
  rintro e w1 ⟨r, rfl, hown, hb1⟩
  obtain ⟨a2, c2, rfl, hr2, hc2, hm2⟩ := reads_of_own hown
  go_wp2_with fail
  refine (two _ _ _ _ _ _ _ _ _ (ha.keep hb1 (Nat.le_refl _)) hr2 h1 h2 hc2 hm2 (by omega)).mono ?_
  rintro e w2 ⟨r, rfl, hown2, hb2⟩
  have hs1 := hb1.size
  go_wp2
  go_ret
  exact ⟨_, rfl, own_mono hown2 hs1, hb1.trans (hb2.mono hs1)⟩
/-- so many bits of a number as so many bytes have -/
def cutN (v s : Nat) : Nat := v % 256 ^ s
end Go.Proofs.Ytgcgbpehedkckaa
