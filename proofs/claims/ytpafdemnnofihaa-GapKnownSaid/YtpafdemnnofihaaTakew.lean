/- Take at its four kinds, and the reference's. -/
import Derived.Test.YtpafdemnnofihaaTwo
import Derived.Test.YtpafdemnnofihaaSizew
namespace Go.Proofs.Ytpafdemnnofihaa
open Go.RowKit
/-- the number that bytes are, the lowest first -/
def leV : List UInt8 → Nat
  | [] => 0
  | x :: l => x.toNat + 256 * leV l
theorem leV_lt (l : List UInt8) : leV l < 256 ^ l.length := by
  induction l with
  | nil => simp [leV]
  | cons x l ih =>
    have := x.toNat_lt
    simp only [leV, List.length_cons, Nat.pow_succ]
    omega
def piece (l : List UInt8) (i n : Nat) : List UInt8 := (l.drop i).take n
theorem piece_cons {l : List UInt8} {i n : Nat} {x : UInt8} (h : l[i]? = some x) : piece l i (n + 1) = x :: piece l (i + 1) n := by
  have hl := lt_of_at h
  have hx : l[i] = x := by simpa [List.getElem?_eq_getElem hl] using h
  unfold piece
  rw [List.drop_eq_getElem_cons hl, hx, List.take_succ_cons]
theorem piece_length {l : List UInt8} {i n : Nat} (h : i + n ≤ l.length) : (piece l i n).length = n := by simp [piece]; omega
theorem or_byte (u x : Nat) (hu : u < 72057594037927936) (hx : x < 256) : bits .or .u64 (IntKind.u64.wrap ((u : Int) * 256)) (IntKind.u64.wrap (x : Int)) = ((x + 256 * u : Nat) : Int) := by
  rw [IntWalk.u64_in _ (by omega), IntWalk.u64_in _ (by omega)]
  have h := u64_or_nat (u * 256) x (by omega) (by omega)
  rw [show ((u : Int) * 256) = ((u * 256 : Nat) : Int) from by omega, h, nat_join 8 (u * 256) x (by omega) (by omega)]
  omega
theorem add_byte (u x : Nat) (hu : u < 72057594037927936) (hx : x < 256) : IntKind.u64.wrap (IntKind.u64.wrap ((u : Int) * 256) + IntKind.u64.wrap (x : Int)) = ((x + 256 * u : Nat) : Int) := by
  rw [IntWalk.u64_in ((u : Int) * 256) (by omega), IntWalk.u64_in (x : Int) (by omega), IntWalk.u64_in _ (by omega)]
  omega
theorem pow_small {k n : Nat} (h : k < n) (hn : n ≤ 8) : 256 ^ (n - (k + 1)) ≤ 72057594037927936 :=
  Nat.le_trans (Nat.pow_le_pow_right (by decide) (show n - (k + 1) ≤ 7 from by omega)) (by decide)
theorem ret_take {k k' : IntKind} {a b c : Int} (h : a = b) : Ending.returned (.tuple #[.int k a, .int k' c]) = Ending.returned (.tuple #[.int k b, .int k' c]) := by rw [h]
set_option maxHeartbeats 400000 in
set_option maxRecDepth 100000 in
theorem take16 (w : World) (a : Option Addr) (n ca : Nat) (la : List UInt8) (p : Nat) (ha : Reads w a n (la.map B8)) (hn : n ≤ 140737488355328) (hp : p + 2 ≤ n) :
    Calls Try.prog 30 #[.slice a n ca, .int .i64 p] w fun e w' => e = .returned (.tuple #[.int .u16 (leV (piece la p 2)), .int .i64 0]) ∧ Below w.heap.size w w' := by
  have hla := ha.len
  rw [List.length_map] at hla
  have HL := Lib.hid hla
  clear hla
  go_enter Try.func30, Try.ntmps30
  go_wp2_with (go_at_call 42; refine (size16 _).mono ?_; rintro e w' ⟨rfl, rfl⟩)
  go_loopw [7, 8] (fun u i wr => ∃ k : Nat, k ≤ 2 ∧ i = .int .i64 ((k : Int) - 1) ∧ (∃ uu : Nat, u = .int .u64 uu ∧ Hid (uu = leV (piece la (p + k) (2 - k)))) ∧ Below w.heap.size w wr) (fun _ i _ => (intOf i + 1).toNat)
  case atStart => exact ⟨2, by omega, rfl, ⟨0, rfl, by simp [Hid, piece, leV]⟩, Below.refl _ _⟩
  case round =>
    obtain ⟨k, hk, rfl, ⟨uu, rfl, HU⟩, hbel⟩ := hrel
    by_cases hlt : 0 < k
    · obtain ⟨k, rfl⟩ : ∃ j, k = j + 1 := ⟨k - 1, by omega⟩
      obtain ⟨b, o, x, rfl, hb, hx, hcx⟩ := (ha.keep hbel (Nat.le_refl _)).byte (k := p + k) (by omega)
      have HX := Lib.hid hx
      clear hx
      have hki : ((k + 1 : Nat) : Int) - 1 = (k : Int) := by omega
      rw [hki]
      go_wp2
      go_roundw
      case rel =>
        refine ⟨k, by omega, rfl, ⟨x.toNat + 256 * uu, ?_, ?_⟩, hbel⟩
        · have h1 := leV_lt (piece la (p + (k + 1)) (2 - (k + 1)))
          rw [piece_length (by rw [HL.out]; omega), ← HU.out] at h1
          rw [or_byte uu x.toNat (Nat.lt_of_lt_of_le h1 (pow_small (show k < 2 from by omega) (by omega))) x.toNat_lt]
        · show _ = _
          rw [show 2 - k = (2 - (k + 1)) + 1 from by omega, piece_cons HX.out, leV, HU.out]
          rfl
      case measure => simp [intOf] <;> omega
    · obtain rfl : k = 0 := by omega
      have hlt2 : uu < 65536 := by
        have h1 := leV_lt (piece la (p + 0) (2 - 0))
        rw [piece_length (by rw [HL.out]; omega), ← HU.out] at h1
        simpa using h1
      have HU2 : Hid (uu = leV (piece la p 2)) := HU.out
      have HLT := Lib.hid hlt2
      clear hlt2 HU
      go_wp2
      go_ret2
      refine ⟨ret_take ?_, hbel⟩
      have h1 := HLT.out
      have h2 := HU2.out
      rw [IntKind.wrap_u16]; omega
set_option maxHeartbeats 400000 in
set_option maxRecDepth 100000 in
theorem takeNo16 (w : World) (a : Option Addr) (n ca : Nat) (p : Int) (hn : n ≤ 140737488355328) (hp : p < 0 ∨ (n : Int) - 2 < p) (hp1 : -9223372036854775808 ≤ p) (hp2 : p ≤ 9223372036854775807) :
    Calls Try.prog 30 #[.slice a n ca, .int .i64 p] w fun e w' => e = .returned (.tuple #[.int .u16 0, .int .i64 6]) ∧ Below w.heap.size w w' := by
  by_cases h0 : p < 0
  · clear hp
    go_enter Try.func30, Try.ntmps30
    go_wp2_with (go_at_call 42; refine (size16 _).mono ?_; rintro e w' ⟨rfl, rfl⟩)
    go_ret2
    exact ⟨rfl, Below.refl _ _⟩
  · have hp0 : (n : Int) - 2 < p := by omega
    clear hp
    go_enter Try.func30, Try.ntmps30
    go_wp2_with (go_at_call 42; refine (size16 _).mono ?_; rintro e w' ⟨rfl, rfl⟩)
    go_ret2
    exact ⟨rfl, Below.refl _ _⟩
end Go.Proofs.Ytpafdemnnofihaa
