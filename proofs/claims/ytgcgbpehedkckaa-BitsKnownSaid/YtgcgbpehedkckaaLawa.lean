/- put, take, cut of the law's own text. -/
import Derived.Test.YtgcgbpehedkckaaTaker
namespace Go.Proofs.Ytgcgbpehedkckaa
open Go.RowKit
theorem leB_mod (v s : Nat) : leB (v % 256 ^ s) s = leB v s := by
  unfold leB
  refine List.map_congr_left fun i hi => ?_
  have hi : i < s := List.mem_range.1 hi
  have h : 256 ^ s = 256 ^ i * (256 * 256 ^ (s - (i + 1))) := by
    rw [← Nat.pow_succ', ← Nat.pow_add]; congr 1; omega
  rw [h, Nat.mod_mul_right_div_self]
  apply UInt8.toNat.inj
  simp only [UInt8.toNat_ofNat']
  exact Nat.mod_mul_right_mod _ _ _
theorem leB_mod1 (v : Nat) : leB (v % 256) 1 = leB v 1 := leB_mod v 1
theorem leB_mod2 (v : Nat) : leB (v % 65536) 2 = leB v 2 := leB_mod v 2
theorem leB_mod4 (v : Nat) : leB (v % 4294967296) 4 = leB v 4 := leB_mod v 4
set_option maxHeartbeats 400000 in
set_option maxRecDepth 100000 in
theorem putLaw1 (w : World) (a : Option Addr) (n ca : Nat) (la : List UInt8) (v : Nat) (ha : Reads w a n (la.map B8)) (hn : n ≤ 140737488355320) (hv : v < 18446744073709551616) :
    Calls Try.prog 14 #[.slice a n ca, .int .u64 v, .int .i64 1] w fun e w' => ∃ r, e = .returned r ∧ w'.ownsRow w.heap.size 5 1 r (n + 1) ((la ++ leB v 1).map B8) ∧ Below w.heap.size w w' := by
  have HV := Lib.hid hv
  clear hv
  go_enter Try.func14, Try.ntmps14
  go_wp2_with fail
  rw [show ((v : Int) % 256) = ((v % 256 : Nat) : Int) from by omega]
  refine (put8 _ _ _ _ _ (v % 256) ha hn (Nat.mod_lt _ (by decide))).mono ?_
  rintro e w1 ⟨r, rfl, hown, hb1⟩
  rw [leB_mod1] at hown
  go_wp2
  go_ret
  exact ⟨_, rfl, hown, hb1⟩
set_option maxHeartbeats 400000 in
set_option maxRecDepth 100000 in
theorem putLaw2 (w : World) (a : Option Addr) (n ca : Nat) (la : List UInt8) (v : Nat) (ha : Reads w a n (la.map B8)) (hn : n ≤ 140737488355320) (hv : v < 18446744073709551616) :
    Calls Try.prog 14 #[.slice a n ca, .int .u64 v, .int .i64 2] w fun e w' => ∃ r, e = .returned r ∧ w'.ownsRow w.heap.size 5 1 r (n + 2) ((la ++ leB v 2).map B8) ∧ Below w.heap.size w w' := by
  have HV := Lib.hid hv
  clear hv
  go_enter Try.func14, Try.ntmps14
  go_wp2_with fail
  rw [show (IntKind.u16.wrap (v : Int)) = ((v % 65536 : Nat) : Int) from by rw [IntKind.wrap_u16]; omega]
  refine (put16 _ _ _ _ _ (v % 65536) ha hn (Nat.mod_lt _ (by decide))).mono ?_
  rintro e w1 ⟨r, rfl, hown, hb1⟩
  rw [leB_mod2] at hown
  go_wp2
  go_ret
  exact ⟨_, rfl, hown, hb1⟩
set_option maxHeartbeats 400000 in
set_option maxRecDepth 100000 in
theorem putLaw4 (w : World) (a : Option Addr) (n ca : Nat) (la : List UInt8) (v : Nat) (ha : Reads w a n (la.map B8)) (hn : n ≤ 140737488355320) (hv : v < 18446744073709551616) :
    Calls Try.prog 14 #[.slice a n ca, .int .u64 v, .int .i64 4] w fun e w' => ∃ r, e = .returned r ∧ w'.ownsRow w.heap.size 5 1 r (n + 4) ((la ++ leB v 4).map B8) ∧ Below w.heap.size w w' := by
  have HV := Lib.hid hv
  clear hv
  go_enter Try.func14, Try.ntmps14
  go_wp2_with fail
  rw [show ((v : Int) % 4294967296) = ((v % 4294967296 : Nat) : Int) from by omega]
  refine (put32 _ _ _ _ _ (v % 4294967296) ha hn (Nat.mod_lt _ (by decide))).mono ?_
  rintro e w1 ⟨r, rfl, hown, hb1⟩
  rw [leB_mod4] at hown
  go_wp2
  go_ret
  exact ⟨_, rfl, hown, hb1⟩
set_option maxHeartbeats 400000 in
set_option maxRecDepth 100000 in
theorem putLaw8 (w : World) (a : Option Addr) (n ca : Nat) (la : List UInt8) (v : Nat) (ha : Reads w a n (la.map B8)) (hn : n ≤ 140737488355320) (hv : v < 18446744073709551616) :
    Calls Try.prog 14 #[.slice a n ca, .int .u64 v, .int .i64 8] w fun e w' => ∃ r, e = .returned r ∧ w'.ownsRow w.heap.size 5 1 r (n + 8) ((la ++ leB v 8).map B8) ∧ Below w.heap.size w w' := by
  have HV := Lib.hid hv
  clear hv
  go_enter Try.func14, Try.ntmps14
  go_wp2_with fail
  refine (put64 _ _ _ _ _ v ha hn HV.out).mono ?_
  rintro e w1 ⟨r, rfl, hown, hb1⟩
  skip
  go_wp2
  go_ret
  exact ⟨_, rfl, hown, hb1⟩
set_option maxHeartbeats 400000 in
set_option maxRecDepth 100000 in
theorem takeLaw1 (w : World) (a : Option Addr) (n ca : Nat) (la : List UInt8) (p : Nat) (ha : Reads w a n (la.map B8)) (hn : n ≤ 140737488355328) (hp : p + 1 ≤ n) :
    Calls Try.prog 22 #[.slice a n ca, .int .i64 p, .int .i64 1] w fun e w' => e = .returned (.tuple #[.int .u64 (leV (piece la p 1)), .int .i64 0]) ∧ Below w.heap.size w w' := by
  have hla := ha.len
  rw [List.length_map] at hla
  have h1 := leV_lt (piece la p 1)
  rw [piece_length (by omega)] at h1
  have HV : Hid (leV (piece la p 1) < 256 ^ 1) := h1
  clear h1 hla
  obtain ⟨x, hx⟩ : ∃ x, x = leV (piece la p 1) := ⟨_, rfl⟩
  have HX := Lib.hid hx
  have hc := (take8 w a n ca la p ha hn hp)
  rw [← hx] at hc ⊢
  rw [← hx] at HV
  clear hx
  have HC := Lib.hid hc
  clear hc
  skip
  go_enter Try.func22, Try.ntmps22
  go_wp2_with (go_at_call 48; refine HC.out.mono ?_; rintro e w' ⟨rfl, hb⟩)
  go_ret2
  refine ⟨ret_take ?_, hb⟩
  have h := HV.out
  first | (simp [IntKind.wrap, IntKind.bits, IntKind.signed]; omega) | omega
set_option maxHeartbeats 400000 in
set_option maxRecDepth 100000 in
theorem takeNoLaw1 (w : World) (a : Option Addr) (n ca : Nat) (p : Int) (hn : n ≤ 140737488355328) (hp : p < 0 ∨ (n : Int) - 1 < p) (hp1 : -9223372036854775808 ≤ p) (hp2 : p ≤ 9223372036854775807) :
    Calls Try.prog 22 #[.slice a n ca, .int .i64 p, .int .i64 1] w fun e w' => e = .returned (.tuple #[.int .u64 0, .int .i64 6]) ∧ Below w.heap.size w w' := by
  have HC := Lib.hid (takeNo8 w a n ca p hn hp hp1 hp2)
  clear hp hp1 hp2
  go_enter Try.func22, Try.ntmps22
  go_wp2_with (go_at_call 48; refine HC.out.mono ?_; rintro e w' ⟨rfl, hb⟩)
  go_ret2
  exact ⟨rfl, hb⟩
set_option maxHeartbeats 400000 in
set_option maxRecDepth 100000 in
theorem takeLaw2 (w : World) (a : Option Addr) (n ca : Nat) (la : List UInt8) (p : Nat) (ha : Reads w a n (la.map B8)) (hn : n ≤ 140737488355328) (hp : p + 2 ≤ n) :
    Calls Try.prog 22 #[.slice a n ca, .int .i64 p, .int .i64 2] w fun e w' => e = .returned (.tuple #[.int .u64 (leV (piece la p 2)), .int .i64 0]) ∧ Below w.heap.size w w' := by
  have hla := ha.len
  rw [List.length_map] at hla
  have h1 := leV_lt (piece la p 2)
  rw [piece_length (by omega)] at h1
  have HV : Hid (leV (piece la p 2) < 256 ^ 2) := h1
  clear h1 hla
  obtain ⟨x, hx⟩ : ∃ x, x = leV (piece la p 2) := ⟨_, rfl⟩
  have HX := Lib.hid hx
  have hc := (take16 w a n ca la p ha hn hp)
  rw [← hx] at hc ⊢
  rw [← hx] at HV
  clear hx
  have HC := Lib.hid hc
  clear hc
  skip
  go_enter Try.func22, Try.ntmps22
  go_wp2_with (go_at_call 47; refine HC.out.mono ?_; rintro e w' ⟨rfl, hb⟩)
  go_ret2
  refine ⟨ret_take ?_, hb⟩
  have h := HV.out
  first | (simp [IntKind.wrap, IntKind.bits, IntKind.signed]; omega) | omega
set_option maxHeartbeats 400000 in
set_option maxRecDepth 100000 in
theorem takeNoLaw2 (w : World) (a : Option Addr) (n ca : Nat) (p : Int) (hn : n ≤ 140737488355328) (hp : p < 0 ∨ (n : Int) - 2 < p) (hp1 : -9223372036854775808 ≤ p) (hp2 : p ≤ 9223372036854775807) :
    Calls Try.prog 22 #[.slice a n ca, .int .i64 p, .int .i64 2] w fun e w' => e = .returned (.tuple #[.int .u64 0, .int .i64 6]) ∧ Below w.heap.size w w' := by
  have HC := Lib.hid (takeNo16 w a n ca p hn hp hp1 hp2)
  clear hp hp1 hp2
  go_enter Try.func22, Try.ntmps22
  go_wp2_with (go_at_call 47; refine HC.out.mono ?_; rintro e w' ⟨rfl, hb⟩)
  go_ret2
  exact ⟨rfl, hb⟩
set_option maxHeartbeats 400000 in
set_option maxRecDepth 100000 in
theorem takeLaw4 (w : World) (a : Option Addr) (n ca : Nat) (la : List UInt8) (p : Nat) (ha : Reads w a n (la.map B8)) (hn : n ≤ 140737488355328) (hp : p + 4 ≤ n) :
    Calls Try.prog 22 #[.slice a n ca, .int .i64 p, .int .i64 4] w fun e w' => e = .returned (.tuple #[.int .u64 (leV (piece la p 4)), .int .i64 0]) ∧ Below w.heap.size w w' := by
  have hla := ha.len
  rw [List.length_map] at hla
  have h1 := leV_lt (piece la p 4)
  rw [piece_length (by omega)] at h1
  have HV : Hid (leV (piece la p 4) < 256 ^ 4) := h1
  clear h1 hla
  obtain ⟨x, hx⟩ : ∃ x, x = leV (piece la p 4) := ⟨_, rfl⟩
  have HX := Lib.hid hx
  have hc := (take32 w a n ca la p ha hn hp)
  rw [← hx] at hc ⊢
  rw [← hx] at HV
  clear hx
  have HC := Lib.hid hc
  clear hc
  skip
  go_enter Try.func22, Try.ntmps22
  go_wp2_with (go_at_call 49; refine HC.out.mono ?_; rintro e w' ⟨rfl, hb⟩)
  go_ret2
  refine ⟨ret_take ?_, hb⟩
  have h := HV.out
  first | (simp [IntKind.wrap, IntKind.bits, IntKind.signed]; omega) | omega
set_option maxHeartbeats 400000 in
set_option maxRecDepth 100000 in
theorem takeNoLaw4 (w : World) (a : Option Addr) (n ca : Nat) (p : Int) (hn : n ≤ 140737488355328) (hp : p < 0 ∨ (n : Int) - 4 < p) (hp1 : -9223372036854775808 ≤ p) (hp2 : p ≤ 9223372036854775807) :
    Calls Try.prog 22 #[.slice a n ca, .int .i64 p, .int .i64 4] w fun e w' => e = .returned (.tuple #[.int .u64 0, .int .i64 6]) ∧ Below w.heap.size w w' := by
  have HC := Lib.hid (takeNo32 w a n ca p hn hp hp1 hp2)
  clear hp hp1 hp2
  go_enter Try.func22, Try.ntmps22
  go_wp2_with (go_at_call 49; refine HC.out.mono ?_; rintro e w' ⟨rfl, hb⟩)
  go_ret2
  exact ⟨rfl, hb⟩
set_option maxHeartbeats 400000 in
set_option maxRecDepth 100000 in
theorem takeLaw8 (w : World) (a : Option Addr) (n ca : Nat) (la : List UInt8) (p : Nat) (ha : Reads w a n (la.map B8)) (hn : n ≤ 140737488355328) (hp : p + 8 ≤ n) :
    Calls Try.prog 22 #[.slice a n ca, .int .i64 p, .int .i64 8] w fun e w' => e = .returned (.tuple #[.int .u64 (leV (piece la p 8)), .int .i64 0]) ∧ Below w.heap.size w w' := by
  have hla := ha.len
  rw [List.length_map] at hla
  have h1 := leV_lt (piece la p 8)
  rw [piece_length (by omega)] at h1
  have HV : Hid (leV (piece la p 8) < 256 ^ 8) := h1
  clear h1 hla
  obtain ⟨x, hx⟩ : ∃ x, x = leV (piece la p 8) := ⟨_, rfl⟩
  have HX := Lib.hid hx
  have hc := (take64 w a n ca la p ha hn hp)
  rw [← hx] at hc ⊢
  rw [← hx] at HV
  clear hx
  have HC := Lib.hid hc
  clear hc
  skip
  go_enter Try.func22, Try.ntmps22
  go_wp2_with (go_at_call 50; refine HC.out.mono ?_; rintro e w' ⟨rfl, hb⟩)
  go_ret2
  refine ⟨ret_take ?_, hb⟩
  have h := HV.out
  first | (simp [IntKind.wrap, IntKind.bits, IntKind.signed]; omega) | omega
set_option maxHeartbeats 400000 in
set_option maxRecDepth 100000 in
theorem takeNoLaw8 (w : World) (a : Option Addr) (n ca : Nat) (p : Int) (hn : n ≤ 140737488355328) (hp : p < 0 ∨ (n : Int) - 8 < p) (hp1 : -9223372036854775808 ≤ p) (hp2 : p ≤ 9223372036854775807) :
    Calls Try.prog 22 #[.slice a n ca, .int .i64 p, .int .i64 8] w fun e w' => e = .returned (.tuple #[.int .u64 0, .int .i64 6]) ∧ Below w.heap.size w w' := by
  have HC := Lib.hid (takeNo64 w a n ca p hn hp hp1 hp2)
  clear hp hp1 hp2
  go_enter Try.func22, Try.ntmps22
  go_wp2_with (go_at_call 50; refine HC.out.mono ?_; rintro e w' ⟨rfl, hb⟩)
  go_ret2
  exact ⟨rfl, hb⟩
set_option maxHeartbeats 400000 in
set_option maxRecDepth 100000 in
theorem cutLaw1 (v : Nat) (w : World) (hv : v < 18446744073709551616) :
    Calls Try.prog 16 #[.int .u64 v, .int .i64 1] w fun e w' => e = .returned (.int .u64 (v % 256 : Nat)) ∧ w = w' := by
  have HV := Lib.hid hv
  clear hv
  go_enter Try.func16, Try.ntmps16
  go_wp2
  go_ret
  exact ⟨by first | rfl | simp, rfl⟩
set_option maxHeartbeats 400000 in
set_option maxRecDepth 100000 in
theorem cutLaw2 (v : Nat) (w : World) (hv : v < 18446744073709551616) :
    Calls Try.prog 16 #[.int .u64 v, .int .i64 2] w fun e w' => e = .returned (.int .u64 (v % 65536 : Nat)) ∧ w = w' := by
  have HV := Lib.hid hv
  clear hv
  go_enter Try.func16, Try.ntmps16
  go_wp2
  go_ret
  exact ⟨by first | rfl | simp, rfl⟩
set_option maxHeartbeats 400000 in
set_option maxRecDepth 100000 in
theorem cutLaw4 (v : Nat) (w : World) (hv : v < 18446744073709551616) :
    Calls Try.prog 16 #[.int .u64 v, .int .i64 4] w fun e w' => e = .returned (.int .u64 (v % 4294967296 : Nat)) ∧ w = w' := by
  have HV := Lib.hid hv
  clear hv
  go_enter Try.func16, Try.ntmps16
  go_wp2
  go_ret
  exact ⟨by first | rfl | simp, rfl⟩
set_option maxHeartbeats 400000 in
set_option maxRecDepth 100000 in
theorem cutLaw8 (v : Nat) (w : World) (hv : v < 18446744073709551616) :
    Calls Try.prog 16 #[.int .u64 v, .int .i64 8] w fun e w' => e = .returned (.int .u64 (v : Nat)) ∧ w = w' := by
  have HV := Lib.hid hv
  clear hv
  go_enter Try.func16, Try.ntmps16
  go_wp2
  go_ret
  exact ⟨by first | rfl | simp, rfl⟩
end Go.Proofs.Ytgcgbpehedkckaa
