/- Two, Little. -/
import Derived.Test.YtpafdemnnofihaaJoin
namespace Go.Proofs.Ytpafdemnnofihaa
open Go.RowKit
theorem rows2 (w : World) (e : TypeId) (a b : Option Addr) (la lb : List UInt8) (ca cb : Nat) (ha : Reads w a la.length (la.map B8)) (hb : Reads w b lb.length (lb.map B8)) (h1 : la.length ≤ ca) (h2 : ca ≤ maxLen) (h3 : lb.length ≤ cb) (h4 : cb ≤ maxLen) :
    ReadsRows (w.alloc (.cells #[.slice a la.length ca, .slice b lb.length cb] e)) (some ⟨w.heap.size, 0, none⟩) 2 [la, lb] := by
  have hw : Below w.heap.size w (w.alloc (.cells #[.slice a la.length ca, .slice b lb.length cb] e)) := (Below.refl _ _).alloc (Nat.le_refl _) _
  refine ⟨[.slice a la.length ca, .slice b lb.length cb], ⟨rfl, fun _ => ⟨_, 0, rfl, by simp, fun j hj => ?_⟩⟩, rfl, ?_⟩
  · rw [Nat.zero_add]
    exact cell_new w [.slice a la.length ca, .slice b lb.length cb] e j
  · intro i v l hv hl
    match i, hv, hl with
    | 0, hv, hl => simp at hv hl; subst hv; subst hl; exact ⟨a, ca, rfl, ha.keep hw (Nat.le_refl _), h1, h2⟩
    | 1, hv, hl => simp at hv hl; subst hv; subst hl; exact ⟨b, cb, rfl, hb.keep hw (Nat.le_refl _), h3, h4⟩
set_option maxHeartbeats 400000 in
theorem two (w : World) (a b : Option Addr) (n m ca cb : Nat) (la lb : List UInt8) (ha : Reads w a n (la.map B8)) (hb : Reads w b m (lb.map B8)) (h1 : n ≤ ca) (h2 : ca ≤ maxLen) (h3 : m ≤ cb) (h4 : cb ≤ maxLen) (hsum : n + m ≤ 140737488355328) :
    Calls Try.prog 28 #[.slice a n ca, .slice b m cb] w fun e w' => ∃ v, e = .returned v ∧ w'.ownsRow w.heap.size 5 1 v (n + m) ((la ++ lb).map B8) ∧ Below w.heap.size w w' := by
  have hla := ha.len
  have hlb := hb.len
  rw [List.length_map] at hla hlb
  subst hla
  subst hlb
  have hr := rows2 w 22 a b la lb ca cb ha hb h1 h2 h3 h4
  go_enter Try.func28, Try.ntmps28
  go_wp2_with (go_at_call 41; refine (join _ _ _ _ _ hr (by decide) (by simpa using hsum)).mono ?_; rintro e w' ⟨v, rfl, hown, hbel⟩)
  go_ret
  exact ⟨_, rfl, by simpa using own_mono hown (by simp), below_past hbel⟩
theorem mul8 (n k : Nat) (h : n ≤ 8) (hk : k < n) : IntKind.i64.wrap (8 * (k : Int)) = 8 * (k : Int) := IntWalk.i64_in _ (by omega)
/-- the bytes of a number, the lowest first -/
def leB (v : Nat) (n : Nat) : List UInt8 := (List.range n).map fun i => UInt8.ofNat (v / 256 ^ i)
theorem byte_of (v k : Nat) : Value.int .u8 ((v : Int) / 2 ^ (8 * k) % 256) = B8 (UInt8.ofNat (v / 256 ^ k)) := by
  have h : ((v : Int) / 2 ^ (8 * k) % 256) = ((UInt8.ofNat (v / 256 ^ k)).toNat : Int) := by
    rw [UInt8.toNat_ofNat']
    have h2 : (256 : Nat) ^ k = 2 ^ (8 * k) := (Nat.pow_mul 2 8 k).symm
    rw [h2]
    simp
  rw [B8, h]
theorem leB_next (v k : Nat) : (leB v k).map B8 ++ [Value.int .u8 ((v : Int) / 2 ^ (8 * k) % 256)] = (leB v (k + 1)).map B8 := by
  rw [byte_of]
  simp [leB, List.range_succ]
set_option maxHeartbeats 400000 in
theorem little (w : World) (v : Nat) (n : Nat) (hv : v < 18446744073709551616) (hn : n ≤ 8) :
    Calls Try.prog 43 #[.int .u64 v, .int .i64 n] w fun e w' => ∃ r, e = .returned r ∧ w'.ownsRow w.heap.size 5 1 r n ((leB v n).map B8) ∧ Below w.heap.size w w' := by
  obtain ⟨i0, hi, hz0, hz1, hz2⟩ := info_parts Try.infoU8
  go_enter Try.func43, Try.ntmps43
  go_wp2
  go_loopw [5, 6] (fun r i wr => ∃ k : Nat, k ≤ n ∧ i = .int .i64 k ∧ wr.ownsRow w.heap.size 5 1 r k ((leB v k).map B8) ∧ Below w.heap.size w wr) (fun _ i _ => n - (intOf i).toNat)
  case atStart => exact ⟨0, Nat.zero_le _, rfl, by simpa [leB] using World.ownsRow_nil _ _ _ _, Below.refl _ _⟩
  case round =>
    obtain ⟨k, hk, rfl, hown, hbel⟩ := hrel
    by_cases hlt : k < n
    · have hsz := hbel.size
      go_wp2_with (at_builtin; refine wpList_append_own _ rfl _ _ 22 rfl w.heap.size 5 i0 (.int .u8 0) 1 1 Try.underlying22 hi hz0 hz1 hz2 rfl (by decide) _ _ _ rfl (hown.alloc _) ⟨wr.heap.size, 0, none⟩ 1 1 [.int .u8 ((v : Int) / 2 ^ (8 * k) % 256)] rfl rfl (cell_one_new _ _ _) (by simp [Value.oneCell']) (by unfold maxLen; omega) (by omega) (by simp; omega) ?_; intro v' w2 hown2 hgrow2 _)
      rw [leB_next v k] at hown2
      have hb2 := below_append hbel (by omega) hown hgrow2
      clear hgrow2
      go_roundw
      case rel => exact ⟨k + 1, by omega, by go_num, hown2, hb2⟩
      case measure => simp [intOf]; omega
    · obtain rfl : k = n := by omega
      obtain ⟨a2, c2, rfl, hr, _, _⟩ := reads_of_own hown
      go_wp2
      go_ret
      exact ⟨_, rfl, hown, hbel⟩
end Go.Proofs.Ytpafdemnnofihaa
