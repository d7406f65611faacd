/- A burst of up to 32 bits is told by the register. -/
import Derived.Test.YtgcgbpehedkckaaCrc
namespace Go.Proofs.Ytgcgbpehedkckaa
open Go.RowKit
theorem crcStep_xor (a b : Nat) : crcStep (a ^^^ b) = crcStep a ^^^ crcStep b := by
  unfold crcStep
  have h1 : (a ^^^ b) / 2 = a / 2 ^^^ b / 2 := by
    have := Nat.shiftRight_xor_distrib (a := a) (b := b) (i := 1)
    simpa [Nat.shiftRight_eq_div_pow] using this
  have h2 : (a ^^^ b) % 2 = (a % 2) ^^^ (b % 2) := by
    have := Nat.xor_mod_two_pow (a := a) (b := b) (n := 1)
    simpa using this
  have h3 : 2197175160 * ((a ^^^ b) % 2) = (2197175160 * (a % 2)) ^^^ (2197175160 * (b % 2)) := by
    rw [h2]
    rcases Nat.mod_two_eq_zero_or_one a with e | e <;> rcases Nat.mod_two_eq_zero_or_one b with f | f <;> rw [e, f] <;> decide
  rw [h1, h3]
  generalize a / 2 = x, b / 2 = y, 2197175160 * (a % 2) = u, 2197175160 * (b % 2) = t
  rw [Nat.xor_assoc, Nat.xor_assoc, ← Nat.xor_assoc y u t, Nat.xor_comm y u, Nat.xor_assoc u y t]
theorem crcBits_xor (n a b : Nat) : crcBits n (a ^^^ b) = crcBits n a ^^^ crcBits n b := by
  induction n with
  | zero => rfl
  | succ n ih => rw [crcBits, ih, crcStep_xor]; rfl
theorem crcBits_add (m n a : Nat) : crcBits (m + n) a = crcBits m (crcBits n a) := by
  induction m with
  | zero => rw [Nat.zero_add]; rfl
  | succ m ih => rw [Nat.succ_add, crcBits, ih]; rfl
theorem crcStep_eq_zero {r : Nat} (h : r < 4294967296) (h0 : crcStep r = 0) : r = 0 := by
  unfold crcStep at h0
  rcases Nat.mod_two_eq_zero_or_one r with e | e
  · rw [e, Nat.mul_zero, Nat.xor_zero] at h0
    omega
  · rw [e, Nat.mul_one] at h0
    have hz : r / 2 = 2197175160 := by
      have h := congrArg (· ^^^ 2197175160) h0
      simpa [Nat.xor_assoc] using h
    omega
theorem crcBits_ne {n r : Nat} (h : r < 4294967296) (h0 : crcBits n r = 0) : r = 0 := by
  induction n with
  | zero => exact h0
  | succ n ih => exact ih (crcStep_eq_zero (crcBits_lt h n) h0)
theorem crcStep_double (r : Nat) : crcStep (2 * r) = r := by
  unfold crcStep
  rw [Nat.mul_div_cancel_left _ (by decide), Nat.mul_mod_right, Nat.mul_zero, Nat.xor_zero]
theorem crcBits_pow (k : Nat) : crcBits k (2 ^ k) = 1 := by
  have key : ∀ k r, crcBits k (2 ^ k * r) = r := by
    intro k
    induction k with
    | zero => intro r; simp [crcBits]
    | succ k ih => intro r; rw [crcBits, Nat.pow_succ, Nat.mul_assoc, ih, crcStep_double]
  have := key k 1
  rwa [Nat.mul_one] at this
/-- one bit of a register, so many turns on -/
theorem crcBits_bit {m k : Nat} (h : k ≤ m) : crcBits m (2 ^ k) = crcBits (m - k) 1 := by
  conv => lhs; rw [show m = (m - k) + k from by omega, crcBits_add, crcBits_pow]
theorem crcReg_xor (l : List UInt8) (r d : Nat) : crcReg (r ^^^ d) l = crcReg r l ^^^ crcBits (8 * l.length) d := by
  induction l generalizing r d with
  | nil => rfl
  | cons x l ih =>
    have e : crcByte (r ^^^ d) x = crcByte r x ^^^ crcBits 8 d := by
      unfold crcByte
      rw [← crcBits_xor, Nat.xor_assoc, Nat.xor_comm d, ← Nat.xor_assoc]
    show crcReg (crcByte (r ^^^ d) x) l = crcReg (crcByte r x) l ^^^ _
    rw [e, ih, ← crcBits_add, List.length_cons]
    congr 2
theorem crcReg_append (r : Nat) (a b : List UInt8) : crcReg r (a ++ b) = crcReg (crcReg r a) b := by
  unfold crcReg; rw [List.foldl_append]
/-- one bit of bytes turned over -/
def flipB (x : UInt8) (t : Nat) : UInt8 := x ^^^ UInt8.ofNat (2 ^ t)
def flipL (l : List UInt8) (p : Nat) : List UInt8 := l.set (p / 8) (flipB (l[p / 8]?.getD 0) (p % 8))
theorem flipL_len (l : List UInt8) (p : Nat) : (flipL l p).length = l.length := by simp [flipL]
theorem crcReg_flip (r : Nat) (l : List UInt8) (p : Nat) (hp : p < 8 * l.length) : crcReg r (flipL l p) = crcReg r l ^^^ crcBits (8 * l.length - p) 1 := by
  have hq : p / 8 < l.length := by omega
  obtain ⟨q, hqe⟩ : ∃ q, q = p / 8 := ⟨_, rfl⟩
  obtain ⟨t, hte⟩ : ∃ t, t = p % 8 := ⟨_, rfl⟩
  have hpe : p = 8 * q + t := by omega
  have ht : t < 8 := by omega
  rw [← hqe] at hq
  have hs : l = l.take q ++ l[q] :: l.drop (q + 1) := by rw [List.getElem_cons_drop, List.take_append_drop]
  have hf : flipL l p = l.take q ++ flipB l[q] t :: l.drop (q + 1) := by
    rw [flipL, ← hqe, ← hte, List.getElem?_eq_getElem hq, Option.getD_some, List.set_eq_take_append_cons_drop, if_pos hq]
  have hx : (flipB l[q] t).toNat = l[q].toNat ^^^ 2 ^ t := by
    rw [flipB, UInt8.toNat_xor, UInt8.toNat_ofNat']
    rcases (show t = 0 ∨ t = 1 ∨ t = 2 ∨ t = 3 ∨ t = 4 ∨ t = 5 ∨ t = 6 ∨ t = 7 by omega) with rfl | rfl | rfl | rfl | rfl | rfl | rfl | rfl <;> rfl
  have hlen : (l.drop (q + 1)).length = l.length - (q + 1) := List.length_drop
  have e1 : crcReg r l = crcReg (crcByte (crcReg r (l.take q)) l[q]) (l.drop (q + 1)) := by
    conv => lhs; rw [hs, crcReg_append]
    rfl
  rw [hf, e1, crcReg_append]
  show crcReg (crcByte (crcReg r (l.take q)) (flipB l[q] t)) (l.drop (q + 1)) = _
  have e2 : crcByte (crcReg r (l.take q)) (flipB l[q] t) = crcByte (crcReg r (l.take q)) l[q] ^^^ crcBits 8 (2 ^ t) := by
    unfold crcByte
    rw [hx, ← Nat.xor_assoc, crcBits_xor]
  rw [e2, crcReg_xor, crcBits_bit (by omega), ← crcBits_add, hlen]
  congr 2
  omega
/-- what the walk of a burst keeps: so many bits of the word are turned over -/
def Burst (l c : List UInt8) (p u k : Nat) : Prop :=
  c.length = l.length ∧ (u % 2 ^ k = 0 → c = l) ∧ ∀ r, crcReg r c = crcReg r l ^^^ crcBits (8 * l.length - p) (u % 2 ^ k)
theorem Burst.start (l : List UInt8) (p u : Nat) : Burst l l p u 0 := by
  refine ⟨rfl, fun _ => rfl, fun r => ?_⟩
  have e : crcBits (8 * l.length - p) 0 = 0 := by
    generalize 8 * l.length - p = n
    induction n with
    | zero => rfl
    | succ n ih => rw [crcBits, ih]; rfl
  rw [Nat.pow_zero, Nat.mod_one, e, Nat.xor_zero]
theorem mod_next (u k : Nat) : u % 2 ^ (k + 1) = u % 2 ^ k + 2 ^ k * (u / 2 ^ k % 2) := by
  rw [Nat.pow_succ, Nat.mod_mul]
theorem Burst.zero {l c : List UInt8} {p u k : Nat} (h : Burst l c p u k) (hb : u / 2 ^ k % 2 = 0) : Burst l c p u (k + 1) := by
  have e : u % 2 ^ (k + 1) = u % 2 ^ k := by rw [mod_next, hb]; rfl
  unfold Burst at h ⊢
  rw [e]
  exact h
theorem Burst.one {l c : List UInt8} {p u k : Nat} (h : Burst l c p u k) (hb : u / 2 ^ k % 2 = 1) (hp : p + k < 8 * l.length) : Burst l (flipL c (p + k)) p u (k + 1) := by
  obtain ⟨h1, h2, h3⟩ := h
  have e : u % 2 ^ (k + 1) = u % 2 ^ k ^^^ 2 ^ k := by
    rw [mod_next, hb, Nat.mul_one, Nat.add_comm]
    have hl := Nat.mod_lt u (Nat.two_pow_pos k)
    have := Nat.two_pow_add_eq_or_of_lt hl 1
    rw [Nat.mul_one] at this
    rw [this, Nat.xor_comm]
    refine Nat.eq_of_testBit_eq fun i => ?_
    rw [Nat.testBit_or, Nat.testBit_xor, Nat.testBit_two_pow]
    by_cases hk : k = i
    · subst hk
      rw [Nat.testBit_lt_two_pow hl]; simp
    · simp [hk]
  refine ⟨by rw [flipL_len, h1], fun h0 => ?_, fun r => ?_⟩
  · rw [mod_next, hb] at h0
    have := Nat.two_pow_pos k
    omega
  · rw [crcReg_flip r c (p + k) (by omega), h3, e, crcBits_xor, crcBits_bit (by omega), h1, Nat.xor_assoc]
    congr 3
    omega
theorem Burst.told {l c : List UInt8} {p u k : Nat} (h : Burst l c p u k) (hu : u < 4294967296) : c = l ∨ ∀ r, crcReg r c ≠ crcReg r l := by
  obtain ⟨h1, h2, h3⟩ := h
  by_cases h0 : u % 2 ^ k = 0
  · exact .inl (h2 h0)
  · refine .inr fun r e => h0 ?_
    rw [h3 r] at e
    have hz : crcBits (8 * l.length - p) (u % 2 ^ k) = 0 := by
      have := congrArg (crcReg r l ^^^ ·) e
      simpa [← Nat.xor_assoc] using this
    exact crcBits_ne (Nat.lt_of_le_of_lt (Nat.mod_le _ _) hu) hz
theorem Burst.sums {l c : List UInt8} {p u k : Nat} (h : Burst l c p u k) (hu : u < 4294967296) : c = l ∨ (c ≠ l ∧ crcMore 0 l ≠ crcMore 0 c) := by
  rcases h.told hu with e | e
  · exact .inl e
  · refine .inr ⟨fun he => e 0 (by rw [he]), fun hm => e 4294967295 ?_⟩
    unfold crcMore at hm
    have r1 := crcReg_lt (r := 4294967295) (by decide) l
    have r2 := crcReg_lt (r := 4294967295) (by decide) c
    simp only [Nat.sub_zero] at hm
    omega
end Go.Proofs.Ytgcgbpehedkckaa
