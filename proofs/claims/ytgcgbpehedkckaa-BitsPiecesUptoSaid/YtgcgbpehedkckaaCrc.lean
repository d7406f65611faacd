/- The sum's register, in plain words. -/
import Derived.Test.YtgcgbpehedkckaaBase
namespace Go.Proofs.Ytgcgbpehedkckaa
open Go.RowKit
/-- one turn of the register -/
def crcStep (r : Nat) : Nat := (r / 2) ^^^ (2197175160 * (r % 2))
def crcBits : Nat → Nat → Nat
  | 0, r => r
  | n + 1, r => crcStep (crcBits n r)
def crcByte (r : Nat) (x : UInt8) : Nat := crcBits 8 (r ^^^ x.toNat)
def crcReg (r : Nat) (l : List UInt8) : Nat := l.foldl crcByte r
def crcMore (s : Nat) (l : List UInt8) : Nat := 4294967295 - crcReg (4294967295 - s) l
theorem xor_lt32 {a b : Nat} (ha : a < 4294967296) (hb : b < 4294967296) : a ^^^ b < 4294967296 := Nat.xor_lt_two_pow (n := 32) ha hb
theorem crcStep_lt {r : Nat} (h : r < 4294967296) : crcStep r < 4294967296 := by
  unfold crcStep
  refine xor_lt32 (by omega) ?_
  rcases Nat.mod_two_eq_zero_or_one r with e | e <;> rw [e] <;> decide
theorem crcBits_lt {r : Nat} (h : r < 4294967296) (n : Nat) : crcBits n r < 4294967296 := by
  induction n with
  | zero => exact h
  | succ n ih => exact crcStep_lt ih
theorem crcByte_lt {r : Nat} (h : r < 4294967296) (x : UInt8) : crcByte r x < 4294967296 :=
  crcBits_lt (xor_lt32 h (by have := x.toNat_lt; omega)) 8
theorem crcReg_lt {r : Nat} (h : r < 4294967296) (l : List UInt8) : crcReg r l < 4294967296 := by
  induction l generalizing r with
  | nil => exact h
  | cons x l ih => exact ih (crcByte_lt h x)
theorem crcReg_next {l : List UInt8} {k : Nat} {x : UInt8} (r : Nat) (h : l[k]? = some x) : crcReg r (l.take (k + 1)) = crcByte (crcReg r (l.take k)) x := by
  rw [take_next h, crcReg, List.foldl_append]; rfl
theorem not_xor (s : Nat) (h : s < 4294967296) : 4294967295 ^^^ s = 4294967295 - s := by
  have e : (BitVec.ofNat 32 s).toNat = s := by simp; omega
  have e3 := congrArg BitVec.toNat (BitVec.allOnes_xor (x := BitVec.ofNat 32 s))
  rw [BitVec.toNat_xor, BitVec.toNat_allOnes, BitVec.toNat_not, e] at e3
  simpa using e3
theorem not32 (s : Nat) (h : s < 4294967296) : bits .xor .u32 IntKind.u32.max (s : Int) = ((4294967295 - s : Nat) : Int) := by
  have := u32_xor_nat 4294967295 s (by decide) h
  rw [not_xor s h] at this
  exact this
theorem byte32 (r : Nat) (x : UInt8) (h : r < 4294967296) : bits .xor .u32 (r : Int) ((x.toNat : Int) % 4294967296) = ((r ^^^ x.toNat : Nat) : Int) := by
  have hx := x.toNat_lt
  rw [show (x.toNat : Int) % 4294967296 = (x.toNat : Int) from by omega]
  exact u32_xor_nat r x.toNat h (by omega)
theorem step32 (q : Nat) (h : q < 4294967296) : bits .xor .u32 ((q : Int) / 2) (bits .and .u32 2197175160 (-bits .and .u32 (q : Int) 1 % 4294967296)) = ((crcStep q : Nat) : Int) := by
  have h1 : bits .and .u32 (q : Int) 1 = ((q % 2 : Nat) : Int) := by
    have := u32_and_nat q 1 h (by decide)
    rw [nat_mask1] at this
    exact this
  rw [h1]
  have h2 : bits .and .u32 2197175160 (-((q % 2 : Nat) : Int) % 4294967296) = ((2197175160 * (q % 2) : Nat) : Int) := by
    rcases Nat.mod_two_eq_zero_or_one q with e | e
    · rw [e]; exact u32_and_nat 2197175160 0 (by decide) (by decide)
    · rw [e]; exact u32_and_nat 2197175160 4294967295 (by decide) (by decide)
  rw [h2]
  have h3 := u32_xor_nat (q / 2) (2197175160 * (q % 2)) (by omega) (by rcases Nat.mod_two_eq_zero_or_one q with e | e <;> rw [e] <;> decide)
  rw [show ((q / 2 : Nat) : Int) = (q : Int) / 2 from by omega] at h3
  exact h3
end Go.Proofs.Ytgcgbpehedkckaa
