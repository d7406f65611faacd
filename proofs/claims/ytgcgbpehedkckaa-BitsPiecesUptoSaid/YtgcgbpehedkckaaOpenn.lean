/- A slice of bytes that came in; where it is nil it has no room. -/
import Derived.Test.YtgcgbpehedkckaaOpen
namespace Go.Proofs.Ytgcgbpehedkckaa
open Go.ChangeShapes Go.WideShapes Go.ChangeAt Go.RowKit
open Go.ChangeMaps (open_string shut_string)
/-- a slice of bytes that came in -/
theorem openBytesN {H : Type} {enc : TypeId × Value → H} {W : World} {base : Nat} {spare : Nat → Bool} {held : Bool} {v : Value} {d : DataW H} {ps : List MemPlace} {bs : Nat} {t : TypeId} {e : TypeId} (ht : Try.prog.underlying t = some (.slice e)) (he : Try.prog.underlying e = some (.int .u8)) (hce : Try.prog.cellsOf e = 1)
    (hv : Value.okWide Try.prog W .any bs t v) (h : DataW.Trod enc Try.prog W base spare held t v d ps) :
    ∃ (a : Option Addr) (n c : Nat) (l : List UInt8), v = .slice a n c ∧ Reads W a n (l.map B8) ∧ n ≤ c ∧ c ≤ maxLen ∧ n ≤ dlen d ∧ (a = none → c = 0) := by
  obtain ⟨a, n, c, rfl⟩ := okWide_slice ht hv
  obtain ⟨fuel, hf⟩ := h
  rcases open_ints ht he hce hf with ⟨hcs, _⟩ | ⟨x, l, c', zs, hcs, _, hl, hm, hz, hx, hcell, hwz⟩
  · simp [Value.cells] at hcs
    obtain ⟨rfl, rfl, rfl⟩ := hcs
    exact ⟨none, 0, 0, [], rfl, Reads.nil _ _, Nat.le_refl _, Nat.zero_le _, Nat.zero_le _, fun _ => rfl⟩
  · simp [Value.cells] at hcs
    obtain ⟨rfl, rfl, rfl⟩ := hcs
    have hlz : n ≤ zs.length := by rw [hz]; split <;> omega
    have hr := reads_of_ints (cap := c) hlz hcell
    rw [bytes_of_ints (fun m hm => hwz m (List.mem_of_mem_take hm))] at hr
    refine ⟨_, n, c, _, rfl, hr, hl, hm, ?_, fun h => by cases h⟩
    obtain ⟨rfl, _⟩ := Prod.mk.inj hx
    simp only [dlen, lits, List.length_map, List.length_take, List.length_drop]
    omega
end Go.Proofs.Ytgcgbpehedkckaa
