/- A list of slices of bytes that came in. -/
import Derived.Test.YtgcgbpehedkckaaOpen
namespace Go.Proofs.Ytgcgbpehedkckaa
open Go.ChangeShapes Go.WideShapes Go.ChangeAt Go.RowKit Go.Deep
open Go.ChangeMaps (open_string shut_string)
/-- how many bytes the slices of a list have that was read -/
def rlen {H : Type} : DataW H → Nat
  | .slice e _ => (e.map dlen).sum
  | _ => 0
theorem sum_le {α : Type} (l : List α) (f g : α → Nat) (h : ∀ x, x ∈ l → f x ≤ g x) : (l.map f).sum ≤ (l.map g).sum := by
  induction l with
  | nil => exact Nat.le_refl _
  | cons x l ih =>
    simp only [List.map_cons, List.sum_cons]
    have h1 := h x (by simp)
    have h2 := ih fun y hy => h y (by simp [hy])
    omega
theorem len_le_flatten {ll : List (List UInt8)} {l : List UInt8} (h : l ∈ ll) : l.length ≤ ll.flatten.length := by
  induction ll with
  | nil => cases h
  | cons x r ih =>
    rw [List.flatten_cons, List.length_append]
    rcases List.mem_cons.1 h with rfl | h
    · omega
    · have := ih h; omega
theorem elemBytes {H : Type} {enc : TypeId × Value → H} {W : World} {base : Nat} {spare : Nat → Bool} {held : Bool} {v : Value} {d : DataW H} {ps : List MemPlace} {fuel : Nat} {t : TypeId} {e : TypeId} (ht : Try.prog.underlying t = some (.slice e)) (he : Try.prog.underlying e = some (.int .u8)) (hce : Try.prog.cellsOf e = 1)
    (hf : DataW.trod enc Try.prog W base spare held fuel t [v] = some (d, ps)) : ∃ l, SliceOf W v l ∧ l.length ≤ dlen d := by
  rcases open_ints ht he hce hf with ⟨hcs, _⟩ | ⟨x, n, c, zs, hcs, _, hl, hm, hz, hx, hcell, hwz⟩
  · obtain rfl : v = .slice none 0 0 := by simpa using hcs
    exact ⟨[], ⟨none, 0, rfl, Reads.nil _ _, Nat.le_refl _, Nat.zero_le _⟩, Nat.zero_le _⟩
  · obtain rfl : v = .slice (some x) n c := by simpa using hcs
    have hlz : n ≤ zs.length := by rw [hz]; split <;> omega
    have hr := reads_of_ints (cap := c) hlz hcell
    rw [bytes_of_ints (fun m hm => hwz m (List.mem_of_mem_take hm))] at hr
    have hlen := hr.len
    rw [List.length_map] at hlen
    refine ⟨_, ⟨some x, c, by rw [hlen], by rw [hlen]; exact hr, by rw [hlen]; exact hl, hm⟩, ?_⟩
    obtain ⟨rfl, _⟩ := Prod.mk.inj hx
    rw [hlen]
    simp only [dlen, lits, List.length_map, List.length_take, List.length_drop]
    omega
theorem openRows {H : Type} {enc : TypeId × Value → H} {W : World} {base : Nat} {spare : Nat → Bool} {held : Bool} {v : Value} {d : DataW H} {ps : List MemPlace} {bs : Nat} {t t1 : TypeId} {e : TypeId} (ht : Try.prog.underlying t = some (.slice t1)) (ht1 : Try.prog.underlying t1 = some (.slice e)) (he : Try.prog.underlying e = some (.int .u8)) (hc1 : Try.prog.cellsOf t1 = 1) (hce : Try.prog.cellsOf e = 1)
    (hv : Value.okWide Try.prog W .any bs t v) (h : DataW.Trod enc Try.prog W base spare held t v d ps) :
    ∃ (a : Option Addr) (n c : Nat) (ll : List (List UInt8)), v = .slice a n c ∧ ReadsRows W a n ll ∧ n ≤ c ∧ c ≤ maxLen ∧ n ≤ dlen d ∧ ll.flatten.length ≤ rlen d := by
  obtain ⟨a, n, c, rfl⟩ := okWide_slice ht hv
  obtain ⟨fuel, hf⟩ := h
  rcases open_slice1 ht hc1 hf with ⟨hcs, _⟩ | ⟨x, l, c', m, k, V, D, Pl, hcs, _, hl, hm, hmm, hx, hV⟩
  · simp [Value.cells] at hcs
    obtain ⟨rfl, rfl, rfl⟩ := hcs
    exact ⟨none, 0, 0, [], rfl, ⟨[], Reads.nil _ _, rfl, fun i v l h => by cases h⟩, Nat.le_refl _, Nat.zero_le _, Nat.zero_le _, Nat.zero_le _⟩
  · simp [Value.cells] at hcs
    obtain ⟨rfl, rfl, rfl⟩ := hcs
    obtain ⟨rfl, _⟩ := Prod.mk.inj hx
    have hlm : n ≤ m := by rw [hmm]; split <;> omega
    obtain ⟨L, hL⟩ := choose_lt (α := List UInt8) (n := m) (p := fun i l => SliceOf W (V i) l ∧ l.length ≤ dlen (D i)) (fun i hi => elemBytes ht1 he hce (hV i hi).2)
    refine ⟨some x, n, c, (List.range n).map L, rfl, ⟨(List.range n).map V, ⟨by simp, fun hn => ?_⟩, by simp, fun i v l h1 h2 => ?_⟩, hl, hm, ?_, ?_⟩
    · obtain ⟨b, o, sp⟩ := x
      have h0 := (hV 0 (by omega)).1
      have hsp : sp = none := by simpa [Addr.add] using World.cell?_spot h0
      subst hsp
      have hlt : b < W.heap.size := by
        rw [cell_add] at h0
        unfold World.cell? at h0
        cases hb : W.heap[b]? with
        | none => simp [hb] at h0
        | some ob => exact (Array.getElem?_eq_some_iff.1 hb).1
      refine ⟨b, o, rfl, hlt, fun j hj => ?_⟩
      have hc := (hV j (by omega)).1
      rw [cell_add] at hc
      rw [hc]
      simp [hj]
    · have hi : i < n := by have := (List.getElem?_eq_some_iff.1 h1).1; simpa using this
      simp [hi] at h1 h2
      subst h1
      subst h2
      exact (hL i (by omega)).1
    · simp only [dlen, List.length_map, List.length_range]
      omega
    · rw [List.length_flatten, List.map_map]
      simp only [rlen, List.map_map]
      refine sum_le _ _ _ fun i hi => ?_
      exact (hL i (by have := List.mem_range.1 hi; omega)).2
end Go.Proofs.Ytgcgbpehedkckaa
