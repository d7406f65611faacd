/- What comes in, in this seat's own words. -/
import Derived.Test.YtpafdemnnofihaaBase
import Derived.ProofKit
import Derived.OpenShut
import Derived.ShutString
import Derived.ChangeOld
import Derived.SizedLaws
import Derived.Deep.Slices
namespace Go.Proofs.Ytpafdemnnofihaa
open Go.ChangeShapes Go.WideShapes Go.ChangeAt Go.RowKit
open Go.ChangeMaps (open_string shut_string)
/-- how many places a slice has that was read -/
def dlen {H : Type} : DataW H → Nat
  | .slice e s => e.length + s.length
  | _ => 0
theorem sized_len {H : Type} {P : Program} {ts : List TypeId} {ds : List (DataW H)} (h : (DataW.weightsEach P ts ds).all (· ≤ reachBytes) = true) {j : Nat} {t e : TypeId} {d : DataW H} (ht : ts[j]? = some t) (hd : ds[j]? = some d) (hu : P.underlying t = some (.slice e)) : dlen d * P.bytesOf e ≤ reachBytes := by
  cases d <;> simp only [dlen, Nat.zero_mul, Nat.zero_le]
  exact sized_slice h ht hd hu
theorem reads_of_ints {W : World} {x : Addr} {len cap : Nat} {k : IntKind} {zs : List Int} (hl : len ≤ zs.length) (hcell : ∀ i, i < zs.length → W.cell? (x.add i) = some (.int k (zs.getD i 0))) : Reads W (some x) len ((zs.take len).map (Value.int k)) := by
  refine ⟨by simp; omega, fun hn => ?_⟩
  obtain ⟨b, o, sp⟩ := x
  have h0 := hcell 0 (by omega)
  have hsp : sp = none := by simpa [Addr.add] using World.cell?_spot h0
  subst hsp
  have hlt : b < W.heap.size := by
    rw [cell_add] at h0
    unfold World.cell? at h0
    cases hb : W.heap[b]? with
    | none => simp [hb] at h0
    | some ob => exact (Array.getElem?_eq_some_iff.1 hb).1
  refine ⟨b, o, rfl, hlt, fun j hj => ?_⟩
  have hc := hcell j (by omega)
  rw [cell_add] at hc
  rw [hc]
  have hjl : j < zs.length := by omega
  simp [List.getElem?_take, hj, List.getElem?_eq_getElem hjl]
theorem wf_u8 {n : Int} (h : (Lit.int .u8 n).wf = true) : 0 ≤ n ∧ n < 256 := by simp [Lit.wf, IntKind.min, IntKind.max, IntKind.signed, IntKind.bits] at h; omega
theorem wf_u64 {n : Int} (h : (Lit.int .u64 n).wf = true) : 0 ≤ n ∧ n < 18446744073709551616 := by simp [Lit.wf, IntKind.min, IntKind.max, IntKind.signed, IntKind.bits] at h; omega
theorem wf_u32 {n : Int} (h : (Lit.int .u32 n).wf = true) : 0 ≤ n ∧ n < 4294967296 := by simp [Lit.wf, IntKind.min, IntKind.max, IntKind.signed, IntKind.bits] at h; omega
theorem wf_i64 {n : Int} (h : (Lit.int .i64 n).wf = true) : -9223372036854775808 ≤ n ∧ n ≤ 9223372036854775807 := by simp [Lit.wf, IntKind.min, IntKind.max, IntKind.signed, IntKind.bits] at h; omega
theorem bytes_of_ints {zs : List Int} (h : ∀ n ∈ zs, (Lit.int .u8 n).wf = true) : zs.map (Value.int .u8) = (zs.map fun n => UInt8.ofNat n.toNat).map B8 := by
  rw [List.map_map]
  refine List.map_congr_left fun n hn => ?_
  have := wf_u8 (h n hn)
  simp only [Function.comp, B8, UInt8.toNat_ofNat']
  congr 1
  omega
/-- a slice of bytes that came in -/
theorem openBytes {H : Type} {enc : TypeId × Value → H} {W : World} {base : Nat} {spare : Nat → Bool} {held : Bool} {v : Value} {d : DataW H} {ps : List MemPlace} {bs : Nat} {t : TypeId} {e : TypeId} (ht : Try.prog.underlying t = some (.slice e)) (he : Try.prog.underlying e = some (.int .u8)) (hce : Try.prog.cellsOf e = 1)
    (hv : Value.okWide Try.prog W .any bs t v) (h : DataW.Trod enc Try.prog W base spare held t v d ps) :
    ∃ (a : Option Addr) (n c : Nat) (l : List UInt8), v = .slice a n c ∧ Reads W a n (l.map B8) ∧ n ≤ c ∧ c ≤ maxLen ∧ n ≤ dlen d := by
  obtain ⟨a, n, c, rfl⟩ := okWide_slice ht hv
  obtain ⟨fuel, hf⟩ := h
  rcases open_ints ht he hce hf with ⟨hcs, _⟩ | ⟨x, l, c', zs, hcs, _, hl, hm, hz, hx, hcell, hwz⟩
  · simp [Value.cells] at hcs
    obtain ⟨rfl, rfl, rfl⟩ := hcs
    exact ⟨none, 0, 0, [], rfl, Reads.nil _ _, Nat.le_refl _, Nat.zero_le _, Nat.zero_le _⟩
  · simp [Value.cells] at hcs
    obtain ⟨rfl, rfl, rfl⟩ := hcs
    have hlz : n ≤ zs.length := by rw [hz]; split <;> omega
    have hr := reads_of_ints (cap := c) hlz hcell
    rw [bytes_of_ints (fun m hm => hwz m (List.mem_of_mem_take hm))] at hr
    refine ⟨_, n, c, _, rfl, hr, hl, hm, ?_⟩
    obtain ⟨rfl, _⟩ := Prod.mk.inj hx
    simp only [dlen, lits, List.length_map, List.length_take, List.length_drop]
    omega
/-- a slice of ints that came in -/
theorem openInts {H : Type} {enc : TypeId × Value → H} {W : World} {base : Nat} {spare : Nat → Bool} {held : Bool} {v : Value} {d : DataW H} {ps : List MemPlace} {bs : Nat} {t : TypeId} {e : TypeId} (ht : Try.prog.underlying t = some (.slice e)) (he : Try.prog.underlying e = some (.int .i64)) (hce : Try.prog.cellsOf e = 1)
    (hv : Value.okWide Try.prog W .any bs t v) (h : DataW.Trod enc Try.prog W base spare held t v d ps) :
    ∃ (a : Option Addr) (n c : Nat) (l : List Int), v = .slice a n c ∧ Reads W a n (l.map (Value.int .i64)) ∧ n ≤ c ∧ c ≤ maxLen ∧ n ≤ dlen d ∧ ∀ x ∈ l, (Lit.int .i64 x).wf = true := by
  obtain ⟨a, n, c, rfl⟩ := okWide_slice ht hv
  obtain ⟨fuel, hf⟩ := h
  rcases open_ints ht he hce hf with ⟨hcs, _⟩ | ⟨x, l, c', zs, hcs, _, hl, hm, hz, hx, hcell, hwz⟩
  · simp [Value.cells] at hcs
    obtain ⟨rfl, rfl, rfl⟩ := hcs
    exact ⟨none, 0, 0, [], rfl, Reads.nil _ _, Nat.le_refl _, Nat.zero_le _, Nat.zero_le _, fun x hx => by cases hx⟩
  · simp [Value.cells] at hcs
    obtain ⟨rfl, rfl, rfl⟩ := hcs
    have hlz : n ≤ zs.length := by rw [hz]; split <;> omega
    have hr := reads_of_ints (cap := c) hlz hcell
    refine ⟨_, n, c, _, rfl, hr, hl, hm, ?_, fun x hx => hwz x (List.mem_of_mem_take hx)⟩
    obtain ⟨rfl, _⟩ := Prod.mk.inj hx
    simp only [dlen, lits, List.length_map, List.length_take, List.length_drop]
    omega
end Go.Proofs.Ytpafdemnnofihaa
