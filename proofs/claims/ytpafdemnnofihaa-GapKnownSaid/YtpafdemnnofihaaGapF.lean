/- The block of a gap. -/
import Derived.Test.YtpafdemnnofihaaGapC
import Derived.Test.YtpafdemnnofihaaPutw
import Derived.Test.YtpafdemnnofihaaTakew
import Derived.Deep.RegionWith
namespace Go.Proofs.Ytpafdemnnofihaa
open Go.RowKit
def headB (p t : Nat) : List UInt8 := leB p 2 ++ leB t 2
def blockL (s : List UInt8) (p : Nat) : List UInt8 := headB p (p + (252 - s.length)) ++ gapB s p
theorem leB_length (v n : Nat) : (leB v n).length = n := by simp [leB]
theorem headB_length (p t : Nat) : (headB p t).length = 4 := by simp [headB, leB_length]
theorem u16_in (n : Nat) (h : n < 65536) : IntKind.u16.wrap (n : Int) = (n : Int) := by rw [IntKind.wrap_u16]; omega
set_option maxHeartbeats 1000000 in
theorem blockG (w : World) (g p t : Nat) (D : List UInt8) (h : Raw w g p t D) (hD : D.length = 252) (hp : p ≤ t) (ht : t ≤ 252) :
    Calls Try.prog 14 #[gapV g] w fun e w' => ∃ v, e = .returned v ∧ w'.ownsRow w.heap.size 5 1 v 256 ((headB p t ++ D).map B8) ∧ Below w.heap.size w w' := by
  obtain ⟨i0, hi, hz0, hz1, hz2⟩ := info_parts Try.infoU8
  have HD := Lib.hid hD
  have H := Lib.hid h
  have hgl := Row.lt h
  have hwp := u16_in p (by omega)
  have hwt := u16_in t (by omega)
  clear hD
  have hf := h.from
  have hto := h.to
  go_enter Try.func14, Try.ntmps14
  go_wp2_with (go_at_call 32; refine (thereYes _ g _ _ _ h).mono ?_; rintro e w' ⟨rfl, rfl⟩)
  go_region_with (first
    | (go_at_call_of 33 (Value.slice none 0 0); refine (put16 _ none 0 0 [] p (Reads.nil _ _) (by omega) (by omega)).mono ?_; rintro e w1 ⟨r1, rfl, hown1, hb1⟩; obtain ⟨a1, c1, rfl, hr1, hle1, hcm1⟩ := reads_of_own hown1; have B1 : Hid (Below w.heap.size w w1) := ((Below.refl _ _).drew).trans hb1; have hto1 : w1.cell? ⟨g, 2, none⟩ = some (.int .i64 t) := (B1.out.cell (p := ⟨g, 2, none⟩) hgl).trans hto; have HR1 := Lib.hid hr1; clear hown1 hb1 hr1)
    | (go_at_call 33; refine (put16 _ _ _ _ _ t HR1.out (by omega) (by omega)).mono ?_; rintro e w2 ⟨r2, rfl, hown2, hb2⟩; have B2 : Hid (Below w.heap.size w w2) := B1.out.trans (hb2.mono B1.out.size); have HO2 : Hid (w2.ownsRow w.heap.size 5 1 r2 4 ((headB p t).map B8)) := own_mono hown2 B1.out.size; clear hown2 hb2))
  all_goals
    have hsrc : ∀ j v, (D.map B8)[j]? = some v → w2.cell? ((⟨g, 3, none⟩ : Addr).add j) = some v := by
      intro j v hv
      rw [cell_add, B2.out.cell (p := ⟨g, 3 + j, none⟩) hgl, Row.cell H.out, Nat.add_comm 3 j]
      exact hv
    have HS := Lib.hid hsrc
    have z2 := B2.out.size
    clear hsrc hwp hwt hf hto hto1
    go_wp2_with (at_builtin; refine wpList_append_own _ rfl _ _ 22 rfl w.heap.size 5 i0 (.int .u8 0) 1 1 Try.underlying22 hi hz0 hz1 hz2 rfl (by decide) _ _ _ rfl HO2.out ⟨g, 3, none⟩ 252 252 (D.map B8) rfl (by rw [List.length_map, HD.out]) HS.out (b8_one D) (by unfold maxLen; omega) (by omega) (by omega) ?_; intro v' w3 hown3 hgrow3 _)
    have B3 := Lib.hid (B2.out.grown hgrow3 z2 (fun b hb => (HO2.out.lt b hb).1))
    rw [← List.map_append] at hown3
    have HO3 := Lib.hid hown3
    clear hgrow3 hown3
    go_wp2
    go_ret
    exact ⟨_, rfl, HO3.out, B3.out⟩
theorem blockA (w : World) (g : Nat) (s : List UInt8) (p : Nat) (h : GapAt w g s p) :
    Calls Try.prog 14 #[gapV g] w fun e w' => ∃ v, e = .returned v ∧ w'.ownsRow w.heap.size 5 1 v 256 ((blockL s p).map B8) ∧ Below w.heap.size w w' :=
  blockG w g p _ _ h.raw (gapB_length s p h.place h.room) (by omega) (by have := h.place; have := h.room; omega)
end Go.Proofs.Ytpafdemnnofihaa
