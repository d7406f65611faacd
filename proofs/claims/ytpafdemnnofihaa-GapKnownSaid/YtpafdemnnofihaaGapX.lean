/- tells: does a gap tell what the document says? -/
import Derived.Test.YtpafdemnnofihaaGapS
import Derived.Test.YtpafdemnnofihaaGapT
import Derived.Test.YtpafdemnnofihaaGapE
import Derived.Test.YtpafdemnnofihaaEqb
import Derived.Deep.RegionHeld3
namespace Go.Proofs.Ytpafdemnnofihaa
open Go.RowKit
set_option maxHeartbeats 8000000 in
set_option maxRecDepth 100000 in
theorem tellsC (w : World) (g r : Nat) (s : List UInt8) (p : Nat) (h : GapAt w g s p) (hr : RefAt w r s p) :
    Calls Try.prog 13 #[gapV g, gapV r] w fun e w' => e = .returned (.bool true) ∧ Below w.heap.size w w' := by
  have hs := h.room
  have hp := h.place
  have H0 : Hid (GapAt w.drew g s p) := h.quiet ⟨1, rfl⟩
  have R0 : Hid (RefAt w.drew r s p) := hr.quiet ⟨1, rfl⟩
  have c0 := hr.s
  have d0 := hr.p
  have hsub : IntKind.i64.wrap (252 - (s.length : Int)) = ((252 - s.length : Nat) : Int) := by rw [IntWalk.i64_in _ (by omega)]; omega
  have hee : sameB (blockL s p) (blockL s p) = true := by simp [sameB]
  have HEE := Lib.hid hee
  have B0 : Hid (Below w.heap.size w w.drew) := (Below.refl _ _).drew
  clear hee h hr
  go_enter Try.func13, Try.ntmps13
  go_wp2_with fail
  go_region_held3 (fun w' => w'.cell? ⟨r, 0, none⟩ = some (.string (bstr s)) ∧ w'.cell? ⟨r, 1, none⟩ = some (.int .i64 p)) (first | exact ⟨c0, d0⟩ | exact ⟨c1, d1⟩ | exact ⟨c2, d2⟩ | exact ⟨c3, d3⟩ | exact ⟨c4', d4⟩ | exact ⟨c5', d5⟩ | exact ⟨c6, d6⟩)
   (first
    | (go_at_call 23; refine (lenA _ g s p H0.out).mono ?_; rintro e w1 ⟨rfl, hq⟩; have H1 := Lib.hid (H0.out.quiet hq); have R1 := Lib.hid (R0.out.quiet hq); have B1 := Lib.hid (B0.out.trans (hq.below _)); have c1 := R1.out.s; have d1 := R1.out.p; clear hq)
    | (go_at_call 24; refine (roomA _ g s p H1.out).mono ?_; rintro e w2 ⟨rfl, hq⟩; have H2 := Lib.hid (H1.out.quiet hq); have R2 := Lib.hid (R1.out.quiet hq); have B2 := Lib.hid (B1.out.trans (hq.below _)); have c2 := R2.out.s; have d2 := R2.out.p; clear hq)
    | (go_at_call 18; refine (atG _ g _ _ _ H2.out.raw).mono ?_; rintro e w' ⟨rfl, rfl⟩)
    | (go_at_call 22; refine (textA _ g s p H2.out).mono ?_; rintro e w3 ⟨rfl, hq⟩; have H3 := Lib.hid (H2.out.quiet hq); have R3 := Lib.hid (R2.out.quiet hq); have B3 := Lib.hid (B2.out.trans (hq.below _)); have c3 := R3.out.s; have d3 := R3.out.p; clear hq)
    | (go_at_call 14; refine (blockA _ g s p H3.out).mono ?_; rintro e w4 ⟨v4, rfl, hown4, hb4⟩; obtain ⟨a4, c4, rfl, hr4, hle4, hcm4⟩ := reads_of_own hown4; have R4 := Lib.hid (R3.out.keep hb4 R3.out.lt); have c4' := R4.out.s; have d4 := R4.out.p; have HR4 := Lib.hid hr4; have B4 := Lib.hid (B3.out.trans (hb4.mono B3.out.size)); clear hown4 hb4 hr4)
    | (go_at_call 31; refine (rBlock _ r s p R4.out hs hp).mono ?_; rintro e w5 ⟨v5, rfl, hown5, hb5⟩; obtain ⟨a5, c5, rfl, hr5, hle5, hcm5⟩ := reads_of_own hown5; have HR5 := Lib.hid hr5; have R5 := Lib.hid (R4.out.keep hb5 R4.out.lt); have c5' := R5.out.s; have d5 := R5.out.p; have HR45 := Lib.hid (HR4.out.keep hb5 (Nat.le_refl _)); have B5 := Lib.hid (B4.out.trans (hb5.mono B4.out.size)); clear hown5 hb5 hr5)
    | (go_at_call 15; refine (eqBytes _ a4 a5 256 256 c4 c5 _ _ HR45.out HR5.out (by decide) (by decide)).mono ?_; rw [HEE.out]; rintro e w6 ⟨rfl, hq⟩; have B6 := Lib.hid (B5.out.trans (hq.below _)); have R6 := Lib.hid (R5.out.quiet hq); have c6 := R6.out.s; have d6 := R6.out.p; clear hq))
  go_wp2
  go_ret
  exact ⟨rfl, B6.out⟩
end Go.Proofs.Ytpafdemnnofihaa
