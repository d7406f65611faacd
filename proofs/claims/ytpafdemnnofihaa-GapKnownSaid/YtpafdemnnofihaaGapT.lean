/- The reference's Block. -/
import Derived.Test.YtpafdemnnofihaaGapR
import Derived.Deep.RegionWith
namespace Go.Proofs.Ytpafdemnnofihaa
open Go.RowKit
theorem u64_in (n : Nat) (h : n < 65536) : IntKind.u64.wrap (n : Int) = (n : Int) := IntWalk.u64_in _ (by omega)
set_option maxHeartbeats 2000000 in
theorem rBlock (w : World) (r : Nat) (s : List UInt8) (p : Nat) (h : RefAt w r s p) (hs : s.length ≤ 252) (hp : p ≤ s.length) :
    Calls Try.prog 31 #[gapV r] w fun e w' => ∃ v, e = .returned v ∧ w'.ownsRow w.heap.size 5 1 v 256 ((blockL s p).map B8) ∧ Below w.heap.size w w' := by
  obtain ⟨i0, hi, hz0, hz1, hz2⟩ := info_parts Try.infoU8
  have H := Lib.hid h
  have hlt := h.lt
  have h0 := h.s
  have h1 := h.p
  have hi1 : (p : Int) ≤ s.length := by omega
  have hw1 : IntKind.i64.wrap ((s.length : Int) - p) = (s.length : Int) - p := IntWalk.i64_in _ (by omega)
  obtain ⟨t, ht⟩ : ∃ t, t = p + (252 - s.length) := ⟨_, rfl⟩
  have hw2 : IntKind.i64.wrap (252 - ((s.length : Int) - p)) = (t : Int) := by rw [IntWalk.i64_in _ (by omega)]; omega
  have hpt : p ≤ t := by omega
  have ht2 : t ≤ 252 := by omega
  have HT := Lib.hid ht
  clear ht
  go_enter Try.func31, Try.ntmps31
  go_wp2
  go_quiet (fail)
  have q0 : Quiet w (w.drewN nq) := ⟨_, rfl⟩
  have B0 := Lib.hid (q0.below w.heap.size)
  have z0 := B0.out.size
  clear hw1 hw2 q0
  go_wp2_with fail
  refine (little _ p 2 (by omega) (by omega)).mono ?_
  rintro e w1 ⟨r1, rfl, hown1, hb1⟩
  have B1 : Hid (Below w.heap.size w w1) := B0.out.trans (hb1.mono z0)
  have z1 := B1.out.size
  obtain ⟨a1, c1, rfl, hr1, hle1, hcm1⟩ := reads_of_own hown1
  have HR1 := Lib.hid hr1
  clear hown1 hb1 hr1
  go_wp2_with fail
  refine (little _ t 2 (by omega) (by omega)).mono ?_
  rintro e w2 ⟨r2, rfl, hown2, hb2⟩
  have B2 : Hid (Below w.heap.size w w2) := B1.out.trans (hb2.mono z1)
  have z2 := B2.out.size
  have HR1b : Hid (Reads w2 a1 2 ((leB p 2).map B8)) := HR1.out.keep hb2 (Nat.le_refl _)
  obtain ⟨a2, c2, rfl, hr2, hle2, hcm2⟩ := reads_of_own hown2
  have HR2 := Lib.hid hr2
  clear hown2 hb2 hr2 HR1
  go_wp2_with fail
  refine (two _ a1 a2 2 2 c1 c2 (leB p 2) (leB t 2) HR1b.out HR2.out hle1 hcm1 hle2 hcm2 (by decide)).mono ?_
  rintro e w3 ⟨r3, rfl, hown3, hb3⟩
  have B3 : Hid (Below w.heap.size w w3) := B2.out.trans (hb3.mono z2)
  have z3 := B3.out.size
  obtain ⟨a3, c3, rfl, hr3, hle3, hcm3⟩ := reads_of_own hown3
  have HR3 : Hid (Reads w3 a3 4 ((headB p t).map B8)) := hr3
  have h3 : RefAt w3 r s p := H.out.keep B3.out hlt
  clear hown3 hb3 hr3 HR1b HR2
  obtain ⟨A, hA⟩ : ∃ A, s.take p = A := ⟨_, rfl⟩
  obtain ⟨B, hB⟩ : ∃ B, s.drop p = B := ⟨_, rfl⟩
  have hlA : A.length = p := by rw [← hA]; simp; omega
  have hlB : B.length = s.length - p := by rw [← hB]; simp
  have hB2 : B.take (s.length - p) = B := List.take_of_length_le (by omega)
  have HLA := Lib.hid hlA
  have HLB := Lib.hid hlB
  clear hlA hlB
  have hc0 := h3.s
  have hc1 := h3.p
  go_wp2_with fail
  go_region_with (first
    | (go_at_call 44; refine (textR _ A (by rw [HLA.out]; omega)).mono ?_; rintro e w5 ⟨r5, rfl, hown5, hb5⟩; have B5 : Hid (Below w.heap.size w w5) := (B3.out.drew).trans (hb5.mono z3); have HR35 : Hid (Reads w5 a3 4 ((headB p t).map B8)) := (HR3.out.quiet ⟨1, rfl⟩).keep hb5 (Nat.le_refl _); obtain ⟨a5, c5, rfl, hr5, hle5, hcm5⟩ := reads_of_own hown5; have HR5 : Hid (Reads w5 a5 p (A.map B8)) := (by rw [HLA.out] at hr5; exact hr5); have hle5b : p ≤ c5 := (by rw [← HLA.out]; exact hle5); rw [HLA.out]; clear hown5 hb5 hr5)
    | (go_at_call 28; refine (two _ a3 a5 4 p c3 c5 (headB p t) A HR35.out HR5.out hle3 hcm3 hle5b hcm5 (by omega)).mono ?_; rintro e w6 ⟨r6, rfl, hown6, hb6⟩; have B6 : Hid (Below w.heap.size w w6) := B5.out.trans (hb6.mono B5.out.size); have HO6 : Hid (w6.ownsRow w.heap.size 5 1 r6 (4 + p) ((headB p t ++ A).map B8)) := own_mono hown6 B5.out.size; clear hown6 hb6))
  all_goals
    have z6 := B6.out.size
    have h6 : RefAt w6 r s p := H.out.keep B6.out hlt
    have hc6 := h6.p
    clear HR3 h3 hc0 hc1 HR35 HR5 hle5 hle5b
    go_wp2
    clear hc6 h6
    go_loopw [4, 5] (fun v i wr => ∃ j : Nat, p ≤ j ∧ j ≤ t ∧ i = .int .i64 j ∧ Hid (wr.ownsRow w.heap.size 5 1 v (4 + j) ((headB p t ++ A ++ List.replicate (j - p) 0).map B8)) ∧ Hid (Below w.heap.size w wr)) (fun _ i _ => t - (intOf i).toNat)
    case atStart => exact ⟨p, Nat.le_refl _, hpt, rfl, by rw [Nat.sub_self, List.replicate_zero, List.append_nil]; exact HO6.out, B6⟩
    case round =>
      obtain ⟨j, hj1, hj2, rfl, HO, HB⟩ := hrel
      have hsz := HB.out.size
      by_cases hlt2 : j < t
      · go_wp2_with (at_builtin; refine wpList_append_own _ rfl _ _ 22 rfl w.heap.size 5 i0 (.int .u8 0) 1 1 Try.underlying22 hi hz0 hz1 hz2 rfl (by decide) _ _ _ rfl (HO.out.alloc _) ⟨wr.heap.size, 0, none⟩ 1 1 [.int .u8 0] rfl rfl (cell_one_new _ _ _) (by simp [Value.oneCell']) (by unfold maxLen; omega) (by omega) (by simp; omega) ?_; intro v' w7 hown7 hgrow7 _)
        have e7 : (headB p t ++ A ++ List.replicate (j - p) 0).map B8 ++ [Value.int .u8 0] = (headB p t ++ A ++ List.replicate (j + 1 - p) 0).map B8 := by
          rw [show j + 1 - p = (j - p) + 1 from by omega, List.replicate_succ']
          simp
        rw [e7] at hown7
        have hb7 := below_append HB.out hsz HO.out hgrow7
        have HO7 := Lib.hid hown7
        have HB7 := Lib.hid hb7
        clear hgrow7 e7 hown7 hb7
        go_roundw
        case rel => exact ⟨j + 1, by omega, by omega, by go_num, HO7, HB7⟩
        case measure => simp [intOf]; omega
      · obtain rfl : j = t := by omega
        obtain ⟨a8, c8, rfl, hr8, hle8, hcm8⟩ := reads_of_own HO.out
        have HR8 := Lib.hid hr8
        have h8 : RefAt wr r s p := H.out.keep HB.out hlt
        have hc0 := h8.s
        have hc1 := h8.p
        have HB2 := Lib.hid hB2
        clear hr8 HO HO6
        go_wp2_with fail
        go_region_with (first
          | (go_at_call 44; refine (textR _ B (by rw [HLB.out]; omega)).mono ?_; rintro e w9 ⟨r9, rfl, hown9, hb9⟩; have B9 : Hid (Below w.heap.size w w9) := (HB.out.drew).trans (hb9.mono hsz); have HR89 : Hid (Reads w9 a8 (4 + j) ((headB p j ++ A ++ List.replicate (j - p) 0).map B8)) := (HR8.out.quiet ⟨1, rfl⟩).keep hb9 (Nat.le_refl _); obtain ⟨a9, c9, rfl, hr9, hle9, hcm9⟩ := reads_of_own hown9; have HR9 : Hid (Reads w9 a9 (s.length - p) (B.map B8)) := (by rw [HLB.out] at hr9; exact hr9); have hle9b : s.length - p ≤ c9 := (by rw [← HLB.out]; exact hle9); rw [HLB.out]; clear hown9 hb9 hr9)
          | (go_at_call 28; refine (two _ a8 a9 (4 + j) (s.length - p) c8 c9 (headB p j ++ A ++ List.replicate (j - p) 0) B HR89.out HR9.out hle8 hcm8 hle9b hcm9 (by omega)).mono ?_; rintro e w10 ⟨r10, rfl, hown10, hb10⟩; have B10 : Hid (Below w.heap.size w w10) := B9.out.trans (hb10.mono B9.out.size); have HO10 : Hid (w10.ownsRow w.heap.size 5 1 r10 (4 + j + (s.length - p)) ((headB p j ++ A ++ List.replicate (j - p) 0 ++ B).map B8)) := own_mono hown10 B9.out.size; clear hown10 hb10))
        all_goals
          go_wp2
          go_ret
          refine ⟨_, rfl, ?_, B10.out⟩
          have e1 : 4 + j + (s.length - p) = 256 := by have := HT.out; omega
          have e2 : headB p j ++ A ++ List.replicate (j - p) 0 ++ B = blockL s p := by
            rw [blockL, gapB, hA, hB, ← HT.out, show j - p = 252 - s.length from by have := HT.out; omega]
            simp
          have h := HO10.out
          rw [e1, e2] at h
          exact h
end Go.Proofs.Ytpafdemnnofihaa
