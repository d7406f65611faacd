/- The reference's Open. -/
import Derived.Test.YtpafdemnnofihaaGapR
namespace Go.Proofs.Ytpafdemnnofihaa
open Go.RowKit
def ROpenPost (w : World) (l : List UInt8) (e : Ending) (w' : World) : Prop :=
  (openB l = none ∧ e = .returned (.tuple #[.pointer none, .int .i64 160])) ∨
  (∃ s p r, openB l = some (s, p) ∧ w.heap.size ≤ r ∧ RefAt w' r s p ∧ e = .returned (.tuple #[gapV r, .int .i64 0]))
theorem rOpenLen (w : World) (a : Option Addr) (n ca : Nat) (hn : n ≠ 256) (hm : n ≤ 140737488355328) :
    Calls Try.prog 10 #[.slice a n ca] w fun e w' => e = .returned (.tuple #[.pointer none, .int .i64 160]) ∧ Below w.heap.size w w' := by
  have hne : ((n : Int) != 256) = true := by simp only [bne_iff_ne, ne_eq]; omega
  clear hn
  go_enter Try.func10, Try.ntmps10
  go_wp2
  go_ret2
  exact ⟨rfl, Below.refl _ _⟩
theorem leV2 {l : List UInt8} {i : Nat} {x y : UInt8} (hx : l[i]? = some x) (hy : l[i + 1]? = some y) : leV (piece l i 2) = x.toNat + 256 * y.toNat := by
  rw [piece_cons hx, piece_cons hy]
  simp [piece, leV]
theorem zeros_next {l : List UInt8} {f j : Nat} (hf : f ≤ j) (h : (l.drop (4 + f)).take (j - f) = List.replicate (j - f) 0) (hx : l[4 + j]? = some 0) : (l.drop (4 + f)).take (j + 1 - f) = List.replicate (j + 1 - f) 0 := by
  rw [show j + 1 - f = (j - f) + 1 from by omega, List.replicate_succ', ← h]
  exact take_next (by rw [List.getElem?_drop, show 4 + f + (j - f) = 4 + j from by omega]; exact hx)
theorem zeros_not {l : List UInt8} {f j t : Nat} {x : UInt8} (hf : f ≤ j) (hj : j < t) (hx : l[4 + j]? = some x) (hne : x ≠ 0) : (l.drop (4 + f)).take (t - f) ≠ List.replicate (t - f) 0 := by
  intro h
  have h1 : ((l.drop (4 + f)).take (t - f))[j - f]? = (List.replicate (t - f) (0 : UInt8))[j - f]? := by rw [h]
  rw [List.getElem?_take, if_pos (by omega), List.getElem?_drop, show 4 + f + (j - f) = 4 + j from by omega, hx, List.getElem?_replicate, if_pos (by omega)] at h1
  exact hne (by simpa using h1)
set_option maxRecDepth 100000 in
set_option maxHeartbeats 2000000 in
theorem rOpenC (w : World) (a : Option Addr) (n ca : Nat) (l : List UInt8) (ha : Reads w a n (l.map B8)) (hc : n ≤ ca) (hm : n ≤ 140737488355328) :
    Calls Try.prog 10 #[.slice a n ca] w fun e w' => ROpenPost w l e w' ∧ Below w.heap.size w w' := by
  have hl := ha.len
  rw [List.length_map] at hl
  by_cases hn : n ≠ 256
  · refine (rOpenLen w a n ca hn hm).mono fun e w' ⟨he, hb⟩ => ⟨.inl ⟨?_, he⟩, hb⟩
    unfold openB
    rw [if_neg (by omega)]
  obtain rfl : n = 256 := by omega
  obtain ⟨b, o, x0, rfl, hb, hx0, hc0⟩ := ha.byte (k := 0) (by decide)
  obtain ⟨_, _, x1, he1, _, hx1, hc1⟩ := ha.byte (k := 1) (by decide)
  cases he1
  obtain ⟨_, _, x2, he2, _, hx2, hc2⟩ := ha.byte (k := 2) (by decide)
  cases he2
  obtain ⟨_, _, x3, he3, _, hx3, hc3⟩ := ha.byte (k := 3) (by decide)
  cases he3
  rw [Nat.add_zero] at hc0
  obtain ⟨f, hf⟩ : ∃ f, f = leV (piece l 0 2) := ⟨_, rfl⟩
  obtain ⟨t, ht⟩ : ∃ t, t = leV (piece l 2 2) := ⟨_, rfl⟩
  have hf2 : f = x0.toNat + 256 * x1.toNat := hf.trans (leV2 hx0 hx1)
  have ht2 : t = x2.toNat + 256 * x3.toNat := ht.trans (leV2 hx2 hx3)
  have l0 := b8_lt x0
  have l1 := b8_lt x1
  have l2 := b8_lt x2
  have l3 := b8_lt x3
  have hw0 : IntKind.i64.wrap (256 * (x1.toNat : Int)) = 256 * (x1.toNat : Int) := IntWalk.i64_in _ (by omega)
  have hw1 : IntKind.i64.wrap ((x0.toNat : Int) + 256 * (x1.toNat : Int)) = (f : Int) := by rw [IntWalk.i64_in _ (by omega)]; omega
  have hw2 : IntKind.i64.wrap (256 * (x3.toNat : Int)) = 256 * (x3.toNat : Int) := IntWalk.i64_in _ (by omega)
  have hw3 : IntKind.i64.wrap ((x2.toNat : Int) + 256 * (x3.toNat : Int)) = (t : Int) := by rw [IntWalk.i64_in _ (by omega)]; omega
  have hlf : f < 65536 := by omega
  have hlt : t < 65536 := by omega
  have HA := Lib.hid ha
  have HL := Lib.hid hl
  have HF := Lib.hid hf
  have HT := Lib.hid ht
  clear ha hl hf ht hx0 hx1 hx2 hx3 hf2 ht2
  go_enter Try.func10, Try.ntmps10
  go_wp2
  go_quiet (fail)
  go_wp2
  go_quiet (fail)
  clear hw0 hw1 hw2 hw3 hc0 hc1 hc2 hc3
  generalize hwz : (w.drewN _).drewN nq = wz
  have HQ : Hid (Quiet w wz) := by
    show Quiet w wz
    rw [← hwz]
    exact (Quiet.refl w).drewN _ |>.drewN _
  clear hwz
  have B0 := Lib.hid (HQ.out.below w.heap.size)
  have hzs := B0.out.size
  rcases Nat.lt_or_ge t f with h1 | h1
  · go_wp2
    go_ret2
    refine ⟨.inl ⟨?_, rfl⟩, B0.out⟩
    unfold openB
    rw [if_pos HL.out, ← HF.out, ← HT.out, if_pos (Or.inl h1)]
  rcases Nat.lt_or_ge 252 t with h2 | h2
  · go_wp2
    go_ret2
    refine ⟨.inl ⟨?_, rfl⟩, B0.out⟩
    unfold openB
    rw [if_pos HL.out, ← HF.out, ← HT.out, if_pos (Or.inr h2)]
  go_wp2
  go_loop [6] (fun i => ∃ j : Nat, f ≤ j ∧ j ≤ t ∧ i = .int .i64 j ∧ Hid ((l.drop (4 + f)).take (j - f) = List.replicate (j - f) 0)) (fun i => t - (intOf i).toNat)
  case atStart => exact ⟨f, Nat.le_refl _, h1, rfl, by show _ = _; rw [Nat.sub_self]; rfl⟩
  case round =>
    obtain ⟨j, hj1, hj2, rfl, HZ⟩ := hrel
    by_cases hjt : j < t
    · obtain ⟨b', o', x, he, _, hx, hcx⟩ := (HA.out.quiet HQ.out).byte (k := 4 + j) (by omega)
      cases he
      have HX := Lib.hid hx
      clear hx
      by_cases hx0 : x = 0
      · subst hx0
        have hbe : (((0 : UInt8).toNat : Int) != 0) = false := by decide
        go_wp2
        go_round
        case rel => exact ⟨j + 1, by omega, by omega, by go_num, zeros_next hj1 HZ.out HX.out⟩
        case measure => simp [intOf]; omega
      · have hbe : ((x.toNat : Int) != 0) = true := by
          simp only [bne_iff_ne, ne_eq]
          intro h
          exact hx0 (UInt8.toNat.inj (by simp; omega))
        have HN := Lib.hid hx0
        clear hx0
        go_wp2
        go_ret2
        refine ⟨.inl ⟨?_, rfl⟩, B0.out⟩
        unfold openB
        rw [if_pos HL.out, ← HF.out, ← HT.out, if_neg (by omega), if_neg (zeros_not hj1 hjt HX.out HN.out)]
    · obtain rfl : j = t := by omega

      go_wp2_with fail
      obtain ⟨F, hF⟩ : ∃ F, F = (l.drop 4).take f := ⟨_, rfl⟩
      obtain ⟨T, hT⟩ : ∃ T, T = l.drop (4 + j) := ⟨_, rfl⟩
      have hlF : F.length ≤ 252 := by rw [hF, List.length_take, List.length_drop, HL.out]; omega
      have hlT : T.length ≤ 252 := by rw [hT, List.length_drop, HL.out]; omega
      have hsum : ¬ 9223372036854775807 < F.length + T.length := by omega
      obtain ⟨f4, hf4⟩ : ∃ f4, f4 = 4 + f := ⟨_, rfl⟩
      obtain ⟨j4, hj4⟩ : ∃ j4, j4 = 4 + j := ⟨_, rfl⟩
      have hwa : IntKind.i64.wrap (4 + (f : Int)) = (f4 : Int) := by rw [IntWalk.i64_in _ (by omega)]; omega
      have hwb : IntKind.i64.wrap (4 + (j : Int)) = (j4 : Int) := by rw [IntWalk.i64_in _ (by omega)]; omega
      have hi1 : (4 : Int) ≤ (f4 : Int) := by omega
      have hi2 : (f4 : Int) ≤ (ca : Int) := by omega
      have hi3 : (j4 : Int) ≤ (256 : Int) := by omega
      have hca4 : ¬ ca = 4 := by omega
      have hr1 : ∀ W', W'.heap = wz.heap → Reads W' (some ⟨b, o + 4, none⟩) (f4 - 4) (F.map B8) := fun W' hW => by
        have h := (HA.out.quiet HQ.out)
        have h' : Reads W' (some ⟨b, o, none⟩) 256 (l.map B8) := by
          refine ⟨h.1, fun h0 => ?_⟩
          obtain ⟨b', o', e, hlt', hc'⟩ := h.2 h0
          exact ⟨b', o', e, by rw [hW]; exact hlt', fun k hk => by rw [World.cell?_of_block (w := wz) (by rw [hW])]; exact hc' k hk⟩
        rw [hF, show f4 - 4 = f from by omega]
        exact sub_bytes h' 4 f (by omega)
      have hr2 : ∀ W', W'.heap = wz.heap → Reads W' (if ca = j4 then some ⟨b, o, none⟩ else some ⟨b, o + j4, none⟩) (256 - j4) (T.map B8) := fun W' hW => by
        have h := (HA.out.quiet HQ.out)
        have h' : Reads W' (some ⟨b, o, none⟩) 256 (l.map B8) := by
          refine ⟨h.1, fun h0 => ?_⟩
          obtain ⟨b', o', e, hlt', hc'⟩ := h.2 h0
          exact ⟨b', o', e, by rw [hW]; exact hlt', fun k hk => by rw [World.cell?_of_block (w := wz) (by rw [hW])]; exact hc' k hk⟩
        have h2' := sub_bytes h' j4 (256 - j4) (by omega)
        rw [List.take_of_length_le (by rw [List.length_drop, HL.out]; exact Nat.le_refl _), show l.drop j4 = T from by rw [hT, hj4]] at h2'
        by_cases hc4 : ca = j4
        · have h0 : 256 - j4 = 0 := by omega
          have hTn : T = [] := List.eq_nil_of_length_eq_zero (by rw [hT, List.length_drop, HL.out]; omega)
          rw [h0, hTn]
          exact Reads.nil _ _
        · rw [if_neg hc4]
          exact h2'
      have hc1 : ∀ W', W'.heap = wz.heap → (convert 22 9 (.slice (some ⟨b, o + 4, none⟩) (f4 - 4) (ca - 4))).run Try.prog W' = .ok (.string (bstr F)) W' := fun W' hW =>
        run_bytes_str W' _ _ _ Try.underlying22 Try.underlying5 Try.underlying9 _ _ _ _ (hr1 W' hW)
      have hc2 : ∀ W', W'.heap = wz.heap → (convert 22 9 (.slice (if ca = j4 then some ⟨b, o, none⟩ else some ⟨b, o + j4, none⟩) (256 - j4) (ca - j4))).run Try.prog W' = .ok (.string (bstr T)) W' := fun W' hW =>
        run_bytes_str W' _ _ _ Try.underlying22 Try.underlying5 Try.underlying9 _ _ _ _ (hr2 W' hW)
      have hc1' := hc1 wz.drew rfl
      have hc2' := hc2 wz.drew rfl
      clear hc1 hc2
      have HF2 := Lib.hid hF
      have HT2 := Lib.hid hT
      have HF4 := Lib.hid hf4
      have HJ4 := Lib.hid hj4
      clear hr1 hr2 hF hT hf4 hj4
      go_still_tail 13, (by kernel_rfl)
      change wpList _ _ _ _ _ wz.drew
      have q1 : Quiet wz wz.drew := ⟨1, rfl⟩
      have B1 := Lib.hid (B0.out.trans (q1.below _))
      have z1 := B1.out.size
      generalize wz.drew = wy at B1 z1 ⊢
      generalize (if ca = j4 then some ({ block := b, off := o } : Addr) else some { block := b, off := o + j4 }) = X1
      clear hc1' hc2' hwa hwb q1
      go_wp2
      go_ret2
      refine ⟨.inr ⟨F ++ T, f, wy.heap.size, ?_, z1, row_new wy [.string (bstr (F ++ T)), .int .i64 f] _, rfl⟩, B1.out.alloc z1 _⟩
      unfold openB
      rw [if_pos HL.out, ← HF.out, ← HT.out, if_neg (by omega), if_pos HZ.out, ← HF2.out, ← HT2.out]
end Go.Proofs.Ytpafdemnnofihaa
