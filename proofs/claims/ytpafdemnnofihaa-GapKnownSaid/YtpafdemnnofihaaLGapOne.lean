/- GapOne: one block of each text and place. -/
import Derived.Test.YtpafdemnnofihaaGapW
import Derived.Test.YtpafdemnnofihaaEqb
namespace Go.Proofs.Ytpafdemnnofihaa
open Go.RowKit
set_option maxHeartbeats 4000000 in
set_option maxRecDepth 100000 in
theorem gapOne_walk (w : World) (S0 : List UInt8) (hm : S0.length ≤ 140737488351232) (at0 : Int) (hat : (Lit.int .i64 at0).wf = true) :
    Calls Try.prog 5 #[.string (bstr S0), .int .i64 at0] w fun e w' => e = .returned (.bool true) ∧ Below w.heap.size w w' := by
  obtain ⟨ha1, ha2⟩ := wf_i64 hat
  clear hat
  obtain ⟨s, hs, hsl, hcase⟩ : ∃ s : List UInt8, s.length ≤ 252 ∧ (252 < S0.length ∧ S0.take 252 = s ∨ S0.length ≤ 252 ∧ s = S0) ∧ True := by
    rcases Nat.lt_or_ge 252 S0.length with h | h
    · exact ⟨S0.take 252, by simp; omega, .inl ⟨h, rfl⟩, trivial⟩
    · exact ⟨S0, h, .inr ⟨h, rfl⟩, trivial⟩
  have hr1 : at0.tmod ((s.length : Int) + 1) < (s.length : Int) + 1 := Int.tmod_lt_of_pos _ (by omega)
  have hr2 : -((s.length : Int) + 1) < at0.tmod ((s.length : Int) + 1) := Int.lt_tmod_of_pos at0 (by omega)
  obtain ⟨r, hr⟩ : ∃ r : Int, at0.tmod ((s.length : Int) + 1) = r := ⟨_, rfl⟩
  rw [hr] at hr1 hr2
  obtain ⟨q, hq, hqc⟩ : ∃ q : Nat, q ≤ s.length ∧ (r < 0 ∧ r + (s.length : Int) + 1 = (q : Int) ∨ 0 ≤ r ∧ r = (q : Int)) := by
    rcases Int.lt_or_le r 0 with h | h
    · exact ⟨(r + s.length + 1).toNat, by omega, .inl ⟨h, by omega⟩⟩
    · exact ⟨r.toNat, by omega, .inr ⟨h, by omega⟩⟩
  clear hcase
  rcases hsl with ⟨hS, hcut⟩ | ⟨hS, rfl⟩
  all_goals
    rcases hqc with ⟨hneg, hqe⟩ | ⟨hneg, rfl⟩
    all_goals
      go_enter Try.func5, Try.ntmps5
      go_wp2_with fail
  all_goals
    have HSL := Lib.hid hs
    have HQ := Lib.hid hq
    try clear hcut
    try clear hqe
    clear hr hr1 hr2 hneg
    refine (makeYes _ s HSL.out).mono ?_
    rintro e w1 ⟨g, rfl, hg, h1, hb1⟩
    have H1 := Lib.hid h1
    have B1 := Lib.hid hb1
    have g1 := h1.lt
    clear h1 hb1
    go_wp2_with fail
    refine (makeYes _ [] (by decide)).mono ?_
    rintro e w2 ⟨h, rfl, hh, h2, hb2⟩
    have H2 : Hid (GapAt w2 g s s.length) := H1.out.keep hb2 g1
    have H2h : Hid (GapAt w2 h [] 0) := h2
    have B2 := Lib.hid (B1.out.trans (hb2.mono B1.out.size))
    have hgh : g < h := Nat.lt_of_lt_of_le g1 hh
    have hwh : w.heap.size ≤ h := Nat.le_trans hg (Nat.le_of_lt hgh)
    clear h2 hb2
    go_wp2
    go_loopw [9] (fun i wr => ∃ j : Nat, j ≤ s.length ∧ i = .int .i64 ((j : Int) - 1) ∧ Hid (GapAt wr g s s.length) ∧ Hid (∃ p, GapAt wr h (s.drop j) p) ∧ Hid (Below w.heap.size w wr)) (fun i _ => (intOf i + 1).toNat)
    case atStart => exact ⟨s.length, Nat.le_refl _, rfl, H2, ⟨0, by rw [List.drop_length]; exact H2h.out⟩, B2⟩
    case round =>
      obtain ⟨j, hj, rfl, HG, HH, HB⟩ := hrel
      rcases Nat.eq_zero_or_pos j with hj0 | hj0
      · subst hj0
        obtain ⟨p, hH0⟩ := HH.out
        have HH0 : Hid (GapAt wr h s p) := hH0
        clear hH0 HH
        go_wp2_with fail
        refine (moveA _ g s _ HG.out q HQ.out).mono ?_
        rintro e w3 ⟨rfl, h3, hg3⟩
        have H3 := Lib.hid h3
        have K3 : Hid (GapAt w3 h s p) := HH0.out.apart hg3 (by omega)
        have B3 := Lib.hid (below_fresh HB.out hg3 hg)
        clear h3 hg3
        go_wp2_with fail
        refine (moveA _ h s _ K3.out q HQ.out).mono ?_
        rintro e w4 ⟨rfl, h4, hg4⟩
        have K4 := Lib.hid h4
        have H4 : Hid (GapAt w4 g s q) := H3.out.apart hg4 (by omega)
        have B4 := Lib.hid (below_fresh B3.out hg4 hwh)
        clear h4 hg4
        go_wp2_with fail
        refine (blockA _ g s q H4.out).mono ?_
        rintro e w5 ⟨v5, rfl, hown5, hb5⟩
        obtain ⟨a5, c5, rfl, hr5, hle5, hcm5⟩ := reads_of_own hown5
        have H5 := Lib.hid (H4.out.keep hb5 H4.out.lt)
        have K5 := Lib.hid (K4.out.keep hb5 K4.out.lt)
        have HR5 := Lib.hid hr5
        have B5 := Lib.hid (B4.out.trans (hb5.mono B4.out.size))
        clear hown5 hb5 hr5
        go_wp2_with fail
        refine (blockA _ h s q K5.out).mono ?_
        rintro e w6 ⟨v6, rfl, hown6, hb6⟩
        obtain ⟨a6, c6, rfl, hr6, hle6, hcm6⟩ := reads_of_own hown6
        have H6 := Lib.hid (H5.out.keep hb6 H5.out.lt)
        have K6 := Lib.hid (K5.out.keep hb6 K5.out.lt)
        have HR6 := Lib.hid hr6
        have HR5b := Lib.hid (HR5.out.keep hb6 (Nat.le_refl _))
        have B6 := Lib.hid (B5.out.trans (hb6.mono B5.out.size))
        clear hown6 hb6 hr6
        go_wp2_with fail
        refine (eqBytes _ a5 a6 256 256 c5 c6 _ _ HR5b.out HR6.out (by decide) (by decide)).mono ?_
        rw [show sameB (blockL s q) (blockL s q) = true from by simp [sameB]]
        rintro e w7 ⟨rfl, hq7⟩
        have H7 := Lib.hid (H6.out.quiet hq7)
        have K7 := Lib.hid (K6.out.quiet hq7)
        have B7 := Lib.hid (B6.out.trans (hq7.below _))
        clear hq7
        go_wp2_with fail
        refine (textA _ g s q H7.out).mono ?_
        rintro e w8 ⟨rfl, hq8⟩
        have K8 := Lib.hid (K7.out.quiet hq8)
        have B8' := Lib.hid (B7.out.trans (hq8.below _))
        clear hq8
        go_wp2_with fail
        refine (textA _ h s q K8.out).mono ?_
        rintro e w9 ⟨rfl, hq9⟩
        have B9 := Lib.hid (B8'.out.trans (hq9.below _))
        clear hq9
        go_wp2_with fail
        refine (worksC _).mono ?_
        rintro e w10 ⟨rfl, hb10⟩
        have B10 := Lib.hid (B9.out.trans (hb10.mono B9.out.size))
        clear hb10
        go_wp2
        go_ret
        exact ⟨rfl, B10.out⟩
      · obtain ⟨k, rfl⟩ : ∃ k, j = k + 1 := ⟨j - 1, by omega⟩
        obtain ⟨p, hH0⟩ := HH.out
        have HH0 := Lib.hid hH0
        have hki : ((k + 1 : Nat) : Int) - 1 = (k : Int) := by omega
        rw [hki]
        obtain ⟨X, hX⟩ : ∃ X, (s.drop k).take 1 = X := ⟨_, rfl⟩
        have hXl : X.length = 1 := by rw [← hX]; simp; omega
        have hXd : X ++ s.drop (k + 1) = s.drop k := by
          rw [← hX]
          have := List.take_append_drop 1 (s.drop k)
          rwa [List.drop_drop] at this
        have HX := Lib.hid hXl
        have HXD := Lib.hid hXd
        have hk1 : (k : Int) + 1 ≤ s.length := by omega
        clear hXl hXd hH0 HH hki
        go_wp2_with fail
        refine (insertA _ h (s.drop (k + 1)) p HH0.out 0 X (Nat.zero_le _) (by rw [HX.out, List.length_drop]; have := HSL.out; omega)).mono ?_
        rintro e w3 ⟨rfl, h3, hg3⟩
        have hd : (s.drop (k + 1)).take 0 ++ (X ++ (s.drop (k + 1)).drop 0) = s.drop k := by
          rw [List.take_zero, List.drop_zero, List.nil_append, HXD.out]
        rw [hd] at h3
        have H3 : Hid (∃ p, GapAt w3 h (s.drop k) p) := ⟨_, h3⟩
        have G3 : Hid (GapAt w3 g s s.length) := HG.out.apart hg3 (by omega)
        have B3 := Lib.hid (below_fresh HB.out hg3 hwh)
        clear h3 hg3 hd hX
        go_wp2
        go_roundw
        case rel => exact ⟨k, by omega, rfl, G3, H3, B3⟩
        case measure => simp [intOf] <;> omega
end Go.Proofs.Ytpafdemnnofihaa
