/- Texts joined, one behind the other (LDiffBack, LDiffSteps, KnP). -/
import Derived.Test.YtnbihjocdlpplaaGreatDoorKq28
/- DiffBack: the walk. -/
namespace Go.Proofs.YtnbihjocdlpplaaGreatDoor
set_option linter.unusedVariables false
set_option linter.unusedSimpArgs false
open Go.RowKit
open Go.Lib hiding intOf
/-- how many lines a text has -/
theorem countL (w : World) (l : List UInt8) (hm : l.length ≤ 67108864) (hT : Tabs w) :
    Calls Tryz.prog 15 #[.string (bstr l)] w fun e w' => e = .returned (.int .i64 ((splitD l).length : Int)) ∧ Below w.heap.size w w' := by
  have hA := splitAC w l hm hT
  obtain ⟨x, hx, hl⟩ := splitA_last l
  have hlen := splitA_len l
  obtain ⟨q, hq⟩ : ∃ q, (splitA l).length = q + 1 := ⟨(splitA l).length - 1, by omega⟩
  rw [hq] at hx hlen hA
  have HA := Lib.hid hA
  have HX := Lib.hid hx
  have HL := Lib.hid hl
  have HQ := Lib.hid hq
  have hq2 : q ≤ 67108865 := by omega
  clear hx hl hq hlen hT hA
  go_enter Tryz.func15, Tryz.ntmps15
  go_upto_region 2 with (go_at_call 47; refine (HA.out).mono ?_; rintro e w1 ⟨a1, n1, c1, rfl, hn1, hc1, hm1, hR1, hb1⟩)
  try subst hn1
  obtain ⟨b, off, y, rfl, hb, hy, hcell⟩ := hR1.at (k := q) (by omega)
  have hxy : y = x := by
    have := HX.out
    simp only [Nat.add_sub_cancel] at this
    rw [this] at hy
    exact (Option.some.inj hy).symm
  subst hxy
  have HB1 := Lib.hid hb1
  have hqi : ((q : Int) + 1) - 1 = (q : Int) := by omega
  have hqp : 0 < (q : Int) + 1 := by omega
  clear hb1 hR1 hm1 hy
  by_cases h0 : y = []
  · subst h0
    have HD := Lib.hid (splitD_take l (by rw [HL.out]))
    go_wp2
    go_ret
    refine ⟨?_, HB1.out⟩
    rw [HD.out, List.length_take, HQ.out]
    simp
  · have HD := Lib.hid (splitD_all l (by rw [HL.out]; simpa using h0))
    have he : y.isEmpty = false := by cases y with | nil => exact absurd rfl h0 | cons _ _ => rfl
    clear h0
    go_wp2
    go_ret
    refine ⟨?_, HB1.out⟩
    rw [HD.out, HQ.out]
    simp
theorem printK_small {X : List HkI} {k : Nat} (hl : linesK X ≤ 1024) (hb : bytesK X ≤ k) : (printK X).length ≤ k + 4096 := by
  have := printK_len X
  omega
theorem patch_sums {a b : List UInt8} (ha : (splitD a).length ≤ 512) (hb : (splitD b).length ≤ 512) : linesK ((patchL (splitD a) (splitD b)).map toI) ≤ 1024 ∧ bytesK ((patchL (splitD a) (splitD b)).map toI) ≤ a.length + b.length := by
  have hok := patch_okB (splitD a) (splitD b)
  have h1 := lines_sides _ (fun x hx => (okB_mem _ 0 hok x hx).1)
  have h2 := bytes_sides _ (fun x hx => (okB_mem _ 0 hok x hx).1)
  rw [(patch_sidesI (splitD a) (splitD b)).1, (patch_sidesI (splitD a) (splitD b)).2] at h1 h2
  rw [splitD_flat, splitD_flat] at h2
  omega
set_option maxHeartbeats 16000000 in
set_option maxRecDepth 100000 in
theorem diffBack_walk (w : World) (a : List UInt8) (ha : a.length ≤ 1048576) (b : List UInt8) (hb : b.length ≤ 1048576) (hT : Tabs w) :
    Calls Tryz.prog 5 #[.string (bstr a), .string (bstr b)] w fun e w' => e = .returned (.bool true) ∧ Below w.heap.size w w' := by
  have HT := Lib.hid hT
  have HCA := Lib.hid (fun W hW => countL W a (by omega) hW)
  have HCB := Lib.hid (fun W hW => countL W b (by omega) hW)
  have HL := Lib.hid (fun W hW => (linesC W a b (by omega) (by omega) hW).mono (fun e w' h => lines_own h))
  obtain ⟨na, hna⟩ : ∃ na, na = (splitD a).length := ⟨_, rfl⟩
  obtain ⟨nb, hnb⟩ : ∃ nb, nb = (splitD b).length := ⟨_, rfl⟩
  rw [← hna] at HCA
  rw [← hnb] at HCB
  by_cases ht : tooL (splitD a) (splitD b)
  · have hE : linesE (splitD a) (splitD b) = 4 := by unfold linesE; rw [if_pos ht]
    have hH : linesH (splitD a) (splitD b) = [] := by unfold linesH; rw [if_pos ht]
    rw [hE, hH] at HL
    have hor : 512 < na ∨ (na ≤ 512 ∧ 512 < nb) := by unfold tooL at ht; omega
    clear hT ht hE hH hna hnb
    rcases hor with h1 | ⟨h1, h2⟩
    · have h1i : (512 : Int) < (na : Int) := by omega
      go_enter Tryz.func5, Tryz.ntmps5
      go_wp2_with (first
        | (go_at_call 11; refine (HL.out w HT.out).mono ?_; rintro e w1 ⟨v1, B1, rfl, hP1, _, _, hb1⟩; obtain ⟨a1, rfl, _⟩ := hP1.reads; have HB1 := Lib.hid hb1; clear hP1 hb1)
        | (go_at_call 15; refine (HCA.out w1 (HT.out.next HB1.out)).mono ?_; rintro e w2 ⟨rfl, hb⟩; have HB2 := Lib.hid (below_next HB1.out (Nat.le_refl _) hb); clear hb)
        | (go_at_call 10; refine (worksC w2 (HT.out.next HB2.out)).mono ?_; rintro e w3 ⟨rfl, hb⟩; have HB3 := Lib.hid (below_next HB2.out (Nat.le_refl _) hb); clear hb))
      go_ret
      exact ⟨rfl, HB3.out⟩
    · have h1i : ¬ (512 : Int) < (na : Int) := by omega
      have h2i : (512 : Int) < (nb : Int) := by omega
      go_enter Tryz.func5, Tryz.ntmps5
      go_wp2_with (first
        | (go_at_call 11; refine (HL.out w HT.out).mono ?_; rintro e w1 ⟨v1, B1, rfl, hP1, _, _, hb1⟩; obtain ⟨a1, rfl, _⟩ := hP1.reads; have HB1 := Lib.hid hb1; clear hP1 hb1)
        | (go_at_call_of 15 (Value.string (bstr a)); refine (HCA.out w1 (HT.out.next HB1.out)).mono ?_; rintro e w2 ⟨rfl, hb⟩; have HB2 := Lib.hid (below_next HB1.out (Nat.le_refl _) hb); clear hb)
        | (go_at_call_of 15 (Value.string (bstr b)); refine (HCB.out w2 (HT.out.next HB2.out)).mono ?_; rintro e w4 ⟨rfl, hb⟩; have HB4 := Lib.hid (below_next HB2.out (Nat.le_refl _) hb); clear hb)
        | (go_at_call 10; refine (worksC w4 (HT.out.next HB4.out)).mono ?_; rintro e w3 ⟨rfl, hb⟩; have HB3 := Lib.hid (below_next HB4.out (Nat.le_refl _) hb); clear hb))
      go_ret
      exact ⟨rfl, HB3.out⟩
  · have hE : linesE (splitD a) (splitD b) = 0 := by unfold linesE; rw [if_neg ht]
    have hH : linesH (splitD a) (splitD b) = patchL (splitD a) (splitD b) := by unfold linesH; rw [if_neg ht]
    have hta : ¬ tooL (splitD a) (splitD a) := by unfold tooL at ht ⊢; omega
    have HL0 := Lib.hid (fun W hW => (linesC W a a (by omega) (by omega) hW).mono (fun e w' h => lines_own h))
    have hE0 : linesE (splitD a) (splitD a) = 0 := by unfold linesE; rw [if_neg hta]
    have hH0 : linesH (splitD a) (splitD a) = patchL (splitD a) (splitD a) := by unfold linesH; rw [if_neg hta]
    rw [hE0, hH0] at HL0
    rw [hE, hH] at HL
    have hA5 : (splitD a).length ≤ 512 := by unfold tooL at ht; omega
    have hB5 : (splitD b).length ≤ 512 := by unfold tooL at ht; omega
    have hck := patch_check hA5 hB5
    have hF := patch_fit (x := a) (y := b) hA5 hB5 (by omega)
    have hF0 := patch_fit (x := a) (y := a) hA5 hA5 (by omega)
    obtain ⟨hsA, hsB⟩ := patch_sidesI (splitD a) (splitD b)
    have hkk : okKinds 0 (patchL (splitD a) (splitD b)) := patchOf_ok _
    have hbb := back_back hkk
    have hokB := patch_okB (splitD a) (splitD b)
    obtain ⟨hs2, hs3⟩ := back_sides hokB
    have hck2 := back_check hck
    have hdb := dist_back hokB
    have hpp := parse_print hck
    have hpz := patch_zero (a := a) (b := b)
    have hd0 : distI ((patchL (splitD a) (splitD a)).map toI) = 0 := patch_zero.2 rfl
    have hsum := patch_sums hA5 hB5
    have hps := printK_small hsum.1 hsum.2
    obtain ⟨H, hHd⟩ : ∃ H, H = patchL (splitD a) (splitD b) := ⟨_, rfl⟩
    obtain ⟨H0, hH0d⟩ : ∃ H0, H0 = patchL (splitD a) (splitD a) := ⟨_, rfl⟩
    rw [← hHd] at HL hck hF hsA hsB hbb hs2 hs3 hck2 hdb hpp hpz hps hokB
    rw [← hH0d] at HL0 hF0 hd0
    clear hHd hH0d
    obtain ⟨X, hX⟩ : ∃ X, X = H.map toI := ⟨_, rfl⟩
    obtain ⟨X0, hX0⟩ : ∃ X0, X0 = H0.map toI := ⟨_, rfl⟩
    have HXX := Lib.hid hX
    have HXX0 := Lib.hid hX0
    rw [← hX] at hck hF hsA hsB hbb hs2 hs3 hck2 hdb hpp hpz hps hokB
    rw [← hX0] at hF0 hd0
    obtain ⟨K, hK⟩ : ∃ K, K = backI X := ⟨_, rfl⟩
    rw [← hK] at hbb hs2 hs3 hck2 hdb
    obtain ⟨Y, hY⟩ : ∃ Y, Y = K.map toI := ⟨_, rfl⟩
    have HYY := Lib.hid hY
    have HKK := Lib.hid hK
    rw [← hY] at hbb hs2 hs3 hck2 hdb
    have hFY : Fit Y := fit_of (check_parts hck2).1 (by rw [hs2, hsB]; exact hB5) (by rw [hs3, hsA]; exact hA5) (by rw [hs2, hs3, hsA, hsB, splitD_flat, splitD_flat]; omega)
    have eA : applyE a X = .returned (.tuple #[.string (bstr b), .int .i64 0]) := by
      unfold applyE fitsB
      rw [hck, hsA, splitD_flat, hsB, splitD_flat]
      simp
    have eB : applyE b Y = .returned (.tuple #[.string (bstr a), .int .i64 0]) := by
      unfold applyE fitsB
      rw [hck2, hs2, hs3, hsA, hsB, splitD_flat, splitD_flat]
      simp
    obtain ⟨P, hP⟩ : ∃ P, P = printK X := ⟨_, rfl⟩
    have eP : printE X = .returned (.tuple #[.string (bstr P), .int .i64 0]) := by unfold printE; rw [if_pos hck, hP]
    rw [← hP] at hpp hps
    obtain ⟨d, hd⟩ : ∃ d : Int, d = (distI X : Int) := ⟨_, rfl⟩
    obtain ⟨bo, hbo⟩ : ∃ bo : Bool, bo = (a == b) := ⟨_, rfl⟩
    have q1 : (d == 0) = bo := by
      rw [hbo, hd, Bool.eq_iff_iff, beq_iff_eq, beq_iff_eq, ← hpz]
      omega
    have q2 : (a == b) = bo := hbo.symm
    have q3 : (bo == bo) = true := by simp
    have q4 : (b != b) = false := by simp
    have q5 : (a != a) = false := by simp
    have q6 : (P != P) = false := by simp
    have q7 : (P == P) = true := by simp
    have q8 : (d == d) = true := by simp
    have HAX := Lib.hid (fun W c n u (hR : ReadsK W c n X) hW => applyC W a c n u X hR hF hW)
    rw [eA] at HAX
    have HAY := Lib.hid (fun W c n u (hR : ReadsK W c n Y) hW => applyC W b c n u Y hR hFY hW)
    rw [eB] at HAY
    have HKX := Lib.hid (fun W c n u (hR : ReadsK W c n X) hW => checkC W c n u X hR hF hW)
    rw [hck] at HKX
    have HKY := Lib.hid (fun W c n u (hR : ReadsK W c n Y) hW => checkC W c n u Y hR hFY hW)
    rw [hck2] at HKY
    have HBX := Lib.hid (fun W c n u (hR : ReadsK W c n X) hW => (backC W c n u X hR hF hW).mono (fun e w' h => back_own h))
    have HBY := Lib.hid (fun W c n u (hR : ReadsK W c n Y) hW => (backC W c n u Y hR hFY hW).mono (fun e w' h => back_own h))
    have hbX : backH X = K := by unfold backH; rw [if_pos hck, hK]
    have hbY : backH Y = H := by unfold backH; rw [if_pos hck2, hbb]
    rw [hbX, hck] at HBX
    rw [hbY, hck2] at HBY
    have HPX := Lib.hid (fun W c n u (hR : ReadsK W c n X) hW => printC W c n u X hR hF hW)
    rw [eP] at HPX
    have HDX := Lib.hid (fun W c n u (hR : ReadsK W c n X) => distC W c n u X hR hF)
    have HDY := Lib.hid (fun W c n u (hR : ReadsK W c n Y) => distC W c n u Y hR hFY)
    have HD0 := Lib.hid (fun W c n u (hR : ReadsK W c n X0) => distC W c n u X0 hR hF0)
    rw [hdb] at HDY
    rw [hd0] at HD0
    rw [← hd] at HDX HDY
    have HPA := Lib.hid (fun W (hW : Tabs W) => (parseC W P (by omega) hW).mono (fun e w' h => parse_good hpp h))
    have h1i : ¬ (512 : Int) < (na : Int) := by omega
    have h2i : ¬ (512 : Int) < (nb : Int) := by omega
    clear hT ht hE hH hta hE0 hH0 hA5 hB5 hck hF hF0 hsA hsB hkk hbb hokB hs2 hs3 hck2 hdb hpp hpz hd0 hsum hps hX hX0 hK hY hFY eA eB hP eP hd hbo hbX hbY hna hnb
    have errz : errP true = 0 := rfl
    rw [errz] at HKX HKY HBX HBY
    clear errz
    go_enter Tryz.func5, Tryz.ntmps5
    go_upto_region 2 with (go_at_call 11; refine (HL.out w HT.out).mono ?_; rintro e w1 ⟨v1, B1, rfl, hP, _, _, hb⟩; obtain ⟨a1, rfl, hr⟩ := hP.reads; have HB1 := Lib.hid hb; have HR1 := Lib.hid hr; clear hP hb hr)
    rw [← HXX.out] at HR1
    obtain ⟨m, hm⟩ : ∃ m, m = H.length := ⟨_, rfl⟩
    rw [← hm] at HR1 ⊢
    have HMM := Lib.hid hm
    clear hm
    have HK := Lib.hid (fun W (hW : Below w1.heap.size w1 W) => (⟨HR1.out.keep hW (Nat.le_refl _), HT.out.next (HB1.out.trans (hW.mono HB1.out.size)), HB1.out.trans (hW.mono HB1.out.size)⟩ : ReadsK W a1 m X ∧ Tabs W ∧ Below w.heap.size w W))
    have HZ1 := Lib.hid (Below.refl w1.heap.size w1)
    go_upto_region 4 with (first
      | (go_at_call_of 15 (Value.string (bstr a)); refine (HCA.out w1 (HK.out w1 HZ1.out).2.1).mono ?_; rintro e w2 ⟨rfl, hb⟩; have HB2 := Lib.hid (below_next HZ1.out (Nat.le_refl _) hb); clear hb)
      | (go_at_call_of 15 (Value.string (bstr b)); refine (HCB.out w2 (HK.out w2 HB2.out).2.1).mono ?_; rintro e w3 ⟨rfl, hb⟩; have HB3 := Lib.hid (below_next HB2.out (Nat.le_refl _) hb); clear hb))
    go_upto_region 5 with (go_at_call 16; refine (HAX.out w3 a1 m m (HK.out w3 HB3.out).1 (HK.out w3 HB3.out).2.1).mono ?_; rintro e w4 ⟨rfl, hb⟩; have HB4 := Lib.hid (below_next HB3.out (Nat.le_refl _) hb); clear hb)
    go_upto_region 6 with (go_at_call 17; refine (HBX.out w4 a1 m m (HK.out w4 HB4.out).1 (HK.out w4 HB4.out).2.1).mono ?_; rintro e w5 ⟨v5, B5, rfl, hP, _, _, hb⟩; obtain ⟨a5, rfl, hr⟩ := hP.reads; have HR5 := Lib.hid hr; have HB5 := Lib.hid (below_next HB4.out (Nat.le_refl _) hb); clear hP hb hr)
    rw [← HYY.out] at HR5
    obtain ⟨my, hmy⟩ : ∃ my, my = K.length := ⟨_, rfl⟩
    rw [← hmy] at HR5 ⊢
    clear hmy
    have HZ5 := Lib.hid (Below.refl w5.heap.size w5)
    go_upto_region 7 with (go_at_call 16; refine (HAY.out w5 a5 my my HR5.out (HK.out w5 HB5.out).2.1).mono ?_; rintro e w6 ⟨rfl, hb⟩; have HB6 := Lib.hid (below_next HB5.out (Nat.le_refl _) hb); have HC6 := Lib.hid (below_next HZ5.out (Nat.le_refl _) hb); clear hb)
    go_upto_region 9 with (first
      | (go_at_call_of 18 (Value.slice a1 m m); refine (HKX.out w6 a1 m m (HK.out w6 HB6.out).1 (HK.out w6 HB6.out).2.1).mono ?_; rintro e w7 ⟨rfl, hb⟩; have HB7 := Lib.hid (below_next HB6.out (Nat.le_refl _) hb); have HC7 := Lib.hid (below_next HC6.out (Nat.le_refl _) hb); clear hb)
      | (go_at_call_of 18 (Value.slice a5 my my); refine (HKY.out w7 a5 my my (HR5.out.keep HC7.out (Nat.le_refl _)) (HK.out w7 HB7.out).2.1).mono ?_; rintro e w8 ⟨rfl, hb⟩; have HB8 := Lib.hid (below_next HB7.out (Nat.le_refl _) hb); have HC8 := Lib.hid (below_next HC7.out (Nat.le_refl _) hb); clear hb))
    go_upto_region 10 with (go_at_call 17; refine (HBY.out w8 a5 my my (HR5.out.keep HC8.out (Nat.le_refl _)) (HK.out w8 HB8.out).2.1).mono ?_; rintro e w9 ⟨v9, B9, rfl, hP, _, _, hb⟩; obtain ⟨a9, rfl, hr⟩ := hP.reads; have HR9 := Lib.hid hr; have HB9 := Lib.hid (below_next HB8.out (Nat.le_refl _) hb); have HC9 := Lib.hid (below_next HC8.out (Nat.le_refl _) hb); clear hP hb hr)
    rw [← HXX.out, ← HMM.out] at HR9
    rw [← HMM.out]
    have HZ9 := Lib.hid (Below.refl w9.heap.size w9)
    go_upto_region 11 with (go_at_call 19; refine (HPX.out w9 a1 m m (HK.out w9 HB9.out).1 (HK.out w9 HB9.out).2.1).mono ?_; rintro e w10 ⟨rfl, hb⟩; have HB10 := Lib.hid (below_next HB9.out (Nat.le_refl _) hb); have HC10 := Lib.hid (below_next HC9.out (Nat.le_refl _) hb); have HD10 := Lib.hid (below_next HZ9.out (Nat.le_refl _) hb); clear hb)
    go_upto_region 12 with (go_at_call 19; refine (HPX.out w10 a9 m m (HR9.out.keep HD10.out (Nat.le_refl _)) (HK.out w10 HB10.out).2.1).mono ?_; rintro e w11 ⟨rfl, hb⟩; have HB11 := Lib.hid (below_next HB10.out (Nat.le_refl _) hb); have HC11 := Lib.hid (below_next HC10.out (Nat.le_refl _) hb); clear hb)
    go_upto_region 13 with (go_at_call 20; refine (HPA.out w11 (HK.out w11 HB11.out).2.1).mono ?_; rintro e w12 ⟨v12, B12, rfl, hP, _, _, hb⟩; obtain ⟨a12, rfl, hr⟩ := hP.reads; have HR12 := Lib.hid hr; have HB12 := Lib.hid (below_next HB11.out (Nat.le_refl _) hb); have HC12 := Lib.hid (below_next HC11.out (Nat.le_refl _) hb); clear hP hb hr)
    rw [← HXX.out, ← HMM.out] at HR12
    rw [← HMM.out]
    go_upto_region 16 with (go_at_call 19; refine (HPX.out w12 a12 m m HR12.out (HK.out w12 HB12.out).2.1).mono ?_; rintro e w13 ⟨rfl, hb⟩; have HB13 := Lib.hid (below_next HB12.out (Nat.le_refl _) hb); have HC13 := Lib.hid (below_next HC12.out (Nat.le_refl _) hb); clear hb)
    go_upto_region 17 with (go_at_call 11; refine (HL0.out w13 (HK.out w13 HB13.out).2.1).mono ?_; rintro e w14 ⟨v14, B14, rfl, hP, _, _, hb⟩; obtain ⟨a14, rfl, hr⟩ := hP.reads; have HR14 := Lib.hid hr; have HB14 := Lib.hid (below_next HB13.out (Nat.le_refl _) hb); have HC14 := Lib.hid (below_next HC13.out (Nat.le_refl _) hb); clear hP hb hr)
    rw [← HXX0.out] at HR14
    obtain ⟨m0, hm0⟩ : ∃ m0, m0 = H0.length := ⟨_, rfl⟩
    rw [← hm0] at HR14 ⊢
    clear hm0
    go_wp2_with (first
      | (go_at_call_of 21 (Value.slice a14 m0 m0); refine (HD0.out w14 a14 m0 m0 HR14.out).mono ?_; rintro e w15 ⟨rfl, hb⟩; have HB15 := Lib.hid (below_next HB14.out (Nat.le_refl _) hb); have HC15 := Lib.hid (below_next HC14.out (Nat.le_refl _) hb); clear hb)
      | (go_at_call_of 21 (Value.slice a5 my my); refine (HDY.out w15 a5 my my (HR5.out.keep HC15.out (Nat.le_refl _))).mono ?_; rintro e w16 ⟨rfl, hb⟩; have HB16 := Lib.hid (below_next HB15.out (Nat.le_refl _) hb); clear hb)
      | (go_at_call_of 21 (Value.slice a1 m m); refine (HDX.out w16 a1 m m (HK.out w16 HB16.out).1).mono ?_; rintro e w17 ⟨rfl, hb⟩; have HB17 := Lib.hid (below_next HB16.out (Nat.le_refl _) hb); clear hb)
      | (go_at_call_of 21 (Value.slice a1 m m); refine (HDX.out w17 a1 m m (HK.out w17 HB17.out).1).mono ?_; rintro e w18 ⟨rfl, hb⟩; have HB18 := Lib.hid (below_next HB17.out (Nat.le_refl _) hb); clear hb)
      | (go_at_call 10; refine (worksC w18 (HK.out w18 HB18.out).2.1).mono ?_; rintro e w19 ⟨rfl, hb⟩; have HB19 := Lib.hid (below_next HB18.out (Nat.le_refl _) hb); clear hb))
    go_ret
    exact ⟨rfl, (HK.out _ HB19.out).2.2⟩
end Go.Proofs.YtnbihjocdlpplaaGreatDoor
/- DiffSteps: the walk. -/
namespace Go.Proofs.YtnbihjocdlpplaaGreatDoor
set_option linter.unusedVariables false
set_option linter.unusedSimpArgs false
open Go.RowKit
open Go.Lib hiding intOf
def moreB : List UInt8 := [10, 109, 111, 114, 101, 10]
set_option maxHeartbeats 16000000 in
set_option maxRecDepth 100000 in
theorem diffSteps_walk (w : World) (a : List UInt8) (ha : a.length ≤ 1048576) (b : List UInt8) (hb : b.length ≤ 1048576) (hT : Tabs w) :
    Calls Tryz.prog 6 #[.string (bstr a), .string (bstr b)] w fun e w' => e = .returned (.bool true) ∧ Below w.heap.size w w' := by
  have HT := Lib.hid hT
  have HL := Lib.hid (fun W hW => (linesC W a b (by omega) (by omega) hW).mono (fun e w' h => lines_own h))
  by_cases ht : tooL (splitD a) (splitD b)
  · have hE : linesE (splitD a) (splitD b) = 4 := by unfold linesE; rw [if_pos ht]
    have hH : linesH (splitD a) (splitD b) = [] := by unfold linesH; rw [if_pos ht]
    rw [hE, hH] at HL
    clear hT ht hE hH
    go_enter Tryz.func6, Tryz.ntmps6
    go_wp2_with (first
      | (go_at_call 11; refine (HL.out w HT.out).mono ?_; rintro e w1 ⟨v1, B1, rfl, hP1, _, _, hb1⟩; have HB1 := Lib.hid hb1; clear hP1 hb1)
      | (go_at_call 10; refine (worksC w1 (HT.out.next HB1.out)).mono ?_; rintro e w3 ⟨rfl, hb⟩; have HB3 := Lib.hid (below_next HB1.out (Nat.le_refl _) hb); clear hb))
    go_ret
    exact ⟨rfl, HB3.out⟩
  · have hE : linesE (splitD a) (splitD b) = 0 := by unfold linesE; rw [if_neg ht]
    have hH : linesH (splitD a) (splitD b) = patchL (splitD a) (splitD b) := by unfold linesH; rw [if_neg ht]
    rw [hE, hH] at HL
    have hA5 : (splitD a).length ≤ 512 := by unfold tooL at ht; omega
    have hB5 : (splitD b).length ≤ 512 := by unfold tooL at ht; omega
    have hck := patch_check hA5 hB5
    have hF := patch_fit (x := a) (y := b) hA5 hB5 (by omega)
    obtain ⟨hsA, hsB⟩ := patch_sidesI (splitD a) (splitD b)
    have hsum := patch_sums hA5 hB5
    obtain ⟨H, hHd⟩ : ∃ H, H = patchL (splitD a) (splitD b) := ⟨_, rfl⟩
    rw [← hHd] at HL hck hF hsA hsB hsum
    clear hHd
    obtain ⟨X, hX⟩ : ∃ X, X = H.map toI := ⟨_, rfl⟩
    have HXX := Lib.hid hX
    rw [← hX] at hck hF hsA hsB hsum
    have hfa : fitsB a X = true := by unfold fitsB; rw [hck, hsA, splitD_flat]; simp
    have hfm : fitsB (a ++ moreB) X = false := by
      unfold fitsB
      rw [hck, hsA, splitD_flat, Bool.true_and, beq_eq_false_iff_ne]
      intro e
      have := congrArg List.length e
      rw [List.length_append] at this
      simp [moreB] at this
    obtain ⟨T, t0, t1, t2⟩ := steps_patch hfa
    rw [hsB, splitD_flat] at t1 t2
    have HCA := Lib.hid (fun W c n u (hR : ReadsK W c n X) hW => changesP W a c n u X hR hF hW)
    have HCM := Lib.hid (fun W c n u (hR : ReadsK W c n X) hW => changesP W (a ++ moreB) c n u X hR hF hW)
    have hchm : chOut (a ++ moreB) X = [] := by unfold chOut; rw [hfm]; rfl
    rw [hfa] at HCA
    rw [hfm, hchm] at HCM
    have hlen := chOut_len a X
    obtain ⟨C, hC⟩ : ∃ C, C = chOut a X := ⟨_, rfl⟩
    rw [← hC] at HCA t1 t2 hlen
    have hlx : X.length ≤ 16777216 := hF.1
    obtain ⟨nc, hnc⟩ : ∃ nc, nc = C.length := ⟨_, rfl⟩
    rw [← hnc] at HCA t1 hlen
    have HNC := Lib.hid hnc
    have e0 : errP true = 0 := rfl
    have e1 : errP false = 310 := rfl
    rw [e0] at HCA
    rw [e1] at HCM
    have HT0 := Lib.hid t0
    have HT1 := Lib.hid t1
    have HT2 := Lib.hid t2
    have hncb : nc ≤ 16777216 := by omega
    have hal : ¬ 9223372036854775807 < a.length + 6 := by omega
    have hAB : a.length + b.length ≤ 2097152 := by omega
    have HAB := Lib.hid hAB
    have q4 : (b != b) = false := by simp
    have q5 : (a == a) = true := by simp
    clear hT ht hE hH hA5 hB5 hck hF hsA hsB hsum hX hfa hfm t0 t1 t2 hchm hC hnc e0 e1 hlen hlx hAB
    go_enter Tryz.func6, Tryz.ntmps6
    go_upto_region 2 with (go_at_call 11; refine (HL.out w HT.out).mono ?_; rintro e w1 ⟨v1, B1, rfl, hP, _, _, hb⟩; obtain ⟨a1, rfl, hr⟩ := hP.reads; have HB1 := Lib.hid hb; have HR1 := Lib.hid hr; clear hP hb hr)
    rw [← HXX.out] at HR1
    obtain ⟨m, hm⟩ : ∃ m, m = H.length := ⟨_, rfl⟩
    rw [← hm] at HR1 ⊢
    clear hm
    have HK := Lib.hid (fun W (hW : Below w1.heap.size w1 W) => (⟨HR1.out.keep hW (Nat.le_refl _), HT.out.next (HB1.out.trans (hW.mono HB1.out.size)), HB1.out.trans (hW.mono HB1.out.size)⟩ : ReadsK W a1 m X ∧ Tabs W ∧ Below w.heap.size w W))
    have HZ1 := Lib.hid (Below.refl w1.heap.size w1)
    go_upto_region 5 with (go_at_call 22; refine (HCA.out w1 a1 m m (HK.out w1 HZ1.out).1 (HK.out w1 HZ1.out).2.1).mono ?_; rintro e w2 ⟨⟨v2, c2, rfl, hO⟩, hb⟩; have HO2 := Lib.hid (hO.readsA HNC.out); have HB2 := Lib.hid hb; clear hO hb)
    have HZ2 := Lib.hid (Below.refl w2.heap.size w2)
    go_wp2
    go_loopw [8, 9, 10] (fun us ua ui wr => ∃ (i q : Nat), us = .string (bstr (T i)) ∧ ua = .int .i64 (q : Int) ∧ ui = .int .i64 (i : Int) ∧ i ≤ nc ∧ q ≤ 4194304 ∧ Hid ((∀ c : Ch, C[i]? = some c → q ≤ c.1 ∧ (0 < i → c.1 ≠ q)) ∧ Below w1.heap.size w1 wr ∧ Below w2.heap.size w2 wr)) (fun _ _ ui _ => nc - (RowKit.intOf ui).toNat)
    case atStart => exact ⟨0, 0, by rw [HT0.out], rfl, rfl, Nat.zero_le _, Nat.zero_le _, Lib.hid ⟨fun c _ => ⟨Nat.zero_le _, fun h => absurd h (Nat.lt_irrefl _)⟩, HB2.out, HZ2.out⟩⟩
    case round =>
      obtain ⟨i, q, rfl, rfl, rfl, hi, hq, HR⟩ := hrel
      by_cases hlt : i < nc
      · obtain ⟨g, off, c, rfl, hg, hci, h1, h2, h3⟩ := (HO2.out.keep HR.out.2.2 (Nat.le_refl _)).at hlt
        obtain ⟨⟨pre, post, hp1, hp2, hp3⟩, hne, hl1, hl2, hlo⟩ := HT2.out i c hci
        obtain ⟨hqc, hqn⟩ := HR.out.1 c hci
        obtain ⟨cp, cx, cy⟩ := c
        dsimp only at h1 h2 h3 hp1 hp2 hp3 hne hqc hqn
        subst hp2
        have hab := HAB.out
        have HA := Lib.hid (fun W => histC W pre cx cy post (by rw [← hp1]; omega) (by rw [← hp3]; omega))
        rw [← hp1, ← hp3] at HA
        have hlp : pre.length ≤ 2097152 := by rw [hp1] at hl1; simp only [List.length_append] at hl1; omega
        have hly : pre.length + cy.length ≤ 2097152 := by rw [hp3] at hl2; simp only [List.length_append] at hl2; omega
        have HNX : Hid (∀ d : Ch, C[i + 1]? = some d → pre.length + cy.length ≤ d.1 ∧ (0 < i + 1 → d.1 ≠ pre.length + cy.length)) := Lib.hid (fun d hd => by
          obtain ⟨_, _, _, _, h9⟩ := HT2.out (i + 1) d hd
          have h8 := h9 (pre.length, cx, cy) (by omega) (by rw [Nat.add_sub_cancel]; exact hci)
          dsimp only at h8
          exact ⟨by omega, fun _ => by omega⟩)
        obtain ⟨cp, hcp⟩ : ∃ cp, cp = pre.length := ⟨_, rfl⟩
        rw [← hcp] at h1 hqc hqn HA hlp hly HNX
        obtain ⟨yl, hyl⟩ : ∃ yl, yl = cy.length := ⟨_, rfl⟩
        have hysz : (bstr cy).size = yl := by rw [bstr_size, hyl]
        rw [← hyl] at hly HNX
        have hit : (i : Int) < (nc : Int) := by omega
        have k2 : ¬ (cp : Int) < (q : Int) := by omega
        have k2b : (q : Int) ≤ (cp : Int) := by omega
        clear hci hp1 hp3 hl1 hl2 hlo hcp hyl
        have hcs : (cx.isEmpty = false) ∨ (cx.isEmpty = true ∧ cy.isEmpty = false) := by
          cases cx with
          | nil =>
            refine .inr ⟨rfl, ?_⟩
            rcases hne with h | h
            · exact absurd rfl h
            · cases cy with | nil => exact absurd rfl h | cons _ _ => rfl
          | cons _ _ => exact .inl rfl
        have hci2 : (0 < (i : Int) ∧ ((cp : Int) == (q : Int)) = false) ∨ ¬ 0 < (i : Int) := by
          by_cases h0 : 0 < i
          · exact .inl ⟨by omega, by rw [beq_eq_false_iff_ne]; have := hqn h0; omega⟩
          · exact .inr (by omega)
        clear hne hqn hqc
        rcases hcs with e1 | ⟨e1, e2⟩ <;> rcases hci2 with ⟨k3, k4⟩ | k3
        all_goals
          go_wp2_with (go_at_call 23; refine (HA.out _).mono ?_; rintro e w5 ⟨rfl, hb5⟩; have HB5 := Lib.hid (below_next HR.out.2.1 (Nat.le_refl _) hb5); have HC5 := Lib.hid (below_next HR.out.2.2 (Nat.le_refl _) hb5); have c1 := (hb5.cell (p := ⟨g, off + i * 3, none⟩) hg).trans h1; have c2 := (hb5.cell (p := ⟨g, off + i * 3 + 1, none⟩) hg).trans h2; have c3 := (hb5.cell (p := ⟨g, off + i * 3 + 2, none⟩) hg).trans h3; clear hb5)
          go_quiet (fail)
          go_wp2
          go_roundw
          case rel => exact ⟨i + 1, cp + yl, rfl, by go_num, by go_num, hlt, by omega, Lib.hid ⟨HNX.out, HB5.out.trans (((Quiet.refl _).drewN _).below _), HC5.out.trans (((Quiet.refl _).drewN _).below _)⟩⟩
          case measure => simp [RowKit.intOf]; omega
      · obtain rfl : i = nc := by omega
        rw [HT1.out]
        have HB3 : Hid (Below w1.heap.size w1 wr) := Lib.hid HR.out.2.1
        have HC3 : Hid (Below w2.heap.size w2 wr) := Lib.hid HR.out.2.2
        clear HR hlt hi
        have hi1 : (i : Int) - 1 ≤ 16777216 := by omega
        have hi2 : -1 ≤ (i : Int) - 1 := by omega
        go_wp2
        go_loopw [8, 13] (fun us ui wr => ∃ j : Nat, us = .string (bstr (T j)) ∧ ui = .int .i64 ((j : Int) - 1) ∧ j ≤ i ∧ Hid (Below w1.heap.size w1 wr ∧ Below w2.heap.size w2 wr)) (fun _ ui _ => (RowKit.intOf ui + 1).toNat)
        case atStart => exact ⟨i, by rw [HT1.out], rfl, Nat.le_refl _, Lib.hid ⟨HB3.out, HC3.out⟩⟩
        case round =>
          obtain ⟨j, rfl, rfl, hj, HQ⟩ := hrel
          cases j with
          | zero =>
            rw [HT0.out]
            have hm1 : ¬ ((0 : Int) - 1 ≥ 0) := by decide
            have HB4 : Hid (Below w1.heap.size w1 wr) := Lib.hid HQ.out.1
            clear HQ
            go_wp2_with (first
              | (go_at_call 22; refine (HCM.out wr a1 m m (HK.out wr HB4.out).1 (HK.out wr HB4.out).2.1).mono ?_; rintro e w6 ⟨⟨v6, c6, rfl, hO⟩, hb⟩; have HB6 := Lib.hid (below_next HB4.out (Nat.le_refl _) hb); clear hO hb)
              | (go_at_call 10; refine (worksC w6 (HK.out w6 HB6.out).2.1).mono ?_; rintro e w7 ⟨rfl, hb⟩; have HB7 := Lib.hid (below_next HB6.out (Nat.le_refl _) hb); clear hb))
            go_ret
            exact ⟨rfl, (HK.out _ HB7.out).2.2⟩
          | succ k =>
            have hjk : k < i := by omega
            obtain ⟨g, off, c, rfl, hg, hci, h1, h2, h3⟩ := (HO2.out.keep HQ.out.2 (Nat.le_refl _)).at hjk
            obtain ⟨⟨pre, post, hp1, hp2, hp3⟩, hne, hl1, hl2, hlo⟩ := HT2.out k c hci
            obtain ⟨cp, cx, cy⟩ := c
            dsimp only at h1 h2 h3 hp1 hp2 hp3
            subst hp2
            have hab := HAB.out
            have HA := Lib.hid (fun W => histC W pre cy cx post (by rw [← hp3]; omega) (by rw [← hp1]; omega))
            rw [← hp1, ← hp3] at HA
            obtain ⟨cp, hcp⟩ : ∃ cp, cp = pre.length := ⟨_, rfl⟩
            rw [← hcp] at h1 HA
            have HTU := Lib.hid (fun W => turnedC W cp cx cy)
            have hk1 : ((k + 1 : Nat) : Int) - 1 = (k : Int) := by omega
            rw [hk1]
            have hk0 : (0 : Int) ≤ (k : Int) := by omega
            have hkl : (k : Int) < (i : Int) := by omega
            have hkb : (k : Int) ≤ 16777216 := by omega
            clear hci hp1 hp3 hl1 hl2 hlo hne hcp hk1
            go_wp2_with (first
              | (go_at_call 24; refine (HTU.out _).mono ?_; rintro e w5 ⟨rfl, hb5⟩; have HB5 := Lib.hid (below_next HQ.out.1 (Nat.le_refl _) hb5); have HC5 := Lib.hid (below_next HQ.out.2 (Nat.le_refl _) hb5); clear hb5)
              | (go_at_call 23; refine (HA.out _).mono ?_; rintro e w6 ⟨rfl, hb5⟩; have HB6 := Lib.hid (below_next HB5.out (Nat.le_refl _) hb5); have HC6 := Lib.hid (below_next HC5.out (Nat.le_refl _) hb5); clear hb5))
            go_roundw
            case rel => exact ⟨k, rfl, rfl, by omega, Lib.hid ⟨HB6.out, HC6.out⟩⟩
            case measure => simp [RowKit.intOf]
end Go.Proofs.YtnbihjocdlpplaaGreatDoor
/- DiffKnown: its texts, patches and rows; the memory in which the patches lie. -/
namespace Go.Proofs.YtnbihjocdlpplaaGreatDoor
set_option linter.unusedVariables false
set_option linter.unusedSimpArgs false
open Go.RowKit
open Go.Lib hiding intOf
def textsK : List (List UInt8) := [[], [97, 10], [97], [97, 10, 98, 10, 99, 10], [97, 10, 120, 10, 99, 10], [98, 10, 97, 10], [97, 13, 10, 98, 13, 99], [97, 13], [97, 13, 10], [255, 10, 226, 128], [97, 226, 128, 168, 98, 194, 133], [45, 97, 10, 43, 98, 10, 92, 10], [10, 10, 10], [98, 10, 98, 10, 97, 10]]
def rowsK9 : List (List UInt8) := [[63, 97], [92, 10], [45, 97, 10, 120], [45, 97], [45, 97, 10, 92, 10], [45, 97, 10, 92, 10, 92, 10], [45, 97, 13, 92, 10], [43, 97, 10, 45, 98, 10], [32, 97, 10, 45, 98, 10, 43, 99, 10], [45, 97, 10, 92, 120, 10], [32, 97, 10, 92, 10, 43, 98, 10], [45, 97, 10, 92, 10, 43, 97, 10], [45, 10], [45], [45, 97, 13, 10, 92, 10], [45, 97, 10, 92], [10], [45, 226, 128, 10, 92, 10]]
/-- a block of a literal: strings; hunks (kind, block, how many lines); patches (block, how many hunks) -/
inductive RObj where
  | str (L : List (List UInt8))
  | hk (L : List (Int × Option Nat × Nat))
  | top (L : List (Option Nat × Nat))
def slR (B : Nat) (k : Option Nat) (n : Nat) : Value := match k with | some k => .slice (some ⟨B + k, 0, none⟩) n n | none => .slice none 0 0
def denR (B : Nat) : RObj → Obj
  | .str L => .cells (L.map S1).toArray 9
  | .hk L => .cells (L.flatMap fun h => [.int .i64 h.1, slR B h.2.1 h.2.2]).toArray 25
  | .top L => .cells (L.map fun h => slR B h.1 h.2).toArray 26
def robjs : List RObj := [.str [[97, 10]], .str [[98, 10]], .hk [(2, some 0, 1), (2, some 1, 1)], .str [[97, 10]], .str [[98, 10]], .hk [(3, some 3, 1), (2, some 4, 1)], .str [[97]], .str [[98, 10]], .hk [(1, some 6, 1), (3, some 7, 1)], .str [[97, 10, 98]], .hk [(1, some 9, 1)], .hk [(1, none, 0)], .str [[97, 10]], .hk [(4, some 12, 1)], .str [[97, 10]], .hk [(0, some 14, 1)], .str [[98, 10]], .hk [(3, some 16, 1)], .str [[97]], .str [[98, 10]], .hk [(2, some 18, 1), (3, some 19, 1)], .str [[97, 13]], .str [[10]], .hk [(1, some 21, 1), (3, some 22, 1)], .str [[97, 13]], .str [[10]], .hk [(2, some 24, 1), (3, some 25, 1)], .str [[]], .hk [(1, some 27, 1)], .str [[97, 10], [98]], .hk [(1, some 29, 2)], .str [[97], [98, 10]], .hk [(1, some 31, 2)], .str [[97], [10, 98, 10]], .hk [(1, some 33, 2)], .str [[97, 10, 98], []], .hk [(2, some 35, 2)], .str [[97, 10]], .str [[98, 10]], .str [[99]], .hk [(2, some 37, 1), (1, some 38, 1), (3, some 39, 1)], .top [(none, 0), (some 2, 2), (some 5, 2), (some 8, 2), (some 10, 1), (some 11, 1), (some 13, 1), (some 15, 1), (some 17, 1), (some 20, 2), (some 23, 2), (some 26, 2), (some 28, 1), (some 30, 1), (some 32, 1), (some 34, 1), (some 36, 1), (some 40, 3)]]
def tops : List (Option Nat × List HkI) := [(none, []), (some 2, [(2, [[97, 10]]), (2, [[98, 10]])]), (some 5, [(3, [[97, 10]]), (2, [[98, 10]])]), (some 8, [(1, [[97]]), (3, [[98, 10]])]), (some 10, [(1, [[97, 10, 98]])]), (some 11, [(1, [])]), (some 13, [(4, [[97, 10]])]), (some 15, [(0, [[97, 10]])]), (some 17, [(3, [[98, 10]])]), (some 20, [(2, [[97]]), (3, [[98, 10]])]), (some 23, [(1, [[97, 13]]), (3, [[10]])]), (some 26, [(2, [[97, 13]]), (3, [[10]])]), (some 28, [(1, [[]])]), (some 30, [(1, [[97, 10], [98]])]), (some 32, [(1, [[97], [98, 10]])]), (some 34, [(1, [[97], [10, 98, 10]])]), (some 36, [(2, [[97, 10, 98], []])]), (some 40, [(2, [[97, 10]]), (1, [[98, 10]]), (3, [[99]])])]
def allocs (w : World) (l : List Obj) : World := l.foldl World.alloc w
theorem allocs_size : ∀ (l : List Obj) (w : World), (allocs w l).heap.size = w.heap.size + l.length
  | [], w => rfl
  | o :: l, w => by
    show (allocs (w.alloc o) l).heap.size = _
    rw [allocs_size l, List.length_cons]
    simp
    omega
theorem allocs_below : ∀ (l : List Obj) (w : World), Below w.heap.size w (allocs w l)
  | [], w => Below.refl _ _
  | o :: l, w => by
    have h := (Below.refl w.heap.size w).alloc (Nat.le_refl _) o
    exact h.trans ((allocs_below l (w.alloc o)).mono h.size)
theorem allocs_at : ∀ (l : List Obj) (w : World) (k : Nat) (o : Obj), l[k]? = some o → (allocs w l).heap[w.heap.size + k]? = some o
  | [], w, k, o, h => by simp at h
  | o0 :: l, w, 0, o, h => by
    simp only [List.getElem?_cons_zero, Option.some.injEq] at h
    subst h
    show (allocs (w.alloc o0) l).heap[w.heap.size + 0]? = _
    rw [Nat.add_zero, (allocs_below l (w.alloc o0)).block w.heap.size (by simp)]
    exact heap_alloc_new w o0
  | o0 :: l, w, k + 1, o, h => by
    simp only [List.getElem?_cons_succ] at h
    have := allocs_at l (w.alloc o0) k o h
    have hs : (w.alloc o0).heap.size = w.heap.size + 1 := by simp
    rw [hs] at this
    rw [show w.heap.size + (k + 1) = w.heap.size + 1 + k by omega]
    exact this
def memK (w : World) : World := allocs w (robjs.map (denR w.heap.size))
theorem memK_at (w : World) (k : Nat) (o : RObj) (h : robjs[k]? = some o) : (memK w).heap[w.heap.size + k]? = some (denR w.heap.size o) :=
  allocs_at _ _ _ _ (by rw [List.getElem?_map, h]; rfl)
/-- does a row of lines lie there? -/
def strOk (k : Option Nat) (L : List (List UInt8)) : Bool := match k with
  | some k => (match robjs[k]? with | some (.str M) => decide (M = L) | _ => false)
  | none => decide (L = [])
def hkOk : List (Int × Option Nat × Nat) → List HkI → Bool
  | [], [] => true
  | c :: r, x :: X => decide (c.1 = x.1) && decide (c.2.2 = x.2.length) && decide (c.2.2 ≤ 1000) && strOk c.2.1 x.2 && hkOk r X
  | _, _ => false
def patOk (k : Option Nat) (X : List HkI) : Bool := match k with
  | some k => (match robjs[k]? with | some (.hk M) => hkOk M X | _ => false)
  | none => decide (X = [])
theorem hkOk_len : ∀ {M : List (Int × Option Nat × Nat)} {X : List HkI}, hkOk M X = true → M.length = X.length
  | [], [], _ => rfl
  | [], _ :: _, h => by simp [hkOk] at h
  | _ :: _, [], h => by simp [hkOk] at h
  | c :: r, x :: X, h => by
    simp only [hkOk, Bool.and_eq_true] at h
    rw [List.length_cons, List.length_cons, hkOk_len h.2]
theorem hkOk_at : ∀ {M : List (Int × Option Nat × Nat)} {X : List HkI} {i : Nat} {x : HkI}, hkOk M X = true → X[i]? = some x → ∃ c, M[i]? = some c ∧ c.1 = x.1 ∧ c.2.2 = x.2.length ∧ c.2.2 ≤ 1000 ∧ strOk c.2.1 x.2 = true
  | [], [], _, _, _, h => by simp at h
  | [], _ :: _, _, _, h, _ => by simp [hkOk] at h
  | _ :: _, [], _, _, h, _ => by simp [hkOk] at h
  | c :: r, y :: X, 0, x, h, hx => by
    simp only [List.getElem?_cons_zero, Option.some.injEq] at hx
    subst hx
    simp only [hkOk, Bool.and_eq_true, decide_eq_true_iff] at h
    exact ⟨c, rfl, h.1.1.1.1, h.1.1.1.2, h.1.1.2, h.1.2⟩
  | c :: r, y :: X, i + 1, x, h, hx => by
    simp only [List.getElem?_cons_succ] at hx
    simp only [hkOk, Bool.and_eq_true] at h
    obtain ⟨d, h1, h2⟩ := hkOk_at h.2 hx
    exact ⟨d, by rw [List.getElem?_cons_succ]; exact h1, h2⟩
theorem str_reads (w : World) {k : Option Nat} {L : List (List UInt8)} (h : strOk k L = true) : ∃ ad c, slR w.heap.size k L.length = .slice ad L.length c ∧ ReadsS (memK w) ad L.length L ∧ L.length ≤ c ∧ (L.length ≤ 1000 → c ≤ maxLen) := by
  cases k with
  | none =>
    simp only [strOk, decide_eq_true_iff] at h
    subst h
    exact ⟨none, 0, rfl, ⟨rfl, fun h => absurd h (by simp)⟩, Nat.le_refl _, fun _ => Nat.zero_le _⟩
  | some k =>
    simp only [strOk] at h
    split at h
    · rename_i M hM
      rw [decide_eq_true_iff] at h
      subst h
      have hr : Row (memK w) (w.heap.size + k) 9 (M.map S1) := memK_at w k _ hM
      refine ⟨some ⟨w.heap.size + k, 0, none⟩, M.length, rfl, ⟨by rw [List.length_map], fun _ => ⟨w.heap.size + k, 0, rfl, hr.lt, fun j hj => ?_⟩⟩, Nat.le_refl _, fun h => by unfold maxLen; omega⟩
      rw [Nat.zero_add]
      exact hr.cell j
    · cases h
theorem pat_reads (w : World) {k : Option Nat} {X : List HkI} (h : patOk k X = true) : ∃ a c, slR w.heap.size k X.length = .slice a X.length c ∧ ReadsK (memK w) a X.length X ∧ X.length ≤ c ∧ (X.length ≤ 1000 → c ≤ maxLen) := by
  cases k with
  | none =>
    simp only [patOk, decide_eq_true_iff] at h
    subst h
    exact ⟨none, 0, rfl, ReadsK.nil _ _, Nat.le_refl _, fun _ => Nat.zero_le _⟩
  | some k =>
    simp only [patOk] at h
    split at h
    · rename_i M hM
      have hr : Row (memK w) (w.heap.size + k) 25 (M.flatMap fun h => [.int .i64 h.1, slR w.heap.size h.2.1 h.2.2]) := memK_at w k _ hM
      refine ⟨some ⟨w.heap.size + k, 0, none⟩, X.length, rfl, ⟨rfl, fun _ => ⟨w.heap.size + k, 0, rfl, hr.lt, fun i x hx => ?_⟩⟩, Nat.le_refl _, fun h => by unfold maxLen; omega⟩
      obtain ⟨c, h1, h2, h3, h4, h5⟩ := hkOk_at h hx
      have f0 := flat_at (f := fun h : Int × Option Nat × Nat => ([.int .i64 h.1, slR w.heap.size h.2.1 h.2.2] : List Value)) (c := 2) (fun _ => rfl) h1 (j := 0) rfl
      have f1 := flat_at (f := fun h : Int × Option Nat × Nat => ([.int .i64 h.1, slR w.heap.size h.2.1 h.2.2] : List Value)) (c := 2) (fun _ => rfl) h1 (j := 1) rfl
      obtain ⟨ad, cc, e1, e2, e3, e4⟩ := str_reads w h5
      refine ⟨ad, cc, ?_, ?_, e2, e3, e4 (by omega)⟩
      · rw [Nat.zero_add, hr.cell (i * 2), ← h2]; exact f0
      · rw [Nat.zero_add, hr.cell (i * 2 + 1), ← e1, ← h3]; exact f1
    · cases h
theorem tops_all : (tops.all fun e => patOk e.1 e.2 && decide (hunkSum e.2 ≤ 1000) && decide (e.2.length ≤ 1000)) = true := by decide +kernel
theorem tops_len : tops.length = 18 := rfl
theorem texts_short : ∀ x ∈ textsK, x.length ≤ 1000 := by decide
theorem rows_short : ∀ x ∈ rowsK9, x.length ≤ 1000 := by decide
/-- the i-th patch, where it lies -/
theorem tops_at (w : World) {i : Nat} (hi : i < 18) : ∃ (X : List HkI) (a : Option Addr) (c : Nat), (memK w).cell? ⟨w.heap.size + 41, i, none⟩ = some (.slice a X.length c) ∧ ReadsK (memK w) a X.length X ∧ X.length ≤ c ∧ c ≤ maxLen ∧ hunkSum X ≤ 1000 := by
  obtain ⟨e, he⟩ : ∃ e, tops[i]? = some e := ⟨_, List.getElem?_eq_getElem (by rw [tops_len]; exact hi)⟩
  have hall := List.all_eq_true.1 tops_all e (List.mem_of_getElem? he)
  simp only [Bool.and_eq_true, decide_eq_true_iff] at hall
  obtain ⟨⟨h1, h2⟩, h3⟩ := hall
  obtain ⟨a, c, e1, e2, e3, e4⟩ := pat_reads w h1
  have hr : Row (memK w) (w.heap.size + 41) 26 ((tops.map fun e : Option Nat × List HkI => (e.1, e.2.length)).map fun h => slR w.heap.size h.1 h.2) := memK_at w 41 (.top (tops.map fun e : Option Nat × List HkI => (e.1, e.2.length))) rfl
  refine ⟨e.2, a, c, ?_, e2, e3, e4 h3, h2⟩
  rw [hr.cell i, List.getElem?_map, List.getElem?_map, he, ← e1]
  rfl
end Go.Proofs.YtnbihjocdlpplaaGreatDoor
