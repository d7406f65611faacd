/- Texts joined, one behind the other (DLinesR). -/
import Derived.Test.YtnbihjocdlpplaaGreatDoorKq19
/- A patch, by the reference. -/
namespace Go.Proofs.YtnbihjocdlpplaaGreatDoor
set_option linter.unusedVariables false
set_option linter.unusedSimpArgs false
open Go.RowKit
open Go.Lib
/-- what a call that makes a patch answers -/
def LinesQ (w : World) (A C : List (List UInt8)) (e : Ending) (w' : World) : Prop :=
  ((512 < A.length ∨ 512 < C.length) ∧ e = .returned (.tuple #[.slice none 0 0, .int .i64 4]) ∧ Below w.heap.size w w') ∨
  ((A.length ≤ 512 ∧ C.length ≤ 512) ∧ ∃ vo hs B, e = .returned (.tuple #[vo, .int .i64 0]) ∧ SW B w' vo hs (patchL A C) [] ∧ w.heap.size ≤ B ∧ B ≤ w'.heap.size ∧ Below w.heap.size w w')
/-- what the loop carries -/
structure LoopR (A C : List (List UInt8)) (B : Nat) (w2 : World) (i j : Nat) (st : St7) (hs : List HCell) (vo vs vg vc : Value) (wr : World) : Prop where
  sw : SW B wr vo hs st.out [(vs, st.same), (vg, st.gone), (vc, st.come)]
  size : B ≤ wr.heap.size
  below : Below B w2 wr
  fold : doneW ((script (A.drop i) (C.drop j)).foldl stepW st) = patchL A C
  one : OneW st
  lo : st.out.length ≤ 2 * (i + j)
  ls : st.same.length ≤ i + j
  lg : st.gone.length ≤ i + j
  lc : st.come.length ≤ i + j
theorem putK_len (k : Nat) (l : List (List UInt8)) (out : List Hk) : (putK k l out).length ≤ out.length + 1 := by
  unfold putK
  split
  · omega
  · simp
theorem script_nil : script [] [] = [] := by simp [script]
theorem script_same {x : List UInt8} {a b : List (List UInt8)} : script (x :: a) (x :: b) = .same x :: script a b := by rw [script, if_pos rfl]
theorem below_drewN2 (w : World) (n : Nat) : Below w.heap.size w (w.drewN n) := ⟨rfl, rfl, rfl, Nat.le_refl _, fun _ _ => rfl⟩
theorem LoopR.keep {A C : List (List UInt8)} {B : Nat} {w2 : World} {i j : Nat} {st : St7} {hs : List HCell} {vo vs vg vc : Value} {wr w' : World} (h : LoopR A C B w2 i j st hs vo vs vg vc wr) (hb : Below wr.heap.size wr w') : LoopR A C B w2 i j st hs vo vs vg vc w' :=
  ⟨h.sw.keep hb, Nat.le_trans h.size hb.size, h.below.trans (hb.mono h.size), h.fold, h.one, h.lo, h.ls, h.lg, h.lc⟩
set_option maxHeartbeats 8000000 in
set_option maxRecDepth 100000 in
theorem linesR (w : World) (x y : List UInt8) (hx : x.length ≤ 67108864) (hy : y.length ≤ 67108864) :
    Calls Tryz.prog 12 #[.string (bstr x), .string (bstr y)] w (LinesQ w (splitD x) (splitD y)) := by
  have HA := Lib.hid (fun w1 => splitR w1 x hx)
  have HC := Lib.hid (fun w1 => splitR w1 y hy)
  obtain ⟨A, hA⟩ : ∃ A, splitD x = A := ⟨_, rfl⟩
  obtain ⟨C, hC⟩ : ∃ C, splitD y = C := ⟨_, rfl⟩
  rw [hA, hC]
  have HDA := Lib.hid hA
  have HDC := Lib.hid hC
  clear hA hC
  go_enter Tryz.func12, Tryz.ntmps12
  go_upto_region 2 with (first
    | (go_at_call_of 42 (Value.string (bstr x)); refine (HA.out _).mono ?_; rintro e w1 ⟨a1, n1, c1, rfl, hn1, hc1, hm1, hR1, hb1⟩; rw [HDA.out] at hn1 hR1; have HB1 := Lib.hid hb1; have HR1 := Lib.hid hR1; have HN1 := Lib.hid hn1; have HM1 := Lib.hid hm1; clear hb1 hR1 hn1 hm1)
    | (go_at_call_of 42 (Value.string (bstr y)); refine (HC.out _).mono ?_; rintro e w2 ⟨a2, n2, c2, rfl, hn2, hc2, hm2, hR2, hb2⟩; rw [HDC.out] at hn2 hR2; have HB2 := Lib.hid hb2; have HR2 := Lib.hid hR2; have HN2 := Lib.hid hn2; have HM2 := Lib.hid hm2; clear hb2 hR2 hn2 hm2))
  have B2 : Below w.heap.size w w2 := HB1.out.trans (HB2.out.mono HB1.out.size)
  have HB := Lib.hid B2
  have RA : ReadsS w2 a1 n1 A := HR1.out.keep HB2.out (Nat.le_refl _)
  have HRA := Lib.hid RA
  have s2 := B2.size
  clear B2 RA
  by_cases h1 : 512 < n1
  · have h1' : (512 : Int) < (n1 : Int) := by omega
    go_wp2
    go_ret2
    exact .inl ⟨.inl (by rw [← HN1.out]; exact h1), rfl, HB.out⟩
  by_cases h2 : 512 < n2
  · have h1' : (n1 : Int) ≤ 512 := by omega
    have h2' : (512 : Int) < (n2 : Int) := by omega
    go_wp2
    go_ret2
    exact .inl ⟨.inr (by rw [← HN2.out]; exact h2), rfl, HB.out⟩
  have h1' : (n1 : Int) ≤ 512 := by omega
  have h2' : (n2 : Int) ≤ 512 := by omega
  have hle := leastR w2 a1 a2 n1 n2 c1 c2 A C HRA.out HR2.out (by omega) (by omega) hc1 hc2
  have HLE := Lib.hid hle
  clear hle
  go_wp2_with (go_at_call 43; refine (HLE.out).mono ?_; rintro e w3 ⟨rfl, hT3, hb3⟩; have HT3 := Lib.hid hT3; have HB3 := Lib.hid hb3; clear hT3 hb3)
  have s3 := HB3.out.size
  have g3 := HT3.out.lt
  obtain ⟨g, hg⟩ : ∃ g, g = w2.heap.size := ⟨_, rfl⟩
  rw [← hg] at g3 ⊢
  have HT : Hid (TabR w3 g n1 n2 0 A C) := by rw [hg]; exact HT3
  have HG := Lib.hid hg
  have HRA3 : Hid (ReadsS w3 a1 n1 A) := Lib.hid (HRA.out.keep HB3.out (Nat.le_refl _))
  have HRC3 : Hid (ReadsS w3 a2 n2 C) := Lib.hid (HR2.out.keep HB3.out (Nat.le_refl _))
  have HBW : Hid (Below w.heap.size w w3) := Lib.hid (HB.out.trans (HB3.out.mono s2))
  clear hg HT3 HLE
  go_loopw [9, 10, 11, 12, 13, 14] (fun vo vs vg vc ui uj wr => ∃ (i j : Nat) (st : St7) (hs : List HCell), i ≤ n1 ∧ j ≤ n2 ∧ ui = .int .i64 (i : Int) ∧ uj = .int .i64 (j : Int) ∧ Hid (LoopR A C w3.heap.size w3 i j st hs vo vs vg vc wr)) (fun _ _ _ _ ui uj _ => (n1 - (RowKit.intOf ui).toNat) + (n2 - (RowKit.intOf uj).toNat))
  case atStart =>
    refine ⟨0, 0, ⟨[], [], [], []⟩, [], Nat.zero_le _, Nat.zero_le _, rfl, rfl, ⟨SW.start _ _ _ (fun p hp => ?_), Nat.le_refl _, Below.refl _ _, rfl, .inl rfl, Nat.zero_le _, Nat.zero_le _, Nat.zero_le _, Nat.zero_le _⟩⟩
    simp only [List.mem_cons, List.not_mem_nil, or_false] at hp
    rcases hp with rfl | rfl | rfl <;> rfl
  case round =>
    obtain ⟨i, j, st, hs, hi, hj, rfl, rfl, HR⟩ := hrel
    by_cases hd : i = n1 ∧ j = n2
    · obtain ⟨rfl, rfl⟩ := hd
      have hout : doneW st = patchL A C := by
        have := HR.out.fold
        rw [show A.drop i = [] from List.drop_of_length_le (by rw [HN1.out]; exact Nat.le_refl _), show C.drop j = [] from List.drop_of_length_le (by rw [HN2.out]; exact Nat.le_refl _), script_nil] at this
        exact this
      have HOUT := Lib.hid hout
      have b0 := HR.out.lo
      clear hout
      have e1 : u9 = u9 := rfl
      obtain ⟨vo, rfl⟩ : ∃ v : Value, v = u9 := ⟨_, rfl⟩
      obtain ⟨vs, rfl⟩ : ∃ v : Value, v = u10 := ⟨_, rfl⟩
      obtain ⟨vg, rfl⟩ : ∃ v : Value, v = u11 := ⟨_, rfl⟩
      obtain ⟨vc, rfl⟩ : ∃ v : Value, v = u12 := ⟨_, rfl⟩
      clear e1
      have k1 : (putK 2 st.gone st.out).length ≤ st.out.length + 1 := putK_len _ _ _
      have k2 : (putK 3 st.come (putK 2 st.gone st.out)).length ≤ (putK 2 st.gone st.out).length + 1 := putK_len _ _ _
      go_wp2_with (first
        | (go_at_call_of 44 (Value.int .i64 2); refine (hunkR wr w3.heap.size vo vg hs st.out [(vs, st.same), (vg, st.gone), (vc, st.come)] 1 2 st.gone HR.out.sw HR.out.size rfl (by omega)).mono ?_; rintro e w4 ⟨vo4, hs4, rfl, hS4, hB4, hb4⟩; have HS4 := Lib.hid hS4; have HB4 := Lib.hid hB4; have Hb4 := Lib.hid hb4; clear hS4 hB4 hb4)
        | (go_at_call_of 44 (Value.int .i64 3); refine (hunkR w4 w3.heap.size vo4 vc hs4 (putK 2 st.gone st.out) [(vs, st.same), (nilV, []), (vc, st.come)] 2 3 st.come HS4.out HB4.out rfl (by omega)).mono ?_; rintro e w5 ⟨vo5, hs5, rfl, hS5, hB5, hb5⟩; have HS5 := Lib.hid hS5; have HB5 := Lib.hid hB5; have Hb5 := Lib.hid hb5; clear hS5 hB5 hb5)
        | (go_at_call_of 44 (Value.int .i64 1); refine (hunkR w5 w3.heap.size vo5 vs hs5 (putK 3 st.come (putK 2 st.gone st.out)) [(vs, st.same), (nilV, []), (nilV, [])] 0 1 st.same HS5.out HB5.out rfl (by omega)).mono ?_; rintro e w6 ⟨vo6, hs6, rfl, hS6, hB6, hb6⟩; have HS6 := Lib.hid hS6; have HB6 := Lib.hid hB6; have Hb6 := Lib.hid hb6; clear hS6 hB6 hb6))
      go_ret2
      have hS6 := HS6.out
      rw [doneW_ref HR.out.one, HOUT.out] at hS6
      refine .inr ⟨⟨by rw [← HN1.out]; omega, by rw [← HN2.out]; omega⟩, vo6, hs6, w3.heap.size, rfl, ⟨hS6.own, hS6.len, fun k h x h1 h2 => ?_, fun p hp => (by cases hp), fun i j p q hi hj _ => (by cases hi), hS6.dist⟩, HBW.out.size, HB6.out, ?_⟩
      · obtain ⟨q1, q2, q3, q4, q5⟩ := hS6.each k h x h1 h2
        exact ⟨q1, q2, q3, q4, fun ad had => ⟨(q5 ad had).1, (q5 ad had).2.1, fun p hp => (by cases hp)⟩⟩
      · exact HBW.out.trans ((((HR.out.below.trans Hb4.out).trans Hb5.out).trans Hb6.out).mono HBW.out.size)
    · obtain ⟨vo, rfl⟩ : ∃ v : Value, v = u9 := ⟨_, rfl⟩
      obtain ⟨vs, rfl⟩ : ∃ v : Value, v = u10 := ⟨_, rfl⟩
      obtain ⟨vg, rfl⟩ : ∃ v : Value, v = u11 := ⟨_, rfl⟩
      obtain ⟨vc, rfl⟩ : ∃ v : Value, v = u12 := ⟨_, rfl⟩
      by_cases hin : i < n1
      · obtain ⟨ba, oa, p, rfl, hba, hp, hca⟩ := (HRA3.out.keep HR.out.below (Nat.le_refl _)).at hin
        have hba3 : ba < w3.heap.size := by
          obtain ⟨b9, o9, _, e9, h9, _⟩ := HRA3.out.at hin
          cases e9
          exact h9
        have hdp : A.drop i = p :: A.drop (i + 1) := drop_cons hp
        have hii : (i : Int) < (n1 : Int) := by omega
        by_cases hjn : j < n2
        · obtain ⟨bc, oc, q, rfl, hbc, hq, hcc⟩ := (HRC3.out.keep HR.out.below (Nat.le_refl _)).at hjn
          have hdq : C.drop j = q :: C.drop (j + 1) := drop_cons hq
          have hjj : (j : Int) < (n2 : Int) := by omega
          by_cases hpq : p = q
          · subst hpq
            have b0 := HR.out.lo
            have b1 := HR.out.ls
            have hk0 : ∀ W, Below w3.heap.size w3 W → W.cell? ⟨ba, oa + i, none⟩ = some (.string (bstr p)) := fun W hW => by
              rw [hW.cell (p := ⟨ba, oa + i, none⟩) hba3, ← HR.out.below.cell (p := ⟨ba, oa + i, none⟩) hba3]
              exact hca
            have HK0 := Lib.hid hk0
            have HF := Lib.hid (show doneW ((script (A.drop (i + 1)) (C.drop (j + 1))).foldl stepW (stepW st (.same p))) = patchL A C by
              have := HR.out.fold
              rw [hdp, hdq, script_same] at this
              exact this)
            have k1 : (putK 2 st.gone st.out).length ≤ st.out.length + 1 := putK_len _ _ _
            have k2 : (putK 3 st.come (putK 2 st.gone st.out)).length ≤ (putK 2 st.gone st.out).length + 1 := putK_len _ _ _
            clear hk0 hdp hdq hp hq hba hbc
            go_wp2
            go_quiet (fail)
            obtain ⟨wq, hwq⟩ : ∃ x, x = wr.drewN nq := ⟨_, rfl⟩
            have HQ : Hid (LoopR A C w3.heap.size w3 i j st hs vo vs vg vc wq) := by rw [hwq]; exact HR.out.keep (below_drewN2 _ _)
            rw [← hwq]
            clear hwq
            go_wp2_with (first
              | (go_at_call_of 44 (Value.int .i64 2); refine (hunkR wq w3.heap.size vo vg hs st.out [(vs, st.same), (vg, st.gone), (vc, st.come)] 1 2 st.gone HQ.out.sw HQ.out.size rfl (by omega)).mono ?_; rintro e w4 ⟨vo4, hs4, rfl, hS4, hB4, hb4⟩; have HS4 := Lib.hid hS4; have HB4 := Lib.hid hB4; have Hb4 := Lib.hid hb4; clear hS4 hB4 hb4)
              | (go_at_call_of 44 (Value.int .i64 3); refine (hunkR w4 w3.heap.size vo4 vc hs4 (putK 2 st.gone st.out) [(vs, st.same), (nilV, []), (vc, st.come)] 2 3 st.come HS4.out HB4.out rfl (by omega)).mono ?_; rintro e w5 ⟨vo5, hs5, rfl, hS5, hB5, hb5⟩; have HS5 := Lib.hid hS5; have HB5 := Lib.hid hB5; have b5 := hb5; have Hb5 : Hid (Below w3.heap.size w3 w5) := Lib.hid ((HQ.out.below.trans Hb4.out).trans hb5); have hc5 := HK0.out w5 Hb5.out; clear hS5 hB5 hb5 b5)
              | (at_builtin; refine appSep rfl _ _ rfl Tryz.underlying22 (.string ByteArray.empty) 1 16 infoStr rfl (by decide) (by decide) w3.heap.size w5 vs st.same.length (st.same.map S1) [S1 p] rfl (by intro u hu; simp only [List.mem_singleton] at hu; subst hu; rfl) rfl (HS5.out.strs (vs, st.same) (by simp)) rfl rfl (by omega) HB5.out ?_; intro v8 w8 hp8; have HP := Lib.hid hp8; clear hp8))
            have HNX : Hid (LoopR A C w3.heap.size w3 (i + 1) (j + 1) (stepW st (.same p)) hs5 vo5 v8 nilV nilV w8) := by
              obtain ⟨r1, r2⟩ := HS5.out.push HB5.out (i := 0) rfl HP.out
              exact ⟨r1, r2, Hb5.out.trans (HP.out.below (HS5.out.strs (vs, st.same) (by simp)) HB5.out), HF.out, oneW_step _ _, by show (putK 3 st.come (putK 2 st.gone st.out)).length ≤ _; omega, by show (st.same ++ [p]).length ≤ _; rw [List.length_append, List.length_singleton]; omega, Nat.zero_le _, Nat.zero_le _⟩
            clear HP
            go_roundw
            case rel => exact ⟨i + 1, j + 1, _, _, by omega, by omega, by go_num, by go_num, HNX⟩
            case measure => simp [RowKit.intOf]; omega
          · have hbc3 : bc < w3.heap.size := by
              obtain ⟨b9, o9, _, e9, h9, _⟩ := HRC3.out.at hjn
              cases e9
              exact h9
            obtain ⟨g1, ys1, y1, y2, y3, y4, y5⟩ := HT.out.at (i := i + 1) (Nat.zero_le _) (by omega)
            obtain ⟨g0, ys0, z1, z2, z3, z4, z5⟩ := HT.out.at (i := i) (Nat.zero_le _) (by omega)
            obtain ⟨d2, hd2⟩ : ∃ d2, dist (A.drop (i + 1)) (C.drop j) = d2 := ⟨_, rfl⟩
            obtain ⟨d3, hd3⟩ : ∃ d3, dist (A.drop i) (C.drop (j + 1)) = d3 := ⟨_, rfl⟩
            have q2 := y5 j (by omega)
            have q3 := z5 (j + 1) (by omega)
            rw [hd2] at q2
            rw [hd3] at q3
            obtain ⟨i1, hi1⟩ : ∃ i1, i + 1 = i1 := ⟨_, rfl⟩
            obtain ⟨j1, hj1⟩ : ∃ j1, j + 1 = j1 := ⟨_, rfl⟩
            rw [hi1] at y1
            rw [hj1] at q3
            have hw1 : IntKind.i64.wrap ((i : Int) + 1) = (i1 : Int) := by rw [show (i : Int) + 1 = (i1 : Int) by omega]; exact IntWalk.i64_in _ (by omega)
            have hw2 : IntKind.i64.wrap ((j : Int) + 1) = (j1 : Int) := by rw [show (j : Int) + 1 = (j1 : Int) by omega]; exact IntWalk.i64_in _ (by omega)
            have hb1 : (i1 : Int) < (n1 : Int) + 1 := by omega
            have hb2 : (j1 : Int) < (n2 : Int) + 1 := by omega
            have hb3 : (i : Int) < (n1 : Int) + 1 := by omega
            have hb4 : (j : Int) < (n2 : Int) + 1 := by omega
            have htc : ∀ W, Below w3.heap.size w3 W → W.cell? ⟨g, i1, none⟩ = some (.slice (some ⟨g1, 0, none⟩) (n2 + 1) (n2 + 1)) ∧ W.cell? ⟨g, i, none⟩ = some (.slice (some ⟨g0, 0, none⟩) (n2 + 1) (n2 + 1)) ∧ W.cell? ⟨g1, j, none⟩ = some (.int .i64 (d2 : Int)) ∧ W.cell? ⟨g0, j1, none⟩ = some (.int .i64 (d3 : Int)) := fun W hW => by
              rw [hW.cell (p := ⟨g, i1, none⟩) g3, hW.cell (p := ⟨g, i, none⟩) g3, hW.cell (p := ⟨g1, j, none⟩) y3.lt, hW.cell (p := ⟨g0, j1, none⟩) z3.lt]
              exact ⟨y1, z1, (y3.cell _).trans q2, (z3.cell _).trans q3⟩
            have HTC := Lib.hid htc
            have hne : (p == q) = false := by rw [beq_eq_false_iff_ne]; exact hpq
            have hjn2 : (j : Int) ≠ (n2 : Int) := by omega
            by_cases hdd : d2 ≤ d3
            · have hdi : (d2 : Int) ≤ (d3 : Int) := by omega
              have HF := Lib.hid (show doneW ((script (A.drop (i + 1)) (C.drop j)).foldl stepW (stepW st (.gone p))) = patchL A C by
                have := HR.out.fold
                rw [hdp, hdq, script, if_neg hpq, ← hdp, ← hdq, hd2, hd3, if_pos hdd] at this
                exact this)
              have b0 := HR.out.lo
              have b1 := HR.out.ls
              have b2 := HR.out.lg
              have b3 := HR.out.lc
              have hk0 : ∀ W, Below w3.heap.size w3 W → W.cell? ⟨ba, oa + i, none⟩ = some (.string (bstr p)) := fun W hW => by
                rw [hW.cell (p := ⟨ba, oa + i, none⟩) hba3, ← HR.out.below.cell (p := ⟨ba, oa + i, none⟩) hba3]
                exact hca
              have HK0 := Lib.hid hk0
              have k1 : (putK 1 st.same st.out).length ≤ st.out.length + 1 := putK_len _ _ _
              clear hk0 htc hdp hdq hp hq hba hbc y1 y2 y3 y4 y5 z1 z2 z3 z4 z5 hd2 hd3 q2 q3 hi1 hj1 hpq hdd
              go_wp2
              go_quiet (fail)
              obtain ⟨wq, hwq⟩ : ∃ x, x = wr.drewN nq := ⟨_, rfl⟩
              have HQ : Hid (LoopR A C w3.heap.size w3 i j st hs vo vs vg vc wq) := by rw [hwq]; exact HR.out.keep (below_drewN2 _ _)
              rw [← hwq]
              clear hwq
              go_wp2_with (go_at_call_of 44 (Value.int .i64 1); refine (hunkR wq w3.heap.size vo vs hs st.out [(vs, st.same), (vg, st.gone), (vc, st.come)] 0 1 st.same HQ.out.sw HQ.out.size rfl (by omega)).mono ?_; rintro e w4 ⟨vo4, hs4, rfl, hS4, hB4, hb4⟩; have HS4 := Lib.hid hS4; have HB4 := Lib.hid hB4; have Hb4 : Hid (Below w3.heap.size w3 w4) := Lib.hid (HQ.out.below.trans hb4); have hc4 := HK0.out w4 Hb4.out; obtain ⟨t1, t2, t3, t4⟩ := HTC.out w4 Hb4.out; clear hS4 hB4 hb4)
              go_quiet (fail)
              obtain ⟨w5, hw5⟩ : ∃ x, x = w4.drewN nq := ⟨_, rfl⟩
              have HS5 : Hid (SW w3.heap.size w5 vo4 hs4 (putK 1 st.same st.out) [(nilV, []), (vg, st.gone), (vc, st.come)]) := by rw [hw5]; exact HS4.out.keep (below_drewN2 _ _)
              have Hb5 : Hid (Below w3.heap.size w3 w5) := by rw [hw5]; exact Hb4.out.trans ((below_drewN2 _ _).mono HB4.out)
              have HB5 : Hid (w3.heap.size ≤ w5.heap.size) := by rw [hw5]; exact HB4.out
              have hc5 := HK0.out w5 Hb5.out
              rw [← hw5]
              clear hw5 hw1 hw2
              go_wp2_with (at_builtin; refine appSep rfl _ _ rfl Tryz.underlying22 (.string ByteArray.empty) 1 16 infoStr rfl (by decide) (by decide) w3.heap.size w5 vg st.gone.length (st.gone.map S1) [S1 p] rfl (by intro u hu; simp only [List.mem_singleton] at hu; subst hu; rfl) rfl (HS5.out.strs (vg, st.gone) (by simp)) rfl rfl (by omega) HB5.out ?_; intro v8 w8 hp8; have HP := Lib.hid hp8; clear hp8)
              have HNX : Hid (LoopR A C w3.heap.size w3 (i + 1) (j) (stepW st (.gone p)) hs4 vo4 nilV v8 vc w8) := by
                obtain ⟨r1, r2⟩ := HS5.out.push HB5.out (i := 1) rfl HP.out
                exact ⟨r1, r2, Hb5.out.trans (HP.out.below (HS5.out.strs (vg, st.gone) (by simp)) HB5.out), HF.out, oneW_step _ _, by show (putK 1 st.same st.out).length ≤ _; omega, Nat.zero_le _, by show (st.gone ++ [p]).length ≤ _; rw [List.length_append, List.length_singleton]; omega, by show st.come.length ≤ _; omega⟩
              clear HP
              go_roundw
              case rel => exact ⟨i + 1, j, _, _, by omega, by omega, by go_num, rfl, HNX⟩
              case measure => simp [RowKit.intOf]; omega
            · have hdi : ¬ d2 ≤ d3 := hdd
              have hjn3 : ((j : Int) == (n2 : Int)) = false := by rw [beq_eq_false_iff_ne]; exact hjn2
              have HF := Lib.hid (show doneW ((script (A.drop i) (C.drop (j + 1))).foldl stepW (stepW st (.come q))) = patchL A C by
                have := HR.out.fold
                rw [hdp, hdq, script, if_neg hpq, ← hdp, ← hdq, hd2, hd3, if_neg hdd] at this
                exact this)
              have b0 := HR.out.lo
              have b1 := HR.out.ls
              have b2 := HR.out.lg
              have b3 := HR.out.lc
              have hk0 : ∀ W, Below w3.heap.size w3 W → W.cell? ⟨bc, oc + j, none⟩ = some (.string (bstr q)) := fun W hW => by
                rw [hW.cell (p := ⟨bc, oc + j, none⟩) hbc3, ← HR.out.below.cell (p := ⟨bc, oc + j, none⟩) hbc3]
                exact hcc
              have HK0 := Lib.hid hk0
              have k1 : (putK 1 st.same st.out).length ≤ st.out.length + 1 := putK_len _ _ _
              clear hk0 htc hdp hdq hp hq hba hbc y1 y2 y3 y4 y5 z1 z2 z3 z4 z5 hd2 hd3 q2 q3 hi1 hj1 hpq hdd
              go_wp2
              go_quiet (fail)
              obtain ⟨wq, hwq⟩ : ∃ x, x = wr.drewN nq := ⟨_, rfl⟩
              have HQ : Hid (LoopR A C w3.heap.size w3 i j st hs vo vs vg vc wq) := by rw [hwq]; exact HR.out.keep (below_drewN2 _ _)
              rw [← hwq]
              clear hwq
              go_wp2_with (go_at_call_of 44 (Value.int .i64 1); refine (hunkR wq w3.heap.size vo vs hs st.out [(vs, st.same), (vg, st.gone), (vc, st.come)] 0 1 st.same HQ.out.sw HQ.out.size rfl (by omega)).mono ?_; rintro e w4 ⟨vo4, hs4, rfl, hS4, hB4, hb4⟩; have HS4 := Lib.hid hS4; have HB4 := Lib.hid hB4; have Hb4 : Hid (Below w3.heap.size w3 w4) := Lib.hid (HQ.out.below.trans hb4); have hc4 := HK0.out w4 Hb4.out; obtain ⟨t1, t2, t3, t4⟩ := HTC.out w4 Hb4.out; clear hS4 hB4 hb4)
              go_quiet (fail)
              obtain ⟨w5, hw5⟩ : ∃ x, x = w4.drewN nq := ⟨_, rfl⟩
              have HS5 : Hid (SW w3.heap.size w5 vo4 hs4 (putK 1 st.same st.out) [(nilV, []), (vg, st.gone), (vc, st.come)]) := by rw [hw5]; exact HS4.out.keep (below_drewN2 _ _)
              have Hb5 : Hid (Below w3.heap.size w3 w5) := by rw [hw5]; exact Hb4.out.trans ((below_drewN2 _ _).mono HB4.out)
              have HB5 : Hid (w3.heap.size ≤ w5.heap.size) := by rw [hw5]; exact HB4.out
              have hc5 := HK0.out w5 Hb5.out
              rw [← hw5]
              clear hw5 hw1 hw2
              go_wp2_with (at_builtin; refine appSep rfl _ _ rfl Tryz.underlying22 (.string ByteArray.empty) 1 16 infoStr rfl (by decide) (by decide) w3.heap.size w5 vc st.come.length (st.come.map S1) [S1 q] rfl (by intro u hu; simp only [List.mem_singleton] at hu; subst hu; rfl) rfl (HS5.out.strs (vc, st.come) (by simp)) rfl rfl (by omega) HB5.out ?_; intro v8 w8 hp8; have HP := Lib.hid hp8; clear hp8)
              have HNX : Hid (LoopR A C w3.heap.size w3 (i) (j + 1) (stepW st (.come q)) hs4 vo4 nilV vg v8 w8) := by
                obtain ⟨r1, r2⟩ := HS5.out.push HB5.out (i := 2) rfl HP.out
                exact ⟨r1, r2, Hb5.out.trans (HP.out.below (HS5.out.strs (vc, st.come) (by simp)) HB5.out), HF.out, oneW_step _ _, by show (putK 1 st.same st.out).length ≤ _; omega, Nat.zero_le _, by show st.gone.length ≤ _; omega, by show (st.come ++ [q]).length ≤ _; rw [List.length_append, List.length_singleton]; omega⟩
              clear HP
              go_roundw
              case rel => exact ⟨i, j + 1, _, _, by omega, by omega, rfl, by go_num, HNX⟩
              case measure => simp [RowKit.intOf]; omega
        · obtain rfl : j = n2 := by omega
          have HF := Lib.hid (show doneW ((script (A.drop (i + 1)) (C.drop j)).foldl stepW (stepW st (.gone p))) = patchL A C by
            have := HR.out.fold
            rw [show C.drop j = [] from List.drop_of_length_le (by rw [HN2.out]; exact Nat.le_refl _), hdp, script] at this
            rw [show C.drop j = [] from List.drop_of_length_le (by rw [HN2.out]; exact Nat.le_refl _)]
            exact this)
          have b0 := HR.out.lo
          have b1 := HR.out.ls
          have b2 := HR.out.lg
          have b3 := HR.out.lc
          have hk0 : ∀ W, Below w3.heap.size w3 W → W.cell? ⟨ba, oa + i, none⟩ = some (.string (bstr p)) := fun W hW => by
            rw [hW.cell (p := ⟨ba, oa + i, none⟩) hba3, ← HR.out.below.cell (p := ⟨ba, oa + i, none⟩) hba3]
            exact hca
          have HK0 := Lib.hid hk0
          have k1 : (putK 1 st.same st.out).length ≤ st.out.length + 1 := putK_len _ _ _
          clear hk0 hdp hp hba hjn
          go_wp2
          go_quiet (fail)
          obtain ⟨wq, hwq⟩ : ∃ x, x = wr.drewN nq := ⟨_, rfl⟩
          have HQ : Hid (LoopR A C w3.heap.size w3 i j st hs vo vs vg vc wq) := by rw [hwq]; exact HR.out.keep (below_drewN2 _ _)
          rw [← hwq]
          clear hwq
          go_wp2_with (go_at_call_of 44 (Value.int .i64 1); refine (hunkR wq w3.heap.size vo vs hs st.out [(vs, st.same), (vg, st.gone), (vc, st.come)] 0 1 st.same HQ.out.sw HQ.out.size rfl (by omega)).mono ?_; rintro e w4 ⟨vo4, hs4, rfl, hS4, hB4, hb4⟩; have HS4 := Lib.hid hS4; have HB4 := Lib.hid hB4; have Hb4 : Hid (Below w3.heap.size w3 w4) := Lib.hid (HQ.out.below.trans hb4); have hc4 := HK0.out w4 Hb4.out; clear hS4 hB4 hb4)
          go_quiet (fail)
          obtain ⟨w5, hw5⟩ : ∃ x, x = w4.drewN nq := ⟨_, rfl⟩
          have HS5 : Hid (SW w3.heap.size w5 vo4 hs4 (putK 1 st.same st.out) [(nilV, []), (vg, st.gone), (vc, st.come)]) := by rw [hw5]; exact HS4.out.keep (below_drewN2 _ _)
          have Hb5 : Hid (Below w3.heap.size w3 w5) := by rw [hw5]; exact Hb4.out.trans ((below_drewN2 _ _).mono HB4.out)
          have HB5 : Hid (w3.heap.size ≤ w5.heap.size) := by rw [hw5]; exact HB4.out
          have hc5 := HK0.out w5 Hb5.out
          rw [← hw5]
          clear hw5
          go_wp2_with (at_builtin; refine appSep rfl _ _ rfl Tryz.underlying22 (.string ByteArray.empty) 1 16 infoStr rfl (by decide) (by decide) w3.heap.size w5 vg st.gone.length (st.gone.map S1) [S1 p] rfl (by intro u hu; simp only [List.mem_singleton] at hu; subst hu; rfl) rfl (HS5.out.strs (vg, st.gone) (by simp)) rfl rfl (by omega) HB5.out ?_; intro v8 w8 hp8; have HP := Lib.hid hp8; clear hp8)
          have HNX : Hid (LoopR A C w3.heap.size w3 (i + 1) (j) (stepW st (.gone p)) hs4 vo4 nilV v8 vc w8) := by
            obtain ⟨r1, r2⟩ := HS5.out.push HB5.out (i := 1) rfl HP.out
            exact ⟨r1, r2, Hb5.out.trans (HP.out.below (HS5.out.strs (vg, st.gone) (by simp)) HB5.out), HF.out, oneW_step _ _, by show (putK 1 st.same st.out).length ≤ _; omega, Nat.zero_le _, by show (st.gone ++ [p]).length ≤ _; rw [List.length_append, List.length_singleton]; omega, by show st.come.length ≤ _; omega⟩
          clear HP
          go_roundw
          case rel => exact ⟨i + 1, j, _, _, by omega, by omega, by go_num, rfl, HNX⟩
          case measure => simp [RowKit.intOf]; omega
      · obtain rfl : i = n1 := by omega
        have hjn : j < n2 := by omega
        obtain ⟨bc, oc, q, rfl, hbc, hq, hcc⟩ := (HRC3.out.keep HR.out.below (Nat.le_refl _)).at hjn
        have hdq : C.drop j = q :: C.drop (j + 1) := drop_cons hq
        have hjj : (j : Int) < (n2 : Int) := by omega
        have hbc3 : bc < w3.heap.size := by
          obtain ⟨b9, o9, _, e9, h9, _⟩ := HRC3.out.at hjn
          cases e9
          exact h9
        have HF := Lib.hid (show doneW ((script (A.drop i) (C.drop (j + 1))).foldl stepW (stepW st (.come q))) = patchL A C by
          have := HR.out.fold
          rw [show A.drop i = [] from List.drop_of_length_le (by rw [HN1.out]; exact Nat.le_refl _), hdq, script] at this
          rw [show A.drop i = [] from List.drop_of_length_le (by rw [HN1.out]; exact Nat.le_refl _)]
          exact this)
        have b0 := HR.out.lo
        have b1 := HR.out.ls
        have b2 := HR.out.lg
        have b3 := HR.out.lc
        have hk0 : ∀ W, Below w3.heap.size w3 W → W.cell? ⟨bc, oc + j, none⟩ = some (.string (bstr q)) := fun W hW => by
          rw [hW.cell (p := ⟨bc, oc + j, none⟩) hbc3, ← HR.out.below.cell (p := ⟨bc, oc + j, none⟩) hbc3]
          exact hcc
        have HK0 := Lib.hid hk0
        have k1 : (putK 1 st.same st.out).length ≤ st.out.length + 1 := putK_len _ _ _
        clear hk0 hdq hq hbc hin
        go_wp2
        go_quiet (fail)
        obtain ⟨wq, hwq⟩ : ∃ x, x = wr.drewN nq := ⟨_, rfl⟩
        have HQ : Hid (LoopR A C w3.heap.size w3 i j st hs vo vs vg vc wq) := by rw [hwq]; exact HR.out.keep (below_drewN2 _ _)
        rw [← hwq]
        clear hwq
        go_wp2_with (go_at_call_of 44 (Value.int .i64 1); refine (hunkR wq w3.heap.size vo vs hs st.out [(vs, st.same), (vg, st.gone), (vc, st.come)] 0 1 st.same HQ.out.sw HQ.out.size rfl (by omega)).mono ?_; rintro e w4 ⟨vo4, hs4, rfl, hS4, hB4, hb4⟩; have HS4 := Lib.hid hS4; have HB4 := Lib.hid hB4; have Hb4 : Hid (Below w3.heap.size w3 w4) := Lib.hid (HQ.out.below.trans hb4); have hc4 := HK0.out w4 Hb4.out; clear hS4 hB4 hb4)
        go_quiet (fail)
        obtain ⟨w5, hw5⟩ : ∃ x, x = w4.drewN nq := ⟨_, rfl⟩
        have HS5 : Hid (SW w3.heap.size w5 vo4 hs4 (putK 1 st.same st.out) [(nilV, []), (vg, st.gone), (vc, st.come)]) := by rw [hw5]; exact HS4.out.keep (below_drewN2 _ _)
        have Hb5 : Hid (Below w3.heap.size w3 w5) := by rw [hw5]; exact Hb4.out.trans ((below_drewN2 _ _).mono HB4.out)
        have HB5 : Hid (w3.heap.size ≤ w5.heap.size) := by rw [hw5]; exact HB4.out
        have hc5 := HK0.out w5 Hb5.out
        rw [← hw5]
        clear hw5
        go_wp2_with (at_builtin; refine appSep rfl _ _ rfl Tryz.underlying22 (.string ByteArray.empty) 1 16 infoStr rfl (by decide) (by decide) w3.heap.size w5 vc st.come.length (st.come.map S1) [S1 q] rfl (by intro u hu; simp only [List.mem_singleton] at hu; subst hu; rfl) rfl (HS5.out.strs (vc, st.come) (by simp)) rfl rfl (by omega) HB5.out ?_; intro v8 w8 hp8; have HP := Lib.hid hp8; clear hp8)
        have HNX : Hid (LoopR A C w3.heap.size w3 (i) (j + 1) (stepW st (.come q)) hs4 vo4 nilV vg v8 w8) := by
          obtain ⟨r1, r2⟩ := HS5.out.push HB5.out (i := 2) rfl HP.out
          exact ⟨r1, r2, Hb5.out.trans (HP.out.below (HS5.out.strs (vc, st.come) (by simp)) HB5.out), HF.out, oneW_step _ _, by show (putK 1 st.same st.out).length ≤ _; omega, Nat.zero_le _, by show st.gone.length ≤ _; omega, by show (st.come ++ [q]).length ≤ _; rw [List.length_append, List.length_singleton]; omega⟩
        clear HP
        go_roundw
        case rel => exact ⟨i, j + 1, _, _, by omega, by omega, rfl, by go_num, HNX⟩
        case measure => simp [RowKit.intOf]; omega
end Go.Proofs.YtnbihjocdlpplaaGreatDoor
