/- Texts joined, one behind the other (DLines, DWorks). -/
import Derived.Test.YtnbihjocdlpplaaDoorDp19
import Derived.ChangeKeysEq
/- A patch, by the program. -/
namespace Go.Proofs.YtnbihjocdlpplaaDoor
set_option linter.unusedVariables false
set_option linter.unusedSimpArgs false
open Go.RowKit
open Go.Lib
/-- what a call that makes a patch answers, the patch being its own -/
def LinesP (w : World) (A C : List (List UInt8)) (e : Ending) (w' : World) : Prop :=
  ((512 < A.length ∨ 512 < C.length) ∧ e = .returned (.tuple #[.slice none 0 0, .int .i64 4]) ∧ Below w.heap.size w w') ∨
  ((A.length ≤ 512 ∧ C.length ≤ 512) ∧ ∃ v B, e = .returned (.tuple #[v, .int .i64 0]) ∧ PatchAt B w' v (patchL A C) ∧ w.heap.size ≤ B ∧ B ≤ w'.heap.size ∧ Below w.heap.size w w')
def pairV (i j : Nat) : List Value := [.int .i64 (i : Int), .int .i64 (j : Int)]
theorem infoInt9 : ∃ i, Tryd.prog.info? 3 = some i := by
  cases h : Tryd.prog.info? 3 with
  | none =>
    have : (Tryd.prog.info? 3).isSome = true := by kernel_rfl
    rw [h] at this
    cases this
  | some i => exact ⟨i, rfl⟩
set_option maxRecDepth 100000 in
theorem pairEq (W : World) (i j n m : Nat) : (Op.equalIn 10000 69 (.agg #[.int .i64 (i : Int), .int .i64 (j : Int)]) (.agg #[.int .i64 (n : Int), .int .i64 (m : Int)])).run Tryd.prog W = .ok (decide (i = n ∧ j = m)) W := by
  obtain ⟨ii, hii⟩ := infoInt9
  rw [run_equalIn_array W 9999 _ _ (show Tryd.prog.underlying 69 = some (.array 2 3) by kernel_rfl) hii, show Tryd.prog.cellsOf 3 = 1 by kernel_rfl]
  by_cases h1 : i = n
  · by_cases h2 : j = m
    · subst h1 h2
      rw [show List.range 2 = [0, 1] from rfl, decide_eq_true ⟨rfl, rfl⟩]
      simp only [Op.eqItems]
      go_simp
    · have q : ((j : Int) == (m : Int)) = false := by rw [beq_eq_false_iff_ne]; omega
      subst h1
      rw [show List.range 2 = [0, 1] from rfl, decide_eq_false (fun h => h2 h.2)]
      simp only [Op.eqItems]
      go_simp
  · have q : ((i : Int) == (n : Int)) = false := by rw [beq_eq_false_iff_ne]; omega
    rw [show List.range 2 = [0, 1] from rfl, decide_eq_false (fun h => h1 h.1)]
    simp only [Op.eqItems]
    go_simp
theorem flat_le {s : List UInt8} : ∀ {L : List (List UInt8)}, s ∈ L → s.length ≤ L.flatten.length
  | x :: L, h => by
    rw [List.flatten_cons, List.length_append]
    rcases List.mem_cons.1 h with rfl | h
    · omega
    · have := flat_le h; omega
theorem splitD_le (l s : List UInt8) (h : s ∈ splitD l) : s.length ≤ l.length := by
  have := flat_le h
  rwa [splitD_flat] at this
def cellN (w : World) (g k : Nat) : Nat := (RowKit.intOf ((w.cell? ⟨g, k, none⟩).getD undef)).toNat
/-- what the loop carries -/
structure LoopC (A C : List (List UInt8)) (B p ga ge n1 n2 i j : Nat) (st : St7) (w2 wr : World) : Prop where
  ws : WS B wr p st
  at_ : Row wr ga 69 (pairV i j)
  en : Row wr ge 69 (pairV n1 n2)
  bel : Below p w2 wr
  fold : doneW ((script (A.drop i) (C.drop j)).foldl stepW st) = patchL A C
  lo : st.out.length ≤ 2 * (i + j)
  ls : st.same.length ≤ i + j
  lg : st.gone.length ≤ i + j
  lc : st.come.length ≤ i + j
theorem LoopC.keep {A C : List (List UInt8)} {B p ga ge n1 n2 i j : Nat} {st : St7} {w2 wr w' : World} (h : LoopC A C B p ga ge n1 n2 i j st w2 wr) (hp : p ≤ wr.heap.size) (hb : Below wr.heap.size wr w') : LoopC A C B p ga ge n1 n2 i j st w2 w' :=
  ⟨h.ws.keep hb, h.at_.keep hb h.at_.lt, h.en.keep hb h.en.lt, h.bel.trans (hb.mono hp), h.fold, h.lo, h.ls, h.lg, h.lc⟩
theorem WS.other {B p g : Nat} {w w' : World} {st : St7} (h : WS B w p st) (hg : w.grownBy w' (some g)) (hB : g < B) (hne : g ≠ p) : WS B w' p st := by
  obtain ⟨hs, vo, vs, vg, vc, h⟩ := h
  exact ⟨hs, vo, vs, vg, vc, h.row.apart hg (Ne.symm hne), h.lt, Nat.le_trans h.size hg.size, h.sw.other hg hB, h.clip⟩
theorem pair_set0 (i j : Nat) (k : Nat) : (pairV i j).set 0 (.int .i64 (k : Int)) = pairV k j := rfl
theorem pair_set1 (i j : Nat) (k : Nat) : (pairV i j).set 1 (.int .i64 (k : Int)) = pairV i k := rfl
set_option maxHeartbeats 8000000 in
set_option maxRecDepth 100000 in
theorem linesC (w : World) (x y : List UInt8) (hx : x.length ≤ 67108864) (hy : y.length ≤ 67108864) (hT : Tabs w) :
    Calls Tryd.prog 10 #[.string (bstr x), .string (bstr y)] w (LinesP w (splitD x) (splitD y)) := by
  have HA := Lib.hid (fun w1 => splitC w1 x hx)
  have HC := Lib.hid (fun w1 => splitC w1 y hy)
  have HT0 := Lib.hid hT
  obtain ⟨A, hA⟩ : ∃ A, splitD x = A := ⟨_, rfl⟩
  obtain ⟨C, hC⟩ : ∃ C, splitD y = C := ⟨_, rfl⟩
  rw [hA, hC]
  have HDA := Lib.hid hA
  have HDC := Lib.hid hC
  have HLA : Hid (∀ s ∈ A, s.length ≤ 1099511627776) := Lib.hid (by rw [← hA]; exact fun s hs => Nat.le_trans (splitD_le x s hs) (by omega))
  have HLC : Hid (∀ s ∈ C, s.length ≤ 1099511627776) := Lib.hid (by rw [← hC]; exact fun s hs => Nat.le_trans (splitD_le y s hs) (by omega))
  clear hA hC hT
  go_enter Tryd.func10, Tryd.ntmps10
  go_wp2_with fail
  refine wp_scope_straight ?_
  go_upto_region 2 with (first
    | (go_at_call_of 38 (Value.string (bstr x)); refine (HA.out _ HT0.out).mono ?_; rintro e w1 ⟨a1, n1, c1, rfl, hn1, hc1, hm1, hR1, hb1⟩; rw [HDA.out] at hn1 hR1; have HB1 := Lib.hid hb1; have HR1 := Lib.hid hR1; have HN1 := Lib.hid hn1; have HM1 := Lib.hid hm1; have HT1 : Hid (Tabs w1) := Lib.hid (HT0.out.next hb1); clear hb1 hR1 hn1 hm1)
    | (go_at_call_of 38 (Value.string (bstr y)); refine (HC.out _ HT1.out).mono ?_; rintro e w2 ⟨a2, n2, c2, rfl, hn2, hc2, hm2, hR2, hb2⟩; rw [HDC.out] at hn2 hR2; have HB2 := Lib.hid hb2; have HR2 := Lib.hid hR2; have HN2 := Lib.hid hn2; have HM2 := Lib.hid hm2; clear hb2 hR2 hn2 hm2))
  have B2 : Below w.heap.size w w2 := HB1.out.trans (HB2.out.mono HB1.out.size)
  have HB := Lib.hid B2
  have RA : ReadsS w2 a1 n1 A := HR1.out.keep HB2.out (Nat.le_refl _)
  have HRA := Lib.hid RA
  have s2 := B2.size
  clear B2 RA
  by_cases h1 : 512 < n1
  · have h1' : (512 : Int) < (n1 : Int) := by omega
    go_wp2
    go_ret2
    exact .inl ⟨.inl (by rw [← HN1.out]; exact h1), rfl, HB.out⟩
  by_cases h2 : 512 < n2
  · have h1' : (n1 : Int) ≤ 512 := by omega
    have h2' : (512 : Int) < (n2 : Int) := by omega
    go_wp2
    go_ret2
    exact .inl ⟨.inr (by rw [← HN2.out]; exact h2), rfl, HB.out⟩
  have h1' : (n1 : Int) ≤ 512 := by omega
  have h2' : (n2 : Int) ≤ 512 := by omega
  have hle := leastC w2 a1 a2 n1 n2 c1 c2 A C HRA.out HR2.out (by omega) (by omega) hc1 hc2
  have HLE := Lib.hid hle
  clear hle
  go_upto_region 5 with (go_at_call 39; refine (HLE.out).mono ?_; rintro e w3 ⟨rfl, hT3, hb3⟩; have HT3 := Lib.hid hT3; have HB3 := Lib.hid hb3; clear hT3 hb3)
  have g3 := HT3.out.lt
  have B3 : Below w.heap.size w w3 := HB.out.trans (HB3.out.mono s2)
  have HB03 := Lib.hid B3
  have s3 := HB3.out.size
  obtain ⟨p, hp⟩ : ∃ p, p = w3.heap.size := ⟨_, rfl⟩
  have HRA3 : Hid (ReadsS w3 a1 n1 A) := Lib.hid (HRA.out.keep HB3.out (Nat.le_refl _))
  have HRC3 : Hid (ReadsS w3 a2 n2 C) := Lib.hid (HR2.out.keep HB3.out (Nat.le_refl _))
  obtain ⟨g, hg⟩ : ∃ g, g = w2.heap.size := ⟨_, rfl⟩
  have HT : Hid (Grid w3 g n1 (KF A C n2 0)) := by rw [hg]; exact HT3
  have hgp : g < p := by rw [hg, hp]; exact g3
  rw [← hg]
  clear HT3 HLE B3 g3 hg
  go_wp2
  rw [← hp]
  obtain ⟨w6, hw6⟩ : ∃ x, x = (((w3.alloc (Obj.cells #[Value.slice none 0 0, Value.slice none 0 0, Value.slice none 0 0, Value.slice none 0 0] 68)).alloc (Obj.cells #[Value.int IntKind.i64 0, Value.int IntKind.i64 0] 69)).alloc (Obj.cells #[Value.int IntKind.i64 n1, Value.int IntKind.i64 n2] 69)) := ⟨_, rfl⟩
  rw [← hw6]
  have HW6 : Hid (LoopC A C (p + 3) p (p + 1) (p + 1 + 1) n1 n2 0 0 ⟨[], [], [], []⟩ w3 w6 ∧ Below w3.heap.size w3 w6) := by
    rw [hw6, hp]
    have q1 : w3.heap.size + 1 = (w3.alloc (Obj.cells #[Value.slice none 0 0, Value.slice none 0 0, Value.slice none 0 0, Value.slice none 0 0] 68)).heap.size := by simp
    have q2 : w3.heap.size + 1 + 1 = ((w3.alloc (Obj.cells #[Value.slice none 0 0, Value.slice none 0 0, Value.slice none 0 0, Value.slice none 0 0] 68)).alloc (Obj.cells #[Value.int IntKind.i64 0, Value.int IntKind.i64 0] 69)).heap.size := by simp
    refine Lib.hid ⟨⟨⟨[], nilV, nilV, nilV, nilV, ?_, by omega, by simp, SW.start _ _ _ (fun q hq => ?_), fun h hh => by cases hh⟩, ?_, ?_, ((((Below.refl _ w3).alloc (Nat.le_refl _) _).alloc (by simp) _).alloc (by simp; omega) _), rfl, Nat.zero_le _, Nat.zero_le _, Nat.zero_le _, Nat.zero_le _⟩, (((Below.refl _ w3).alloc (Nat.le_refl _) _).alloc (by simp) _).alloc (by simp; omega) _⟩
    · exact ((row_new w3 [nilV, nilV, nilV, nilV] 68).alloc _).alloc _
    · simp only [List.mem_cons, List.not_mem_nil, or_false] at hq
      rcases hq with rfl | rfl | rfl <;> rfl
    · rw [q1]; exact (row_new _ (pairV 0 0) 69).alloc _
    · rw [q2]; exact row_new _ (pairV n1 n2) 69
  obtain ⟨ga, hga⟩ : ∃ ga, ga = p + 1 := ⟨_, rfl⟩
  obtain ⟨ge, hge⟩ : ∃ ge, ge = ga + 1 := ⟨_, rfl⟩
  rw [← hga, ← hge] at HW6 ⊢
  have HE := Lib.hid (⟨hp, hga, hge⟩ : p = w3.heap.size ∧ ga = p + 1 ∧ ge = ga + 1)
  clear hw6 hp hga hge
  go_step3
  go_wp2
  go_loopw [12, 13] (fun _ _ wr => ∃ (i j : Nat) (st : St7), i ≤ n1 ∧ j ≤ n2 ∧ Hid (LoopC A C (p + 3) p ga ge n1 n2 i j st w3 wr)) (fun _ _ wr => (n1 - cellN wr ga 0) + (n2 - cellN wr ga 1))
  case atStart => exact ⟨0, 0, _, Nat.zero_le _, Nat.zero_le _, Lib.hid HW6.out.1⟩
  case round =>
    obtain ⟨i, j, st, hi, hj, HR⟩ := hrel
    have n3 : p ≤ w3.heap.size := Nat.le_of_eq HE.out.1
    have g1 : ga < p + 3 := by have := HE.out; omega
    have g2 : ge < p + 3 := by have := HE.out; omega
    have g3 : ga ≠ p := by have := HE.out; omega
    have g4 : ge ≠ p := by have := HE.out; omega
    have g5 : ge ≠ ga := by have := HE.out; omega
    have g6 : p ≤ ga := by have := HE.out; omega
    have hpr : p ≤ wr.heap.size := Nat.le_trans (by omega) HR.out.ws.size.1
    have ca0 : wr.cell? ⟨ga, 0, none⟩ = some (.int .i64 (i : Int)) := HR.out.at_.cell 0
    have ca1 : wr.cell? ⟨ga, 1, none⟩ = some (.int .i64 (j : Int)) := HR.out.at_.cell 1
    have ce0 : wr.cell? ⟨ge, 0, none⟩ = some (.int .i64 (n1 : Int)) := HR.out.en.cell 0
    have ce1 : wr.cell? ⟨ge, 1, none⟩ = some (.int .i64 (n2 : Int)) := HR.out.en.cell 1
    have b0 := HR.out.lo
    have b1 := HR.out.ls
    have b2 := HR.out.lg
    have b3 := HR.out.lc
    have hm1 : cellN wr ga 0 = i := by unfold cellN; rw [ca0]; rfl
    have hm2 : cellN wr ga 1 = j := by unfold cellN; rw [ca1]; rfl
    rw [hm1, hm2]
    clear hm1 hm2
    have hpe := pairEq wr i j n1 n2
    by_cases hd : i = n1 ∧ j = n2
    · rw [decide_eq_true hd] at hpe
      obtain ⟨rfl, rfl⟩ := hd
      have hout : doneW st = patchL A C := by
        have := HR.out.fold
        rw [show A.drop i = [] from List.drop_of_length_le (by rw [HN1.out]; exact Nat.le_refl _), show C.drop j = [] from List.drop_of_length_le (by rw [HN2.out]; exact Nat.le_refl _), script_nil] at this
        exact this
      have HOUT := Lib.hid hout
      clear hout
      go_wp2_with (go_at_call 43; refine (doneC wr (p + 3) p st HR.out.ws (by omega)).mono ?_; rintro e w8 ⟨v8, rfl, hP, hkb, hsz⟩; have HP := Lib.hid hP; have HKB := Lib.hid hkb; have HSZ := Lib.hid hsz; clear hP hkb hsz)
      go_ret2
      have hP := HP.out
      rw [HOUT.out] at hP
      refine .inr ⟨⟨by rw [← HN1.out]; omega, by rw [← HN2.out]; omega⟩, v8, p + 3, rfl, hP, by have := HB03.out.size; have := HE.out.1; omega, HSZ.out, ?_⟩
      have hbp : Below p w3 w8 := HR.out.bel.trans (HKB.out.below (by omega) (Nat.le_refl _) hpr)
      exact HB03.out.trans (hbp.mono (by rw [HE.out.1]; exact HB03.out.size))
    · rw [decide_eq_false hd] at hpe
      by_cases hin : i < n1
      · obtain ⟨ba, oa, p9, rfl, hba, hap, hca⟩ := HRA3.out.at hin
        have hba3 : ba < p := by rw [HE.out.1]; exact hba
        have hdp : A.drop i = p9 :: A.drop (i + 1) := drop_cons hap
        have hii : (i : Int) < (n1 : Int) := by omega
        clear hba
        by_cases hjn : j < n2
        · obtain ⟨bc, oc, q9, rfl, hbc, hcp, hcc⟩ := HRC3.out.at hjn
          have hbc3 : bc < p := by rw [HE.out.1]; exact hbc
          have hdq : C.drop j = q9 :: C.drop (j + 1) := drop_cons hcp
          have hjj : (j : Int) < (n2 : Int) := by omega
          clear hbc
          by_cases hpq : p9 = q9
          · subst hpq
            have hln : p9.length ≤ 1099511627776 := HLA.out p9 (List.mem_of_getElem? hap)
            have HF := Lib.hid (show doneW ((script (A.drop (i + 1)) (C.drop (j + 1))).foldl stepW (stepW st (.same p9))) = patchL A C by
              have := HR.out.fold
              rw [hdp, hdq, script_same] at this
              exact this)
            have hbe : (p9 == p9) = true := by simp
            have hk0 : ∀ W, Below p w3 W → W.cell? ⟨ba, oa + i, none⟩ = some (.string (bstr p9)) ∧ W.cell? ⟨bc, oc + j, none⟩ = some (.string (bstr p9)) := fun W hW => ⟨(hW.cell (p := ⟨ba, oa + i, none⟩) hba3).trans hca, (hW.cell (p := ⟨bc, oc + j, none⟩) hbc3).trans hcc⟩
            have HK0 := Lib.hid hk0
            have hkr := hk0 wr HR.out.bel
            obtain ⟨r0, r1⟩ := hkr
            clear hk0 hca hba3 hap hdp hcc hbc3 hcp hdq 
            go_wp2
            go_quiet (fail)
            obtain ⟨wq, hwq⟩ : ∃ x, x = wr.drewN nq := ⟨_, rfl⟩
            have HQ : Hid (LoopC A C (p + 3) p ga ge n1 n2 i j st w3 wq) := by rw [hwq]; exact Lib.hid (HR.out.keep hpr (below_drewN2 _ _))
            rw [← hwq]
            clear hwq
            have hkq := HK0.out wq HQ.out.bel
            obtain ⟨s0, s1⟩ := hkq
            go_wp2
            go_quiet (fail)
            obtain ⟨wb, hwb⟩ : ∃ x, x = wq.drewN nq := ⟨_, rfl⟩
            have hpb : p ≤ wq.heap.size := Nat.le_trans (by omega) HQ.out.ws.size.1
            have HQb : Hid (LoopC A C (p + 3) p ga ge n1 n2 i j st w3 wb) := by rw [hwb]; exact Lib.hid (HQ.out.keep hpb (below_drewN2 _ _))
            rw [← hwb]
            clear hwb
            have hkb := HK0.out wb HQb.out.bel
            obtain ⟨v0, v1⟩ := hkb
            have hpc : p ≤ wb.heap.size := Nat.le_trans (by omega) HQb.out.ws.size.1
            go_upto_region 11 with (go_at_call 40; refine (staysC wb (p + 3) p st p9 HQb.out.ws (by omega) (by omega) hln).mono ?_; rintro e w8 ⟨⟨u8, rfl⟩, hS, hkb8⟩; have HS := Lib.hid hS; have HKB := Lib.hid hkb8; clear hS hkb8)
            have hra : Row w8 ga 69 (pairV i j) := HKB.out.row HQb.out.at_ g1 g3
            have hre : Row w8 ge 69 (pairV n1 n2) := HKB.out.row HQb.out.en g2 g4
            have hb8 : Below p w3 w8 := HQb.out.bel.trans (HKB.out.below (by omega) (Nat.le_refl _) hpc)
            have HRA8 := Lib.hid hra; have HRE8 := Lib.hid hre; have HB8 := Lib.hid hb8
            have x1 : w8.cell? ⟨ga, 0, none⟩ = some (.int .i64 (i : Int)) := hra.cell 0
            have x2 : w8.frozen? ⟨ga, 0, none⟩ = false := hra.frozen 0
            clear hra hre hb8
            go_upto_region 12 with (fail)
            obtain ⟨w9, hw9⟩ : ∃ x, x = w8.setCell ⟨ga, 0, none⟩ (.int .i64 ((i : Int) + 1)) := ⟨_, rfl⟩
            have hra9 : Row w9 ga 69 (pairV (i + 1) j) := by rw [hw9]; exact HRA8.out.set 0 (.int .i64 ((i : Int) + 1))
            have HN9 : Hid (w8.grownBy w9 (some ga)) := by rw [hw9]; exact Lib.hid (grownBy_setCell _ _ _ _)
            rw [← hw9]
            have y1 : w9.cell? ⟨ga, 1, none⟩ = some (.int .i64 (j : Int)) := hra9.cell 1
            have y2 : w9.frozen? ⟨ga, 1, none⟩ = false := hra9.frozen 1
            have HRA9 := Lib.hid hra9
            clear hra9 hw9
            go_wp2
            have hgn : w8.grownBy (w9.setCell ⟨ga, 1, none⟩ (.int .i64 ((j : Int) + 1))) (some ga) := (grownBy_trans HN9.out (grownBy_setCell _ _ _ _))
            have hrn : Row (w9.setCell ⟨ga, 1, none⟩ (.int .i64 ((j : Int) + 1))) ga 69 (pairV (i + 1) (j + 1)) := HRA9.out.set 1 (.int .i64 ((j : Int) + 1))
            have HNX : Hid (LoopC A C (p + 3) p ga ge n1 n2 (i + 1) (j + 1) (stepW st (.same p9)) w3 (w9.setCell ⟨ga, 1, none⟩ (.int .i64 ((j : Int) + 1)))) := by
              refine Lib.hid ⟨HS.out.other hgn g1 g3, hrn, HRE8.out.apart hgn g5, HB8.out.trans (below_grownBy hgn g6 (Nat.le_trans (by omega) HS.out.size.1)), HF.out, ?_, ?_, ?_, ?_⟩
              · show (putK 3 st.come (putK 2 st.gone st.out)).length ≤ _; have k1 := putK_le 2 st.gone st.out; have k2 := putK_le 3 st.come (putK 2 st.gone st.out); omega
              · show (st.same ++ [p9]).length ≤ _; rw [List.length_append, List.length_singleton]; omega
              · exact Nat.zero_le _
              · exact Nat.zero_le _
            have hm1 : cellN (w9.setCell ⟨ga, 1, none⟩ (.int .i64 ((j : Int) + 1))) ga 0 = i + 1 := by unfold cellN; rw [hrn.cell 0]; rfl
            have hm2 : cellN (w9.setCell ⟨ga, 1, none⟩ (.int .i64 ((j : Int) + 1))) ga 1 = j + 1 := by unfold cellN; rw [hrn.cell 1]; rfl
            clear hrn hgn
            go_roundw
            case rel => exact ⟨i + 1, j + 1, _, by omega, by omega, HNX⟩
            case measure => rw [hm1, hm2]; omega
          · obtain ⟨v2, hcd2, _, hdv2⟩ := HT.out.cell (i := i + 1) (j := j) (by omega) (by omega)
            obtain ⟨v3, hcd3, _, hdv3⟩ := HT.out.cell (i := i) (j := j + 1) (by omega) (by omega)
            obtain ⟨d2, hdd2⟩ : ∃ d2, dist (A.drop (i + 1)) (C.drop j) = d2 := ⟨_, rfl⟩
            obtain ⟨d3, hdd3⟩ : ∃ d3, dist (A.drop i) (C.drop (j + 1)) = d3 := ⟨_, rfl⟩
            have hv2 := hdv2 d2 (by unfold KF; rw [if_pos ⟨Nat.zero_le _, by omega⟩, hdd2])
            have hv3 := hdv3 d3 (by unfold KF; rw [if_pos ⟨Nat.zero_le _, by omega⟩, hdd3])
            unfold I16 at hv2 hv3
            subst hv2 hv3
            clear hdv2 hdv3
            obtain ⟨i1, hi1⟩ : ∃ i1, i + 1 = i1 := ⟨_, rfl⟩
            obtain ⟨j1, hj1⟩ : ∃ j1, j + 1 = j1 := ⟨_, rfl⟩
            rw [hi1] at hcd2
            rw [hj1] at hcd3
            have hw1 : IntKind.i64.wrap ((i : Int) + 1) = (i1 : Int) := by rw [show (i : Int) + 1 = (i1 : Int) by omega]; exact IntWalk.i64_in _ (by omega)
            have hw2 : IntKind.i64.wrap ((j : Int) + 1) = (j1 : Int) := by rw [show (j : Int) + 1 = (j1 : Int) by omega]; exact IntWalk.i64_in _ (by omega)
            have hb1 : (i1 : Int) < (n1 : Int) + 1 := by omega
            have hb2 : (j1 : Int) < 513 := by omega
            have hb3 : (i : Int) < (n1 : Int) + 1 := by omega
            have hb4 : (j : Int) < 513 := by omega
            have hne : (p9 == q9) = false := by rw [beq_eq_false_iff_ne]; exact hpq
            have hjn2 : (j : Int) ≠ (n2 : Int) := by omega
            have hjn3 : ((j : Int) == (n2 : Int)) = false := by rw [beq_eq_false_iff_ne]; exact hjn2
            by_cases hdd : d2 ≤ d3
            · have hdi : (d2 : Int) ≤ (d3 : Int) := by omega
              have hln : p9.length ≤ 1099511627776 := HLA.out p9 (List.mem_of_getElem? hap)
              have HF := Lib.hid (show doneW ((script (A.drop (i + 1)) (C.drop j)).foldl stepW (stepW st (.gone p9))) = patchL A C by
                have := HR.out.fold
                rw [hdp, hdq, script, if_neg hpq, ← hdp, ← hdq, hdd2, hdd3, if_pos hdd] at this
                exact this)
              clear hi1 hj1 hpq hdd
              have hk0 : ∀ W, Below p w3 W → W.cell? ⟨ba, oa + i, none⟩ = some (.string (bstr p9)) ∧ W.cell? ⟨bc, oc + j, none⟩ = some (.string (bstr q9)) ∧ W.cell? ⟨g, i1 * 513 + j, none⟩ = some (.int .i16 (d2 : Int)) ∧ W.cell? ⟨g, i * 513 + j1, none⟩ = some (.int .i16 (d3 : Int)) := fun W hW => ⟨(hW.cell (p := ⟨ba, oa + i, none⟩) hba3).trans hca, (hW.cell (p := ⟨bc, oc + j, none⟩) hbc3).trans hcc, (hW.cell (p := ⟨g, i1 * 513 + j, none⟩) hgp).trans hcd2, (hW.cell (p := ⟨g, i * 513 + j1, none⟩) hgp).trans hcd3⟩
              have HK0 := Lib.hid hk0
              have hkr := hk0 wr HR.out.bel
              obtain ⟨r0, r1, r2, r3⟩ := hkr
              clear hk0 hca hba3 hap hdp hcc hbc3 hcp hdq hcd2 hcd3 hdd2 hdd3
              go_wp2
              go_quiet (fail)
              obtain ⟨wq, hwq⟩ : ∃ x, x = wr.drewN nq := ⟨_, rfl⟩
              have HQ : Hid (LoopC A C (p + 3) p ga ge n1 n2 i j st w3 wq) := by rw [hwq]; exact Lib.hid (HR.out.keep hpr (below_drewN2 _ _))
              rw [← hwq]
              clear hwq
              have hkq := HK0.out wq HQ.out.bel
              obtain ⟨s0, s1, s2, s3⟩ := hkq
              go_wp2
              go_quiet (fail)
              obtain ⟨wa, hwa⟩ : ∃ x, x = wq.drewN nq := ⟨_, rfl⟩
              have hpq : p ≤ wq.heap.size := Nat.le_trans (by omega) HQ.out.ws.size.1
              have HQa : Hid (LoopC A C (p + 3) p ga ge n1 n2 i j st w3 wa) := by rw [hwa]; exact Lib.hid (HQ.out.keep hpq (below_drewN2 _ _))
              rw [← hwa]
              clear hwa
              have hka := HK0.out wa HQa.out.bel
              obtain ⟨t0, t1, t2, t3⟩ := hka
              go_wp2
              go_quiet (fail)
              obtain ⟨wb, hwb⟩ : ∃ x, x = wa.drewN nq := ⟨_, rfl⟩
              have hpb : p ≤ wa.heap.size := Nat.le_trans (by omega) HQa.out.ws.size.1
              have HQb : Hid (LoopC A C (p + 3) p ga ge n1 n2 i j st w3 wb) := by rw [hwb]; exact Lib.hid (HQa.out.keep hpb (below_drewN2 _ _))
              rw [← hwb]
              clear hwb
              have hkb := HK0.out wb HQb.out.bel
              obtain ⟨v0, v1, v2, v3⟩ := hkb
              have hpc : p ≤ wb.heap.size := Nat.le_trans (by omega) HQb.out.ws.size.1
              clear hw1 hw2
              go_upto_region 15 with (go_at_call 41; refine (goesC wb (p + 3) p st p9 HQb.out.ws (by omega) (by omega) hln).mono ?_; rintro e w8 ⟨⟨u8, rfl⟩, hS, hkb8⟩; have HS := Lib.hid hS; have HKB := Lib.hid hkb8; clear hS hkb8)
              have hra : Row w8 ga 69 (pairV i j) := HKB.out.row HQb.out.at_ g1 g3
              have hre : Row w8 ge 69 (pairV n1 n2) := HKB.out.row HQb.out.en g2 g4
              have hb8 : Below p w3 w8 := HQb.out.bel.trans (HKB.out.below (by omega) (Nat.le_refl _) hpc)
              have HRA8 := Lib.hid hra; have HRE8 := Lib.hid hre; have HB8 := Lib.hid hb8
              have x1 : w8.cell? ⟨ga, 0, none⟩ = some (.int .i64 (i : Int)) := hra.cell 0
              have x2 : w8.frozen? ⟨ga, 0, none⟩ = false := hra.frozen 0
              clear hra hre hb8
              go_wp2
              have hgn : w8.grownBy (w8.setCell ⟨ga, 0, none⟩ (.int .i64 ((i : Int) + 1))) (some ga) := (grownBy_setCell _ _ _ _)
              have hrn : Row (w8.setCell ⟨ga, 0, none⟩ (.int .i64 ((i : Int) + 1))) ga 69 (pairV (i + 1) (j)) := HRA8.out.set 0 (.int .i64 ((i : Int) + 1))
              have HNX : Hid (LoopC A C (p + 3) p ga ge n1 n2 (i + 1) (j) (stepW st (.gone p9)) w3 (w8.setCell ⟨ga, 0, none⟩ (.int .i64 ((i : Int) + 1)))) := by
                refine Lib.hid ⟨HS.out.other hgn g1 g3, hrn, HRE8.out.apart hgn g5, HB8.out.trans (below_grownBy hgn g6 (Nat.le_trans (by omega) HS.out.size.1)), HF.out, ?_, ?_, ?_, ?_⟩
                · show (putK 1 st.same st.out).length ≤ _; have k1 := putK_le 1 st.same st.out; omega
                · exact Nat.zero_le _
                · show (st.gone ++ [p9]).length ≤ _; rw [List.length_append, List.length_singleton]; omega
                · show st.come.length ≤ _; omega
              have hm1 : cellN (w8.setCell ⟨ga, 0, none⟩ (.int .i64 ((i : Int) + 1))) ga 0 = i + 1 := by unfold cellN; rw [hrn.cell 0]; rfl
              have hm2 : cellN (w8.setCell ⟨ga, 0, none⟩ (.int .i64 ((i : Int) + 1))) ga 1 = j := by unfold cellN; rw [hrn.cell 1]; rfl
              clear hrn hgn
              go_roundw
              case rel => exact ⟨i + 1, j, _, by omega, by omega, HNX⟩
              case measure => rw [hm1, hm2]; omega
            · have hdi : ¬ d2 ≤ d3 := hdd
              have hln : q9.length ≤ 1099511627776 := HLC.out q9 (List.mem_of_getElem? hcp)
              have HF := Lib.hid (show doneW ((script (A.drop i) (C.drop (j + 1))).foldl stepW (stepW st (.come q9))) = patchL A C by
                have := HR.out.fold
                rw [hdp, hdq, script, if_neg hpq, ← hdp, ← hdq, hdd2, hdd3, if_neg hdd] at this
                exact this)
              clear hi1 hj1 hpq
              have hk0 : ∀ W, Below p w3 W → W.cell? ⟨ba, oa + i, none⟩ = some (.string (bstr p9)) ∧ W.cell? ⟨bc, oc + j, none⟩ = some (.string (bstr q9)) ∧ W.cell? ⟨g, i1 * 513 + j, none⟩ = some (.int .i16 (d2 : Int)) ∧ W.cell? ⟨g, i * 513 + j1, none⟩ = some (.int .i16 (d3 : Int)) := fun W hW => ⟨(hW.cell (p := ⟨ba, oa + i, none⟩) hba3).trans hca, (hW.cell (p := ⟨bc, oc + j, none⟩) hbc3).trans hcc, (hW.cell (p := ⟨g, i1 * 513 + j, none⟩) hgp).trans hcd2, (hW.cell (p := ⟨g, i * 513 + j1, none⟩) hgp).trans hcd3⟩
              have HK0 := Lib.hid hk0
              have hkr := hk0 wr HR.out.bel
              obtain ⟨r0, r1, r2, r3⟩ := hkr
              clear hk0 hca hba3 hap hdp hcc hbc3 hcp hdq hcd2 hcd3 hdd2 hdd3
              go_wp2
              go_quiet (fail)
              obtain ⟨wq, hwq⟩ : ∃ x, x = wr.drewN nq := ⟨_, rfl⟩
              have HQ : Hid (LoopC A C (p + 3) p ga ge n1 n2 i j st w3 wq) := by rw [hwq]; exact Lib.hid (HR.out.keep hpr (below_drewN2 _ _))
              rw [← hwq]
              clear hwq
              have hkq := HK0.out wq HQ.out.bel
              obtain ⟨s0, s1, s2, s3⟩ := hkq
              go_wp2
              go_quiet (fail)
              obtain ⟨wa, hwa⟩ : ∃ x, x = wq.drewN nq := ⟨_, rfl⟩
              have hpq : p ≤ wq.heap.size := Nat.le_trans (by omega) HQ.out.ws.size.1
              have HQa : Hid (LoopC A C (p + 3) p ga ge n1 n2 i j st w3 wa) := by rw [hwa]; exact Lib.hid (HQ.out.keep hpq (below_drewN2 _ _))
              rw [← hwa]
              clear hwa
              have hka := HK0.out wa HQa.out.bel
              obtain ⟨t0, t1, t2, t3⟩ := hka
              go_wp2
              go_quiet (fail)
              obtain ⟨wb, hwb⟩ : ∃ x, x = wa.drewN nq := ⟨_, rfl⟩
              have hpb : p ≤ wa.heap.size := Nat.le_trans (by omega) HQa.out.ws.size.1
              have HQb : Hid (LoopC A C (p + 3) p ga ge n1 n2 i j st w3 wb) := by rw [hwb]; exact Lib.hid (HQa.out.keep hpb (below_drewN2 _ _))
              rw [← hwb]
              clear hwb
              have hkb := HK0.out wb HQb.out.bel
              obtain ⟨v0, v1, v2, v3⟩ := hkb
              have hpc : p ≤ wb.heap.size := Nat.le_trans (by omega) HQb.out.ws.size.1
              clear hw1 hw2
              go_upto_region 17 with (go_at_call 42; refine (comesC wb (p + 3) p st q9 HQb.out.ws (by omega) (by omega) hln).mono ?_; rintro e w8 ⟨⟨u8, rfl⟩, hS, hkb8⟩; have HS := Lib.hid hS; have HKB := Lib.hid hkb8; clear hS hkb8)
              have hra : Row w8 ga 69 (pairV i j) := HKB.out.row HQb.out.at_ g1 g3
              have hre : Row w8 ge 69 (pairV n1 n2) := HKB.out.row HQb.out.en g2 g4
              have hb8 : Below p w3 w8 := HQb.out.bel.trans (HKB.out.below (by omega) (Nat.le_refl _) hpc)
              have HRA8 := Lib.hid hra; have HRE8 := Lib.hid hre; have HB8 := Lib.hid hb8
              have x1 : w8.cell? ⟨ga, 1, none⟩ = some (.int .i64 (j : Int)) := hra.cell 1
              have x2 : w8.frozen? ⟨ga, 1, none⟩ = false := hra.frozen 1
              clear hra hre hb8
              go_wp2
              have hgn : w8.grownBy (w8.setCell ⟨ga, 1, none⟩ (.int .i64 ((j : Int) + 1))) (some ga) := (grownBy_setCell _ _ _ _)
              have hrn : Row (w8.setCell ⟨ga, 1, none⟩ (.int .i64 ((j : Int) + 1))) ga 69 (pairV (i) (j + 1)) := HRA8.out.set 1 (.int .i64 ((j : Int) + 1))
              have HNX : Hid (LoopC A C (p + 3) p ga ge n1 n2 (i) (j + 1) (stepW st (.come q9)) w3 (w8.setCell ⟨ga, 1, none⟩ (.int .i64 ((j : Int) + 1)))) := by
                refine Lib.hid ⟨HS.out.other hgn g1 g3, hrn, HRE8.out.apart hgn g5, HB8.out.trans (below_grownBy hgn g6 (Nat.le_trans (by omega) HS.out.size.1)), HF.out, ?_, ?_, ?_, ?_⟩
                · show (putK 1 st.same st.out).length ≤ _; have k1 := putK_le 1 st.same st.out; omega
                · exact Nat.zero_le _
                · show st.gone.length ≤ _; omega
                · show (st.come ++ [q9]).length ≤ _; rw [List.length_append, List.length_singleton]; omega
              have hm1 : cellN (w8.setCell ⟨ga, 1, none⟩ (.int .i64 ((j : Int) + 1))) ga 0 = i := by unfold cellN; rw [hrn.cell 0]; rfl
              have hm2 : cellN (w8.setCell ⟨ga, 1, none⟩ (.int .i64 ((j : Int) + 1))) ga 1 = j + 1 := by unfold cellN; rw [hrn.cell 1]; rfl
              clear hrn hgn
              go_roundw
              case rel => exact ⟨i, j + 1, _, by omega, by omega, HNX⟩
              case measure => rw [hm1, hm2]; omega
        · obtain rfl : j = n2 := by omega
          have hln : p9.length ≤ 1099511627776 := HLA.out p9 (List.mem_of_getElem? hap)
          have HF := Lib.hid (show doneW ((script (A.drop (i + 1)) (C.drop j)).foldl stepW (stepW st (.gone p9))) = patchL A C by
            have := HR.out.fold
            rw [show C.drop j = [] from List.drop_of_length_le (by rw [HN2.out]; exact Nat.le_refl _), hdp, script] at this
            rw [show C.drop j = [] from List.drop_of_length_le (by rw [HN2.out]; exact Nat.le_refl _)]
            exact this)
          clear hjn
          have hk0 : ∀ W, Below p w3 W → W.cell? ⟨ba, oa + i, none⟩ = some (.string (bstr p9)) := fun W hW => (hW.cell (p := ⟨ba, oa + i, none⟩) hba3).trans hca
          have HK0 := Lib.hid hk0
          have hkr := hk0 wr HR.out.bel
          clear hk0 hca hba3 hap hdp 
          go_wp2
          go_quiet (fail)
          obtain ⟨wq, hwq⟩ : ∃ x, x = wr.drewN nq := ⟨_, rfl⟩
          have HQ : Hid (LoopC A C (p + 3) p ga ge n1 j i j st w3 wq) := by rw [hwq]; exact Lib.hid (HR.out.keep hpr (below_drewN2 _ _))
          rw [← hwq]
          clear hwq
          have hkq := HK0.out wq HQ.out.bel
          go_wp2
          go_quiet (fail)
          obtain ⟨wa, hwa⟩ : ∃ x, x = wq.drewN nq := ⟨_, rfl⟩
          have hpq : p ≤ wq.heap.size := Nat.le_trans (by omega) HQ.out.ws.size.1
          have HQa : Hid (LoopC A C (p + 3) p ga ge n1 j i j st w3 wa) := by rw [hwa]; exact Lib.hid (HQ.out.keep hpq (below_drewN2 _ _))
          rw [← hwa]
          clear hwa
          have hka := HK0.out wa HQa.out.bel
          go_wp2
          go_quiet (fail)
          obtain ⟨wb, hwb⟩ : ∃ x, x = wa.drewN nq := ⟨_, rfl⟩
          have hpb : p ≤ wa.heap.size := Nat.le_trans (by omega) HQa.out.ws.size.1
          have HQb : Hid (LoopC A C (p + 3) p ga ge n1 j i j st w3 wb) := by rw [hwb]; exact Lib.hid (HQa.out.keep hpb (below_drewN2 _ _))
          rw [← hwb]
          clear hwb
          have hkb := HK0.out wb HQb.out.bel
          have hpc : p ≤ wb.heap.size := Nat.le_trans (by omega) HQb.out.ws.size.1
          go_upto_region 15 with (go_at_call 41; refine (goesC wb (p + 3) p st p9 HQb.out.ws (by omega) (by omega) hln).mono ?_; rintro e w8 ⟨⟨u8, rfl⟩, hS, hkb8⟩; have HS := Lib.hid hS; have HKB := Lib.hid hkb8; clear hS hkb8)
          have hra : Row w8 ga 69 (pairV i j) := HKB.out.row HQb.out.at_ g1 g3
          have hre : Row w8 ge 69 (pairV n1 j) := HKB.out.row HQb.out.en g2 g4
          have hb8 : Below p w3 w8 := HQb.out.bel.trans (HKB.out.below (by omega) (Nat.le_refl _) hpc)
          have HRA8 := Lib.hid hra; have HRE8 := Lib.hid hre; have HB8 := Lib.hid hb8
          have x1 : w8.cell? ⟨ga, 0, none⟩ = some (.int .i64 (i : Int)) := hra.cell 0
          have x2 : w8.frozen? ⟨ga, 0, none⟩ = false := hra.frozen 0
          clear hra hre hb8
          go_wp2
          have hgn : w8.grownBy (w8.setCell ⟨ga, 0, none⟩ (.int .i64 ((i : Int) + 1))) (some ga) := (grownBy_setCell _ _ _ _)
          have hrn : Row (w8.setCell ⟨ga, 0, none⟩ (.int .i64 ((i : Int) + 1))) ga 69 (pairV (i + 1) (j)) := HRA8.out.set 0 (.int .i64 ((i : Int) + 1))
          have HNX : Hid (LoopC A C (p + 3) p ga ge n1 j (i + 1) (j) (stepW st (.gone p9)) w3 (w8.setCell ⟨ga, 0, none⟩ (.int .i64 ((i : Int) + 1)))) := by
            refine Lib.hid ⟨HS.out.other hgn g1 g3, hrn, HRE8.out.apart hgn g5, HB8.out.trans (below_grownBy hgn g6 (Nat.le_trans (by omega) HS.out.size.1)), HF.out, ?_, ?_, ?_, ?_⟩
            · show (putK 1 st.same st.out).length ≤ _; have k1 := putK_le 1 st.same st.out; omega
            · exact Nat.zero_le _
            · show (st.gone ++ [p9]).length ≤ _; rw [List.length_append, List.length_singleton]; omega
            · show st.come.length ≤ _; omega
          have hm1 : cellN (w8.setCell ⟨ga, 0, none⟩ (.int .i64 ((i : Int) + 1))) ga 0 = i + 1 := by unfold cellN; rw [hrn.cell 0]; rfl
          have hm2 : cellN (w8.setCell ⟨ga, 0, none⟩ (.int .i64 ((i : Int) + 1))) ga 1 = j := by unfold cellN; rw [hrn.cell 1]; rfl
          clear hrn hgn
          go_roundw
          case rel => exact ⟨i + 1, j, _, by omega, by omega, HNX⟩
          case measure => rw [hm1, hm2]; omega
      · obtain rfl : i = n1 := by omega
        have hjn : j < n2 := by omega
        obtain ⟨bc, oc, q9, rfl, hbc, hcp, hcc⟩ := HRC3.out.at hjn
        have hbc3 : bc < p := by rw [HE.out.1]; exact hbc
        have hdq : C.drop j = q9 :: C.drop (j + 1) := drop_cons hcp
        have hjj : (j : Int) < (n2 : Int) := by omega
        clear hbc
        have hln : q9.length ≤ 1099511627776 := HLC.out q9 (List.mem_of_getElem? hcp)
        have HF := Lib.hid (show doneW ((script (A.drop i) (C.drop (j + 1))).foldl stepW (stepW st (.come q9))) = patchL A C by
          have := HR.out.fold
          rw [show A.drop i = [] from List.drop_of_length_le (by rw [HN1.out]; exact Nat.le_refl _), hdq, script] at this
          rw [show A.drop i = [] from List.drop_of_length_le (by rw [HN1.out]; exact Nat.le_refl _)]
          exact this)
        clear hin
        have hk0 : ∀ W, Below p w3 W → W.cell? ⟨bc, oc + j, none⟩ = some (.string (bstr q9)) := fun W hW => (hW.cell (p := ⟨bc, oc + j, none⟩) hbc3).trans hcc
        have HK0 := Lib.hid hk0
        have hkr := hk0 wr HR.out.bel
        clear hk0 hcc hbc3 hcp hdq 
        go_wp2
        go_quiet (fail)
        obtain ⟨wq, hwq⟩ : ∃ x, x = wr.drewN nq := ⟨_, rfl⟩
        have HQ : Hid (LoopC A C (p + 3) p ga ge i n2 i j st w3 wq) := by rw [hwq]; exact Lib.hid (HR.out.keep hpr (below_drewN2 _ _))
        rw [← hwq]
        clear hwq
        have hkq := HK0.out wq HQ.out.bel
        go_wp2
        go_quiet (fail)
        obtain ⟨wa, hwa⟩ : ∃ x, x = wq.drewN nq := ⟨_, rfl⟩
        have hpq : p ≤ wq.heap.size := Nat.le_trans (by omega) HQ.out.ws.size.1
        have HQa : Hid (LoopC A C (p + 3) p ga ge i n2 i j st w3 wa) := by rw [hwa]; exact Lib.hid (HQ.out.keep hpq (below_drewN2 _ _))
        rw [← hwa]
        clear hwa
        have hka := HK0.out wa HQa.out.bel
        go_wp2
        go_quiet (fail)
        obtain ⟨wb, hwb⟩ : ∃ x, x = wa.drewN nq := ⟨_, rfl⟩
        have hpb : p ≤ wa.heap.size := Nat.le_trans (by omega) HQa.out.ws.size.1
        have HQb : Hid (LoopC A C (p + 3) p ga ge i n2 i j st w3 wb) := by rw [hwb]; exact Lib.hid (HQa.out.keep hpb (below_drewN2 _ _))
        rw [← hwb]
        clear hwb
        have hkb := HK0.out wb HQb.out.bel
        have hpc : p ≤ wb.heap.size := Nat.le_trans (by omega) HQb.out.ws.size.1
        go_upto_region 17 with (go_at_call 42; refine (comesC wb (p + 3) p st q9 HQb.out.ws (by omega) (by omega) hln).mono ?_; rintro e w8 ⟨⟨u8, rfl⟩, hS, hkb8⟩; have HS := Lib.hid hS; have HKB := Lib.hid hkb8; clear hS hkb8)
        have hra : Row w8 ga 69 (pairV i j) := HKB.out.row HQb.out.at_ g1 g3
        have hre : Row w8 ge 69 (pairV i n2) := HKB.out.row HQb.out.en g2 g4
        have hb8 : Below p w3 w8 := HQb.out.bel.trans (HKB.out.below (by omega) (Nat.le_refl _) hpc)
        have HRA8 := Lib.hid hra; have HRE8 := Lib.hid hre; have HB8 := Lib.hid hb8
        have x1 : w8.cell? ⟨ga, 1, none⟩ = some (.int .i64 (j : Int)) := hra.cell 1
        have x2 : w8.frozen? ⟨ga, 1, none⟩ = false := hra.frozen 1
        clear hra hre hb8
        go_wp2
        have hgn : w8.grownBy (w8.setCell ⟨ga, 1, none⟩ (.int .i64 ((j : Int) + 1))) (some ga) := (grownBy_setCell _ _ _ _)
        have hrn : Row (w8.setCell ⟨ga, 1, none⟩ (.int .i64 ((j : Int) + 1))) ga 69 (pairV (i) (j + 1)) := HRA8.out.set 1 (.int .i64 ((j : Int) + 1))
        have HNX : Hid (LoopC A C (p + 3) p ga ge i n2 (i) (j + 1) (stepW st (.come q9)) w3 (w8.setCell ⟨ga, 1, none⟩ (.int .i64 ((j : Int) + 1)))) := by
          refine Lib.hid ⟨HS.out.other hgn g1 g3, hrn, HRE8.out.apart hgn g5, HB8.out.trans (below_grownBy hgn g6 (Nat.le_trans (by omega) HS.out.size.1)), HF.out, ?_, ?_, ?_, ?_⟩
          · show (putK 1 st.same st.out).length ≤ _; have k1 := putK_le 1 st.same st.out; omega
          · exact Nat.zero_le _
          · show st.gone.length ≤ _; omega
          · show (st.come ++ [q9]).length ≤ _; rw [List.length_append, List.length_singleton]; omega
        have hm1 : cellN (w8.setCell ⟨ga, 1, none⟩ (.int .i64 ((j : Int) + 1))) ga 0 = i := by unfold cellN; rw [hrn.cell 0]; rfl
        have hm2 : cellN (w8.setCell ⟨ga, 1, none⟩ (.int .i64 ((j : Int) + 1))) ga 1 = j + 1 := by unfold cellN; rw [hrn.cell 1]; rfl
        clear hrn hgn
        go_roundw
        case rel => exact ⟨i, j + 1, _, by omega, by omega, HNX⟩
        case measure => rw [hm1, hm2]; omega
end Go.Proofs.YtnbihjocdlpplaaDoor
/- The three lines that the statements end with; what a patch of two texts fits. -/
namespace Go.Proofs.YtnbihjocdlpplaaDoor
set_option linter.unusedVariables false
set_option linter.unusedSimpArgs false
open Go.RowKit
open Go.Lib hiding intOf
theorem fit_of {X : List HkI} (h : okB 0 X = true) (h2 : (sideI 2 X).length ≤ 512) (h3 : (sideI 3 X).length ≤ 512) (hb : (sideI 2 X).flatten.length + (sideI 3 X).flatten.length ≤ 67108864) : Fit X := by
  have m1 := fun x hx => (okB_mem X 0 h x hx).1
  have l1 := lines_sides X m1
  have l2 := bytes_sides X m1
  have l3 := len_lines X (fun x hx => (okB_mem X 0 h x hx).2)
  exact ⟨by omega, by omega, by omega⟩
theorem whole_split (l : List UInt8) (h : (splitD l).length ≤ 512) : wholeB (splitD l) = true := by
  unfold wholeB
  rw [decide_eq_true h, splitD_flat]
  simp
theorem patch_sidesI (A C : List (List UInt8)) : sideI 2 ((patchL A C).map toI) = A ∧ sideI 3 ((patchL A C).map toI) = C := by
  have h := patch_sides A C
  have e2 := sideI_to 2 (patchL A C)
  have e3 := sideI_to 3 (patchL A C)
  exact ⟨e2.trans h.1, e3.trans h.2⟩
theorem patch_okB (A C : List (List UInt8)) : okB 0 ((patchL A C).map toI) = true := (okB_to _ 0).2 (patchOf_ok _)
theorem patch_check {x y : List UInt8} (hx : (splitD x).length ≤ 512) (hy : (splitD y).length ≤ 512) : checkB ((patchL (splitD x) (splitD y)).map toI) = true := by
  unfold checkB
  rw [patch_okB, (patch_sidesI _ _).1, (patch_sidesI _ _).2, whole_split x hx, whole_split y hy]
  rfl
theorem patch_fit {x y : List UInt8} (hx : (splitD x).length ≤ 512) (hy : (splitD y).length ≤ 512) (hb : x.length + y.length ≤ 67108864) : Fit ((patchL (splitD x) (splitD y)).map toI) := by
  refine fit_of (patch_okB _ _) ?_ ?_ ?_
  · rw [(patch_sidesI _ _).1]; exact hx
  · rw [(patch_sidesI _ _).2]; exact hy
  · rw [(patch_sidesI _ _).1, (patch_sidesI _ _).2, splitD_flat, splitD_flat]; exact hb
def wa : List UInt8 := [97, 10, 98, 10, 99, 10]
def wb : List UInt8 := [97, 10, 120, 10, 99, 10]
def wp_ : List UInt8 := [32, 97, 10, 45, 98, 10, 43, 120, 10, 32, 99, 10]
def workH : List Hk := [(1, [[97, 10]]), (2, [[98, 10]]), (3, [[120, 10]]), (1, [[99, 10]])]
def workX : List HkI := [(1, [[97, 10]]), (2, [[98, 10]]), (3, [[120, 10]]), (1, [[99, 10]])]
theorem work_a : splitD wa = [[97, 10], [98, 10], [99, 10]] := by decide +kernel
theorem work_b : splitD wb = [[97, 10], [120, 10], [99, 10]] := by decide +kernel
theorem work_patch : patchL (splitD wa) (splitD wb) = workH := by
  rw [work_a, work_b]
  unfold patchL
  have e : script [[97, 10], [98, 10], [99, 10]] [[97, 10], [120, 10], [99, 10]] = [.same [97, 10], .gone [98, 10], .come [120, 10], .same [99, 10]] := by
    simp [script, dist]
  rw [e]
  rfl
theorem work_X : workH.map toI = workX := rfl
theorem work_check : checkB workX = true := by decide +kernel
theorem work_apply : applyE wa workX = .returned (.tuple #[.string (bstr wb), .int .i64 0]) := by
  unfold applyE
  rw [if_pos (by decide +kernel)]
  rfl
theorem work_print : printE workX = .returned (.tuple #[.string (bstr wp_), .int .i64 0]) := by
  unfold printE
  rw [if_pos work_check, show printK workX = wp_ by decide +kernel]
theorem work_dist : distI workX = 2 := by decide +kernel
theorem work_fit : Fit workX := by
  unfold Fit
  decide +kernel
set_option maxHeartbeats 4000000 in
set_option maxRecDepth 100000 in
theorem worksC (w : World) (hT : Tabs w) :
    Calls Tryd.prog 14 #[] w fun e w' => e = .returned (.bool true) ∧ Below w.heap.size w w' := by
  have HT := Lib.hid hT
  have HL := Lib.hid (linesC w wa wb (by decide) (by decide) hT)
  clear hT
  go_enter Tryd.func14, Tryd.ntmps14
  go_wp2_with (first
    | (go_at_call 10; refine (HL.out).mono ?_; intro e w1 hq; obtain ⟨v1, B1, he, hP, hB1, hz1, hb1⟩ : ∃ v B, e = .returned (.tuple #[v, .int .i64 0]) ∧ PatchAt B w1 v workH ∧ w.heap.size ≤ B ∧ B ≤ w1.heap.size ∧ Below w.heap.size w w1 := (by { rcases hq with ⟨h, _⟩ | ⟨_, v, B, h1, h2, h3, h4, h5⟩; { rw [work_a, work_b] at h; simp at h }; { rw [work_patch] at h2; exact ⟨v, B, h1, h2, h3, h4, h5⟩ } }); subst he; obtain ⟨a1, rfl, hR1⟩ := hP.reads; rw [work_X] at hR1; have HR1 := Lib.hid hR1; have HB1 := Lib.hid hb1; have HT1 := Lib.hid (HT.out.next hb1); clear hq hP hR1 hb1 hB1 hz1; rw [show workH.length = 4 from rfl] at HR1 ⊢)
    | (go_at_call 22; refine (applyC w1 wa a1 4 4 workX HR1.out work_fit HT1.out).mono ?_; rw [work_apply]; rintro e w2 ⟨rfl, hb2⟩; have HR2 := Lib.hid (HR1.out.keep hb2 (Nat.le_refl _)); have HB2 := Lib.hid (HB1.out.trans (hb2.mono HB1.out.size)); have HT2 := Lib.hid (HT1.out.next hb2); clear hb2)
    | (go_at_call 33; refine (printC w2 a1 4 4 workX HR2.out work_fit HT2.out).mono ?_; rw [work_print]; rintro e w3 ⟨rfl, hb3⟩; have HR3 := Lib.hid (HR2.out.keep hb3 (Nat.le_refl _)); have HB3 := Lib.hid (HB2.out.trans (hb3.mono HB2.out.size)); clear hb3)
    | (go_at_call 17; refine (distC w3 a1 4 4 workX HR3.out work_fit).mono ?_; rw [work_dist]; rintro e w4 ⟨rfl, hb4⟩; have HB4 := Lib.hid (HB3.out.trans (hb4.mono HB3.out.size)); clear hb4))
  go_ret
  exact ⟨rfl, HB4.out⟩
end Go.Proofs.YtnbihjocdlpplaaDoor
