/- Texts joined, one behind the other (LScanAgain, LineP). -/
import Derived.Test.YtmhemahkcbgaoaaGreatDoorKn17
import Derived.BigRegion
/- ScanAgain: what Scan answers prints, and is read as the same; each token is read alone. -/
namespace Go.Proofs.YtmhemahkcbgaoaaGreatDoor
set_option linter.unusedVariables false
set_option linter.unusedSimpArgs false
open Go.RowKit
open Go.Lib hiding intOf
def AgainSaid (w : World) (l : List UInt8) : Prop := Calls Tryz.prog 8 #[.string (bstr l)] w fun e w' => e = .returned (.bool true) ∧ Below w.heap.size w w'
set_option maxHeartbeats 4000000 in
set_option maxRecDepth 100000 in
theorem again_err (w : World) (l : List UInt8) (hm : l.length ≤ 140737488351232) (hT : Tabs w) (c p : Nat) (hs : scanOf l = .error (c, p)) : AgainSaid w l := by
  have h1 := scanC2 w l (by omega) hT
  rw [hs] at h1
  have H1 := Lib.hid h1
  have HT := Lib.hid hT
  clear h1 hT
  unfold AgainSaid
  go_enter Tryz.func8, Tryz.ntmps8
  go_upto_region 2 with (go_at_call 12; refine (H1.out).mono ?_; rintro e w1 ⟨v1, err1, rfl, hb1, hO1, hI1⟩)
  have hO1 : OwnT w.heap.size v1 [] w1 := hO1
  obtain ⟨a1, c1, hv1, _, _, _⟩ := readsT_own hO1
  change v1 = .slice a1 0 c1 at hv1
  subst hv1
  obtain ⟨_, g, rfl, _⟩ := hI1
  have HB1 := Lib.hid hb1
  have HW := Lib.hid (worksC w1 (HT.out.next hb1))
  clear hb1 hO1
  go_wp2_with (go_at_call 11; refine (HW.out).mono ?_; rintro e w2 ⟨rfl, hb2⟩)
  go_ret
  exact ⟨rfl, HB1.out.trans (hb2.mono HB1.out.size)⟩
/-- what was scanned may be printed -/
theorem scan_tokOk {l : List UInt8} {L : List Tok} (hs : scanOf l = .ok L) : ∀ t ∈ L, TokOk t := by
  rw [scanOf_ok] at hs
  intro t ht
  obtain ⟨⟨h1, h2, h3, h4, h5, h6⟩, h7⟩ := toks_fine hs.2 t ht
  exact ⟨by omega, by omega, h3⟩
theorem two_new (w : World) (T : TypeId) (x y : List Value) : Row ((w.alloc (.cells x.toArray T)).alloc (.cells y.toArray T)).drew w.heap.size T x ∧ Row ((w.alloc (.cells x.toArray T)).alloc (.cells y.toArray T)).drew (w.heap.size + 1) T y ∧ Below w.heap.size w ((w.alloc (.cells x.toArray T)).alloc (.cells y.toArray T)).drew := by
  have h1 : Row (w.alloc (.cells x.toArray T)) w.heap.size T x := alloc_last _ _
  have h2 : Row ((w.alloc (.cells x.toArray T)).alloc (.cells y.toArray T)) (w.alloc (.cells x.toArray T)).heap.size T y := alloc_last _ _
  rw [World.size_alloc] at h2
  refine ⟨h1.alloc _, h2, ?_⟩
  have hb := ((Below.refl _ w).alloc (Nat.le_refl _) (.cells x.toArray T)).alloc (by simp) (.cells y.toArray T)
  exact hb.trans (((Quiet.refl _).drewN 1).below _)
theorem cell_other {w : World} {b o b' j : Nat} {v : Value} (h : b' ≠ b) : (w.setCell ⟨b', o, none⟩ v).cell? ⟨b, j, none⟩ = w.cell? ⟨b, j, none⟩ := by
  unfold World.cell?
  have : (w.setCell ⟨b', o, none⟩ v).heap[b]? = w.heap[b]? := Below.heap_setCell _ _ _ _ h.symm
  simp only [this]
theorem scan_len {l : List UInt8} {L : List Tok} (hs : scanOf l = .ok L) : L.length ≤ 16384 := by
  rw [scanOf_ok] at hs
  have := toks_count hs.2 (Nat.zero_le _)
  omega
set_option maxHeartbeats 4000000 in
set_option maxRecDepth 100000 in
theorem again_long (w : World) (l : List UInt8) (hm : l.length ≤ 140737488351232) (hT : Tabs w) (L : List Tok) (hs : scanOf l = .ok L) (hp : printOf L = .error 4) : AgainSaid w l := by
  have hok := scan_tokOk hs
  have hlen := scan_len hs
  have h1 := scanC2 w l (by omega) hT
  rw [hs] at h1
  have H1 := Lib.hid h1
  have HT := Lib.hid hT
  have HOK := Lib.hid hok
  obtain ⟨n, hn⟩ : ∃ n, L.length = n := ⟨_, rfl⟩
  rw [hn] at hlen
  have HN := Lib.hid hn
  clear h1 hT hok hn
  unfold AgainSaid
  go_enter Tryz.func8, Tryz.ntmps8
  go_upto_region 2 with (go_at_call 12; refine (H1.out).mono ?_; rintro e w1 ⟨v1, err1, rfl, hb1, hO1, hI1⟩)
  have hO1 : OwnT w.heap.size v1 L w1 := hO1
  have hI1 : err1 = .nilIface := hI1
  subst hI1
  obtain ⟨a1, c1, hv1, hR1, _, _⟩ := readsT_own hO1
  rw [HN.out] at hv1 hR1
  subst hv1
  have hP := printC w1 a1 n c1 L hR1 HOK.out (by omega) (HT.out.next hb1)
  rw [hp] at hP
  have HP := Lib.hid hP
  have HB1 := Lib.hid hb1
  clear hb1 hO1 hR1 hP
  go_upto_region 5 with (go_at_call 20; refine (HP.out).mono ?_; rintro e w2 ⟨s, c0, rfl, hb2, rfl, rfl⟩)
  have HB2 : Hid (Below w.heap.size w w2) := Lib.hid (HB1.out.trans (hb2.mono HB1.out.size))
  have HW := Lib.hid (worksC w2 (HT.out.next HB2.out))
  clear hb2
  go_wp2_with (go_at_call 11; refine (HW.out).mono ?_; rintro e w3 ⟨rfl, hb3⟩)
  go_ret
  exact ⟨rfl, HB2.out.trans (hb3.mono HB2.out.size)⟩
set_option maxHeartbeats 4000000 in
set_option maxRecDepth 100000 in
theorem again_ok (w : World) (l : List UInt8) (hm : l.length ≤ 140737488351232) (hT : Tabs w) (L : List Tok) (hs : scanOf l = .ok L) (s : List UInt8) (M : List Tok) (hp : printOf L = .ok s) (hs2 : scanOf s = .ok M) (hz : M.map Tok.zero = L.map Tok.zero) : AgainSaid w l := by
  have hok := scan_tokOk hs
  have hlen := scan_len hs
  have hpc := fun (n : Nat) (t : Tok) (h : L[n]? = some t) => again_piece hs h
  have hsl : s.length ≤ 16384 := (scanOf_ok.1 hs2).1
  have hml : M.length = L.length := by have := congrArg List.length hz; simpa using this
  have h1 := scanC2 w l (by omega) hT
  rw [hs] at h1
  have h2 := fun w1 (h : Tabs w1) => scanC2 w1 s (by omega) h
  rw [hs2] at h2
  have H1 := Lib.hid h1
  have H2 := Lib.hid h2
  have HT := Lib.hid hT
  have HOK := Lib.hid hok
  have HPC := Lib.hid hpc
  have HZ := Lib.hid hz
  obtain ⟨n, hn⟩ : ∃ n, L.length = n := ⟨_, rfl⟩
  rw [hn] at hlen hml
  have HN := Lib.hid hn
  have HM := Lib.hid hml
  have hsz := bstr_size l
  clear h1 h2 hT hok hn hpc hz hml hs hs2
  unfold AgainSaid
  go_enter Tryz.func8, Tryz.ntmps8
  go_upto_region 2 with (go_at_call 12; refine (H1.out).mono ?_; rintro e w1 ⟨v1, err1, rfl, hb1, hO1, hI1⟩)
  have hO1 : OwnT w.heap.size v1 L w1 := hO1
  have hI1 : err1 = .nilIface := hI1
  subst hI1
  obtain ⟨a1, c1, hv1, hR1, _, _⟩ := readsT_own hO1
  rw [HN.out] at hv1 hR1
  subst hv1
  have hP := printC w1 a1 n c1 L hR1 HOK.out (by omega) (HT.out.next hb1)
  rw [hp] at hP
  have HP := Lib.hid hP
  have HB1 := Lib.hid hb1
  have HR1 := Lib.hid hR1
  clear hb1 hO1 hR1 hP
  go_upto_region 5 with (go_at_call 20; refine (HP.out).mono ?_; rintro e w2 ⟨s', c0, rfl, hb2, hss, rfl⟩; obtain rfl := hss.symm)
  have HB12 := Lib.hid hb2
  have HB2 : Hid (Below w.heap.size w w2) := Lib.hid (HB1.out.trans (hb2.mono HB1.out.size))
  clear hb2
  go_upto_region 8 with (go_at_call 12; refine (H2.out _ (HT.out.next HB2.out)).mono ?_; rintro e w3 ⟨v3, err3, rfl, hb3, hO3, hI3⟩)
  have HB3 : Hid (Below w.heap.size w w3) := Lib.hid (HB2.out.trans (hb3.mono HB2.out.size))
  have hO3 : OwnT w2.heap.size v3 M w3 := hO3
  have hI3 : err3 = .nilIface := hI3
  subst hI3
  obtain ⟨a3, c3, hv3, hR3, _, _⟩ := readsT_own hO3
  rw [HM.out] at hv3 hR3
  subst hv3
  have HR3 : Hid (ReadsT w3 a1 n L ∧ ReadsT w3 a3 n M) := Lib.hid ⟨(HR1.out.keep HB12.out (Nat.le_refl _)).keep hb3 (Nat.le_refl _), hR3⟩
  clear hb3 hO3 hR3
  go_wp2
  go_loopw [8] (fun kv wr => ∃ k : Nat, k ≤ n ∧ kv = .int .i64 (k : Int) ∧ Hid (Below w3.heap.size w3 wr)) (fun kv _ => n - (RowKit.intOf kv).toNat)
  case atStart => exact ⟨0, Nat.zero_le _, rfl, Lib.hid (Below.refl _ _)⟩
  case round =>
    obtain ⟨k, hkn, rfl, HH⟩ := hrel
    have HBr : Hid (Below w.heap.size w wr) := Lib.hid (HB3.out.trans (HH.out.mono HB3.out.size))
    by_cases hlt : k < n
    · obtain ⟨b1, o1, t, rfl, hbl1, ht, e0, e1, e2, e3⟩ := (HR3.out.1.keep HH.out (Nat.le_refl _)).at hlt
      obtain ⟨b3, o3, u, rfl, hbl3, hu, f0, f1, f2, f3⟩ := (HR3.out.2.keep HH.out (Nat.le_refl _)).at hlt
      have hzz : u.zero = t.zero := by
        have h1 : (M.map Tok.zero)[k]? = some u.zero := by rw [List.getElem?_map, hu]; rfl
        have h2 : (L.map Tok.zero)[k]? = some t.zero := by rw [List.getElem?_map, ht]; rfl
        rw [HZ.out, h2] at h1
        exact (Option.some.inj h1).symm
      obtain ⟨at0, en, hat, hnx, hae, hel, hps⟩ := HPC.out k t ht
      obtain ⟨tk, ta, tt, tn⟩ := t
      obtain ⟨uk, ua, ut, un⟩ := u
      obtain ⟨rfl, _, rfl, rfl⟩ : uk = tk ∧ (0 : Int) = 0 ∧ ut = tt ∧ un = tn := by simpa [Tok.zero] using hzz
      simp only at hat e0 e1 e2 e3 f0 f1 f2 f3
      subst hat
      have HPS := Lib.hid hps
      have HNX := Lib.hid hnx
      have HKT : Hid (L[k]? = some ⟨uk, (at0 : Int), ut, un⟩) := Lib.hid ht
      clear hps hnx ht hu hzz HP H1 H2 hO1 hO3 HR1 hI1 hI3
      go_wp2
      go_region
      · have hS : Row ((wr.alloc (.cells #[.int .i64 uk, .int .i64 (at0 : Int), .string (bstr ut), .int .i64 un] 28)).alloc (.cells #[.int .i64 uk, .int .i64 ua, .string (bstr ut), .int .i64 un] 28)).drew wr.heap.size 28 (tokCells ⟨uk, (at0 : Int), ut, un⟩) ∧ Row ((wr.alloc (.cells #[.int .i64 uk, .int .i64 (at0 : Int), .string (bstr ut), .int .i64 un] 28)).alloc (.cells #[.int .i64 uk, .int .i64 ua, .string (bstr ut), .int .i64 un] 28)).drew (wr.heap.size + 1) 28 (tokCells ⟨uk, ua, ut, un⟩) ∧ Below wr.heap.size wr ((wr.alloc (.cells #[.int .i64 uk, .int .i64 (at0 : Int), .string (bstr ut), .int .i64 un] 28)).alloc (.cells #[.int .i64 uk, .int .i64 ua, .string (bstr ut), .int .i64 un] 28)).drew := by
          have h := two_new wr 28 (tokCells ⟨uk, (at0 : Int), ut, un⟩) (tokCells ⟨uk, ua, ut, un⟩)
          exact ⟨h.1, h.2.1, h.2.2⟩
        have hab : wr.heap.size ≠ (wr.heap.size + 1) := by omega
        generalize ((wr.alloc (.cells #[.int .i64 uk, .int .i64 (at0 : Int), .string (bstr ut), .int .i64 un] 28)).alloc (.cells #[.int .i64 uk, .int .i64 ua, .string (bstr ut), .int .i64 un] 28)).drew = w4 at hS ⊢
        obtain ⟨hA, hBb, hb4⟩ := hS
        have HST : Hid (Row w4 wr.heap.size 28 (tokCells ⟨uk, (at0 : Int), ut, un⟩) ∧ Row w4 (wr.heap.size + 1) 28 (tokCells ⟨uk, ua, ut, un⟩) ∧ Below w3.heap.size w3 w4 ∧ wr.heap.size ≠ (wr.heap.size + 1) ∧ w3.heap.size ≤ wr.heap.size ∧ w3.heap.size ≤ (wr.heap.size + 1)) := Lib.hid ⟨hA, hBb, HH.out.trans (hb4.mono HH.out.size), hab, by have := HH.out.size; omega, by have := HH.out.size; omega⟩
        have ga0 := hA.cell 0
        have ga1 := hA.cell 1
        have ga2 := hA.cell 2
        have ga3 := hA.cell 3
        simp only [tokCells, List.getElem?_cons_zero, List.getElem?_cons_succ] at ga0 ga1 ga2 ga3
        clear hA hBb hb4 e0 e1 e2 e3 f0 f1 f2 f3 hab
        have k1 := HST.out.2.2.1
        have HR4 := Lib.hid (HR3.out.1.keep k1 (Nat.le_refl _))
        have HT4 := Lib.hid (HT.out.next (HB3.out.trans (k1.mono HB3.out.size)))
        obtain ⟨D0, hD0⟩ : ∃ D0, l.drop at0 = D0 := ⟨_, rfl⟩
        obtain ⟨P, hP⟩ : ∃ P, D0.take (en - at0) = P := ⟨_, rfl⟩
        have hps := HPS.out
        rw [hD0, hP] at hps
        have hPl : P.length ≤ 140737488355328 := by rw [← hP, List.length_take]; omega
        have hS := fun w5 (h : Tabs w5) => scanC2 w5 P hPl h
        rw [hps] at hS
        have HS := Lib.hid hS
        have t0 : decide ((at0 : Int) < 0) = false := by simp
        have t1 : decide ((en : Int) ≤ (at0 : Int)) = false := by simp; omega
        have t2 : decide (en ≤ at0) = false := by simp; omega
        have t3 : ¬ en ≤ at0 := by omega
        have t4 : ¬ (en : Int) ≤ (at0 : Int) := by omega
        have qn : ∀ w, (binOp .neq 28 (.agg #[.int .i64 uk, .int .i64 0, .string (bstr ut), .int .i64 un]) (.agg #[.int .i64 uk, .int .i64 0, .string (bstr ut), .int .i64 un])).run Tryz.prog w = .ok (.bool false) w := fun w => by
          have := tokNeq w ⟨uk, 0, ut, un⟩ ⟨uk, 0, ut, un⟩
          rw [decide_eq_true rfl] at this
          exact this
        clear hps hS hPl k1
        have hnext : (k + 1 < n ∧ w4.cell? ⟨b1, o1 + (k + 1) * 4 + 1, none⟩ = some (.int .i64 (en : Int))) ∨ (¬ k + 1 < n ∧ l.length = en) := by
          by_cases hk1 : k + 1 < n
          · obtain ⟨_, _, t', he', hb', ht', _, g1, _, _⟩ := HR4.out.at hk1
            cases he'
            have hen : t'.at' = (en : Int) := by
              have := HNX.out
              unfold nextAt at this
              rw [ht'] at this
              exact this
            rw [hen] at g1
            exact .inl ⟨hk1, g1⟩
          · refine .inr ⟨hk1, ?_⟩
            have := HNX.out
            unfold nextAt at this
            rw [List.getElem?_eq_none (by rw [HN.out]; omega)] at this
            have : ((l.length : Nat) : Int) = (en : Int) := this
            omega
        have hprev : (0 < k ∧ ∃ a0 : Int, w4.cell? ⟨b1, o1 + (k - 1) * 4 + 1, none⟩ = some (.int .i64 a0) ∧ decide ((at0 : Int) ≤ a0) = false ∧ ¬ (at0 : Int) ≤ a0) ∨ k = 0 := by
          by_cases hk0 : 0 < k
          · obtain ⟨_, _, t', he', hb', ht', _, g1, _, _⟩ := HR4.out.at (i := k - 1) (by omega)
            cases he'
            suffices hsf : ¬ (at0 : Int) ≤ t'.at' from .inl ⟨hk0, _, g1, decide_eq_false hsf, hsf⟩
            obtain ⟨p0, p1, hpa, hpn, hpl, _⟩ := HPC.out _ _ ht'
            unfold nextAt at hpn
            rw [show k - 1 + 1 = k by omega, HKT.out] at hpn
            have hpn : (at0 : Int) = (p1 : Int) := hpn
            rw [hpa]
            omega
          · exact .inr (by omega)
        rcases hnext with ⟨hk1, g1⟩ | ⟨hk1, hen⟩
        all_goals rcases hprev with ⟨hk0, a0, g0, g2, g3⟩ | hk0
        all_goals try (subst hk0; simp only [Nat.zero_add, Nat.one_mul] at g1)
        all_goals try (subst hk0)
        all_goals
          go_wp2
          go_quiet (fail)
          go_upto_region 20 with (go_at_call 12; refine (HS.out _ (HT4.out.next (((Quiet.refl _).drewN _).below _))).mono ?_; rintro e w6 ⟨v6, err6, rfl, hb6, hO6, hI6⟩)
          have hO6 : OwnT w4.heap.size v6 [⟨uk, 0, ut, un⟩] w6 := hO6
          have hI6 : err6 = .nilIface := hI6
          subst hI6
          have hb46 : Below w4.heap.size w4 w6 := (((Quiet.refl w4).drewN _).below _).trans hb6
          obtain ⟨a6, c6, hv6, hR6, _, _⟩ := readsT_own hO6
          change v6 = .slice a6 1 c6 at hv6
          change ReadsT w6 a6 1 [⟨uk, 0, ut, un⟩] at hR6
          subst hv6
          obtain ⟨b6, o6, z6, rfl, hbl6, hz6, z0, z1, z2, z3⟩ := hR6.at (i := 0) (by decide)
          cases hz6
          simp only [Nat.zero_mul, Nat.add_zero] at z0 z1 z2 z3
          have hlt6 := World.ownsRow.lt hO6 b6 rfl
          have A6 := HST.out.1.keep hb46 HST.out.1.lt
          have B6 := HST.out.2.1.keep hb46 HST.out.2.1.lt
          have hne1 : b6 ≠ wr.heap.size := by have := HST.out.1.lt; omega
          have hne2 : b6 ≠ (wr.heap.size + 1) := by have := HST.out.2.1.lt; omega
          have B7 := B6.other (p := ⟨wr.heap.size, 1, none⟩) HST.out.2.2.2.1 (.int .i64 0)
          have A7 := A6.set 1 (.int .i64 0)
          have A8 := A7.other (p := ⟨(wr.heap.size + 1), 1, none⟩) (Ne.symm HST.out.2.2.2.1) (.int .i64 0)
          have B8 := B7.set 1 (.int .i64 0)
          have hW8 : Below w3.heap.size w3 ((w6.setCell ⟨wr.heap.size, 1, none⟩ (.int .i64 0)).setCell ⟨(wr.heap.size + 1), 1, none⟩ (.int .i64 0)) := ((HST.out.2.2.1.trans (hb46.mono HST.out.2.2.1.size)).setCell (p := ⟨wr.heap.size, 1, none⟩) HST.out.2.2.2.2.1 _).setCell (p := ⟨(wr.heap.size + 1), 1, none⟩) HST.out.2.2.2.2.2 _
          have x1 := A6.cell 1
          have x2 := A6.frozen 1
          have x3 := B7.cell 1
          have x4 := B7.frozen 1
          have hz : ∀ j, ((w6.setCell ⟨wr.heap.size, 1, none⟩ (.int .i64 0)).setCell ⟨(wr.heap.size + 1), 1, none⟩ (.int .i64 0)).cell? ⟨b6, j, none⟩ = w6.cell? ⟨b6, j, none⟩ := fun j => by
            rw [cell_other hne2.symm, cell_other hne1.symm]
          have y0 := (hz o6).trans z0
          have y1 := (hz (o6 + 1)).trans z1
          have y2 := (hz (o6 + 2)).trans z2
          have y3 := (hz (o6 + 3)).trans z3
          have HAB : Hid (Row ((w6.setCell ⟨wr.heap.size, 1, none⟩ (.int .i64 0)).setCell ⟨(wr.heap.size + 1), 1, none⟩ (.int .i64 0)) wr.heap.size 28 (tokCells ⟨uk, 0, ut, un⟩) ∧ Row ((w6.setCell ⟨wr.heap.size, 1, none⟩ (.int .i64 0)).setCell ⟨(wr.heap.size + 1), 1, none⟩ (.int .i64 0)) (wr.heap.size + 1) 28 (tokCells ⟨uk, 0, ut, un⟩) ∧ Below w3.heap.size w3 ((w6.setCell ⟨wr.heap.size, 1, none⟩ (.int .i64 0)).setCell ⟨(wr.heap.size + 1), 1, none⟩ (.int .i64 0))) := Lib.hid ⟨A8, B8, hW8⟩
          simp only [tokCells, List.getElem?_cons_zero, List.getElem?_cons_succ] at x1 x3
          clear hz z0 z1 z2 z3 A6 B6 A7 B7 A8 B8 hW8 hb46 hb6 hO6 hR6 hne1 hne2 hlt6 hbl6
          go_wp2
          generalize ((w6.setCell ⟨wr.heap.size, 1, none⟩ (.int .i64 0)).setCell ⟨(wr.heap.size + 1), 1, none⟩ (.int .i64 0)) = w8 at HAB y0 y1 y2 y3 ⊢
          have p0 := HAB.out.1.cell 0
          have p1 := HAB.out.1.cell 1
          have p2 := HAB.out.1.cell 2
          have p3 := HAB.out.1.cell 3
          have r0 := HAB.out.2.1.cell 0
          have r1 := HAB.out.2.1.cell 1
          have r2 := HAB.out.2.1.cell 2
          have r3 := HAB.out.2.1.cell 3
          simp only [tokCells, List.getElem?_cons_zero, List.getElem?_cons_succ] at p0 p1 p2 p3 r0 r1 r2 r3
          clear x1 x2 x3 x4 ga0 ga1 ga2 ga3
          go_quiet (fail)
          go_wp2
          go_roundw
          case rel => first | exact ⟨k + 1, by omega, by go_num, Lib.hid (HAB.out.2.2.trans (((Quiet.refl _).drewN _).below _))⟩ | exact ⟨0 + 1, by omega, by go_num, Lib.hid (HAB.out.2.2.trans (((Quiet.refl _).drewN _).below _))⟩
          case measure => simp [RowKit.intOf]; omega
      · have hS : Row ((wr.alloc (.cells #[.int .i64 uk, .int .i64 ua, .string (bstr ut), .int .i64 un] 28)).alloc (.cells #[.int .i64 uk, .int .i64 (at0 : Int), .string (bstr ut), .int .i64 un] 28)).drew (wr.heap.size + 1) 28 (tokCells ⟨uk, (at0 : Int), ut, un⟩) ∧ Row ((wr.alloc (.cells #[.int .i64 uk, .int .i64 ua, .string (bstr ut), .int .i64 un] 28)).alloc (.cells #[.int .i64 uk, .int .i64 (at0 : Int), .string (bstr ut), .int .i64 un] 28)).drew wr.heap.size 28 (tokCells ⟨uk, ua, ut, un⟩) ∧ Below wr.heap.size wr ((wr.alloc (.cells #[.int .i64 uk, .int .i64 ua, .string (bstr ut), .int .i64 un] 28)).alloc (.cells #[.int .i64 uk, .int .i64 (at0 : Int), .string (bstr ut), .int .i64 un] 28)).drew := by
          have h := two_new wr 28 (tokCells ⟨uk, ua, ut, un⟩) (tokCells ⟨uk, (at0 : Int), ut, un⟩)
          exact ⟨h.2.1, h.1, h.2.2⟩
        have hab : (wr.heap.size + 1) ≠ wr.heap.size := by omega
        generalize ((wr.alloc (.cells #[.int .i64 uk, .int .i64 ua, .string (bstr ut), .int .i64 un] 28)).alloc (.cells #[.int .i64 uk, .int .i64 (at0 : Int), .string (bstr ut), .int .i64 un] 28)).drew = w4 at hS ⊢
        obtain ⟨hA, hBb, hb4⟩ := hS
        have HST : Hid (Row w4 (wr.heap.size + 1) 28 (tokCells ⟨uk, (at0 : Int), ut, un⟩) ∧ Row w4 wr.heap.size 28 (tokCells ⟨uk, ua, ut, un⟩) ∧ Below w3.heap.size w3 w4 ∧ (wr.heap.size + 1) ≠ wr.heap.size ∧ w3.heap.size ≤ (wr.heap.size + 1) ∧ w3.heap.size ≤ wr.heap.size) := Lib.hid ⟨hA, hBb, HH.out.trans (hb4.mono HH.out.size), hab, by have := HH.out.size; omega, by have := HH.out.size; omega⟩
        have ga0 := hA.cell 0
        have ga1 := hA.cell 1
        have ga2 := hA.cell 2
        have ga3 := hA.cell 3
        simp only [tokCells, List.getElem?_cons_zero, List.getElem?_cons_succ] at ga0 ga1 ga2 ga3
        clear hA hBb hb4 e0 e1 e2 e3 f0 f1 f2 f3 hab
        have k1 := HST.out.2.2.1
        have HR4 := Lib.hid (HR3.out.1.keep k1 (Nat.le_refl _))
        have HT4 := Lib.hid (HT.out.next (HB3.out.trans (k1.mono HB3.out.size)))
        obtain ⟨D0, hD0⟩ : ∃ D0, l.drop at0 = D0 := ⟨_, rfl⟩
        obtain ⟨P, hP⟩ : ∃ P, D0.take (en - at0) = P := ⟨_, rfl⟩
        have hps := HPS.out
        rw [hD0, hP] at hps
        have hPl : P.length ≤ 140737488355328 := by rw [← hP, List.length_take]; omega
        have hS := fun w5 (h : Tabs w5) => scanC2 w5 P hPl h
        rw [hps] at hS
        have HS := Lib.hid hS
        have t0 : decide ((at0 : Int) < 0) = false := by simp
        have t1 : decide ((en : Int) ≤ (at0 : Int)) = false := by simp; omega
        have t2 : decide (en ≤ at0) = false := by simp; omega
        have t3 : ¬ en ≤ at0 := by omega
        have t4 : ¬ (en : Int) ≤ (at0 : Int) := by omega
        have qn : ∀ w, (binOp .neq 28 (.agg #[.int .i64 uk, .int .i64 0, .string (bstr ut), .int .i64 un]) (.agg #[.int .i64 uk, .int .i64 0, .string (bstr ut), .int .i64 un])).run Tryz.prog w = .ok (.bool false) w := fun w => by
          have := tokNeq w ⟨uk, 0, ut, un⟩ ⟨uk, 0, ut, un⟩
          rw [decide_eq_true rfl] at this
          exact this
        clear hps hS hPl k1
        have hnext : (k + 1 < n ∧ w4.cell? ⟨b1, o1 + (k + 1) * 4 + 1, none⟩ = some (.int .i64 (en : Int))) ∨ (¬ k + 1 < n ∧ l.length = en) := by
          by_cases hk1 : k + 1 < n
          · obtain ⟨_, _, t', he', hb', ht', _, g1, _, _⟩ := HR4.out.at hk1
            cases he'
            have hen : t'.at' = (en : Int) := by
              have := HNX.out
              unfold nextAt at this
              rw [ht'] at this
              exact this
            rw [hen] at g1
            exact .inl ⟨hk1, g1⟩
          · refine .inr ⟨hk1, ?_⟩
            have := HNX.out
            unfold nextAt at this
            rw [List.getElem?_eq_none (by rw [HN.out]; omega)] at this
            have : ((l.length : Nat) : Int) = (en : Int) := this
            omega
        have hprev : (0 < k ∧ ∃ a0 : Int, w4.cell? ⟨b1, o1 + (k - 1) * 4 + 1, none⟩ = some (.int .i64 a0) ∧ decide ((at0 : Int) ≤ a0) = false ∧ ¬ (at0 : Int) ≤ a0) ∨ k = 0 := by
          by_cases hk0 : 0 < k
          · obtain ⟨_, _, t', he', hb', ht', _, g1, _, _⟩ := HR4.out.at (i := k - 1) (by omega)
            cases he'
            suffices hsf : ¬ (at0 : Int) ≤ t'.at' from .inl ⟨hk0, _, g1, decide_eq_false hsf, hsf⟩
            obtain ⟨p0, p1, hpa, hpn, hpl, _⟩ := HPC.out _ _ ht'
            unfold nextAt at hpn
            rw [show k - 1 + 1 = k by omega, HKT.out] at hpn
            have hpn : (at0 : Int) = (p1 : Int) := hpn
            rw [hpa]
            omega
          · exact .inr (by omega)
        rcases hnext with ⟨hk1, g1⟩ | ⟨hk1, hen⟩
        all_goals rcases hprev with ⟨hk0, a0, g0, g2, g3⟩ | hk0
        all_goals try (subst hk0; simp only [Nat.zero_add, Nat.one_mul] at g1)
        all_goals try (subst hk0)
        all_goals
          go_wp2
          go_quiet (fail)
          go_upto_region 20 with (go_at_call 12; refine (HS.out _ (HT4.out.next (((Quiet.refl _).drewN _).below _))).mono ?_; rintro e w6 ⟨v6, err6, rfl, hb6, hO6, hI6⟩)
          have hO6 : OwnT w4.heap.size v6 [⟨uk, 0, ut, un⟩] w6 := hO6
          have hI6 : err6 = .nilIface := hI6
          subst hI6
          have hb46 : Below w4.heap.size w4 w6 := (((Quiet.refl w4).drewN _).below _).trans hb6
          obtain ⟨a6, c6, hv6, hR6, _, _⟩ := readsT_own hO6
          change v6 = .slice a6 1 c6 at hv6
          change ReadsT w6 a6 1 [⟨uk, 0, ut, un⟩] at hR6
          subst hv6
          obtain ⟨b6, o6, z6, rfl, hbl6, hz6, z0, z1, z2, z3⟩ := hR6.at (i := 0) (by decide)
          cases hz6
          simp only [Nat.zero_mul, Nat.add_zero] at z0 z1 z2 z3
          have hlt6 := World.ownsRow.lt hO6 b6 rfl
          have A6 := HST.out.1.keep hb46 HST.out.1.lt
          have B6 := HST.out.2.1.keep hb46 HST.out.2.1.lt
          have hne1 : b6 ≠ (wr.heap.size + 1) := by have := HST.out.1.lt; omega
          have hne2 : b6 ≠ wr.heap.size := by have := HST.out.2.1.lt; omega
          have B7 := B6.other (p := ⟨(wr.heap.size + 1), 1, none⟩) HST.out.2.2.2.1 (.int .i64 0)
          have A7 := A6.set 1 (.int .i64 0)
          have A8 := A7.other (p := ⟨wr.heap.size, 1, none⟩) (Ne.symm HST.out.2.2.2.1) (.int .i64 0)
          have B8 := B7.set 1 (.int .i64 0)
          have hW8 : Below w3.heap.size w3 ((w6.setCell ⟨(wr.heap.size + 1), 1, none⟩ (.int .i64 0)).setCell ⟨wr.heap.size, 1, none⟩ (.int .i64 0)) := ((HST.out.2.2.1.trans (hb46.mono HST.out.2.2.1.size)).setCell (p := ⟨(wr.heap.size + 1), 1, none⟩) HST.out.2.2.2.2.1 _).setCell (p := ⟨wr.heap.size, 1, none⟩) HST.out.2.2.2.2.2 _
          have x1 := A6.cell 1
          have x2 := A6.frozen 1
          have x3 := B7.cell 1
          have x4 := B7.frozen 1
          have hz : ∀ j, ((w6.setCell ⟨(wr.heap.size + 1), 1, none⟩ (.int .i64 0)).setCell ⟨wr.heap.size, 1, none⟩ (.int .i64 0)).cell? ⟨b6, j, none⟩ = w6.cell? ⟨b6, j, none⟩ := fun j => by
            rw [cell_other hne2.symm, cell_other hne1.symm]
          have y0 := (hz o6).trans z0
          have y1 := (hz (o6 + 1)).trans z1
          have y2 := (hz (o6 + 2)).trans z2
          have y3 := (hz (o6 + 3)).trans z3
          have HAB : Hid (Row ((w6.setCell ⟨(wr.heap.size + 1), 1, none⟩ (.int .i64 0)).setCell ⟨wr.heap.size, 1, none⟩ (.int .i64 0)) (wr.heap.size + 1) 28 (tokCells ⟨uk, 0, ut, un⟩) ∧ Row ((w6.setCell ⟨(wr.heap.size + 1), 1, none⟩ (.int .i64 0)).setCell ⟨wr.heap.size, 1, none⟩ (.int .i64 0)) wr.heap.size 28 (tokCells ⟨uk, 0, ut, un⟩) ∧ Below w3.heap.size w3 ((w6.setCell ⟨(wr.heap.size + 1), 1, none⟩ (.int .i64 0)).setCell ⟨wr.heap.size, 1, none⟩ (.int .i64 0))) := Lib.hid ⟨A8, B8, hW8⟩
          simp only [tokCells, List.getElem?_cons_zero, List.getElem?_cons_succ] at x1 x3
          clear hz z0 z1 z2 z3 A6 B6 A7 B7 A8 B8 hW8 hb46 hb6 hO6 hR6 hne1 hne2 hlt6 hbl6
          go_wp2
          generalize ((w6.setCell ⟨(wr.heap.size + 1), 1, none⟩ (.int .i64 0)).setCell ⟨wr.heap.size, 1, none⟩ (.int .i64 0)) = w8 at HAB y0 y1 y2 y3 ⊢
          have p0 := HAB.out.1.cell 0
          have p1 := HAB.out.1.cell 1
          have p2 := HAB.out.1.cell 2
          have p3 := HAB.out.1.cell 3
          have r0 := HAB.out.2.1.cell 0
          have r1 := HAB.out.2.1.cell 1
          have r2 := HAB.out.2.1.cell 2
          have r3 := HAB.out.2.1.cell 3
          simp only [tokCells, List.getElem?_cons_zero, List.getElem?_cons_succ] at p0 p1 p2 p3 r0 r1 r2 r3
          clear x1 x2 x3 x4 ga0 ga1 ga2 ga3
          go_quiet (fail)
          go_wp2
          go_roundw
          case rel => first | exact ⟨k + 1, by omega, by go_num, Lib.hid (HAB.out.2.2.trans (((Quiet.refl _).drewN _).below _))⟩ | exact ⟨0 + 1, by omega, by go_num, Lib.hid (HAB.out.2.2.trans (((Quiet.refl _).drewN _).below _))⟩
          case measure => simp [RowKit.intOf]; omega
    · obtain rfl : k = n := by omega
      have HW := Lib.hid (worksC wr (HT.out.next HBr.out))
      go_wp2_with (go_at_call 11; refine (HW.out).mono ?_; rintro e w4 ⟨rfl, hb4⟩)
      go_ret
      exact ⟨rfl, HBr.out.trans (hb4.mono HBr.out.size)⟩
theorem scanAgain_walk (w : World) (l : List UInt8) (hm : l.length ≤ 140737488351232) (hT : Tabs w) : AgainSaid w l := by
  cases hs : scanOf l with
  | error e => exact again_err w l hm hT e.1 e.2 hs
  | ok L =>
    rcases again_print hs with hp | ⟨s, M, hp, hs2, hz⟩
    · exact again_long w l hm hT L hs hp
    · exact again_ok w l hm hT L hs s M hp hs2 hz
end Go.Proofs.YtmhemahkcbgaoaaGreatDoor
/- The plain law of a script's lines. -/
namespace Go.Proofs.YtmhemahkcbgaoaaGreatDoor
set_option linter.unusedVariables false
set_option linter.unusedSimpArgs false
open Go.Lib
/-- how wide the line end is that begins at a place (0: none) -/
def endL (l : List UInt8) (i : Nat) : Nat :=
  if l.length ≤ i then 0
  else if (l.getD i 0).toNat = 10 then (if 0 < i ∧ (l.getD (i - 1) 0).toNat = 13 then 0 else 1)
  else if (l.getD i 0).toNat = 13 then (if i + 1 < l.length ∧ (l.getD (i + 1) 0).toNat = 10 then 2 else 1)
  else if (decodeL (l.drop i)).1 = 133 ∨ (decodeL (l.drop i)).1 = 8232 ∨ (decodeL (l.drop i)).1 = 8233 then (decodeL (l.drop i)).2 else 0
theorem getD_drop (l : List UInt8) (i j : Nat) : (l.drop i).getD j 0 = l.getD (i + j) 0 := by
  rw [List.getD_eq_getElem?_getD, List.getD_eq_getElem?_getD, List.getElem?_drop]
/-- the three characters that end a line, by their bytes -/
theorem dec_sep {D : List UInt8} :
    ((decodeL D).1 = 133 ∧ (decodeL D).2 = 2 ∧ 1 < D.length ∧ (D.getD 0 0).toNat = 194 ∧ (D.getD 1 0).toNat = 133) ∨
    (((decodeL D).1 = 8232 ∨ (decodeL D).1 = 8233) ∧ (decodeL D).2 = 3 ∧ 2 < D.length ∧ (D.getD 0 0).toNat = 226 ∧ (D.getD 1 0).toNat = 128 ∧ ((D.getD 2 0).toNat = 168 ∨ (D.getD 2 0).toNat = 169)) ∨
    (¬ ((decodeL D).1 = 133 ∨ (decodeL D).1 = 8232 ∨ (decodeL D).1 = 8233) ∧ ¬ (1 < D.length ∧ (D.getD 0 0).toNat = 194 ∧ (D.getD 1 0).toNat = 133) ∧ ¬ (2 < D.length ∧ (D.getD 0 0).toNat = 226 ∧ (D.getD 1 0).toNat = 128 ∧ ((D.getD 2 0).toNat = 168 ∨ (D.getD 2 0).toNat = 169))) := by
  rw [decodeL_N]
  have k0 := (D.getD 0 0).toNat_lt
  have k1 := (D.getD 1 0).toNat_lt
  have k2 := (D.getD 2 0).toNat_lt
  have k3 := (D.getD 3 0).toNat_lt
  generalize (D.getD 0 0).toNat = b0 at *
  generalize (D.getD 1 0).toNat = b1 at *
  generalize (D.getD 2 0).toNat = b2 at *
  generalize (D.getD 3 0).toNat = b3 at *
  generalize D.length = n at *
  by_cases h1 : 1 < n ∧ b0 = 194 ∧ b1 = 133
  · obtain ⟨h, rfl, rfl⟩ := h1
    left
    unfold decodeN
    rw [if_neg (by omega), if_pos (by omega), if_pos (by omega)]
    exact ⟨rfl, rfl, h, rfl, rfl⟩
  · by_cases h2 : 2 < n ∧ b0 = 226 ∧ b1 = 128 ∧ (b2 = 168 ∨ b2 = 169)
    · obtain ⟨h, rfl, rfl, h3⟩ := h2
      right; left
      unfold decodeN
      rw [if_neg (by omega), if_neg (by omega), if_pos (by omega), if_pos (by omega)]
      refine ⟨?_, rfl, h, rfl, rfl, h3⟩
      dsimp only
      omega
    · right; right
      refine ⟨?_, h1, h2⟩
      rcases decodeN_shape n b0 b1 b2 b3 with ⟨h, e⟩ | ⟨c1, c2, c3, cv, e⟩ | ⟨c1, c2, c3, c4, cv, cs, e⟩ | ⟨c1, c2, c3, c4, c5, cv, cw, e⟩ | e
      all_goals (rw [e]; dsimp only; omega)
/-- where a line end is, is room for it -/
theorem endL_le (l : List UInt8) (i : Nat) : endL l i = 0 ∨ i + endL l i ≤ l.length := by
  unfold endL
  split
  · exact .inl rfl
  · rename_i h
    have hd : l.drop i ≠ [] := drop_ne h
    have hw := dec_width hd
    rw [List.length_drop] at hw
    repeat' split
    all_goals omega
/-- a place of a line: from, to, how wide the end is -/
def linesGo (l : List UInt8) : Nat → Nat → Nat → List (Nat × Nat × Nat)
  | 0, _, _ => []
  | f + 1, a, i => if l.length ≤ i then [(a, l.length, 0)] else if endL l i = 0 then linesGo l f a (i + 1) else (a, i, endL l i) :: linesGo l f (i + endL l i) (i + endL l i)
def linesL (l : List UInt8) : List (Nat × Nat × Nat) := linesGo l (l.length + 1) 0 0
/-- more fuel tells no more -/
theorem linesGo_fuel (l : List UInt8) : ∀ f g a i, i ≤ l.length → l.length < i + f → l.length < i + g → linesGo l f a i = linesGo l g a i
  | 0, g, a, i, hi, h, h' => by omega
  | f + 1, 0, a, i, hi, h, h' => by omega
  | f + 1, g + 1, a, i, hi, h, h' => by
    rw [linesGo, linesGo]
    split
    · rfl
    · split
      · exact linesGo_fuel l f g a (i + 1) (by omega) (by omega) (by omega)
      · rename_i h1 h2
        rw [linesGo_fuel l f g _ _ ((endL_le l i).resolve_left h2) (by omega) (by omega)]
theorem linesGo_ok (l : List UInt8) : ∀ f a i, a ≤ i → i ≤ l.length → ∀ x ∈ linesGo l f a i, a ≤ x.1 ∧ x.1 ≤ x.2.1 ∧ x.2.1 ≤ l.length
  | 0, a, i, _, _ => fun x hx => by rw [linesGo] at hx; cases hx
  | f + 1, a, i, hai, hil => by
    intro x hx
    rw [linesGo] at hx
    by_cases h1 : l.length ≤ i
    · rw [if_pos h1] at hx
      have : x = (a, l.length, 0) := by simpa using hx
      subst this
      exact ⟨Nat.le_refl _, by dsimp only; omega, Nat.le_refl _⟩
    rw [if_neg h1] at hx
    by_cases h2 : endL l i = 0
    · rw [if_pos h2] at hx
      exact linesGo_ok l f a (i + 1) (by omega) (by omega) x hx
    rw [if_neg h2] at hx
    have h3 := (endL_le l i).resolve_left h2
    rcases List.mem_cons.1 hx with rfl | hx
    · exact ⟨Nat.le_refl _, hai, by dsimp only; omega⟩
    · have := linesGo_ok l f _ _ (Nat.le_refl _) h3 x hx
      exact ⟨by omega, this.2⟩
theorem linesGo_len (l : List UInt8) : ∀ f a i, (linesGo l f a i).length ≤ f
  | 0, a, i => Nat.le_refl _
  | f + 1, a, i => by
    rw [linesGo]
    repeat' split
    · simp
    · have := linesGo_len l f a (i + 1); omega
    · have := linesGo_len l f (i + endL l i) (i + endL l i); rw [List.length_cons]; omega
theorem linesL_ok (l : List UInt8) : ∀ x ∈ linesL l, x.1 ≤ x.2.1 ∧ x.2.1 ≤ l.length := fun x hx => (linesGo_ok l _ 0 0 (Nat.le_refl _) (Nat.zero_le _) x hx).2
theorem linesL_len (l : List UInt8) : (linesL l).length ≤ l.length + 1 := linesGo_len l _ 0 0
/-- what has been told, and how many lines have been -/
def pieceL (l : List UInt8) (x : Nat × Nat × Nat) : List UInt8 := (l.drop x.1).take (x.2.1 - x.1)
def BlankB (x : UInt8) : Bool := x == 32 || x == 9
def saysL (s : List UInt8) : Bool := match s.dropWhile BlankB with | [] => false | c :: _ => c != 35
def rowStep (l : List UInt8) (s : List (Nat × List UInt8) × Nat) (x : Nat × Nat × Nat) : List (Nat × List UInt8) × Nat :=
  if saysL (pieceL l x) then (s.1 ++ [(s.2 + 1, pieceL l x)], s.2 + 1) else (s.1, s.2 + 1)
def rowSt (l : List UInt8) (xs : List (Nat × Nat × Nat)) : List (Nat × List UInt8) × Nat := xs.foldl (rowStep l) ([], 0)
def rowsL (l : List UInt8) : List (Nat × List UInt8) := (rowSt l (linesL l)).1
theorem rowSt_next (l : List UInt8) (xs : List (Nat × Nat × Nat)) (x : Nat × Nat × Nat) : rowSt l (xs ++ [x]) = rowStep l (rowSt l xs) x := by simp [rowSt]
theorem rowSt_prefix (l : List UInt8) (a b : List (Nat × Nat × Nat)) : (rowSt l a).1 <+: (rowSt l (a ++ b)).1 := by
  induction b generalizing a with
  | nil => simp
  | cons x b ih =>
    have h := ih (a ++ [x])
    rw [List.append_assoc, List.singleton_append] at h
    refine List.IsPrefix.trans ?_ h
    rw [rowSt_next, rowStep]
    split
    · exact List.prefix_append _ _
    · exact List.prefix_refl _
theorem rowSt_num (l : List UInt8) (xs : List (Nat × Nat × Nat)) : (rowSt l xs).2 = xs.length ∧ (rowSt l xs).1.length ≤ xs.length := by
  suffices h : ∀ (ys : List (Nat × Nat × Nat)) s, (ys.foldl (rowStep l) s).2 = s.2 + ys.length ∧ (ys.foldl (rowStep l) s).1.length ≤ s.1.length + ys.length by
    have := h xs ([], 0)
    unfold rowSt
    refine ⟨by rw [this.1]; simp, by have := this.2; simpa using this⟩
  intro ys
  induction ys with
  | nil => intro s; simp
  | cons y ys ih =>
    intro s
    rw [List.foldl_cons]
    have := ih (rowStep l s y)
    rw [this.1]
    have h2 := this.2
    have e1 : (rowStep l s y).2 = s.2 + 1 := by unfold rowStep; split <;> rfl
    have e2 : (rowStep l s y).1.length ≤ s.1.length + 1 := by unfold rowStep; split <;> simp
    rw [List.length_cons]
    omega
theorem rowsL_len (l : List UInt8) : (rowsL l).length ≤ l.length + 1 := by
  have := (rowSt_num l (linesL l)).2
  have := linesL_len l
  unfold rowsL
  omega
end Go.Proofs.YtmhemahkcbgaoaaGreatDoor
