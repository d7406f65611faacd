/- ScanApart, where both lines have tokens. -/
import Derived.Test.YtmhemahkcbgaoaaDoorSplit7
namespace Go.Proofs.YtmhemahkcbgaoaaDoor
set_option linter.unusedVariables false
set_option linter.unusedSimpArgs false
open Go.RowKit
open Go.Lib hiding intOf
def ApartSaid (w : World) (A B : List UInt8) : Prop := Calls Tryd.prog 8 #[.string (bstr A), .string (bstr B)] w fun e w' => e = .returned (.bool true) ∧ Below w.heap.size w w'
/-- the error is not this one -/
theorem isFault_no (w : World) (r : Except (Nat × Nat) (List Tok)) (err : Value) (h : ErrIs w r err) (hE : ErrT w) (c p : Nat) (ci : Int) (hci : ci = (c : Int)) (hc : c ≠ 0) (hne : r ≠ .error (c, p)) :
    Calls Tryd.prog 21 #[err, .int .i64 ci, .int .i64 (p : Int)] w fun ev w' => ev = .returned (.bool false) ∧ Below w.heap.size w w' := by
  subst hci
  cases r with
  | ok L =>
    have : err = .nilIface := h
    subst this
    refine (isFault_nil w c p).mono ?_
    rintro e w' ⟨rfl, rfl⟩
    refine ⟨?_, Below.refl _ _⟩
    have : ((c : Int) == 0) = false := by rw [beq_eq_false_iff_ne]; omega
    rw [this]
  | error e =>
    obtain ⟨c', p'⟩ := e
    obtain ⟨h0, g, rfl, hR⟩ := h
    refine (isFault_hit w g c' p' c p _ _ _ rfl rfl rfl hR hE).mono ?_
    rintro e w' ⟨rfl, hb⟩
    refine ⟨?_, hb⟩
    have : ((c' : Int) == c && ((p' : Int) == p && ((c : Int) != 0))) = false := by
      by_cases h1 : c' = c
      · by_cases h2 : p' = p
        · exact absurd (by rw [h1, h2]) hne
        · have : ((p' : Int) == p) = false := by rw [beq_eq_false_iff_ne]; omega
          rw [this, Bool.false_and, Bool.and_false]
      · have : ((c' : Int) == c) = false := by rw [beq_eq_false_iff_ne]; omega
        rw [this, Bool.false_and]
    rw [this]
theorem scanC2_long (w : World) (l : List UInt8) (hl : 16384 < l.length) (hm : l.length ≤ 4611686018427387904) :
    Calls Tryd.prog 18 #[.string (bstr l)] w fun e w' => ∃ v err, e = .returned (.tuple #[v, err]) ∧ Below w.heap.size w w' ∧ OwnT w.heap.size v [] w' ∧ ErrIs w' (.error (4, 0)) err := by
  have hsz : (bstr l).size = l.length := bstr_size l
  have hl2 : 16384 < (bstr l).size := by omega
  go_enter Tryd.func18, Tryd.ntmps18
  go_wp2
  refine wp_scope_labels (fun _ _ _ => False) (fun _ _ _ => 0) (fun _ _ _ h => h.elim) ?_
  go_wp2
  try rw [jumps_ret]
  go_ret2
  exact ⟨_, _, rfl, (Below.refl _ w).alloc (Nat.le_refl _) _, World.ownsRow_nil _ _ _ _, by simp, w.heap.size, rfl, alloc_last _ _⟩
theorem scan_len2 {l : List UInt8} {L : List Tok} (hs : scanOf l = .ok L) : L.length ≤ 16384 := by
  rw [scanOf_ok] at hs
  have := toks_count hs.2 (Nat.zero_le _)
  omega
set_option maxHeartbeats 4000000 in
set_option maxRecDepth 100000 in
theorem apart_good (w : World) (A B : List UInt8) (hA : A.length ≤ 140737488351232) (hB : B.length ≤ 140737488351232) (hT : Tabs w) (hE : ErrT w) (hl : A.length + 1 + B.length ≤ 16384) (L M : List Tok) (hr1 : scanOf A = .ok L) (hr2 : scanOf B = .ok M) : ApartSaid w A B := by
  obtain ⟨C, hC2⟩ : ∃ C, A ++ 32 :: B = C := ⟨_, rfl⟩
  obtain ⟨D, hD⟩ : ∃ D, A ++ [32] = D := ⟨_, rfl⟩
  have hC : D ++ B = C := by rw [← hD, ← hC2]; simp
  have hCl : C.length = A.length + 1 + B.length := by rw [← hC2, List.length_append, List.length_cons]; omega
  have hDl : D.length = A.length + 1 := by rw [← hD, List.length_append]; rfl
  have h1 := scanC2 w A (by omega) hT
  have h2 := fun w1 (h : Tabs w1) => scanC2 w1 B (by omega) h
  have h3 := fun w1 (h : Tabs w1) => scanC2 w1 C (by omega) h
  have hne : (Except.ok L : Except (Nat × Nat) (List Tok)) ≠ .error (71, A.length) := by intro h; cases h
  have hr3 := apart_both hl hr1 hr2
  rw [hC2] at hr3
  obtain ⟨N3, hN3⟩ : ∃ N3, L ++ M.map (Tok.shift ((A.length + 1 : Nat) : Int)) = N3 := ⟨_, rfl⟩
  have hr3 : scanOf C = .ok N3 := by rw [← hN3]; exact hr3
  have hll := scan_len2 hr1
  have hml := scan_len2 hr2
  have hpl := toks_places hr2
  rw [hr1] at h1
  rw [hr2] at h2
  rw [hr3] at h3
  obtain ⟨n, hn⟩ : ∃ n, L.length = n := ⟨_, rfl⟩
  obtain ⟨m, hm⟩ : ∃ m, M.length = m := ⟨_, rfl⟩
  have hnm : N3.length = n + m := by rw [← hN3, List.length_append, List.length_map, hn, hm]
  rw [hn] at hll
  rw [hm] at hml
  have H1 := Lib.hid h1
  have H2 := Lib.hid h2
  have H3 := Lib.hid h3
  have HT := Lib.hid hT
  have HE := Lib.hid hE
  have HN := Lib.hid hn
  have HM := Lib.hid hm
  have HN3 := Lib.hid hN3
  have HNM := Lib.hid hnm
  have HPL := Lib.hid hpl
  have q1 : ¬ 9223372036854775807 < A.length + ([32] : List UInt8).length := by simp; omega
  have q2 : ¬ 9223372036854775807 < D.length + B.length := by omega
  have hsA := bstr_size A
  have hsB := bstr_size B
  clear hT hE h1 h2 h3 hC2 hCl hDl hn hm hN3 hnm hpl hr1 hr2 hr3
  unfold ApartSaid
  go_enter Tryd.func8, Tryd.ntmps8
  go_upto_region 2 with (go_at_call 18; refine (H1.out).mono ?_; rintro e w1 ⟨v1, err1, rfl, hb1, hO1, hI1⟩)
  have HB1 := Lib.hid hb1
  have HO1 : Hid (OwnT w.heap.size v1 L w1) := Lib.hid hO1
  have he1 : err1 = .nilIface := hI1
  clear hb1 hO1 hI1
  subst he1
  go_upto_region 3 with (go_at_call 18; refine (H2.out _ (HT.out.next HB1.out)).mono ?_; rintro e w2 ⟨v2, err2, rfl, hb2, hO2, hI2⟩)
  have HB12 := Lib.hid hb2
  have HB2 : Hid (Below w.heap.size w w2) := Lib.hid (HB1.out.trans (hb2.mono HB1.out.size))
  have HO2 : Hid (OwnT w1.heap.size v2 M w2) := Lib.hid hO2
  have he2 : err2 = .nilIface := hI2
  clear hb2 hO2 hI2
  subst he2
  have hcat : ({ data := #[32] } : ByteArray) = bstr [32] := rfl
  go_upto_region 4 with (go_at_call 18; refine (H3.out _ (HT.out.next HB2.out)).mono ?_; rintro e w3 ⟨v3, err3, rfl, hb3, hO3, hI3⟩)
  have HB23 := Lib.hid hb3
  have HB3 : Hid (Below w.heap.size w w3) := Lib.hid (HB2.out.trans (hb3.mono HB2.out.size))
  have HO3 : Hid (OwnT w2.heap.size v3 N3 w3) := Lib.hid hO3
  have he3 : err3 = .nilIface := hI3
  clear hb3 hO3 hI3
  subst he3
  have HF := Lib.hid (isFault_no w3 (.ok L) .nilIface rfl (HE.out.next HB3.out) 71 A.length 71 rfl (by decide) hne)
  have HO13 : Hid (OwnT w.heap.size v1 L w3) := Lib.hid (HO1.out.below (HB12.out.trans (HB23.out.mono HB12.out.size)))
  have HO23 : Hid (OwnT w1.heap.size v2 M w3) := Lib.hid (HO2.out.below HB23.out)
  obtain ⟨a1, c1, hv1, hR1, hc1, _⟩ := readsT_own HO13.out
  obtain ⟨a2, c2, hv2, hR2, hc2, _⟩ := readsT_own HO23.out
  obtain ⟨a3, c3, hv3, hR3, hc3, _⟩ := readsT_own HO3.out
  rw [HN.out] at hv1 hR1 hc1
  rw [HM.out] at hv2 hR2 hc2
  rw [HNM.out] at hv3 hR3 hc3
  have HR1 := Lib.hid hR1
  have HR2 := Lib.hid hR2
  have HR3 := Lib.hid hR3
  clear hne hC hR1 hR2 hR3
  subst hv1 hv2 hv3
  go_upto_region 13 with (go_at_call 21; refine (HF.out).mono ?_; rintro e w4 ⟨rfl, hb4⟩)
  have HB4 : Hid (Below w.heap.size w w4) := Lib.hid (HB3.out.trans (hb4.mono HB3.out.size))
  have HR14 : Hid (ReadsT w4 a1 n L) := Lib.hid (HR1.out.keep hb4 (Nat.le_refl _))
  have HR24 : Hid (ReadsT w4 a2 m M) := Lib.hid (HR2.out.keep hb4 (Nat.le_refl _))
  have HR34 : Hid (ReadsT w4 a3 (n + m) N3) := Lib.hid (HR3.out.keep hb4 (Nat.le_refl _))
  have HNL : Hid ((L.flatMap tokCells).length = n * 4) := Lib.hid (by rw [toks_len, HN.out])
  have HSRC : Hid (0 < n → ∃ b off, a1 = some ⟨b, off, none⟩ ∧ ∀ j u, (L.flatMap tokCells)[j]? = some u → w4.cell? ⟨b, off + j, none⟩ = some u) := Lib.hid (fun h0 => toks_cell HR14.out h0)
  clear hb4
  go_wp2_with (at_builtin; refine appSlice rfl _ _ rfl Tryd.underlying25 (.agg #[.int .i64 0, .int .i64 0, .string ByteArray.empty, .int .i64 0]) 4 40 infoTok rfl (by decide) (by decide) w4.heap.size (.slice none 0 0) 0 [] rfl (World.ownsRow_nil _ _ _ _) a1 n c1 (L.flatMap tokCells) rfl HNL.out HSRC.out (toks_one L) (by omega) (Nat.le_refl _) ?_; intro v5 w5 hO5 hg5)
  have hb5 : Below w4.heap.size w4 w5 := (Below.refl _ w4).grown hg5 (Nat.le_refl _) (fun k hk => by cases hk)
  have HO5 : Hid (OwnT w4.heap.size v5 (L ++ (M.take 0).map (Tok.shift ((A.length + 1 : Nat) : Int))) w5) := Lib.hid (by
    unfold OwnT
    rw [List.take_zero, List.map_nil, List.append_nil, HN.out]
    rw [Nat.zero_add, List.nil_append] at hO5
    exact hO5)
  have HB5 := Lib.hid hb5
  clear hO5 hg5 hb5
  go_wp2
  go_loopw [11, 12] (fun vv kv wr => ∃ k : Nat, k ≤ m ∧ kv = .int .i64 (k : Int) ∧ Hid (OwnT w4.heap.size vv (L ++ (M.take k).map (Tok.shift ((A.length + 1 : Nat) : Int))) wr ∧ Below w4.heap.size w4 wr)) (fun _ kv _ => m - (RowKit.intOf kv).toNat)
  case atStart => exact ⟨0, Nat.zero_le _, rfl, Lib.hid ⟨HO5.out, HB5.out⟩⟩
  case round =>
    obtain ⟨k, hkm, rfl, HH⟩ := hrel
    obtain ⟨vv, rfl⟩ : ∃ v : Value, v = u11 := ⟨_, rfl⟩
    clear HO5 HB5
    have hLl : (L ++ (M.take k).map (Tok.shift ((A.length + 1 : Nat) : Int))).length = n + k := by rw [List.length_append, HN.out, List.length_map, List.length_take, HM.out]; omega
    have HLL := Lib.hid hLl
    clear hLl
    by_cases hlt : k < m
    · obtain ⟨b2, o2, t, rfl, hbl2, ht, e0, e1, e2, e3⟩ := (HR24.out.keep HH.out.2 (Nat.le_refl _)).at hlt
      have hpl := HPL.out t (List.mem_of_getElem? ht)
      obtain ⟨tk, ta, tt, tn⟩ := t
      simp only at e0 e1 e2 e3 hpl
      have HKT := Lib.hid ht
      obtain ⟨p0, p1⟩ := hpl
      clear ht
      have HTK : Hid (M[k]? = some ⟨tk, ta, tt, tn⟩) := HKT
      have hbr := HH.out.2.size
      have HBA : Hid (Below w4.heap.size w4 (wr.alloc (.cells #[.int .i64 tk, .int .i64 (ta + (A.length : Int) + 1), .string (bstr tt), .int .i64 tn] 38))) := Lib.hid (HH.out.2.alloc hbr _)
      have HOA : Hid (OwnT w4.heap.size vv (L ++ (M.take k).map (Tok.shift ((A.length + 1 : Nat) : Int))) (wr.alloc (.cells #[.int .i64 tk, .int .i64 (ta + (A.length : Int) + 1), .string (bstr tt), .int .i64 tn] 38))) := Lib.hid (World.ownsRow.alloc HH.out.1 _)
      have hle : w4.heap.size ≤ (wr.alloc (.cells #[.int .i64 tk, .int .i64 (ta + (A.length : Int) + 1), .string (bstr tt), .int .i64 tn] 38)).heap.size := HBA.out.size
      have HLE := Lib.hid hle
      have hac : (L ++ (M.take k).map (Tok.shift ((A.length + 1 : Nat) : Int))).length ≤ 1099511627776 := by rw [HLL.out]; omega
      have HAC := Lib.hid hac
      clear hle hac HKT
      go_wp2_with (at_builtin; refine appTok rfl _ _ rfl w4.heap.size w4.heap.size w4 (wr.alloc (.cells #[.int .i64 tk, .int .i64 (ta + (A.length : Int) + 1), .string (bstr tt), .int .i64 tn] 38)) vv (L ++ (M.take k).map (Tok.shift ((A.length + 1 : Nat) : Int))) ⟨tk, ta + (A.length : Int) + 1, tt, tn⟩ rfl HOA.out (by rw [World.size_alloc]; rfl) rfl HAC.out HBA.out (Nat.le_refl _) HLE.out ?_; intro v7 w7 hO7 hb7 hs7 hk7)
      have HNX : Hid (OwnT w4.heap.size v7 (L ++ (M.take (k + 1)).map (Tok.shift ((A.length + 1 : Nat) : Int))) w7 ∧ Below w4.heap.size w4 w7) := Lib.hid ⟨by
        have e : (⟨tk, ta + (A.length : Int) + 1, tt, tn⟩ : Tok) = Tok.shift ((A.length + 1 : Nat) : Int) ⟨tk, ta, tt, tn⟩ := by
          unfold Tok.shift
          simp only [Tok.mk.injEq, true_and, and_true]
          omega
        rw [e] at hO7
        rw [take_next HTK.out, List.map_append, List.map_singleton, ← List.append_assoc]
        exact hO7, hb7⟩
      clear hO7 hb7 hs7 hk7
      go_roundw
      case rel => exact ⟨k + 1, by omega, by go_num, HNX⟩
      case measure => simp [RowKit.intOf]; omega
    · obtain rfl : k = m := by omega
      have hfull : L ++ (M.take k).map (Tok.shift ((A.length + 1 : Nat) : Int)) = N3 := by rw [List.take_of_length_le (by rw [HM.out]; exact Nat.le_refl _), HN3.out]
      have HOV : Hid (OwnT w4.heap.size vv N3 wr) := Lib.hid (by rw [← hfull]; exact HH.out.1)
      obtain ⟨av, cv, hv, hRv, _, _⟩ := readsT_own HOV.out
      rw [HNM.out] at hv hRv
      have HS := Lib.hid (sameC wr a3 (n + k) c3 N3 av (n + k) cv N3 (HR34.out.keep HH.out.2 (Nat.le_refl _)) hRv (by omega) (by omega))
      have HBf : Hid (Below w.heap.size w wr) := Lib.hid (HB4.out.trans (HH.out.2.mono HB4.out.size))
      clear hfull hRv HOV
      subst hv
      go_wp2_with (first
        | (go_at_call 22; refine (HS.out).mono ?_; rintro e w9 ⟨rfl, hq9⟩; have HB9 := Lib.hid (HBf.out.trans ((hq9.below _).mono HBf.out.size)); have HW := Lib.hid (worksC w9 (HT.out.next HB9.out)))
        | (go_at_call 13; refine (HW.out).mono ?_; rintro e w10 ⟨rfl, hb10⟩))
      go_ret
      exact ⟨rfl, HB9.out.trans (hb10.mono HB9.out.size)⟩
end Go.Proofs.YtmhemahkcbgaoaaDoor
