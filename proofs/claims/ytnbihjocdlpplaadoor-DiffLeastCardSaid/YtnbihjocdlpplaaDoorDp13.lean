/- Texts joined, one behind the other (DSplitD, DCheck, DCheckR). -/
import Derived.Test.YtnbihjocdlpplaaDoorDp12
/- The lines here, by the program. -/
namespace Go.Proofs.YtnbihjocdlpplaaDoor
set_option linter.unusedVariables false
set_option linter.unusedSimpArgs false
open Go.RowKit
open Go.Lib
set_option maxHeartbeats 4000000 in
theorem splitC (w : World) (l : List UInt8) (hm : l.length ≤ 67108864) (hT : Tabs w) :
    Calls Tryd.prog 38 #[.string (bstr l)] w (SplitQ w l) := by
  have hA := splitAC w l hm hT
  obtain ⟨x, hx, hl⟩ := splitA_last l
  have hlen := splitA_len l
  obtain ⟨q, hq⟩ : ∃ q, (splitA l).length = q + 1 := ⟨(splitA l).length - 1, by omega⟩
  rw [hq] at hx hlen hA
  have HA := Lib.hid hA
  have HX := Lib.hid hx
  have HL := Lib.hid hl
  have HQ := Lib.hid hq
  have hq2 : q ≤ 67108865 := by omega
  clear hx hl hq hlen hT hA
  go_enter Tryd.func38, Tryd.ntmps38
  go_upto_region 2 with (go_at_call 58; refine (HA.out).mono ?_; rintro e w1 ⟨a1, n1, c1, rfl, hn1, hc1, hm1, hR1, hb1⟩)
  try subst hn1
  obtain ⟨b, off, y, rfl, hb, hy, hcell⟩ := hR1.at (k := q) (by omega)
  have hxy : y = x := by
    have := HX.out
    simp only [Nat.add_sub_cancel] at this
    rw [this] at hy
    exact (Option.some.inj hy).symm
  subst hxy
  have HR1 := Lib.hid hR1
  have HB1 := Lib.hid hb1
  have hcm : c1 ≤ 9223372036854775807 := by unfold maxLen at hm1; omega
  have HM1 := Lib.hid hm1
  have hqi : ((q : Int) + 1) - 1 = (q : Int) := by omega
  clear hb1 hR1 hm1 hy
  by_cases h0 : y = []
  · subst h0
    have HD := Lib.hid (splitD_take l (by rw [HL.out]))
    go_wp2
    go_ret
    refine ⟨_, _, _, rfl, ?_, by omega, HM1.out, ?_, HB1.out⟩
    · rw [HD.out, List.length_take, HQ.out]; omega
    · rw [HD.out, HQ.out]; exact HR1.out.take _ (by omega)
  · have HD := Lib.hid (splitD_all l (by rw [HL.out]; simpa using h0))
    have he : y.isEmpty = false := by cases y with | nil => exact absurd rfl h0 | cons _ _ => rfl
    clear h0
    go_wp2
    go_ret
    refine ⟨_, _, _, rfl, ?_, by omega, HM1.out, ?_, HB1.out⟩
    · rw [HD.out, HQ.out]
    · rw [HD.out]; exact HR1.out
end Go.Proofs.YtnbihjocdlpplaaDoor
/- May a patch be, does it fit, what it makes, how many lines go and come: by the program. -/
namespace Go.Proofs.YtnbihjocdlpplaaDoor
set_option linter.unusedVariables false
set_option linter.unusedSimpArgs false
open Go.RowKit
open Go.Lib
def Fit (X : List HkI) : Prop := X.length ≤ 16777216 ∧ linesK X ≤ 16777216 ∧ bytesK X ≤ 67108864
set_option maxHeartbeats 4000000 in
set_option maxRecDepth 100000 in
theorem wholeC (w : World) (a : Option Addr) (n c : Nat) (L : List (List UInt8)) (h : ReadsS w a n L) (hc : n ≤ c) (hcm : c ≤ maxLen) (hl : L.flatten.length ≤ 67108864) (hT : Tabs w) :
    Calls Tryd.prog 49 #[.slice a n c] w fun e w' => e = .returned (.bool (wholeB L)) ∧ Below w.heap.size w w' := by
  have HR := Lib.hid h
  have hlen := h.len
  have HN := Lib.hid hlen
  have HT := Lib.hid hT
  by_cases h5 : n ≤ 512
  · have h5' : (n : Int) ≤ 512 := by omega
    have HJ := Lib.hid (joinC w a n c L h hc (by omega) (by omega))
    have HS := Lib.hid (fun w1 => splitC w1 L.flatten hl)
    have HC := Lib.hid (⟨hc, hcm⟩ : n ≤ c ∧ c ≤ maxLen)
    have HW : Hid (wholeB L = (splitD L.flatten == L)) := Lib.hid (by unfold wholeB; rw [hlen, decide_eq_true h5]; rfl)
    clear h hT hlen hl
    go_enter Tryd.func49, Tryd.ntmps49
    go_wp2_with (first
      | (go_at_call 54; refine (HJ.out).mono ?_; rintro e w1 ⟨rfl, hb1⟩; have HB1 := Lib.hid hb1; have HT1 := Lib.hid (HT.out.next hb1); clear hb1)
      | (go_at_call 38; refine (HS.out w1 HT1.out).mono ?_; rintro e w2 ⟨a2, n2, c2, rfl, hn2, hc2, hm2, hR2, hb2⟩; have HB2 := Lib.hid hb2; have HR2 := Lib.hid hR2; have HN2 := Lib.hid hn2; have HM2 := Lib.hid hm2; clear hb2 hR2 hn2)
      | (go_at_call 78; refine (equalC w2 a2 a n2 n c2 c _ L HR2.out ((HR.out.keep HB1.out (Nat.le_refl _)).keep HB2.out (Nat.le_refl _)) (by have := HM2.out; unfold maxLen at this; omega) (by omega)).mono ?_; rintro e w3 ⟨rfl, q3, rfl⟩))
    go_ret
    refine ⟨by rw [HW.out]; rfl, ?_⟩
    exact below_drewN (HB1.out.trans (HB2.out.mono HB1.out.size)) q3
  · have h5' : ¬ (n : Int) ≤ 512 := by omega
    have HW : Hid (wholeB L = false) := Lib.hid (by unfold wholeB; rw [hlen, decide_eq_false h5]; rfl)
    clear h hT hlen hl
    go_enter Tryd.func49, Tryd.ntmps49
    go_wp2
    go_ret
    exact ⟨by rw [HW.out]; rfl, Below.refl _ _⟩
theorem splitD_len2 (l : List UInt8) : (splitD l).length ≤ l.length + 1 := by
  have h1 := (splitA_len l).2
  unfold splitD
  split
  · rw [List.length_dropLast]; omega
  · exact h1
theorem Tabs.to {w w' : World} (h : Tabs w) (b : Below w.heap.size w w') : Tabs w' := h.next b
theorem okB_drop {X : List HkI} {i : Nat} {x : HkI} {was : Int} (h : X[i]? = some x) : okB was (X.drop i) = (okAtB was x && okB x.1 (X.drop (i + 1))) := by
  obtain ⟨h1, h2⟩ := List.getElem?_eq_some_iff.1 h
  rw [List.drop_eq_getElem_cons h1, h2]
  rfl
set_option maxHeartbeats 8000000 in
set_option maxRecDepth 100000 in
theorem checkC (w : World) (a : Option Addr) (n c : Nat) (X : List HkI) (hX : ReadsK w a n X) (hF : Fit X) (hT : Tabs w) :
    Calls Tryd.prog 19 #[.slice a n c] w fun e w' => e = .returned (.int .i64 (errP (checkB X))) ∧ Below w.heap.size w w' := by
  have HX := Lib.hid hX
  have HN := Lib.hid hX.len
  have HF := Lib.hid hF
  have HT := Lib.hid hT
  have hn : n ≤ 16777216 := by rw [← hX.len]; exact hF.1
  clear hX hF hT
  go_enter Tryd.func19, Tryd.ntmps19
  go_wp2
  go_loopw [3, 8] (fun uw ui wr => ∃ (i : Nat) (was : Int), uw = .int .i64 was ∧ ui = .int .i64 (i : Int) ∧ i ≤ n ∧ Hid (okB 0 X = okB was (X.drop i) ∧ Below w.heap.size w wr)) (fun _ ui _ => n - (RowKit.intOf ui).toNat)
  case atStart => exact ⟨0, 0, rfl, rfl, Nat.zero_le _, Lib.hid ⟨rfl, Below.refl _ _⟩⟩
  case round =>
    obtain ⟨i, was, rfl, rfl, hi, HR⟩ := hrel
    have hwb := HR.out.2.size
    by_cases hlt : i < n
    · obtain ⟨b, off, x, ad, m, cm, rfl, hb, hx, hc0, hc1, hrs, hmc, hcm, hm⟩ := (HX.out.keep HR.out.2 (Nat.le_refl _)).at hlt
      have HO := Lib.hid (okB_drop (was := was) hx)
      have HA := Lib.hid (@okAtB_iff was x)
      obtain ⟨kd, hkd⟩ : ∃ kd, kd = x.1 := ⟨_, rfl⟩
      have hm0 : x.2 = [] ↔ m = 0 := by rw [← hm]; exact ⟨fun h => by rw [h]; rfl, List.eq_nil_of_length_eq_zero⟩
      have HM0 := Lib.hid hm0
      rw [← hkd] at hc0 HO HA
      have hit : (i : Int) < (n : Int) := by omega
      have hfalse : okAtB was x = false → errP (checkB X) = 310 := fun h => by
        unfold checkB
        rw [HR.out.1, HO.out, h]
        rfl
      have HFL := Lib.hid hfalse
      have hBA : Below w.heap.size w (wr.alloc (.cells #[.int .i64 kd, .slice ad m cm] 80)) := HR.out.2.alloc hwb _
      have HBA := Lib.hid hBA
      clear hx hrs hm hmc hcm hkd hm0 hfalse hBA
      by_cases h1 : kd < 1
      · have hR : Hid (errP (checkB X) = 310) := Lib.hid (HFL.out (by rw [Bool.eq_false_iff]; intro h; have := HA.out.1 h; omega))
        go_wp2
        go_ret
        exact ⟨by rw [hR.out]; rfl, HBA.out⟩
      have h1' : 1 ≤ kd := by omega
      by_cases h2 : 3 < kd
      · have hR : Hid (errP (checkB X) = 310) := Lib.hid (HFL.out (by rw [Bool.eq_false_iff]; intro h; have := HA.out.1 h; omega))
        go_wp2
        go_ret
        exact ⟨by rw [hR.out]; rfl, HBA.out⟩
      have h2' : kd ≤ 3 := by omega
      by_cases h3 : m = 0
      · have hR : Hid (errP (checkB X) = 310) := Lib.hid (HFL.out (by rw [Bool.eq_false_iff]; intro h; exact (HA.out.1 h).2.1 (HM0.out.2 h3)))
        subst h3
        go_wp2
        go_ret
        exact ⟨by rw [hR.out]; rfl, HBA.out⟩
      have h3' : ((m : Int) == 0) = false := by rw [beq_eq_false_iff_ne]; omega
      have h3'' : (m : Int) ≠ 0 := by omega
      by_cases h4 : kd = was
      · have hR : Hid (errP (checkB X) = 310) := Lib.hid (HFL.out (by rw [Bool.eq_false_iff]; intro h; exact (HA.out.1 h).2.2.1 h4))
        have h4' : (kd == was) = true := by rw [beq_iff_eq]; exact h4
        clear h4
        go_wp2
        go_ret
        exact ⟨by rw [hR.out]; rfl, HBA.out⟩
      have h4' : (kd == was) = false := by rw [beq_eq_false_iff_ne]; exact h4
      by_cases h5 : kd = 2 ∧ was = 3
      · have hR : Hid (errP (checkB X) = 310) := Lib.hid (HFL.out (by rw [Bool.eq_false_iff]; intro h; exact (HA.out.1 h).2.2.2 h5))
        obtain ⟨rfl, rfl⟩ := h5
        go_wp2
        go_ret
        exact ⟨by rw [hR.out]; rfl, HBA.out⟩
      have hok : okAtB was x = true := HA.out.2 ⟨⟨h1', h2'⟩, fun e => h3 (HM0.out.1 e), h4, h5⟩
      have HN2 : Hid (okB 0 X = okB kd (X.drop (i + 1))) := Lib.hid (by rw [HR.out.1, HO.out, hok]; rfl)
      have h6 : ((kd == 2) = true ∧ (was == 3) = false) ∨ (kd == 2) = false := by
        by_cases e : kd = 2
        · exact .inl ⟨by rw [e]; rfl, by rw [beq_eq_false_iff_ne]; exact fun e2 => h5 ⟨e, e2⟩⟩
        · exact .inr (by rw [beq_eq_false_iff_ne]; exact e)
      clear h4 h5 hok h1 h2 h3
      rcases h6 with ⟨q1, q2⟩ | q1
      all_goals
        go_wp2
        go_roundw
        case rel => exact ⟨i + 1, kd, rfl, by go_num, hlt, Lib.hid ⟨HN2.out, HBA.out⟩⟩
        case measure => simp [RowKit.intOf]; omega
    · obtain rfl : i = n := by omega
      have hd : X.drop i = [] := List.drop_of_length_le (by rw [HN.out]; exact Nat.le_refl _)
      have hck : checkB X = (wholeB (sideI 2 X) && wholeB (sideI 3 X)) := by
        unfold checkB
        rw [HR.out.1, hd]
        simp [okB]
      have HCK := Lib.hid hck
      have HXR : Hid (ReadsK wr a i X) := Lib.hid (HX.out.keep HR.out.2 (Nat.le_refl _))
      have HTR : Hid (Tabs wr) := Lib.hid (HT.out.next HR.out.2)
      clear hd hck
      by_cases g2 : wholeB (sideI 2 X) = true
      · by_cases g3 : wholeB (sideI 3 X) = true
        · rw [g2, g3] at HCK
          have HG2 := Lib.hid g2
          have HG3 := Lib.hid g3
          clear g2 g3
          go_wp2_with (first
            | (go_at_call_of 50 (Value.int .i64 2); refine (sideC wr a i c X 2 HXR.out (by omega) (by have := HF.out.2.1; omega)).mono ?_; rintro e w1 ⟨v1, rfl, hO1, hb1⟩; obtain ⟨a1, c1, rfl, hr1, hc1, hm1⟩ := readsS_own hO1; have HR1 := Lib.hid hr1; have HC1 := Lib.hid hc1; have HM1 := Lib.hid hm1; have HB1 := Lib.hid hb1; clear hO1 hb1 hr1 hc1 hm1; obtain ⟨n1, hn1⟩ : ∃ n1, n1 = (sideI 2 X).length := ⟨_, rfl⟩; rw [← hn1] at HR1 HC1 ⊢; clear hn1)
            | (go_at_call_of 49 (Value.slice a1 n1 c1); refine (wholeC w1 a1 n1 c1 _ HR1.out HC1.out HM1.out (Nat.le_trans (sideI_bytes _ _) HF.out.2.2) (HTR.out.next HB1.out)).mono ?_; rw [HG2.out]; rintro e w2 ⟨rfl, hb2⟩; have HB2 := Lib.hid (HB1.out.trans (hb2.mono HB1.out.size)); clear hb2)
            | (go_at_call_of 50 (Value.int .i64 3); refine (sideC w2 a i c X 3 (HXR.out.keep HB2.out (Nat.le_refl _)) (by omega) (by have := HF.out.2.1; omega)).mono ?_; rintro e w3 ⟨v3, rfl, hO3, hb3⟩; obtain ⟨a3, c3, rfl, hr3, hc3, hm3⟩ := readsS_own hO3; have HR3 := Lib.hid hr3; have HC3 := Lib.hid hc3; have HM3 := Lib.hid hm3; have HB3 := Lib.hid (HB2.out.trans (hb3.mono HB2.out.size)); clear hO3 hb3 hr3 hc3 hm3; obtain ⟨n3, hn3⟩ : ∃ n3, n3 = (sideI 3 X).length := ⟨_, rfl⟩; rw [← hn3] at HR3 HC3 ⊢; clear hn3)
            | (go_at_call 49; refine (wholeC w3 a3 n3 c3 _ HR3.out HC3.out HM3.out (Nat.le_trans (sideI_bytes _ _) HF.out.2.2) (HTR.out.next HB3.out)).mono ?_; rw [HG3.out]; rintro e w4 ⟨rfl, hb4⟩; have HB4 := Lib.hid (HB3.out.trans (hb4.mono HB3.out.size)); clear hb4))
          go_ret
          exact ⟨by rw [HCK.out]; rfl, HR.out.2.trans (HB4.out.mono hwb)⟩
        · rw [Bool.not_eq_true] at g3
          rw [g2, g3] at HCK
          have HG2 := Lib.hid g2
          have HG3 := Lib.hid g3
          clear g2 g3
          go_wp2_with (first
            | (go_at_call_of 50 (Value.int .i64 2); refine (sideC wr a i c X 2 HXR.out (by omega) (by have := HF.out.2.1; omega)).mono ?_; rintro e w1 ⟨v1, rfl, hO1, hb1⟩; obtain ⟨a1, c1, rfl, hr1, hc1, hm1⟩ := readsS_own hO1; have HR1 := Lib.hid hr1; have HC1 := Lib.hid hc1; have HM1 := Lib.hid hm1; have HB1 := Lib.hid hb1; clear hO1 hb1 hr1 hc1 hm1; obtain ⟨n1, hn1⟩ : ∃ n1, n1 = (sideI 2 X).length := ⟨_, rfl⟩; rw [← hn1] at HR1 HC1 ⊢; clear hn1)
            | (go_at_call_of 49 (Value.slice a1 n1 c1); refine (wholeC w1 a1 n1 c1 _ HR1.out HC1.out HM1.out (Nat.le_trans (sideI_bytes _ _) HF.out.2.2) (HTR.out.next HB1.out)).mono ?_; rw [HG2.out]; rintro e w2 ⟨rfl, hb2⟩; have HB2 := Lib.hid (HB1.out.trans (hb2.mono HB1.out.size)); clear hb2)
            | (go_at_call_of 50 (Value.int .i64 3); refine (sideC w2 a i c X 3 (HXR.out.keep HB2.out (Nat.le_refl _)) (by omega) (by have := HF.out.2.1; omega)).mono ?_; rintro e w3 ⟨v3, rfl, hO3, hb3⟩; obtain ⟨a3, c3, rfl, hr3, hc3, hm3⟩ := readsS_own hO3; have HR3 := Lib.hid hr3; have HC3 := Lib.hid hc3; have HM3 := Lib.hid hm3; have HB3 := Lib.hid (HB2.out.trans (hb3.mono HB2.out.size)); clear hO3 hb3 hr3 hc3 hm3; obtain ⟨n3, hn3⟩ : ∃ n3, n3 = (sideI 3 X).length := ⟨_, rfl⟩; rw [← hn3] at HR3 HC3 ⊢; clear hn3)
            | (go_at_call 49; refine (wholeC w3 a3 n3 c3 _ HR3.out HC3.out HM3.out (Nat.le_trans (sideI_bytes _ _) HF.out.2.2) (HTR.out.next HB3.out)).mono ?_; rw [HG3.out]; rintro e w4 ⟨rfl, hb4⟩; have HB4 := Lib.hid (HB3.out.trans (hb4.mono HB3.out.size)); clear hb4))
          go_ret
          exact ⟨by rw [HCK.out]; rfl, HR.out.2.trans (HB4.out.mono hwb)⟩
      · rw [Bool.not_eq_true] at g2
        rw [g2] at HCK
        have HG2 := Lib.hid g2
        clear g2
        go_wp2_with (first
          | (go_at_call_of 50 (Value.int .i64 2); refine (sideC wr a i c X 2 HXR.out (by omega) (by have := HF.out.2.1; omega)).mono ?_; rintro e w1 ⟨v1, rfl, hO1, hb1⟩; obtain ⟨a1, c1, rfl, hr1, hc1, hm1⟩ := readsS_own hO1; have HR1 := Lib.hid hr1; have HC1 := Lib.hid hc1; have HM1 := Lib.hid hm1; have HB1 := Lib.hid hb1; clear hO1 hb1 hr1 hc1 hm1; obtain ⟨n1, hn1⟩ : ∃ n1, n1 = (sideI 2 X).length := ⟨_, rfl⟩; rw [← hn1] at HR1 HC1 ⊢; clear hn1)
          | (go_at_call_of 49 (Value.slice a1 n1 c1); refine (wholeC w1 a1 n1 c1 _ HR1.out HC1.out HM1.out (Nat.le_trans (sideI_bytes _ _) HF.out.2.2) (HTR.out.next HB1.out)).mono ?_; rw [HG2.out]; rintro e w2 ⟨rfl, hb2⟩; have HB2 := Lib.hid (HB1.out.trans (hb2.mono HB1.out.size)); clear hb2))
        go_ret
        exact ⟨by rw [HCK.out]; rfl, HR.out.2.trans (HB2.out.mono hwb)⟩
end Go.Proofs.YtnbihjocdlpplaaDoor
/- May a patch be: by the reference. -/
namespace Go.Proofs.YtnbihjocdlpplaaDoor
set_option linter.unusedVariables false
set_option linter.unusedSimpArgs false
open Go.RowKit
open Go.Lib
/-- the kind of the hunk ahead of place i -/
def WasAt (X : List HkI) (i : Nat) (was : Int) : Prop := (i = 0 ∧ was = 0) ∨ ∃ i' y, i = i' + 1 ∧ X[i']? = some y ∧ y.1 = was
theorem not_err (b : Bool) : (errP b == 0) = b := by cases b <;> rfl
set_option maxHeartbeats 8000000 in
set_option maxRecDepth 100000 in
theorem checkR (w : World) (a : Option Addr) (n c : Nat) (X : List HkI) (hX : ReadsK w a n X) (hF : Fit X) :
    Calls Tryd.prog 20 #[.slice a n c] w fun e w' => e = .returned (.int .i64 (errP (checkB X))) ∧ Below w.heap.size w w' := by
  have HX := Lib.hid hX
  have HN := Lib.hid hX.len
  have HF := Lib.hid hF
  have hn : n ≤ 16777216 := by rw [← hX.len]; exact hF.1
  clear hX hF
  go_enter Tryd.func20, Tryd.ntmps20
  go_wp2
  go_loopw [3] (fun ui wr => ∃ (i : Nat) (was : Int), ui = .int .i64 (i : Int) ∧ i ≤ n ∧ Hid (WasAt X i was ∧ okB 0 X = okB was (X.drop i) ∧ Below w.heap.size w wr)) (fun ui _ => n - (RowKit.intOf ui).toNat)
  case atStart => exact ⟨0, 0, rfl, Nat.zero_le _, Lib.hid ⟨.inl ⟨rfl, rfl⟩, rfl, Below.refl _ _⟩⟩
  case round =>
    obtain ⟨i, was, rfl, hi, HR⟩ := hrel
    have hwb := HR.out.2.2.size
    by_cases hlt : i < n
    · have HXR := HX.out.keep HR.out.2.2 (Nat.le_refl _)
      obtain ⟨b, off, x, ad, m, cm, rfl, hb, hx, hc0, hc1, hrs, hmc, hcm, hm⟩ := HXR.at hlt
      have HO := Lib.hid (okB_drop (was := was) hx)
      have HA := Lib.hid (@okAtB_iff was x)
      have HX2 := Lib.hid hx
      obtain ⟨kd, hkd⟩ : ∃ kd, kd = x.1 := ⟨_, rfl⟩
      have HKD := Lib.hid hkd
      have hm0 : x.2 = [] ↔ m = 0 := by rw [← hm]; exact ⟨fun h => by rw [h]; rfl, List.eq_nil_of_length_eq_zero⟩
      have HM0 := Lib.hid hm0
      rw [← hkd] at hc0 HO HA
      have hit : (i : Int) < (n : Int) := by omega
      have hfalse : okAtB was x = false → errP (checkB X) = 310 := fun h => by
        unfold checkB
        rw [HR.out.2.1, HO.out, h]
        rfl
      have HFL := Lib.hid hfalse
      clear hx hrs hm hmc hcm hkd hm0 hfalse
      by_cases h1 : kd < 1
      · have hR : Hid (errP (checkB X) = 310) := Lib.hid (HFL.out (by rw [Bool.eq_false_iff]; intro h; have := HA.out.1 h; omega))
        clear HXR
        go_wp2
        go_ret
        exact ⟨by rw [hR.out]; rfl, HR.out.2.2⟩
      have h1' : 1 ≤ kd := by omega
      by_cases h2 : 3 < kd
      · have hR : Hid (errP (checkB X) = 310) := Lib.hid (HFL.out (by rw [Bool.eq_false_iff]; intro h; have := HA.out.1 h; omega))
        clear HXR
        go_wp2
        go_ret
        exact ⟨by rw [hR.out]; rfl, HR.out.2.2⟩
      have h2' : kd ≤ 3 := by omega
      by_cases h3 : m = 0
      · have hR : Hid (errP (checkB X) = 310) := Lib.hid (HFL.out (by rw [Bool.eq_false_iff]; intro h; exact (HA.out.1 h).2.1 (HM0.out.2 h3)))
        subst h3
        clear HXR
        go_wp2
        go_ret
        exact ⟨by rw [hR.out]; rfl, HR.out.2.2⟩
      have h3' : ((m : Int) == 0) = false := by rw [beq_eq_false_iff_ne]; omega
      have h3'' : (m : Int) ≠ 0 := by omega
      by_cases h4 : kd = was
      · have hR : Hid (errP (checkB X) = 310) := Lib.hid (HFL.out (by rw [Bool.eq_false_iff]; intro h; exact (HA.out.1 h).2.2.1 h4))
        rcases HR.out.1 with ⟨_, e0⟩ | ⟨i', y, hi', hy, hyw⟩
        · omega
        · obtain ⟨b2, o2, y2, ad2, m2, cm2, ea2, _, hy2, hd0, _, _, _, _, _⟩ := HXR.at (i := i') (by omega)
          cases ea2
          rw [hy] at hy2
          cases hy2
          rw [hyw] at hd0
          have hw : IntKind.i64.wrap ((i : Int) - 1) = (i' : Int) := by rw [show (i : Int) - 1 = (i' : Int) by omega]; exact IntWalk.i64_in _ (by omega)
          have hb' : (i' : Int) < (n : Int) := by omega
          have h0i : 0 < (i : Int) := by omega
          have h0n : 0 < i := by omega
          have h4' : (kd == was) = true := by rw [beq_iff_eq]; exact h4
          have HI := Lib.hid hi'
          clear h4 HXR hy hyw hi'
          go_wp2
          go_quiet (fail)
          go_wp2
          go_ret
          exact ⟨by rw [hR.out]; rfl, below_drewN HR.out.2.2 _⟩
      have h4' : (kd == was) = false := by rw [beq_eq_false_iff_ne]; exact h4
      by_cases h5 : kd = 2 ∧ was = 3
      · have hR : Hid (errP (checkB X) = 310) := Lib.hid (HFL.out (by rw [Bool.eq_false_iff]; intro h; exact (HA.out.1 h).2.2.2 h5))
        obtain ⟨e5, e6⟩ := h5
        rcases HR.out.1 with ⟨_, e0⟩ | ⟨i', y, hi', hy, hyw⟩
        · omega
        · obtain ⟨b2, o2, y2, ad2, m2, cm2, ea2, _, hy2, hd0, _, _, _, _, _⟩ := HXR.at (i := i') (by omega)
          cases ea2
          rw [hy] at hy2
          cases hy2
          rw [hyw] at hd0
          have hw : IntKind.i64.wrap ((i : Int) - 1) = (i' : Int) := by rw [show (i : Int) - 1 = (i' : Int) by omega]; exact IntWalk.i64_in _ (by omega)
          have hb' : (i' : Int) < (n : Int) := by omega
          have h0i : 0 < (i : Int) := by omega
          have h0n : 0 < i := by omega
          have HI := Lib.hid hi'
          clear h4 HXR hy hyw hi'
          subst e5 e6
          go_wp2
          go_quiet (fail)
          go_wp2
          go_ret
          exact ⟨by rw [hR.out]; rfl, below_drewN HR.out.2.2 _⟩
      have hok : okAtB was x = true := HA.out.2 ⟨⟨h1', h2'⟩, fun e => h3 (HM0.out.1 e), h4, h5⟩
      have HN2 : Hid (okB 0 X = okB x.1 (X.drop (i + 1))) := Lib.hid (by rw [HR.out.2.1, HO.out, hok, HKD.out]; rfl)
      have HNW : Hid (WasAt X (i + 1) x.1) := Lib.hid (.inr ⟨i, x, rfl, HX2.out, rfl⟩)
      have h6 : ((kd == 2) = true ∧ (was == 3) = false) ∨ (kd == 2) = false := by
        by_cases e : kd = 2
        · exact .inl ⟨by rw [e]; rfl, by rw [beq_eq_false_iff_ne]; exact fun e2 => h5 ⟨e, e2⟩⟩
        · exact .inr (by rw [beq_eq_false_iff_ne]; exact e)
      rcases HR.out.1 with ⟨e0, e1⟩ | ⟨i', y, hi', hy, hyw⟩
      · have hi0 : ¬ 0 < i := by omega
        have HE0 := Lib.hid e0
        clear h4 h5 hok h1 h2 h3 HXR h6 e0
        go_wp2
        go_quiet (fail)
        go_wp2
        go_roundw
        case rel => exact ⟨i + 1, x.1, by go_num, hlt, Lib.hid ⟨HNW.out, HN2.out, below_drewN HR.out.2.2 _⟩⟩
        case measure => simp [RowKit.intOf]; omega
      · obtain ⟨b2, o2, y2, ad2, m2, cm2, ea2, _, hy2, hd0, _, _, _, _, _⟩ := HXR.at (i := i') (by omega)
        cases ea2
        rw [hy] at hy2
        cases hy2
        rw [hyw] at hd0
        have hw : IntKind.i64.wrap ((i : Int) - 1) = (i' : Int) := by rw [show (i : Int) - 1 = (i' : Int) by omega]; exact IntWalk.i64_in _ (by omega)
        have hb' : (i' : Int) < (n : Int) := by omega
        have h0i : 0 < (i : Int) := by omega
        have h0n : 0 < i := by omega
        have HI := Lib.hid hi'
        clear h4 h5 hok h1 h2 h3 HXR hy hyw hi'
        rcases h6 with ⟨q1, q2⟩ | q1
        all_goals
          go_wp2
          go_quiet (fail)
          go_wp2
          go_roundw
          case rel => exact ⟨i + 1, x.1, by go_num, hlt, Lib.hid ⟨HNW.out, HN2.out, below_drewN HR.out.2.2 _⟩⟩
          case measure => simp [RowKit.intOf]; omega
    · obtain rfl : i = n := by omega
      have hd : X.drop i = [] := List.drop_of_length_le (by rw [HN.out]; exact Nat.le_refl _)
      have hck : checkB X = (wholeB (sideI 2 X) && wholeB (sideI 3 X)) := by
        unfold checkB
        rw [HR.out.2.1, hd]
        simp [okB]
      obtain ⟨A, hA⟩ : ∃ A, A = sideI 2 X := ⟨_, rfl⟩
      obtain ⟨C, hC⟩ : ∃ C, C = sideI 3 X := ⟨_, rfl⟩
      have lA : A.flatten.length ≤ 67108864 := by rw [hA]; exact Nat.le_trans (sideI_bytes _ _) HF.out.2.2
      have lC : C.flatten.length ≤ 67108864 := by rw [hC]; exact Nat.le_trans (sideI_bytes _ _) HF.out.2.2
      rw [← hA, ← hC] at hck
      have HXR : Hid (ReadsK wr a i X) := Lib.hid (HX.out.keep HR.out.2.2 (Nat.le_refl _))
      have hwA : wholeB A = (decide (A.length ≤ 512) && (splitD A.flatten == A)) := rfl
      have hwC : wholeB C = (decide (C.length ≤ 512) && (splitD C.flatten == C)) := rfl
      rw [hwA, hwC] at hck
      have HCK := Lib.hid hck
      have HEA := Lib.hid hA
      have HEC := Lib.hid hC
      have HLA := Lib.hid lA
      have HLC := Lib.hid lC
      clear hd hck hA hC hwA hwC lA lC
      go_upto_region 9 with (first
        | (go_at_call_of 51 (Value.int .i64 2); refine (sideR wr a i c X 2 HXR.out (by omega) (by have := HF.out.2.1; omega)).mono ?_; rintro e w1 ⟨v1, rfl, hO1, hb1⟩; rw [← HEA.out] at hO1; obtain ⟨a1, c1, rfl, hr1, hc1, hm1⟩ := readsS_own hO1; have HR1 := Lib.hid hr1; have HC1 := Lib.hid hc1; have HM1 := Lib.hid hm1; have HB1 := Lib.hid hb1; clear hO1 hb1 hr1 hc1 hm1; obtain ⟨n1, hn1⟩ : ∃ n1, n1 = A.length := ⟨_, rfl⟩; rw [← hn1] at HR1 HC1 HCK ⊢; clear hn1)
        | (go_at_call_of 51 (Value.int .i64 3); refine (sideR w1 a i c X 3 (HXR.out.keep HB1.out (Nat.le_refl _)) (by omega) (by have := HF.out.2.1; omega)).mono ?_; rintro e w3 ⟨v3, rfl, hO3, hb3⟩; rw [← HEC.out] at hO3; obtain ⟨a3, c3, rfl, hr3, hc3, hm3⟩ := readsS_own hO3; have HR3 := Lib.hid hr3; have HC3 := Lib.hid hc3; have HM3 := Lib.hid hm3; have HB3 := Lib.hid (HB1.out.trans (hb3.mono HB1.out.size)); have HR13 := Lib.hid (HR1.out.keep hb3 (Nat.le_refl _)); clear hO3 hb3 hr3 hc3 hm3; obtain ⟨n3, hn3⟩ : ∃ n3, n3 = C.length := ⟨_, rfl⟩; rw [← hn3] at HR3 HC3 HCK ⊢; clear hn3))
      have HBW : Hid (Below w.heap.size w w3) := Lib.hid (HR.out.2.2.trans (HB3.out.mono hwb))
      have hw3 := HBW.out.size
      by_cases l1 : 512 < n1
      · rw [decide_eq_false (show ¬ n1 ≤ 512 by omega)] at HCK
        have l1' : (512 : Int) < (n1 : Int) := by omega
        go_wp2
        go_ret
        exact ⟨by rw [HCK.out]; rfl, HBW.out⟩
      have l1' : (n1 : Int) ≤ 512 := by omega
      by_cases l3 : 512 < n3
      · rw [decide_eq_false (show ¬ n3 ≤ 512 by omega)] at HCK
        have l3' : (512 : Int) < (n3 : Int) := by omega
        go_wp2
        go_ret
        exact ⟨by rw [HCK.out]; simp [errP], HBW.out⟩
      have l3' : (n3 : Int) ≤ 512 := by omega
      rw [decide_eq_true (show n1 ≤ 512 by omega), decide_eq_true (show n3 ≤ 512 by omega), Bool.true_and, Bool.true_and] at HCK
      by_cases g1 : (splitD A.flatten == A) = true
      · by_cases g3 : (splitD C.flatten == C) = true
        all_goals try rw [Bool.not_eq_true] at g3
        all_goals
          rw [g1, g3] at HCK
          have HG1 := Lib.hid g1
          have HG3 := Lib.hid g3
          clear g1 g3
          go_wp2_with (first
            | (go_at_call_of 52 (Value.slice a1 n1 c1); refine (joinR w3 a1 n1 c1 A HR13.out (by omega) (Nat.le_trans HLA.out (by omega))).mono ?_; rintro e w4 ⟨rfl, hb4⟩; have HB4 := Lib.hid hb4; clear hb4)
            | (go_at_call_of 44 (Value.string (bstr A.flatten)); refine (splitR w4 A.flatten HLA.out).mono ?_; rintro e w5 ⟨a5, n5, c5, rfl, hn5, hc5, hm5, hR5, hb5⟩; have HR5 := Lib.hid hR5; have HM5 := Lib.hid hm5; have hq5 : n5 ≤ 4611686018427387904 := by { have h1 := hn5; have h2 := splitD_len2 A.flatten; have h3 := HLA.out; omega }; have HB5 := Lib.hid (HB4.out.trans (hb5.mono HB4.out.size)); clear hR5 hm5 hb5 hn5)
            | (go_at_call_of 47 (Value.slice a1 n1 c1); refine (eqTexts w5 a5 a1 n5 n1 c5 c1 _ A HR5.out (HR13.out.keep HB5.out (Nat.le_refl _)) hq5 (by omega)).mono ?_; rw [HG1.out]; rintro e w6 ⟨rfl, hq6⟩; have HB6 := Lib.hid (HB5.out.trans ((hq6.below _).mono (Nat.le_refl _))); clear hq6)
            | (go_at_call_of 52 (Value.slice a3 n3 c3); refine (joinR w6 a3 n3 c3 C (HR3.out.keep HB6.out (Nat.le_refl _)) (by omega) (Nat.le_trans HLC.out (by omega))).mono ?_; rintro e w7 ⟨rfl, hb7⟩; have HB7 := Lib.hid (HB6.out.trans (hb7.mono HB6.out.size)); clear hb7)
            | (go_at_call_of 44 (Value.string (bstr C.flatten)); refine (splitR w7 C.flatten HLC.out).mono ?_; rintro e w8 ⟨a8, n8, c8, rfl, hn8, hc8, hm8, hR8, hb8⟩; have HR8 := Lib.hid hR8; have HM8 := Lib.hid hm8; have hq8 : n8 ≤ 4611686018427387904 := by { have h1 := hn8; have h2 := splitD_len2 C.flatten; have h3 := HLC.out; omega }; have HB8 := Lib.hid (HB7.out.trans (hb8.mono HB7.out.size)); clear hR8 hm8 hb8 hn8)
            | (go_at_call_of 47 (Value.slice a3 n3 c3); refine (eqTexts w8 a8 a3 n8 n3 c8 c3 _ C HR8.out (HR3.out.keep HB8.out (Nat.le_refl _)) hq8 (by omega)).mono ?_; rw [HG3.out]; rintro e w9 ⟨rfl, hq9⟩; have HB9 := Lib.hid (HB8.out.trans ((hq9.below _).mono (Nat.le_refl _))); clear hq9))
          go_ret
          exact ⟨by rw [HCK.out]; rfl, HBW.out.trans (HB9.out.mono hw3)⟩
      · rw [Bool.not_eq_true] at g1
        rw [g1] at HCK
        have HG1 := Lib.hid g1
        clear g1
        go_wp2_with (first
          | (go_at_call_of 52 (Value.slice a1 n1 c1); refine (joinR w3 a1 n1 c1 A HR13.out (by omega) (Nat.le_trans HLA.out (by omega))).mono ?_; rintro e w4 ⟨rfl, hb4⟩; have HB4 := Lib.hid hb4; clear hb4)
          | (go_at_call_of 44 (Value.string (bstr A.flatten)); refine (splitR w4 A.flatten HLA.out).mono ?_; rintro e w5 ⟨a5, n5, c5, rfl, hn5, hc5, hm5, hR5, hb5⟩; have HR5 := Lib.hid hR5; have HM5 := Lib.hid hm5; have hq5 : n5 ≤ 4611686018427387904 := by { have h1 := hn5; have h2 := splitD_len2 A.flatten; have h3 := HLA.out; omega }; have HB5 := Lib.hid (HB4.out.trans (hb5.mono HB4.out.size)); clear hR5 hm5 hb5 hn5)
          | (go_at_call_of 47 (Value.slice a1 n1 c1); refine (eqTexts w5 a5 a1 n5 n1 c5 c1 _ A HR5.out (HR13.out.keep HB5.out (Nat.le_refl _)) hq5 (by omega)).mono ?_; rw [HG1.out]; rintro e w6 ⟨rfl, hq6⟩; have HB6 := Lib.hid (HB5.out.trans ((hq6.below _).mono (Nat.le_refl _))); clear hq6))
        go_ret
        exact ⟨by rw [HCK.out]; rfl, HBW.out.trans (HB6.out.mono hw3)⟩
end Go.Proofs.YtnbihjocdlpplaaDoor
