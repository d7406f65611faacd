/- GapPlays: two gaps gone through by scripts: every answer. -/
import Derived.Test.YtpafdemnnofihaaStepC
import Derived.Test.YtpafdemnnofihaaOpenS
namespace Go.Proofs.Ytpafdemnnofihaa
open Go.RowKit

theorem Both.lt1 {w : World} {g r p : Nat} {s : List UInt8} (h : Both w g r s p) : g < w.heap.size := h.gap.lt
theorem Both.lt2 {w : World} {g r p : Nat} {s : List UInt8} (h : Both w g r s p) : r < w.heap.size := h.ref.lt
set_option maxHeartbeats 40000000 in
set_option maxRecDepth 100000 in
theorem gapPlays_walk (w : World) (A B : List UInt8) (hA : A.length ≤ 140737488351232) (hB : B.length ≤ 140737488351232)
    (a1 : Option Addr) (n1 c1 : Nat) (L1 : List StepL) (h1 : ReadsSteps w a1 n1 L1) (hn1 : n1 * 40 ≤ 140737488351232) (hf1 : ∀ y ∈ L1, y.fine)
    (a2 : Option Addr) (n2 c2 : Nat) (L2 : List StepL) (h2 : ReadsSteps w a2 n2 L2) (hn2 : n2 * 40 ≤ 140737488351232) (hf2 : ∀ y ∈ L2, y.fine) :
    Calls Try.prog 6 #[.agg #[.string (bstr A), .string (bstr B), .slice a1 n1 c1, .slice a2 n2 c2]] w fun e w' => e = .returned (.bool true) ∧ Below w.heap.size w w' := by
  have HS1 := Lib.hid h1
  have HS2 := Lib.hid h2
  have HF1 := Lib.hid hf1
  have HF2 := Lib.hid hf2
  clear h1 h2 hf1 hf2
  rcases Nat.lt_or_ge 252 A.length with hAn | hAy
  all_goals rcases Nat.lt_or_ge 252 B.length with hBn | hBy
  all_goals
    go_enter Try.func6, Try.ntmps6
    go_wp2_with fail
    obtain ⟨w0, hw0⟩ : ∃ w0, w0 = w.alloc (.cells #[.string (bstr A), .string (bstr B), .slice a1 n1 c1, .slice a2 n2 c2] 51) := ⟨_, rfl⟩
    have X0 : Hid (Row w0 w.heap.size 51 [.string (bstr A), .string (bstr B), .slice a1 n1 c1, .slice a2 n2 c2]) := by rw [hw0]; exact row_new w [.string (bstr A), .string (bstr B), .slice a1 n1 c1, .slice a2 n2 c2] _
    have B0 : Hid (Below w.heap.size w w0) := by rw [hw0]; exact (Below.refl _ _).alloc (Nat.le_refl _) _
    have l0 : w.heap.size < w0.heap.size := X0.out.lt
    rw [← hw0]
    clear hw0
  · -- case 0 0
    have x0 := (X0.out.cell 0)
    go_wp2_with fail
    refine (makeNo _ A hAn hA).mono ?_
    rintro e w1 ⟨rfl, hw1⟩
    subst hw1
    have X1 := X0
    have B1 := B0
    have l1 := l0
    clear x0
    have x1 := (X1.out.cell 0)
    go_wp2_with fail
    refine (rMakeNo _ A hAn hA).mono ?_
    rintro e w2 ⟨rfl, hw2⟩
    subst hw2
    have X2 := X1
    have B2 := B1
    have l2 := l1
    clear x1
    have x2 := (X2.out.cell 1)
    go_wp2_with fail
    refine (makeNo _ B hBn hB).mono ?_
    rintro e w3 ⟨rfl, hw3⟩
    subst hw3
    have X3 := X2
    have B3 := B2
    have l3 := l2
    clear x2
    have x3 := (X3.out.cell 1)
    go_wp2_with fail
    refine (rMakeNo _ B hBn hB).mono ?_
    rintro e w4 ⟨rfl, hw4⟩
    subst hw4
    have X4 := X3
    have B4 := B3
    have l4 := l3
    clear x3
    have l4' := l4
    go_wp2
    go_loopw [3, 7, 11, 12] (fun v3 v7 v11 v12 wr => ∃ (k : Nat), k ≤ n1 + n2 ∧ v12 = .int .i64 k ∧ (∃ bb, v11 = .bool bb) ∧ v3 = .pointer none ∧ v7 = .pointer none ∧ Hid (Row wr w.heap.size 51 [.string (bstr A), .string (bstr B), .slice a1 n1 c1, .slice a2 n2 c2]) ∧ Hid (Below w.heap.size w wr)) (fun _ _ _ v12 _ => n1 + n2 - (intOf v12).toNat)
    case atStart => exact ⟨0, Nat.zero_le _, rfl, ⟨true, rfl⟩, rfl, rfl, X4, B4⟩
    case round =>
      try clear hbg
      try clear hbh
      try clear dgh
      try clear dgq
      try clear drh
      try clear hgr
      try clear hhq
      obtain ⟨k, hk, rfl, ⟨bb, rfl⟩, rfl, rfl, X, BB⟩ := hrel
      have lx := X.out.lt
      have y2 := X.out.cell 2
      have y3 := X.out.cell 3
      have y2 : wr.cell? ⟨w.heap.size, 2, none⟩ = some (.slice a1 n1 c1) := y2
      have y3 : wr.cell? ⟨w.heap.size, 3, none⟩ = some (.slice a2 n2 c2) := y3
      by_cases hk1 : k < n1
      all_goals by_cases hk2 : k < n2
      · -- 1 1
        go_wp2
        go_roundw
        case rel => exact ⟨k + 1, by omega, by go_num, ⟨_, rfl⟩, rfl, rfl, X, BB⟩
        case measure => simp [intOf]; omega
      · -- 1 0
        go_wp2
        go_roundw
        case rel => exact ⟨k + 1, by omega, by go_num, ⟨_, rfl⟩, rfl, rfl, X, BB⟩
        case measure => simp [intOf]; omega
      · -- 0 1
        go_wp2
        go_roundw
        case rel => exact ⟨k + 1, by omega, by go_num, ⟨_, rfl⟩, rfl, rfl, X, BB⟩
        case measure => simp [intOf]; omega
      · -- 0 0
        have z0x := X
        go_wp2_with fail
        refine (worksC _).mono ?_
        rintro e wv ⟨rfl, hv⟩
        have BBv := Lib.hid (BB.out.trans (hv.mono BB.out.size))
        clear hv
        go_wp2
        go_ret
        exact ⟨rfl, BBv.out⟩
  · -- case 0 1
    have x0 := (X0.out.cell 0)
    go_wp2_with fail
    refine (makeNo _ A hAn hA).mono ?_
    rintro e w1 ⟨rfl, hw1⟩
    subst hw1
    have X1 := X0
    have B1 := B0
    have l1 := l0
    clear x0
    have x1 := (X1.out.cell 0)
    go_wp2_with fail
    refine (rMakeNo _ A hAn hA).mono ?_
    rintro e w2 ⟨rfl, hw2⟩
    subst hw2
    have X2 := X1
    have B2 := B1
    have l2 := l1
    clear x1
    have x2 := (X2.out.cell 1)
    go_wp2_with fail
    refine (makeYes _ B hBy).mono ?_
    rintro e w3 ⟨h, rfl, zh, fh, hb3⟩
    have X3 := Lib.hid (X2.out.keep hb3 l2)
    have B3 := Lib.hid (B2.out.trans (hb3.mono B2.out.size))
    have l3 := Nat.lt_of_lt_of_le l2 hb3.size
    have sh : w0.heap.size ≤ h := zh
    have th := fh.lt
    have u3 := hb3.size
    clear hb3 x2
    have x3 := (X3.out.cell 1)
    go_wp2_with fail
    refine (rMakeYes _ B hBy).mono ?_
    rintro e w4 ⟨q, rfl, zq, fq, hb4⟩
    have X4 := Lib.hid (X3.out.keep hb4 l3)
    have B4 := Lib.hid (B3.out.trans (hb4.mono B3.out.size))
    have l4 := Nat.lt_of_lt_of_le l3 hb4.size
    have fh := fh.keep hb4 fh.lt
    have sq : w3.heap.size ≤ q := zq
    have tq := fq.lt
    have u4 := hb4.size
    clear hb4 x3
    have hhq : h ≠ q := by omega
    have H2 : Hid (Both _ h q B B.length) := ⟨fh, fq, hhq⟩
    have hbh : w.heap.size < h := by omega
    have hbq : w.heap.size < q := by omega
    try clear fh zh sh th fq zq sq tq u3 u4
    have l4' := l4
    go_wp2
    go_loopw [3, 7, 11, 12] (fun v3 v7 v11 v12 wr => ∃ (k h : Nat) (s2 : List UInt8) (p2 : Nat), k ≤ n1 + n2 ∧ v12 = .int .i64 k ∧ (∃ bb, v11 = .bool bb) ∧ v3 = .pointer none ∧ v7 = gapV h ∧ Hid (Both wr h q s2 p2) ∧ w.heap.size < h ∧ Hid (Row wr w.heap.size 51 [.string (bstr A), .string (bstr B), .slice a1 n1 c1, .slice a2 n2 c2]) ∧ Hid (Below w.heap.size w wr)) (fun _ _ _ v12 _ => n1 + n2 - (intOf v12).toNat)
    case atStart => exact ⟨0, h, B, B.length, Nat.zero_le _, rfl, ⟨true, rfl⟩, rfl, rfl, H2, hbh, X4, B4⟩
    case round =>
      try clear H2
      try clear hbg
      try clear hbh
      try clear dgh
      try clear dgq
      try clear drh
      try clear hgr
      try clear hhq
      obtain ⟨k, h, s2, p2, hk, rfl, ⟨bb, rfl⟩, rfl, rfl, H2, hbh, X, BB⟩ := hrel
      have lx := X.out.lt
      have y2 := X.out.cell 2
      have y3 := X.out.cell 3
      have y2 : wr.cell? ⟨w.heap.size, 2, none⟩ = some (.slice a1 n1 c1) := y2
      have y3 : wr.cell? ⟨w.heap.size, 3, none⟩ = some (.slice a2 n2 c2) := y3
      by_cases hk1 : k < n1
      all_goals by_cases hk2 : k < n2
      · -- 1 1
        obtain ⟨sb2, so2, x2, rfl, hsb2, hx2, e02, e12, e22, e32⟩ := (HS2.out.keep BB.out (Nat.le_refl _)).at hk2
        have hfx2 := HF2.out x2 (List.mem_of_getElem? hx2)
        have HFX2 := Lib.hid hfx2
        clear hx2 hfx2
        go_wp2_with fail
        refine (stepC _ h q s2 p2 H2.out x2 HFX2.out).mono ?_
        rintro e wc ⟨h', hh', rfl, hbc, hkc⟩
        have H2c := Lib.hid hbc
        have hloh : w.heap.size < h' := by rcases hh' with h | h <;> omega
        have Bc : Hid (Below w.heap.size w wc) := BB.out.trans (hkc.down (by omega) (by omega) BB.out.size)
        have Xc : Hid (Row wc w.heap.size _ _) := Row.kept2 X.out hkc (by omega) (by omega)
        have lc := Xc.out.lt
        clear hbc hkc e02 e12 e22 e32
        go_wp2_with fail
        refine (tellsC _ h' q _ _ H2c.out.gap H2c.out.ref).mono ?_
        rintro e wd ⟨rfl, htd⟩
        have H2d := Lib.hid (H2c.out.keep htd H2c.out.lt1 H2c.out.lt2)
        have Bd := Lib.hid (Bc.out.trans (htd.mono Bc.out.size))
        have Xd := Lib.hid (Xc.out.keep htd lc)
        clear htd
        go_wp2
        go_roundw
        case rel => exact ⟨k + 1, h', _, _, by omega, by go_num, ⟨_, rfl⟩, rfl, rfl, H2d, hloh, Xd, Bd⟩
        case measure => simp [intOf]; omega
      · -- 1 0
        go_wp2
        go_roundw
        case rel => exact ⟨k + 1, h, _, _, by omega, by go_num, ⟨_, rfl⟩, rfl, rfl, H2, hbh, X, BB⟩
        case measure => simp [intOf]; omega
      · -- 0 1
        obtain ⟨sb2, so2, x2, rfl, hsb2, hx2, e02, e12, e22, e32⟩ := (HS2.out.keep BB.out (Nat.le_refl _)).at hk2
        have hfx2 := HF2.out x2 (List.mem_of_getElem? hx2)
        have HFX2 := Lib.hid hfx2
        clear hx2 hfx2
        go_wp2_with fail
        refine (stepC _ h q s2 p2 H2.out x2 HFX2.out).mono ?_
        rintro e wc ⟨h', hh', rfl, hbc, hkc⟩
        have H2c := Lib.hid hbc
        have hloh : w.heap.size < h' := by rcases hh' with h | h <;> omega
        have Bc : Hid (Below w.heap.size w wc) := BB.out.trans (hkc.down (by omega) (by omega) BB.out.size)
        have Xc : Hid (Row wc w.heap.size _ _) := Row.kept2 X.out hkc (by omega) (by omega)
        have lc := Xc.out.lt
        clear hbc hkc e02 e12 e22 e32
        go_wp2_with fail
        refine (tellsC _ h' q _ _ H2c.out.gap H2c.out.ref).mono ?_
        rintro e wd ⟨rfl, htd⟩
        have H2d := Lib.hid (H2c.out.keep htd H2c.out.lt1 H2c.out.lt2)
        have Bd := Lib.hid (Bc.out.trans (htd.mono Bc.out.size))
        have Xd := Lib.hid (Xc.out.keep htd lc)
        clear htd
        go_wp2
        go_roundw
        case rel => exact ⟨k + 1, h', _, _, by omega, by go_num, ⟨_, rfl⟩, rfl, rfl, H2d, hloh, Xd, Bd⟩
        case measure => simp [intOf]; omega
      · -- 0 0
        have z0x := X
        go_wp2_with fail
        refine (tellsC _ h q s2 p2 H2.out.gap H2.out.ref).mono ?_
        rintro e wt2 ⟨rfl, ht2⟩
        have BBu := Lib.hid (BB.out.trans (ht2.mono BB.out.size))
        clear ht2
        go_wp2_with fail
        refine (worksC _).mono ?_
        rintro e wv ⟨rfl, hv⟩
        have BBv := Lib.hid (BBu.out.trans (hv.mono BBu.out.size))
        clear hv
        go_wp2
        go_ret
        exact ⟨rfl, BBv.out⟩
  · -- case 1 0
    have x0 := (X0.out.cell 0)
    go_wp2_with fail
    refine (makeYes _ A hAy).mono ?_
    rintro e w1 ⟨g, rfl, zg, fg, hb1⟩
    have X1 := Lib.hid (X0.out.keep hb1 l0)
    have B1 := Lib.hid (B0.out.trans (hb1.mono B0.out.size))
    have l1 := Nat.lt_of_lt_of_le l0 hb1.size
    have sg : w0.heap.size ≤ g := zg
    have tg := fg.lt
    have u1 := hb1.size
    clear hb1 x0
    have x1 := (X1.out.cell 0)
    go_wp2_with fail
    refine (rMakeYes _ A hAy).mono ?_
    rintro e w2 ⟨r, rfl, zr, fr, hb2⟩
    have X2 := Lib.hid (X1.out.keep hb2 l1)
    have B2 := Lib.hid (B1.out.trans (hb2.mono B1.out.size))
    have l2 := Nat.lt_of_lt_of_le l1 hb2.size
    have fg := fg.keep hb2 fg.lt
    have sr : w1.heap.size ≤ r := zr
    have tr := fr.lt
    have u2 := hb2.size
    clear hb2 x1
    have x2 := (X2.out.cell 1)
    go_wp2_with fail
    refine (makeNo _ B hBn hB).mono ?_
    rintro e w3 ⟨rfl, hw3⟩
    subst hw3
    have X3 := X2
    have B3 := B2
    have l3 := l2
    clear x2
    have x3 := (X3.out.cell 1)
    go_wp2_with fail
    refine (rMakeNo _ B hBn hB).mono ?_
    rintro e w4 ⟨rfl, hw4⟩
    subst hw4
    have X4 := X3
    have B4 := B3
    have l4 := l3
    clear x3
    have hgr : g ≠ r := by omega
    have H1 : Hid (Both _ g r A A.length) := ⟨fg, fr, hgr⟩
    have hbg : w.heap.size < g := by omega
    have hbr : w.heap.size < r := by omega
    try clear fg zg sg tg fr zr sr tr u1 u2
    have l4' := l4
    go_wp2
    go_loopw [3, 7, 11, 12] (fun v3 v7 v11 v12 wr => ∃ (k g : Nat) (s : List UInt8) (p : Nat), k ≤ n1 + n2 ∧ v12 = .int .i64 k ∧ (∃ bb, v11 = .bool bb) ∧ v3 = gapV g ∧ Hid (Both wr g r s p) ∧ w.heap.size < g ∧ v7 = .pointer none ∧ Hid (Row wr w.heap.size 51 [.string (bstr A), .string (bstr B), .slice a1 n1 c1, .slice a2 n2 c2]) ∧ Hid (Below w.heap.size w wr)) (fun _ _ _ v12 _ => n1 + n2 - (intOf v12).toNat)
    case atStart => exact ⟨0, g, A, A.length, Nat.zero_le _, rfl, ⟨true, rfl⟩, rfl, H1, hbg, rfl, X4, B4⟩
    case round =>
      try clear H1
      try clear hbg
      try clear hbh
      try clear dgh
      try clear dgq
      try clear drh
      try clear hgr
      try clear hhq
      obtain ⟨k, g, s, p, hk, rfl, ⟨bb, rfl⟩, rfl, H1, hbg, rfl, X, BB⟩ := hrel
      have lx := X.out.lt
      have y2 := X.out.cell 2
      have y3 := X.out.cell 3
      have y2 : wr.cell? ⟨w.heap.size, 2, none⟩ = some (.slice a1 n1 c1) := y2
      have y3 : wr.cell? ⟨w.heap.size, 3, none⟩ = some (.slice a2 n2 c2) := y3
      by_cases hk1 : k < n1
      all_goals by_cases hk2 : k < n2
      · -- 1 1
        obtain ⟨sb, so, x, rfl, hsb, hx, e0, e1, e2, e3⟩ := (HS1.out.keep BB.out (Nat.le_refl _)).at hk1
        have hfx := HF1.out x (List.mem_of_getElem? hx)
        have HFX := Lib.hid hfx
        clear hx hfx
        go_wp2_with fail
        refine (stepC _ g r s p H1.out x HFX.out).mono ?_
        rintro e wa ⟨g', hg', rfl, hba, hka⟩
        have H1a := Lib.hid hba
        have hlo : w.heap.size < g' := by rcases hg' with h | h <;> omega
        have Ba : Hid (Below w.heap.size w wa) := BB.out.trans (hka.down (by omega) (by omega) BB.out.size)
        have Xa : Hid (Row wa w.heap.size _ _) := Row.kept2 X.out hka (by omega) (by omega)
        have la := Xa.out.lt
        clear hba hka e0 e1 e2 e3
        go_wp2_with fail
        refine (tellsC _ g' r _ _ H1a.out.gap H1a.out.ref).mono ?_
        rintro e wb ⟨rfl, htb⟩
        have H1b := Lib.hid (H1a.out.keep htb H1a.out.lt1 H1a.out.lt2)
        have Bb := Lib.hid (Ba.out.trans (htb.mono Ba.out.size))
        have Xb := Lib.hid (Xa.out.keep htb la)
        have lb := Xb.out.lt
        have y2b : wb.cell? ⟨w.heap.size, 2, none⟩ = some (.slice (some ⟨sb, so, none⟩) n1 c1) := Xb.out.cell 2
        have y3b : wb.cell? ⟨w.heap.size, 3, none⟩ = some (.slice a2 n2 c2) := Xb.out.cell 3
        clear htb y2 y3
        go_wp2
        go_roundw
        case rel => exact ⟨k + 1, g', _, _, by omega, by go_num, ⟨_, rfl⟩, rfl, H1b, hlo, rfl, Xb, Bb⟩
        case measure => simp [intOf]; omega
      · -- 1 0
        obtain ⟨sb, so, x, rfl, hsb, hx, e0, e1, e2, e3⟩ := (HS1.out.keep BB.out (Nat.le_refl _)).at hk1
        have hfx := HF1.out x (List.mem_of_getElem? hx)
        have HFX := Lib.hid hfx
        clear hx hfx
        go_wp2_with fail
        refine (stepC _ g r s p H1.out x HFX.out).mono ?_
        rintro e wa ⟨g', hg', rfl, hba, hka⟩
        have H1a := Lib.hid hba
        have hlo : w.heap.size < g' := by rcases hg' with h | h <;> omega
        have Ba : Hid (Below w.heap.size w wa) := BB.out.trans (hka.down (by omega) (by omega) BB.out.size)
        have Xa : Hid (Row wa w.heap.size _ _) := Row.kept2 X.out hka (by omega) (by omega)
        have la := Xa.out.lt
        clear hba hka e0 e1 e2 e3
        go_wp2_with fail
        refine (tellsC _ g' r _ _ H1a.out.gap H1a.out.ref).mono ?_
        rintro e wb ⟨rfl, htb⟩
        have H1b := Lib.hid (H1a.out.keep htb H1a.out.lt1 H1a.out.lt2)
        have Bb := Lib.hid (Ba.out.trans (htb.mono Ba.out.size))
        have Xb := Lib.hid (Xa.out.keep htb la)
        have lb := Xb.out.lt
        have y2b : wb.cell? ⟨w.heap.size, 2, none⟩ = some (.slice (some ⟨sb, so, none⟩) n1 c1) := Xb.out.cell 2
        have y3b : wb.cell? ⟨w.heap.size, 3, none⟩ = some (.slice a2 n2 c2) := Xb.out.cell 3
        clear htb y2 y3
        go_wp2
        go_roundw
        case rel => exact ⟨k + 1, g', _, _, by omega, by go_num, ⟨_, rfl⟩, rfl, H1b, hlo, rfl, Xb, Bb⟩
        case measure => simp [intOf]; omega
      · -- 0 1
        go_wp2
        go_roundw
        case rel => exact ⟨k + 1, g, _, _, by omega, by go_num, ⟨_, rfl⟩, rfl, H1, hbg, rfl, X, BB⟩
        case measure => simp [intOf]; omega
      · -- 0 0
        have z0x := X
        go_wp2_with fail
        refine (tellsC _ g r s p H1.out.gap H1.out.ref).mono ?_
        rintro e wt1 ⟨rfl, ht1⟩
        have BBt := Lib.hid (BB.out.trans (ht1.mono BB.out.size))
        clear ht1
        go_wp2_with fail
        refine (worksC _).mono ?_
        rintro e wv ⟨rfl, hv⟩
        have BBv := Lib.hid (BBt.out.trans (hv.mono BBt.out.size))
        clear hv
        go_wp2
        go_ret
        exact ⟨rfl, BBv.out⟩
  · -- case 1 1
    have x0 := (X0.out.cell 0)
    go_wp2_with fail
    refine (makeYes _ A hAy).mono ?_
    rintro e w1 ⟨g, rfl, zg, fg, hb1⟩
    have X1 := Lib.hid (X0.out.keep hb1 l0)
    have B1 := Lib.hid (B0.out.trans (hb1.mono B0.out.size))
    have l1 := Nat.lt_of_lt_of_le l0 hb1.size
    have sg : w0.heap.size ≤ g := zg
    have tg := fg.lt
    have u1 := hb1.size
    clear hb1 x0
    have x1 := (X1.out.cell 0)
    go_wp2_with fail
    refine (rMakeYes _ A hAy).mono ?_
    rintro e w2 ⟨r, rfl, zr, fr, hb2⟩
    have X2 := Lib.hid (X1.out.keep hb2 l1)
    have B2 := Lib.hid (B1.out.trans (hb2.mono B1.out.size))
    have l2 := Nat.lt_of_lt_of_le l1 hb2.size
    have fg := fg.keep hb2 fg.lt
    have sr : w1.heap.size ≤ r := zr
    have tr := fr.lt
    have u2 := hb2.size
    clear hb2 x1
    have x2 := (X2.out.cell 1)
    go_wp2_with fail
    refine (makeYes _ B hBy).mono ?_
    rintro e w3 ⟨h, rfl, zh, fh, hb3⟩
    have X3 := Lib.hid (X2.out.keep hb3 l2)
    have B3 := Lib.hid (B2.out.trans (hb3.mono B2.out.size))
    have l3 := Nat.lt_of_lt_of_le l2 hb3.size
    have fg := fg.keep hb3 fg.lt
    have fr := fr.keep hb3 fr.lt
    have sh : w2.heap.size ≤ h := zh
    have th := fh.lt
    have u3 := hb3.size
    clear hb3 x2
    have x3 := (X3.out.cell 1)
    go_wp2_with fail
    refine (rMakeYes _ B hBy).mono ?_
    rintro e w4 ⟨q, rfl, zq, fq, hb4⟩
    have X4 := Lib.hid (X3.out.keep hb4 l3)
    have B4 := Lib.hid (B3.out.trans (hb4.mono B3.out.size))
    have l4 := Nat.lt_of_lt_of_le l3 hb4.size
    have fg := fg.keep hb4 fg.lt
    have fr := fr.keep hb4 fr.lt
    have fh := fh.keep hb4 fh.lt
    have sq : w3.heap.size ≤ q := zq
    have tq := fq.lt
    have u4 := hb4.size
    clear hb4 x3
    have hgr : g ≠ r := by omega
    have H1 : Hid (Both _ g r A A.length) := ⟨fg, fr, hgr⟩
    have hbg : w.heap.size < g := by omega
    have hbr : w.heap.size < r := by omega
    have hhq : h ≠ q := by omega
    have H2 : Hid (Both _ h q B B.length) := ⟨fh, fq, hhq⟩
    have hbh : w.heap.size < h := by omega
    have hbq : w.heap.size < q := by omega
    have hrq : r ≠ q := by omega
    have dgh : g ≠ h := by omega
    have dgq : g ≠ q := by omega
    have drh : r ≠ h := by omega
    try clear fg zg sg tg fr zr sr tr fh zh sh th fq zq sq tq u1 u2 u3 u4
    have l4' := l4
    go_wp2
    go_loopw [3, 7, 11, 12] (fun v3 v7 v11 v12 wr => ∃ (k g h : Nat) (s : List UInt8) (p : Nat) (s2 : List UInt8) (p2 : Nat), k ≤ n1 + n2 ∧ v12 = .int .i64 k ∧ (∃ bb, v11 = .bool bb) ∧ v3 = gapV g ∧ Hid (Both wr g r s p) ∧ w.heap.size < g ∧ v7 = gapV h ∧ Hid (Both wr h q s2 p2) ∧ w.heap.size < h ∧ g ≠ h ∧ g ≠ q ∧ r ≠ h ∧ Hid (Row wr w.heap.size 51 [.string (bstr A), .string (bstr B), .slice a1 n1 c1, .slice a2 n2 c2]) ∧ Hid (Below w.heap.size w wr)) (fun _ _ _ v12 _ => n1 + n2 - (intOf v12).toNat)
    case atStart => exact ⟨0, g, h, A, A.length, B, B.length, Nat.zero_le _, rfl, ⟨true, rfl⟩, rfl, H1, hbg, rfl, H2, hbh, dgh, dgq, drh, X4, B4⟩
    case round =>
      try clear H1
      try clear H2
      try clear hbg
      try clear hbh
      try clear dgh
      try clear dgq
      try clear drh
      try clear hgr
      try clear hhq
      obtain ⟨k, g, h, s, p, s2, p2, hk, rfl, ⟨bb, rfl⟩, rfl, H1, hbg, rfl, H2, hbh, dgh, dgq, drh, X, BB⟩ := hrel
      have lx := X.out.lt
      have y2 := X.out.cell 2
      have y3 := X.out.cell 3
      have y2 : wr.cell? ⟨w.heap.size, 2, none⟩ = some (.slice a1 n1 c1) := y2
      have y3 : wr.cell? ⟨w.heap.size, 3, none⟩ = some (.slice a2 n2 c2) := y3
      by_cases hk1 : k < n1
      all_goals by_cases hk2 : k < n2
      · -- 1 1
        obtain ⟨sb, so, x, rfl, hsb, hx, e0, e1, e2, e3⟩ := (HS1.out.keep BB.out (Nat.le_refl _)).at hk1
        have hfx := HF1.out x (List.mem_of_getElem? hx)
        have HFX := Lib.hid hfx
        clear hx hfx
        go_wp2_with fail
        refine (stepC _ g r s p H1.out x HFX.out).mono ?_
        rintro e wa ⟨g', hg', rfl, hba, hka⟩
        have H1a := Lib.hid hba
        have hlo : w.heap.size < g' := by rcases hg' with h | h <;> omega
        have Ba : Hid (Below w.heap.size w wa) := BB.out.trans (hka.down (by omega) (by omega) BB.out.size)
        have Xa : Hid (Row wa w.heap.size _ _) := Row.kept2 X.out hka (by omega) (by omega)
        have la := Xa.out.lt
        have hl1 := H2.out.lt1
        have hl2 := H2.out.lt2
        have H2a : Hid (Both wa h q s2 p2) := H2.out.kept2 hka (Ne.symm dgh) (Ne.symm drh) (Ne.symm dgq) (Ne.symm hrq)
        have dgh' : g' ≠ h := by rcases hg' with h | h <;> omega
        have dgq' : g' ≠ q := by rcases hg' with h | h <;> omega
        clear hba hka e0 e1 e2 e3
        go_wp2_with fail
        refine (tellsC _ g' r _ _ H1a.out.gap H1a.out.ref).mono ?_
        rintro e wb ⟨rfl, htb⟩
        have H1b := Lib.hid (H1a.out.keep htb H1a.out.lt1 H1a.out.lt2)
        have H2b := Lib.hid (H2a.out.keep htb H2a.out.lt1 H2a.out.lt2)
        have Bb := Lib.hid (Ba.out.trans (htb.mono Ba.out.size))
        have Xb := Lib.hid (Xa.out.keep htb la)
        have lb := Xb.out.lt
        have y2b : wb.cell? ⟨w.heap.size, 2, none⟩ = some (.slice (some ⟨sb, so, none⟩) n1 c1) := Xb.out.cell 2
        have y3b : wb.cell? ⟨w.heap.size, 3, none⟩ = some (.slice a2 n2 c2) := Xb.out.cell 3
        clear htb y2 y3
        obtain ⟨sb2, so2, x2, rfl, hsb2, hx2, e02, e12, e22, e32⟩ := (HS2.out.keep Bb.out (Nat.le_refl _)).at hk2
        have hfx2 := HF2.out x2 (List.mem_of_getElem? hx2)
        have HFX2 := Lib.hid hfx2
        clear hx2 hfx2
        go_wp2_with fail
        refine (stepC _ h q s2 p2 H2b.out x2 HFX2.out).mono ?_
        rintro e wc ⟨h', hh', rfl, hbc, hkc⟩
        have H2c := Lib.hid hbc
        have hloh : w.heap.size < h' := by rcases hh' with h | h <;> omega
        have Bc : Hid (Below w.heap.size w wc) := Bb.out.trans (hkc.down (by omega) (by omega) Bb.out.size)
        have Xc : Hid (Row wc w.heap.size _ _) := Row.kept2 Xb.out hkc (by omega) (by omega)
        have lc := Xc.out.lt
        have hl3 := H1b.out.lt1
        have hl4 := H1b.out.lt2
        have H1c : Hid (Both wc g' r _ _) := H1b.out.kept2 hkc dgh' dgq' drh hrq
        have dgh2 : g' ≠ h' := by rcases hh' with h | h <;> omega
        have drh2 : r ≠ h' := by rcases hh' with h | h <;> omega
        clear hbc hkc e02 e12 e22 e32
        go_wp2_with fail
        refine (tellsC _ h' q _ _ H2c.out.gap H2c.out.ref).mono ?_
        rintro e wd ⟨rfl, htd⟩
        have H2d := Lib.hid (H2c.out.keep htd H2c.out.lt1 H2c.out.lt2)
        have H1d := Lib.hid (H1c.out.keep htd H1c.out.lt1 H1c.out.lt2)
        have Bd := Lib.hid (Bc.out.trans (htd.mono Bc.out.size))
        have Xd := Lib.hid (Xc.out.keep htd lc)
        clear htd
        go_wp2
        go_roundw
        case rel => exact ⟨k + 1, g', h', _, _, _, _, by omega, by go_num, ⟨_, rfl⟩, rfl, H1d, hlo, rfl, H2d, hloh, dgh2, dgq', drh2, Xd, Bd⟩
        case measure => simp [intOf]; omega
      · -- 1 0
        obtain ⟨sb, so, x, rfl, hsb, hx, e0, e1, e2, e3⟩ := (HS1.out.keep BB.out (Nat.le_refl _)).at hk1
        have hfx := HF1.out x (List.mem_of_getElem? hx)
        have HFX := Lib.hid hfx
        clear hx hfx
        go_wp2_with fail
        refine (stepC _ g r s p H1.out x HFX.out).mono ?_
        rintro e wa ⟨g', hg', rfl, hba, hka⟩
        have H1a := Lib.hid hba
        have hlo : w.heap.size < g' := by rcases hg' with h | h <;> omega
        have Ba : Hid (Below w.heap.size w wa) := BB.out.trans (hka.down (by omega) (by omega) BB.out.size)
        have Xa : Hid (Row wa w.heap.size _ _) := Row.kept2 X.out hka (by omega) (by omega)
        have la := Xa.out.lt
        have hl1 := H2.out.lt1
        have hl2 := H2.out.lt2
        have H2a : Hid (Both wa h q s2 p2) := H2.out.kept2 hka (Ne.symm dgh) (Ne.symm drh) (Ne.symm dgq) (Ne.symm hrq)
        have dgh' : g' ≠ h := by rcases hg' with h | h <;> omega
        have dgq' : g' ≠ q := by rcases hg' with h | h <;> omega
        clear hba hka e0 e1 e2 e3
        go_wp2_with fail
        refine (tellsC _ g' r _ _ H1a.out.gap H1a.out.ref).mono ?_
        rintro e wb ⟨rfl, htb⟩
        have H1b := Lib.hid (H1a.out.keep htb H1a.out.lt1 H1a.out.lt2)
        have H2b := Lib.hid (H2a.out.keep htb H2a.out.lt1 H2a.out.lt2)
        have Bb := Lib.hid (Ba.out.trans (htb.mono Ba.out.size))
        have Xb := Lib.hid (Xa.out.keep htb la)
        have lb := Xb.out.lt
        have y2b : wb.cell? ⟨w.heap.size, 2, none⟩ = some (.slice (some ⟨sb, so, none⟩) n1 c1) := Xb.out.cell 2
        have y3b : wb.cell? ⟨w.heap.size, 3, none⟩ = some (.slice a2 n2 c2) := Xb.out.cell 3
        clear htb y2 y3
        go_wp2
        go_roundw
        case rel => exact ⟨k + 1, g', h, _, _, _, _, by omega, by go_num, ⟨_, rfl⟩, rfl, H1b, hlo, rfl, H2b, hbh, dgh', dgq', drh, Xb, Bb⟩
        case measure => simp [intOf]; omega
      · -- 0 1
        obtain ⟨sb2, so2, x2, rfl, hsb2, hx2, e02, e12, e22, e32⟩ := (HS2.out.keep BB.out (Nat.le_refl _)).at hk2
        have hfx2 := HF2.out x2 (List.mem_of_getElem? hx2)
        have HFX2 := Lib.hid hfx2
        clear hx2 hfx2
        go_wp2_with fail
        refine (stepC _ h q s2 p2 H2.out x2 HFX2.out).mono ?_
        rintro e wc ⟨h', hh', rfl, hbc, hkc⟩
        have H2c := Lib.hid hbc
        have hloh : w.heap.size < h' := by rcases hh' with h | h <;> omega
        have Bc : Hid (Below w.heap.size w wc) := BB.out.trans (hkc.down (by omega) (by omega) BB.out.size)
        have Xc : Hid (Row wc w.heap.size _ _) := Row.kept2 X.out hkc (by omega) (by omega)
        have lc := Xc.out.lt
        have hl3 := H1.out.lt1
        have hl4 := H1.out.lt2
        have H1c : Hid (Both wc g r _ _) := H1.out.kept2 hkc dgh dgq drh hrq
        have dgh2 : g ≠ h' := by rcases hh' with h | h <;> omega
        have drh2 : r ≠ h' := by rcases hh' with h | h <;> omega
        clear hbc hkc e02 e12 e22 e32
        go_wp2_with fail
        refine (tellsC _ h' q _ _ H2c.out.gap H2c.out.ref).mono ?_
        rintro e wd ⟨rfl, htd⟩
        have H2d := Lib.hid (H2c.out.keep htd H2c.out.lt1 H2c.out.lt2)
        have H1d := Lib.hid (H1c.out.keep htd H1c.out.lt1 H1c.out.lt2)
        have Bd := Lib.hid (Bc.out.trans (htd.mono Bc.out.size))
        have Xd := Lib.hid (Xc.out.keep htd lc)
        clear htd
        go_wp2
        go_roundw
        case rel => exact ⟨k + 1, g, h', _, _, _, _, by omega, by go_num, ⟨_, rfl⟩, rfl, H1d, hbg, rfl, H2d, hloh, dgh2, dgq, drh2, Xd, Bd⟩
        case measure => simp [intOf]; omega
      · -- 0 0
        have z0x := X
        go_wp2_with fail
        refine (tellsC _ g r s p H1.out.gap H1.out.ref).mono ?_
        rintro e wt1 ⟨rfl, ht1⟩
        have H2t := Lib.hid (H2.out.keep ht1 H2.out.lt1 H2.out.lt2)
        have BBt := Lib.hid (BB.out.trans (ht1.mono BB.out.size))
        clear ht1
        go_wp2_with fail
        refine (tellsC _ h q s2 p2 H2t.out.gap H2t.out.ref).mono ?_
        rintro e wt2 ⟨rfl, ht2⟩
        have BBu := Lib.hid (BBt.out.trans (ht2.mono BBt.out.size))
        clear ht2
        go_wp2_with fail
        refine (worksC _).mono ?_
        rintro e wv ⟨rfl, hv⟩
        have BBv := Lib.hid (BBu.out.trans (hv.mono BBu.out.size))
        clear hv
        go_wp2
        go_ret
        exact ⟨rfl, BBv.out⟩
end Go.Proofs.Ytpafdemnnofihaa
