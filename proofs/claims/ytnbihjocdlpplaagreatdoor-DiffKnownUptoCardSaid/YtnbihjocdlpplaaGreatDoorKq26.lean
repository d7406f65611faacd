/- Texts joined, one behind the other (DParC). -/
import Derived.Test.YtnbihjocdlpplaaGreatDoorKq25
import Derived.Deep.RegionHeld3
/- Parse by the program. -/
namespace Go.Proofs.YtnbihjocdlpplaaGreatDoor
set_option linter.unusedVariables false
set_option linter.unusedSimpArgs false
open Go.RowKit
open Go.Lib hiding intOf
def ParP (w : World) (s : List UInt8) (e : Ending) (w' : World) : Prop :=
  (∃ (p : Nat) (g : Nat), parseOf s = .inl p ∧ e = .returned (.tuple #[.slice none 0 0, .iface 57 (.pointer (some ⟨g, 0, none⟩))]) ∧ Row w' g 61 [.int .i64 310, .int .i64 (p : Int)] ∧ Below w.heap.size w w') ∨
  (∃ (H : List Hk) (v : Value) (B : Nat), parseOf s = .inr H ∧ e = .returned (.tuple #[v, .nilIface]) ∧ PatchAt B w' v H ∧ w.heap.size ≤ B ∧ B ≤ w'.heap.size ∧ Below w.heap.size w w')
theorem parse_inl {s : List UInt8} {p : Nat} (h : parGo (splitD s) ⟨[], false, 0⟩ = .inl p) : parseOf s = .inl p := by
  unfold parseOf
  rw [h]
theorem snoc_cases (H : List Hk) : H = [] ∨ ∃ H' k L, H = H' ++ [(k, L)] := by
  rcases List.eq_nil_or_concat H with rfl | ⟨H', x, rfl⟩
  · exact .inl rfl
  · exact .inr ⟨H', x.1, x.2, List.concat_eq_append⟩
theorem snocC_cases {hs : List HCell} {H' : List Hk} {x : Hk} (h : hs.length = (H' ++ [x]).length) : ∃ D c, hs = D ++ [c] := by
  rcases List.eq_nil_or_concat hs with rfl | ⟨D, c, rfl⟩
  · simp at h
  · exact ⟨D, c, List.concat_eq_append⟩
/-- the last hunk's row, where it lies -/
theorem PW.last {B : Nat} {w : World} {g m cap : Nat} {D : List HCell} {kc : Nat} {ac : Option Addr} {nc cc : Nat} {H : List Hk} {k : Nat} {L : List (List UInt8)} (h : PW B w (.slice (some ⟨g, 0, none⟩) m cap) (D ++ [(kc, ac, nc, cc)]) (H ++ [(k, L)])) :
    w.cell? ⟨g, D.length * 2 + 1, none⟩ = some (.slice ac nc cc) ∧ w.ownsRow B 9 1 (.slice ac nc cc) L.length (L.map S1) := by
  have hlen : D.length = H.length := by have := h.len; simpa using this
  obtain ⟨g', cap', e, _, _, _, h2, _⟩ := h.at (i := D.length) List.getElem?_concat_length
  cases e
  exact ⟨h2, (h.each D.length (kc, ac, nc, cc) (k, L) List.getElem?_concat_length (by rw [hlen]; exact List.getElem?_concat_length)).2⟩
theorem PW.line2 {B : Nat} {w w1 : World} {g cap mm kc : Nat} {ac : Option Addr} {nc cc : Nat} {v' : Value} {D : List HCell} {H : List Hk} {k : Nat} {L : List (List UInt8)} {x : List UInt8} (hmm : D.length = mm) (h : PW B w (.slice (some ⟨g, 0, none⟩) (mm + 1) cap) (D ++ [(kc, ac, nc, cc)]) (H ++ [(k, L)]))
    (hp : AppPost w B 9 1 (.slice ac nc cc) L.length (L.map S1) [S1 x] v' w1) :
    ∃ gl cl, v' = .slice (some ⟨gl, 0, none⟩) (L.length + 1) cl ∧ B ≤ gl ∧ w1.cell? ⟨g, mm * 2 + 1, none⟩ = some (.slice ac nc cc) ∧ w1.frozen? ⟨g, mm * 2 + 1, none⟩ = false ∧ B ≤ g ∧ g < w1.heap.size ∧
      PW B (w1.setCell ⟨g, mm * 2 + 1, none⟩ v') (.slice (some ⟨g, 0, none⟩) (mm + 1) cap) (D ++ [(kc, some ⟨gl, 0, none⟩, L.length + 1, cl)]) (H ++ [(k, L ++ [x])]) ∧ w.grownBy w1 (Value.ownBlock (.slice ac nc cc)) := by
  subst hmm
  obtain ⟨⟨k8, a8, n8, c8⟩, e, h1, h2, ⟨gl, h3, h4⟩, h5, h6, h7, h8, h9, h10⟩ := h.line hp
  dsimp only at h1 h2 h3
  subst h1 h2 h3
  exact ⟨gl, c8, e, h4, h5, h6, h7, h8, h9, h10⟩
theorem PW.last2 {B : Nat} {w : World} {g m cap mm kc : Nat} {ac : Option Addr} {nc cc : Nat} {D : List HCell} {H : List Hk} {k : Nat} {L : List (List UInt8)} (hmm : D.length = mm) (h : PW B w (.slice (some ⟨g, 0, none⟩) m cap) (D ++ [(kc, ac, nc, cc)]) (H ++ [(k, L)])) :
    w.cell? ⟨g, mm * 2 + 1, none⟩ = some (.slice ac nc cc) ∧ w.ownsRow B 9 1 (.slice ac nc cc) L.length (L.map S1) := by
  subst hmm
  exact h.last
theorem tail_ten {x : UInt8} {rt : List UInt8} (hk : kindOf (x :: rt) ≠ 0) (h : endsTen (x :: rt) = true) : endsTen rt = true := by
  unfold endsTen at h ⊢
  rw [decide_eq_true_iff] at h ⊢
  cases rt with
  | nil =>
    simp only [List.getLast?_singleton, Option.some.injEq] at h
    subst h
    exact absurd rfl hk
  | cons y r => rwa [List.getLast?_cons_cons] at h
theorem drewN_below {B : Nat} {a w : World} (h : Below B a w) : ∀ n, Below B a (w.drewN n)
  | 0 => h
  | n + 1 => (drewN_below h n).drew
theorem PL.drewN {B : Nat} {w1 wr : World} {rows : List (List UInt8)} {i p : Nat} {o : Bool} {hs : List HCell} {H : List Hk} {vo : Value} (h : PL B w1 rows i p o hs H vo wr) (n : Nat) : Hid (PL B w1 rows i p o hs H vo (wr.drewN n)) :=
  Lib.hid ⟨h.go, h.pw.keep ((Quiet.refl wr).drewN n |>.below _), drewN_below h.bel n, h.pos, h.cnt, h.lns, h.byt⟩
set_option maxHeartbeats 16000000 in
set_option maxRecDepth 100000 in
theorem parseC (w : World) (s : List UInt8) (hs : s.length ≤ 4194304) (hT : Tabs w) :
    Calls Tryz.prog 20 #[.string (bstr s)] w (ParP w s) := by
  have HS := Lib.hid (splitC w s (by omega) hT)
  have HT := Lib.hid hT
  have HSL := Lib.hid hs
  obtain ⟨sl, hsl⟩ : ∃ sl, sl = s.length := ⟨_, rfl⟩
  have hsz : (bstr s).size = sl := by rw [bstr_size, hsl]
  rw [← hsl] at hs
  have HSE := Lib.hid hsl
  clear hT hsl
  go_enter Tryz.func20, Tryz.ntmps20
  go_wp2_with (go_at_call 36; refine (HS.out).mono ?_; rintro e w1 ⟨a0, n, c0, rfl, hn, _, _, hR, hb1⟩; have HN := Lib.hid hn; have HR := Lib.hid hR; have HB1 := Lib.hid hb1; clear hn hR hb1)
  obtain ⟨rows, hrows⟩ : ∃ rows, rows = splitD s := ⟨_, rfl⟩
  obtain ⟨B, hB⟩ : ∃ B, B = w1.heap.size := ⟨_, rfl⟩
  have HBB := Lib.hid hB
  have HRW := Lib.hid hrows
  rw [← hrows] at HN HR
  have hn : n ≤ 4194305 := by
    rw [HN.out, HRW.out]
    have h1 := (splitA_len s).2
    have h2 : (splitD s).length ≤ (splitA s).length := by
      unfold splitD
      split
      · rw [List.length_dropLast]; omega
      · exact Nat.le_refl _
    have := HSE.out
    omega
  have HFL : Hid (rows.flatten.length = sl) := Lib.hid (by rw [HRW.out, splitD_flat, ← HSE.out])
  clear hB hrows
  go_loopw [4, 5, 6, 18] (fun vo va vl ui wr => ∃ (i p : Nat) (o : Bool) (hs : List HCell) (H : List Hk), va = .int .i64 (p : Int) ∧ ui = .int .i64 (i : Int) ∧ i ≤ n ∧ Hid (PL B w1 rows i p o hs H vo wr) ∧ Hid (LastP o vl hs H)) (fun _ _ _ ui _ => n - (RowKit.intOf ui).toNat)
  case atStart => exact ⟨0, 0, false, [], [], rfl, rfl, Nat.zero_le _, Lib.hid (PL.start _ _ _), Lib.hid rfl⟩
  case round =>
    obtain ⟨i, p, o, hs, H, rfl, rfl, hi, HP, HLA⟩ := hrel
    obtain ⟨vo, rfl⟩ : ∃ v : Value, v = u4 := ⟨_, rfl⟩
    obtain ⟨vl, rfl⟩ : ∃ v : Value, v = u6 := ⟨_, rfl⟩
    have HZ : Hid (B ≤ wr.heap.size) := Lib.hid (by have h1 := HP.out.bel.size; have h2 := HBB.out; omega)
    by_cases hlt : i < n
    · obtain ⟨b, off, r, rfl, hbl, hri, hc⟩ := (HR.out.keep (HBB.out ▸ HP.out.bel) (Nat.le_refl _)).at hlt
      obtain ⟨x, rt, rfl⟩ := rowP_ne (HRW.out ▸ hri)
      have hrl := rowP_le hri
      rw [HFL.out] at hrl
      have hps : p + (rt.length + 1) ≤ sl := by
        have h1 := flatP_next hri
        have h2 := flatP_le rows (i + 1)
        rw [HFL.out] at h2
        rw [← HP.out.pos, List.length_cons] at h1
        omega
      rw [List.length_cons] at hrl
      have HRI := Lib.hid hri
      have hit : (i : Int) < (n : Int) := by omega
      obtain ⟨rl, hrl2⟩ : ∃ rl, rl = rt.length := ⟨_, rfl⟩
      have hsz2 : (bstr (x :: rt)).size = rl + 1 := by rw [bstr_size, List.length_cons, hrl2]
      rw [← hrl2] at hrl hps
      have HRL := Lib.hid hrl2
      have hg0 : (x :: rt).getD 0 0 = x := rfl
      obtain ⟨k, hk⟩ : ∃ k, kindOf (x :: rt) = k := ⟨_, rfl⟩
      have hk3 : k ≤ 3 := by rw [← hk]; exact kind_le _
      have HKD := Lib.hid hk
      obtain ⟨kI, hkI⟩ : ∃ kI : Int, (k : Int) - 1 = kI := ⟨_, rfl⟩
      have HSG := Lib.hid (fun W => sign_idx W x rt k hk)
      rw [hkI] at HSG
      have hkI1 : kI + 1 = (k : Int) := by omega
      have hkI2 : -1 ≤ kI := by omega
      have hkI3 : kI ≤ 2 := by omega
      clear hri hk hrl2 hkI
      by_cases hk0 : k = 0
      · subst hk0
        obtain rfl : kI = -1 := by omega
        have hnp : ¬ ((-1 : Int) + 1 > 0) := by decide
        clear hkI1 hkI2 hkI3
        by_cases hr : x = 92 ∧ rt = [10]
        · obtain ⟨rfl, rfl⟩ := hr
          by_cases ho : o = true
          · subst ho
            obtain ⟨D, c, H', k', L, y, gl, rfl, rfl, hc9, hv9, hy⟩ := HLA.out
            subst hv9
            obtain ⟨x1, x2, hglB, hgl, hpw⟩ := HP.out.pw.cut (y := y.dropLast) hc9
            have hyl : y.length ≤ 67108864 := by
              have h1 := HP.out.byt
              have h2 : y.length ≤ bytesK ((H' ++ [(k', L ++ [y])]).map toI) := by unfold bytesK; simp [toI]; omega
              omega
            have HTR := Lib.hid (fun W => trimC W y hy hyl)
            have HPW := Lib.hid hpw
            have HC9 := Lib.hid hc9
            obtain rfl : rl = 1 := HRL.out
            unfold S1 at x1
            clear hpw hc9 hy hyl
            go_wp2_with (first
              | (go_at_call 56; refine (HSG.out _).mono ?_; rintro e w2 ⟨rfl, rfl⟩)
              | (go_at_call 59; refine (HTR.out _).mono ?_; rintro e w2 ⟨rfl, rfl⟩))
            go_roundw
            case rel => exact ⟨i + 1, p + 2, false, D ++ [c], lastCut (H' ++ [(k', L ++ [y])]), by go_num, by go_num, hlt, Lib.hid (HP.out.off HRI.out (fun z hz => by rw [List.getLast?_concat] at hz; cases hz; simp) (by rw [lastCut_snoc, cutLast_snoc]; exact HPW.out) (HP.out.bel.setCell hglB _)), Lib.hid rfl⟩
            case measure => simp [RowKit.intOf]; omega
          · rw [Bool.not_eq_true] at ho
            subst ho
            obtain rfl : vl = .pointer none := HLA.out
            go_wp2_with (go_at_call 56; refine (HSG.out _).mono ?_; rintro e w2 ⟨rfl, rfl⟩)
            go_ret2
            refine .inl ⟨p, _, parse_inl (HRW.out ▸ HP.out.bad HRI.out HKD.out (fun h => by cases h.2)), rfl, alloc_last _ _, HB1.out.trans ((HP.out.bel.alloc HZ.out _).mono (by rw [HBB.out]; exact HB1.out.size))⟩
        · have HNR := Lib.hid hr
          go_wp2_with (go_at_call 56; refine (HSG.out _).mono ?_; rintro e w2 ⟨rfl, rfl⟩)
          go_ret2
          refine .inl ⟨p, _, parse_inl (HRW.out ▸ HP.out.bad HRI.out HKD.out (fun h => HNR.out (by have h1 := h.1; rw [List.cons.injEq] at h1; exact h1))), rfl, alloc_last _ _, HB1.out.trans ((HP.out.bel.alloc HZ.out _).mono (by rw [HBB.out]; exact HB1.out.size))⟩
      · have hkp : kI + 1 > 0 := by omega
        have hnl : rt.length ≤ 67108864 := by rw [← HRL.out]; omega
        have HCL := Lib.hid (fun W => cloneC W rt (by omega))
        have hdr1 : ((x :: rt).drop 1) = rt := rfl
        have hdr2 : rt.take rl = rt := by rw [HRL.out]; exact List.take_length
        have HOW := Lib.hid HP.out.pw
        have HRD := Lib.hid hdr2
        have hcut : ∀ (w8 : World) (v8 : Value), AppPost wr B 25 2 vo hs.length (hs.flatMap hkCells) (hkCells (k, none, 0, 0)) v8 w8 → (∀ z, H.getLast? = some z → z.1 ≠ k) →
            ∃ (g mm cap : Nat) (D : List HCell) (H0 : List Hk) (L : List (List UInt8)) (kc : Nat) (ac : Option Addr) (nc cc : Nat), v8 = .slice (some ⟨g, 0, none⟩) (mm + 1) cap ∧ mm ≤ 4194305 ∧ Hid (L.length ≤ 1073741824) ∧ Hid (D.length = mm) ∧ Hid (PW B w8 (.slice (some ⟨g, 0, none⟩) (mm + 1) cap) (D ++ [(kc, ac, nc, cc)]) (H0 ++ [(k, L)])) ∧ Hid (lastPut H k rt = H0 ++ [(k, L ++ [rt])]) ∧ Hid (Below B w1 w8) := fun w8 v8 hp8 hl => by
          have hpw := HOW.out.open k hp8
          obtain ⟨g, cap, hv8, _⟩ := hpw.at (i := hs.length) List.getElem?_concat_length
          rw [List.length_append, List.length_singleton] at hv8
          subst hv8
          have h1 := HP.out.cnt
          have h2 := HOW.out.len
          exact ⟨g, hs.length, cap, hs, H, [], k, none, 0, 0, rfl, by omega, Lib.hid (Nat.zero_le _), Lib.hid rfl, Lib.hid hpw, Lib.hid (lastPut_new H k rt hl), Lib.hid (HP.out.bel.trans ((hp8.below HOW.out.own HZ.out).mono (by have := HP.out.bel.size; have := HBB.out; omega)))⟩
        have HCUT := Lib.hid hcut
        clear hcut hdr1 hdr2
        refine Or.elim (snoc_cases H) (fun hH => ?first1) (fun ⟨H', k', L', hH⟩ => ?other1)
        case first1 =>
          have hn0 : hs.length = 0 := by rw [HOW.out.len, hH]; rfl
          have HLK : Hid (∀ z, H.getLast? = some z → z.1 ≠ k) := Lib.hid (fun z hz => by rw [hH] at hz; cases hz)
          obtain ⟨a9, c9, hv9⟩ := slice_own HOW.out.own
          rw [hn0] at hv9
          have HV9 := Lib.hid hv9
          have HHL : Hid (hs.length ≤ 1073741824) := Lib.hid (by omega)
          clear hH hn0
          subst hv9
          go_upto_region 13 with (first
            | (go_at_call 56; refine (HSG.out _).mono ?_; rintro e w2 ⟨rfl, hw2⟩; obtain rfl := hw2.symm)
            | (at_builtin; refine appSep rfl _ _ rfl Tryz.underlying26 (.agg #[.int .i64 0, .slice none 0 0]) 2 32 infoHunk rfl (by decide) (by decide) B wr _ hs.length (hs.flatMap hkCells) (hkCells (k, none, 0, 0)) rfl (hkCells_one _) rfl HOW.out.own rfl rfl HHL.out HZ.out ?_; intro v8 wq hp8; obtain ⟨g, mm, cap, D, H0, L, kc, ac, nc, cc, rfl, hmm, HLL, HMM, HP2, HPUT, HB2⟩ := HCUT.out wq v8 hp8 HLK.out; clear hp8))
          have HWQ : Hid (B ≤ wq.heap.size) := Lib.hid (by have h1 := HB2.out.size; have h2 := HBB.out; omega)
          have HB2 : Hid (Below B w1 wq.drew) := Lib.hid HB2.out.drew
          have HD4 : Hid (wq.drew.cell? ⟨g, mm * 2 + 1, none⟩ = some (.slice ac nc cc)) := Lib.hid (HP2.out.last2 HMM.out).1
          have HW3 : Hid (∀ w3, Below wq.drew.heap.size wq.drew w3 → PW B w3 (.slice (some ⟨g, 0, none⟩) (mm + 1) cap) (D ++ [(kc, ac, nc, cc)]) (H0 ++ [(k, L)]) ∧ (B ≤ wq.drew.heap.size ∧ B ≤ w3.heap.size ∧ ∀ r, Value.ownBlock (.slice ac nc cc) = some r → B ≤ r)) := Lib.hid (fun w3 h3 => ⟨HP2.out.keep (((Below.refl wq.heap.size wq).drew).trans h3), HWQ.out, Nat.le_trans HWQ.out h3.size, fun r hr => ((HP2.out.last2 HMM.out).2.lt r hr).1⟩)
          clear HWQ
          go_upto_region 14 with (fail)
          have hrd := HRD.out
          have h1rl : (1 : Int) ≤ (rl : Int) + 1 := by omega
          refine wp_region_held_drew (S := (fun _ : World => True)) (by kernel_rfl) trivial (fun hS0 => ?_)
          refine wpAnyH_take (i := 0) (oi := { dst := some 57, op := Op.move (Operand.tmp 11), type := 95, pos := "diff.go:249", after := #[], guard := none }) (v := ?v0q1) rfl (by kernel_rfl) (by kernel_rfl) (by kernel_rfl) (fun _ _ _ h => h) (Or.inl ⟨by rfl, ?y0q1⟩) trivial ?r0q1
          case y0q1 => (intro w2 hSw; go_simp; try with_reducible rfl)
          try simp only [Act.put, List.setIfInBounds_toArray, List.set_cons_zero, List.set_cons_succ]
          refine wpAnyH_take (i := 1) (oi := { dst := some 58, op := Op.move (Operand.tmp 11), type := 95, pos := "diff.go:249", after := #[], guard := none }) (v := ?v1q2) rfl (by kernel_rfl) (by kernel_rfl) (by kernel_rfl) (fun _ _ _ h => h) (Or.inl ⟨by rfl, ?y1q2⟩) trivial ?r1q2
          case y1q2 => (intro w2 hSw; go_simp; try with_reducible rfl)
          try simp only [Act.put, List.setIfInBounds_toArray, List.set_cons_zero, List.set_cons_succ]
          refine wpAnyH_take (i := 2) (oi := { dst := some 59, op := Op.nilCheck (Operand.tmp 58), type := 0, pos := "diff.go:249", after := #[{ on := 1, ground := Ground.data }], guard := none }) (v := ?v2q3) rfl (by kernel_rfl) (by kernel_rfl) (by kernel_rfl) (fun _ _ _ h => h) (Or.inl ⟨by rfl, ?y2q3⟩) trivial ?r2q3
          case y2q3 => (intro w2 hSw; go_simp; try with_reducible rfl)
          try simp only [Act.put, List.setIfInBounds_toArray, List.set_cons_zero, List.set_cons_succ]
          refine wpAnyH_take (i := 3) (oi := { dst := some 60, op := Op.fieldAddr 25 (Operand.tmp 59) 1, type := 0, pos := "diff.go:249", after := #[{ on := 2, ground := Ground.data }], guard := none }) (v := ?v3q4) rfl (by kernel_rfl) (by kernel_rfl) (by kernel_rfl) (fun _ _ _ h => h) (Or.inl ⟨by rfl, ?y3q4⟩) trivial ?r3q4
          case y3q4 => (intro w2 hSw; go_simp; try with_reducible rfl)
          try simp only [Act.put, List.setIfInBounds_toArray, List.set_cons_zero, List.set_cons_succ]
          refine wpAnyH_take (i := 5) (oi := { dst := some 62, op := Op.move (Operand.tmp 8), type := 9, pos := "diff.go:249", after := #[], guard := none }) (v := ?v5q5) rfl (by kernel_rfl) (by kernel_rfl) (by kernel_rfl) (fun _ _ _ h => h) (Or.inl ⟨by rfl, ?y5q5⟩) trivial ?r5q5
          case y5q5 => (intro w2 hSw; go_simp; try with_reducible rfl)
          try simp only [Act.put, List.setIfInBounds_toArray, List.set_cons_zero, List.set_cons_succ]
          refine wpAnyH_take (i := 6) (oi := { dst := some 63, op := Op.slice 9 (Operand.tmp 62) (some (Operand.const (Value.int IntKind.i64 1))) none none, type := 9, pos := "diff.go:249", after := #[{ on := 5, ground := Ground.data }], guard := none }) (v := ?v6q6) rfl (by kernel_rfl) (by kernel_rfl) (by kernel_rfl) (fun _ _ _ h => h) (Or.inl ⟨by rfl, ?y6q6⟩) trivial ?r6q6
          case y6q6 => (intro w2 hSw; go_simp; try with_reducible rfl)
          try simp only [Act.put, List.setIfInBounds_toArray, List.set_cons_zero, List.set_cons_succ]
          refine wpAnyH_ready (rs := [4, 7]) (by kernel_rfl) (by simp) (AllReadyH.cons rfl (fun K' hK => ?p4c7) (AllReadyH.cons rfl (fun K' hK => ?p7c7) AllReadyH.nil))
          case p4c7 =>
            have hd4 := HD4.out
            go_simp
            refine hK.out _ _ trivial (fun hSn => ?_)
            try simp only [Act.put, List.setIfInBounds_toArray, List.set_cons_zero, List.set_cons_succ]
            clear hK K'
            clear hd4
            refine wpAnyH_ready (rs := [7]) (by kernel_rfl) (by simp) (AllReadyH.cons (o := { dst := some 64, op := Op.call { callee := Callee.value (Operand.func 57), args := #[Operand.tmp 63], argTypes := #[9] }, type := 9, pos := "diff.go:249", after := #[{ on := 6, ground := Ground.data }], guard := none }) rfl (fun K' hK => ?_) AllReadyH.nil)
            go_simp
            refine (HCL.out _).mono ?_
            rintro e w3 ⟨rfl, hb3⟩
            obtain ⟨hw3, hl3⟩ := HW3.out w3 hb3
            have HP3 := Lib.hid hw3
            have HB3 := Lib.hid hb3
            have HL3 := Lib.hid hl3
            clear hb3 hw3 hl3
            show K' _ _
            refine hK.out _ _ trivial (fun hSn => ?_)
            try simp only [Act.put, List.setIfInBounds_toArray, List.set_cons_zero, List.set_cons_succ]
            clear hK K'
            refine wpAnyH_ready (rs := [8]) (by kernel_rfl) (by simp) (AllReadyH.cons (o := { dst := some 65, op := Op.buildSlice 22 1 #[(0, Operand.tmp 64)], type := 22, pos := "diff.go:249", after := #[{ on := 7, ground := Ground.data }], guard := none }) rfl (fun K' hK => ?_) AllReadyH.nil)
            go_simp
            refine hK.out _ _ trivial (fun hSn => ?_)
            try simp only [Act.put, List.setIfInBounds_toArray, List.set_cons_zero, List.set_cons_succ]
            clear hK K'
            refine wpAnyH_ready (rs := [9]) (by kernel_rfl) (by simp) (AllReadyH.cons (o := { dst := some 66, op := Op.call { callee := Callee.builtin Builtin.append, args := #[Operand.tmp 61, Operand.tmp 65], argTypes := #[22, 22] }, type := 22, pos := "diff.go:249", after := #[{ on := 4, ground := Ground.data }, { on := 8, ground := Ground.data }, { on := 7, ground := Ground.chain }], guard := none }) rfl (fun K' hK => ?_) AllReadyH.nil)
            refine stepSep (by rfl) _ _ (by rfl) Tryz.underlying22 (.string ByteArray.empty) 1 16 infoStr (by rfl) (by decide) (by decide) B w3 (.slice ac nc cc) L.length (L.map S1) [S1 rt] (by rfl) (by intro u hu; simp only [List.mem_singleton] at hu; subst hu; rfl) (by rfl) (HP3.out.last2 HMM.out).2 (by rfl) (by rfl) HLL.out HL3.out.2.1 ?_
            intro v8 w8 hp8
            obtain ⟨gl, cc8, rfl, hglB, x1, x2, hgB, hgl8, hpw8, hgr8⟩ := HP3.out.line2 HMM.out hp8
            have HP8 := Lib.hid hpw8
            have HB8 : Hid (Below B w1 ((w8.setCell ⟨g, mm * 2 + 1, none⟩ (.slice (some ⟨gl, 0, none⟩) (L.length + 1) cc8)))) := Lib.hid ((HB2.out.trans ((HB3.out.mono HL3.out.1).grown hgr8 HL3.out.2.1 HL3.out.2.2)).setCell hgB _)
            clear hpw8 hgr8 hp8 HB3
            refine hK.out _ _ trivial (fun hSn => ?_)
            try simp only [Act.put, List.setIfInBounds_toArray, List.set_cons_zero, List.set_cons_succ]
            clear hK K'
            refine wpAnyH_take (i := 10) (oi := { dst := some 67, op := Op.nilCheck (Operand.tmp 57), type := 0, pos := "diff.go:249", after := #[{ on := 0, ground := Ground.data }, { on := 0, ground := Ground.phase }, { on := 1, ground := Ground.phase }, { on := 2, ground := Ground.phase }, { on := 3, ground := Ground.phase }, { on := 4, ground := Ground.phase }, { on := 5, ground := Ground.phase }, { on := 6, ground := Ground.phase }, { on := 7, ground := Ground.phase }, { on := 8, ground := Ground.phase }, { on := 9, ground := Ground.phase }], guard := none }) (v := ?v10q8) rfl (by kernel_rfl) (by kernel_rfl) (by kernel_rfl) (fun _ _ _ h => h) (Or.inl ⟨by rfl, ?y10q8⟩) trivial ?r10q8
            case y10q8 => (intro w2 hSw; go_simp; try with_reducible rfl)
            try simp only [Act.put, List.setIfInBounds_toArray, List.set_cons_zero, List.set_cons_succ]
            refine wpAnyH_take (i := 11) (oi := { dst := some 68, op := Op.fieldAddr 25 (Operand.tmp 67) 1, type := 0, pos := "diff.go:249", after := #[{ on := 10, ground := Ground.data }, { on := 0, ground := Ground.phase }, { on := 1, ground := Ground.phase }, { on := 2, ground := Ground.phase }, { on := 3, ground := Ground.phase }, { on := 4, ground := Ground.phase }, { on := 5, ground := Ground.phase }, { on := 6, ground := Ground.phase }, { on := 7, ground := Ground.phase }, { on := 8, ground := Ground.phase }, { on := 9, ground := Ground.phase }], guard := none }) (v := ?v11q9) rfl (by kernel_rfl) (by kernel_rfl) (by kernel_rfl) (fun _ _ _ h => h) (Or.inl ⟨by rfl, ?y11q9⟩) trivial ?r11q9
            case y11q9 => (intro w2 hSw; go_simp; try with_reducible rfl)
            try simp only [Act.put, List.setIfInBounds_toArray, List.set_cons_zero, List.set_cons_succ]
            refine wpAnyH_ready (rs := [12]) (by kernel_rfl) (by simp) (AllReadyH.cons (o := { dst := none, op := Op.store 22 (Operand.tmp 68) (Operand.tmp 66), type := 0, pos := "diff.go:249", after := #[{ on := 11, ground := Ground.data }, { on := 9, ground := Ground.data }, { on := 9, ground := Ground.chain }, { on := 0, ground := Ground.phase }, { on := 1, ground := Ground.phase }, { on := 2, ground := Ground.phase }, { on := 3, ground := Ground.phase }, { on := 4, ground := Ground.phase }, { on := 5, ground := Ground.phase }, { on := 6, ground := Ground.phase }, { on := 7, ground := Ground.phase }, { on := 8, ground := Ground.phase }, { on := 9, ground := Ground.phase }], guard := none }) rfl (fun K' hK => ?_) AllReadyH.nil)
            go_simp
            refine hK.out _ _ trivial (fun hSn => ?_)
            try simp only [Act.put, List.setIfInBounds_toArray, List.set_cons_zero, List.set_cons_succ]
            clear hK K'
            refine wpAnyH_done (by kernel_rfl) ?_ _
            have y1 : (w8.setCell ⟨g, mm * 2 + 1, none⟩ (.slice (some ⟨gl, 0, none⟩) (L.length + 1) cc8)).cell? ⟨g, mm * 2 + 1, none⟩ = some (.slice (some ⟨gl, 0, none⟩) (L.length + 1) cc8) := World.cell?_setCell_same _ _ _ x1
            have HNX : Hid (PL B w1 rows (i + 1) (p + (rl + 1)) (endsTen (x :: rt)) (D ++ [(kc, some ⟨gl, 0, none⟩, L.length + 1, cc8)]) (H0 ++ [(k, L ++ [rt])]) (.slice (some ⟨g, 0, none⟩) (mm + 1) cap) (w8.setCell ⟨g, mm * 2 + 1, none⟩ (.slice (some ⟨gl, 0, none⟩) (L.length + 1) cc8))) := Lib.hid (by
              have h1 := HP.out.put (k := k) HRI.out HKD.out hk0 (HPUT.out ▸ HP8.out) HB8.out
              rw [HPUT.out, ← HRL.out] at h1
              exact h1)
            obtain ⟨w9, hw9⟩ : ∃ W, W = w8.setCell ⟨g, mm * 2 + 1, none⟩ (.slice (some ⟨gl, 0, none⟩) (L.length + 1) cc8) := ⟨_, rfl⟩
            rw [← hw9] at y1 HNX ⊢
            clear HP8 HB8 HP3 HL3 hw9 x1 x2
            by_cases he : endsTen (x :: rt) = true
            · have HSF := Lib.hid (fun W => suffixC W (x :: rt) true he (by rw [List.length_cons, ← HRL.out]; omega))
              have HTE := Lib.hid (tail_ten (by rw [HKD.out]; exact hk0) he)
              rw [he] at HNX
              clear he
              go_wp2_with (go_at_call 58; refine (HSF.out _).mono ?_; rintro e wz ⟨rfl, hz⟩; obtain rfl := hz)
              have hll := HLL.out
              have hllI : (L.length : Int) ≤ 1073741824 := by omega
              go_quiet (fail)
              go_wp2
              go_roundw
              case rel => exact ⟨i + 1, p + (rl + 1), true, _, _, by go_num, by go_num, hlt, HNX.out.drewN _, Lib.hid ⟨D, _, H0, k, L, rt, gl, rfl, rfl, rfl, rfl, HTE.out⟩⟩
              case measure => simp [RowKit.intOf]; omega
            · rw [Bool.not_eq_true] at he
              have HSF := Lib.hid (fun W => suffixC W (x :: rt) false he (by rw [List.length_cons, ← HRL.out]; omega))
              rw [he] at HNX
              clear he
              go_wp2_with (go_at_call 58; refine (HSF.out _).mono ?_; rintro e wz ⟨rfl, hz⟩; obtain rfl := hz)
              go_roundw
              case rel => exact ⟨i + 1, p + (rl + 1), false, _, _, by go_num, by go_num, hlt, HNX, Lib.hid rfl⟩
              case measure => simp [RowKit.intOf]; omega
          case p7c7 =>
            go_simp
            refine (HCL.out _).mono ?_
            rintro e w3 ⟨rfl, hb3⟩
            obtain ⟨hw3, hl3⟩ := HW3.out w3 hb3
            have HP3 := Lib.hid hw3
            have HB3 := Lib.hid hb3
            have HL3 := Lib.hid hl3
            clear hb3 hw3 hl3
            show K' _ _
            refine hK.out _ _ trivial (fun hSn => ?_)
            try simp only [Act.put, List.setIfInBounds_toArray, List.set_cons_zero, List.set_cons_succ]
            clear hK K'
            refine wpAnyH_ready (rs := [4, 8]) (by kernel_rfl) (by simp) (AllReadyH.cons rfl (fun K' hK => ?q4c7) (AllReadyH.cons rfl (fun K' hK => ?q8c7) AllReadyH.nil))
            case q4c7 =>
              have hd4 := (HP3.out.last2 HMM.out).1
              go_simp
              refine hK.out _ _ trivial (fun hSn => ?_)
              try simp only [Act.put, List.setIfInBounds_toArray, List.set_cons_zero, List.set_cons_succ]
              clear hK K'
              clear hd4
              refine wpAnyH_ready (rs := [8]) (by kernel_rfl) (by simp) (AllReadyH.cons (o := { dst := some 65, op := Op.buildSlice 22 1 #[(0, Operand.tmp 64)], type := 22, pos := "diff.go:249", after := #[{ on := 7, ground := Ground.data }], guard := none }) rfl (fun K' hK => ?_) AllReadyH.nil)
              go_simp
              refine hK.out _ _ trivial (fun hSn => ?_)
              try simp only [Act.put, List.setIfInBounds_toArray, List.set_cons_zero, List.set_cons_succ]
              clear hK K'
              refine wpAnyH_ready (rs := [9]) (by kernel_rfl) (by simp) (AllReadyH.cons (o := { dst := some 66, op := Op.call { callee := Callee.builtin Builtin.append, args := #[Operand.tmp 61, Operand.tmp 65], argTypes := #[22, 22] }, type := 22, pos := "diff.go:249", after := #[{ on := 4, ground := Ground.data }, { on := 8, ground := Ground.data }, { on := 7, ground := Ground.chain }], guard := none }) rfl (fun K' hK => ?_) AllReadyH.nil)
              refine stepSep (by rfl) _ _ (by rfl) Tryz.underlying22 (.string ByteArray.empty) 1 16 infoStr (by rfl) (by decide) (by decide) B w3 (.slice ac nc cc) L.length (L.map S1) [S1 rt] (by rfl) (by intro u hu; simp only [List.mem_singleton] at hu; subst hu; rfl) (by rfl) (HP3.out.last2 HMM.out).2 (by rfl) (by rfl) HLL.out HL3.out.2.1 ?_
              intro v8 w8 hp8
              obtain ⟨gl, cc8, rfl, hglB, x1, x2, hgB, hgl8, hpw8, hgr8⟩ := HP3.out.line2 HMM.out hp8
              have HP8 := Lib.hid hpw8
              have HB8 : Hid (Below B w1 ((w8.setCell ⟨g, mm * 2 + 1, none⟩ (.slice (some ⟨gl, 0, none⟩) (L.length + 1) cc8)))) := Lib.hid ((HB2.out.trans ((HB3.out.mono HL3.out.1).grown hgr8 HL3.out.2.1 HL3.out.2.2)).setCell hgB _)
              clear hpw8 hgr8 hp8 HB3
              refine hK.out _ _ trivial (fun hSn => ?_)
              try simp only [Act.put, List.setIfInBounds_toArray, List.set_cons_zero, List.set_cons_succ]
              clear hK K'
              refine wpAnyH_take (i := 10) (oi := { dst := some 67, op := Op.nilCheck (Operand.tmp 57), type := 0, pos := "diff.go:249", after := #[{ on := 0, ground := Ground.data }, { on := 0, ground := Ground.phase }, { on := 1, ground := Ground.phase }, { on := 2, ground := Ground.phase }, { on := 3, ground := Ground.phase }, { on := 4, ground := Ground.phase }, { on := 5, ground := Ground.phase }, { on := 6, ground := Ground.phase }, { on := 7, ground := Ground.phase }, { on := 8, ground := Ground.phase }, { on := 9, ground := Ground.phase }], guard := none }) (v := ?v10q10) rfl (by kernel_rfl) (by kernel_rfl) (by kernel_rfl) (fun _ _ _ h => h) (Or.inl ⟨by rfl, ?y10q10⟩) trivial ?r10q10
              case y10q10 => (intro w2 hSw; go_simp; try with_reducible rfl)
              try simp only [Act.put, List.setIfInBounds_toArray, List.set_cons_zero, List.set_cons_succ]
              refine wpAnyH_take (i := 11) (oi := { dst := some 68, op := Op.fieldAddr 25 (Operand.tmp 67) 1, type := 0, pos := "diff.go:249", after := #[{ on := 10, ground := Ground.data }, { on := 0, ground := Ground.phase }, { on := 1, ground := Ground.phase }, { on := 2, ground := Ground.phase }, { on := 3, ground := Ground.phase }, { on := 4, ground := Ground.phase }, { on := 5, ground := Ground.phase }, { on := 6, ground := Ground.phase }, { on := 7, ground := Ground.phase }, { on := 8, ground := Ground.phase }, { on := 9, ground := Ground.phase }], guard := none }) (v := ?v11q11) rfl (by kernel_rfl) (by kernel_rfl) (by kernel_rfl) (fun _ _ _ h => h) (Or.inl ⟨by rfl, ?y11q11⟩) trivial ?r11q11
              case y11q11 => (intro w2 hSw; go_simp; try with_reducible rfl)
              try simp only [Act.put, List.setIfInBounds_toArray, List.set_cons_zero, List.set_cons_succ]
              refine wpAnyH_ready (rs := [12]) (by kernel_rfl) (by simp) (AllReadyH.cons (o := { dst := none, op := Op.store 22 (Operand.tmp 68) (Operand.tmp 66), type := 0, pos := "diff.go:249", after := #[{ on := 11, ground := Ground.data }, { on := 9, ground := Ground.data }, { on := 9, ground := Ground.chain }, { on := 0, ground := Ground.phase }, { on := 1, ground := Ground.phase }, { on := 2, ground := Ground.phase }, { on := 3, ground := Ground.phase }, { on := 4, ground := Ground.phase }, { on := 5, ground := Ground.phase }, { on := 6, ground := Ground.phase }, { on := 7, ground := Ground.phase }, { on := 8, ground := Ground.phase }, { on := 9, ground := Ground.phase }], guard := none }) rfl (fun K' hK => ?_) AllReadyH.nil)
              go_simp
              refine hK.out _ _ trivial (fun hSn => ?_)
              try simp only [Act.put, List.setIfInBounds_toArray, List.set_cons_zero, List.set_cons_succ]
              clear hK K'
              refine wpAnyH_done (by kernel_rfl) ?_ _
              have y1 : (w8.setCell ⟨g, mm * 2 + 1, none⟩ (.slice (some ⟨gl, 0, none⟩) (L.length + 1) cc8)).cell? ⟨g, mm * 2 + 1, none⟩ = some (.slice (some ⟨gl, 0, none⟩) (L.length + 1) cc8) := World.cell?_setCell_same _ _ _ x1
              have HNX : Hid (PL B w1 rows (i + 1) (p + (rl + 1)) (endsTen (x :: rt)) (D ++ [(kc, some ⟨gl, 0, none⟩, L.length + 1, cc8)]) (H0 ++ [(k, L ++ [rt])]) (.slice (some ⟨g, 0, none⟩) (mm + 1) cap) (w8.setCell ⟨g, mm * 2 + 1, none⟩ (.slice (some ⟨gl, 0, none⟩) (L.length + 1) cc8))) := Lib.hid (by
                have h1 := HP.out.put (k := k) HRI.out HKD.out hk0 (HPUT.out ▸ HP8.out) HB8.out
                rw [HPUT.out, ← HRL.out] at h1
                exact h1)
              obtain ⟨w9, hw9⟩ : ∃ W, W = w8.setCell ⟨g, mm * 2 + 1, none⟩ (.slice (some ⟨gl, 0, none⟩) (L.length + 1) cc8) := ⟨_, rfl⟩
              rw [← hw9] at y1 HNX ⊢
              clear HP8 HB8 HP3 HL3 hw9 x1 x2
              by_cases he : endsTen (x :: rt) = true
              · have HSF := Lib.hid (fun W => suffixC W (x :: rt) true he (by rw [List.length_cons, ← HRL.out]; omega))
                have HTE := Lib.hid (tail_ten (by rw [HKD.out]; exact hk0) he)
                rw [he] at HNX
                clear he
                go_wp2_with (go_at_call 58; refine (HSF.out _).mono ?_; rintro e wz ⟨rfl, hz⟩; obtain rfl := hz)
                have hll := HLL.out
                have hllI : (L.length : Int) ≤ 1073741824 := by omega
                go_quiet (fail)
                go_wp2
                go_roundw
                case rel => exact ⟨i + 1, p + (rl + 1), true, _, _, by go_num, by go_num, hlt, HNX.out.drewN _, Lib.hid ⟨D, _, H0, k, L, rt, gl, rfl, rfl, rfl, rfl, HTE.out⟩⟩
                case measure => simp [RowKit.intOf]; omega
              · rw [Bool.not_eq_true] at he
                have HSF := Lib.hid (fun W => suffixC W (x :: rt) false he (by rw [List.length_cons, ← HRL.out]; omega))
                rw [he] at HNX
                clear he
                go_wp2_with (go_at_call 58; refine (HSF.out _).mono ?_; rintro e wz ⟨rfl, hz⟩; obtain rfl := hz)
                go_roundw
                case rel => exact ⟨i + 1, p + (rl + 1), false, _, _, by go_num, by go_num, hlt, HNX, Lib.hid rfl⟩
                case measure => simp [RowKit.intOf]; omega
            case q8c7 =>
              go_simp
              refine hK.out _ _ trivial (fun hSn => ?_)
              try simp only [Act.put, List.setIfInBounds_toArray, List.set_cons_zero, List.set_cons_succ]
              clear hK K'
              refine wpAnyH_ready (rs := [4]) (by kernel_rfl) (by simp) (AllReadyH.cons (o := { dst := some 61, op := Op.load 22 (Operand.tmp 60), type := 22, pos := "diff.go:249", after := #[{ on := 3, ground := Ground.data }], guard := none }) rfl (fun K' hK => ?_) AllReadyH.nil)
              have hd4 := (World.cell?_alloc_lt w3 (.cells #[S1 rt] 9) ⟨g, mm * 2 + 1, none⟩ (World.block_lt_of_cell? w3 _ (HP3.out.last2 HMM.out).1)).trans (HP3.out.last2 HMM.out).1
              unfold S1 at hd4
              go_simp
              refine hK.out _ _ trivial (fun hSn => ?_)
              try simp only [Act.put, List.setIfInBounds_toArray, List.set_cons_zero, List.set_cons_succ]
              clear hK K'
              clear hd4
              refine wpAnyH_ready (rs := [9]) (by kernel_rfl) (by simp) (AllReadyH.cons (o := { dst := some 66, op := Op.call { callee := Callee.builtin Builtin.append, args := #[Operand.tmp 61, Operand.tmp 65], argTypes := #[22, 22] }, type := 22, pos := "diff.go:249", after := #[{ on := 4, ground := Ground.data }, { on := 8, ground := Ground.data }, { on := 7, ground := Ground.chain }], guard := none }) rfl (fun K' hK => ?_) AllReadyH.nil)
              refine stepSep (by rfl) _ _ (by rfl) Tryz.underlying22 (.string ByteArray.empty) 1 16 infoStr (by rfl) (by decide) (by decide) B w3 (.slice ac nc cc) L.length (L.map S1) [S1 rt] (by rfl) (by intro u hu; simp only [List.mem_singleton] at hu; subst hu; rfl) (by rfl) (HP3.out.last2 HMM.out).2 (by rfl) (by rfl) HLL.out HL3.out.2.1 ?_
              intro v8 w8 hp8
              obtain ⟨gl, cc8, rfl, hglB, x1, x2, hgB, hgl8, hpw8, hgr8⟩ := HP3.out.line2 HMM.out hp8
              have HP8 := Lib.hid hpw8
              have HB8 : Hid (Below B w1 ((w8.setCell ⟨g, mm * 2 + 1, none⟩ (.slice (some ⟨gl, 0, none⟩) (L.length + 1) cc8)))) := Lib.hid ((HB2.out.trans ((HB3.out.mono HL3.out.1).grown hgr8 HL3.out.2.1 HL3.out.2.2)).setCell hgB _)
              clear hpw8 hgr8 hp8 HB3
              refine hK.out _ _ trivial (fun hSn => ?_)
              try simp only [Act.put, List.setIfInBounds_toArray, List.set_cons_zero, List.set_cons_succ]
              clear hK K'
              refine wpAnyH_take (i := 10) (oi := { dst := some 67, op := Op.nilCheck (Operand.tmp 57), type := 0, pos := "diff.go:249", after := #[{ on := 0, ground := Ground.data }, { on := 0, ground := Ground.phase }, { on := 1, ground := Ground.phase }, { on := 2, ground := Ground.phase }, { on := 3, ground := Ground.phase }, { on := 4, ground := Ground.phase }, { on := 5, ground := Ground.phase }, { on := 6, ground := Ground.phase }, { on := 7, ground := Ground.phase }, { on := 8, ground := Ground.phase }, { on := 9, ground := Ground.phase }], guard := none }) (v := ?v10q12) rfl (by kernel_rfl) (by kernel_rfl) (by kernel_rfl) (fun _ _ _ h => h) (Or.inl ⟨by rfl, ?y10q12⟩) trivial ?r10q12
              case y10q12 => (intro w2 hSw; go_simp; try with_reducible rfl)
              try simp only [Act.put, List.setIfInBounds_toArray, List.set_cons_zero, List.set_cons_succ]
              refine wpAnyH_take (i := 11) (oi := { dst := some 68, op := Op.fieldAddr 25 (Operand.tmp 67) 1, type := 0, pos := "diff.go:249", after := #[{ on := 10, ground := Ground.data }, { on := 0, ground := Ground.phase }, { on := 1, ground := Ground.phase }, { on := 2, ground := Ground.phase }, { on := 3, ground := Ground.phase }, { on := 4, ground := Ground.phase }, { on := 5, ground := Ground.phase }, { on := 6, ground := Ground.phase }, { on := 7, ground := Ground.phase }, { on := 8, ground := Ground.phase }, { on := 9, ground := Ground.phase }], guard := none }) (v := ?v11q13) rfl (by kernel_rfl) (by kernel_rfl) (by kernel_rfl) (fun _ _ _ h => h) (Or.inl ⟨by rfl, ?y11q13⟩) trivial ?r11q13
              case y11q13 => (intro w2 hSw; go_simp; try with_reducible rfl)
              try simp only [Act.put, List.setIfInBounds_toArray, List.set_cons_zero, List.set_cons_succ]
              refine wpAnyH_ready (rs := [12]) (by kernel_rfl) (by simp) (AllReadyH.cons (o := { dst := none, op := Op.store 22 (Operand.tmp 68) (Operand.tmp 66), type := 0, pos := "diff.go:249", after := #[{ on := 11, ground := Ground.data }, { on := 9, ground := Ground.data }, { on := 9, ground := Ground.chain }, { on := 0, ground := Ground.phase }, { on := 1, ground := Ground.phase }, { on := 2, ground := Ground.phase }, { on := 3, ground := Ground.phase }, { on := 4, ground := Ground.phase }, { on := 5, ground := Ground.phase }, { on := 6, ground := Ground.phase }, { on := 7, ground := Ground.phase }, { on := 8, ground := Ground.phase }, { on := 9, ground := Ground.phase }], guard := none }) rfl (fun K' hK => ?_) AllReadyH.nil)
              go_simp
              refine hK.out _ _ trivial (fun hSn => ?_)
              try simp only [Act.put, List.setIfInBounds_toArray, List.set_cons_zero, List.set_cons_succ]
              clear hK K'
              refine wpAnyH_done (by kernel_rfl) ?_ _
              have y1 : (w8.setCell ⟨g, mm * 2 + 1, none⟩ (.slice (some ⟨gl, 0, none⟩) (L.length + 1) cc8)).cell? ⟨g, mm * 2 + 1, none⟩ = some (.slice (some ⟨gl, 0, none⟩) (L.length + 1) cc8) := World.cell?_setCell_same _ _ _ x1
              have HNX : Hid (PL B w1 rows (i + 1) (p + (rl + 1)) (endsTen (x :: rt)) (D ++ [(kc, some ⟨gl, 0, none⟩, L.length + 1, cc8)]) (H0 ++ [(k, L ++ [rt])]) (.slice (some ⟨g, 0, none⟩) (mm + 1) cap) (w8.setCell ⟨g, mm * 2 + 1, none⟩ (.slice (some ⟨gl, 0, none⟩) (L.length + 1) cc8))) := Lib.hid (by
                have h1 := HP.out.put (k := k) HRI.out HKD.out hk0 (HPUT.out ▸ HP8.out) HB8.out
                rw [HPUT.out, ← HRL.out] at h1
                exact h1)
              obtain ⟨w9, hw9⟩ : ∃ W, W = w8.setCell ⟨g, mm * 2 + 1, none⟩ (.slice (some ⟨gl, 0, none⟩) (L.length + 1) cc8) := ⟨_, rfl⟩
              rw [← hw9] at y1 HNX ⊢
              clear HP8 HB8 HP3 HL3 hw9 x1 x2
              by_cases he : endsTen (x :: rt) = true
              · have HSF := Lib.hid (fun W => suffixC W (x :: rt) true he (by rw [List.length_cons, ← HRL.out]; omega))
                have HTE := Lib.hid (tail_ten (by rw [HKD.out]; exact hk0) he)
                rw [he] at HNX
                clear he
                go_wp2_with (go_at_call 58; refine (HSF.out _).mono ?_; rintro e wz ⟨rfl, hz⟩; obtain rfl := hz)
                have hll := HLL.out
                have hllI : (L.length : Int) ≤ 1073741824 := by omega
                go_quiet (fail)
                go_wp2
                go_roundw
                case rel => exact ⟨i + 1, p + (rl + 1), true, _, _, by go_num, by go_num, hlt, HNX.out.drewN _, Lib.hid ⟨D, _, H0, k, L, rt, gl, rfl, rfl, rfl, rfl, HTE.out⟩⟩
                case measure => simp [RowKit.intOf]; omega
              · rw [Bool.not_eq_true] at he
                have HSF := Lib.hid (fun W => suffixC W (x :: rt) false he (by rw [List.length_cons, ← HRL.out]; omega))
                rw [he] at HNX
                clear he
                go_wp2_with (go_at_call 58; refine (HSF.out _).mono ?_; rintro e wz ⟨rfl, hz⟩; obtain rfl := hz)
                go_roundw
                case rel => exact ⟨i + 1, p + (rl + 1), false, _, _, by go_num, by go_num, hlt, HNX, Lib.hid rfl⟩
                case measure => simp [RowKit.intOf]; omega
        case' other1 =>
          obtain ⟨D, ⟨kc, ac, nc, cc⟩, hD⟩ := snocC_cases (hH ▸ HOW.out.len)
          obtain ⟨m1, hm1⟩ : ∃ m1, D.length = m1 := ⟨_, rfl⟩
          have hsl : hs.length = m1 + 1 := by rw [hD, List.length_append, hm1]; rfl
          obtain ⟨g, cap, hv9, _, _, y1, _⟩ := HOW.out.at (i := m1) (c := (kc, ac, nc, cc)) (by rw [hD, ← hm1]; exact List.getElem?_concat_length)
          have hkc : kc = k' := (HOW.out.each m1 (kc, ac, nc, cc) (k', L') (by rw [hD, ← hm1]; exact List.getElem?_concat_length) (by rw [hH, show m1 = H'.length by have := HOW.out.len; rw [hH, List.length_append, hsl] at this; simpa using this]; exact List.getElem?_concat_length)).1
          rw [hsl] at hv9
          subst hv9
          dsimp only at y1
          have hm1b : m1 ≤ 4194305 := by have h1 := HP.out.cnt; have h2 := HOW.out.len; omega
          have HHL : Hid (hs.length ≤ 1073741824) := Lib.hid (by omega)
          refine Or.elim (Decidable.em (kc = k)) (fun hkk => ?same1) (fun hkk => ?new1)
        case same1 =>
            have hkz : ((kc : Int) != (k : Int)) = false := by rw [hkk]; simp
            have HPUT : Hid (lastPut H k rt = H' ++ [(k, L' ++ [rt])]) := Lib.hid (by rw [hH, ← hkk, hkc]; exact lastPut_same _ _ _ _)
            have HP2 : Hid (PW B wr (.slice (some ⟨g, 0, none⟩) (m1 + 1) cap) (D ++ [(kc, ac, nc, cc)]) (H' ++ [(k, L')])) := Lib.hid (by have h1 := HOW.out; rw [hH, hD] at h1; rw [show k = k' by omega]; exact h1)
            have HLL : Hid (L'.length ≤ 1073741824) := Lib.hid (by
              have h1 := HP.out.lns
              have h2 : L'.length ≤ linesK (H.map toI) := by rw [hH]; unfold linesK; simp [toI]
              omega)
            have HMM := Lib.hid hm1
            have HB2 := Lib.hid HP.out.bel
            clear hH hD hm1 hsl hkc hkk
            go_upto_region 13 with (go_at_call 56; refine (HSG.out _).mono ?_; rintro e w2 ⟨rfl, hw2⟩; obtain rfl := hw2.symm)
            obtain ⟨mm, rfl⟩ : ∃ mm, mm = m1 := ⟨_, rfl⟩
            obtain ⟨wq, rfl⟩ : ∃ wq : World, wq = wr := ⟨_, rfl⟩
            obtain ⟨L, rfl⟩ : ∃ L, L = L' := ⟨_, rfl⟩
            obtain ⟨H0, rfl⟩ : ∃ H0, H0 = H' := ⟨_, rfl⟩
            have hmm := hm1b
            have HWQ : Hid (B ≤ wq.heap.size) := Lib.hid (by have h1 := HB2.out.size; have h2 := HBB.out; omega)
            have HB2 : Hid (Below B w1 wq.drew) := Lib.hid HB2.out.drew
            have HD4 : Hid (wq.drew.cell? ⟨g, mm * 2 + 1, none⟩ = some (.slice ac nc cc)) := Lib.hid (HP2.out.last2 HMM.out).1
            have HW3 : Hid (∀ w3, Below wq.drew.heap.size wq.drew w3 → PW B w3 (.slice (some ⟨g, 0, none⟩) (mm + 1) cap) (D ++ [(kc, ac, nc, cc)]) (H0 ++ [(k, L)]) ∧ (B ≤ wq.drew.heap.size ∧ B ≤ w3.heap.size ∧ ∀ r, Value.ownBlock (.slice ac nc cc) = some r → B ≤ r)) := Lib.hid (fun w3 h3 => ⟨HP2.out.keep (((Below.refl wq.heap.size wq).drew).trans h3), HWQ.out, Nat.le_trans HWQ.out h3.size, fun r hr => ((HP2.out.last2 HMM.out).2.lt r hr).1⟩)
            clear HWQ
            go_upto_region 14 with (fail)
            have hrd := HRD.out
            have h1rl : (1 : Int) ≤ (rl : Int) + 1 := by omega
            refine wp_region_held_drew (S := (fun _ : World => True)) (by kernel_rfl) trivial (fun hS0 => ?_)
            refine wpAnyH_take (i := 0) (oi := { dst := some 57, op := Op.move (Operand.tmp 11), type := 95, pos := "diff.go:249", after := #[], guard := none }) (v := ?v0q14) rfl (by kernel_rfl) (by kernel_rfl) (by kernel_rfl) (fun _ _ _ h => h) (Or.inl ⟨by rfl, ?y0q14⟩) trivial ?r0q14
            case y0q14 => (intro w2 hSw; go_simp; try with_reducible rfl)
            try simp only [Act.put, List.setIfInBounds_toArray, List.set_cons_zero, List.set_cons_succ]
            refine wpAnyH_take (i := 1) (oi := { dst := some 58, op := Op.move (Operand.tmp 11), type := 95, pos := "diff.go:249", after := #[], guard := none }) (v := ?v1q15) rfl (by kernel_rfl) (by kernel_rfl) (by kernel_rfl) (fun _ _ _ h => h) (Or.inl ⟨by rfl, ?y1q15⟩) trivial ?r1q15
            case y1q15 => (intro w2 hSw; go_simp; try with_reducible rfl)
            try simp only [Act.put, List.setIfInBounds_toArray, List.set_cons_zero, List.set_cons_succ]
            refine wpAnyH_take (i := 2) (oi := { dst := some 59, op := Op.nilCheck (Operand.tmp 58), type := 0, pos := "diff.go:249", after := #[{ on := 1, ground := Ground.data }], guard := none }) (v := ?v2q16) rfl (by kernel_rfl) (by kernel_rfl) (by kernel_rfl) (fun _ _ _ h => h) (Or.inl ⟨by rfl, ?y2q16⟩) trivial ?r2q16
            case y2q16 => (intro w2 hSw; go_simp; try with_reducible rfl)
            try simp only [Act.put, List.setIfInBounds_toArray, List.set_cons_zero, List.set_cons_succ]
            refine wpAnyH_take (i := 3) (oi := { dst := some 60, op := Op.fieldAddr 25 (Operand.tmp 59) 1, type := 0, pos := "diff.go:249", after := #[{ on := 2, ground := Ground.data }], guard := none }) (v := ?v3q17) rfl (by kernel_rfl) (by kernel_rfl) (by kernel_rfl) (fun _ _ _ h => h) (Or.inl ⟨by rfl, ?y3q17⟩) trivial ?r3q17
            case y3q17 => (intro w2 hSw; go_simp; try with_reducible rfl)
            try simp only [Act.put, List.setIfInBounds_toArray, List.set_cons_zero, List.set_cons_succ]
            refine wpAnyH_take (i := 5) (oi := { dst := some 62, op := Op.move (Operand.tmp 8), type := 9, pos := "diff.go:249", after := #[], guard := none }) (v := ?v5q18) rfl (by kernel_rfl) (by kernel_rfl) (by kernel_rfl) (fun _ _ _ h => h) (Or.inl ⟨by rfl, ?y5q18⟩) trivial ?r5q18
            case y5q18 => (intro w2 hSw; go_simp; try with_reducible rfl)
            try simp only [Act.put, List.setIfInBounds_toArray, List.set_cons_zero, List.set_cons_succ]
            refine wpAnyH_take (i := 6) (oi := { dst := some 63, op := Op.slice 9 (Operand.tmp 62) (some (Operand.const (Value.int IntKind.i64 1))) none none, type := 9, pos := "diff.go:249", after := #[{ on := 5, ground := Ground.data }], guard := none }) (v := ?v6q19) rfl (by kernel_rfl) (by kernel_rfl) (by kernel_rfl) (fun _ _ _ h => h) (Or.inl ⟨by rfl, ?y6q19⟩) trivial ?r6q19
            case y6q19 => (intro w2 hSw; go_simp; try with_reducible rfl)
            try simp only [Act.put, List.setIfInBounds_toArray, List.set_cons_zero, List.set_cons_succ]
            refine wpAnyH_ready (rs := [4, 7]) (by kernel_rfl) (by simp) (AllReadyH.cons rfl (fun K' hK => ?p4c20) (AllReadyH.cons rfl (fun K' hK => ?p7c20) AllReadyH.nil))
            case p4c20 =>
              have hd4 := HD4.out
              go_simp
              refine hK.out _ _ trivial (fun hSn => ?_)
              try simp only [Act.put, List.setIfInBounds_toArray, List.set_cons_zero, List.set_cons_succ]
              clear hK K'
              clear hd4
              refine wpAnyH_ready (rs := [7]) (by kernel_rfl) (by simp) (AllReadyH.cons (o := { dst := some 64, op := Op.call { callee := Callee.value (Operand.func 57), args := #[Operand.tmp 63], argTypes := #[9] }, type := 9, pos := "diff.go:249", after := #[{ on := 6, ground := Ground.data }], guard := none }) rfl (fun K' hK => ?_) AllReadyH.nil)
              go_simp
              refine (HCL.out _).mono ?_
              rintro e w3 ⟨rfl, hb3⟩
              obtain ⟨hw3, hl3⟩ := HW3.out w3 hb3
              have HP3 := Lib.hid hw3
              have HB3 := Lib.hid hb3
              have HL3 := Lib.hid hl3
              clear hb3 hw3 hl3
              show K' _ _
              refine hK.out _ _ trivial (fun hSn => ?_)
              try simp only [Act.put, List.setIfInBounds_toArray, List.set_cons_zero, List.set_cons_succ]
              clear hK K'
              refine wpAnyH_ready (rs := [8]) (by kernel_rfl) (by simp) (AllReadyH.cons (o := { dst := some 65, op := Op.buildSlice 22 1 #[(0, Operand.tmp 64)], type := 22, pos := "diff.go:249", after := #[{ on := 7, ground := Ground.data }], guard := none }) rfl (fun K' hK => ?_) AllReadyH.nil)
              go_simp
              refine hK.out _ _ trivial (fun hSn => ?_)
              try simp only [Act.put, List.setIfInBounds_toArray, List.set_cons_zero, List.set_cons_succ]
              clear hK K'
              refine wpAnyH_ready (rs := [9]) (by kernel_rfl) (by simp) (AllReadyH.cons (o := { dst := some 66, op := Op.call { callee := Callee.builtin Builtin.append, args := #[Operand.tmp 61, Operand.tmp 65], argTypes := #[22, 22] }, type := 22, pos := "diff.go:249", after := #[{ on := 4, ground := Ground.data }, { on := 8, ground := Ground.data }, { on := 7, ground := Ground.chain }], guard := none }) rfl (fun K' hK => ?_) AllReadyH.nil)
              refine stepSep (by rfl) _ _ (by rfl) Tryz.underlying22 (.string ByteArray.empty) 1 16 infoStr (by rfl) (by decide) (by decide) B w3 (.slice ac nc cc) L.length (L.map S1) [S1 rt] (by rfl) (by intro u hu; simp only [List.mem_singleton] at hu; subst hu; rfl) (by rfl) (HP3.out.last2 HMM.out).2 (by rfl) (by rfl) HLL.out HL3.out.2.1 ?_
              intro v8 w8 hp8
              obtain ⟨gl, cc8, rfl, hglB, x1, x2, hgB, hgl8, hpw8, hgr8⟩ := HP3.out.line2 HMM.out hp8
              have HP8 := Lib.hid hpw8
              have HB8 : Hid (Below B w1 ((w8.setCell ⟨g, mm * 2 + 1, none⟩ (.slice (some ⟨gl, 0, none⟩) (L.length + 1) cc8)))) := Lib.hid ((HB2.out.trans ((HB3.out.mono HL3.out.1).grown hgr8 HL3.out.2.1 HL3.out.2.2)).setCell hgB _)
              clear hpw8 hgr8 hp8 HB3
              refine hK.out _ _ trivial (fun hSn => ?_)
              try simp only [Act.put, List.setIfInBounds_toArray, List.set_cons_zero, List.set_cons_succ]
              clear hK K'
              refine wpAnyH_take (i := 10) (oi := { dst := some 67, op := Op.nilCheck (Operand.tmp 57), type := 0, pos := "diff.go:249", after := #[{ on := 0, ground := Ground.data }, { on := 0, ground := Ground.phase }, { on := 1, ground := Ground.phase }, { on := 2, ground := Ground.phase }, { on := 3, ground := Ground.phase }, { on := 4, ground := Ground.phase }, { on := 5, ground := Ground.phase }, { on := 6, ground := Ground.phase }, { on := 7, ground := Ground.phase }, { on := 8, ground := Ground.phase }, { on := 9, ground := Ground.phase }], guard := none }) (v := ?v10q21) rfl (by kernel_rfl) (by kernel_rfl) (by kernel_rfl) (fun _ _ _ h => h) (Or.inl ⟨by rfl, ?y10q21⟩) trivial ?r10q21
              case y10q21 => (intro w2 hSw; go_simp; try with_reducible rfl)
              try simp only [Act.put, List.setIfInBounds_toArray, List.set_cons_zero, List.set_cons_succ]
              refine wpAnyH_take (i := 11) (oi := { dst := some 68, op := Op.fieldAddr 25 (Operand.tmp 67) 1, type := 0, pos := "diff.go:249", after := #[{ on := 10, ground := Ground.data }, { on := 0, ground := Ground.phase }, { on := 1, ground := Ground.phase }, { on := 2, ground := Ground.phase }, { on := 3, ground := Ground.phase }, { on := 4, ground := Ground.phase }, { on := 5, ground := Ground.phase }, { on := 6, ground := Ground.phase }, { on := 7, ground := Ground.phase }, { on := 8, ground := Ground.phase }, { on := 9, ground := Ground.phase }], guard := none }) (v := ?v11q22) rfl (by kernel_rfl) (by kernel_rfl) (by kernel_rfl) (fun _ _ _ h => h) (Or.inl ⟨by rfl, ?y11q22⟩) trivial ?r11q22
              case y11q22 => (intro w2 hSw; go_simp; try with_reducible rfl)
              try simp only [Act.put, List.setIfInBounds_toArray, List.set_cons_zero, List.set_cons_succ]
              refine wpAnyH_ready (rs := [12]) (by kernel_rfl) (by simp) (AllReadyH.cons (o := { dst := none, op := Op.store 22 (Operand.tmp 68) (Operand.tmp 66), type := 0, pos := "diff.go:249", after := #[{ on := 11, ground := Ground.data }, { on := 9, ground := Ground.data }, { on := 9, ground := Ground.chain }, { on := 0, ground := Ground.phase }, { on := 1, ground := Ground.phase }, { on := 2, ground := Ground.phase }, { on := 3, ground := Ground.phase }, { on := 4, ground := Ground.phase }, { on := 5, ground := Ground.phase }, { on := 6, ground := Ground.phase }, { on := 7, ground := Ground.phase }, { on := 8, ground := Ground.phase }, { on := 9, ground := Ground.phase }], guard := none }) rfl (fun K' hK => ?_) AllReadyH.nil)
              go_simp
              refine hK.out _ _ trivial (fun hSn => ?_)
              try simp only [Act.put, List.setIfInBounds_toArray, List.set_cons_zero, List.set_cons_succ]
              clear hK K'
              refine wpAnyH_done (by kernel_rfl) ?_ _
              have y1 : (w8.setCell ⟨g, mm * 2 + 1, none⟩ (.slice (some ⟨gl, 0, none⟩) (L.length + 1) cc8)).cell? ⟨g, mm * 2 + 1, none⟩ = some (.slice (some ⟨gl, 0, none⟩) (L.length + 1) cc8) := World.cell?_setCell_same _ _ _ x1
              have HNX : Hid (PL B w1 rows (i + 1) (p + (rl + 1)) (endsTen (x :: rt)) (D ++ [(kc, some ⟨gl, 0, none⟩, L.length + 1, cc8)]) (H0 ++ [(k, L ++ [rt])]) (.slice (some ⟨g, 0, none⟩) (mm + 1) cap) (w8.setCell ⟨g, mm * 2 + 1, none⟩ (.slice (some ⟨gl, 0, none⟩) (L.length + 1) cc8))) := Lib.hid (by
                have h1 := HP.out.put (k := k) HRI.out HKD.out hk0 (HPUT.out ▸ HP8.out) HB8.out
                rw [HPUT.out, ← HRL.out] at h1
                exact h1)
              obtain ⟨w9, hw9⟩ : ∃ W, W = w8.setCell ⟨g, mm * 2 + 1, none⟩ (.slice (some ⟨gl, 0, none⟩) (L.length + 1) cc8) := ⟨_, rfl⟩
              rw [← hw9] at y1 HNX ⊢
              clear HP8 HB8 HP3 HL3 hw9 x1 x2
              by_cases he : endsTen (x :: rt) = true
              · have HSF := Lib.hid (fun W => suffixC W (x :: rt) true he (by rw [List.length_cons, ← HRL.out]; omega))
                have HTE := Lib.hid (tail_ten (by rw [HKD.out]; exact hk0) he)
                rw [he] at HNX
                clear he
                go_wp2_with (go_at_call 58; refine (HSF.out _).mono ?_; rintro e wz ⟨rfl, hz⟩; obtain rfl := hz)
                have hll := HLL.out
                have hllI : (L.length : Int) ≤ 1073741824 := by omega
                go_quiet (fail)
                go_wp2
                go_roundw
                case rel => exact ⟨i + 1, p + (rl + 1), true, _, _, by go_num, by go_num, hlt, HNX.out.drewN _, Lib.hid ⟨D, _, H0, k, L, rt, gl, rfl, rfl, rfl, rfl, HTE.out⟩⟩
                case measure => simp [RowKit.intOf]; omega
              · rw [Bool.not_eq_true] at he
                have HSF := Lib.hid (fun W => suffixC W (x :: rt) false he (by rw [List.length_cons, ← HRL.out]; omega))
                rw [he] at HNX
                clear he
                go_wp2_with (go_at_call 58; refine (HSF.out _).mono ?_; rintro e wz ⟨rfl, hz⟩; obtain rfl := hz)
                go_roundw
                case rel => exact ⟨i + 1, p + (rl + 1), false, _, _, by go_num, by go_num, hlt, HNX, Lib.hid rfl⟩
                case measure => simp [RowKit.intOf]; omega
            case p7c20 =>
              go_simp
              refine (HCL.out _).mono ?_
              rintro e w3 ⟨rfl, hb3⟩
              obtain ⟨hw3, hl3⟩ := HW3.out w3 hb3
              have HP3 := Lib.hid hw3
              have HB3 := Lib.hid hb3
              have HL3 := Lib.hid hl3
              clear hb3 hw3 hl3
              show K' _ _
              refine hK.out _ _ trivial (fun hSn => ?_)
              try simp only [Act.put, List.setIfInBounds_toArray, List.set_cons_zero, List.set_cons_succ]
              clear hK K'
              refine wpAnyH_ready (rs := [4, 8]) (by kernel_rfl) (by simp) (AllReadyH.cons rfl (fun K' hK => ?q4c20) (AllReadyH.cons rfl (fun K' hK => ?q8c20) AllReadyH.nil))
              case q4c20 =>
                have hd4 := (HP3.out.last2 HMM.out).1
                go_simp
                refine hK.out _ _ trivial (fun hSn => ?_)
                try simp only [Act.put, List.setIfInBounds_toArray, List.set_cons_zero, List.set_cons_succ]
                clear hK K'
                clear hd4
                refine wpAnyH_ready (rs := [8]) (by kernel_rfl) (by simp) (AllReadyH.cons (o := { dst := some 65, op := Op.buildSlice 22 1 #[(0, Operand.tmp 64)], type := 22, pos := "diff.go:249", after := #[{ on := 7, ground := Ground.data }], guard := none }) rfl (fun K' hK => ?_) AllReadyH.nil)
                go_simp
                refine hK.out _ _ trivial (fun hSn => ?_)
                try simp only [Act.put, List.setIfInBounds_toArray, List.set_cons_zero, List.set_cons_succ]
                clear hK K'
                refine wpAnyH_ready (rs := [9]) (by kernel_rfl) (by simp) (AllReadyH.cons (o := { dst := some 66, op := Op.call { callee := Callee.builtin Builtin.append, args := #[Operand.tmp 61, Operand.tmp 65], argTypes := #[22, 22] }, type := 22, pos := "diff.go:249", after := #[{ on := 4, ground := Ground.data }, { on := 8, ground := Ground.data }, { on := 7, ground := Ground.chain }], guard := none }) rfl (fun K' hK => ?_) AllReadyH.nil)
                refine stepSep (by rfl) _ _ (by rfl) Tryz.underlying22 (.string ByteArray.empty) 1 16 infoStr (by rfl) (by decide) (by decide) B w3 (.slice ac nc cc) L.length (L.map S1) [S1 rt] (by rfl) (by intro u hu; simp only [List.mem_singleton] at hu; subst hu; rfl) (by rfl) (HP3.out.last2 HMM.out).2 (by rfl) (by rfl) HLL.out HL3.out.2.1 ?_
                intro v8 w8 hp8
                obtain ⟨gl, cc8, rfl, hglB, x1, x2, hgB, hgl8, hpw8, hgr8⟩ := HP3.out.line2 HMM.out hp8
                have HP8 := Lib.hid hpw8
                have HB8 : Hid (Below B w1 ((w8.setCell ⟨g, mm * 2 + 1, none⟩ (.slice (some ⟨gl, 0, none⟩) (L.length + 1) cc8)))) := Lib.hid ((HB2.out.trans ((HB3.out.mono HL3.out.1).grown hgr8 HL3.out.2.1 HL3.out.2.2)).setCell hgB _)
                clear hpw8 hgr8 hp8 HB3
                refine hK.out _ _ trivial (fun hSn => ?_)
                try simp only [Act.put, List.setIfInBounds_toArray, List.set_cons_zero, List.set_cons_succ]
                clear hK K'
                refine wpAnyH_take (i := 10) (oi := { dst := some 67, op := Op.nilCheck (Operand.tmp 57), type := 0, pos := "diff.go:249", after := #[{ on := 0, ground := Ground.data }, { on := 0, ground := Ground.phase }, { on := 1, ground := Ground.phase }, { on := 2, ground := Ground.phase }, { on := 3, ground := Ground.phase }, { on := 4, ground := Ground.phase }, { on := 5, ground := Ground.phase }, { on := 6, ground := Ground.phase }, { on := 7, ground := Ground.phase }, { on := 8, ground := Ground.phase }, { on := 9, ground := Ground.phase }], guard := none }) (v := ?v10q23) rfl (by kernel_rfl) (by kernel_rfl) (by kernel_rfl) (fun _ _ _ h => h) (Or.inl ⟨by rfl, ?y10q23⟩) trivial ?r10q23
                case y10q23 => (intro w2 hSw; go_simp; try with_reducible rfl)
                try simp only [Act.put, List.setIfInBounds_toArray, List.set_cons_zero, List.set_cons_succ]
                refine wpAnyH_take (i := 11) (oi := { dst := some 68, op := Op.fieldAddr 25 (Operand.tmp 67) 1, type := 0, pos := "diff.go:249", after := #[{ on := 10, ground := Ground.data }, { on := 0, ground := Ground.phase }, { on := 1, ground := Ground.phase }, { on := 2, ground := Ground.phase }, { on := 3, ground := Ground.phase }, { on := 4, ground := Ground.phase }, { on := 5, ground := Ground.phase }, { on := 6, ground := Ground.phase }, { on := 7, ground := Ground.phase }, { on := 8, ground := Ground.phase }, { on := 9, ground := Ground.phase }], guard := none }) (v := ?v11q24) rfl (by kernel_rfl) (by kernel_rfl) (by kernel_rfl) (fun _ _ _ h => h) (Or.inl ⟨by rfl, ?y11q24⟩) trivial ?r11q24
                case y11q24 => (intro w2 hSw; go_simp; try with_reducible rfl)
                try simp only [Act.put, List.setIfInBounds_toArray, List.set_cons_zero, List.set_cons_succ]
                refine wpAnyH_ready (rs := [12]) (by kernel_rfl) (by simp) (AllReadyH.cons (o := { dst := none, op := Op.store 22 (Operand.tmp 68) (Operand.tmp 66), type := 0, pos := "diff.go:249", after := #[{ on := 11, ground := Ground.data }, { on := 9, ground := Ground.data }, { on := 9, ground := Ground.chain }, { on := 0, ground := Ground.phase }, { on := 1, ground := Ground.phase }, { on := 2, ground := Ground.phase }, { on := 3, ground := Ground.phase }, { on := 4, ground := Ground.phase }, { on := 5, ground := Ground.phase }, { on := 6, ground := Ground.phase }, { on := 7, ground := Ground.phase }, { on := 8, ground := Ground.phase }, { on := 9, ground := Ground.phase }], guard := none }) rfl (fun K' hK => ?_) AllReadyH.nil)
                go_simp
                refine hK.out _ _ trivial (fun hSn => ?_)
                try simp only [Act.put, List.setIfInBounds_toArray, List.set_cons_zero, List.set_cons_succ]
                clear hK K'
                refine wpAnyH_done (by kernel_rfl) ?_ _
                have y1 : (w8.setCell ⟨g, mm * 2 + 1, none⟩ (.slice (some ⟨gl, 0, none⟩) (L.length + 1) cc8)).cell? ⟨g, mm * 2 + 1, none⟩ = some (.slice (some ⟨gl, 0, none⟩) (L.length + 1) cc8) := World.cell?_setCell_same _ _ _ x1
                have HNX : Hid (PL B w1 rows (i + 1) (p + (rl + 1)) (endsTen (x :: rt)) (D ++ [(kc, some ⟨gl, 0, none⟩, L.length + 1, cc8)]) (H0 ++ [(k, L ++ [rt])]) (.slice (some ⟨g, 0, none⟩) (mm + 1) cap) (w8.setCell ⟨g, mm * 2 + 1, none⟩ (.slice (some ⟨gl, 0, none⟩) (L.length + 1) cc8))) := Lib.hid (by
                  have h1 := HP.out.put (k := k) HRI.out HKD.out hk0 (HPUT.out ▸ HP8.out) HB8.out
                  rw [HPUT.out, ← HRL.out] at h1
                  exact h1)
                obtain ⟨w9, hw9⟩ : ∃ W, W = w8.setCell ⟨g, mm * 2 + 1, none⟩ (.slice (some ⟨gl, 0, none⟩) (L.length + 1) cc8) := ⟨_, rfl⟩
                rw [← hw9] at y1 HNX ⊢
                clear HP8 HB8 HP3 HL3 hw9 x1 x2
                by_cases he : endsTen (x :: rt) = true
                · have HSF := Lib.hid (fun W => suffixC W (x :: rt) true he (by rw [List.length_cons, ← HRL.out]; omega))
                  have HTE := Lib.hid (tail_ten (by rw [HKD.out]; exact hk0) he)
                  rw [he] at HNX
                  clear he
                  go_wp2_with (go_at_call 58; refine (HSF.out _).mono ?_; rintro e wz ⟨rfl, hz⟩; obtain rfl := hz)
                  have hll := HLL.out
                  have hllI : (L.length : Int) ≤ 1073741824 := by omega
                  go_quiet (fail)
                  go_wp2
                  go_roundw
                  case rel => exact ⟨i + 1, p + (rl + 1), true, _, _, by go_num, by go_num, hlt, HNX.out.drewN _, Lib.hid ⟨D, _, H0, k, L, rt, gl, rfl, rfl, rfl, rfl, HTE.out⟩⟩
                  case measure => simp [RowKit.intOf]; omega
                · rw [Bool.not_eq_true] at he
                  have HSF := Lib.hid (fun W => suffixC W (x :: rt) false he (by rw [List.length_cons, ← HRL.out]; omega))
                  rw [he] at HNX
                  clear he
                  go_wp2_with (go_at_call 58; refine (HSF.out _).mono ?_; rintro e wz ⟨rfl, hz⟩; obtain rfl := hz)
                  go_roundw
                  case rel => exact ⟨i + 1, p + (rl + 1), false, _, _, by go_num, by go_num, hlt, HNX, Lib.hid rfl⟩
                  case measure => simp [RowKit.intOf]; omega
              case q8c20 =>
                go_simp
                refine hK.out _ _ trivial (fun hSn => ?_)
                try simp only [Act.put, List.setIfInBounds_toArray, List.set_cons_zero, List.set_cons_succ]
                clear hK K'
                refine wpAnyH_ready (rs := [4]) (by kernel_rfl) (by simp) (AllReadyH.cons (o := { dst := some 61, op := Op.load 22 (Operand.tmp 60), type := 22, pos := "diff.go:249", after := #[{ on := 3, ground := Ground.data }], guard := none }) rfl (fun K' hK => ?_) AllReadyH.nil)
                have hd4 := (World.cell?_alloc_lt w3 (.cells #[S1 rt] 9) ⟨g, mm * 2 + 1, none⟩ (World.block_lt_of_cell? w3 _ (HP3.out.last2 HMM.out).1)).trans (HP3.out.last2 HMM.out).1
                unfold S1 at hd4
                go_simp
                refine hK.out _ _ trivial (fun hSn => ?_)
                try simp only [Act.put, List.setIfInBounds_toArray, List.set_cons_zero, List.set_cons_succ]
                clear hK K'
                clear hd4
                refine wpAnyH_ready (rs := [9]) (by kernel_rfl) (by simp) (AllReadyH.cons (o := { dst := some 66, op := Op.call { callee := Callee.builtin Builtin.append, args := #[Operand.tmp 61, Operand.tmp 65], argTypes := #[22, 22] }, type := 22, pos := "diff.go:249", after := #[{ on := 4, ground := Ground.data }, { on := 8, ground := Ground.data }, { on := 7, ground := Ground.chain }], guard := none }) rfl (fun K' hK => ?_) AllReadyH.nil)
                refine stepSep (by rfl) _ _ (by rfl) Tryz.underlying22 (.string ByteArray.empty) 1 16 infoStr (by rfl) (by decide) (by decide) B w3 (.slice ac nc cc) L.length (L.map S1) [S1 rt] (by rfl) (by intro u hu; simp only [List.mem_singleton] at hu; subst hu; rfl) (by rfl) (HP3.out.last2 HMM.out).2 (by rfl) (by rfl) HLL.out HL3.out.2.1 ?_
                intro v8 w8 hp8
                obtain ⟨gl, cc8, rfl, hglB, x1, x2, hgB, hgl8, hpw8, hgr8⟩ := HP3.out.line2 HMM.out hp8
                have HP8 := Lib.hid hpw8
                have HB8 : Hid (Below B w1 ((w8.setCell ⟨g, mm * 2 + 1, none⟩ (.slice (some ⟨gl, 0, none⟩) (L.length + 1) cc8)))) := Lib.hid ((HB2.out.trans ((HB3.out.mono HL3.out.1).grown hgr8 HL3.out.2.1 HL3.out.2.2)).setCell hgB _)
                clear hpw8 hgr8 hp8 HB3
                refine hK.out _ _ trivial (fun hSn => ?_)
                try simp only [Act.put, List.setIfInBounds_toArray, List.set_cons_zero, List.set_cons_succ]
                clear hK K'
                refine wpAnyH_take (i := 10) (oi := { dst := some 67, op := Op.nilCheck (Operand.tmp 57), type := 0, pos := "diff.go:249", after := #[{ on := 0, ground := Ground.data }, { on := 0, ground := Ground.phase }, { on := 1, ground := Ground.phase }, { on := 2, ground := Ground.phase }, { on := 3, ground := Ground.phase }, { on := 4, ground := Ground.phase }, { on := 5, ground := Ground.phase }, { on := 6, ground := Ground.phase }, { on := 7, ground := Ground.phase }, { on := 8, ground := Ground.phase }, { on := 9, ground := Ground.phase }], guard := none }) (v := ?v10q25) rfl (by kernel_rfl) (by kernel_rfl) (by kernel_rfl) (fun _ _ _ h => h) (Or.inl ⟨by rfl, ?y10q25⟩) trivial ?r10q25
                case y10q25 => (intro w2 hSw; go_simp; try with_reducible rfl)
                try simp only [Act.put, List.setIfInBounds_toArray, List.set_cons_zero, List.set_cons_succ]
                refine wpAnyH_take (i := 11) (oi := { dst := some 68, op := Op.fieldAddr 25 (Operand.tmp 67) 1, type := 0, pos := "diff.go:249", after := #[{ on := 10, ground := Ground.data }, { on := 0, ground := Ground.phase }, { on := 1, ground := Ground.phase }, { on := 2, ground := Ground.phase }, { on := 3, ground := Ground.phase }, { on := 4, ground := Ground.phase }, { on := 5, ground := Ground.phase }, { on := 6, ground := Ground.phase }, { on := 7, ground := Ground.phase }, { on := 8, ground := Ground.phase }, { on := 9, ground := Ground.phase }], guard := none }) (v := ?v11q26) rfl (by kernel_rfl) (by kernel_rfl) (by kernel_rfl) (fun _ _ _ h => h) (Or.inl ⟨by rfl, ?y11q26⟩) trivial ?r11q26
                case y11q26 => (intro w2 hSw; go_simp; try with_reducible rfl)
                try simp only [Act.put, List.setIfInBounds_toArray, List.set_cons_zero, List.set_cons_succ]
                refine wpAnyH_ready (rs := [12]) (by kernel_rfl) (by simp) (AllReadyH.cons (o := { dst := none, op := Op.store 22 (Operand.tmp 68) (Operand.tmp 66), type := 0, pos := "diff.go:249", after := #[{ on := 11, ground := Ground.data }, { on := 9, ground := Ground.data }, { on := 9, ground := Ground.chain }, { on := 0, ground := Ground.phase }, { on := 1, ground := Ground.phase }, { on := 2, ground := Ground.phase }, { on := 3, ground := Ground.phase }, { on := 4, ground := Ground.phase }, { on := 5, ground := Ground.phase }, { on := 6, ground := Ground.phase }, { on := 7, ground := Ground.phase }, { on := 8, ground := Ground.phase }, { on := 9, ground := Ground.phase }], guard := none }) rfl (fun K' hK => ?_) AllReadyH.nil)
                go_simp
                refine hK.out _ _ trivial (fun hSn => ?_)
                try simp only [Act.put, List.setIfInBounds_toArray, List.set_cons_zero, List.set_cons_succ]
                clear hK K'
                refine wpAnyH_done (by kernel_rfl) ?_ _
                have y1 : (w8.setCell ⟨g, mm * 2 + 1, none⟩ (.slice (some ⟨gl, 0, none⟩) (L.length + 1) cc8)).cell? ⟨g, mm * 2 + 1, none⟩ = some (.slice (some ⟨gl, 0, none⟩) (L.length + 1) cc8) := World.cell?_setCell_same _ _ _ x1
                have HNX : Hid (PL B w1 rows (i + 1) (p + (rl + 1)) (endsTen (x :: rt)) (D ++ [(kc, some ⟨gl, 0, none⟩, L.length + 1, cc8)]) (H0 ++ [(k, L ++ [rt])]) (.slice (some ⟨g, 0, none⟩) (mm + 1) cap) (w8.setCell ⟨g, mm * 2 + 1, none⟩ (.slice (some ⟨gl, 0, none⟩) (L.length + 1) cc8))) := Lib.hid (by
                  have h1 := HP.out.put (k := k) HRI.out HKD.out hk0 (HPUT.out ▸ HP8.out) HB8.out
                  rw [HPUT.out, ← HRL.out] at h1
                  exact h1)
                obtain ⟨w9, hw9⟩ : ∃ W, W = w8.setCell ⟨g, mm * 2 + 1, none⟩ (.slice (some ⟨gl, 0, none⟩) (L.length + 1) cc8) := ⟨_, rfl⟩
                rw [← hw9] at y1 HNX ⊢
                clear HP8 HB8 HP3 HL3 hw9 x1 x2
                by_cases he : endsTen (x :: rt) = true
                · have HSF := Lib.hid (fun W => suffixC W (x :: rt) true he (by rw [List.length_cons, ← HRL.out]; omega))
                  have HTE := Lib.hid (tail_ten (by rw [HKD.out]; exact hk0) he)
                  rw [he] at HNX
                  clear he
                  go_wp2_with (go_at_call 58; refine (HSF.out _).mono ?_; rintro e wz ⟨rfl, hz⟩; obtain rfl := hz)
                  have hll := HLL.out
                  have hllI : (L.length : Int) ≤ 1073741824 := by omega
                  go_quiet (fail)
                  go_wp2
                  go_roundw
                  case rel => exact ⟨i + 1, p + (rl + 1), true, _, _, by go_num, by go_num, hlt, HNX.out.drewN _, Lib.hid ⟨D, _, H0, k, L, rt, gl, rfl, rfl, rfl, rfl, HTE.out⟩⟩
                  case measure => simp [RowKit.intOf]; omega
                · rw [Bool.not_eq_true] at he
                  have HSF := Lib.hid (fun W => suffixC W (x :: rt) false he (by rw [List.length_cons, ← HRL.out]; omega))
                  rw [he] at HNX
                  clear he
                  go_wp2_with (go_at_call 58; refine (HSF.out _).mono ?_; rintro e wz ⟨rfl, hz⟩; obtain rfl := hz)
                  go_roundw
                  case rel => exact ⟨i + 1, p + (rl + 1), false, _, _, by go_num, by go_num, hlt, HNX, Lib.hid rfl⟩
                  case measure => simp [RowKit.intOf]; omega
        case new1 =>
            have hkz : ((kc : Int) != (k : Int)) = true := by rw [bne_iff_ne]; omega
            have HLK : Hid (∀ z, H.getLast? = some z → z.1 ≠ k) := Lib.hid (fun z hz => by rw [hH, List.getLast?_concat] at hz; cases hz; rw [← hkc]; exact hkk)
            clear hH hD hm1 hsl hkc hkk
            go_upto_region 13 with (first
              | (go_at_call 56; refine (HSG.out _).mono ?_; rintro e w2 ⟨rfl, hw2⟩; obtain rfl := hw2.symm)
              | (at_builtin; refine appSep rfl _ _ rfl Tryz.underlying26 (.agg #[.int .i64 0, .slice none 0 0]) 2 32 infoHunk rfl (by decide) (by decide) B wr _ hs.length (hs.flatMap hkCells) (hkCells (k, none, 0, 0)) rfl (hkCells_one _) rfl HOW.out.own rfl rfl HHL.out HZ.out ?_; intro v8 wq hp8; obtain ⟨g, mm, cap, D, H0, L, kc, ac, nc, cc, rfl, hmm, HLL, HMM, HP2, HPUT, HB2⟩ := HCUT.out wq v8 hp8 HLK.out; clear hp8))
            have HWQ : Hid (B ≤ wq.heap.size) := Lib.hid (by have h1 := HB2.out.size; have h2 := HBB.out; omega)
            have HB2 : Hid (Below B w1 wq.drew) := Lib.hid HB2.out.drew
            have HD4 : Hid (wq.drew.cell? ⟨g, mm * 2 + 1, none⟩ = some (.slice ac nc cc)) := Lib.hid (HP2.out.last2 HMM.out).1
            have HW3 : Hid (∀ w3, Below wq.drew.heap.size wq.drew w3 → PW B w3 (.slice (some ⟨g, 0, none⟩) (mm + 1) cap) (D ++ [(kc, ac, nc, cc)]) (H0 ++ [(k, L)]) ∧ (B ≤ wq.drew.heap.size ∧ B ≤ w3.heap.size ∧ ∀ r, Value.ownBlock (.slice ac nc cc) = some r → B ≤ r)) := Lib.hid (fun w3 h3 => ⟨HP2.out.keep (((Below.refl wq.heap.size wq).drew).trans h3), HWQ.out, Nat.le_trans HWQ.out h3.size, fun r hr => ((HP2.out.last2 HMM.out).2.lt r hr).1⟩)
            clear HWQ
            go_upto_region 14 with (fail)
            have hrd := HRD.out
            have h1rl : (1 : Int) ≤ (rl : Int) + 1 := by omega
            refine wp_region_held_drew (S := (fun _ : World => True)) (by kernel_rfl) trivial (fun hS0 => ?_)
            refine wpAnyH_take (i := 0) (oi := { dst := some 57, op := Op.move (Operand.tmp 11), type := 95, pos := "diff.go:249", after := #[], guard := none }) (v := ?v0q27) rfl (by kernel_rfl) (by kernel_rfl) (by kernel_rfl) (fun _ _ _ h => h) (Or.inl ⟨by rfl, ?y0q27⟩) trivial ?r0q27
            case y0q27 => (intro w2 hSw; go_simp; try with_reducible rfl)
            try simp only [Act.put, List.setIfInBounds_toArray, List.set_cons_zero, List.set_cons_succ]
            refine wpAnyH_take (i := 1) (oi := { dst := some 58, op := Op.move (Operand.tmp 11), type := 95, pos := "diff.go:249", after := #[], guard := none }) (v := ?v1q28) rfl (by kernel_rfl) (by kernel_rfl) (by kernel_rfl) (fun _ _ _ h => h) (Or.inl ⟨by rfl, ?y1q28⟩) trivial ?r1q28
            case y1q28 => (intro w2 hSw; go_simp; try with_reducible rfl)
            try simp only [Act.put, List.setIfInBounds_toArray, List.set_cons_zero, List.set_cons_succ]
            refine wpAnyH_take (i := 2) (oi := { dst := some 59, op := Op.nilCheck (Operand.tmp 58), type := 0, pos := "diff.go:249", after := #[{ on := 1, ground := Ground.data }], guard := none }) (v := ?v2q29) rfl (by kernel_rfl) (by kernel_rfl) (by kernel_rfl) (fun _ _ _ h => h) (Or.inl ⟨by rfl, ?y2q29⟩) trivial ?r2q29
            case y2q29 => (intro w2 hSw; go_simp; try with_reducible rfl)
            try simp only [Act.put, List.setIfInBounds_toArray, List.set_cons_zero, List.set_cons_succ]
            refine wpAnyH_take (i := 3) (oi := { dst := some 60, op := Op.fieldAddr 25 (Operand.tmp 59) 1, type := 0, pos := "diff.go:249", after := #[{ on := 2, ground := Ground.data }], guard := none }) (v := ?v3q30) rfl (by kernel_rfl) (by kernel_rfl) (by kernel_rfl) (fun _ _ _ h => h) (Or.inl ⟨by rfl, ?y3q30⟩) trivial ?r3q30
            case y3q30 => (intro w2 hSw; go_simp; try with_reducible rfl)
            try simp only [Act.put, List.setIfInBounds_toArray, List.set_cons_zero, List.set_cons_succ]
            refine wpAnyH_take (i := 5) (oi := { dst := some 62, op := Op.move (Operand.tmp 8), type := 9, pos := "diff.go:249", after := #[], guard := none }) (v := ?v5q31) rfl (by kernel_rfl) (by kernel_rfl) (by kernel_rfl) (fun _ _ _ h => h) (Or.inl ⟨by rfl, ?y5q31⟩) trivial ?r5q31
            case y5q31 => (intro w2 hSw; go_simp; try with_reducible rfl)
            try simp only [Act.put, List.setIfInBounds_toArray, List.set_cons_zero, List.set_cons_succ]
            refine wpAnyH_take (i := 6) (oi := { dst := some 63, op := Op.slice 9 (Operand.tmp 62) (some (Operand.const (Value.int IntKind.i64 1))) none none, type := 9, pos := "diff.go:249", after := #[{ on := 5, ground := Ground.data }], guard := none }) (v := ?v6q32) rfl (by kernel_rfl) (by kernel_rfl) (by kernel_rfl) (fun _ _ _ h => h) (Or.inl ⟨by rfl, ?y6q32⟩) trivial ?r6q32
            case y6q32 => (intro w2 hSw; go_simp; try with_reducible rfl)
            try simp only [Act.put, List.setIfInBounds_toArray, List.set_cons_zero, List.set_cons_succ]
            refine wpAnyH_ready (rs := [4, 7]) (by kernel_rfl) (by simp) (AllReadyH.cons rfl (fun K' hK => ?p4c33) (AllReadyH.cons rfl (fun K' hK => ?p7c33) AllReadyH.nil))
            case p4c33 =>
              have hd4 := HD4.out
              go_simp
              refine hK.out _ _ trivial (fun hSn => ?_)
              try simp only [Act.put, List.setIfInBounds_toArray, List.set_cons_zero, List.set_cons_succ]
              clear hK K'
              clear hd4
              refine wpAnyH_ready (rs := [7]) (by kernel_rfl) (by simp) (AllReadyH.cons (o := { dst := some 64, op := Op.call { callee := Callee.value (Operand.func 57), args := #[Operand.tmp 63], argTypes := #[9] }, type := 9, pos := "diff.go:249", after := #[{ on := 6, ground := Ground.data }], guard := none }) rfl (fun K' hK => ?_) AllReadyH.nil)
              go_simp
              refine (HCL.out _).mono ?_
              rintro e w3 ⟨rfl, hb3⟩
              obtain ⟨hw3, hl3⟩ := HW3.out w3 hb3
              have HP3 := Lib.hid hw3
              have HB3 := Lib.hid hb3
              have HL3 := Lib.hid hl3
              clear hb3 hw3 hl3
              show K' _ _
              refine hK.out _ _ trivial (fun hSn => ?_)
              try simp only [Act.put, List.setIfInBounds_toArray, List.set_cons_zero, List.set_cons_succ]
              clear hK K'
              refine wpAnyH_ready (rs := [8]) (by kernel_rfl) (by simp) (AllReadyH.cons (o := { dst := some 65, op := Op.buildSlice 22 1 #[(0, Operand.tmp 64)], type := 22, pos := "diff.go:249", after := #[{ on := 7, ground := Ground.data }], guard := none }) rfl (fun K' hK => ?_) AllReadyH.nil)
              go_simp
              refine hK.out _ _ trivial (fun hSn => ?_)
              try simp only [Act.put, List.setIfInBounds_toArray, List.set_cons_zero, List.set_cons_succ]
              clear hK K'
              refine wpAnyH_ready (rs := [9]) (by kernel_rfl) (by simp) (AllReadyH.cons (o := { dst := some 66, op := Op.call { callee := Callee.builtin Builtin.append, args := #[Operand.tmp 61, Operand.tmp 65], argTypes := #[22, 22] }, type := 22, pos := "diff.go:249", after := #[{ on := 4, ground := Ground.data }, { on := 8, ground := Ground.data }, { on := 7, ground := Ground.chain }], guard := none }) rfl (fun K' hK => ?_) AllReadyH.nil)
              refine stepSep (by rfl) _ _ (by rfl) Tryz.underlying22 (.string ByteArray.empty) 1 16 infoStr (by rfl) (by decide) (by decide) B w3 (.slice ac nc cc) L.length (L.map S1) [S1 rt] (by rfl) (by intro u hu; simp only [List.mem_singleton] at hu; subst hu; rfl) (by rfl) (HP3.out.last2 HMM.out).2 (by rfl) (by rfl) HLL.out HL3.out.2.1 ?_
              intro v8 w8 hp8
              obtain ⟨gl, cc8, rfl, hglB, x1, x2, hgB, hgl8, hpw8, hgr8⟩ := HP3.out.line2 HMM.out hp8
              have HP8 := Lib.hid hpw8
              have HB8 : Hid (Below B w1 ((w8.setCell ⟨g, mm * 2 + 1, none⟩ (.slice (some ⟨gl, 0, none⟩) (L.length + 1) cc8)))) := Lib.hid ((HB2.out.trans ((HB3.out.mono HL3.out.1).grown hgr8 HL3.out.2.1 HL3.out.2.2)).setCell hgB _)
              clear hpw8 hgr8 hp8 HB3
              refine hK.out _ _ trivial (fun hSn => ?_)
              try simp only [Act.put, List.setIfInBounds_toArray, List.set_cons_zero, List.set_cons_succ]
              clear hK K'
              refine wpAnyH_take (i := 10) (oi := { dst := some 67, op := Op.nilCheck (Operand.tmp 57), type := 0, pos := "diff.go:249", after := #[{ on := 0, ground := Ground.data }, { on := 0, ground := Ground.phase }, { on := 1, ground := Ground.phase }, { on := 2, ground := Ground.phase }, { on := 3, ground := Ground.phase }, { on := 4, ground := Ground.phase }, { on := 5, ground := Ground.phase }, { on := 6, ground := Ground.phase }, { on := 7, ground := Ground.phase }, { on := 8, ground := Ground.phase }, { on := 9, ground := Ground.phase }], guard := none }) (v := ?v10q34) rfl (by kernel_rfl) (by kernel_rfl) (by kernel_rfl) (fun _ _ _ h => h) (Or.inl ⟨by rfl, ?y10q34⟩) trivial ?r10q34
              case y10q34 => (intro w2 hSw; go_simp; try with_reducible rfl)
              try simp only [Act.put, List.setIfInBounds_toArray, List.set_cons_zero, List.set_cons_succ]
              refine wpAnyH_take (i := 11) (oi := { dst := some 68, op := Op.fieldAddr 25 (Operand.tmp 67) 1, type := 0, pos := "diff.go:249", after := #[{ on := 10, ground := Ground.data }, { on := 0, ground := Ground.phase }, { on := 1, ground := Ground.phase }, { on := 2, ground := Ground.phase }, { on := 3, ground := Ground.phase }, { on := 4, ground := Ground.phase }, { on := 5, ground := Ground.phase }, { on := 6, ground := Ground.phase }, { on := 7, ground := Ground.phase }, { on := 8, ground := Ground.phase }, { on := 9, ground := Ground.phase }], guard := none }) (v := ?v11q35) rfl (by kernel_rfl) (by kernel_rfl) (by kernel_rfl) (fun _ _ _ h => h) (Or.inl ⟨by rfl, ?y11q35⟩) trivial ?r11q35
              case y11q35 => (intro w2 hSw; go_simp; try with_reducible rfl)
              try simp only [Act.put, List.setIfInBounds_toArray, List.set_cons_zero, List.set_cons_succ]
              refine wpAnyH_ready (rs := [12]) (by kernel_rfl) (by simp) (AllReadyH.cons (o := { dst := none, op := Op.store 22 (Operand.tmp 68) (Operand.tmp 66), type := 0, pos := "diff.go:249", after := #[{ on := 11, ground := Ground.data }, { on := 9, ground := Ground.data }, { on := 9, ground := Ground.chain }, { on := 0, ground := Ground.phase }, { on := 1, ground := Ground.phase }, { on := 2, ground := Ground.phase }, { on := 3, ground := Ground.phase }, { on := 4, ground := Ground.phase }, { on := 5, ground := Ground.phase }, { on := 6, ground := Ground.phase }, { on := 7, ground := Ground.phase }, { on := 8, ground := Ground.phase }, { on := 9, ground := Ground.phase }], guard := none }) rfl (fun K' hK => ?_) AllReadyH.nil)
              go_simp
              refine hK.out _ _ trivial (fun hSn => ?_)
              try simp only [Act.put, List.setIfInBounds_toArray, List.set_cons_zero, List.set_cons_succ]
              clear hK K'
              refine wpAnyH_done (by kernel_rfl) ?_ _
              have y1 : (w8.setCell ⟨g, mm * 2 + 1, none⟩ (.slice (some ⟨gl, 0, none⟩) (L.length + 1) cc8)).cell? ⟨g, mm * 2 + 1, none⟩ = some (.slice (some ⟨gl, 0, none⟩) (L.length + 1) cc8) := World.cell?_setCell_same _ _ _ x1
              have HNX : Hid (PL B w1 rows (i + 1) (p + (rl + 1)) (endsTen (x :: rt)) (D ++ [(kc, some ⟨gl, 0, none⟩, L.length + 1, cc8)]) (H0 ++ [(k, L ++ [rt])]) (.slice (some ⟨g, 0, none⟩) (mm + 1) cap) (w8.setCell ⟨g, mm * 2 + 1, none⟩ (.slice (some ⟨gl, 0, none⟩) (L.length + 1) cc8))) := Lib.hid (by
                have h1 := HP.out.put (k := k) HRI.out HKD.out hk0 (HPUT.out ▸ HP8.out) HB8.out
                rw [HPUT.out, ← HRL.out] at h1
                exact h1)
              obtain ⟨w9, hw9⟩ : ∃ W, W = w8.setCell ⟨g, mm * 2 + 1, none⟩ (.slice (some ⟨gl, 0, none⟩) (L.length + 1) cc8) := ⟨_, rfl⟩
              rw [← hw9] at y1 HNX ⊢
              clear HP8 HB8 HP3 HL3 hw9 x1 x2
              by_cases he : endsTen (x :: rt) = true
              · have HSF := Lib.hid (fun W => suffixC W (x :: rt) true he (by rw [List.length_cons, ← HRL.out]; omega))
                have HTE := Lib.hid (tail_ten (by rw [HKD.out]; exact hk0) he)
                rw [he] at HNX
                clear he
                go_wp2_with (go_at_call 58; refine (HSF.out _).mono ?_; rintro e wz ⟨rfl, hz⟩; obtain rfl := hz)
                have hll := HLL.out
                have hllI : (L.length : Int) ≤ 1073741824 := by omega
                go_quiet (fail)
                go_wp2
                go_roundw
                case rel => exact ⟨i + 1, p + (rl + 1), true, _, _, by go_num, by go_num, hlt, HNX.out.drewN _, Lib.hid ⟨D, _, H0, k, L, rt, gl, rfl, rfl, rfl, rfl, HTE.out⟩⟩
                case measure => simp [RowKit.intOf]; omega
              · rw [Bool.not_eq_true] at he
                have HSF := Lib.hid (fun W => suffixC W (x :: rt) false he (by rw [List.length_cons, ← HRL.out]; omega))
                rw [he] at HNX
                clear he
                go_wp2_with (go_at_call 58; refine (HSF.out _).mono ?_; rintro e wz ⟨rfl, hz⟩; obtain rfl := hz)
                go_roundw
                case rel => exact ⟨i + 1, p + (rl + 1), false, _, _, by go_num, by go_num, hlt, HNX, Lib.hid rfl⟩
                case measure => simp [RowKit.intOf]; omega
            case p7c33 =>
              go_simp
              refine (HCL.out _).mono ?_
              rintro e w3 ⟨rfl, hb3⟩
              obtain ⟨hw3, hl3⟩ := HW3.out w3 hb3
              have HP3 := Lib.hid hw3
              have HB3 := Lib.hid hb3
              have HL3 := Lib.hid hl3
              clear hb3 hw3 hl3
              show K' _ _
              refine hK.out _ _ trivial (fun hSn => ?_)
              try simp only [Act.put, List.setIfInBounds_toArray, List.set_cons_zero, List.set_cons_succ]
              clear hK K'
              refine wpAnyH_ready (rs := [4, 8]) (by kernel_rfl) (by simp) (AllReadyH.cons rfl (fun K' hK => ?q4c33) (AllReadyH.cons rfl (fun K' hK => ?q8c33) AllReadyH.nil))
              case q4c33 =>
                have hd4 := (HP3.out.last2 HMM.out).1
                go_simp
                refine hK.out _ _ trivial (fun hSn => ?_)
                try simp only [Act.put, List.setIfInBounds_toArray, List.set_cons_zero, List.set_cons_succ]
                clear hK K'
                clear hd4
                refine wpAnyH_ready (rs := [8]) (by kernel_rfl) (by simp) (AllReadyH.cons (o := { dst := some 65, op := Op.buildSlice 22 1 #[(0, Operand.tmp 64)], type := 22, pos := "diff.go:249", after := #[{ on := 7, ground := Ground.data }], guard := none }) rfl (fun K' hK => ?_) AllReadyH.nil)
                go_simp
                refine hK.out _ _ trivial (fun hSn => ?_)
                try simp only [Act.put, List.setIfInBounds_toArray, List.set_cons_zero, List.set_cons_succ]
                clear hK K'
                refine wpAnyH_ready (rs := [9]) (by kernel_rfl) (by simp) (AllReadyH.cons (o := { dst := some 66, op := Op.call { callee := Callee.builtin Builtin.append, args := #[Operand.tmp 61, Operand.tmp 65], argTypes := #[22, 22] }, type := 22, pos := "diff.go:249", after := #[{ on := 4, ground := Ground.data }, { on := 8, ground := Ground.data }, { on := 7, ground := Ground.chain }], guard := none }) rfl (fun K' hK => ?_) AllReadyH.nil)
                refine stepSep (by rfl) _ _ (by rfl) Tryz.underlying22 (.string ByteArray.empty) 1 16 infoStr (by rfl) (by decide) (by decide) B w3 (.slice ac nc cc) L.length (L.map S1) [S1 rt] (by rfl) (by intro u hu; simp only [List.mem_singleton] at hu; subst hu; rfl) (by rfl) (HP3.out.last2 HMM.out).2 (by rfl) (by rfl) HLL.out HL3.out.2.1 ?_
                intro v8 w8 hp8
                obtain ⟨gl, cc8, rfl, hglB, x1, x2, hgB, hgl8, hpw8, hgr8⟩ := HP3.out.line2 HMM.out hp8
                have HP8 := Lib.hid hpw8
                have HB8 : Hid (Below B w1 ((w8.setCell ⟨g, mm * 2 + 1, none⟩ (.slice (some ⟨gl, 0, none⟩) (L.length + 1) cc8)))) := Lib.hid ((HB2.out.trans ((HB3.out.mono HL3.out.1).grown hgr8 HL3.out.2.1 HL3.out.2.2)).setCell hgB _)
                clear hpw8 hgr8 hp8 HB3
                refine hK.out _ _ trivial (fun hSn => ?_)
                try simp only [Act.put, List.setIfInBounds_toArray, List.set_cons_zero, List.set_cons_succ]
                clear hK K'
                refine wpAnyH_take (i := 10) (oi := { dst := some 67, op := Op.nilCheck (Operand.tmp 57), type := 0, pos := "diff.go:249", after := #[{ on := 0, ground := Ground.data }, { on := 0, ground := Ground.phase }, { on := 1, ground := Ground.phase }, { on := 2, ground := Ground.phase }, { on := 3, ground := Ground.phase }, { on := 4, ground := Ground.phase }, { on := 5, ground := Ground.phase }, { on := 6, ground := Ground.phase }, { on := 7, ground := Ground.phase }, { on := 8, ground := Ground.phase }, { on := 9, ground := Ground.phase }], guard := none }) (v := ?v10q36) rfl (by kernel_rfl) (by kernel_rfl) (by kernel_rfl) (fun _ _ _ h => h) (Or.inl ⟨by rfl, ?y10q36⟩) trivial ?r10q36
                case y10q36 => (intro w2 hSw; go_simp; try with_reducible rfl)
                try simp only [Act.put, List.setIfInBounds_toArray, List.set_cons_zero, List.set_cons_succ]
                refine wpAnyH_take (i := 11) (oi := { dst := some 68, op := Op.fieldAddr 25 (Operand.tmp 67) 1, type := 0, pos := "diff.go:249", after := #[{ on := 10, ground := Ground.data }, { on := 0, ground := Ground.phase }, { on := 1, ground := Ground.phase }, { on := 2, ground := Ground.phase }, { on := 3, ground := Ground.phase }, { on := 4, ground := Ground.phase }, { on := 5, ground := Ground.phase }, { on := 6, ground := Ground.phase }, { on := 7, ground := Ground.phase }, { on := 8, ground := Ground.phase }, { on := 9, ground := Ground.phase }], guard := none }) (v := ?v11q37) rfl (by kernel_rfl) (by kernel_rfl) (by kernel_rfl) (fun _ _ _ h => h) (Or.inl ⟨by rfl, ?y11q37⟩) trivial ?r11q37
                case y11q37 => (intro w2 hSw; go_simp; try with_reducible rfl)
                try simp only [Act.put, List.setIfInBounds_toArray, List.set_cons_zero, List.set_cons_succ]
                refine wpAnyH_ready (rs := [12]) (by kernel_rfl) (by simp) (AllReadyH.cons (o := { dst := none, op := Op.store 22 (Operand.tmp 68) (Operand.tmp 66), type := 0, pos := "diff.go:249", after := #[{ on := 11, ground := Ground.data }, { on := 9, ground := Ground.data }, { on := 9, ground := Ground.chain }, { on := 0, ground := Ground.phase }, { on := 1, ground := Ground.phase }, { on := 2, ground := Ground.phase }, { on := 3, ground := Ground.phase }, { on := 4, ground := Ground.phase }, { on := 5, ground := Ground.phase }, { on := 6, ground := Ground.phase }, { on := 7, ground := Ground.phase }, { on := 8, ground := Ground.phase }, { on := 9, ground := Ground.phase }], guard := none }) rfl (fun K' hK => ?_) AllReadyH.nil)
                go_simp
                refine hK.out _ _ trivial (fun hSn => ?_)
                try simp only [Act.put, List.setIfInBounds_toArray, List.set_cons_zero, List.set_cons_succ]
                clear hK K'
                refine wpAnyH_done (by kernel_rfl) ?_ _
                have y1 : (w8.setCell ⟨g, mm * 2 + 1, none⟩ (.slice (some ⟨gl, 0, none⟩) (L.length + 1) cc8)).cell? ⟨g, mm * 2 + 1, none⟩ = some (.slice (some ⟨gl, 0, none⟩) (L.length + 1) cc8) := World.cell?_setCell_same _ _ _ x1
                have HNX : Hid (PL B w1 rows (i + 1) (p + (rl + 1)) (endsTen (x :: rt)) (D ++ [(kc, some ⟨gl, 0, none⟩, L.length + 1, cc8)]) (H0 ++ [(k, L ++ [rt])]) (.slice (some ⟨g, 0, none⟩) (mm + 1) cap) (w8.setCell ⟨g, mm * 2 + 1, none⟩ (.slice (some ⟨gl, 0, none⟩) (L.length + 1) cc8))) := Lib.hid (by
                  have h1 := HP.out.put (k := k) HRI.out HKD.out hk0 (HPUT.out ▸ HP8.out) HB8.out
                  rw [HPUT.out, ← HRL.out] at h1
                  exact h1)
                obtain ⟨w9, hw9⟩ : ∃ W, W = w8.setCell ⟨g, mm * 2 + 1, none⟩ (.slice (some ⟨gl, 0, none⟩) (L.length + 1) cc8) := ⟨_, rfl⟩
                rw [← hw9] at y1 HNX ⊢
                clear HP8 HB8 HP3 HL3 hw9 x1 x2
                by_cases he : endsTen (x :: rt) = true
                · have HSF := Lib.hid (fun W => suffixC W (x :: rt) true he (by rw [List.length_cons, ← HRL.out]; omega))
                  have HTE := Lib.hid (tail_ten (by rw [HKD.out]; exact hk0) he)
                  rw [he] at HNX
                  clear he
                  go_wp2_with (go_at_call 58; refine (HSF.out _).mono ?_; rintro e wz ⟨rfl, hz⟩; obtain rfl := hz)
                  have hll := HLL.out
                  have hllI : (L.length : Int) ≤ 1073741824 := by omega
                  go_quiet (fail)
                  go_wp2
                  go_roundw
                  case rel => exact ⟨i + 1, p + (rl + 1), true, _, _, by go_num, by go_num, hlt, HNX.out.drewN _, Lib.hid ⟨D, _, H0, k, L, rt, gl, rfl, rfl, rfl, rfl, HTE.out⟩⟩
                  case measure => simp [RowKit.intOf]; omega
                · rw [Bool.not_eq_true] at he
                  have HSF := Lib.hid (fun W => suffixC W (x :: rt) false he (by rw [List.length_cons, ← HRL.out]; omega))
                  rw [he] at HNX
                  clear he
                  go_wp2_with (go_at_call 58; refine (HSF.out _).mono ?_; rintro e wz ⟨rfl, hz⟩; obtain rfl := hz)
                  go_roundw
                  case rel => exact ⟨i + 1, p + (rl + 1), false, _, _, by go_num, by go_num, hlt, HNX, Lib.hid rfl⟩
                  case measure => simp [RowKit.intOf]; omega
              case q8c33 =>
                go_simp
                refine hK.out _ _ trivial (fun hSn => ?_)
                try simp only [Act.put, List.setIfInBounds_toArray, List.set_cons_zero, List.set_cons_succ]
                clear hK K'
                refine wpAnyH_ready (rs := [4]) (by kernel_rfl) (by simp) (AllReadyH.cons (o := { dst := some 61, op := Op.load 22 (Operand.tmp 60), type := 22, pos := "diff.go:249", after := #[{ on := 3, ground := Ground.data }], guard := none }) rfl (fun K' hK => ?_) AllReadyH.nil)
                have hd4 := (World.cell?_alloc_lt w3 (.cells #[S1 rt] 9) ⟨g, mm * 2 + 1, none⟩ (World.block_lt_of_cell? w3 _ (HP3.out.last2 HMM.out).1)).trans (HP3.out.last2 HMM.out).1
                unfold S1 at hd4
                go_simp
                refine hK.out _ _ trivial (fun hSn => ?_)
                try simp only [Act.put, List.setIfInBounds_toArray, List.set_cons_zero, List.set_cons_succ]
                clear hK K'
                clear hd4
                refine wpAnyH_ready (rs := [9]) (by kernel_rfl) (by simp) (AllReadyH.cons (o := { dst := some 66, op := Op.call { callee := Callee.builtin Builtin.append, args := #[Operand.tmp 61, Operand.tmp 65], argTypes := #[22, 22] }, type := 22, pos := "diff.go:249", after := #[{ on := 4, ground := Ground.data }, { on := 8, ground := Ground.data }, { on := 7, ground := Ground.chain }], guard := none }) rfl (fun K' hK => ?_) AllReadyH.nil)
                refine stepSep (by rfl) _ _ (by rfl) Tryz.underlying22 (.string ByteArray.empty) 1 16 infoStr (by rfl) (by decide) (by decide) B w3 (.slice ac nc cc) L.length (L.map S1) [S1 rt] (by rfl) (by intro u hu; simp only [List.mem_singleton] at hu; subst hu; rfl) (by rfl) (HP3.out.last2 HMM.out).2 (by rfl) (by rfl) HLL.out HL3.out.2.1 ?_
                intro v8 w8 hp8
                obtain ⟨gl, cc8, rfl, hglB, x1, x2, hgB, hgl8, hpw8, hgr8⟩ := HP3.out.line2 HMM.out hp8
                have HP8 := Lib.hid hpw8
                have HB8 : Hid (Below B w1 ((w8.setCell ⟨g, mm * 2 + 1, none⟩ (.slice (some ⟨gl, 0, none⟩) (L.length + 1) cc8)))) := Lib.hid ((HB2.out.trans ((HB3.out.mono HL3.out.1).grown hgr8 HL3.out.2.1 HL3.out.2.2)).setCell hgB _)
                clear hpw8 hgr8 hp8 HB3
                refine hK.out _ _ trivial (fun hSn => ?_)
                try simp only [Act.put, List.setIfInBounds_toArray, List.set_cons_zero, List.set_cons_succ]
                clear hK K'
                refine wpAnyH_take (i := 10) (oi := { dst := some 67, op := Op.nilCheck (Operand.tmp 57), type := 0, pos := "diff.go:249", after := #[{ on := 0, ground := Ground.data }, { on := 0, ground := Ground.phase }, { on := 1, ground := Ground.phase }, { on := 2, ground := Ground.phase }, { on := 3, ground := Ground.phase }, { on := 4, ground := Ground.phase }, { on := 5, ground := Ground.phase }, { on := 6, ground := Ground.phase }, { on := 7, ground := Ground.phase }, { on := 8, ground := Ground.phase }, { on := 9, ground := Ground.phase }], guard := none }) (v := ?v10q38) rfl (by kernel_rfl) (by kernel_rfl) (by kernel_rfl) (fun _ _ _ h => h) (Or.inl ⟨by rfl, ?y10q38⟩) trivial ?r10q38
                case y10q38 => (intro w2 hSw; go_simp; try with_reducible rfl)
                try simp only [Act.put, List.setIfInBounds_toArray, List.set_cons_zero, List.set_cons_succ]
                refine wpAnyH_take (i := 11) (oi := { dst := some 68, op := Op.fieldAddr 25 (Operand.tmp 67) 1, type := 0, pos := "diff.go:249", after := #[{ on := 10, ground := Ground.data }, { on := 0, ground := Ground.phase }, { on := 1, ground := Ground.phase }, { on := 2, ground := Ground.phase }, { on := 3, ground := Ground.phase }, { on := 4, ground := Ground.phase }, { on := 5, ground := Ground.phase }, { on := 6, ground := Ground.phase }, { on := 7, ground := Ground.phase }, { on := 8, ground := Ground.phase }, { on := 9, ground := Ground.phase }], guard := none }) (v := ?v11q39) rfl (by kernel_rfl) (by kernel_rfl) (by kernel_rfl) (fun _ _ _ h => h) (Or.inl ⟨by rfl, ?y11q39⟩) trivial ?r11q39
                case y11q39 => (intro w2 hSw; go_simp; try with_reducible rfl)
                try simp only [Act.put, List.setIfInBounds_toArray, List.set_cons_zero, List.set_cons_succ]
                refine wpAnyH_ready (rs := [12]) (by kernel_rfl) (by simp) (AllReadyH.cons (o := { dst := none, op := Op.store 22 (Operand.tmp 68) (Operand.tmp 66), type := 0, pos := "diff.go:249", after := #[{ on := 11, ground := Ground.data }, { on := 9, ground := Ground.data }, { on := 9, ground := Ground.chain }, { on := 0, ground := Ground.phase }, { on := 1, ground := Ground.phase }, { on := 2, ground := Ground.phase }, { on := 3, ground := Ground.phase }, { on := 4, ground := Ground.phase }, { on := 5, ground := Ground.phase }, { on := 6, ground := Ground.phase }, { on := 7, ground := Ground.phase }, { on := 8, ground := Ground.phase }, { on := 9, ground := Ground.phase }], guard := none }) rfl (fun K' hK => ?_) AllReadyH.nil)
                go_simp
                refine hK.out _ _ trivial (fun hSn => ?_)
                try simp only [Act.put, List.setIfInBounds_toArray, List.set_cons_zero, List.set_cons_succ]
                clear hK K'
                refine wpAnyH_done (by kernel_rfl) ?_ _
                have y1 : (w8.setCell ⟨g, mm * 2 + 1, none⟩ (.slice (some ⟨gl, 0, none⟩) (L.length + 1) cc8)).cell? ⟨g, mm * 2 + 1, none⟩ = some (.slice (some ⟨gl, 0, none⟩) (L.length + 1) cc8) := World.cell?_setCell_same _ _ _ x1
                have HNX : Hid (PL B w1 rows (i + 1) (p + (rl + 1)) (endsTen (x :: rt)) (D ++ [(kc, some ⟨gl, 0, none⟩, L.length + 1, cc8)]) (H0 ++ [(k, L ++ [rt])]) (.slice (some ⟨g, 0, none⟩) (mm + 1) cap) (w8.setCell ⟨g, mm * 2 + 1, none⟩ (.slice (some ⟨gl, 0, none⟩) (L.length + 1) cc8))) := Lib.hid (by
                  have h1 := HP.out.put (k := k) HRI.out HKD.out hk0 (HPUT.out ▸ HP8.out) HB8.out
                  rw [HPUT.out, ← HRL.out] at h1
                  exact h1)
                obtain ⟨w9, hw9⟩ : ∃ W, W = w8.setCell ⟨g, mm * 2 + 1, none⟩ (.slice (some ⟨gl, 0, none⟩) (L.length + 1) cc8) := ⟨_, rfl⟩
                rw [← hw9] at y1 HNX ⊢
                clear HP8 HB8 HP3 HL3 hw9 x1 x2
                by_cases he : endsTen (x :: rt) = true
                · have HSF := Lib.hid (fun W => suffixC W (x :: rt) true he (by rw [List.length_cons, ← HRL.out]; omega))
                  have HTE := Lib.hid (tail_ten (by rw [HKD.out]; exact hk0) he)
                  rw [he] at HNX
                  clear he
                  go_wp2_with (go_at_call 58; refine (HSF.out _).mono ?_; rintro e wz ⟨rfl, hz⟩; obtain rfl := hz)
                  have hll := HLL.out
                  have hllI : (L.length : Int) ≤ 1073741824 := by omega
                  go_quiet (fail)
                  go_wp2
                  go_roundw
                  case rel => exact ⟨i + 1, p + (rl + 1), true, _, _, by go_num, by go_num, hlt, HNX.out.drewN _, Lib.hid ⟨D, _, H0, k, L, rt, gl, rfl, rfl, rfl, rfl, HTE.out⟩⟩
                  case measure => simp [RowKit.intOf]; omega
                · rw [Bool.not_eq_true] at he
                  have HSF := Lib.hid (fun W => suffixC W (x :: rt) false he (by rw [List.length_cons, ← HRL.out]; omega))
                  rw [he] at HNX
                  clear he
                  go_wp2_with (go_at_call 58; refine (HSF.out _).mono ?_; rintro e wz ⟨rfl, hz⟩; obtain rfl := hz)
                  go_roundw
                  case rel => exact ⟨i + 1, p + (rl + 1), false, _, _, by go_num, by go_num, hlt, HNX, Lib.hid rfl⟩
                  case measure => simp [RowKit.intOf]; omega
    · obtain rfl : i = n := by omega
      obtain ⟨we, rfl⟩ : ∃ x : World, x = wr := ⟨_, rfl⟩
      have hdone := HP.out.done (by rw [← HN.out]; exact Nat.le_refl _)
      rw [HRW.out] at hdone
      have hfit := HP.out.fit (by omega) (by rw [HFL.out]; omega)
      have HF := Lib.hid hfit
      have hsw := HP.out.pw.sw
      have hlen := HP.out.pw.len
      obtain ⟨av, cv, rfl⟩ := slice_own hsw.own
      obtain ⟨hl2, hrd⟩ := hsw.reads
      obtain ⟨m, hm⟩ : ∃ m, H.length = m := ⟨_, rfl⟩
      rw [hlen] at hsw
      rw [hlen]
      rw [hm] at hrd hsw hlen
      rw [hm]
      have hmb : m ≤ 4194305 := by have := HP.out.cnt; omega
      have HB2 : Hid (Below w.heap.size w we) := Lib.hid (HB1.out.trans (HP.out.bel.mono (by rw [HBB.out]; exact HB1.out.size)))
      have HPR := Lib.hid (printC we av m cv (H.map toI) hrd hfit (HT.out.next HB2.out))
      have HSW := Lib.hid hsw
      have HM := Lib.hid hm
      have HHL := Lib.hid hlen
      have HD := Lib.hid hdone
      have HBw : Hid (B ≤ we.heap.size) := HZ
      have HWB : Hid (w.heap.size ≤ B) := Lib.hid (by rw [HBB.out]; exact HB1.out.size)
      clear hdone hfit hsw hlen hrd hm hl2 HLA HP HZ hlt hi HR HRW HFL HS
      by_cases hck : checkB (H.map toI) = true
      · obtain ⟨T, hTT⟩ : ∃ T, T = printK (H.map toI) := ⟨_, rfl⟩
        have hpe : printE (H.map toI) = .returned (.tuple #[.string (bstr T), .int .i64 0]) := by unfold printE; rw [if_pos hck, hTT]
        rw [hpe] at HPR
        by_cases hts : T = s
        · have hpo : parseOf s = .inr H := by
            unfold parseOf
            rw [HD.out]
            dsimp only
            rw [if_pos ⟨hck, by rw [← hTT]; exact hts⟩]
          have HPO := Lib.hid hpo
          have hne : (T != s) = false := by rw [hts]; simp
          have hne2 : (T == s) = true := by rw [hts]; simp
          have hne3 : T = s := hts
          clear hpe hpo hTT hts hck
          go_wp2_with (go_at_call 19; refine (HPR.out).mono ?_; rintro e w3 ⟨rfl, hb3⟩; have HB3 := Lib.hid hb3; clear hb3)
          go_loopw [119] (fun ui wq => ∃ (j : Nat) (hs' : List HCell), ui = .int .i64 (j : Int) ∧ j ≤ m ∧ Hid (SW B wq (.slice av m cv) hs' H [] ∧ hs'.length = m ∧ (∀ (q : Nat) (c : HCell), q < j → hs'[q]? = some c → c.2.2.1 = c.2.2.2) ∧ Below B we wq)) (fun ui _ => m - (RowKit.intOf ui).toNat)
          case atStart => exact ⟨0, hs, rfl, Nat.zero_le _, Lib.hid ⟨HSW.out.keep HB3.out, HHL.out, fun q c hq => absurd hq (Nat.not_lt_zero _), HB3.out.mono HBw.out⟩⟩
          case round =>
            obtain ⟨j, hs', rfl, hj, HQ⟩ := hrel
            by_cases hjl : j < m
            · obtain ⟨g, rfl⟩ : ∃ g, av = some ⟨g, 0, none⟩ := by
                rcases HQ.out.1.own.2 with ⟨h9, h0⟩ | ⟨g, cap, cur, h9, _⟩
                · rw [HQ.out.2.1] at h0; omega
                · cases h9; exact ⟨g, rfl⟩
              obtain ⟨⟨kc, ac, nc, cc⟩, hcj⟩ : ∃ c, hs'[j]? = some c := ⟨hs'[j]'(by rw [HQ.out.2.1]; exact hjl), by simp⟩
              have hsw := HQ.out.1
              rw [← HQ.out.2.1] at hsw
              obtain ⟨y1, y2, hgB, hgl, hsw2⟩ := hsw.clip hcj
              unfold slv at y1
              dsimp only at y1 hsw2
              obtain ⟨y, hy⟩ : ∃ y, H[j]? = some y := ⟨H[j]'(by rw [HM.out]; exact hjl), by simp⟩
              obtain ⟨_, hc1, hc2, _⟩ := HQ.out.1.each j (kc, ac, nc, cc) y hcj hy
              dsimp only at hc1 hc2
              have hc3 : cc ≤ 9223372036854775807 := by unfold maxLen at hc2; omega
              have hit : (j : Int) < (m : Int) := by omega
              have HNX : Hid (SW B (wr.setCell ⟨g, j * 2 + 1, none⟩ (.slice ac nc nc)) (.slice (some ⟨g, 0, none⟩) m cv) (hs'.set j (kc, ac, nc, nc)) H [] ∧ (hs'.set j (kc, ac, nc, nc)).length = m ∧ (∀ (q : Nat) (c : HCell), q < j + 1 → (hs'.set j (kc, ac, nc, nc))[q]? = some c → c.2.2.1 = c.2.2.2) ∧ Below B we (wr.setCell ⟨g, j * 2 + 1, none⟩ (.slice ac nc nc))) := Lib.hid ⟨by rw [HQ.out.2.1] at hsw2; exact hsw2, by rw [List.length_set]; exact HQ.out.2.1, fun q c hq hqc => by
                by_cases hqj : q = j
                · subst hqj
                  rw [List.getElem?_set_self (by rw [HQ.out.2.1]; exact hjl)] at hqc
                  cases hqc; rfl
                · rw [List.getElem?_set_ne (fun e => hqj e.symm)] at hqc
                  exact HQ.out.2.2.1 q c (by omega) hqc, HQ.out.2.2.2.setCell hgB _⟩
              have HC1 := Lib.hid hc1
              clear hsw hsw2 hy hcj hc2
              go_wp2_with (go_at_call 60; refine (clipC _ _ _ _ HC1.out hc3).mono ?_; rintro e w9 ⟨rfl, rfl⟩)
              go_roundw
              case rel => exact ⟨j + 1, _, by go_num, hjl, HNX⟩
              case measure => simp [RowKit.intOf]; omega
            · obtain rfl : j = m := by omega
              have hcv : j ≤ cv ∧ cv ≤ maxLen := by
                rcases HQ.out.1.own.2 with ⟨h9, h0⟩ | ⟨g, cap, cur, h9, _, _, h1, h2, _⟩
                · cases h9; exact ⟨Nat.le_refl _, Nat.zero_le _⟩
                · cases h9; rw [HQ.out.2.1] at h1; exact ⟨h1, h2⟩
              have hc1 := hcv.1
              have hc2 : cv ≤ 9223372036854775807 := by have := hcv.2; unfold maxLen at this; omega
              clear hcv
              go_wp2_with (go_at_call 61; refine (clipH _ _ _ _ hc1 hc2).mono ?_; rintro e w9 ⟨rfl, rfl⟩)
              go_ret2
              refine .inr ⟨H, .slice av j j, B, HPO.out, rfl, ⟨av, cv, hs', ?_, ?_, ?_⟩, HWB.out, ?_, HB2.out.trans (HQ.out.2.2.2.mono HWB.out)⟩
              · rw [HM.out]
              · rw [HM.out]; exact HQ.out.1
              · intro c hc
                obtain ⟨q, hq⟩ := List.mem_iff_getElem?.1 hc
                exact HQ.out.2.2.1 q c (by have := (List.getElem?_eq_some_iff.1 hq).1; rw [HQ.out.2.1] at this; exact this) hq
              · exact Nat.le_trans HBw.out HQ.out.2.2.2.size
        · have hpo : parseOf s = .inl sl := by
            unfold parseOf
            rw [HD.out]
            dsimp only
            rw [if_neg (fun h => hts (by rw [hTT]; exact h.2)), ← HSE.out]
          have HPO := Lib.hid hpo
          have hne : (T != s) = true := by rw [bne_iff_ne]; exact hts
          have hne2 : (T == s) = false := by rw [beq_eq_false_iff_ne]; exact hts
          have hne3 : ¬ T = s := hts
          clear hpe hpo hTT hts hck
          go_wp2_with (go_at_call 19; refine (HPR.out).mono ?_; rintro e w3 ⟨rfl, hb3⟩; have HB3 := Lib.hid hb3; clear hb3)
          go_ret2
          exact .inl ⟨sl, _, HPO.out, rfl, alloc_last _ _, HB2.out.trans ((HB3.out.alloc HB3.out.size _).mono HB2.out.size)⟩
      · have hpo : parseOf s = .inl sl := by
          unfold parseOf
          rw [HD.out]
          dsimp only
          rw [if_neg (fun h => hck h.1), ← HSE.out]
        have HPO := Lib.hid hpo
        have hpe : printE (H.map toI) = .returned (.tuple #[.string (bstr []), .int .i64 310]) := by unfold printE; rw [if_neg hck]
        rw [hpe] at HPR
        clear hpe hpo hck
        go_wp2_with (go_at_call 19; refine (HPR.out).mono ?_; rintro e w3 ⟨rfl, hb3⟩; have HB3 := Lib.hid hb3; clear hb3)
        go_ret2
        exact .inl ⟨sl, _, HPO.out, rfl, alloc_last _ _, HB2.out.trans ((HB3.out.alloc HB3.out.size _).mono HB2.out.size)⟩
end Go.Proofs.YtnbihjocdlpplaaGreatDoor
