/- Texts joined, one behind the other (DParR). -/
import Derived.Test.YtnbihjocdlpplaaGreatDoorKq26
import Derived.BigRegion
/- Parse by the reference. -/
namespace Go.Proofs.YtnbihjocdlpplaaGreatDoor
set_option linter.unusedVariables false
set_option linter.unusedSimpArgs false
open Go.RowKit
open Go.Lib hiding intOf
def ParQ (w : World) (s : List UInt8) (e : Ending) (w' : World) : Prop :=
  (∃ p : Nat, parseOf s = .inl p ∧ e = .returned (.tuple #[.slice none 0 0, .int .i64 (p : Int), .bool false]) ∧ Below w.heap.size w w') ∨
  (∃ (H : List Hk) (a : Option Addr) (c : Nat), parseOf s = .inr H ∧ e = .returned (.tuple #[.slice a H.length c, .int .i64 0, .bool true]) ∧ ReadsK w' a H.length (H.map toI) ∧ Below w.heap.size w w')
theorem PL.quiet {B : Nat} {w1 wr wq : World} {rows : List (List UInt8)} {i p : Nat} {o : Bool} {hs : List HCell} {H : List Hk} {vo : Value} (h : PL B w1 rows i p o hs H vo wr) (hB : B ≤ wr.heap.size) (hq : Quiet wr wq) : PL B w1 rows i p o hs H vo wq :=
  ⟨h.go, h.pw.keep (hq.below _), h.bel.trans ((hq.below wr.heap.size).mono hB), h.pos, h.cnt, h.lns, h.byt⟩
/-- the kind, as far as the signs were looked at -/
def kindU (x : UInt8) (k : Nat) : Nat := if 1 < k ∧ x = 32 then 1 else if 2 < k ∧ x = 45 then 2 else if 3 < k ∧ x = 43 then 3 else 0
theorem kindU_all (x : UInt8) (rt : List UInt8) : kindU x 4 = kindOf (x :: rt) := by
  unfold kindU kindOf
  simp
theorem kindU_next1 (x : UInt8) : kindU x 2 = if x = 32 then 1 else 0 := by unfold kindU; simp
theorem kindU_next2 (x : UInt8) : kindU x 3 = if x = 45 then 2 else kindU x 2 := by
  unfold kindU
  by_cases h : x = 32
  · subst h; decide
  · simp [h]
theorem kindU_next3 (x : UInt8) : kindU x 4 = if x = 43 then 3 else kindU x 3 := by
  unfold kindU
  by_cases h : x = 32
  · subst h; decide
  · by_cases h2 : x = 45
    · subst h2; decide
    · simp [h, h2]
theorem ends_last {x : UInt8} {rt : List UInt8} {y : UInt8} (h : (x :: rt)[rt.length]? = some y) : endsTen (x :: rt) = decide (y = 10) := by
  unfold endsTen
  have : (x :: rt).getLast? = some y := by rw [List.getLast?_eq_getElem?]; simpa using h
  rw [this]
  simp
theorem ends_idx {x : UInt8} {rt : List UInt8} {rl : Nat} (h : rl = rt.length) (hlt : rl < (bstr (x :: rt)).size) : ((((bstr (x :: rt))[rl]'hlt).toNat : Int) == 10) = endsTen (x :: rt) := by
  subst h
  have hx : (x :: rt)[rt.length]? = some ((bstr (x :: rt))[rt.length]'hlt) := List.getElem?_eq_getElem (l := x :: rt) (i := rt.length) (by simp)
  rw [ends_last hx, Bool.eq_iff_iff, beq_iff_eq, decide_eq_true_iff]
  constructor
  · intro h; exact UInt8.toNat.inj (by have h2 : (10 : UInt8).toNat = 10 := rfl; omega)
  · intro h; rw [h]; rfl
theorem last_any {x : UInt8} {rt : List UInt8} {D : List HCell} {kc gl nc cc k : Nat} {H0 : List Hk} {L : List (List UInt8)} (hk : kindOf (x :: rt) ≠ 0) : ∃ vl, LastP (endsTen (x :: rt)) vl (D ++ [(kc, some ⟨gl, 0, none⟩, nc, cc)]) (H0 ++ [(k, L ++ [rt])]) := by
  by_cases he : endsTen (x :: rt) = true
  · exact ⟨_, by rw [he]; exact ⟨D, _, H0, k, L, rt, gl, rfl, rfl, rfl, rfl, tail_ten hk he⟩⟩
  · rw [Bool.not_eq_true] at he
    exact ⟨_, by rw [he]; rfl⟩
theorem sign_byte {x : UInt8} (c : UInt8) (h : ((x.toNat : Int) == (c.toNat : Int)) = true) : x = c := UInt8.toNat.inj (by have := beq_iff_eq.1 h; omega)
theorem sign_byte' {x : UInt8} (c : UInt8) (h : ((x.toNat : Int) == (c.toNat : Int)) = false) : ¬ x = c := fun e => by subst e; simp at h
theorem kindU_one (x : UInt8) : kindU x 1 = 0 := by unfold kindU; simp
set_option maxHeartbeats 16000000 in
set_option maxRecDepth 100000 in
theorem parseR (w : World) (s : List UInt8) (hs : s.length ≤ 4194304) :
    Calls Tryz.prog 34 #[.string (bstr s)] w (ParQ w s) := by
  have HS := Lib.hid (splitR w s (by omega))
  have HSL := Lib.hid hs
  obtain ⟨sl, hsl⟩ : ∃ sl, sl = s.length := ⟨_, rfl⟩
  have hsz : (bstr s).size = sl := by rw [bstr_size, hsl]
  rw [← hsl] at hs
  have HSE := Lib.hid hsl
  clear hsl
  go_enter Tryz.func34, Tryz.ntmps34
  go_wp2_with (go_at_call 42; refine (HS.out).mono ?_; rintro e w1 ⟨a0, n, c0, rfl, hn, _, _, hR, hb1⟩; have HN := Lib.hid hn; have HR := Lib.hid hR; have HB1 := Lib.hid hb1; clear hn hR hb1)
  obtain ⟨rows, hrows⟩ : ∃ rows, rows = splitD s := ⟨_, rfl⟩
  obtain ⟨B, hB⟩ : ∃ B, B = w1.heap.size := ⟨_, rfl⟩
  have HBB := Lib.hid hB
  have HRW := Lib.hid hrows
  rw [← hrows] at HN HR
  have hn : n ≤ 4194305 := by
    rw [HN.out, HRW.out]
    have h1 := (splitA_len s).2
    have h2 : (splitD s).length ≤ (splitA s).length := by
      unfold splitD
      split
      · rw [List.length_dropLast]; omega
      · exact Nat.le_refl _
    have := HSE.out
    omega
  have HFL : Hid (rows.flatten.length = sl) := Lib.hid (by rw [HRW.out, splitD_flat, ← HSE.out])
  clear hB hrows
  go_loopw [6, 7, 8, 9] (fun vo va vp ui wr => ∃ (i p : Nat) (o : Bool) (hs : List HCell) (H : List Hk), va = .int .i64 (p : Int) ∧ vp = .bool o ∧ ui = .int .i64 (i : Int) ∧ i ≤ n ∧ Hid (PL B w1 rows i p o hs H vo wr) ∧ Hid (∃ vl, LastP o vl hs H)) (fun _ _ _ ui _ => n - (RowKit.intOf ui).toNat)
  case atStart => exact ⟨0, 0, false, [], [], rfl, rfl, rfl, Nat.zero_le _, Lib.hid (PL.start _ _ _), Lib.hid ⟨_, rfl⟩⟩
  case round =>
    obtain ⟨i, p, o, hs, H, rfl, rfl, rfl, hi, HP, HLA⟩ := hrel
    obtain ⟨vo, rfl⟩ : ∃ v : Value, v = u6 := ⟨_, rfl⟩
    have HZ : Hid (B ≤ wr.heap.size) := Lib.hid (by have h1 := HP.out.bel.size; have h2 := HBB.out; omega)
    by_cases hlt : i < n
    · obtain ⟨b, off, r, rfl, hbl, hri, hc⟩ := (HR.out.keep (HBB.out ▸ HP.out.bel) (Nat.le_refl _)).at hlt
      obtain ⟨x, rt, rfl⟩ := rowP_ne (HRW.out ▸ hri)
      have hrl := rowP_le hri
      rw [HFL.out] at hrl
      have hps : p + (rt.length + 1) ≤ sl := by
        have h1 := flatP_next hri
        have h2 := flatP_le rows (i + 1)
        rw [HFL.out] at h2
        rw [← HP.out.pos, List.length_cons] at h1
        omega
      rw [List.length_cons] at hrl
      have HRI := Lib.hid hri
      have hit : (i : Int) < (n : Int) := by omega
      obtain ⟨rl, hrl2⟩ : ∃ rl, rl = rt.length := ⟨_, rfl⟩
      have hsz2 : (bstr (x :: rt)).size = rl + 1 := by rw [bstr_size, List.length_cons, hrl2]
      rw [← hrl2] at hrl hps
      have HRL := Lib.hid hrl2
      have hg0 : (x :: rt).getD 0 0 = x := rfl
      obtain ⟨wo, rfl⟩ : ∃ wo : World, wo = wr := ⟨_, rfl⟩
      clear hri hrl2
      go_wp2
      go_loopw [11, 12] (fun uk ui wr => ∃ k : Nat, 1 ≤ k ∧ k ≤ 4 ∧ ui = .int .i64 (k : Int) ∧ uk = .int .i64 (kindU x k : Int) ∧ Quiet wo wr) (fun _ ui _ => 4 - (RowKit.intOf ui).toNat)
      case atStart => exact ⟨1, Nat.le_refl _, by decide, rfl, rfl, Quiet.refl _⟩
      case round =>
        obtain ⟨k, hk1, hk4, rfl, rfl, hq⟩ := hrel
        by_cases hkl : k < 4
        · have hcases : k = 1 ∨ k = 2 ∨ k = 3 := by omega
          rcases hcases with rfl | rfl | rfl
          · go_wp2
            go_quiet (fail)
            go_wp2
            all_goals (rename_i hh; go_roundw)
            case rel => exact ⟨2, by decide, by decide, rfl, by rw [kindU_next1, if_pos (sign_byte (x := x) 32 hh)], hq.drewN _⟩
            case measure => decide
            case rel => exact ⟨2, by decide, by decide, rfl, by rw [kindU_next1, if_neg (sign_byte' (x := x) 32 hh), kindU_one], hq.drewN _⟩
            case measure => decide
          · go_wp2
            go_quiet (fail)
            go_wp2
            all_goals (rename_i hh; go_roundw)
            case rel => exact ⟨3, by decide, by decide, rfl, by rw [kindU_next2, if_pos (sign_byte (x := x) 45 hh)], hq.drewN _⟩
            case measure => decide
            case rel => exact ⟨3, by decide, by decide, rfl, by rw [kindU_next2, if_neg (sign_byte' (x := x) 45 hh)], hq.drewN _⟩
            case measure => decide
          · go_wp2
            go_quiet (fail)
            go_wp2
            all_goals (rename_i hh; go_roundw)
            case rel => exact ⟨4, by decide, by decide, rfl, by rw [kindU_next3, if_pos (sign_byte (x := x) 43 hh)], hq.drewN _⟩
            case measure => decide
            case rel => exact ⟨4, by decide, by decide, rfl, by rw [kindU_next3, if_neg (sign_byte' (x := x) 43 hh)], hq.drewN _⟩
            case measure => decide
        · obtain rfl : k = 4 := by omega
          rw [kindU_all x rt]
          have HP0 := Lib.hid (HP.out.quiet HZ.out hq)
          have HZ0 : Hid (B ≤ wr.heap.size) := Lib.hid (Nat.le_trans HZ.out (hq.below wo.heap.size).size)
          have HPq := HP0
          have HZq := HZ0
          clear HP HZ HP0 HZ0
          have HP := HPq
          have HZ := HZq
          clear HPq HZq hq hk1 hk4 hkl
          obtain ⟨k, hk⟩ : ∃ k, kindOf (x :: rt) = k := ⟨_, rfl⟩
          have hk3 : k ≤ 3 := by rw [← hk]; exact kind_le _
          have HKD := Lib.hid hk
          rw [hk]
          clear hk
          by_cases hk0 : k = 0
          · subst hk0
            by_cases hr : x = 92 ∧ rt = [10]
            · obtain ⟨rfl, rfl⟩ := hr
              by_cases ho : o = true
              · subst ho
                obtain ⟨vl, D, c, H', k', L, y, gl, rfl, rfl, hc9, hv9, hy⟩ := HLA.out
                obtain ⟨x1, x2, hglB, hgl, hpw⟩ := HP.out.pw.cut (y := y.dropLast) hc9
                have hyl : y.length ≤ 67108864 := by
                  have h1 := HP.out.byt
                  have h2 : y.length ≤ bytesK ((H' ++ [(k', L ++ [y])]).map toI) := by unfold bytesK; simp [toI]; omega
                  omega
                have HPW := Lib.hid hpw
                have hDl : D.length = H'.length := by have := HP.out.pw.len; simpa using this
                obtain ⟨g, cap, hvo, _, _, y1, y2, _⟩ := HP.out.pw.at (i := D.length) (c := c) List.getElem?_concat_length
                obtain ⟨kc, ac, nc, cc⟩ := c
                dsimp only at hc9
                subst hc9
                have hnc : nc = L.length + 1 := by
                  have h1 := (HP.out.pw.each D.length _ (k', L ++ [y]) List.getElem?_concat_length (by rw [hDl]; exact List.getElem?_concat_length)).2
                  rcases h1.2 with ⟨h9, _⟩ | ⟨g9, cap9, cur, hv, _⟩
                  · cases h9
                  · cases hv; simp
                subst hnc
                obtain ⟨mm, hmm⟩ : ∃ mm, D.length = mm := ⟨_, rfl⟩
                rw [List.length_append, List.length_singleton, hmm] at hvo
                rw [hmm] at y1 y2
                subst hvo
                have hmb : mm ≤ 4194305 := by have h1 := HP.out.cnt; rw [List.length_append, ← hDl, hmm] at h1; omega
                have hLb : L.length ≤ 4194305 := by
                  have h1 := HP.out.lns
                  have h2 : L.length ≤ linesK ((H' ++ [(k', L ++ [y])]).map toI) := by unfold linesK; simp [toI]; omega
                  omega
                obtain ⟨ln, hln⟩ : ∃ ln, L.length = ln := ⟨_, rfl⟩
                rw [hln] at x1 x2 y2 hLb HPW
                obtain rfl : rl = 1 := HRL.out
                have hyne : y ≠ [] := by rintro rfl; exact absurd hy (by decide)
                obtain ⟨yl, hyl2⟩ : ∃ yl, y.length = yl + 1 := ⟨y.length - 1, by have := List.length_pos_iff.2 hyne; omega⟩
                have hysz : (bstr y).size = yl + 1 := by rw [bstr_size, hyl2]
                have hyt : y.take yl = y.dropLast := by rw [List.dropLast_eq_take, hyl2, Nat.add_sub_cancel]
                unfold slv at y2
                unfold S1 at x1
                dsimp only at y2
                have HLN := Lib.hid hln
                clear hpw hy hyne hmm hln hDl
                go_upto_region 19 with (fail)
                go_region
                all_goals go_wp2
                obtain rfl := HLN.out
                go_roundw
                case rel => exact ⟨i + 1, p + 2, false, D ++ [(kc, some ⟨gl, 0, none⟩, L.length + 1, cc)], lastCut (H' ++ [(k', L ++ [y])]), by go_num, rfl, by go_num, hlt, Lib.hid (HP.out.off HRI.out (fun z hz => by rw [List.getLast?_concat] at hz; cases hz; simp) (by rw [lastCut_snoc, cutLast_snoc]; exact HPW.out.keep ((Below.refl _ _).drew)) (HP.out.bel.setCell hglB _).drew), Lib.hid ⟨_, rfl⟩⟩
                case measure => simp [RowKit.intOf]; omega
              · rw [Bool.not_eq_true] at ho
                subst ho
                go_wp2
                go_ret3
                exact .inl ⟨p, parse_inl (HRW.out ▸ HP.out.bad HRI.out HKD.out (fun h => by cases h.2)), rfl, HB1.out.trans (HP.out.bel.mono (by rw [HBB.out]; exact HB1.out.size))⟩
            · have HNR := Lib.hid hr
              have hnr : ¬ x = 92 ∨ ¬ rt = [10] := by
                by_cases h : x = 92
                · exact .inr (fun h2 => hr ⟨h, h2⟩)
                · exact .inl h
              go_wp2
              go_ret3
              exact .inl ⟨p, parse_inl (HRW.out ▸ HP.out.bad HRI.out HKD.out (fun h => HNR.out (by have h1 := h.1; rw [List.cons.injEq] at h1; exact h1))), rfl, HB1.out.trans (HP.out.bel.mono (by rw [HBB.out]; exact HB1.out.size))⟩
          · have hkz0 : ((k : Int) == 0) = false := by rw [beq_eq_false_iff_ne]; omega
            have hdr2 : rt.take rl = rt := by rw [HRL.out]; exact List.take_length
            have HOW := Lib.hid HP.out.pw
            have HRD := Lib.hid hdr2
            have hcut : ∀ (w8 : World) (v8 : Value), AppPost wr B 25 2 vo hs.length (hs.flatMap hkCells) (hkCells (k, none, 0, 0)) v8 w8 → (∀ z, H.getLast? = some z → z.1 ≠ k) →
                ∃ (g mm cap : Nat) (D : List HCell) (H0 : List Hk) (L : List (List UInt8)) (kc : Nat) (ac : Option Addr) (nc cc : Nat), v8 = .slice (some ⟨g, 0, none⟩) (mm + 1) cap ∧ mm ≤ 4194305 ∧ Hid (L.length ≤ 1073741824) ∧ Hid (D.length = mm) ∧ Hid (PW B w8 (.slice (some ⟨g, 0, none⟩) (mm + 1) cap) (D ++ [(kc, ac, nc, cc)]) (H0 ++ [(k, L)])) ∧ Hid (lastPut H k rt = H0 ++ [(k, L ++ [rt])]) ∧ Hid (Below B w1 w8) := fun w8 v8 hp8 hl => by
              have hpw := HOW.out.open k hp8
              obtain ⟨g, cap, hv8, _⟩ := hpw.at (i := hs.length) List.getElem?_concat_length
              rw [List.length_append, List.length_singleton] at hv8
              subst hv8
              have h1 := HP.out.cnt
              have h2 := HOW.out.len
              exact ⟨g, hs.length, cap, hs, H, [], k, none, 0, 0, rfl, by omega, Lib.hid (Nat.zero_le _), Lib.hid rfl, Lib.hid hpw, Lib.hid (lastPut_new H k rt hl), Lib.hid (HP.out.bel.trans ((hp8.below HOW.out.own HZ.out).mono (by have := HP.out.bel.size; have := HBB.out; omega)))⟩
            have HCUT := Lib.hid hcut
            clear hcut hdr2
            refine Or.elim (snoc_cases H) (fun hH => ?first1) (fun ⟨H', k', L', hH⟩ => ?other1)
            case first1 =>
              have hn0 : hs.length = 0 := by rw [HOW.out.len, hH]; rfl
              have HLK : Hid (∀ z, H.getLast? = some z → z.1 ≠ k) := Lib.hid (fun z hz => by rw [hH] at hz; cases hz)
              obtain ⟨a9, c9, hv9⟩ := slice_own HOW.out.own
              rw [hn0] at hv9
              have HV9 := Lib.hid hv9
              have HHL : Hid (hs.length ≤ 1073741824) := Lib.hid (by omega)
              clear hH hn0
              subst hv9
              go_upto_region 23 with (at_builtin; refine appSep rfl _ _ rfl Tryz.underlying26 (.agg #[.int .i64 0, .slice none 0 0]) 2 32 infoHunk rfl (by decide) (by decide) B wr _ hs.length (hs.flatMap hkCells) (hkCells (k, none, 0, 0)) rfl (hkCells_one _) rfl HOW.out.own rfl rfl HHL.out HZ.out ?_; intro v8 wq hp8; obtain ⟨g, mm, cap, D, H0, L, kc, ac, nc, cc, rfl, hmm, HLL, HMM, HP2, HPUT, HB2⟩ := HCUT.out wq v8 hp8 HLK.out; clear hp8)
              have HWQ : Hid (B ≤ wq.heap.size) := Lib.hid (by have h1 := HB2.out.size; have h2 := HBB.out; omega)
              have HB2 : Hid (Below B w1 wq.drew) := Lib.hid HB2.out.drew
              have HP3 : Hid (PW B wq.drew (.slice (some ⟨g, 0, none⟩) (mm + 1) cap) (D ++ [(kc, ac, nc, cc)]) (H0 ++ [(k, L)])) := Lib.hid (HP2.out.keep ((Below.refl wq.heap.size wq).drew))
              have hd4 : wq.drew.cell? ⟨g, mm * 2 + 1, none⟩ = some (.slice ac nc cc) := (HP2.out.last2 HMM.out).1
              have hd5 : (wq.drew.alloc (.cells #[.string (bstr rt)] 9)).cell? ⟨g, mm * 2 + 1, none⟩ = some (.slice ac nc cc) := (World.cell?_alloc_lt wq.drew (.cells #[S1 rt] 9) ⟨g, mm * 2 + 1, none⟩ (World.block_lt_of_cell? wq.drew _ hd4)).trans hd4
              have hd6 : (wq.alloc (.cells #[.string (bstr rt)] 9)).drew.cell? ⟨g, mm * 2 + 1, none⟩ = some (.slice ac nc cc) := hd5
              have hd7 : (wq.alloc (.cells #[.string (bstr rt)] 9)).cell? ⟨g, mm * 2 + 1, none⟩ = some (.slice ac nc cc) := hd5
              have HLT : Hid (∀ r, Value.ownBlock (.slice ac nc cc) = some r → B ≤ r) := Lib.hid (fun r hr => ((HP2.out.last2 HMM.out).2.lt r hr).1)
              have hrd := HRD.out
              have hmmI : (mm : Int) ≤ 4194305 := by omega
              have hmmJ : (mm : Int) < (mm : Int) + 1 := by omega
              have hwr : IntKind.i64.wrap (mm : Int) = (mm : Int) := IntWalk.i64_in _ (by omega)
              have h1rl : (1 : Int) ≤ (rl : Int) + 1 := by omega
              refine wp_region_held_drew (S := (fun _ : World => True)) (by kernel_rfl) trivial (fun hS0 => ?_)
              refine wpAnyH_take (i := 0) (oi := { dst := some 97, op := Op.move (Operand.tmp 6), type := 26, pos := "ref.go:248", after := #[], guard := none }) (v := ?v0q2) rfl (by kernel_rfl) (by kernel_rfl) (by kernel_rfl) (fun _ _ _ h => h) (Or.inl ⟨by rfl, ?y0q2⟩) trivial ?r0q2
              case y0q2 => (intro w2 hSw; go_simp; try with_reducible rfl)
              try simp only [Act.put, List.setIfInBounds_toArray, List.set_cons_zero, List.set_cons_succ]
              refine wpAnyH_take (i := 1) (oi := { dst := some 98, op := Op.move (Operand.tmp 6), type := 26, pos := "ref.go:248", after := #[], guard := none }) (v := ?v1q3) rfl (by kernel_rfl) (by kernel_rfl) (by kernel_rfl) (fun _ _ _ h => h) (Or.inl ⟨by rfl, ?y1q3⟩) trivial ?r1q3
              case y1q3 => (intro w2 hSw; go_simp; try with_reducible rfl)
              try simp only [Act.put, List.setIfInBounds_toArray, List.set_cons_zero, List.set_cons_succ]
              refine wpAnyH_take (i := 2) (oi := { dst := some 99, op := Op.call { callee := Callee.builtin Builtin.len, args := #[Operand.tmp 98], argTypes := #[26] }, type := 3, pos := "ref.go:248", after := #[{ on := 1, ground := Ground.data }], guard := none }) (v := ?v2q4) rfl (by kernel_rfl) (by kernel_rfl) (by kernel_rfl) (fun _ _ _ h => h) (Or.inl ⟨by rfl, ?y2q4⟩) trivial ?r2q4
              case y2q4 => (intro w2 hSw; go_simp; try with_reducible rfl)
              try simp only [Act.put, List.setIfInBounds_toArray, List.set_cons_zero, List.set_cons_succ]
              refine wpAnyH_take (i := 3) (oi := { dst := some 100, op := Op.binOp BinOp.sub 3 (Operand.tmp 99) (Operand.const (Value.int IntKind.i64 1)) 3, type := 3, pos := "ref.go:248", after := #[{ on := 2, ground := Ground.data }], guard := none }) (v := ?v3q5) rfl (by kernel_rfl) (by kernel_rfl) (by kernel_rfl) (fun _ _ _ h => h) (Or.inl ⟨by rfl, ?y3q5⟩) trivial ?r3q5
              case y3q5 => (intro w2 hSw; go_simp; try with_reducible rfl)
              try simp only [Act.put, List.setIfInBounds_toArray, List.set_cons_zero, List.set_cons_succ]
              refine wpAnyH_take (i := 4) (oi := { dst := some 101, op := Op.move (Operand.tmp 6), type := 26, pos := "ref.go:248", after := #[], guard := none }) (v := ?v4q6) rfl (by kernel_rfl) (by kernel_rfl) (by kernel_rfl) (fun _ _ _ h => h) (Or.inl ⟨by rfl, ?y4q6⟩) trivial ?r4q6
              case y4q6 => (intro w2 hSw; go_simp; try with_reducible rfl)
              try simp only [Act.put, List.setIfInBounds_toArray, List.set_cons_zero, List.set_cons_succ]
              refine wpAnyH_take (i := 5) (oi := { dst := some 102, op := Op.move (Operand.tmp 6), type := 26, pos := "ref.go:248", after := #[], guard := none }) (v := ?v5q7) rfl (by kernel_rfl) (by kernel_rfl) (by kernel_rfl) (fun _ _ _ h => h) (Or.inl ⟨by rfl, ?y5q7⟩) trivial ?r5q7
              case y5q7 => (intro w2 hSw; go_simp; try with_reducible rfl)
              try simp only [Act.put, List.setIfInBounds_toArray, List.set_cons_zero, List.set_cons_succ]
              refine wpAnyH_take (i := 6) (oi := { dst := some 103, op := Op.call { callee := Callee.builtin Builtin.len, args := #[Operand.tmp 102], argTypes := #[26] }, type := 3, pos := "ref.go:248", after := #[{ on := 5, ground := Ground.data }], guard := none }) (v := ?v6q8) rfl (by kernel_rfl) (by kernel_rfl) (by kernel_rfl) (fun _ _ _ h => h) (Or.inl ⟨by rfl, ?y6q8⟩) trivial ?r6q8
              case y6q8 => (intro w2 hSw; go_simp; try with_reducible rfl)
              try simp only [Act.put, List.setIfInBounds_toArray, List.set_cons_zero, List.set_cons_succ]
              refine wpAnyH_take (i := 7) (oi := { dst := some 104, op := Op.binOp BinOp.sub 3 (Operand.tmp 103) (Operand.const (Value.int IntKind.i64 1)) 3, type := 3, pos := "ref.go:248", after := #[{ on := 6, ground := Ground.data }], guard := none }) (v := ?v7q9) rfl (by kernel_rfl) (by kernel_rfl) (by kernel_rfl) (fun _ _ _ h => h) (Or.inl ⟨by rfl, ?y7q9⟩) trivial ?r7q9
              case y7q9 => (intro w2 hSw; go_simp; try with_reducible rfl)
              try simp only [Act.put, List.setIfInBounds_toArray, List.set_cons_zero, List.set_cons_succ]
              refine wpAnyH_take (i := 8) (oi := { dst := some 105, op := Op.indexAddr 26 (Operand.tmp 101) (Operand.tmp 104), type := 0, pos := "ref.go:248", after := #[{ on := 4, ground := Ground.data }, { on := 7, ground := Ground.data }], guard := none }) (v := ?v8q10) rfl (by kernel_rfl) (by kernel_rfl) (by kernel_rfl) (fun _ _ _ h => h) (Or.inl ⟨by rfl, ?y8q10⟩) trivial ?r8q10
              case y8q10 => (intro w2 hSw; go_simp; try with_reducible rfl)
              try simp only [Act.put, List.setIfInBounds_toArray, List.set_cons_zero, List.set_cons_succ]
              refine wpAnyH_take (i := 9) (oi := { dst := some 106, op := Op.fieldAddr 25 (Operand.tmp 105) 1, type := 0, pos := "ref.go:248", after := #[{ on := 8, ground := Ground.data }], guard := none }) (v := ?v9q11) rfl (by kernel_rfl) (by kernel_rfl) (by kernel_rfl) (fun _ _ _ h => h) (Or.inl ⟨by rfl, ?y9q11⟩) trivial ?r9q11
              case y9q11 => (intro w2 hSw; go_simp; try with_reducible rfl)
              try simp only [Act.put, List.setIfInBounds_toArray, List.set_cons_zero, List.set_cons_succ]
              refine wpAnyH_take (i := 11) (oi := { dst := some 108, op := Op.move (Operand.tmp 10), type := 9, pos := "ref.go:248", after := #[], guard := none }) (v := ?v11q12) rfl (by kernel_rfl) (by kernel_rfl) (by kernel_rfl) (fun _ _ _ h => h) (Or.inl ⟨by rfl, ?y11q12⟩) trivial ?r11q12
              case y11q12 => (intro w2 hSw; go_simp; try with_reducible rfl)
              try simp only [Act.put, List.setIfInBounds_toArray, List.set_cons_zero, List.set_cons_succ]
              refine wpAnyH_take (i := 12) (oi := { dst := some 109, op := Op.slice 9 (Operand.tmp 108) (some (Operand.const (Value.int IntKind.i64 1))) none none, type := 9, pos := "ref.go:248", after := #[{ on := 11, ground := Ground.data }], guard := none }) (v := ?v12q13) rfl (by kernel_rfl) (by kernel_rfl) (by kernel_rfl) (fun _ _ _ h => h) (Or.inl ⟨by rfl, ?y12q13⟩) trivial ?r12q13
              case y12q13 => (intro w2 hSw; go_simp; try with_reducible rfl)
              try simp only [Act.put, List.setIfInBounds_toArray, List.set_cons_zero, List.set_cons_succ]
              refine wpAnyH_ready (rs := [10, 13]) (by kernel_rfl) (by simp) (AllReadyH.cons rfl (fun K' hK => ?p10c1) (AllReadyH.cons rfl (fun K' hK => ?p13c1) AllReadyH.nil))
              case p10c1 =>
                go_simp
                refine hK.out _ _ trivial (fun hSn => ?_)
                try simp only [Act.put, List.setIfInBounds_toArray, List.set_cons_zero, List.set_cons_succ]
                clear hK K'
                refine wpAnyH_ready (rs := [13]) (by kernel_rfl) (by simp) (AllReadyH.cons (o := { dst := some 110, op := Op.buildSlice 22 1 #[(0, Operand.tmp 109)], type := 22, pos := "ref.go:248", after := #[{ on := 12, ground := Ground.data }], guard := none }) rfl (fun K' hK => ?_) AllReadyH.nil)
                go_simp
                refine hK.out _ _ trivial (fun hSn => ?_)
                try simp only [Act.put, List.setIfInBounds_toArray, List.set_cons_zero, List.set_cons_succ]
                clear hK K'
                refine wpAnyH_ready (rs := [14]) (by kernel_rfl) (by simp) (AllReadyH.cons (o := { dst := some 111, op := Op.call { callee := Callee.builtin Builtin.append, args := #[Operand.tmp 107, Operand.tmp 110], argTypes := #[22, 22] }, type := 22, pos := "ref.go:248", after := #[{ on := 10, ground := Ground.data }, { on := 13, ground := Ground.data }], guard := none }) rfl (fun K' hK => ?_) AllReadyH.nil)
                refine stepSep (by rfl) _ _ (by rfl) Tryz.underlying22 (.string ByteArray.empty) 1 16 infoStr (by rfl) (by decide) (by decide) B wq.drew (.slice ac nc cc) L.length (L.map S1) [S1 rt] (by rfl) (by intro u hu; simp only [List.mem_singleton] at hu; subst hu; rfl) (by rfl) (HP3.out.last2 HMM.out).2 (by rfl) (by rfl) HLL.out HWQ.out ?_
                intro v8 w8 hp8
                obtain ⟨gl, cc8, rfl, hglB, x1, x2, hgB, hgl8, hpw8, hgr8⟩ := HP3.out.line2 HMM.out hp8
                have HP8 := Lib.hid hpw8
                have HB8 : Hid (Below B w1 ((w8.setCell ⟨g, mm * 2 + 1, none⟩ (.slice (some ⟨gl, 0, none⟩) (L.length + 1) cc8)))) := Lib.hid ((HB2.out.grown hgr8 HWQ.out HLT.out).setCell hgB _)
                clear hpw8 hgr8 hp8
                refine hK.out _ _ trivial (fun hSn => ?_)
                try simp only [Act.put, List.setIfInBounds_toArray, List.set_cons_zero, List.set_cons_succ]
                clear hK K'
                refine wpAnyH_take (i := 15) (oi := { dst := some 112, op := Op.indexAddr 26 (Operand.tmp 97) (Operand.tmp 100), type := 0, pos := "ref.go:248", after := #[{ on := 0, ground := Ground.data }, { on := 3, ground := Ground.data }, { on := 0, ground := Ground.phase }, { on := 1, ground := Ground.phase }, { on := 2, ground := Ground.phase }, { on := 3, ground := Ground.phase }, { on := 4, ground := Ground.phase }, { on := 5, ground := Ground.phase }, { on := 6, ground := Ground.phase }, { on := 7, ground := Ground.phase }, { on := 8, ground := Ground.phase }, { on := 9, ground := Ground.phase }, { on := 10, ground := Ground.phase }, { on := 11, ground := Ground.phase }, { on := 12, ground := Ground.phase }, { on := 13, ground := Ground.phase }, { on := 14, ground := Ground.phase }], guard := none }) (v := ?v15q14) rfl (by kernel_rfl) (by kernel_rfl) (by kernel_rfl) (fun _ _ _ h => h) (Or.inl ⟨by rfl, ?y15q14⟩) trivial ?r15q14
                case y15q14 => (intro w2 hSw; go_simp; try with_reducible rfl)
                try simp only [Act.put, List.setIfInBounds_toArray, List.set_cons_zero, List.set_cons_succ]
                refine wpAnyH_take (i := 16) (oi := { dst := some 113, op := Op.fieldAddr 25 (Operand.tmp 112) 1, type := 0, pos := "ref.go:248", after := #[{ on := 15, ground := Ground.data }, { on := 0, ground := Ground.phase }, { on := 1, ground := Ground.phase }, { on := 2, ground := Ground.phase }, { on := 3, ground := Ground.phase }, { on := 4, ground := Ground.phase }, { on := 5, ground := Ground.phase }, { on := 6, ground := Ground.phase }, { on := 7, ground := Ground.phase }, { on := 8, ground := Ground.phase }, { on := 9, ground := Ground.phase }, { on := 10, ground := Ground.phase }, { on := 11, ground := Ground.phase }, { on := 12, ground := Ground.phase }, { on := 13, ground := Ground.phase }, { on := 14, ground := Ground.phase }], guard := none }) (v := ?v16q15) rfl (by kernel_rfl) (by kernel_rfl) (by kernel_rfl) (fun _ _ _ h => h) (Or.inl ⟨by rfl, ?y16q15⟩) trivial ?r16q15
                case y16q15 => (intro w2 hSw; go_simp; try with_reducible rfl)
                try simp only [Act.put, List.setIfInBounds_toArray, List.set_cons_zero, List.set_cons_succ]
                refine wpAnyH_ready (rs := [17]) (by kernel_rfl) (by simp) (AllReadyH.cons (o := { dst := none, op := Op.store 22 (Operand.tmp 113) (Operand.tmp 111), type := 0, pos := "ref.go:248", after := #[{ on := 16, ground := Ground.data }, { on := 14, ground := Ground.data }, { on := 14, ground := Ground.chain }, { on := 0, ground := Ground.phase }, { on := 1, ground := Ground.phase }, { on := 2, ground := Ground.phase }, { on := 3, ground := Ground.phase }, { on := 4, ground := Ground.phase }, { on := 5, ground := Ground.phase }, { on := 6, ground := Ground.phase }, { on := 7, ground := Ground.phase }, { on := 8, ground := Ground.phase }, { on := 9, ground := Ground.phase }, { on := 10, ground := Ground.phase }, { on := 11, ground := Ground.phase }, { on := 12, ground := Ground.phase }, { on := 13, ground := Ground.phase }, { on := 14, ground := Ground.phase }], guard := none }) rfl (fun K' hK => ?_) AllReadyH.nil)
                go_simp
                refine hK.out _ _ trivial (fun hSn => ?_)
                try simp only [Act.put, List.setIfInBounds_toArray, List.set_cons_zero, List.set_cons_succ]
                clear hK K'
                refine wpAnyH_done (by kernel_rfl) ?_ _
                have HNX : Hid (PL B w1 rows (i + 1) (p + (rl + 1)) (endsTen (x :: rt)) (D ++ [(kc, some ⟨gl, 0, none⟩, L.length + 1, cc8)]) (H0 ++ [(k, L ++ [rt])]) (.slice (some ⟨g, 0, none⟩) (mm + 1) cap) (w8.setCell ⟨g, mm * 2 + 1, none⟩ (.slice (some ⟨gl, 0, none⟩) (L.length + 1) cc8))) := Lib.hid (by
                  have h1 := HP.out.put (k := k) HRI.out HKD.out hk0 (HPUT.out ▸ HP8.out) HB8.out
                  rw [HPUT.out, ← HRL.out] at h1
                  exact h1)
                have HLS : Hid (∃ vl, LastP (endsTen (x :: rt)) vl (D ++ [(kc, some ⟨gl, 0, none⟩, L.length + 1, cc8)]) (H0 ++ [(k, L ++ [rt])])) := Lib.hid (last_any (by rw [HKD.out]; exact hk0))
                obtain ⟨w9, hw9⟩ : ∃ W, W = w8.setCell ⟨g, mm * 2 + 1, none⟩ (.slice (some ⟨gl, 0, none⟩) (L.length + 1) cc8) := ⟨_, rfl⟩
                rw [← hw9] at HNX ⊢
                clear HP8 HB8 HP3 hw9 x1 x2
                go_wp2
                go_roundw
                case rel => exact ⟨i + 1, p + (rl + 1), _, _, _, by go_num, congrArg Value.bool (ends_idx HRL.out _), by go_num, hlt, HNX, HLS⟩
                case measure => simp [RowKit.intOf]; omega
              case p13c1 =>
                go_simp
                refine hK.out _ _ trivial (fun hSn => ?_)
                try simp only [Act.put, List.setIfInBounds_toArray, List.set_cons_zero, List.set_cons_succ]
                clear hK K'
                refine wpAnyH_ready (rs := [10]) (by kernel_rfl) (by simp) (AllReadyH.cons (o := { dst := some 107, op := Op.load 22 (Operand.tmp 106), type := 22, pos := "ref.go:248", after := #[{ on := 9, ground := Ground.data }], guard := none }) rfl (fun K' hK => ?_) AllReadyH.nil)
                go_simp
                refine hK.out _ _ trivial (fun hSn => ?_)
                try simp only [Act.put, List.setIfInBounds_toArray, List.set_cons_zero, List.set_cons_succ]
                clear hK K'
                refine wpAnyH_ready (rs := [14]) (by kernel_rfl) (by simp) (AllReadyH.cons (o := { dst := some 111, op := Op.call { callee := Callee.builtin Builtin.append, args := #[Operand.tmp 107, Operand.tmp 110], argTypes := #[22, 22] }, type := 22, pos := "ref.go:248", after := #[{ on := 10, ground := Ground.data }, { on := 13, ground := Ground.data }], guard := none }) rfl (fun K' hK => ?_) AllReadyH.nil)
                refine stepSep (by rfl) _ _ (by rfl) Tryz.underlying22 (.string ByteArray.empty) 1 16 infoStr (by rfl) (by decide) (by decide) B wq.drew (.slice ac nc cc) L.length (L.map S1) [S1 rt] (by rfl) (by intro u hu; simp only [List.mem_singleton] at hu; subst hu; rfl) (by rfl) (HP3.out.last2 HMM.out).2 (by rfl) (by rfl) HLL.out HWQ.out ?_
                intro v8 w8 hp8
                obtain ⟨gl, cc8, rfl, hglB, x1, x2, hgB, hgl8, hpw8, hgr8⟩ := HP3.out.line2 HMM.out hp8
                have HP8 := Lib.hid hpw8
                have HB8 : Hid (Below B w1 ((w8.setCell ⟨g, mm * 2 + 1, none⟩ (.slice (some ⟨gl, 0, none⟩) (L.length + 1) cc8)))) := Lib.hid ((HB2.out.grown hgr8 HWQ.out HLT.out).setCell hgB _)
                clear hpw8 hgr8 hp8
                refine hK.out _ _ trivial (fun hSn => ?_)
                try simp only [Act.put, List.setIfInBounds_toArray, List.set_cons_zero, List.set_cons_succ]
                clear hK K'
                refine wpAnyH_take (i := 15) (oi := { dst := some 112, op := Op.indexAddr 26 (Operand.tmp 97) (Operand.tmp 100), type := 0, pos := "ref.go:248", after := #[{ on := 0, ground := Ground.data }, { on := 3, ground := Ground.data }, { on := 0, ground := Ground.phase }, { on := 1, ground := Ground.phase }, { on := 2, ground := Ground.phase }, { on := 3, ground := Ground.phase }, { on := 4, ground := Ground.phase }, { on := 5, ground := Ground.phase }, { on := 6, ground := Ground.phase }, { on := 7, ground := Ground.phase }, { on := 8, ground := Ground.phase }, { on := 9, ground := Ground.phase }, { on := 10, ground := Ground.phase }, { on := 11, ground := Ground.phase }, { on := 12, ground := Ground.phase }, { on := 13, ground := Ground.phase }, { on := 14, ground := Ground.phase }], guard := none }) (v := ?v15q16) rfl (by kernel_rfl) (by kernel_rfl) (by kernel_rfl) (fun _ _ _ h => h) (Or.inl ⟨by rfl, ?y15q16⟩) trivial ?r15q16
                case y15q16 => (intro w2 hSw; go_simp; try with_reducible rfl)
                try simp only [Act.put, List.setIfInBounds_toArray, List.set_cons_zero, List.set_cons_succ]
                refine wpAnyH_take (i := 16) (oi := { dst := some 113, op := Op.fieldAddr 25 (Operand.tmp 112) 1, type := 0, pos := "ref.go:248", after := #[{ on := 15, ground := Ground.data }, { on := 0, ground := Ground.phase }, { on := 1, ground := Ground.phase }, { on := 2, ground := Ground.phase }, { on := 3, ground := Ground.phase }, { on := 4, ground := Ground.phase }, { on := 5, ground := Ground.phase }, { on := 6, ground := Ground.phase }, { on := 7, ground := Ground.phase }, { on := 8, ground := Ground.phase }, { on := 9, ground := Ground.phase }, { on := 10, ground := Ground.phase }, { on := 11, ground := Ground.phase }, { on := 12, ground := Ground.phase }, { on := 13, ground := Ground.phase }, { on := 14, ground := Ground.phase }], guard := none }) (v := ?v16q17) rfl (by kernel_rfl) (by kernel_rfl) (by kernel_rfl) (fun _ _ _ h => h) (Or.inl ⟨by rfl, ?y16q17⟩) trivial ?r16q17
                case y16q17 => (intro w2 hSw; go_simp; try with_reducible rfl)
                try simp only [Act.put, List.setIfInBounds_toArray, List.set_cons_zero, List.set_cons_succ]
                refine wpAnyH_ready (rs := [17]) (by kernel_rfl) (by simp) (AllReadyH.cons (o := { dst := none, op := Op.store 22 (Operand.tmp 113) (Operand.tmp 111), type := 0, pos := "ref.go:248", after := #[{ on := 16, ground := Ground.data }, { on := 14, ground := Ground.data }, { on := 14, ground := Ground.chain }, { on := 0, ground := Ground.phase }, { on := 1, ground := Ground.phase }, { on := 2, ground := Ground.phase }, { on := 3, ground := Ground.phase }, { on := 4, ground := Ground.phase }, { on := 5, ground := Ground.phase }, { on := 6, ground := Ground.phase }, { on := 7, ground := Ground.phase }, { on := 8, ground := Ground.phase }, { on := 9, ground := Ground.phase }, { on := 10, ground := Ground.phase }, { on := 11, ground := Ground.phase }, { on := 12, ground := Ground.phase }, { on := 13, ground := Ground.phase }, { on := 14, ground := Ground.phase }], guard := none }) rfl (fun K' hK => ?_) AllReadyH.nil)
                go_simp
                refine hK.out _ _ trivial (fun hSn => ?_)
                try simp only [Act.put, List.setIfInBounds_toArray, List.set_cons_zero, List.set_cons_succ]
                clear hK K'
                refine wpAnyH_done (by kernel_rfl) ?_ _
                have HNX : Hid (PL B w1 rows (i + 1) (p + (rl + 1)) (endsTen (x :: rt)) (D ++ [(kc, some ⟨gl, 0, none⟩, L.length + 1, cc8)]) (H0 ++ [(k, L ++ [rt])]) (.slice (some ⟨g, 0, none⟩) (mm + 1) cap) (w8.setCell ⟨g, mm * 2 + 1, none⟩ (.slice (some ⟨gl, 0, none⟩) (L.length + 1) cc8))) := Lib.hid (by
                  have h1 := HP.out.put (k := k) HRI.out HKD.out hk0 (HPUT.out ▸ HP8.out) HB8.out
                  rw [HPUT.out, ← HRL.out] at h1
                  exact h1)
                have HLS : Hid (∃ vl, LastP (endsTen (x :: rt)) vl (D ++ [(kc, some ⟨gl, 0, none⟩, L.length + 1, cc8)]) (H0 ++ [(k, L ++ [rt])])) := Lib.hid (last_any (by rw [HKD.out]; exact hk0))
                obtain ⟨w9, hw9⟩ : ∃ W, W = w8.setCell ⟨g, mm * 2 + 1, none⟩ (.slice (some ⟨gl, 0, none⟩) (L.length + 1) cc8) := ⟨_, rfl⟩
                rw [← hw9] at HNX ⊢
                clear HP8 HB8 HP3 hw9 x1 x2
                go_wp2
                go_roundw
                case rel => exact ⟨i + 1, p + (rl + 1), _, _, _, by go_num, congrArg Value.bool (ends_idx HRL.out _), by go_num, hlt, HNX, HLS⟩
                case measure => simp [RowKit.intOf]; omega
            case' other1 =>
              obtain ⟨D, ⟨kc, ac, nc, cc⟩, hD⟩ := snocC_cases (hH ▸ HOW.out.len)
              obtain ⟨m1, hm1⟩ : ∃ m1, D.length = m1 := ⟨_, rfl⟩
              have hsl : hs.length = m1 + 1 := by rw [hD, List.length_append, hm1]; rfl
              obtain ⟨g, cap, hv9, _, _, y1, _⟩ := HOW.out.at (i := m1) (c := (kc, ac, nc, cc)) (by rw [hD, ← hm1]; exact List.getElem?_concat_length)
              have hkc : kc = k' := (HOW.out.each m1 (kc, ac, nc, cc) (k', L') (by rw [hD, ← hm1]; exact List.getElem?_concat_length) (by rw [hH, show m1 = H'.length by have := HOW.out.len; rw [hH, List.length_append, hsl] at this; simpa using this]; exact List.getElem?_concat_length)).1
              rw [hsl] at hv9
              subst hv9
              dsimp only at y1
              have hm1b : m1 ≤ 4194305 := by have h1 := HP.out.cnt; have h2 := HOW.out.len; omega
              have HHL : Hid (hs.length ≤ 1073741824) := Lib.hid (by omega)
              refine Or.elim (Decidable.em (kc = k)) (fun hkk => ?same1) (fun hkk => ?new1)
            case same1 =>
              have hkz : ((kc : Int) != (k : Int)) = false := by rw [hkk]; simp
              have HPUT : Hid (lastPut H k rt = H' ++ [(k, L' ++ [rt])]) := Lib.hid (by rw [hH, ← hkk, hkc]; exact lastPut_same _ _ _ _)
              have HP2 : Hid (PW B wr (.slice (some ⟨g, 0, none⟩) (m1 + 1) cap) (D ++ [(kc, ac, nc, cc)]) (H' ++ [(k, L')])) := Lib.hid (by have h1 := HOW.out; rw [hH, hD] at h1; rw [show k = k' by omega]; exact h1)
              have HLL : Hid (L'.length ≤ 1073741824) := Lib.hid (by
                have h1 := HP.out.lns
                have h2 : L'.length ≤ linesK (H.map toI) := by rw [hH]; unfold linesK; simp [toI]
                omega)
              have HMM := Lib.hid hm1
              have HB2 := Lib.hid HP.out.bel
              clear hH hD hm1 hsl hkc hkk
              go_upto_region 23 with (fail)
              obtain ⟨mm, rfl⟩ : ∃ mm, mm = m1 := ⟨_, rfl⟩
              obtain ⟨wq, rfl⟩ : ∃ wq : World, wq = wr := ⟨_, rfl⟩
              obtain ⟨L, rfl⟩ : ∃ L, L = L' := ⟨_, rfl⟩
              obtain ⟨H0, rfl⟩ : ∃ H0, H0 = H' := ⟨_, rfl⟩
              have hmm := hm1b
              have HWQ : Hid (B ≤ wq.heap.size) := Lib.hid (by have h1 := HB2.out.size; have h2 := HBB.out; omega)
              have HB2 : Hid (Below B w1 wq.drew) := Lib.hid HB2.out.drew
              have HP3 : Hid (PW B wq.drew (.slice (some ⟨g, 0, none⟩) (mm + 1) cap) (D ++ [(kc, ac, nc, cc)]) (H0 ++ [(k, L)])) := Lib.hid (HP2.out.keep ((Below.refl wq.heap.size wq).drew))
              have hd4 : wq.drew.cell? ⟨g, mm * 2 + 1, none⟩ = some (.slice ac nc cc) := (HP2.out.last2 HMM.out).1
              have hd5 : (wq.drew.alloc (.cells #[.string (bstr rt)] 9)).cell? ⟨g, mm * 2 + 1, none⟩ = some (.slice ac nc cc) := (World.cell?_alloc_lt wq.drew (.cells #[S1 rt] 9) ⟨g, mm * 2 + 1, none⟩ (World.block_lt_of_cell? wq.drew _ hd4)).trans hd4
              have hd6 : (wq.alloc (.cells #[.string (bstr rt)] 9)).drew.cell? ⟨g, mm * 2 + 1, none⟩ = some (.slice ac nc cc) := hd5
              have hd7 : (wq.alloc (.cells #[.string (bstr rt)] 9)).cell? ⟨g, mm * 2 + 1, none⟩ = some (.slice ac nc cc) := hd5
              have HLT : Hid (∀ r, Value.ownBlock (.slice ac nc cc) = some r → B ≤ r) := Lib.hid (fun r hr => ((HP2.out.last2 HMM.out).2.lt r hr).1)
              have hrd := HRD.out
              have hmmI : (mm : Int) ≤ 4194305 := by omega
              have hmmJ : (mm : Int) < (mm : Int) + 1 := by omega
              have hwr : IntKind.i64.wrap (mm : Int) = (mm : Int) := IntWalk.i64_in _ (by omega)
              have h1rl : (1 : Int) ≤ (rl : Int) + 1 := by omega
              refine wp_region_held_drew (S := (fun _ : World => True)) (by kernel_rfl) trivial (fun hS0 => ?_)
              refine wpAnyH_take (i := 0) (oi := { dst := some 97, op := Op.move (Operand.tmp 6), type := 26, pos := "ref.go:248", after := #[], guard := none }) (v := ?v0q19) rfl (by kernel_rfl) (by kernel_rfl) (by kernel_rfl) (fun _ _ _ h => h) (Or.inl ⟨by rfl, ?y0q19⟩) trivial ?r0q19
              case y0q19 => (intro w2 hSw; go_simp; try with_reducible rfl)
              try simp only [Act.put, List.setIfInBounds_toArray, List.set_cons_zero, List.set_cons_succ]
              refine wpAnyH_take (i := 1) (oi := { dst := some 98, op := Op.move (Operand.tmp 6), type := 26, pos := "ref.go:248", after := #[], guard := none }) (v := ?v1q20) rfl (by kernel_rfl) (by kernel_rfl) (by kernel_rfl) (fun _ _ _ h => h) (Or.inl ⟨by rfl, ?y1q20⟩) trivial ?r1q20
              case y1q20 => (intro w2 hSw; go_simp; try with_reducible rfl)
              try simp only [Act.put, List.setIfInBounds_toArray, List.set_cons_zero, List.set_cons_succ]
              refine wpAnyH_take (i := 2) (oi := { dst := some 99, op := Op.call { callee := Callee.builtin Builtin.len, args := #[Operand.tmp 98], argTypes := #[26] }, type := 3, pos := "ref.go:248", after := #[{ on := 1, ground := Ground.data }], guard := none }) (v := ?v2q21) rfl (by kernel_rfl) (by kernel_rfl) (by kernel_rfl) (fun _ _ _ h => h) (Or.inl ⟨by rfl, ?y2q21⟩) trivial ?r2q21
              case y2q21 => (intro w2 hSw; go_simp; try with_reducible rfl)
              try simp only [Act.put, List.setIfInBounds_toArray, List.set_cons_zero, List.set_cons_succ]
              refine wpAnyH_take (i := 3) (oi := { dst := some 100, op := Op.binOp BinOp.sub 3 (Operand.tmp 99) (Operand.const (Value.int IntKind.i64 1)) 3, type := 3, pos := "ref.go:248", after := #[{ on := 2, ground := Ground.data }], guard := none }) (v := ?v3q22) rfl (by kernel_rfl) (by kernel_rfl) (by kernel_rfl) (fun _ _ _ h => h) (Or.inl ⟨by rfl, ?y3q22⟩) trivial ?r3q22
              case y3q22 => (intro w2 hSw; go_simp; try with_reducible rfl)
              try simp only [Act.put, List.setIfInBounds_toArray, List.set_cons_zero, List.set_cons_succ]
              refine wpAnyH_take (i := 4) (oi := { dst := some 101, op := Op.move (Operand.tmp 6), type := 26, pos := "ref.go:248", after := #[], guard := none }) (v := ?v4q23) rfl (by kernel_rfl) (by kernel_rfl) (by kernel_rfl) (fun _ _ _ h => h) (Or.inl ⟨by rfl, ?y4q23⟩) trivial ?r4q23
              case y4q23 => (intro w2 hSw; go_simp; try with_reducible rfl)
              try simp only [Act.put, List.setIfInBounds_toArray, List.set_cons_zero, List.set_cons_succ]
              refine wpAnyH_take (i := 5) (oi := { dst := some 102, op := Op.move (Operand.tmp 6), type := 26, pos := "ref.go:248", after := #[], guard := none }) (v := ?v5q24) rfl (by kernel_rfl) (by kernel_rfl) (by kernel_rfl) (fun _ _ _ h => h) (Or.inl ⟨by rfl, ?y5q24⟩) trivial ?r5q24
              case y5q24 => (intro w2 hSw; go_simp; try with_reducible rfl)
              try simp only [Act.put, List.setIfInBounds_toArray, List.set_cons_zero, List.set_cons_succ]
              refine wpAnyH_take (i := 6) (oi := { dst := some 103, op := Op.call { callee := Callee.builtin Builtin.len, args := #[Operand.tmp 102], argTypes := #[26] }, type := 3, pos := "ref.go:248", after := #[{ on := 5, ground := Ground.data }], guard := none }) (v := ?v6q25) rfl (by kernel_rfl) (by kernel_rfl) (by kernel_rfl) (fun _ _ _ h => h) (Or.inl ⟨by rfl, ?y6q25⟩) trivial ?r6q25
              case y6q25 => (intro w2 hSw; go_simp; try with_reducible rfl)
              try simp only [Act.put, List.setIfInBounds_toArray, List.set_cons_zero, List.set_cons_succ]
              refine wpAnyH_take (i := 7) (oi := { dst := some 104, op := Op.binOp BinOp.sub 3 (Operand.tmp 103) (Operand.const (Value.int IntKind.i64 1)) 3, type := 3, pos := "ref.go:248", after := #[{ on := 6, ground := Ground.data }], guard := none }) (v := ?v7q26) rfl (by kernel_rfl) (by kernel_rfl) (by kernel_rfl) (fun _ _ _ h => h) (Or.inl ⟨by rfl, ?y7q26⟩) trivial ?r7q26
              case y7q26 => (intro w2 hSw; go_simp; try with_reducible rfl)
              try simp only [Act.put, List.setIfInBounds_toArray, List.set_cons_zero, List.set_cons_succ]
              refine wpAnyH_take (i := 8) (oi := { dst := some 105, op := Op.indexAddr 26 (Operand.tmp 101) (Operand.tmp 104), type := 0, pos := "ref.go:248", after := #[{ on := 4, ground := Ground.data }, { on := 7, ground := Ground.data }], guard := none }) (v := ?v8q27) rfl (by kernel_rfl) (by kernel_rfl) (by kernel_rfl) (fun _ _ _ h => h) (Or.inl ⟨by rfl, ?y8q27⟩) trivial ?r8q27
              case y8q27 => (intro w2 hSw; go_simp; try with_reducible rfl)
              try simp only [Act.put, List.setIfInBounds_toArray, List.set_cons_zero, List.set_cons_succ]
              refine wpAnyH_take (i := 9) (oi := { dst := some 106, op := Op.fieldAddr 25 (Operand.tmp 105) 1, type := 0, pos := "ref.go:248", after := #[{ on := 8, ground := Ground.data }], guard := none }) (v := ?v9q28) rfl (by kernel_rfl) (by kernel_rfl) (by kernel_rfl) (fun _ _ _ h => h) (Or.inl ⟨by rfl, ?y9q28⟩) trivial ?r9q28
              case y9q28 => (intro w2 hSw; go_simp; try with_reducible rfl)
              try simp only [Act.put, List.setIfInBounds_toArray, List.set_cons_zero, List.set_cons_succ]
              refine wpAnyH_take (i := 11) (oi := { dst := some 108, op := Op.move (Operand.tmp 10), type := 9, pos := "ref.go:248", after := #[], guard := none }) (v := ?v11q29) rfl (by kernel_rfl) (by kernel_rfl) (by kernel_rfl) (fun _ _ _ h => h) (Or.inl ⟨by rfl, ?y11q29⟩) trivial ?r11q29
              case y11q29 => (intro w2 hSw; go_simp; try with_reducible rfl)
              try simp only [Act.put, List.setIfInBounds_toArray, List.set_cons_zero, List.set_cons_succ]
              refine wpAnyH_take (i := 12) (oi := { dst := some 109, op := Op.slice 9 (Operand.tmp 108) (some (Operand.const (Value.int IntKind.i64 1))) none none, type := 9, pos := "ref.go:248", after := #[{ on := 11, ground := Ground.data }], guard := none }) (v := ?v12q30) rfl (by kernel_rfl) (by kernel_rfl) (by kernel_rfl) (fun _ _ _ h => h) (Or.inl ⟨by rfl, ?y12q30⟩) trivial ?r12q30
              case y12q30 => (intro w2 hSw; go_simp; try with_reducible rfl)
              try simp only [Act.put, List.setIfInBounds_toArray, List.set_cons_zero, List.set_cons_succ]
              refine wpAnyH_ready (rs := [10, 13]) (by kernel_rfl) (by simp) (AllReadyH.cons rfl (fun K' hK => ?p10c18) (AllReadyH.cons rfl (fun K' hK => ?p13c18) AllReadyH.nil))
              case p10c18 =>
                go_simp
                refine hK.out _ _ trivial (fun hSn => ?_)
                try simp only [Act.put, List.setIfInBounds_toArray, List.set_cons_zero, List.set_cons_succ]
                clear hK K'
                refine wpAnyH_ready (rs := [13]) (by kernel_rfl) (by simp) (AllReadyH.cons (o := { dst := some 110, op := Op.buildSlice 22 1 #[(0, Operand.tmp 109)], type := 22, pos := "ref.go:248", after := #[{ on := 12, ground := Ground.data }], guard := none }) rfl (fun K' hK => ?_) AllReadyH.nil)
                go_simp
                refine hK.out _ _ trivial (fun hSn => ?_)
                try simp only [Act.put, List.setIfInBounds_toArray, List.set_cons_zero, List.set_cons_succ]
                clear hK K'
                refine wpAnyH_ready (rs := [14]) (by kernel_rfl) (by simp) (AllReadyH.cons (o := { dst := some 111, op := Op.call { callee := Callee.builtin Builtin.append, args := #[Operand.tmp 107, Operand.tmp 110], argTypes := #[22, 22] }, type := 22, pos := "ref.go:248", after := #[{ on := 10, ground := Ground.data }, { on := 13, ground := Ground.data }], guard := none }) rfl (fun K' hK => ?_) AllReadyH.nil)
                refine stepSep (by rfl) _ _ (by rfl) Tryz.underlying22 (.string ByteArray.empty) 1 16 infoStr (by rfl) (by decide) (by decide) B wq.drew (.slice ac nc cc) L.length (L.map S1) [S1 rt] (by rfl) (by intro u hu; simp only [List.mem_singleton] at hu; subst hu; rfl) (by rfl) (HP3.out.last2 HMM.out).2 (by rfl) (by rfl) HLL.out HWQ.out ?_
                intro v8 w8 hp8
                obtain ⟨gl, cc8, rfl, hglB, x1, x2, hgB, hgl8, hpw8, hgr8⟩ := HP3.out.line2 HMM.out hp8
                have HP8 := Lib.hid hpw8
                have HB8 : Hid (Below B w1 ((w8.setCell ⟨g, mm * 2 + 1, none⟩ (.slice (some ⟨gl, 0, none⟩) (L.length + 1) cc8)))) := Lib.hid ((HB2.out.grown hgr8 HWQ.out HLT.out).setCell hgB _)
                clear hpw8 hgr8 hp8
                refine hK.out _ _ trivial (fun hSn => ?_)
                try simp only [Act.put, List.setIfInBounds_toArray, List.set_cons_zero, List.set_cons_succ]
                clear hK K'
                refine wpAnyH_take (i := 15) (oi := { dst := some 112, op := Op.indexAddr 26 (Operand.tmp 97) (Operand.tmp 100), type := 0, pos := "ref.go:248", after := #[{ on := 0, ground := Ground.data }, { on := 3, ground := Ground.data }, { on := 0, ground := Ground.phase }, { on := 1, ground := Ground.phase }, { on := 2, ground := Ground.phase }, { on := 3, ground := Ground.phase }, { on := 4, ground := Ground.phase }, { on := 5, ground := Ground.phase }, { on := 6, ground := Ground.phase }, { on := 7, ground := Ground.phase }, { on := 8, ground := Ground.phase }, { on := 9, ground := Ground.phase }, { on := 10, ground := Ground.phase }, { on := 11, ground := Ground.phase }, { on := 12, ground := Ground.phase }, { on := 13, ground := Ground.phase }, { on := 14, ground := Ground.phase }], guard := none }) (v := ?v15q31) rfl (by kernel_rfl) (by kernel_rfl) (by kernel_rfl) (fun _ _ _ h => h) (Or.inl ⟨by rfl, ?y15q31⟩) trivial ?r15q31
                case y15q31 => (intro w2 hSw; go_simp; try with_reducible rfl)
                try simp only [Act.put, List.setIfInBounds_toArray, List.set_cons_zero, List.set_cons_succ]
                refine wpAnyH_take (i := 16) (oi := { dst := some 113, op := Op.fieldAddr 25 (Operand.tmp 112) 1, type := 0, pos := "ref.go:248", after := #[{ on := 15, ground := Ground.data }, { on := 0, ground := Ground.phase }, { on := 1, ground := Ground.phase }, { on := 2, ground := Ground.phase }, { on := 3, ground := Ground.phase }, { on := 4, ground := Ground.phase }, { on := 5, ground := Ground.phase }, { on := 6, ground := Ground.phase }, { on := 7, ground := Ground.phase }, { on := 8, ground := Ground.phase }, { on := 9, ground := Ground.phase }, { on := 10, ground := Ground.phase }, { on := 11, ground := Ground.phase }, { on := 12, ground := Ground.phase }, { on := 13, ground := Ground.phase }, { on := 14, ground := Ground.phase }], guard := none }) (v := ?v16q32) rfl (by kernel_rfl) (by kernel_rfl) (by kernel_rfl) (fun _ _ _ h => h) (Or.inl ⟨by rfl, ?y16q32⟩) trivial ?r16q32
                case y16q32 => (intro w2 hSw; go_simp; try with_reducible rfl)
                try simp only [Act.put, List.setIfInBounds_toArray, List.set_cons_zero, List.set_cons_succ]
                refine wpAnyH_ready (rs := [17]) (by kernel_rfl) (by simp) (AllReadyH.cons (o := { dst := none, op := Op.store 22 (Operand.tmp 113) (Operand.tmp 111), type := 0, pos := "ref.go:248", after := #[{ on := 16, ground := Ground.data }, { on := 14, ground := Ground.data }, { on := 14, ground := Ground.chain }, { on := 0, ground := Ground.phase }, { on := 1, ground := Ground.phase }, { on := 2, ground := Ground.phase }, { on := 3, ground := Ground.phase }, { on := 4, ground := Ground.phase }, { on := 5, ground := Ground.phase }, { on := 6, ground := Ground.phase }, { on := 7, ground := Ground.phase }, { on := 8, ground := Ground.phase }, { on := 9, ground := Ground.phase }, { on := 10, ground := Ground.phase }, { on := 11, ground := Ground.phase }, { on := 12, ground := Ground.phase }, { on := 13, ground := Ground.phase }, { on := 14, ground := Ground.phase }], guard := none }) rfl (fun K' hK => ?_) AllReadyH.nil)
                go_simp
                refine hK.out _ _ trivial (fun hSn => ?_)
                try simp only [Act.put, List.setIfInBounds_toArray, List.set_cons_zero, List.set_cons_succ]
                clear hK K'
                refine wpAnyH_done (by kernel_rfl) ?_ _
                have HNX : Hid (PL B w1 rows (i + 1) (p + (rl + 1)) (endsTen (x :: rt)) (D ++ [(kc, some ⟨gl, 0, none⟩, L.length + 1, cc8)]) (H0 ++ [(k, L ++ [rt])]) (.slice (some ⟨g, 0, none⟩) (mm + 1) cap) (w8.setCell ⟨g, mm * 2 + 1, none⟩ (.slice (some ⟨gl, 0, none⟩) (L.length + 1) cc8))) := Lib.hid (by
                  have h1 := HP.out.put (k := k) HRI.out HKD.out hk0 (HPUT.out ▸ HP8.out) HB8.out
                  rw [HPUT.out, ← HRL.out] at h1
                  exact h1)
                have HLS : Hid (∃ vl, LastP (endsTen (x :: rt)) vl (D ++ [(kc, some ⟨gl, 0, none⟩, L.length + 1, cc8)]) (H0 ++ [(k, L ++ [rt])])) := Lib.hid (last_any (by rw [HKD.out]; exact hk0))
                obtain ⟨w9, hw9⟩ : ∃ W, W = w8.setCell ⟨g, mm * 2 + 1, none⟩ (.slice (some ⟨gl, 0, none⟩) (L.length + 1) cc8) := ⟨_, rfl⟩
                rw [← hw9] at HNX ⊢
                clear HP8 HB8 HP3 hw9 x1 x2
                go_wp2
                go_roundw
                case rel => exact ⟨i + 1, p + (rl + 1), _, _, _, by go_num, congrArg Value.bool (ends_idx HRL.out _), by go_num, hlt, HNX, HLS⟩
                case measure => simp [RowKit.intOf]; omega
              case p13c18 =>
                go_simp
                refine hK.out _ _ trivial (fun hSn => ?_)
                try simp only [Act.put, List.setIfInBounds_toArray, List.set_cons_zero, List.set_cons_succ]
                clear hK K'
                refine wpAnyH_ready (rs := [10]) (by kernel_rfl) (by simp) (AllReadyH.cons (o := { dst := some 107, op := Op.load 22 (Operand.tmp 106), type := 22, pos := "ref.go:248", after := #[{ on := 9, ground := Ground.data }], guard := none }) rfl (fun K' hK => ?_) AllReadyH.nil)
                go_simp
                refine hK.out _ _ trivial (fun hSn => ?_)
                try simp only [Act.put, List.setIfInBounds_toArray, List.set_cons_zero, List.set_cons_succ]
                clear hK K'
                refine wpAnyH_ready (rs := [14]) (by kernel_rfl) (by simp) (AllReadyH.cons (o := { dst := some 111, op := Op.call { callee := Callee.builtin Builtin.append, args := #[Operand.tmp 107, Operand.tmp 110], argTypes := #[22, 22] }, type := 22, pos := "ref.go:248", after := #[{ on := 10, ground := Ground.data }, { on := 13, ground := Ground.data }], guard := none }) rfl (fun K' hK => ?_) AllReadyH.nil)
                refine stepSep (by rfl) _ _ (by rfl) Tryz.underlying22 (.string ByteArray.empty) 1 16 infoStr (by rfl) (by decide) (by decide) B wq.drew (.slice ac nc cc) L.length (L.map S1) [S1 rt] (by rfl) (by intro u hu; simp only [List.mem_singleton] at hu; subst hu; rfl) (by rfl) (HP3.out.last2 HMM.out).2 (by rfl) (by rfl) HLL.out HWQ.out ?_
                intro v8 w8 hp8
                obtain ⟨gl, cc8, rfl, hglB, x1, x2, hgB, hgl8, hpw8, hgr8⟩ := HP3.out.line2 HMM.out hp8
                have HP8 := Lib.hid hpw8
                have HB8 : Hid (Below B w1 ((w8.setCell ⟨g, mm * 2 + 1, none⟩ (.slice (some ⟨gl, 0, none⟩) (L.length + 1) cc8)))) := Lib.hid ((HB2.out.grown hgr8 HWQ.out HLT.out).setCell hgB _)
                clear hpw8 hgr8 hp8
                refine hK.out _ _ trivial (fun hSn => ?_)
                try simp only [Act.put, List.setIfInBounds_toArray, List.set_cons_zero, List.set_cons_succ]
                clear hK K'
                refine wpAnyH_take (i := 15) (oi := { dst := some 112, op := Op.indexAddr 26 (Operand.tmp 97) (Operand.tmp 100), type := 0, pos := "ref.go:248", after := #[{ on := 0, ground := Ground.data }, { on := 3, ground := Ground.data }, { on := 0, ground := Ground.phase }, { on := 1, ground := Ground.phase }, { on := 2, ground := Ground.phase }, { on := 3, ground := Ground.phase }, { on := 4, ground := Ground.phase }, { on := 5, ground := Ground.phase }, { on := 6, ground := Ground.phase }, { on := 7, ground := Ground.phase }, { on := 8, ground := Ground.phase }, { on := 9, ground := Ground.phase }, { on := 10, ground := Ground.phase }, { on := 11, ground := Ground.phase }, { on := 12, ground := Ground.phase }, { on := 13, ground := Ground.phase }, { on := 14, ground := Ground.phase }], guard := none }) (v := ?v15q33) rfl (by kernel_rfl) (by kernel_rfl) (by kernel_rfl) (fun _ _ _ h => h) (Or.inl ⟨by rfl, ?y15q33⟩) trivial ?r15q33
                case y15q33 => (intro w2 hSw; go_simp; try with_reducible rfl)
                try simp only [Act.put, List.setIfInBounds_toArray, List.set_cons_zero, List.set_cons_succ]
                refine wpAnyH_take (i := 16) (oi := { dst := some 113, op := Op.fieldAddr 25 (Operand.tmp 112) 1, type := 0, pos := "ref.go:248", after := #[{ on := 15, ground := Ground.data }, { on := 0, ground := Ground.phase }, { on := 1, ground := Ground.phase }, { on := 2, ground := Ground.phase }, { on := 3, ground := Ground.phase }, { on := 4, ground := Ground.phase }, { on := 5, ground := Ground.phase }, { on := 6, ground := Ground.phase }, { on := 7, ground := Ground.phase }, { on := 8, ground := Ground.phase }, { on := 9, ground := Ground.phase }, { on := 10, ground := Ground.phase }, { on := 11, ground := Ground.phase }, { on := 12, ground := Ground.phase }, { on := 13, ground := Ground.phase }, { on := 14, ground := Ground.phase }], guard := none }) (v := ?v16q34) rfl (by kernel_rfl) (by kernel_rfl) (by kernel_rfl) (fun _ _ _ h => h) (Or.inl ⟨by rfl, ?y16q34⟩) trivial ?r16q34
                case y16q34 => (intro w2 hSw; go_simp; try with_reducible rfl)
                try simp only [Act.put, List.setIfInBounds_toArray, List.set_cons_zero, List.set_cons_succ]
                refine wpAnyH_ready (rs := [17]) (by kernel_rfl) (by simp) (AllReadyH.cons (o := { dst := none, op := Op.store 22 (Operand.tmp 113) (Operand.tmp 111), type := 0, pos := "ref.go:248", after := #[{ on := 16, ground := Ground.data }, { on := 14, ground := Ground.data }, { on := 14, ground := Ground.chain }, { on := 0, ground := Ground.phase }, { on := 1, ground := Ground.phase }, { on := 2, ground := Ground.phase }, { on := 3, ground := Ground.phase }, { on := 4, ground := Ground.phase }, { on := 5, ground := Ground.phase }, { on := 6, ground := Ground.phase }, { on := 7, ground := Ground.phase }, { on := 8, ground := Ground.phase }, { on := 9, ground := Ground.phase }, { on := 10, ground := Ground.phase }, { on := 11, ground := Ground.phase }, { on := 12, ground := Ground.phase }, { on := 13, ground := Ground.phase }, { on := 14, ground := Ground.phase }], guard := none }) rfl (fun K' hK => ?_) AllReadyH.nil)
                go_simp
                refine hK.out _ _ trivial (fun hSn => ?_)
                try simp only [Act.put, List.setIfInBounds_toArray, List.set_cons_zero, List.set_cons_succ]
                clear hK K'
                refine wpAnyH_done (by kernel_rfl) ?_ _
                have HNX : Hid (PL B w1 rows (i + 1) (p + (rl + 1)) (endsTen (x :: rt)) (D ++ [(kc, some ⟨gl, 0, none⟩, L.length + 1, cc8)]) (H0 ++ [(k, L ++ [rt])]) (.slice (some ⟨g, 0, none⟩) (mm + 1) cap) (w8.setCell ⟨g, mm * 2 + 1, none⟩ (.slice (some ⟨gl, 0, none⟩) (L.length + 1) cc8))) := Lib.hid (by
                  have h1 := HP.out.put (k := k) HRI.out HKD.out hk0 (HPUT.out ▸ HP8.out) HB8.out
                  rw [HPUT.out, ← HRL.out] at h1
                  exact h1)
                have HLS : Hid (∃ vl, LastP (endsTen (x :: rt)) vl (D ++ [(kc, some ⟨gl, 0, none⟩, L.length + 1, cc8)]) (H0 ++ [(k, L ++ [rt])])) := Lib.hid (last_any (by rw [HKD.out]; exact hk0))
                obtain ⟨w9, hw9⟩ : ∃ W, W = w8.setCell ⟨g, mm * 2 + 1, none⟩ (.slice (some ⟨gl, 0, none⟩) (L.length + 1) cc8) := ⟨_, rfl⟩
                rw [← hw9] at HNX ⊢
                clear HP8 HB8 HP3 hw9 x1 x2
                go_wp2
                go_roundw
                case rel => exact ⟨i + 1, p + (rl + 1), _, _, _, by go_num, congrArg Value.bool (ends_idx HRL.out _), by go_num, hlt, HNX, HLS⟩
                case measure => simp [RowKit.intOf]; omega
            case new1 =>
              have hkz : ((kc : Int) != (k : Int)) = true := by rw [bne_iff_ne]; omega
              have HLK : Hid (∀ z, H.getLast? = some z → z.1 ≠ k) := Lib.hid (fun z hz => by rw [hH, List.getLast?_concat] at hz; cases hz; rw [← hkc]; exact hkk)
              clear hH hD hm1 hsl hkc hkk
              go_upto_region 23 with (at_builtin; refine appSep rfl _ _ rfl Tryz.underlying26 (.agg #[.int .i64 0, .slice none 0 0]) 2 32 infoHunk rfl (by decide) (by decide) B wr _ hs.length (hs.flatMap hkCells) (hkCells (k, none, 0, 0)) rfl (hkCells_one _) rfl HOW.out.own rfl rfl HHL.out HZ.out ?_; intro v8 wq hp8; obtain ⟨g, mm, cap, D, H0, L, kc, ac, nc, cc, rfl, hmm, HLL, HMM, HP2, HPUT, HB2⟩ := HCUT.out wq v8 hp8 HLK.out; clear hp8)
              have HWQ : Hid (B ≤ wq.heap.size) := Lib.hid (by have h1 := HB2.out.size; have h2 := HBB.out; omega)
              have HB2 : Hid (Below B w1 wq.drew) := Lib.hid HB2.out.drew
              have HP3 : Hid (PW B wq.drew (.slice (some ⟨g, 0, none⟩) (mm + 1) cap) (D ++ [(kc, ac, nc, cc)]) (H0 ++ [(k, L)])) := Lib.hid (HP2.out.keep ((Below.refl wq.heap.size wq).drew))
              have hd4 : wq.drew.cell? ⟨g, mm * 2 + 1, none⟩ = some (.slice ac nc cc) := (HP2.out.last2 HMM.out).1
              have hd5 : (wq.drew.alloc (.cells #[.string (bstr rt)] 9)).cell? ⟨g, mm * 2 + 1, none⟩ = some (.slice ac nc cc) := (World.cell?_alloc_lt wq.drew (.cells #[S1 rt] 9) ⟨g, mm * 2 + 1, none⟩ (World.block_lt_of_cell? wq.drew _ hd4)).trans hd4
              have hd6 : (wq.alloc (.cells #[.string (bstr rt)] 9)).drew.cell? ⟨g, mm * 2 + 1, none⟩ = some (.slice ac nc cc) := hd5
              have hd7 : (wq.alloc (.cells #[.string (bstr rt)] 9)).cell? ⟨g, mm * 2 + 1, none⟩ = some (.slice ac nc cc) := hd5
              have HLT : Hid (∀ r, Value.ownBlock (.slice ac nc cc) = some r → B ≤ r) := Lib.hid (fun r hr => ((HP2.out.last2 HMM.out).2.lt r hr).1)
              have hrd := HRD.out
              have hmmI : (mm : Int) ≤ 4194305 := by omega
              have hmmJ : (mm : Int) < (mm : Int) + 1 := by omega
              have hwr : IntKind.i64.wrap (mm : Int) = (mm : Int) := IntWalk.i64_in _ (by omega)
              have h1rl : (1 : Int) ≤ (rl : Int) + 1 := by omega
              refine wp_region_held_drew (S := (fun _ : World => True)) (by kernel_rfl) trivial (fun hS0 => ?_)
              refine wpAnyH_take (i := 0) (oi := { dst := some 97, op := Op.move (Operand.tmp 6), type := 26, pos := "ref.go:248", after := #[], guard := none }) (v := ?v0q36) rfl (by kernel_rfl) (by kernel_rfl) (by kernel_rfl) (fun _ _ _ h => h) (Or.inl ⟨by rfl, ?y0q36⟩) trivial ?r0q36
              case y0q36 => (intro w2 hSw; go_simp; try with_reducible rfl)
              try simp only [Act.put, List.setIfInBounds_toArray, List.set_cons_zero, List.set_cons_succ]
              refine wpAnyH_take (i := 1) (oi := { dst := some 98, op := Op.move (Operand.tmp 6), type := 26, pos := "ref.go:248", after := #[], guard := none }) (v := ?v1q37) rfl (by kernel_rfl) (by kernel_rfl) (by kernel_rfl) (fun _ _ _ h => h) (Or.inl ⟨by rfl, ?y1q37⟩) trivial ?r1q37
              case y1q37 => (intro w2 hSw; go_simp; try with_reducible rfl)
              try simp only [Act.put, List.setIfInBounds_toArray, List.set_cons_zero, List.set_cons_succ]
              refine wpAnyH_take (i := 2) (oi := { dst := some 99, op := Op.call { callee := Callee.builtin Builtin.len, args := #[Operand.tmp 98], argTypes := #[26] }, type := 3, pos := "ref.go:248", after := #[{ on := 1, ground := Ground.data }], guard := none }) (v := ?v2q38) rfl (by kernel_rfl) (by kernel_rfl) (by kernel_rfl) (fun _ _ _ h => h) (Or.inl ⟨by rfl, ?y2q38⟩) trivial ?r2q38
              case y2q38 => (intro w2 hSw; go_simp; try with_reducible rfl)
              try simp only [Act.put, List.setIfInBounds_toArray, List.set_cons_zero, List.set_cons_succ]
              refine wpAnyH_take (i := 3) (oi := { dst := some 100, op := Op.binOp BinOp.sub 3 (Operand.tmp 99) (Operand.const (Value.int IntKind.i64 1)) 3, type := 3, pos := "ref.go:248", after := #[{ on := 2, ground := Ground.data }], guard := none }) (v := ?v3q39) rfl (by kernel_rfl) (by kernel_rfl) (by kernel_rfl) (fun _ _ _ h => h) (Or.inl ⟨by rfl, ?y3q39⟩) trivial ?r3q39
              case y3q39 => (intro w2 hSw; go_simp; try with_reducible rfl)
              try simp only [Act.put, List.setIfInBounds_toArray, List.set_cons_zero, List.set_cons_succ]
              refine wpAnyH_take (i := 4) (oi := { dst := some 101, op := Op.move (Operand.tmp 6), type := 26, pos := "ref.go:248", after := #[], guard := none }) (v := ?v4q40) rfl (by kernel_rfl) (by kernel_rfl) (by kernel_rfl) (fun _ _ _ h => h) (Or.inl ⟨by rfl, ?y4q40⟩) trivial ?r4q40
              case y4q40 => (intro w2 hSw; go_simp; try with_reducible rfl)
              try simp only [Act.put, List.setIfInBounds_toArray, List.set_cons_zero, List.set_cons_succ]
              refine wpAnyH_take (i := 5) (oi := { dst := some 102, op := Op.move (Operand.tmp 6), type := 26, pos := "ref.go:248", after := #[], guard := none }) (v := ?v5q41) rfl (by kernel_rfl) (by kernel_rfl) (by kernel_rfl) (fun _ _ _ h => h) (Or.inl ⟨by rfl, ?y5q41⟩) trivial ?r5q41
              case y5q41 => (intro w2 hSw; go_simp; try with_reducible rfl)
              try simp only [Act.put, List.setIfInBounds_toArray, List.set_cons_zero, List.set_cons_succ]
              refine wpAnyH_take (i := 6) (oi := { dst := some 103, op := Op.call { callee := Callee.builtin Builtin.len, args := #[Operand.tmp 102], argTypes := #[26] }, type := 3, pos := "ref.go:248", after := #[{ on := 5, ground := Ground.data }], guard := none }) (v := ?v6q42) rfl (by kernel_rfl) (by kernel_rfl) (by kernel_rfl) (fun _ _ _ h => h) (Or.inl ⟨by rfl, ?y6q42⟩) trivial ?r6q42
              case y6q42 => (intro w2 hSw; go_simp; try with_reducible rfl)
              try simp only [Act.put, List.setIfInBounds_toArray, List.set_cons_zero, List.set_cons_succ]
              refine wpAnyH_take (i := 7) (oi := { dst := some 104, op := Op.binOp BinOp.sub 3 (Operand.tmp 103) (Operand.const (Value.int IntKind.i64 1)) 3, type := 3, pos := "ref.go:248", after := #[{ on := 6, ground := Ground.data }], guard := none }) (v := ?v7q43) rfl (by kernel_rfl) (by kernel_rfl) (by kernel_rfl) (fun _ _ _ h => h) (Or.inl ⟨by rfl, ?y7q43⟩) trivial ?r7q43
              case y7q43 => (intro w2 hSw; go_simp; try with_reducible rfl)
              try simp only [Act.put, List.setIfInBounds_toArray, List.set_cons_zero, List.set_cons_succ]
              refine wpAnyH_take (i := 8) (oi := { dst := some 105, op := Op.indexAddr 26 (Operand.tmp 101) (Operand.tmp 104), type := 0, pos := "ref.go:248", after := #[{ on := 4, ground := Ground.data }, { on := 7, ground := Ground.data }], guard := none }) (v := ?v8q44) rfl (by kernel_rfl) (by kernel_rfl) (by kernel_rfl) (fun _ _ _ h => h) (Or.inl ⟨by rfl, ?y8q44⟩) trivial ?r8q44
              case y8q44 => (intro w2 hSw; go_simp; try with_reducible rfl)
              try simp only [Act.put, List.setIfInBounds_toArray, List.set_cons_zero, List.set_cons_succ]
              refine wpAnyH_take (i := 9) (oi := { dst := some 106, op := Op.fieldAddr 25 (Operand.tmp 105) 1, type := 0, pos := "ref.go:248", after := #[{ on := 8, ground := Ground.data }], guard := none }) (v := ?v9q45) rfl (by kernel_rfl) (by kernel_rfl) (by kernel_rfl) (fun _ _ _ h => h) (Or.inl ⟨by rfl, ?y9q45⟩) trivial ?r9q45
              case y9q45 => (intro w2 hSw; go_simp; try with_reducible rfl)
              try simp only [Act.put, List.setIfInBounds_toArray, List.set_cons_zero, List.set_cons_succ]
              refine wpAnyH_take (i := 11) (oi := { dst := some 108, op := Op.move (Operand.tmp 10), type := 9, pos := "ref.go:248", after := #[], guard := none }) (v := ?v11q46) rfl (by kernel_rfl) (by kernel_rfl) (by kernel_rfl) (fun _ _ _ h => h) (Or.inl ⟨by rfl, ?y11q46⟩) trivial ?r11q46
              case y11q46 => (intro w2 hSw; go_simp; try with_reducible rfl)
              try simp only [Act.put, List.setIfInBounds_toArray, List.set_cons_zero, List.set_cons_succ]
              refine wpAnyH_take (i := 12) (oi := { dst := some 109, op := Op.slice 9 (Operand.tmp 108) (some (Operand.const (Value.int IntKind.i64 1))) none none, type := 9, pos := "ref.go:248", after := #[{ on := 11, ground := Ground.data }], guard := none }) (v := ?v12q47) rfl (by kernel_rfl) (by kernel_rfl) (by kernel_rfl) (fun _ _ _ h => h) (Or.inl ⟨by rfl, ?y12q47⟩) trivial ?r12q47
              case y12q47 => (intro w2 hSw; go_simp; try with_reducible rfl)
              try simp only [Act.put, List.setIfInBounds_toArray, List.set_cons_zero, List.set_cons_succ]
              refine wpAnyH_ready (rs := [10, 13]) (by kernel_rfl) (by simp) (AllReadyH.cons rfl (fun K' hK => ?p10c35) (AllReadyH.cons rfl (fun K' hK => ?p13c35) AllReadyH.nil))
              case p10c35 =>
                go_simp
                refine hK.out _ _ trivial (fun hSn => ?_)
                try simp only [Act.put, List.setIfInBounds_toArray, List.set_cons_zero, List.set_cons_succ]
                clear hK K'
                refine wpAnyH_ready (rs := [13]) (by kernel_rfl) (by simp) (AllReadyH.cons (o := { dst := some 110, op := Op.buildSlice 22 1 #[(0, Operand.tmp 109)], type := 22, pos := "ref.go:248", after := #[{ on := 12, ground := Ground.data }], guard := none }) rfl (fun K' hK => ?_) AllReadyH.nil)
                go_simp
                refine hK.out _ _ trivial (fun hSn => ?_)
                try simp only [Act.put, List.setIfInBounds_toArray, List.set_cons_zero, List.set_cons_succ]
                clear hK K'
                refine wpAnyH_ready (rs := [14]) (by kernel_rfl) (by simp) (AllReadyH.cons (o := { dst := some 111, op := Op.call { callee := Callee.builtin Builtin.append, args := #[Operand.tmp 107, Operand.tmp 110], argTypes := #[22, 22] }, type := 22, pos := "ref.go:248", after := #[{ on := 10, ground := Ground.data }, { on := 13, ground := Ground.data }], guard := none }) rfl (fun K' hK => ?_) AllReadyH.nil)
                refine stepSep (by rfl) _ _ (by rfl) Tryz.underlying22 (.string ByteArray.empty) 1 16 infoStr (by rfl) (by decide) (by decide) B wq.drew (.slice ac nc cc) L.length (L.map S1) [S1 rt] (by rfl) (by intro u hu; simp only [List.mem_singleton] at hu; subst hu; rfl) (by rfl) (HP3.out.last2 HMM.out).2 (by rfl) (by rfl) HLL.out HWQ.out ?_
                intro v8 w8 hp8
                obtain ⟨gl, cc8, rfl, hglB, x1, x2, hgB, hgl8, hpw8, hgr8⟩ := HP3.out.line2 HMM.out hp8
                have HP8 := Lib.hid hpw8
                have HB8 : Hid (Below B w1 ((w8.setCell ⟨g, mm * 2 + 1, none⟩ (.slice (some ⟨gl, 0, none⟩) (L.length + 1) cc8)))) := Lib.hid ((HB2.out.grown hgr8 HWQ.out HLT.out).setCell hgB _)
                clear hpw8 hgr8 hp8
                refine hK.out _ _ trivial (fun hSn => ?_)
                try simp only [Act.put, List.setIfInBounds_toArray, List.set_cons_zero, List.set_cons_succ]
                clear hK K'
                refine wpAnyH_take (i := 15) (oi := { dst := some 112, op := Op.indexAddr 26 (Operand.tmp 97) (Operand.tmp 100), type := 0, pos := "ref.go:248", after := #[{ on := 0, ground := Ground.data }, { on := 3, ground := Ground.data }, { on := 0, ground := Ground.phase }, { on := 1, ground := Ground.phase }, { on := 2, ground := Ground.phase }, { on := 3, ground := Ground.phase }, { on := 4, ground := Ground.phase }, { on := 5, ground := Ground.phase }, { on := 6, ground := Ground.phase }, { on := 7, ground := Ground.phase }, { on := 8, ground := Ground.phase }, { on := 9, ground := Ground.phase }, { on := 10, ground := Ground.phase }, { on := 11, ground := Ground.phase }, { on := 12, ground := Ground.phase }, { on := 13, ground := Ground.phase }, { on := 14, ground := Ground.phase }], guard := none }) (v := ?v15q48) rfl (by kernel_rfl) (by kernel_rfl) (by kernel_rfl) (fun _ _ _ h => h) (Or.inl ⟨by rfl, ?y15q48⟩) trivial ?r15q48
                case y15q48 => (intro w2 hSw; go_simp; try with_reducible rfl)
                try simp only [Act.put, List.setIfInBounds_toArray, List.set_cons_zero, List.set_cons_succ]
                refine wpAnyH_take (i := 16) (oi := { dst := some 113, op := Op.fieldAddr 25 (Operand.tmp 112) 1, type := 0, pos := "ref.go:248", after := #[{ on := 15, ground := Ground.data }, { on := 0, ground := Ground.phase }, { on := 1, ground := Ground.phase }, { on := 2, ground := Ground.phase }, { on := 3, ground := Ground.phase }, { on := 4, ground := Ground.phase }, { on := 5, ground := Ground.phase }, { on := 6, ground := Ground.phase }, { on := 7, ground := Ground.phase }, { on := 8, ground := Ground.phase }, { on := 9, ground := Ground.phase }, { on := 10, ground := Ground.phase }, { on := 11, ground := Ground.phase }, { on := 12, ground := Ground.phase }, { on := 13, ground := Ground.phase }, { on := 14, ground := Ground.phase }], guard := none }) (v := ?v16q49) rfl (by kernel_rfl) (by kernel_rfl) (by kernel_rfl) (fun _ _ _ h => h) (Or.inl ⟨by rfl, ?y16q49⟩) trivial ?r16q49
                case y16q49 => (intro w2 hSw; go_simp; try with_reducible rfl)
                try simp only [Act.put, List.setIfInBounds_toArray, List.set_cons_zero, List.set_cons_succ]
                refine wpAnyH_ready (rs := [17]) (by kernel_rfl) (by simp) (AllReadyH.cons (o := { dst := none, op := Op.store 22 (Operand.tmp 113) (Operand.tmp 111), type := 0, pos := "ref.go:248", after := #[{ on := 16, ground := Ground.data }, { on := 14, ground := Ground.data }, { on := 14, ground := Ground.chain }, { on := 0, ground := Ground.phase }, { on := 1, ground := Ground.phase }, { on := 2, ground := Ground.phase }, { on := 3, ground := Ground.phase }, { on := 4, ground := Ground.phase }, { on := 5, ground := Ground.phase }, { on := 6, ground := Ground.phase }, { on := 7, ground := Ground.phase }, { on := 8, ground := Ground.phase }, { on := 9, ground := Ground.phase }, { on := 10, ground := Ground.phase }, { on := 11, ground := Ground.phase }, { on := 12, ground := Ground.phase }, { on := 13, ground := Ground.phase }, { on := 14, ground := Ground.phase }], guard := none }) rfl (fun K' hK => ?_) AllReadyH.nil)
                go_simp
                refine hK.out _ _ trivial (fun hSn => ?_)
                try simp only [Act.put, List.setIfInBounds_toArray, List.set_cons_zero, List.set_cons_succ]
                clear hK K'
                refine wpAnyH_done (by kernel_rfl) ?_ _
                have HNX : Hid (PL B w1 rows (i + 1) (p + (rl + 1)) (endsTen (x :: rt)) (D ++ [(kc, some ⟨gl, 0, none⟩, L.length + 1, cc8)]) (H0 ++ [(k, L ++ [rt])]) (.slice (some ⟨g, 0, none⟩) (mm + 1) cap) (w8.setCell ⟨g, mm * 2 + 1, none⟩ (.slice (some ⟨gl, 0, none⟩) (L.length + 1) cc8))) := Lib.hid (by
                  have h1 := HP.out.put (k := k) HRI.out HKD.out hk0 (HPUT.out ▸ HP8.out) HB8.out
                  rw [HPUT.out, ← HRL.out] at h1
                  exact h1)
                have HLS : Hid (∃ vl, LastP (endsTen (x :: rt)) vl (D ++ [(kc, some ⟨gl, 0, none⟩, L.length + 1, cc8)]) (H0 ++ [(k, L ++ [rt])])) := Lib.hid (last_any (by rw [HKD.out]; exact hk0))
                obtain ⟨w9, hw9⟩ : ∃ W, W = w8.setCell ⟨g, mm * 2 + 1, none⟩ (.slice (some ⟨gl, 0, none⟩) (L.length + 1) cc8) := ⟨_, rfl⟩
                rw [← hw9] at HNX ⊢
                clear HP8 HB8 HP3 hw9 x1 x2
                go_wp2
                go_roundw
                case rel => exact ⟨i + 1, p + (rl + 1), _, _, _, by go_num, congrArg Value.bool (ends_idx HRL.out _), by go_num, hlt, HNX, HLS⟩
                case measure => simp [RowKit.intOf]; omega
              case p13c35 =>
                go_simp
                refine hK.out _ _ trivial (fun hSn => ?_)
                try simp only [Act.put, List.setIfInBounds_toArray, List.set_cons_zero, List.set_cons_succ]
                clear hK K'
                refine wpAnyH_ready (rs := [10]) (by kernel_rfl) (by simp) (AllReadyH.cons (o := { dst := some 107, op := Op.load 22 (Operand.tmp 106), type := 22, pos := "ref.go:248", after := #[{ on := 9, ground := Ground.data }], guard := none }) rfl (fun K' hK => ?_) AllReadyH.nil)
                go_simp
                refine hK.out _ _ trivial (fun hSn => ?_)
                try simp only [Act.put, List.setIfInBounds_toArray, List.set_cons_zero, List.set_cons_succ]
                clear hK K'
                refine wpAnyH_ready (rs := [14]) (by kernel_rfl) (by simp) (AllReadyH.cons (o := { dst := some 111, op := Op.call { callee := Callee.builtin Builtin.append, args := #[Operand.tmp 107, Operand.tmp 110], argTypes := #[22, 22] }, type := 22, pos := "ref.go:248", after := #[{ on := 10, ground := Ground.data }, { on := 13, ground := Ground.data }], guard := none }) rfl (fun K' hK => ?_) AllReadyH.nil)
                refine stepSep (by rfl) _ _ (by rfl) Tryz.underlying22 (.string ByteArray.empty) 1 16 infoStr (by rfl) (by decide) (by decide) B wq.drew (.slice ac nc cc) L.length (L.map S1) [S1 rt] (by rfl) (by intro u hu; simp only [List.mem_singleton] at hu; subst hu; rfl) (by rfl) (HP3.out.last2 HMM.out).2 (by rfl) (by rfl) HLL.out HWQ.out ?_
                intro v8 w8 hp8
                obtain ⟨gl, cc8, rfl, hglB, x1, x2, hgB, hgl8, hpw8, hgr8⟩ := HP3.out.line2 HMM.out hp8
                have HP8 := Lib.hid hpw8
                have HB8 : Hid (Below B w1 ((w8.setCell ⟨g, mm * 2 + 1, none⟩ (.slice (some ⟨gl, 0, none⟩) (L.length + 1) cc8)))) := Lib.hid ((HB2.out.grown hgr8 HWQ.out HLT.out).setCell hgB _)
                clear hpw8 hgr8 hp8
                refine hK.out _ _ trivial (fun hSn => ?_)
                try simp only [Act.put, List.setIfInBounds_toArray, List.set_cons_zero, List.set_cons_succ]
                clear hK K'
                refine wpAnyH_take (i := 15) (oi := { dst := some 112, op := Op.indexAddr 26 (Operand.tmp 97) (Operand.tmp 100), type := 0, pos := "ref.go:248", after := #[{ on := 0, ground := Ground.data }, { on := 3, ground := Ground.data }, { on := 0, ground := Ground.phase }, { on := 1, ground := Ground.phase }, { on := 2, ground := Ground.phase }, { on := 3, ground := Ground.phase }, { on := 4, ground := Ground.phase }, { on := 5, ground := Ground.phase }, { on := 6, ground := Ground.phase }, { on := 7, ground := Ground.phase }, { on := 8, ground := Ground.phase }, { on := 9, ground := Ground.phase }, { on := 10, ground := Ground.phase }, { on := 11, ground := Ground.phase }, { on := 12, ground := Ground.phase }, { on := 13, ground := Ground.phase }, { on := 14, ground := Ground.phase }], guard := none }) (v := ?v15q50) rfl (by kernel_rfl) (by kernel_rfl) (by kernel_rfl) (fun _ _ _ h => h) (Or.inl ⟨by rfl, ?y15q50⟩) trivial ?r15q50
                case y15q50 => (intro w2 hSw; go_simp; try with_reducible rfl)
                try simp only [Act.put, List.setIfInBounds_toArray, List.set_cons_zero, List.set_cons_succ]
                refine wpAnyH_take (i := 16) (oi := { dst := some 113, op := Op.fieldAddr 25 (Operand.tmp 112) 1, type := 0, pos := "ref.go:248", after := #[{ on := 15, ground := Ground.data }, { on := 0, ground := Ground.phase }, { on := 1, ground := Ground.phase }, { on := 2, ground := Ground.phase }, { on := 3, ground := Ground.phase }, { on := 4, ground := Ground.phase }, { on := 5, ground := Ground.phase }, { on := 6, ground := Ground.phase }, { on := 7, ground := Ground.phase }, { on := 8, ground := Ground.phase }, { on := 9, ground := Ground.phase }, { on := 10, ground := Ground.phase }, { on := 11, ground := Ground.phase }, { on := 12, ground := Ground.phase }, { on := 13, ground := Ground.phase }, { on := 14, ground := Ground.phase }], guard := none }) (v := ?v16q51) rfl (by kernel_rfl) (by kernel_rfl) (by kernel_rfl) (fun _ _ _ h => h) (Or.inl ⟨by rfl, ?y16q51⟩) trivial ?r16q51
                case y16q51 => (intro w2 hSw; go_simp; try with_reducible rfl)
                try simp only [Act.put, List.setIfInBounds_toArray, List.set_cons_zero, List.set_cons_succ]
                refine wpAnyH_ready (rs := [17]) (by kernel_rfl) (by simp) (AllReadyH.cons (o := { dst := none, op := Op.store 22 (Operand.tmp 113) (Operand.tmp 111), type := 0, pos := "ref.go:248", after := #[{ on := 16, ground := Ground.data }, { on := 14, ground := Ground.data }, { on := 14, ground := Ground.chain }, { on := 0, ground := Ground.phase }, { on := 1, ground := Ground.phase }, { on := 2, ground := Ground.phase }, { on := 3, ground := Ground.phase }, { on := 4, ground := Ground.phase }, { on := 5, ground := Ground.phase }, { on := 6, ground := Ground.phase }, { on := 7, ground := Ground.phase }, { on := 8, ground := Ground.phase }, { on := 9, ground := Ground.phase }, { on := 10, ground := Ground.phase }, { on := 11, ground := Ground.phase }, { on := 12, ground := Ground.phase }, { on := 13, ground := Ground.phase }, { on := 14, ground := Ground.phase }], guard := none }) rfl (fun K' hK => ?_) AllReadyH.nil)
                go_simp
                refine hK.out _ _ trivial (fun hSn => ?_)
                try simp only [Act.put, List.setIfInBounds_toArray, List.set_cons_zero, List.set_cons_succ]
                clear hK K'
                refine wpAnyH_done (by kernel_rfl) ?_ _
                have HNX : Hid (PL B w1 rows (i + 1) (p + (rl + 1)) (endsTen (x :: rt)) (D ++ [(kc, some ⟨gl, 0, none⟩, L.length + 1, cc8)]) (H0 ++ [(k, L ++ [rt])]) (.slice (some ⟨g, 0, none⟩) (mm + 1) cap) (w8.setCell ⟨g, mm * 2 + 1, none⟩ (.slice (some ⟨gl, 0, none⟩) (L.length + 1) cc8))) := Lib.hid (by
                  have h1 := HP.out.put (k := k) HRI.out HKD.out hk0 (HPUT.out ▸ HP8.out) HB8.out
                  rw [HPUT.out, ← HRL.out] at h1
                  exact h1)
                have HLS : Hid (∃ vl, LastP (endsTen (x :: rt)) vl (D ++ [(kc, some ⟨gl, 0, none⟩, L.length + 1, cc8)]) (H0 ++ [(k, L ++ [rt])])) := Lib.hid (last_any (by rw [HKD.out]; exact hk0))
                obtain ⟨w9, hw9⟩ : ∃ W, W = w8.setCell ⟨g, mm * 2 + 1, none⟩ (.slice (some ⟨gl, 0, none⟩) (L.length + 1) cc8) := ⟨_, rfl⟩
                rw [← hw9] at HNX ⊢
                clear HP8 HB8 HP3 hw9 x1 x2
                go_wp2
                go_roundw
                case rel => exact ⟨i + 1, p + (rl + 1), _, _, _, by go_num, congrArg Value.bool (ends_idx HRL.out _), by go_num, hlt, HNX, HLS⟩
                case measure => simp [RowKit.intOf]; omega
    · obtain rfl : i = n := by omega
      obtain ⟨we, rfl⟩ : ∃ x : World, x = wr := ⟨_, rfl⟩
      have hdone := HP.out.done (by rw [← HN.out]; exact Nat.le_refl _)
      rw [HRW.out] at hdone
      have hfit := HP.out.fit (by omega) (by rw [HFL.out]; omega)
      have HF := Lib.hid hfit
      have hsw := HP.out.pw.sw
      have hlen := HP.out.pw.len
      obtain ⟨av, cv, rfl⟩ := slice_own hsw.own
      obtain ⟨hl2, hrd⟩ := hsw.reads
      obtain ⟨m, hm⟩ : ∃ m, H.length = m := ⟨_, rfl⟩
      rw [hlen]
      rw [hm] at hrd
      rw [hm]
      have hmb : m ≤ 4194305 := by have := HP.out.cnt; omega
      have HB2 : Hid (Below w.heap.size w we) := Lib.hid (HB1.out.trans (HP.out.bel.mono (by rw [HBB.out]; exact HB1.out.size)))
      have HPR := Lib.hid (printR we av m cv (H.map toI) hrd hfit)
      have HRD := Lib.hid hrd
      have HM := Lib.hid hm
      have HD := Lib.hid hdone
      clear hdone hfit hsw hlen hrd hm hl2 HLA HP HZ hlt hi HR HRW HFL HS
      by_cases hck : checkB (H.map toI) = true
      · obtain ⟨T, hTT⟩ : ∃ T, T = printK (H.map toI) := ⟨_, rfl⟩
        have hpe : printE (H.map toI) = .returned (.tuple #[.string (bstr T), .int .i64 0]) := by unfold printE; rw [if_pos hck, hTT]
        rw [hpe] at HPR
        by_cases hts : T = s
        · have hpo : parseOf s = .inr H := by
            unfold parseOf
            rw [HD.out]
            dsimp only
            rw [if_pos ⟨hck, by rw [← hTT]; exact hts⟩]
          have HPO := Lib.hid hpo
          have hne : (T != s) = false := by rw [hts]; simp
          have hne2 : (T == s) = true := by rw [hts]; simp
          have hne3 : T = s := hts
          clear hpe hpo hTT hts hck
          go_wp2_with (go_at_call 33; refine (HPR.out).mono ?_; rintro e w3 ⟨rfl, hb3⟩; have HB3 := Lib.hid hb3; clear hb3)
          go_ret3
          refine .inr ⟨H, av, cv, HPO.out, ?_, ?_, HB2.out.trans (HB3.out.mono HB2.out.size)⟩
          · rw [HM.out]; rfl
          · rw [HM.out]; exact HRD.out.keep HB3.out (Nat.le_refl _)
        · have hpo : parseOf s = .inl sl := by
            unfold parseOf
            rw [HD.out]
            dsimp only
            rw [if_neg (fun h => hts (by rw [hTT]; exact h.2)), ← HSE.out]
          have HPO := Lib.hid hpo
          have hne : (T != s) = true := by rw [bne_iff_ne]; exact hts
          have hne2 : (T == s) = false := by rw [beq_eq_false_iff_ne]; exact hts
          have hne3 : ¬ T = s := hts
          clear hpe hpo hTT hts hck
          go_wp2_with (go_at_call 33; refine (HPR.out).mono ?_; rintro e w3 ⟨rfl, hb3⟩; have HB3 := Lib.hid hb3; clear hb3)
          go_ret3
          exact .inl ⟨sl, HPO.out, rfl, HB2.out.trans (HB3.out.mono HB2.out.size)⟩
      · have hpo : parseOf s = .inl sl := by
          unfold parseOf
          rw [HD.out]
          dsimp only
          rw [if_neg (fun h => hck h.1), ← HSE.out]
        have HPO := Lib.hid hpo
        have hpe : printE (H.map toI) = .returned (.tuple #[.string (bstr []), .int .i64 310]) := by unfold printE; rw [if_neg hck]
        rw [hpe] at HPR
        clear hpe hpo hck
        go_wp2_with (go_at_call 33; refine (HPR.out).mono ?_; rintro e w3 ⟨rfl, hb3⟩; have HB3 := Lib.hid hb3; clear hb3)
        go_ret3
        exact .inl ⟨sl, HPO.out, rfl, HB2.out.trans (HB3.out.mono HB2.out.size)⟩
end Go.Proofs.YtnbihjocdlpplaaGreatDoor
