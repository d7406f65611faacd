/- Texts joined, one behind the other (ScanI). -/
import Derived.Test.YtmhemahkcbgaoaaGreatDoorKn05
import Derived.BigRegion
import Derived.Deep.RegionHeld3
/- The quoted form of bytes, by the reference. -/
namespace Go.Proofs.YtmhemahkcbgaoaaGreatDoor
set_option linter.unusedVariables false
set_option linter.unusedSimpArgs false
open Go.RowKit
open Go.Lib hiding intOf
/-- a row of these bytes that is the call's own -/
def OwnB (B : Nat) (v : Value) (acc : List UInt8) (w : World) : Prop := w.ownsRow B 5 1 v acc.length (acc.map B8)
theorem strCells_B8 (s : List UInt8) : Lib.strCells (bstr s) = s.map B8 := rfl
theorem OwnB.drewN {B : Nat} {v : Value} {acc : List UInt8} {w : World} (h : OwnB B v acc w) (n : Nat) : OwnB B v acc (w.drewN n) := h
theorem OwnB.below {B : Nat} {v : Value} {acc : List UInt8} {w w' : World} (h : OwnB B v acc w) (b : Below w.heap.size w w') : OwnB B v acc w' := by
  refine ⟨h.1, ?_⟩
  rcases h.2 with hn | ⟨g, cap, cur, rfl, hb, hgg, rest⟩
  · exact .inl hn
  · exact .inr ⟨g, cap, cur, rfl, hb, (b.block g (Array.getElem?_eq_some_iff.1 hgg).1).trans hgg, rest⟩
section
variable {ops : Array Oper} {rest : List Oper} {o : Oper} {a : Act} {w : World} {Q : Exit → Act → World → Prop}
/-- append of a text to a row of one's own -/
theorem appStr (hgd : o.guard = none) (sl x : Operand) (ho : o.op = .call { callee := .builtin .append, args := #[sl, x], argTypes := #[25, 9] })
    (B : Nat) (w0 : World) (v : Value) (acc s : List UInt8) (hs : a.eval sl = v) (hown : OwnB B v acc w) (hx : a.eval x = .string (bstr s)) (hl : acc.length ≤ 1099511627776) (hl2 : s.length ≤ 1099511627776) (hb : Below B w0 w) (hB : B ≤ w.heap.size)
    (h : ∀ v' w', OwnB B v' (acc ++ s) w' → Below B w0 w' → B ≤ w'.heap.size → wpList Tryz.prog ops Q rest (a.put o.dst v') w') : wpList Tryz.prog ops Q (o :: rest) a w := by
  obtain ⟨i0, hi, hz0, hz1, hz2⟩ := info_parts Tryz.infoU8
  refine Lib.wpList_append_own_string _ hgd sl x 25 9 ho B 5 i0 Tryz.underlying25 Tryz.underlying9 hi hz0 hz1 hz2 v acc.length _ hs hown (bstr s) hx (by rw [bstr_size]; unfold maxLen; omega) (by rw [bstr_size]; omega) hB ?_
  intro v' w' h1 h2 _
  have hbb : Below B w0 w' := hb.grown h2 hB (fun k hk => (World.ownsRow.lt hown k hk).1)
  refine h v' w' ?_ hbb (Nat.le_trans hB h2.size)
  unfold OwnB
  rw [List.length_append, List.map_append]
  rw [bstr_size, strCells_B8] at h1
  exact h1
/-- the same as one step of a region that draws its order -/
theorem stepAppStr {K : Act → World → Prop} {E : Prop} (hgd : o.guard = none) (sl x : Operand) (ho : o.op = .call { callee := .builtin .append, args := #[sl, x], argTypes := #[25, 9] })
    (B : Nat) (w0 : World) (v : Value) (acc s : List UInt8) (hs : a.eval sl = v) (hown : OwnB B v acc w) (hx : a.eval x = .string (bstr s)) (hl : acc.length ≤ 1099511627776) (hl2 : s.length ≤ 1099511627776) (hb : Below B w0 w) (hB : B ≤ w.heap.size)
    (h : ∀ v' w', OwnB B v' (acc ++ s) w' → Below B w0 w' → B ≤ w'.heap.size → K (a.put o.dst v') w') : if Region.wanted o (yielded ops a.tmps) = true then Oper.wp Tryz.prog o a w K Q else E := by
  obtain ⟨i0, hi, hz0, hz1, hz2⟩ := info_parts Tryz.infoU8
  have hw : Region.wanted o (yielded ops a.tmps) = true := by simp [Region.wanted, hgd]
  rw [if_pos hw]
  obtain ⟨v', w', hr, h1, h2, _⟩ := Lib.run_append_own_string (P := Tryz.prog) w B 25 9 o.type 5 i0 Tryz.underlying25 Tryz.underlying9 hi hz0 hz1 hz2 v acc.length _ hown (bstr s) (by rw [bstr_size]; unfold maxLen; omega) (by rw [bstr_size]; omega) hB
  have hbb : Below B w0 w' := hb.grown h2 hB (fun k hk => (World.ownsRow.lt hown k hk).1)
  unfold Oper.wp
  simp [execOp, ho, resolve, invoke, builtin, hs, hx, hr, Result.andThen]
  refine h _ _ ?_ hbb (Nat.le_trans hB h2.size)
  unfold OwnB
  rw [List.length_append, List.map_append]
  rw [bstr_size, strCells_B8] at h1
  exact h1
/-- append of one byte -/
theorem appOne (hgd : o.guard = none) (sl x : Operand) (ho : o.op = .call { callee := .builtin .append, args := #[sl, x], argTypes := #[25, 25] })
    (B : Nat) (w0 wp : World) (v : Value) (acc : List UInt8) (c : UInt8) (hs : a.eval sl = v) (hown : OwnB B v acc wp) (hx : a.eval x = .slice (some ⟨wp.heap.size, 0, none⟩) 1 1) (hw : w = wp.alloc (.cells #[B8 c] 5)) (hl : acc.length ≤ 1099511627776) (hb : Below B w0 wp) (hB : B ≤ wp.heap.size)
    (h : ∀ v' w', OwnB B v' (acc ++ [c]) w' → Below B w0 w' → B ≤ w'.heap.size → wpList Tryz.prog ops Q rest (a.put o.dst v') w') : wpList Tryz.prog ops Q (o :: rest) a w := by
  subst hw
  obtain ⟨i0, hi, hz0, hz1, hz2⟩ := info_parts Tryz.infoU8
  have hB' : B ≤ (wp.alloc (.cells #[B8 c] 5)).heap.size := by simp; omega
  refine wpList_append_own _ hgd sl x 25 ho B 5 i0 (.int .u8 0) 1 1 Tryz.underlying25 hi hz0 hz1 hz2 rfl (by decide) v acc.length _ hs (World.ownsRow.alloc hown _) ⟨wp.heap.size, 0, none⟩ 1 1 [B8 c] hx rfl (cell_one_new _ _ _) (by simp [Value.oneCell']) (by unfold maxLen; omega) (by omega) hB' ?_
  intro v' w' h1 h2 _
  have hbb : Below B w0 w' := below_append hb hB hown h2
  refine h v' w' ?_ hbb (Nat.le_trans hB' h2.size)
  unfold OwnB
  rw [List.length_append, List.map_append]
  exact h1
end
theorem alloc_last (w : World) (o : Obj) : (w.alloc o).heap[w.heap.size]? = some o := by
  show (w.heap.push o)[w.heap.size]? = _
  simp
theorem conv_own {B : Nat} {v : Value} {acc : List UInt8} {w : World} (h : OwnB B v acc w) : (convert 25 9 v).run Tryz.prog w = .ok (.string (bstr acc)) w := by
  obtain ⟨a, c, rfl, hr, _, _⟩ := reads_of_own h
  exact run_bytes_str _ _ _ 5 Tryz.underlying25 Tryz.underlying5 Tryz.underlying9 _ _ _ acc hr
theorem hex_all : ∀ p : Fin 16, ((([48, 49, 50, 51, 52, 53, 54, 55, 56, 57, 97, 98, 99, 100, 101, 102] : List UInt8).drop p.val).take 1) = [hexc p.val] := by decide +kernel
set_option maxHeartbeats 2000000 in
set_option maxRecDepth 100000 in
theorem hexR (w : World) (x : UInt8) : Calls Tryz.prog 43 #[.int .u8 (x.toNat : Int)] w fun e w' => e = .returned (.string (bstr [hexc (x.toNat / 16), hexc (x.toNat % 16)])) ∧ Quiet w w' := by
  have hxl := x.toNat_lt
  obtain ⟨p, hp⟩ : ∃ p, p = x.toNat / 16 := ⟨_, rfl⟩
  obtain ⟨q, hqq⟩ : ∃ q, q = x.toNat % 16 := ⟨_, rfl⟩
  have hp16 : p < 16 := by omega
  have hq16 : q < 16 := by omega
  have hpi : (x.toNat : Int).tdiv 16 = (p : Int) := by rw [Int.tdiv_eq_ediv_of_nonneg (by omega)]; omega
  have hqi : (x.toNat : Int).tmod 16 = (q : Int) := by rw [Int.tmod_eq_emod_of_nonneg (by omega)]; omega
  rw [← hp, ← hqq]
  clear hp hqq
  go_enter Tryz.func43, Tryz.ntmps43
  go_wp2
  go_quiet (fail)
  go_wp2
  go_ret
  refine ⟨?_, (Quiet.refl _).drewN _⟩
  have e : ∀ p, p < 16 → (ByteArray.mk #[48, 49, 50, 51, 52, 53, 54, 55, 56, 57, 97, 98, 99, 100, 101, 102]).extract p (p + 1) = bstr [hexc p] := by
    intro p hp
    have h1 := bstr_extract [48, 49, 50, 51, 52, 53, 54, 55, 56, 57, 97, 98, 99, 100, 101, 102] p (p + 1)
    rw [Nat.add_sub_cancel_left, hex_all ⟨p, hp⟩] at h1
    exact h1
  exact congrArg (fun s => Ending.returned (.string s)) (by rw [e p hp16, e q hq16, bstr_append]; rfl)
set_option maxHeartbeats 4000000 in
set_option maxRecDepth 100000 in
theorem quoteR (w : World) (l : List UInt8) (hm : l.length ≤ 1048576) (hT : Tabs w) :
    Calls Tryz.prog 19 #[.string (bstr l)] w fun e w' => e = .returned (.string (bstr (quoteOf l))) ∧ Below w.heap.size w w' := by
  obtain ⟨n, hn⟩ : ∃ n, n = l.length := ⟨_, rfl⟩
  have hsz : (bstr l).size = n := by rw [bstr_size, hn]
  rw [← hn] at hm
  have HN := Lib.hid hn
  clear hn
  have hO0 : OwnB w.heap.size (.slice (some ⟨w.heap.size, 0, none⟩) 1 1) [34] (w.alloc (.cells #[.int .u8 34] 5)) :=
    ⟨rfl, .inr ⟨w.heap.size, 1, #[.int .u8 34], rfl, Nat.le_refl _, alloc_last _ _, Nat.le_refl _, by unfold maxLen; decide, rfl, rfl⟩⟩
  have hb0 : Below w.heap.size w (w.alloc (.cells #[.int .u8 34] 5)) := (Below.refl _ w).alloc (Nat.le_refl _) _
  go_enter Tryz.func19, Tryz.ntmps19
  go_wp2
  go_loopw [3, 4] (fun rv iv wr => ∃ (i f : Nat) (acc : List UInt8), OwnB w.heap.size rv acc wr ∧ iv = .int .i64 (i : Int) ∧ Below w.heap.size w wr ∧ acc ++ quo l f i = 34 :: quo l (l.length + 1) 0 ∧ i ≤ n ∧ n < i + f ∧ acc.length ≤ 1 + 8 * i) (fun _ iv _ => n - (RowKit.intOf iv).toNat)
  case atStart => exact ⟨0, l.length + 1, [34], hO0, rfl, hb0, rfl, by omega, by rw [← HN.out]; omega, by simp⟩
  case round =>
    obtain ⟨i, f, acc, hO, rfl, hb, hq, hi, hif, hac⟩ := hrel
    have hBr := hb.size
    by_cases hlt : i < n
    · obtain ⟨f, rfl⟩ : ∃ g, f = g + 1 := ⟨f - 1, by omega⟩
      have hkl : i < l.length := by rw [← HN.out]; exact hlt
      obtain ⟨x, hx⟩ := some_at hkl
      have ii : i < (bstr l).size := by rw [hsz]; exact hlt
      have hxa : (bstr l)[i]'ii = x := bstr_at hx _
      obtain ⟨D, hD⟩ : ∃ D, l.drop i = D := ⟨_, rfl⟩
      have hDn : D ≠ [] := by rw [← hD]; intro e; have := congrArg List.length e; simp at this; omega
      have hDl : D.length = n - i := by rw [← hD, List.length_drop, ← HN.out]
      have hsl : D.take (n - i) = D := List.take_of_length_le (by omega)
      have hg := head_at hx hD
      rw [quo_step hkl, hD] at hq
      have hF := charR wr D hDn (by omega)
      have hKl := dec_width hDn
      have hK1 := dec_width_one (l := D)
      have hP8 := piece_len D
      obtain ⟨R, hR⟩ : ∃ R, (decodeL D).1 = R := ⟨_, rfl⟩
      obtain ⟨K, hK⟩ : ∃ K, (decodeL D).2 = K := ⟨_, rfl⟩
      have hK4 := dec_width_four (l := D)
      have hqc := qcase D hDn R K x hR hK hg
      obtain ⟨rb, hrb⟩ : ∃ b, decide (RightD (decodeL D)) = b := ⟨_, rfl⟩
      rw [hR, hK, hrb] at hF
      rw [hK] at hKl hK1 hq hK4
      rw [hDl] at hKl
      have HO := Lib.hid hO
      have HF := Lib.hid hF
      rcases hqc with ⟨hR0, hx0, hqp⟩ | ⟨hR0, hx0, hqp⟩ | ⟨hR0, hqp⟩ | ⟨hR0, hqp⟩ | ⟨hR0, hqp⟩ | ⟨hR0, hr0, hqp⟩ | ⟨hR0, c3, c4, c5, hr0, hqp⟩ | ⟨hR0, hr0, hqp⟩ | ⟨hR0 | hR0 | hR0, hr0, hqp⟩ | ⟨hR0, hr0, hqp⟩
      · obtain rfl := hR0
        rw [hqp] at hq hP8
        have HQ := Lib.hid hq
        clear hq hF hx hg hO hR hK hqp hkl
        go_wp2_with (first | (go_at_call 42; refine (HF.out).mono ?_; rintro e w2 ⟨rfl, hb2⟩; have hO2 := HO.out.below hb2; have hB2 := Nat.le_trans hBr hb2.size; have hb2' := hb.trans (hb2.mono hBr)) | (at_builtin; (with_reducible show wpList _ _ _ _ _ w2); refine appStr rfl _ _ rfl w.heap.size w _ acc [92, 34] rfl hO2 rfl (by first | omega | (simp; done) | (simp; omega)) (by first | omega | (simp; done) | (simp; omega)) hb2' hB2 ?_; intro v3 w3 hO3 hb3' hB3))
        go_roundw
        case rel => exact ⟨i + K, f, acc ++ [92, 34], by first | exact hO3 | (simpa using hO3), by go_num, hb3', by rw [List.append_assoc]; exact HQ.out, by omega, by omega, by rw [List.length_append]; omega⟩
        case measure => simp [RowKit.intOf]; omega
      · obtain rfl := hR0
        rw [hqp] at hq hP8
        have HQ := Lib.hid hq
        clear hq hF hx hg hO hR hK hqp hkl
        go_wp2_with (first | (go_at_call 42; refine (HF.out).mono ?_; rintro e w2 ⟨rfl, hb2⟩; have hO2 := HO.out.below hb2; have hB2 := Nat.le_trans hBr hb2.size; have hb2' := hb.trans (hb2.mono hBr)) | (at_builtin; (with_reducible show wpList _ _ _ _ _ w2); refine appStr rfl _ _ rfl w.heap.size w _ acc [92, 92] rfl hO2 rfl (by first | omega | (simp; done) | (simp; omega)) (by first | omega | (simp; done) | (simp; omega)) hb2' hB2 ?_; intro v3 w3 hO3 hb3' hB3))
        go_roundw
        case rel => exact ⟨i + K, f, acc ++ [92, 92], by first | exact hO3 | (simpa using hO3), by go_num, hb3', by rw [List.append_assoc]; exact HQ.out, by omega, by omega, by rw [List.length_append]; omega⟩
        case measure => simp [RowKit.intOf]; omega
      · obtain rfl := hR0
        rw [hqp] at hq hP8
        have HQ := Lib.hid hq
        clear hq hF hx hg hO hR hK hqp hkl
        go_wp2_with (first | (go_at_call 42; refine (HF.out).mono ?_; rintro e w2 ⟨rfl, hb2⟩; have hO2 := HO.out.below hb2; have hB2 := Nat.le_trans hBr hb2.size; have hb2' := hb.trans (hb2.mono hBr)) | (at_builtin; (with_reducible show wpList _ _ _ _ _ w2); refine appStr rfl _ _ rfl w.heap.size w _ acc [92, 110] rfl hO2 rfl (by first | omega | (simp; done) | (simp; omega)) (by first | omega | (simp; done) | (simp; omega)) hb2' hB2 ?_; intro v3 w3 hO3 hb3' hB3))
        go_roundw
        case rel => exact ⟨i + K, f, acc ++ [92, 110], by first | exact hO3 | (simpa using hO3), by go_num, hb3', by rw [List.append_assoc]; exact HQ.out, by omega, by omega, by rw [List.length_append]; omega⟩
        case measure => simp [RowKit.intOf]; omega
      · obtain rfl := hR0
        rw [hqp] at hq hP8
        have HQ := Lib.hid hq
        clear hq hF hx hg hO hR hK hqp hkl
        go_wp2_with (first | (go_at_call 42; refine (HF.out).mono ?_; rintro e w2 ⟨rfl, hb2⟩; have hO2 := HO.out.below hb2; have hB2 := Nat.le_trans hBr hb2.size; have hb2' := hb.trans (hb2.mono hBr)) | (at_builtin; (with_reducible show wpList _ _ _ _ _ w2); refine appStr rfl _ _ rfl w.heap.size w _ acc [92, 114] rfl hO2 rfl (by first | omega | (simp; done) | (simp; omega)) (by first | omega | (simp; done) | (simp; omega)) hb2' hB2 ?_; intro v3 w3 hO3 hb3' hB3))
        go_roundw
        case rel => exact ⟨i + K, f, acc ++ [92, 114], by first | exact hO3 | (simpa using hO3), by go_num, hb3', by rw [List.append_assoc]; exact HQ.out, by omega, by omega, by rw [List.length_append]; omega⟩
        case measure => simp [RowKit.intOf]; omega
      · obtain rfl := hR0
        rw [hqp] at hq hP8
        have HQ := Lib.hid hq
        clear hq hF hx hg hO hR hK hqp hkl
        go_wp2_with (first | (go_at_call 42; refine (HF.out).mono ?_; rintro e w2 ⟨rfl, hb2⟩; have hO2 := HO.out.below hb2; have hB2 := Nat.le_trans hBr hb2.size; have hb2' := hb.trans (hb2.mono hBr)) | (at_builtin; (with_reducible show wpList _ _ _ _ _ w2); refine appStr rfl _ _ rfl w.heap.size w _ acc [92, 116] rfl hO2 rfl (by first | omega | (simp; done) | (simp; omega)) (by first | omega | (simp; done) | (simp; omega)) hb2' hB2 ?_; intro v3 w3 hO3 hb3' hB3))
        go_roundw
        case rel => exact ⟨i + K, f, acc ++ [92, 116], by first | exact hO3 | (simpa using hO3), by go_num, hb3', by rw [List.append_assoc]; exact HQ.out, by omega, by omega, by rw [List.length_append]; omega⟩
        case measure => simp [RowKit.intOf]; omega
      · obtain rfl := hR0
        rw [hr0] at hrb
        obtain rfl := hrb
        have hxl := x.toNat_lt
        have hcl : ([hexc (x.toNat / 16), hexc (x.toNat % 16)] : List UInt8).length = 2 := rfl
        obtain ⟨H, hH⟩ : ∃ H, [hexc (x.toNat / 16), hexc (x.toNat % 16)] = H := ⟨_, rfl⟩
        rw [hH] at hcl
        have hHX := fun w1 => hH ▸ hexR w1 x
        have HHX := Lib.hid hHX
        rw [show [92, 120, hexc (x.toNat / 16), hexc (x.toNat % 16)] = [92, 120] ++ H by rw [← hH]; rfl] at hqp
        clear hHX hH
        rw [hqp] at hq hP8
        have HQ := Lib.hid hq
        clear hq hF hx hg hO hR hK hqp hkl
        go_wp2_with (first | (go_at_call 42; refine (HF.out).mono ?_; rintro e w2 ⟨rfl, hb2⟩; have hO2 := HO.out.below hb2; have hB2 := Nat.le_trans hBr hb2.size; have hb2' := hb.trans (hb2.mono hBr)))
        go_region_held3 (fun _ => True) (trivial) (first
          | (go_at_call 43; refine (HHX.out _).mono ?_; rintro e wq ⟨rfl, hqu⟩; obtain ⟨mq, rfl⟩ := hqu)
          | ((refine stepAppStr (by rfl) _ _ (by rfl) w.heap.size w _ acc [92, 120] (by rfl) (by first | exact hO2 | exact hO2.drewN _) (by rfl) (by omega) (by simp) (by first | exact hb2' | exact bl_drewN hb2' _) (by exact hB2) ?_); intro v3 w3 hO3 hb3' hB3)
          | ((refine stepAppStr (by rfl) _ _ (by rfl) w.heap.size w _ (acc ++ [92, 120]) H (by rfl) (by first | exact hO3 | exact hO3.drewN _) (by rfl) (by simp; omega) (by omega) (by first | exact hb3' | exact bl_drewN hb3' _) (by exact hB3) ?_); intro v4 w4 hO4 hb4' hB4))
        all_goals go_wp2
        all_goals go_roundw
        all_goals first
          | exact ⟨i + K, f, acc ++ ([92, 120] ++ H), by first | exact hO4 | (simpa using hO4), by go_num, hb4', by rw [List.append_assoc]; exact HQ.out, by omega, by omega, by rw [List.length_append]; omega⟩
          | (simp [RowKit.intOf]; omega)
      · rw [hr0] at hrb
        obtain rfl := hrb
        have n1 : ((R : Int) == 34) = false := nat_ne (b := 34) (by omega)
        have n2 : ((R : Int) == 92) = false := nat_ne (b := 92) (by omega)
        have n3 : ((R : Int) == 10) = false := nat_ne (b := 10) (by omega)
        have n4 : ((R : Int) == 13) = false := nat_ne (b := 13) (by omega)
        have n5 : ((R : Int) == 9) = false := nat_ne (b := 9) (by omega)
        have hxl := x.toNat_lt
        have hcl : ([hexc (x.toNat / 16), hexc (x.toNat % 16)] : List UInt8).length = 2 := rfl
        obtain ⟨H, hH⟩ : ∃ H, [hexc (x.toNat / 16), hexc (x.toNat % 16)] = H := ⟨_, rfl⟩
        rw [hH] at hcl
        have hHX := fun w1 => hH ▸ hexR w1 x
        have HHX := Lib.hid hHX
        rw [show [92, 120, hexc (x.toNat / 16), hexc (x.toNat % 16)] = [92, 120] ++ H by rw [← hH]; rfl] at hqp
        clear hHX hH
        rw [hqp] at hq hP8
        have HQ := Lib.hid hq
        clear hq hF hx hg hO hR hK hqp hkl
        go_wp2_with (first | (go_at_call 42; refine (HF.out).mono ?_; rintro e w2 ⟨rfl, hb2⟩; have hO2 := HO.out.below hb2; have hB2 := Nat.le_trans hBr hb2.size; have hb2' := hb.trans (hb2.mono hBr)))
        go_region_held3 (fun _ => True) (trivial) (first
          | (go_at_call 43; refine (HHX.out _).mono ?_; rintro e wq ⟨rfl, hqu⟩; obtain ⟨mq, rfl⟩ := hqu)
          | ((refine stepAppStr (by rfl) _ _ (by rfl) w.heap.size w _ acc [92, 120] (by rfl) (by first | exact hO2 | exact hO2.drewN _) (by rfl) (by omega) (by simp) (by first | exact hb2' | exact bl_drewN hb2' _) (by exact hB2) ?_); intro v3 w3 hO3 hb3' hB3)
          | ((refine stepAppStr (by rfl) _ _ (by rfl) w.heap.size w _ (acc ++ [92, 120]) H (by rfl) (by first | exact hO3 | exact hO3.drewN _) (by rfl) (by simp; omega) (by omega) (by first | exact hb3' | exact bl_drewN hb3' _) (by exact hB3) ?_); intro v4 w4 hO4 hb4' hB4))
        all_goals go_wp2
        all_goals go_roundw
        all_goals first
          | exact ⟨i + K, f, acc ++ ([92, 120] ++ H), by first | exact hO4 | (simpa using hO4), by go_num, hb4', by rw [List.append_assoc]; exact HQ.out, by omega, by omega, by rw [List.length_append]; omega⟩
          | (simp [RowKit.intOf]; omega)
      · obtain rfl := hR0
        rw [hr0] at hrb
        obtain rfl := hrb
        have hxl := x.toNat_lt
        have hcl : ([hexc (x.toNat / 16), hexc (x.toNat % 16)] : List UInt8).length = 2 := rfl
        obtain ⟨H, hH⟩ : ∃ H, [hexc (x.toNat / 16), hexc (x.toNat % 16)] = H := ⟨_, rfl⟩
        rw [hH] at hcl
        have hHX := fun w1 => hH ▸ hexR w1 x
        have HHX := Lib.hid hHX
        rw [show [92, 120, hexc (x.toNat / 16), hexc (x.toNat % 16)] = [92, 120] ++ H by rw [← hH]; rfl] at hqp
        clear hHX hH
        rw [hqp] at hq hP8
        have HQ := Lib.hid hq
        clear hq hF hx hg hO hR hK hqp hkl
        go_wp2_with (first | (go_at_call 42; refine (HF.out).mono ?_; rintro e w2 ⟨rfl, hb2⟩; have hO2 := HO.out.below hb2; have hB2 := Nat.le_trans hBr hb2.size; have hb2' := hb.trans (hb2.mono hBr)))
        go_region_held3 (fun _ => True) (trivial) (first
          | (go_at_call 43; refine (HHX.out _).mono ?_; rintro e wq ⟨rfl, hqu⟩; obtain ⟨mq, rfl⟩ := hqu)
          | ((refine stepAppStr (by rfl) _ _ (by rfl) w.heap.size w _ acc [92, 120] (by rfl) (by first | exact hO2 | exact hO2.drewN _) (by rfl) (by omega) (by simp) (by first | exact hb2' | exact bl_drewN hb2' _) (by exact hB2) ?_); intro v3 w3 hO3 hb3' hB3)
          | ((refine stepAppStr (by rfl) _ _ (by rfl) w.heap.size w _ (acc ++ [92, 120]) H (by rfl) (by first | exact hO3 | exact hO3.drewN _) (by rfl) (by simp; omega) (by omega) (by first | exact hb3' | exact bl_drewN hb3' _) (by exact hB3) ?_); intro v4 w4 hO4 hb4' hB4))
        all_goals go_wp2
        all_goals go_roundw
        all_goals first
          | exact ⟨i + K, f, acc ++ ([92, 120] ++ H), by first | exact hO4 | (simpa using hO4), by go_num, hb4', by rw [List.append_assoc]; exact HQ.out, by omega, by omega, by rw [List.length_append]; omega⟩
          | (simp [RowKit.intOf]; omega)
      · obtain rfl := hR0
        rw [hr0] at hrb
        obtain rfl := hrb
        have hlx : (hexOf 133).length ≤ 4 := by decide
        have HPl := fun w1 => (show decide (PlainN 133) = false by decide) ▸ plainR w1 133
        rw [hqp] at hq hP8
        have HQ := Lib.hid hq
        clear hq hF hx hg hO hR hK hqp hkl
        go_wp2_with (first | (go_at_call 42; refine (HF.out).mono ?_; rintro e w2 ⟨rfl, hb2⟩; have hO2 := HO.out.below hb2; have hB2 := Nat.le_trans hBr hb2.size; have hb2' := hb.trans (hb2.mono hBr)) | (go_at_call 44; refine (HPl _).mono ?_; rintro e wq ⟨rfl, hwq⟩; obtain rfl := hwq.symm) | (at_builtin; (with_reducible show wpList _ _ _ _ _ w2); refine appStr rfl _ _ rfl w.heap.size w _ acc [92, 117, 123] rfl hO2 rfl (by first | omega | (simp; done) | (simp; omega)) (by first | omega | (simp; done) | (simp; omega)) hb2' hB2 ?_; intro v3 w3 hO3 hb3' hB3) | (go_at_call 40; refine (fmt16 w3 (hT.below hb3' hT.size) 133 (by simp)).mono ?_; rintro e w4 ⟨rfl, hb4⟩; have hO4 := OwnB.below hO3 hb4; have hb4' := hb3'.trans (hb4.mono hB3); have hB4 := Nat.le_trans hB3 hb4.size) | (at_builtin; (with_reducible show wpList _ _ _ _ _ w4); refine appStr rfl _ _ rfl w.heap.size w _ (acc ++ [92, 117, 123]) (hexOf 133) rfl hO4 rfl (by first | omega | (simp; done) | (simp; omega)) (by first | omega | (simp; done) | (simp; omega)) hb4' hB4 ?_; intro v5 w5 hO5 hb5' hB5) | (at_builtin; refine appOne rfl _ _ rfl w.heap.size w w5 _ (acc ++ [92, 117, 123] ++ hexOf 133) 125 rfl hO5 rfl rfl (by simp; omega) hb5' hB5 ?_; intro v6 w6 hO6 hb6' hB6))
        go_roundw
        case rel => exact ⟨i + K, f, acc ++ ([92, 117, 123] ++ hexOf 133 ++ [125]), by first | exact hO6 | (simpa using hO6), by go_num, hb6', by rw [List.append_assoc]; exact HQ.out, by omega, by omega, by rw [List.length_append]; omega⟩
        case measure => simp [RowKit.intOf]; omega
      · obtain rfl := hR0
        rw [hr0] at hrb
        obtain rfl := hrb
        have hlx : (hexOf 8232).length ≤ 4 := by decide
        have HPl := fun w1 => (show decide (PlainN 8232) = false by decide) ▸ plainR w1 8232
        rw [hqp] at hq hP8
        have HQ := Lib.hid hq
        clear hq hF hx hg hO hR hK hqp hkl
        go_wp2_with (first | (go_at_call 42; refine (HF.out).mono ?_; rintro e w2 ⟨rfl, hb2⟩; have hO2 := HO.out.below hb2; have hB2 := Nat.le_trans hBr hb2.size; have hb2' := hb.trans (hb2.mono hBr)) | (go_at_call 44; refine (HPl _).mono ?_; rintro e wq ⟨rfl, hwq⟩; obtain rfl := hwq.symm) | (at_builtin; (with_reducible show wpList _ _ _ _ _ w2); refine appStr rfl _ _ rfl w.heap.size w _ acc [92, 117, 123] rfl hO2 rfl (by first | omega | (simp; done) | (simp; omega)) (by first | omega | (simp; done) | (simp; omega)) hb2' hB2 ?_; intro v3 w3 hO3 hb3' hB3) | (go_at_call 40; refine (fmt16 w3 (hT.below hb3' hT.size) 8232 (by simp)).mono ?_; rintro e w4 ⟨rfl, hb4⟩; have hO4 := OwnB.below hO3 hb4; have hb4' := hb3'.trans (hb4.mono hB3); have hB4 := Nat.le_trans hB3 hb4.size) | (at_builtin; (with_reducible show wpList _ _ _ _ _ w4); refine appStr rfl _ _ rfl w.heap.size w _ (acc ++ [92, 117, 123]) (hexOf 8232) rfl hO4 rfl (by first | omega | (simp; done) | (simp; omega)) (by first | omega | (simp; done) | (simp; omega)) hb4' hB4 ?_; intro v5 w5 hO5 hb5' hB5) | (at_builtin; refine appOne rfl _ _ rfl w.heap.size w w5 _ (acc ++ [92, 117, 123] ++ hexOf 8232) 125 rfl hO5 rfl rfl (by simp; omega) hb5' hB5 ?_; intro v6 w6 hO6 hb6' hB6))
        go_roundw
        case rel => exact ⟨i + K, f, acc ++ ([92, 117, 123] ++ hexOf 8232 ++ [125]), by first | exact hO6 | (simpa using hO6), by go_num, hb6', by rw [List.append_assoc]; exact HQ.out, by omega, by omega, by rw [List.length_append]; omega⟩
        case measure => simp [RowKit.intOf]; omega
      · obtain rfl := hR0
        rw [hr0] at hrb
        obtain rfl := hrb
        have hlx : (hexOf 8233).length ≤ 4 := by decide
        have HPl := fun w1 => (show decide (PlainN 8233) = false by decide) ▸ plainR w1 8233
        rw [hqp] at hq hP8
        have HQ := Lib.hid hq
        clear hq hF hx hg hO hR hK hqp hkl
        go_wp2_with (first | (go_at_call 42; refine (HF.out).mono ?_; rintro e w2 ⟨rfl, hb2⟩; have hO2 := HO.out.below hb2; have hB2 := Nat.le_trans hBr hb2.size; have hb2' := hb.trans (hb2.mono hBr)) | (go_at_call 44; refine (HPl _).mono ?_; rintro e wq ⟨rfl, hwq⟩; obtain rfl := hwq.symm) | (at_builtin; (with_reducible show wpList _ _ _ _ _ w2); refine appStr rfl _ _ rfl w.heap.size w _ acc [92, 117, 123] rfl hO2 rfl (by first | omega | (simp; done) | (simp; omega)) (by first | omega | (simp; done) | (simp; omega)) hb2' hB2 ?_; intro v3 w3 hO3 hb3' hB3) | (go_at_call 40; refine (fmt16 w3 (hT.below hb3' hT.size) 8233 (by simp)).mono ?_; rintro e w4 ⟨rfl, hb4⟩; have hO4 := OwnB.below hO3 hb4; have hb4' := hb3'.trans (hb4.mono hB3); have hB4 := Nat.le_trans hB3 hb4.size) | (at_builtin; (with_reducible show wpList _ _ _ _ _ w4); refine appStr rfl _ _ rfl w.heap.size w _ (acc ++ [92, 117, 123]) (hexOf 8233) rfl hO4 rfl (by first | omega | (simp; done) | (simp; omega)) (by first | omega | (simp; done) | (simp; omega)) hb4' hB4 ?_; intro v5 w5 hO5 hb5' hB5) | (at_builtin; refine appOne rfl _ _ rfl w.heap.size w w5 _ (acc ++ [92, 117, 123] ++ hexOf 8233) 125 rfl hO5 rfl rfl (by simp; omega) hb5' hB5 ?_; intro v6 w6 hO6 hb6' hB6))
        go_roundw
        case rel => exact ⟨i + K, f, acc ++ ([92, 117, 123] ++ hexOf 8233 ++ [125]), by first | exact hO6 | (simpa using hO6), by go_num, hb6', by rw [List.append_assoc]; exact HQ.out, by omega, by omega, by rw [List.length_append]; omega⟩
        case measure => simp [RowKit.intOf]; omega
      · rw [hr0] at hrb
        obtain rfl := hrb
        have hP := fun w1 => decide_eq_true hR0 ▸ plainR w1 R
        have HP := Lib.hid hP
        have hpl := hR0
        unfold PlainN at hpl
        have n1 : ((R : Int) == 34) = false := nat_ne (b := 34) (by omega)
        have n2 : ((R : Int) == 92) = false := nat_ne (b := 92) (by omega)
        have n3 : ((R : Int) == 10) = false := nat_ne (b := 10) (by omega)
        have n4 : ((R : Int) == 13) = false := nat_ne (b := 13) (by omega)
        have n5 : ((R : Int) == 9) = false := nat_ne (b := 9) (by omega)
        have n6 : ((R : Int) == 127) = false := nat_ne (b := 127) (by omega)
        have n7 : (32 : Int) ≤ (R : Int) := by omega
        obtain ⟨S, hS⟩ : ∃ S, D.take K = S := ⟨_, rfl⟩
        have hS2 : D.take (i + K - i) = S := by rw [← hS]; congr 1; omega
        rw [hS] at hqp
        have hSl : S.length ≤ 4 := by rw [← hS, List.length_take]; omega
        clear hP hpl hR0
        rw [hqp] at hq hP8
        have HQ := Lib.hid hq
        clear hq hF hx hg hO hR hK hqp hkl
        go_wp2_with (first | (go_at_call 42; refine (HF.out).mono ?_; rintro e w2 ⟨rfl, hb2⟩; have hO2 := HO.out.below hb2; have hB2 := Nat.le_trans hBr hb2.size; have hb2' := hb.trans (hb2.mono hBr)) | (go_at_call 44; refine (HP.out _).mono ?_; rintro e wq ⟨rfl, hwq⟩; obtain rfl := hwq.symm) | (at_builtin; (with_reducible show wpList _ _ _ _ _ w2); refine appStr rfl _ _ rfl w.heap.size w _ acc S rfl hO2 (congrArg (fun z => Value.string (bstr z)) hS2) (by first | omega | (simp; done) | (simp; omega)) (by first | omega | (simp; done) | (simp; omega)) hb2' hB2 ?_; intro v3 w3 hO3 hb3' hB3))
        go_roundw
        case rel => exact ⟨i + K, f, acc ++ S, by first | exact hO3 | (simpa using hO3), by go_num, hb3', by rw [List.append_assoc]; exact HQ.out, by omega, by omega, by rw [List.length_append]; omega⟩
        case measure => simp [RowKit.intOf]; omega
    · obtain rfl : i = n := by omega
      rw [quo_end (by rw [← HN.out]; exact Nat.le_refl _), List.append_nil] at hq
      have HQ := Lib.hid hq
      clear hq
      go_wp2_with (at_builtin; refine appOne rfl _ _ rfl w.heap.size w wr _ acc 34 rfl hO rfl rfl (by omega) hb hBr ?_; intro v6 w6 hO6 hb6' hB6; have hcv := conv_own hO6)
      go_ret
      rw [HQ.out]
      exact ⟨rfl, hb6'⟩
end Go.Proofs.YtmhemahkcbgaoaaGreatDoor
