/- The lines of a text with their ends, by the reference. -/
import Derived.Test.YtnbihjocdlpplaaDoorDStr
import Derived.Deep.RegionHeld3
import Derived.Deep.DeepCutAuto
import Derived.IntWalk
namespace Go.Proofs.YtnbihjocdlpplaaDoor
set_option linter.unusedVariables false
set_option linter.unusedSimpArgs false
open Go.RowKit
open Go.Lib
/-- append to a row of the call's own, as one step of a region that draws its order -/
theorem stepApp {T e : TypeId} {w : World} {ops : Array Oper} {o : Oper} {a : Act} {K : Act → World → Prop} {Q : Exit → Act → World → Prop} {E : Prop} (hgd : o.guard = none) (sl x : Operand) (ho : o.op = .call { callee := .builtin .append, args := #[sl, x], argTypes := #[T, T] })
    (hT : Tryd.prog.underlying T = some (.slice e)) (z : Value) (size bytes : Nat) (hinfo : (Tryd.prog.info? e).map (fun i => (i.zero, i.size, i.bytes)) = some (some z, size, bytes)) (hz : z.cells.size = size) (hs0 : 0 < size) (hby : bytes ≤ 4096)
    (B B0 : Nat) (w0 wp : World) (v : Value) (n : Nat) (xs cs : List Value) (hcs : cs.length = size) (hone : ∀ u ∈ cs, u.oneCell' = true) (hs : a.eval sl = v) (hown : wp.ownsRow B e size v n xs) (hx : a.eval x = .slice (some ⟨wp.heap.size, 0, none⟩) 1 1) (hw : w = wp.alloc (.cells cs.toArray e)) (hl : n ≤ 1073741824) (hb : Below B0 w0 wp) (hB0 : B0 ≤ B) (hB : B ≤ wp.heap.size)
    (h : ∀ v' w', w'.ownsRow B e size v' (n + 1) (xs ++ cs) → Below B0 w0 w' → K (a.put o.dst v') w') : if Region.wanted o (yielded ops a.tmps) = true then Oper.wp Tryd.prog o a w K Q else E := by
  subst hw
  obtain ⟨i0, hi, hz0, hz1, hz2⟩ := info_parts hinfo
  have hwd : Region.wanted o (yielded ops a.tmps) = true := by simp [Region.wanted, hgd]
  rw [if_pos hwd]
  have hsz : (wp.alloc (.cells cs.toArray e)).heap.size = wp.heap.size + 1 := by simp
  have hbt : (n + 1) * bytes ≤ 140737488355328 := by
    calc (n + 1) * bytes ≤ (n + 1) * 4096 := Nat.mul_le_mul (Nat.le_refl _) hby
      _ ≤ 140737488355328 := by omega
  obtain ⟨v', w', hrun, r1, r2, _⟩ := run_append_own (P := Tryd.prog) (wp.alloc (.cells cs.toArray e)) B T o.type e i0 z size bytes hT hi hz0 hz1 hz2 hz hs0 v n xs (World.ownsRow.alloc hown _) ⟨wp.heap.size, 0, none⟩ 1 1 cs (by rw [hcs, Nat.one_mul]) (new_cells _ _ _) hone (by unfold maxLen; omega) hbt (by omega)
  have hlt : ∀ k, v.ownBlock = some k → B ≤ k := fun k hk => (World.ownsRow.lt hown k hk).1
  unfold Oper.wp
  simp [execOp, ho, resolve, invoke, builtin, hs, hx, hrun, Result.andThen]
  exact h v' w' r1 ((hb.alloc (Nat.le_trans hB0 hB) _).grown r2 (by omega) (fun k hk => Nat.le_trans hB0 (hlt k hk)))
theorem splitA_at {l : List UInt8} {k : Nat} {x : Nat × Nat × Nat} (h : (linesL l)[k]? = some x) : (splitA l)[k]? = some (pieceE l x) := by
  unfold splitA; rw [List.getElem?_map, h]; rfl
theorem linesGo_end (l : List UInt8) : ∀ f a i, a ≤ i → i ≤ l.length → ∀ x ∈ linesGo l f a i, x.2.1 + x.2.2 ≤ l.length
  | 0, a, i, _, _ => fun x hx => by rw [linesGo] at hx; cases hx
  | f + 1, a, i, hai, hil => by
    intro x hx
    rw [linesGo] at hx
    by_cases h1 : l.length ≤ i
    · rw [if_pos h1] at hx
      have : x = (a, l.length, 0) := by simpa using hx
      subst this
      simp
    rw [if_neg h1] at hx
    by_cases h2 : endL l i = 0
    · rw [if_pos h2] at hx
      exact linesGo_end l f a (i + 1) (by omega) (by omega) x hx
    rw [if_neg h2] at hx
    have h3 := (endL_le l i).resolve_left h2
    rcases List.mem_cons.1 hx with rfl | hx
    · exact h3
    · exact linesGo_end l f _ _ (Nat.le_refl _) h3 x hx
theorem linesL_end (l : List UInt8) : ∀ x ∈ linesL l, x.1 ≤ x.2.1 ∧ x.2.1 + x.2.2 ≤ l.length := fun x hx => ⟨(linesL_ok l x hx).1, linesGo_end l _ 0 0 (Nat.le_refl _) (Nat.zero_le _) x hx⟩
theorem pieceE_len {l : List UInt8} {x : Nat × Nat × Nat} (h : x.1 ≤ x.2.1 ∧ x.2.1 + x.2.2 ≤ l.length) : (pieceE l x).length = x.2.1 + x.2.2 - x.1 := by
  unfold pieceE
  rw [List.length_take, List.length_drop]
  omega
set_option maxHeartbeats 8000000 in
set_option maxRecDepth 100000 in
theorem splitAR (w : World) (l : List UInt8) (hm : l.length ≤ 67108864) :
    Calls Tryd.prog 75 #[.string (bstr l)] w fun e w' => ∃ v, e = .returned v ∧ StrOwn w.heap.size v (splitA l) w' ∧ Below w.heap.size w w' := by
  have HA := Lib.hid (fun w1 => allR w1 l hm)
  obtain ⟨m, hml⟩ : ∃ m, (linesL l).length = m := ⟨_, rfl⟩
  have hmm := linesL_len l
  rw [hml] at hmm
  have HM := Lib.hid hml
  have HS : Hid ((splitA l).length = m) := Lib.hid (by unfold splitA; rw [List.length_map, hml])
  have HOK := Lib.hid (linesL_end l)
  have hsz := bstr_size l
  clear hml
  go_enter Tryd.func75, Tryd.ntmps75
  go_upto_region 2 with (go_at_call 88; refine (HA.out _).mono ?_; rintro e w1 ⟨v1, rfl, hO1, hb1⟩)
  obtain ⟨a1, c1, hv1⟩ := slice_own hO1
  rw [HM.out] at hv1
  subst hv1
  have HO1 : Hid (w1.ownsRow w.heap.size 142 3 (.slice a1 m c1) m ((linesL l).flatMap lineCells)) := Lib.hid (by have := hO1; unfold OwnLn at this; rwa [HM.out] at this)
  have HB1 := Lib.hid hb1
  have hsb := hb1.size
  have H0 : Hid (StrOwn w1.heap.size (.slice none 0 0) ((splitA l).take 0) w1) := Lib.hid (World.ownsRow_nil _ _ _ _)
  clear hO1 hb1
  go_wp2
  go_loopw [4, 5] (fun vv ui wr => ∃ k : Nat, k ≤ m ∧ ui = .int .i64 (k : Int) ∧ Hid (StrOwn w1.heap.size vv ((splitA l).take k) wr ∧ Below w1.heap.size w1 wr)) (fun _ ui _ => m - (RowKit.intOf ui).toNat)
  case atStart => exact ⟨0, Nat.zero_le _, rfl, Lib.hid ⟨H0.out, Below.refl _ _⟩⟩
  case round =>
    obtain ⟨k, hkm, rfl, HR⟩ := hrel
    obtain ⟨vv, rfl⟩ : ∃ v : Value, v = u4 := ⟨_, rfl⟩
    clear H0
    by_cases hlt : k < m
    · obtain ⟨x, hx⟩ : ∃ x, (linesL l)[k]? = some x := ⟨_, List.getElem?_eq_getElem (by rw [HM.out]; exact hlt)⟩
      have hxo := HOK.out x (List.mem_of_getElem? hx)
      have HSX := Lib.hid (splitA_at hx)
      have hpl := pieceE_len hxo
      obtain ⟨g, rfl, hg, hcell⟩ := own_cell (own_below HO1.out (HR.out.2)) (by omega)
      obtain ⟨xa, xb, xe⟩ := x
      have e0 : wr.cell? ⟨g, k * 3, none⟩ = some (.int .i64 (xa : Int)) := hcell _ _ (flat_at (c := 3) (fun _ => rfl) hx (j := 0) rfl)
      have e1 : wr.cell? ⟨g, k * 3 + 1, none⟩ = some (.int .i64 (xb : Int)) := hcell _ _ (flat_at (c := 3) (fun _ => rfl) hx (j := 1) rfl)
      have e2 : wr.cell? ⟨g, k * 3 + 2, none⟩ = some (.int .i64 (xe : Int)) := hcell _ _ (flat_at (c := 3) (fun _ => rfl) hx (j := 2) rfl)
      simp only at hxo hpl
      obtain ⟨hab, hbl⟩ := hxo
      obtain ⟨y, hy⟩ : ∃ y, xb + xe = y := ⟨_, rfl⟩
      rw [hy] at hbl hpl
      have i0 : (xb : Int) + (xe : Int) = (y : Int) := by omega
      have iw : IntKind.i64.wrap ((xb : Int) + (xe : Int)) = (y : Int) := by rw [i0]; exact IntWalk.i64_in _ (by omega)
      have i1 : (xa : Int) ≤ (y : Int) := by omega
      have i2 : (y : Int) ≤ (l.length : Int) := by omega
      obtain ⟨S, hS⟩ : ∃ S, pieceE l (xa, xb, xe) = S := ⟨_, rfl⟩
      have hex : (bstr l).extract xa y = bstr S := by rw [← hS, bstr_extract, ← hy]; rfl
      rw [hS] at hpl HSX
      have hbw := HR.out.2.size
      have HB9 := Lib.hid HR.out.2
      have hkl : ((splitA l).take k).length ≤ 1073741824 := by rw [List.length_take, HS.out]; omega
      have HKL := Lib.hid hkl
      have hal : g < w1.heap.size := by
        have := own_cell HO1.out (by omega)
        obtain ⟨g', hg', hlt', _⟩ := this
        cases hg'
        exact hlt'
      clear hx hcell hS hkl hy i0
      go_wp2
      have HOD : Hid (StrOwn w1.heap.size vv ((splitA l).take k) wr.drew) := Lib.hid HR.out.1
      have HBD : Hid (Below w1.heap.size w1 wr.drew) := Lib.hid HB9.out.drew
      have hbd : w1.heap.size ≤ wr.drew.heap.size := hbw
      have hone : ∀ u ∈ [Value.string (bstr S)], u.oneCell' = true := by intro u hu; simp only [List.mem_singleton] at hu; subst hu; rfl
      have HONE := Lib.hid hone
      have hq : ∀ w8, Below w1.heap.size w1 w8 → w8.cell? ⟨g, k * 3, none⟩ = some (.int .i64 (xa : Int)) ∧ w8.cell? ⟨g, k * 3 + 1, none⟩ = some (.int .i64 (xb : Int)) ∧ w8.cell? ⟨g, k * 3 + 2, none⟩ = some (.int .i64 (xe : Int)) := fun w8 hb => by
        rw [hb.cell (p := ⟨g, k * 3, none⟩) hal, hb.cell (p := ⟨g, k * 3 + 1, none⟩) hal, hb.cell (p := ⟨g, k * 3 + 2, none⟩) hal, ← HB9.out.cell (p := ⟨g, k * 3, none⟩) hal, ← HB9.out.cell (p := ⟨g, k * 3 + 1, none⟩) hal, ← HB9.out.cell (p := ⟨g, k * 3 + 2, none⟩) hal]
        exact ⟨e0, e1, e2⟩
      have HQ := Lib.hid hq
      clear hone hq
      go_region_held3 (fun w' => w'.cell? ⟨g, k * 3, none⟩ = some (.int .i64 (xa : Int)) ∧ w'.cell? ⟨g, k * 3 + 1, none⟩ = some (.int .i64 (xb : Int)) ∧ w'.cell? ⟨g, k * 3 + 2, none⟩ = some (.int .i64 (xe : Int))) (first | exact ⟨e0, e1, e2⟩ | exact HQ.out _ (by assumption) | exact HQ.out _ (HBD.out.alloc hbd _) | go_keep) (first
        | ((refine stepApp (by rfl) _ _ (by rfl) Tryd.underlying29 (.string ByteArray.empty) 1 16 infoStr (by rfl) (by decide) (by decide) w1.heap.size w1.heap.size w1 wr.drew vv ((splitA l).take k).length (((splitA l).take k).map S1) [.string (bstr S)] (by rfl) HONE.out (by rfl) HOD.out (by rfl) (by rfl) HKL.out HBD.out (Nat.le_refl _) hbd ?_); intro v8 w8 hO8 hb8))
      have HNX : Hid (StrOwn w1.heap.size v8 ((splitA l).take (k + 1)) w8 ∧ Below w1.heap.size w1 w8) := Lib.hid ⟨by
        rw [take_next HSX.out]
        exact StrOwn.push hO8, hb8⟩
      clear hO8 hb8
      go_wp2
      go_roundw
      case rel => exact ⟨k + 1, by omega, by go_num, HNX⟩
      case measure => simp [RowKit.intOf]; omega
    · obtain rfl : k = m := by omega
      go_wp2
      go_ret
      refine ⟨_, rfl, ?_, HB1.out.trans (HR.out.2.mono hsb)⟩
      have := HR.out.1
      rw [List.take_of_length_le (by rw [HS.out]; exact Nat.le_refl _)] at this
      exact own_mono this hsb
/-- the lines here, as both make them -/
def SplitQ (w : World) (l : List UInt8) (e : Ending) (w' : World) : Prop := ∃ a n c, e = .returned (.slice a n c) ∧ n = (splitD l).length ∧ n ≤ c ∧ c ≤ maxLen ∧ ReadsS w' a n (splitD l) ∧ Below w.heap.size w w'
theorem splitA_len (l : List UInt8) : 0 < (splitA l).length ∧ (splitA l).length ≤ l.length + 1 := by
  refine ⟨List.length_pos_iff.2 (splitA_ne l), ?_⟩
  unfold splitA
  rw [List.length_map]
  exact linesL_len l
theorem splitD_take (l : List UInt8) (h : (splitA l).getLast? = some []) : splitD l = (splitA l).take ((splitA l).length - 1) := by
  unfold splitD
  rw [if_pos h, List.dropLast_eq_take]
theorem splitD_all (l : List UInt8) (h : ¬ (splitA l).getLast? = some []) : splitD l = splitA l := by
  unfold splitD
  rw [if_neg h]
theorem splitA_last (l : List UInt8) : ∃ x, (splitA l)[(splitA l).length - 1]? = some x ∧ (splitA l).getLast? = some x := by
  have h := splitA_len l
  refine ⟨(splitA l)[(splitA l).length - 1]'(by omega), List.getElem?_eq_getElem _, ?_⟩
  rw [List.getLast?_eq_getElem?]
  exact List.getElem?_eq_getElem _
theorem ReadsS.take {w : World} {a : Option Addr} {n : Nat} {L : List (List UInt8)} (h : ReadsS w a n L) (m : Nat) (hm : m ≤ n) : ReadsS w a m (L.take m) := by
  obtain ⟨hl, h⟩ := h
  rw [List.length_map] at hl
  refine ⟨by rw [List.length_map, List.length_take]; omega, fun h0 => ?_⟩
  obtain ⟨b, off, ha, hb, hc⟩ := h (by omega)
  refine ⟨b, off, ha, hb, fun j hj => ?_⟩
  rw [hc j (by omega), List.getElem?_map, List.getElem?_map, List.getElem?_take, if_pos hj]
set_option maxHeartbeats 4000000 in
theorem lastR (w : World) (a : Option Addr) (n c : Nat) (L : List (List UInt8)) (h : ReadsS w a n L) (hn : 0 < n) (hm : n ≤ 1073741824) (x : List UInt8) (hx : L[n - 1]? = some x) :
    Calls Tryd.prog 76 #[.slice a n c] w fun e w' => e = .returned (.int .i64 (if x = [] then 0 else 1)) ∧ w = w' := by
  obtain ⟨b, off, y, rfl, hb, hy, hc⟩ := h.at (k := n - 1) (by omega)
  rw [hx] at hy
  cases hy
  obtain ⟨q, rfl⟩ : ∃ q, n = q + 1 := ⟨n - 1, by omega⟩
  simp only [Nat.add_sub_cancel] at hc
  by_cases h0 : x = []
  · subst h0
    go_enter Tryd.func76, Tryd.ntmps76
    go_wp2
    go_ret
    exact ⟨rfl, rfl⟩
  · have he : x.isEmpty = false := by cases x with | nil => exact absurd rfl h0 | cons _ _ => rfl
    go_enter Tryd.func76, Tryd.ntmps76
    go_wp2
    all_goals go_ret
    all_goals first | exact ⟨rfl, rfl⟩ | exact ⟨by rw [if_neg h0], rfl⟩ | (exfalso; simp_all)
set_option maxHeartbeats 4000000 in
theorem splitR (w : World) (l : List UInt8) (hm : l.length ≤ 67108864) :
    Calls Tryd.prog 44 #[.string (bstr l)] w (SplitQ w l) := by
  have HA := Lib.hid (splitAR w l hm)
  obtain ⟨x, hx, hl⟩ := splitA_last l
  have hlen := splitA_len l
  obtain ⟨q, hq⟩ : ∃ q, (splitA l).length = q + 1 := ⟨(splitA l).length - 1, by omega⟩
  rw [hq] at hx hlen
  have HX := Lib.hid hx
  have HL := Lib.hid hl
  have HQ := Lib.hid hq
  have hq2 : q ≤ 67108865 := by omega
  clear hx hl hq hlen
  go_enter Tryd.func44, Tryd.ntmps44
  go_upto_region 2 with (go_at_call 75; refine (HA.out).mono ?_; rintro e w1 ⟨v1, rfl, hO1, hb1⟩)
  obtain ⟨a1, c1, hv1, hR1, hc1, hm1⟩ := readsS_own hO1
  rw [HQ.out] at hv1 hR1 hc1
  subst hv1
  have HR1 := Lib.hid hR1
  have HB1 := Lib.hid hb1
  have hLR := lastR w1 a1 (q + 1) c1 (splitA l) hR1 (by omega) (by omega) x HX.out
  have hcm : c1 ≤ 9223372036854775807 := by unfold maxLen at hm1; omega
  have HM1 := Lib.hid hm1
  clear hO1 hb1 hR1 hm1
  by_cases h0 : x = []
  · rw [if_pos h0] at hLR
    have HLR := Lib.hid hLR
    have HD := Lib.hid (splitD_take l (by rw [HL.out, h0]))
    clear hLR h0
    go_wp2_with (go_at_call 76; refine (HLR.out).mono ?_; rintro e w2 ⟨rfl, rfl⟩)
    go_ret
    refine ⟨_, _, _, rfl, ?_, by omega, HM1.out, ?_, HB1.out⟩
    · rw [HD.out, List.length_take, HQ.out]; omega
    · rw [HD.out, HQ.out]; exact HR1.out.take _ (by omega)
  · rw [if_neg h0] at hLR
    have HLR := Lib.hid hLR
    have HD := Lib.hid (splitD_all l (by rw [HL.out]; simpa using h0))
    clear hLR h0
    go_wp2_with (go_at_call 76; refine (HLR.out).mono ?_; rintro e w2 ⟨rfl, rfl⟩)
    go_ret
    refine ⟨_, _, _, rfl, ?_, by omega, HM1.out, ?_, HB1.out⟩
    · rw [HD.out, HQ.out]
    · rw [HD.out]; exact HR1.out
end Go.Proofs.YtnbihjocdlpplaaDoor
