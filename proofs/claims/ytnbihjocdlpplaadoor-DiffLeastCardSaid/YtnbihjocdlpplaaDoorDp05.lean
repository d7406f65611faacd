/- Texts joined, one behind the other (DSplit, DSep, DiffQ, DiffR). -/
import Derived.Test.YtnbihjocdlpplaaDoorDp04
import Derived.Deep.RegionHeld3
import Derived.Deep.DeepCutAuto
import Derived.IntWalk
import Derived.ArgAppend
/- The lines of a text with their ends, by the reference. -/
namespace Go.Proofs.YtnbihjocdlpplaaDoor
set_option linter.unusedVariables false
set_option linter.unusedSimpArgs false
open Go.RowKit
open Go.Lib
/-- append to a row of the call's own, as one step of a region that draws its order -/
theorem stepApp {T e : TypeId} {w : World} {ops : Array Oper} {o : Oper} {a : Act} {K : Act → World → Prop} {Q : Exit → Act → World → Prop} {E : Prop} (hgd : o.guard = none) (sl x : Operand) (ho : o.op = .call { callee := .builtin .append, args := #[sl, x], argTypes := #[T, T] })
    (hT : Tryd.prog.underlying T = some (.slice e)) (z : Value) (size bytes : Nat) (hinfo : (Tryd.prog.info? e).map (fun i => (i.zero, i.size, i.bytes)) = some (some z, size, bytes)) (hz : z.cells.size = size) (hs0 : 0 < size) (hby : bytes ≤ 4096)
    (B B0 : Nat) (w0 wp : World) (v : Value) (n : Nat) (xs cs : List Value) (hcs : cs.length = size) (hone : ∀ u ∈ cs, u.oneCell' = true) (hs : a.eval sl = v) (hown : wp.ownsRow B e size v n xs) (hx : a.eval x = .slice (some ⟨wp.heap.size, 0, none⟩) 1 1) (hw : w = wp.alloc (.cells cs.toArray e)) (hl : n ≤ 1073741824) (hb : Below B0 w0 wp) (hB0 : B0 ≤ B) (hB : B ≤ wp.heap.size)
    (h : ∀ v' w', w'.ownsRow B e size v' (n + 1) (xs ++ cs) → Below B0 w0 w' → K (a.put o.dst v') w') : if Region.wanted o (yielded ops a.tmps) = true then Oper.wp Tryd.prog o a w K Q else E := by
  subst hw
  obtain ⟨i0, hi, hz0, hz1, hz2⟩ := info_parts hinfo
  have hwd : Region.wanted o (yielded ops a.tmps) = true := by simp [Region.wanted, hgd]
  rw [if_pos hwd]
  have hsz : (wp.alloc (.cells cs.toArray e)).heap.size = wp.heap.size + 1 := by simp
  have hbt : (n + 1) * bytes ≤ 140737488355328 := by
    calc (n + 1) * bytes ≤ (n + 1) * 4096 := Nat.mul_le_mul (Nat.le_refl _) hby
      _ ≤ 140737488355328 := by omega
  obtain ⟨v', w', hrun, r1, r2, _⟩ := run_append_own (P := Tryd.prog) (wp.alloc (.cells cs.toArray e)) B T o.type e i0 z size bytes hT hi hz0 hz1 hz2 hz hs0 v n xs (World.ownsRow.alloc hown _) ⟨wp.heap.size, 0, none⟩ 1 1 cs (by rw [hcs, Nat.one_mul]) (new_cells _ _ _) hone (by unfold maxLen; omega) hbt (by omega)
  have hlt : ∀ k, v.ownBlock = some k → B ≤ k := fun k hk => (World.ownsRow.lt hown k hk).1
  unfold Oper.wp
  simp [execOp, ho, resolve, invoke, builtin, hs, hx, hrun, Result.andThen]
  exact h v' w' r1 ((hb.alloc (Nat.le_trans hB0 hB) _).grown r2 (by omega) (fun k hk => Nat.le_trans hB0 (hlt k hk)))
theorem splitA_at {l : List UInt8} {k : Nat} {x : Nat × Nat × Nat} (h : (linesL l)[k]? = some x) : (splitA l)[k]? = some (pieceE l x) := by
  unfold splitA; rw [List.getElem?_map, h]; rfl
theorem linesGo_end (l : List UInt8) : ∀ f a i, a ≤ i → i ≤ l.length → ∀ x ∈ linesGo l f a i, x.2.1 + x.2.2 ≤ l.length
  | 0, a, i, _, _ => fun x hx => by rw [linesGo] at hx; cases hx
  | f + 1, a, i, hai, hil => by
    intro x hx
    rw [linesGo] at hx
    by_cases h1 : l.length ≤ i
    · rw [if_pos h1] at hx
      have : x = (a, l.length, 0) := by simpa using hx
      subst this
      simp
    rw [if_neg h1] at hx
    by_cases h2 : endL l i = 0
    · rw [if_pos h2] at hx
      exact linesGo_end l f a (i + 1) (by omega) (by omega) x hx
    rw [if_neg h2] at hx
    have h3 := (endL_le l i).resolve_left h2
    rcases List.mem_cons.1 hx with rfl | hx
    · exact h3
    · exact linesGo_end l f _ _ (Nat.le_refl _) h3 x hx
theorem linesL_end (l : List UInt8) : ∀ x ∈ linesL l, x.1 ≤ x.2.1 ∧ x.2.1 + x.2.2 ≤ l.length := fun x hx => ⟨(linesL_ok l x hx).1, linesGo_end l _ 0 0 (Nat.le_refl _) (Nat.zero_le _) x hx⟩
theorem pieceE_len {l : List UInt8} {x : Nat × Nat × Nat} (h : x.1 ≤ x.2.1 ∧ x.2.1 + x.2.2 ≤ l.length) : (pieceE l x).length = x.2.1 + x.2.2 - x.1 := by
  unfold pieceE
  rw [List.length_take, List.length_drop]
  omega
set_option maxHeartbeats 8000000 in
set_option maxRecDepth 100000 in
theorem splitAR (w : World) (l : List UInt8) (hm : l.length ≤ 67108864) :
    Calls Tryd.prog 75 #[.string (bstr l)] w fun e w' => ∃ v, e = .returned v ∧ StrOwn w.heap.size v (splitA l) w' ∧ Below w.heap.size w w' := by
  have HA := Lib.hid (fun w1 => allR w1 l hm)
  obtain ⟨m, hml⟩ : ∃ m, (linesL l).length = m := ⟨_, rfl⟩
  have hmm := linesL_len l
  rw [hml] at hmm
  have HM := Lib.hid hml
  have HS : Hid ((splitA l).length = m) := Lib.hid (by unfold splitA; rw [List.length_map, hml])
  have HOK := Lib.hid (linesL_end l)
  have hsz := bstr_size l
  clear hml
  go_enter Tryd.func75, Tryd.ntmps75
  go_upto_region 2 with (go_at_call 88; refine (HA.out _).mono ?_; rintro e w1 ⟨v1, rfl, hO1, hb1⟩)
  obtain ⟨a1, c1, hv1⟩ := slice_own hO1
  rw [HM.out] at hv1
  subst hv1
  have HO1 : Hid (w1.ownsRow w.heap.size 142 3 (.slice a1 m c1) m ((linesL l).flatMap lineCells)) := Lib.hid (by have := hO1; unfold OwnLn at this; rwa [HM.out] at this)
  have HB1 := Lib.hid hb1
  have hsb := hb1.size
  have H0 : Hid (StrOwn w1.heap.size (.slice none 0 0) ((splitA l).take 0) w1) := Lib.hid (World.ownsRow_nil _ _ _ _)
  clear hO1 hb1
  go_wp2
  go_loopw [4, 5] (fun vv ui wr => ∃ k : Nat, k ≤ m ∧ ui = .int .i64 (k : Int) ∧ Hid (StrOwn w1.heap.size vv ((splitA l).take k) wr ∧ Below w1.heap.size w1 wr)) (fun _ ui _ => m - (RowKit.intOf ui).toNat)
  case atStart => exact ⟨0, Nat.zero_le _, rfl, Lib.hid ⟨H0.out, Below.refl _ _⟩⟩
  case round =>
    obtain ⟨k, hkm, rfl, HR⟩ := hrel
    obtain ⟨vv, rfl⟩ : ∃ v : Value, v = u4 := ⟨_, rfl⟩
    clear H0
    by_cases hlt : k < m
    · obtain ⟨x, hx⟩ : ∃ x, (linesL l)[k]? = some x := ⟨_, List.getElem?_eq_getElem (by rw [HM.out]; exact hlt)⟩
      have hxo := HOK.out x (List.mem_of_getElem? hx)
      have HSX := Lib.hid (splitA_at hx)
      have hpl := pieceE_len hxo
      obtain ⟨g, rfl, hg, hcell⟩ := own_cell (own_below HO1.out (HR.out.2)) (by omega)
      obtain ⟨xa, xb, xe⟩ := x
      have e0 : wr.cell? ⟨g, k * 3, none⟩ = some (.int .i64 (xa : Int)) := hcell _ _ (flat_at (c := 3) (fun _ => rfl) hx (j := 0) rfl)
      have e1 : wr.cell? ⟨g, k * 3 + 1, none⟩ = some (.int .i64 (xb : Int)) := hcell _ _ (flat_at (c := 3) (fun _ => rfl) hx (j := 1) rfl)
      have e2 : wr.cell? ⟨g, k * 3 + 2, none⟩ = some (.int .i64 (xe : Int)) := hcell _ _ (flat_at (c := 3) (fun _ => rfl) hx (j := 2) rfl)
      simp only at hxo hpl
      obtain ⟨hab, hbl⟩ := hxo
      obtain ⟨y, hy⟩ : ∃ y, xb + xe = y := ⟨_, rfl⟩
      rw [hy] at hbl hpl
      have i0 : (xb : Int) + (xe : Int) = (y : Int) := by omega
      have iw : IntKind.i64.wrap ((xb : Int) + (xe : Int)) = (y : Int) := by rw [i0]; exact IntWalk.i64_in _ (by omega)
      have i1 : (xa : Int) ≤ (y : Int) := by omega
      have i2 : (y : Int) ≤ (l.length : Int) := by omega
      obtain ⟨S, hS⟩ : ∃ S, pieceE l (xa, xb, xe) = S := ⟨_, rfl⟩
      have hex : (bstr l).extract xa y = bstr S := by rw [← hS, bstr_extract, ← hy]; rfl
      rw [hS] at hpl HSX
      have hbw := HR.out.2.size
      have HB9 := Lib.hid HR.out.2
      have hkl : ((splitA l).take k).length ≤ 1073741824 := by rw [List.length_take, HS.out]; omega
      have HKL := Lib.hid hkl
      have hal : g < w1.heap.size := by
        have := own_cell HO1.out (by omega)
        obtain ⟨g', hg', hlt', _⟩ := this
        cases hg'
        exact hlt'
      clear hx hcell hS hkl hy i0
      go_wp2
      have HOD : Hid (StrOwn w1.heap.size vv ((splitA l).take k) wr.drew) := Lib.hid HR.out.1
      have HBD : Hid (Below w1.heap.size w1 wr.drew) := Lib.hid HB9.out.drew
      have hbd : w1.heap.size ≤ wr.drew.heap.size := hbw
      have hone : ∀ u ∈ [Value.string (bstr S)], u.oneCell' = true := by intro u hu; simp only [List.mem_singleton] at hu; subst hu; rfl
      have HONE := Lib.hid hone
      have hq : ∀ w8, Below w1.heap.size w1 w8 → w8.cell? ⟨g, k * 3, none⟩ = some (.int .i64 (xa : Int)) ∧ w8.cell? ⟨g, k * 3 + 1, none⟩ = some (.int .i64 (xb : Int)) ∧ w8.cell? ⟨g, k * 3 + 2, none⟩ = some (.int .i64 (xe : Int)) := fun w8 hb => by
        rw [hb.cell (p := ⟨g, k * 3, none⟩) hal, hb.cell (p := ⟨g, k * 3 + 1, none⟩) hal, hb.cell (p := ⟨g, k * 3 + 2, none⟩) hal, ← HB9.out.cell (p := ⟨g, k * 3, none⟩) hal, ← HB9.out.cell (p := ⟨g, k * 3 + 1, none⟩) hal, ← HB9.out.cell (p := ⟨g, k * 3 + 2, none⟩) hal]
        exact ⟨e0, e1, e2⟩
      have HQ := Lib.hid hq
      clear hone hq
      go_region_held3 (fun w' => w'.cell? ⟨g, k * 3, none⟩ = some (.int .i64 (xa : Int)) ∧ w'.cell? ⟨g, k * 3 + 1, none⟩ = some (.int .i64 (xb : Int)) ∧ w'.cell? ⟨g, k * 3 + 2, none⟩ = some (.int .i64 (xe : Int))) (first | exact ⟨e0, e1, e2⟩ | exact HQ.out _ (by assumption) | exact HQ.out _ (HBD.out.alloc hbd _) | go_keep) (first
        | ((refine stepApp (by rfl) _ _ (by rfl) Tryd.underlying29 (.string ByteArray.empty) 1 16 infoStr (by rfl) (by decide) (by decide) w1.heap.size w1.heap.size w1 wr.drew vv ((splitA l).take k).length (((splitA l).take k).map S1) [.string (bstr S)] (by rfl) HONE.out (by rfl) HOD.out (by rfl) (by rfl) HKL.out HBD.out (Nat.le_refl _) hbd ?_); intro v8 w8 hO8 hb8))
      have HNX : Hid (StrOwn w1.heap.size v8 ((splitA l).take (k + 1)) w8 ∧ Below w1.heap.size w1 w8) := Lib.hid ⟨by
        rw [take_next HSX.out]
        exact StrOwn.push hO8, hb8⟩
      clear hO8 hb8
      go_wp2
      go_roundw
      case rel => exact ⟨k + 1, by omega, by go_num, HNX⟩
      case measure => simp [RowKit.intOf]; omega
    · obtain rfl : k = m := by omega
      go_wp2
      go_ret
      refine ⟨_, rfl, ?_, HB1.out.trans (HR.out.2.mono hsb)⟩
      have := HR.out.1
      rw [List.take_of_length_le (by rw [HS.out]; exact Nat.le_refl _)] at this
      exact own_mono this hsb
/-- the lines here, as both make them -/
def SplitQ (w : World) (l : List UInt8) (e : Ending) (w' : World) : Prop := ∃ a n c, e = .returned (.slice a n c) ∧ n = (splitD l).length ∧ n ≤ c ∧ c ≤ maxLen ∧ ReadsS w' a n (splitD l) ∧ Below w.heap.size w w'
theorem splitA_len (l : List UInt8) : 0 < (splitA l).length ∧ (splitA l).length ≤ l.length + 1 := by
  refine ⟨List.length_pos_iff.2 (splitA_ne l), ?_⟩
  unfold splitA
  rw [List.length_map]
  exact linesL_len l
theorem splitD_take (l : List UInt8) (h : (splitA l).getLast? = some []) : splitD l = (splitA l).take ((splitA l).length - 1) := by
  unfold splitD
  rw [if_pos h, List.dropLast_eq_take]
theorem splitD_all (l : List UInt8) (h : ¬ (splitA l).getLast? = some []) : splitD l = splitA l := by
  unfold splitD
  rw [if_neg h]
theorem splitA_last (l : List UInt8) : ∃ x, (splitA l)[(splitA l).length - 1]? = some x ∧ (splitA l).getLast? = some x := by
  have h := splitA_len l
  refine ⟨(splitA l)[(splitA l).length - 1]'(by omega), List.getElem?_eq_getElem _, ?_⟩
  rw [List.getLast?_eq_getElem?]
  exact List.getElem?_eq_getElem _
theorem ReadsS.take {w : World} {a : Option Addr} {n : Nat} {L : List (List UInt8)} (h : ReadsS w a n L) (m : Nat) (hm : m ≤ n) : ReadsS w a m (L.take m) := by
  obtain ⟨hl, h⟩ := h
  rw [List.length_map] at hl
  refine ⟨by rw [List.length_map, List.length_take]; omega, fun h0 => ?_⟩
  obtain ⟨b, off, ha, hb, hc⟩ := h (by omega)
  refine ⟨b, off, ha, hb, fun j hj => ?_⟩
  rw [hc j (by omega), List.getElem?_map, List.getElem?_map, List.getElem?_take, if_pos hj]
set_option maxHeartbeats 4000000 in
theorem lastR (w : World) (a : Option Addr) (n c : Nat) (L : List (List UInt8)) (h : ReadsS w a n L) (hn : 0 < n) (hm : n ≤ 1073741824) (x : List UInt8) (hx : L[n - 1]? = some x) :
    Calls Tryd.prog 76 #[.slice a n c] w fun e w' => e = .returned (.int .i64 (if x = [] then 0 else 1)) ∧ w = w' := by
  obtain ⟨b, off, y, rfl, hb, hy, hc⟩ := h.at (k := n - 1) (by omega)
  rw [hx] at hy
  cases hy
  obtain ⟨q, rfl⟩ : ∃ q, n = q + 1 := ⟨n - 1, by omega⟩
  simp only [Nat.add_sub_cancel] at hc
  by_cases h0 : x = []
  · subst h0
    go_enter Tryd.func76, Tryd.ntmps76
    go_wp2
    go_ret
    exact ⟨rfl, rfl⟩
  · have he : x.isEmpty = false := by cases x with | nil => exact absurd rfl h0 | cons _ _ => rfl
    go_enter Tryd.func76, Tryd.ntmps76
    go_wp2
    all_goals go_ret
    all_goals first | exact ⟨rfl, rfl⟩ | exact ⟨by rw [if_neg h0], rfl⟩ | (exfalso; simp_all)
set_option maxHeartbeats 4000000 in
theorem splitR (w : World) (l : List UInt8) (hm : l.length ≤ 67108864) :
    Calls Tryd.prog 44 #[.string (bstr l)] w (SplitQ w l) := by
  have HA := Lib.hid (splitAR w l hm)
  obtain ⟨x, hx, hl⟩ := splitA_last l
  have hlen := splitA_len l
  obtain ⟨q, hq⟩ : ∃ q, (splitA l).length = q + 1 := ⟨(splitA l).length - 1, by omega⟩
  rw [hq] at hx hlen
  have HX := Lib.hid hx
  have HL := Lib.hid hl
  have HQ := Lib.hid hq
  have hq2 : q ≤ 67108865 := by omega
  clear hx hl hq hlen
  go_enter Tryd.func44, Tryd.ntmps44
  go_upto_region 2 with (go_at_call 75; refine (HA.out).mono ?_; rintro e w1 ⟨v1, rfl, hO1, hb1⟩)
  obtain ⟨a1, c1, hv1, hR1, hc1, hm1⟩ := readsS_own hO1
  rw [HQ.out] at hv1 hR1 hc1
  subst hv1
  have HR1 := Lib.hid hR1
  have HB1 := Lib.hid hb1
  have hLR := lastR w1 a1 (q + 1) c1 (splitA l) hR1 (by omega) (by omega) x HX.out
  have hcm : c1 ≤ 9223372036854775807 := by unfold maxLen at hm1; omega
  have HM1 := Lib.hid hm1
  clear hO1 hb1 hR1 hm1
  by_cases h0 : x = []
  · rw [if_pos h0] at hLR
    have HLR := Lib.hid hLR
    have HD := Lib.hid (splitD_take l (by rw [HL.out, h0]))
    clear hLR h0
    go_wp2_with (go_at_call 76; refine (HLR.out).mono ?_; rintro e w2 ⟨rfl, rfl⟩)
    go_ret
    refine ⟨_, _, _, rfl, ?_, by omega, HM1.out, ?_, HB1.out⟩
    · rw [HD.out, List.length_take, HQ.out]; omega
    · rw [HD.out, HQ.out]; exact HR1.out.take _ (by omega)
  · rw [if_neg h0] at hLR
    have HLR := Lib.hid hLR
    have HD := Lib.hid (splitD_all l (by rw [HL.out]; simpa using h0))
    clear hLR h0
    go_wp2_with (go_at_call 76; refine (HLR.out).mono ?_; rintro e w2 ⟨rfl, rfl⟩)
    go_ret
    refine ⟨_, _, _, rfl, ?_, by omega, HM1.out, ?_, HB1.out⟩
    · rw [HD.out, HQ.out]
    · rw [HD.out]; exact HR1.out
end Go.Proofs.YtnbihjocdlpplaaDoor
/- Append to one of several rows of one kind: which block the new row lies in. -/
namespace Go.Proofs.YtnbihjocdlpplaaDoor
set_option linter.unusedVariables false
set_option linter.unusedSimpArgs false
open Go.RowKit
open Go.Lib
theorem run_append_sep {P : Program} (w : World) (B : Nat) (t ty e : TypeId) (i : TypeInfo) (z : Value) (size bytes : Nat) (ht : P.underlying t = some (.slice e)) (hi : P.info? e = some i) (hz : i.zero = some z)
    (hsize : i.size = size) (hby : i.bytes = bytes) (hzs : z.cells.size = size) (hsz : 0 < size)
    (v : Value) (n : Nat) (xs : List Value) (hown : w.ownsRow B e size v n xs)
    (a : Addr) (m c : Nat) (news : List Value) (hm : 0 < m) (hl : news.length = m * size) (hnews : ∀ j u, news[j]? = some u → w.cell? (a.add j) = some u) (h1 : ∀ u ∈ news, u.oneCell' = true)
    (h63 : n + m ≤ maxLen) (hbytes : (n + m) * bytes ≤ 140737488355328) (hbase : B ≤ w.heap.size) :
    ∃ v' w', (Builtin.append_ #[t, t] ty #[v, .slice (some a) m c]).run P w = .ok v' w' ∧ w'.ownsRow B e size v' (n + m) (xs ++ news) ∧ w.grownBy w' v.ownBlock ∧ (v'.ownBlock = v.ownBlock ∨ ∀ b, v'.ownBlock = some b → w.heap.size ≤ b) := by
  have hxl := hown.1
  rcases hown.2 with ⟨rfl, rfl⟩ | ⟨g, cap, cur, rfl, _⟩
  · obtain rfl : xs = [] := List.eq_nil_of_length_eq_zero (by simpa using hxl)
    obtain ⟨v', w', hrun, r1, r2, _⟩ := run_append_own (P := P) w w.heap.size t ty e i z size bytes ht hi hz hsize hby hzs hsz (.slice none 0 0) 0 [] (World.ownsRow_nil _ _ _ _) a m c news hl hnews h1 h63 hbytes (Nat.le_refl _)
    exact ⟨v', w', hrun, own_mono_size r1 hbase, r2, .inr fun b hb => (r1.lt b hb).1⟩
  · by_cases hroom : n + m ≤ cap
    · obtain ⟨w', hrun, r1, r2⟩ := run_append_fits (P := P) w B t ty e i size ht hi hsize g n cap xs hown a m c news hl hnews h1 hroom
      exact ⟨_, w', hrun, r1, r2, .inl rfl⟩
    · obtain ⟨v', w', hrun, r1, r2⟩ := run_append_arg_grows (P := P) w t ty e i z size bytes ht hi hz hsize hby hzs hsz ⟨g, 0, none⟩ n cap xs hxl (hown.cells rfl) a m c news hl hnews (by omega) h63 hbytes
      exact ⟨v', w', hrun, own_mono_size r1 hbase, ⟨r2.os, r2.tape, r2.output, r2.size, fun k hk _ => r2.block k hk (by simp)⟩, .inr fun b hb => (r1.lt b hb).1⟩
/-- what a step that appends one element leaves -/
def AppPost (wp : World) (B : Nat) (e : TypeId) (size : Nat) (v : Value) (n : Nat) (xs cs : List Value) (v' : Value) (w' : World) : Prop :=
  w'.ownsRow B e size v' (n + 1) (xs ++ cs) ∧ wp.grownBy w' v.ownBlock ∧ (v'.ownBlock = v.ownBlock ∨ ∀ b, v'.ownBlock = some b → wp.heap.size ≤ b)
theorem run_append_one {P : Program} {T ty e : TypeId} (hT : P.underlying T = some (.slice e)) (z : Value) (size bytes : Nat) (hinfo : (P.info? e).map (fun i => (i.zero, i.size, i.bytes)) = some (some z, size, bytes)) (hz : z.cells.size = size) (hs0 : 0 < size) (hby : bytes ≤ 4096)
    (B : Nat) (wp : World) (v : Value) (n : Nat) (xs cs : List Value) (hcs : cs.length = size) (hone : ∀ u ∈ cs, u.oneCell' = true) (hown : wp.ownsRow B e size v n xs) (hl : n ≤ 1073741824) (hB : B ≤ wp.heap.size) :
    ∃ v' w', (Builtin.append_ #[T, T] ty #[v, .slice (some ⟨wp.heap.size, 0, none⟩) 1 1]).run P (wp.alloc (.cells cs.toArray e)) = .ok v' w' ∧ AppPost wp B e size v n xs cs v' w' := by
  obtain ⟨i0, hi, hz0, hz1, hz2⟩ := info_parts hinfo
  have hsz : (wp.alloc (.cells cs.toArray e)).heap.size = wp.heap.size + 1 := by simp
  have hbt : (n + 1) * bytes ≤ 140737488355328 := by
    calc (n + 1) * bytes ≤ (n + 1) * 4096 := Nat.mul_le_mul (Nat.le_refl _) hby
      _ ≤ 140737488355328 := by omega
  obtain ⟨v', w', hrun, r1, r2, r3⟩ := run_append_sep (P := P) (wp.alloc (.cells cs.toArray e)) B T ty e i0 z size bytes hT hi hz0 hz1 hz2 hz hs0 v n xs (World.ownsRow.alloc hown _) ⟨wp.heap.size, 0, none⟩ 1 1 cs (by decide) (by rw [hcs, Nat.one_mul]) (new_cells _ _ _) hone (by unfold maxLen; omega) hbt (by omega)
  exact ⟨v', w', hrun, r1, grownBy_trans (grownBy_below ((Below.refl _ wp).alloc (Nat.le_refl _) _) _) r2, r3.imp id fun h b hb => by have := h b hb; omega⟩
/-- in a plain region -/
theorem appSep {T e : TypeId} {ops : Array Oper} {rest : List Oper} {o : Oper} {a : Act} {w : World} {Q : Exit → Act → World → Prop} (hgd : o.guard = none) (sl x : Operand) (ho : o.op = .call { callee := .builtin .append, args := #[sl, x], argTypes := #[T, T] })
    (hT : Tryd.prog.underlying T = some (.slice e)) (z : Value) (size bytes : Nat) (hinfo : (Tryd.prog.info? e).map (fun i => (i.zero, i.size, i.bytes)) = some (some z, size, bytes)) (hz : z.cells.size = size) (hs0 : 0 < size) (hby : bytes ≤ 4096)
    (B : Nat) (wp : World) (v : Value) (n : Nat) (xs cs : List Value) (hcs : cs.length = size) (hone : ∀ u ∈ cs, u.oneCell' = true) (hs : a.eval sl = v) (hown : wp.ownsRow B e size v n xs) (hx : a.eval x = .slice (some ⟨wp.heap.size, 0, none⟩) 1 1) (hw : w = wp.alloc (.cells cs.toArray e)) (hl : n ≤ 1073741824) (hB : B ≤ wp.heap.size)
    (h : ∀ v' w', AppPost wp B e size v n xs cs v' w' → wpList Tryd.prog ops Q rest (a.put o.dst v') w') : wpList Tryd.prog ops Q (o :: rest) a w := by
  subst hw
  obtain ⟨v', w', hrun, hp⟩ := run_append_one (ty := o.type) hT z size bytes hinfo hz hs0 hby B wp v n xs cs hcs hone hown hl hB
  refine wpList_plain hgd fun K hK => ?_
  unfold Oper.wp
  simp [execOp, ho, resolve, invoke, builtin, hs, hx, hrun, Result.andThen]
  exact hK _ _ (h v' w' hp)
/-- as one step of a region that draws its order -/
theorem stepSep {T e : TypeId} {w : World} {ops : Array Oper} {o : Oper} {a : Act} {K : Act → World → Prop} {Q : Exit → Act → World → Prop} {E : Prop} (hgd : o.guard = none) (sl x : Operand) (ho : o.op = .call { callee := .builtin .append, args := #[sl, x], argTypes := #[T, T] })
    (hT : Tryd.prog.underlying T = some (.slice e)) (z : Value) (size bytes : Nat) (hinfo : (Tryd.prog.info? e).map (fun i => (i.zero, i.size, i.bytes)) = some (some z, size, bytes)) (hz : z.cells.size = size) (hs0 : 0 < size) (hby : bytes ≤ 4096)
    (B : Nat) (wp : World) (v : Value) (n : Nat) (xs cs : List Value) (hcs : cs.length = size) (hone : ∀ u ∈ cs, u.oneCell' = true) (hs : a.eval sl = v) (hown : wp.ownsRow B e size v n xs) (hx : a.eval x = .slice (some ⟨wp.heap.size, 0, none⟩) 1 1) (hw : w = wp.alloc (.cells cs.toArray e)) (hl : n ≤ 1073741824) (hB : B ≤ wp.heap.size)
    (h : ∀ v' w', AppPost wp B e size v n xs cs v' w' → K (a.put o.dst v') w') : if Region.wanted o (yielded ops a.tmps) = true then Oper.wp Tryd.prog o a w K Q else E := by
  subst hw
  obtain ⟨v', w', hrun, hp⟩ := run_append_one (ty := o.type) hT z size bytes hinfo hz hs0 hby B wp v n xs cs hcs hone hown hl hB
  have hwd : Region.wanted o (yielded ops a.tmps) = true := by simp [Region.wanted, hgd]
  rw [if_pos hwd]
  unfold Oper.wp
  simp [execOp, ho, resolve, invoke, builtin, hs, hx, hrun, Result.andThen]
  exact h v' w' hp
end Go.Proofs.YtnbihjocdlpplaaDoor
/- The plain law of patches: none has a lesser distance; the distance of the patch. -/
namespace Go.Proofs.YtnbihjocdlpplaaDoor
set_option linter.unusedVariables false
set_option linter.unusedSimpArgs false
theorem dist_cons (x : List UInt8) (a : List (List UInt8)) (y : List UInt8) (b : List (List UInt8)) : dist (x :: a) (y :: b) = if x = y then dist a b else 1 + min (dist a (y :: b)) (dist (x :: a) b) := by rw [dist]
theorem dist_both (a : List (List UInt8)) : (∀ b y, dist a b ≤ 1 + dist a (y :: b)) ∧ (∀ x b, dist (x :: a) b ≤ 1 + dist a b) := by
  induction a with
  | nil =>
    have h1 : ∀ b y, dist [] b ≤ 1 + dist [] (y :: b) := fun b y => by simp [dist]; omega
    refine ⟨h1, fun x b => ?_⟩
    cases b with
    | nil => simp [dist]
    | cons y b =>
      rw [dist_cons]
      split
      · exact h1 b y
      · have := Nat.min_le_left (dist [] (y :: b)) (dist [x] b); omega
  | cons z a ih =>
    have h1 : ∀ b y, dist (z :: a) b ≤ 1 + dist (z :: a) (y :: b) := fun b y => by
      have q := ih.2 z b
      have l := ih.1 b y
      rw [dist_cons z a y b]
      split
      · exact q
      · rcases Nat.le_total (dist a (y :: b)) (dist (z :: a) b) with h | h
        · rw [Nat.min_eq_left h]; omega
        · rw [Nat.min_eq_right h]; omega
    refine ⟨h1, fun x b => ?_⟩
    cases b with
    | nil => simp [dist]; omega
    | cons y b =>
      rw [dist_cons x (z :: a) y b]
      split
      · exact h1 b y
      · have := Nat.min_le_left (dist (z :: a) (y :: b)) (dist (x :: z :: a) b); omega
theorem dist_same (x : List UInt8) (a b : List (List UInt8)) : dist (x :: a) (x :: b) = dist a b := by
  rw [dist_cons, if_pos rfl]
theorem dist_left (x : List UInt8) (a b : List (List UInt8)) : dist (x :: a) b ≤ 1 + dist a b := (dist_both a).2 x b
theorem dist_symm_go : ∀ (n : Nat) (a b : List (List UInt8)), a.length + b.length ≤ n → dist a b = dist b a
  | 0, a, b, h => by
    obtain rfl : a = [] := List.eq_nil_of_length_eq_zero (by omega)
    obtain rfl : b = [] := List.eq_nil_of_length_eq_zero (by omega)
    rfl
  | n + 1, [], b, h => by rw [dist_nil]; simp [dist]
  | n + 1, x :: a, [], h => by simp [dist]
  | n + 1, x :: a, y :: b, h => by
    simp only [List.length_cons] at h
    rw [dist_cons, dist_cons]
    by_cases e : x = y
    · rw [if_pos e, if_pos e.symm]
      exact dist_symm_go n a b (by omega)
    · rw [if_neg e, if_neg (fun e' => e e'.symm), dist_symm_go n a (y :: b) (by simp; omega), dist_symm_go n (x :: a) b (by simp; omega), Nat.min_comm]
theorem dist_symm (a b : List (List UInt8)) : dist a b = dist b a := dist_symm_go _ a b (Nat.le_refl _)
theorem dist_right (a b : List (List UInt8)) (y : List UInt8) : dist a (y :: b) ≤ 1 + dist a b := by
  rw [dist_symm a (y :: b), dist_symm a b]
  exact dist_left y b a
/-- how many lines a script takes away and puts in -/
def costOp : Op7 → Nat
  | .same _ => 0
  | _ => 1
def costOps (l : List Op7) : Nat := (l.map costOp).sum
theorem script_cost_go : ∀ (n : Nat) (a b : List (List UInt8)), a.length + b.length ≤ n → costOps (script a b) = dist a b
  | 0, a, b, h => by
    obtain rfl : a = [] := List.eq_nil_of_length_eq_zero (by omega)
    obtain rfl : b = [] := List.eq_nil_of_length_eq_zero (by omega)
    simp [script, dist, costOps]
  | n + 1, [], [], h => by simp [script, dist, costOps]
  | n + 1, [], y :: b, h => by
    simp only [List.length_cons] at h
    have := script_cost_go n [] b (by omega)
    rw [script]
    unfold costOps at *
    simp only [List.map_cons, List.sum_cons, this, costOp]
    simp [dist]
    omega
  | n + 1, x :: a, [], h => by
    simp only [List.length_cons] at h
    have := script_cost_go n a [] (by omega)
    rw [script]
    unfold costOps at *
    simp only [List.map_cons, List.sum_cons, this, costOp]
    rw [dist_nil, dist_nil, List.length_cons]
    omega
  | n + 1, x :: a, y :: b, h => by
    simp only [List.length_cons] at h
    rw [script, dist_cons]
    by_cases e : x = y
    · rw [if_pos e, if_pos e]
      have := script_cost_go n a b (by omega)
      unfold costOps at *
      simp only [List.map_cons, List.sum_cons, this, costOp]
      omega
    · rw [if_neg e, if_neg e]
      split
      · rename_i hle
        have := script_cost_go n a (y :: b) (by simp; omega)
        unfold costOps at *
        simp only [List.map_cons, List.sum_cons, this, costOp]
        rw [Nat.min_eq_left hle]
      · rename_i hle
        have := script_cost_go n (x :: a) b (by simp; omega)
        unfold costOps at *
        simp only [List.map_cons, List.sum_cons, this, costOp]
        rw [Nat.min_eq_right (by omega)]
theorem script_cost (a b : List (List UInt8)) : costOps (script a b) = dist a b := script_cost_go _ a b (Nat.le_refl _)
def distH (l : List Hk) : Nat := (l.map fun h => if h.1 = 2 ∨ h.1 = 3 then h.2.length else 0).sum
theorem distH_app (a b : List Hk) : distH (a ++ b) = distH a + distH b := by unfold distH; simp
theorem distH_put (k : Nat) (l : List (List UInt8)) (out : List Hk) : distH (putK k l out) = distH out + (if k = 2 ∨ k = 3 then l.length else 0) := by
  unfold putK
  split
  · rename_i h; subst h; simp
  · rw [distH_app]; simp [distH]
def distSt (st : St7) : Nat := distH st.out + st.gone.length + st.come.length
theorem distSt_step (st : St7) (o : Op7) : distSt (stepW st o) = distSt st + costOp o := by
  cases o <;> simp [stepW, distSt, distH_put, costOp] <;> omega
theorem distSt_fold (ops : List Op7) (st : St7) : distSt (ops.foldl stepW st) = distSt st + costOps ops := by
  induction ops generalizing st with
  | nil => simp [costOps]
  | cons o ops ih => rw [List.foldl_cons, ih, distSt_step]; unfold costOps; simp; omega
theorem distH_done (st : St7) : distH (doneW st) = distSt st := by
  unfold doneW distSt
  rw [distH_put, distH_put, distH_put]
  simp
theorem patch_dist (a b : List (List UInt8)) : distH (patchL a b) = dist a b := by
  unfold patchL patchOf
  rw [distH_done, distSt_fold, script_cost]
  simp [distSt, distH]
end Go.Proofs.YtnbihjocdlpplaaDoor
/- The plain law of patches: the two sides of a patch, and that it may be. -/
namespace Go.Proofs.YtnbihjocdlpplaaDoor
set_option linter.unusedVariables false
set_option linter.unusedSimpArgs false
def sideL (k : Nat) (l : List Hk) : List (List UInt8) := l.flatMap fun h => if h.1 = 1 ∨ h.1 = k then h.2 else []
theorem side_app (k : Nat) (a b : List Hk) : sideL k (a ++ b) = sideL k a ++ sideL k b := by unfold sideL; simp
theorem side_put (k q : Nat) (l : List (List UInt8)) (out : List Hk) : sideL k (putK q l out) = sideL k out ++ (if q = 1 ∨ q = k then l else []) := by
  unfold putK
  split
  · rename_i h; subst h; simp
  · rw [side_app]; simp [sideL]
def lineA : Op7 → List (List UInt8)
  | .same s => [s]
  | .gone s => [s]
  | .come _ => []
def lineB : Op7 → List (List UInt8)
  | .same s => [s]
  | .gone _ => []
  | .come s => [s]
def sideSt (k : Nat) (st : St7) : List (List UInt8) := sideL k st.out ++ st.same ++ (if k = 2 then st.gone else st.come)
theorem sideA_step (st : St7) (o : Op7) (h : OneW st) : sideSt 2 (stepW st o) = sideSt 2 st ++ lineA o := by
  rcases h with h | ⟨h1, h2⟩ <;> cases o <;> simp_all [stepW, sideSt, side_put, lineA]
theorem sideB_step (st : St7) (o : Op7) (h : OneW st) : sideSt 3 (stepW st o) = sideSt 3 st ++ lineB o := by
  rcases h with h | ⟨h1, h2⟩ <;> cases o <;> simp_all [stepW, sideSt, side_put, lineB]
theorem fold_one (ops : List Op7) (st : St7) (h : OneW st) : OneW (ops.foldl stepW st) := by
  induction ops generalizing st with
  | nil => exact h
  | cons o ops ih => exact ih _ (oneW_step st o)
theorem sideA_fold (ops : List Op7) (st : St7) (h : OneW st) : sideSt 2 (ops.foldl stepW st) = sideSt 2 st ++ ops.flatMap lineA := by
  induction ops generalizing st with
  | nil => simp
  | cons o ops ih => rw [List.foldl_cons, ih _ (oneW_step st o), sideA_step st o h, List.flatMap_cons, List.append_assoc]
theorem sideB_fold (ops : List Op7) (st : St7) (h : OneW st) : sideSt 3 (ops.foldl stepW st) = sideSt 3 st ++ ops.flatMap lineB := by
  induction ops generalizing st with
  | nil => simp
  | cons o ops ih => rw [List.foldl_cons, ih _ (oneW_step st o), sideB_step st o h, List.flatMap_cons, List.append_assoc]
theorem side_done {st : St7} (h : OneW st) : sideL 2 (doneW st) = sideSt 2 st ∧ sideL 3 (doneW st) = sideSt 3 st := by
  unfold doneW sideSt
  simp [side_put]
theorem oneW_start : OneW ⟨[], [], [], []⟩ := .inl rfl
theorem patchOf_sides (ops : List Op7) : sideL 2 (patchOf ops) = ops.flatMap lineA ∧ sideL 3 (patchOf ops) = ops.flatMap lineB := by
  unfold patchOf
  have h := side_done (fold_one ops _ oneW_start)
  rw [h.1, h.2, sideA_fold ops _ oneW_start, sideB_fold ops _ oneW_start]
  simp [sideSt, sideL]
theorem script_lines_go : ∀ (n : Nat) (a b : List (List UInt8)), a.length + b.length ≤ n → (script a b).flatMap lineA = a ∧ (script a b).flatMap lineB = b
  | 0, a, b, h => by
    obtain rfl : a = [] := List.eq_nil_of_length_eq_zero (by omega)
    obtain rfl : b = [] := List.eq_nil_of_length_eq_zero (by omega)
    simp [script]
  | n + 1, [], [], h => by simp [script]
  | n + 1, [], y :: b, h => by
    simp only [List.length_cons] at h
    have := script_lines_go n [] b (by omega)
    rw [script]
    simp [List.flatMap_cons, this.1, this.2, lineA, lineB]
  | n + 1, x :: a, [], h => by
    simp only [List.length_cons] at h
    have := script_lines_go n a [] (by omega)
    rw [script]
    simp [List.flatMap_cons, this.1, this.2, lineA, lineB]
  | n + 1, x :: a, y :: b, h => by
    simp only [List.length_cons] at h
    rw [script]
    by_cases e : x = y
    · rw [if_pos e]
      have := script_lines_go n a b (by omega)
      subst e
      simp [List.flatMap_cons, this.1, this.2, lineA, lineB]
    · rw [if_neg e]
      split
      · have := script_lines_go n a (y :: b) (by simp; omega)
        simp [List.flatMap_cons, this.1, this.2, lineA, lineB]
      · have := script_lines_go n (x :: a) b (by simp; omega)
        simp [List.flatMap_cons, this.1, this.2, lineA, lineB]
theorem patch_sides (a b : List (List UInt8)) : sideL 2 (patchL a b) = a ∧ sideL 3 (patchL a b) = b := by
  have h := patchOf_sides (script a b)
  have h2 := script_lines_go _ a b (Nat.le_refl _)
  rw [h2.1, h2.2] at h
  exact h
/-- may a hunk stand behind one of that kind? -/
def okAt (was : Nat) (h : Hk) : Prop := (1 ≤ h.1 ∧ h.1 ≤ 3) ∧ h.2 ≠ [] ∧ h.1 ≠ was ∧ ¬ (h.1 = 2 ∧ was = 3)
def okKinds : Nat → List Hk → Prop
  | _, [] => True
  | was, h :: l => okAt was h ∧ okKinds h.1 l
def lastK : Nat → List Hk → Nat
  | was, [] => was
  | _, h :: l => lastK h.1 l
theorem lastK_app (a : List Hk) (k : Nat) (x : List (List UInt8)) : ∀ was, lastK was (a ++ [(k, x)]) = k := by
  induction a with
  | nil => intro was; rfl
  | cons h a ih => intro was; exact ih h.1
theorem okKinds_app (a : List Hk) (h : Hk) : ∀ was, okKinds was (a ++ [h]) ↔ okKinds was a ∧ okAt (lastK was a) h := by
  induction a with
  | nil => intro was; simp [okKinds, lastK]
  | cons x a ih =>
    intro was
    rw [List.cons_append, okKinds, okKinds, ih]
    exact and_assoc.symm
theorem ok_put {k : Nat} {l : List (List UInt8)} {out : List Hk} (ho : okKinds 0 out) (hk : 1 ≤ k ∧ k ≤ 3) (hl : l ≠ [] → k ≠ lastK 0 out ∧ ¬ (k = 2 ∧ lastK 0 out = 3)) : okKinds 0 (putK k l out) := by
  unfold putK
  split
  · exact ho
  · rename_i h
    rw [okKinds_app]
    exact ⟨ho, hk, h, (hl h).1, (hl h).2⟩
theorem last_put {k : Nat} {l : List (List UInt8)} {out : List Hk} : lastK 0 (putK k l out) = if l = [] then lastK 0 out else k := by
  unfold putK
  split
  · rfl
  · rw [lastK_app]
/-- what is kept while hunks are gathered -/
structure OkSt (st : St7) : Prop where
  one : OneW st
  ok : okKinds 0 st.out
  le : lastK 0 st.out ≤ 3
  same : st.same ≠ [] → lastK 0 st.out ≠ 1
  chg : (st.gone ≠ [] ∨ st.come ≠ []) → lastK 0 st.out ≤ 1
  none : st.same = [] → st.gone = [] → st.come = [] → lastK 0 st.out = 0
theorem okSt_start : OkSt ⟨[], [], [], []⟩ := ⟨.inl rfl, trivial, by simp [lastK], fun h => absurd rfl h, fun h => by simp at h, fun _ _ _ => rfl⟩
theorem okSt_step (st : St7) (o : Op7) (h : OkSt st) : OkSt (stepW st o) := by
  obtain ⟨h1, h2, h3, h4, h5, h6⟩ := h
  have key2 : okKinds 0 (putK 2 st.gone st.out) := ok_put h2 (by omega) (fun hg => by have := h5 (.inl hg); omega)
  have key23 : okKinds 0 (putK 3 st.come (putK 2 st.gone st.out)) := ok_put key2 (by omega) (fun hc => by
    rw [last_put]
    have := h5 (.inr hc)
    split <;> omega)
  have key1 : okKinds 0 (putK 1 st.same st.out) := ok_put h2 (by omega) (fun hs => ⟨(h4 hs).symm, by omega⟩)
  cases o with
  | same s =>
    refine ⟨.inr ⟨rfl, rfl⟩, key23, ?_, fun _ => ?_, fun h => by simp [stepW] at h, fun h => by simp [stepW] at h⟩
    · show lastK 0 (putK 3 st.come (putK 2 st.gone st.out)) ≤ 3
      rw [last_put, last_put]; repeat' split
      all_goals omega
    · show lastK 0 (putK 3 st.come (putK 2 st.gone st.out)) ≠ 1
      rw [last_put, last_put]
      by_cases hc : st.come = []
      · rw [if_pos hc]
        by_cases hg : st.gone = []
        · rw [if_pos hg]
          by_cases hs : st.same = []
          · have := h6 hs hg hc; omega
          · exact h4 hs
        · rw [if_neg hg]; omega
      · rw [if_neg hc]; omega
  | gone s =>
    refine ⟨.inl rfl, key1, ?_, fun h => absurd rfl h, fun _ => ?_, fun _ h => by simp [stepW] at h⟩
    · show lastK 0 (putK 1 st.same st.out) ≤ 3
      rw [last_put]; split <;> omega
    · show lastK 0 (putK 1 st.same st.out) ≤ 1
      rw [last_put]
      split
      · rename_i hs
        by_cases hg : st.gone = []
        · by_cases hc : st.come = []
          · have := h6 hs hg hc; omega
          · exact h5 (.inr hc)
        · exact h5 (.inl hg)
      · omega
  | come s =>
    refine ⟨.inl rfl, key1, ?_, fun h => absurd rfl h, fun _ => ?_, fun _ _ h => by simp [stepW] at h⟩
    · show lastK 0 (putK 1 st.same st.out) ≤ 3
      rw [last_put]; split <;> omega
    · show lastK 0 (putK 1 st.same st.out) ≤ 1
      rw [last_put]
      split
      · rename_i hs
        by_cases hg : st.gone = []
        · by_cases hc : st.come = []
          · have := h6 hs hg hc; omega
          · exact h5 (.inr hc)
        · exact h5 (.inl hg)
      · omega
theorem okSt_fold (ops : List Op7) : ∀ st, OkSt st → OkSt (ops.foldl stepW st) := by
  induction ops with
  | nil => intro st h; exact h
  | cons o ops ih => intro st h; exact ih _ (okSt_step st o h)
theorem ok_done {st : St7} (h : OkSt st) : okKinds 0 (doneW st) := by
  obtain ⟨h1, h2, h3, h4, h5, h6⟩ := h
  unfold doneW
  rcases h1 with h1 | ⟨h1, h1'⟩
  · rw [h1]
    have e : putK 1 [] st.out = st.out := rfl
    rw [e]
    refine ok_put (ok_put h2 (by omega) (fun hg => by have := h5 (.inl hg); omega)) (by omega) (fun hc => ?_)
    rw [last_put]
    have := h5 (.inr hc)
    split <;> omega
  · rw [h1, h1']
    show okKinds 0 (putK 1 st.same st.out)
    exact ok_put h2 (by omega) (fun hs => ⟨(h4 hs).symm, by omega⟩)
theorem patchOf_ok (ops : List Op7) : okKinds 0 (patchOf ops) := ok_done (okSt_fold ops _ okSt_start)
end Go.Proofs.YtnbihjocdlpplaaDoor
