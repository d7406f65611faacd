/- Texts joined, one behind the other (SRefS). -/
import Derived.Test.YtchdeboialbdiaaDoorSqy
import Derived.Test.YtchdeboialbdiaaDoorSk33
/- The reference: to which places an item leads. -/
namespace Go.Proofs.YtchdeboialbdiaaDoor
set_option linter.unusedVariables false
set_option linter.unusedSimpArgs false
open Go.RowKit
open Go.Lib hiding intOf
theorem infoBool : (Tryd.prog.info? 4).map (fun i => (i.zero, i.size, i.bytes)) = some (some (.bool false), 1, 1) := by kernel_rfl
/-- so many places, and whether each can be come to -/
def boolsV (n : Nat) (T : Nat → Bool) : List Value := (List.range (n + 1)).map fun j => .bool (T j)
theorem bools_at {n : Nat} {T : Nat → Bool} {i : Nat} (h : i ≤ n) : (boolsV n T)[i]? = some (.bool (T i)) := by
  unfold boolsV
  rw [List.getElem?_map, List.getElem?_range (by omega)]
  rfl
theorem bools_len (n : Nat) (T : Nat → Bool) : (boolsV n T).length = n + 1 := by unfold boolsV; rw [List.length_map, List.length_range]
def partB (T : Nat → Bool) (i j : Nat) : Bool := decide (j < i) && T j
theorem part_set {n : Nat} {T : Nat → Bool} {i : Nat} (h : i ≤ n) : (boolsV n (partB T i)).set i (.bool (T i)) = boolsV n (partB T (i + 1)) := by
  refine List.ext_getElem? fun j => ?_
  rw [List.getElem?_set]
  by_cases hj : j ≤ n
  · rw [bools_at hj, bools_at hj, bools_len]
    unfold partB
    by_cases hij : i = j
    · subst hij
      rw [if_pos rfl, if_pos (by omega), decide_eq_true (by omega), Bool.true_and]
    · rw [if_neg hij]
      by_cases h2 : j < i
      · rw [decide_eq_true h2, decide_eq_true (by omega)]
      · rw [decide_eq_false h2, decide_eq_false (by omega)]
  · rw [if_neg (by omega), List.getElem?_eq_none (by rw [bools_len]; omega), List.getElem?_eq_none (by rw [bools_len]; omega)]
theorem part_all {n : Nat} {T : Nat → Bool} : boolsV n (partB T (n + 1)) = boolsV n T := by
  unfold boolsV
  refine List.map_congr_left fun j hj => ?_
  have := List.mem_range.1 hj
  unfold partB
  rw [decide_eq_true this, Bool.true_and]
theorem part_none {n : Nat} {T : Nat → Bool} : boolsV n (partB T 0) = List.replicate (n + 1) (.bool false) := by
  unfold boolsV
  refine List.ext_getElem? fun j => ?_
  rw [List.getElem?_map, List.getElem?_replicate]
  by_cases hj : j < n + 1
  · rw [List.getElem?_range hj, if_pos hj]
    show some (Value.bool (decide (j < 0) && T j)) = _
    rw [decide_eq_false (by omega), Bool.false_and]
  · rw [if_neg hj, List.getElem?_eq_none (by rw [List.length_range]; omega)]
    rfl
theorem made_bools (m : Nat) (hm : 0 < m) (z : Value) (N : Nat) : (madeCells (List.replicate m z).toArray N).toList = List.replicate N z := by
  apply List.ext_getElem?
  intro j
  by_cases hj : j < N
  · have h1 : j % m < m := Nat.mod_lt _ hm
    simp [madeCells, hj, h1]
  · simp [madeCells, hj]
theorem makeBools (w : World) (n : Nat) (hn : n ≤ 67108864) :
    ∃ wm, (Instr.makeSlice 120 (.int .i64 ((n : Int) + 1)) (.int .i64 ((n : Int) + 1))).run Tryd.prog w = .ok (.slice (some ⟨w.heap.size, 0, none⟩) (n + 1) (n + 1)) wm ∧ Row wm w.heap.size 4 (List.replicate (n + 1) (.bool false)) ∧ Below w.heap.size w wm := by
  obtain ⟨i0, hi, hz0, hz1, hz2⟩ := info_parts infoBool
  have hr := run_make (P := Tryd.prog) w 120 4 i0 (.bool false) Tryd.underlying120 hi hz0 .i64 .i64 ((n : Int) + 1) ((n : Int) + 1) (by omega) (Int.le_refl _) (by rw [hz2]; omega) (by omega)
  rw [hz1] at hr
  have e1 : ((n : Int) + 1).toNat = n + 1 := by omega
  rw [e1, show (Value.bool false).cells = #[.bool false] from rfl, Nat.mul_one] at hr
  refine ⟨_, hr, ?_, (Below.refl _ w).alloc (Nat.le_refl _) _⟩
  have h1 := heap_alloc_new w (.cells (madeCells #[.bool false] (n + 1)) 4)
  unfold Row
  rw [show List.replicate (n + 1) (Value.bool false) = (madeCells #[.bool false] (n + 1)).toList from (made_bools 1 (by decide) (.bool false) (n + 1)).symm]
  simpa using h1
/-- the boxes and the row that is made -/
structure LdW (w W : World) (pv tv iv xs : List Value) : Prop where
  pat : Row W w.heap.size 31 pv
  txt : Row W (w.heap.size + 1) 99 tv
  itm : Row W (w.heap.size + 2) 90 iv
  to_ : Row W (w.heap.size + 3) 4 xs
  below : Below w.heap.size w W
theorem LdW.next {w W W' : World} {pv tv iv xs : List Value} (h : LdW w W pv tv iv xs) (hb : Below W.heap.size W W') : LdW w W' pv tv iv xs :=
  ⟨h.pat.keep hb h.pat.lt, h.txt.keep hb h.txt.lt, h.itm.keep hb h.itm.lt, h.to_.keep hb h.to_.lt, h.below.trans (hb.mono h.below.size)⟩
theorem LdW.put {w W : World} {pv tv iv xs : List Value} (h : LdW w W pv tv iv xs) (i : Nat) (v : Value) : LdW w (W.setCell ⟨w.heap.size + 3, i, none⟩ v) pv tv iv (xs.set i v) :=
  ⟨h.pat.other (p := ⟨w.heap.size + 3, i, none⟩) (by show w.heap.size + 3 ≠ w.heap.size; omega) v, h.txt.other (p := ⟨w.heap.size + 3, i, none⟩) (by show w.heap.size + 3 ≠ w.heap.size + 1; omega) v, h.itm.other (p := ⟨w.heap.size + 3, i, none⟩) (by show w.heap.size + 3 ≠ w.heap.size + 2; omega) v, h.to_.set i v, h.below.setCell (p := ⟨w.heap.size + 3, i, none⟩) (by show w.heap.size ≤ w.heap.size + 3; omega) v⟩
theorem ld_heads (w : World) (pv tv iv : List Value) : Row (((w.alloc (.cells pv.toArray 31)).alloc (.cells tv.toArray 99)).alloc (.cells iv.toArray 90)) w.heap.size 31 pv ∧ Row (((w.alloc (.cells pv.toArray 31)).alloc (.cells tv.toArray 99)).alloc (.cells iv.toArray 90)) (w.heap.size + 1) 99 tv ∧ Row (((w.alloc (.cells pv.toArray 31)).alloc (.cells tv.toArray 99)).alloc (.cells iv.toArray 90)) (w.heap.size + 2) 90 iv ∧ (((w.alloc (.cells pv.toArray 31)).alloc (.cells tv.toArray 99)).alloc (.cells iv.toArray 90)).heap.size = w.heap.size + 3 ∧ Below w.heap.size w (((w.alloc (.cells pv.toArray 31)).alloc (.cells tv.toArray 99)).alloc (.cells iv.toArray 90)) := by
  have r1 : Row (w.alloc (.cells pv.toArray 31)) w.heap.size 31 pv := row_new w pv _
  have r2 := row_new (w.alloc (.cells pv.toArray 31)) tv 99
  rw [World.size_alloc] at r2
  have r3 := row_new ((w.alloc (.cells pv.toArray 31)).alloc (.cells tv.toArray 99)) iv 90
  rw [World.size_alloc, World.size_alloc] at r3
  exact ⟨(r1.alloc _).alloc _, r2.alloc _, r3, by simp, (((Below.refl _ w).alloc (Nat.le_refl _) _).alloc (by simp) _).alloc (by simp; omega) _⟩
/-- an item that may be -/
def OkIt (it : Itm) : Prop := it.what = 94 ∨ it.what = 36 ∨ OkAt it
theorem on_out {fo : Bool} {V : List Nat} {it : Itm} {S : Nat → Bool} {k : Nat} (h : V.length ≤ k) : onRun fo V it S (k + 1) = false := by
  have hv : V[k]? = none := List.getElem?_eq_none h
  rw [onRun, hv, Bool.and_false]
theorem on_in {fo : Bool} {V : List Nat} {it : Itm} {S : Nat → Bool} {k v : Nat} (h : V[k]? = some v) : onRun fo V it S (k + 1) = ((S k || (onRun fo V it S k && it.many)) && atomIs fo it v) := by
  rw [onRun, h]
theorem okv_c {V : List Nat} (hV : OkV V) (v : Nat) (hv : v ∈ V) : OkC v := by
  rcases hV v hv with ⟨h, _⟩ | h
  · exact Or.inl h
  · exact Or.inr h
set_option maxHeartbeats 8000000 in
set_option maxRecDepth 100000 in
theorem ledR6 (w : World) (lp : List UInt8) (fo : Bool) (aI : Option Addr) (mI cI g1 c1 g2 c2 n : Nat) (V : List Nat) (it : Itm) (a : Option Addr) (m c : Nat) (af : Option Addr) (S : Nat → Bool) (cf : Nat) (hn : V.length = n) (hI : IntsAt w g1 (toZ V ++ [-1])) (hV : OkV V) (hr : ElRd w (.slice a m c) it.els) (hok : OkIt it) (hm : m ≤ 1000000) (hnb : n ≤ 67108000) (hf : Reads w af (n + 1) (boolsV n S)) (hle : it.least ≤ 1) :
    Calls Tryd.prog 63 #[.agg #[.string (bstr lp), .bool fo, .slice aI mI cI], .agg #[.slice (some ⟨g1, 0, none⟩) n c1, .slice (some ⟨g2, 0, none⟩) (n + 1) c2], itV (it, .slice a m c), .slice af (n + 1) cf] w fun e w' => ∃ g, e = .returned (.slice (some ⟨g, 0, none⟩) (n + 1) (n + 1)) ∧ w.heap.size ≤ g ∧ Row w' g 4 (boolsV n (ledP fo V it S)) ∧ Below w.heap.size w w' := by
  obtain ⟨wh, hwh⟩ : ∃ z : Int, (it.what : Int) = z := ⟨_, rfl⟩
  obtain ⟨ls, hls⟩ : ∃ z : Int, (it.least : Int) = z := ⟨_, rfl⟩
  obtain ⟨ng, hng⟩ : ∃ b, it.neg = b := ⟨_, rfl⟩
  obtain ⟨mn, hmn⟩ : ∃ b, it.many = b := ⟨_, rfl⟩
  obtain ⟨mb, hmb⟩ : ∃ b, maybeB it = b := ⟨_, rfl⟩
  have hIV : itV (it, .slice a m c) = .agg #[.int .i64 wh, .bool ng, .slice a m c, .int .i64 ls, .bool mn, .bool mb] := by
    rw [← hwh, ← hls, ← hng, ← hmn, ← hmb]
    rfl
  obtain ⟨q1, q2, q3, q4, q5⟩ := ld_heads w [.string (bstr lp), .bool fo, .slice aI mI cI] [.slice (some ⟨g1, 0, none⟩) n c1, .slice (some ⟨g2, 0, none⟩) (n + 1) c2] [.int .i64 wh, .bool ng, .slice a m c, .int .i64 ls, .bool mn, .bool mb]
  obtain ⟨W0, hW0⟩ : ∃ W, W = ((w.alloc (.cells #[.string (bstr lp), .bool fo, .slice aI mI cI] 31)).alloc (.cells #[.slice (some ⟨g1, 0, none⟩) n c1, .slice (some ⟨g2, 0, none⟩) (n + 1) c2] 99)).alloc (.cells #[.int .i64 wh, .bool ng, .slice a m c, .int .i64 ls, .bool mn, .bool mb] 90) := ⟨_, rfl⟩
  have hq1 : Row W0 w.heap.size 31 [.string (bstr lp), .bool fo, .slice aI mI cI] := by rw [hW0]; exact q1
  have hq2 : Row W0 (w.heap.size + 1) 99 [.slice (some ⟨g1, 0, none⟩) n c1, .slice (some ⟨g2, 0, none⟩) (n + 1) c2] := by rw [hW0]; exact q2
  have hq3 : Row W0 (w.heap.size + 2) 90 [.int .i64 wh, .bool ng, .slice a m c, .int .i64 ls, .bool mn, .bool mb] := by rw [hW0]; exact q3
  have hq4 : W0.heap.size = w.heap.size + 3 := by rw [hW0]; exact q4
  have hq5 : Below w.heap.size w W0 := by rw [hW0]; exact q5
  clear q1 q2 q3 q4 q5
  obtain ⟨wm, hmk, hrow, hbm⟩ := makeBools W0 n (by omega)
  rw [hq4] at hmk hrow
  have hst : LdW w wm [.string (bstr lp), .bool fo, .slice aI mI cI] [.slice (some ⟨g1, 0, none⟩) n c1, .slice (some ⟨g2, 0, none⟩) (n + 1) c2] [.int .i64 wh, .bool ng, .slice a m c, .int .i64 ls, .bool mn, .bool mb] (List.replicate (n + 1) (.bool false)) := ⟨hq1.keep hbm hq1.lt, hq2.keep hbm hq2.lt, hq3.keep hbm hq3.lt, hrow, hq5.trans (hbm.mono hq5.size)⟩
  have HST := Lib.hid hst
  have HMK := Lib.hid hmk
  have HW0 := Lib.hid hW0
  have t0 : W0.cell? ⟨w.heap.size + 1, 0, none⟩ = some (.slice (some ⟨g1, 0, none⟩) n c1) := hq2.cell 0
  have tl := hq2.lt
  have i0 : wm.cell? ⟨w.heap.size + 2, 0, none⟩ = some (.int .i64 wh) := hst.itm.cell 0
  have il := hst.itm.lt
  have HHO := Lib.hid (fun W (hb : Below w.heap.size w W) (i what : Nat) (hi : i ≤ n) (hwt : what = 94 ∨ what = 36) => holdsR6 W g1 c1 g2 c2 n V what i hn (hI.keep hb (Nat.le_refl _)) hV hi (by omega) hwt)
  have HF := Lib.hid (fun W (hb : Below w.heap.size w W) => hf.keep hb (Nat.le_refl _))
  have HIN := Lib.hid (fun W (hb : Below w.heap.size w W) => hI.keep hb (Nat.le_refl _))
  have HN := Lib.hid hn
  have HV := Lib.hid hV
  rw [hIV]
  by_cases hed : it.what = 94 ∨ it.what = 36
  · have hT : ∀ i, ledP fo V it S i = (S i && holdsP V it.what i) := fun i => by unfold ledP; rw [if_pos hed]
    obtain ⟨what, hwt⟩ : ∃ x, it.what = x := ⟨_, rfl⟩
    rw [hwt] at hed hwh
    simp only [hwt] at hT
    have HT := Lib.hid hT
    have HED := Lib.hid hed
    have HWH := Lib.hid hwh
    have hcd : (wh == 94 || wh == 36) = true := by rcases hed with h | h <;> (subst h; subst hwh; rfl)
    have hLT : ledP fo V it S = fun i => S i && holdsP V what i := funext hT
    rw [hLT]
    clear hn hI hV hr hok hf hwt hed hwh hIV hls hng hmn hmb hT hLT hq1 hq2 hq3 hq5 hst hrow hbm hW0
    by_cases h94 : wh = 94
    · subst h94
      clear hcd
      go_enter Tryd.func63, Tryd.ntmps63
      go_upto_region 1 with fail
      rw [← HW0.out]
      go_wp2_with fail
      go_loopw [11] (fun ui wr => ∃ k : Nat, ui = .int .i64 (k : Int) ∧ k ≤ n + 1 ∧ Hid (LdW w wr [.string (bstr lp), .bool fo, .slice aI mI cI] [.slice (some ⟨g1, 0, none⟩) n c1, .slice (some ⟨g2, 0, none⟩) (n + 1) c2] [.int .i64 (94 : Int), .bool ng, .slice a m c, .int .i64 ls, .bool mn, .bool mb] (boolsV n (partB (fun i => S i && holdsP V what i) k)))) (fun ui _ => n + 2 - (RowKit.intOf ui).toNat)
      case atStart => exact ⟨0, rfl, Nat.zero_le _, Lib.hid (by rw [part_none]; exact HST.out)⟩
      case round =>
        obtain ⟨k, rfl, hk, HL⟩ := hrel
        have x0 : wr.cell? ⟨w.heap.size + 1, 0, none⟩ = some (.slice (some ⟨g1, 0, none⟩) n c1) := HL.out.txt.cell 0
        have x1 : wr.cell? ⟨w.heap.size + 1, 1, none⟩ = some (.slice (some ⟨g2, 0, none⟩) (n + 1) c2) := HL.out.txt.cell 1
        have xl := HL.out.txt.lt
        have y0 : wr.cell? ⟨w.heap.size + 2, 0, none⟩ = some (.int .i64 94) := HL.out.itm.cell 0
        have yl := HL.out.itm.lt
        by_cases hlt : k ≤ n
        · have hki : (k : Int) ≤ (n : Int) := by omega
          have z0 : wr.cell? ⟨w.heap.size + 3, k, none⟩ = some (.bool (partB (fun i => S i && holdsP V what i) k k)) := (HL.out.to_.cell k).trans (bools_at hlt)
          have zl := HL.out.to_.lt
          have zf := HL.out.to_.frozen k
          obtain ⟨ad, had, hsrc⟩ := (HF.out wr HL.out.below).src (Nat.succ_pos n)
          subst had
          have f0 := hsrc k _ (bools_at hlt)
          have hc := HHO.out wr HL.out.below k what hlt HED.out
          unfold txV at hc
          rw [HWH.out] at hc
          obtain ⟨sb, hsb⟩ : ∃ b, S k = b := ⟨_, rfl⟩
          rw [hsb] at f0
          obtain ⟨hb, hhb⟩ : ∃ b, holdsP V what k = b := ⟨_, rfl⟩
          rw [hhb] at hc
          have HC := Lib.hid hc
          have HV1 : Hid ((S k && holdsP V what k) = (sb && hb)) := Lib.hid (by rw [hsb, hhb])
          clear hc hsb hhb hsrc
          cases sb with
          | false =>
            go_wp2_with fail
            go_roundw
            case rel => exact ⟨k + 1, by go_num, by omega, Lib.hid (by
              have := HL.out.put k (.bool (S k && holdsP V what k))
              rw [part_set hlt, HV1.out, Bool.false_and] at this
              exact this)⟩
            case measure => simp [RowKit.intOf]; omega
          | true =>
            go_wp2_with (go_at_call 90; refine (HC.out).mono ?_; rintro e w1 ⟨rfl, hb1⟩; have HB1 := Lib.hid hb1; have z1 : w1.cell? ⟨w.heap.size + 3, k, none⟩ = some (.bool (partB (fun i => S i && holdsP V what i) k k)) := ((HL.out.next hb1).to_.cell k).trans (bools_at hlt); have zl1 := (HL.out.next hb1).to_.lt; have zf1 := (HL.out.next hb1).to_.frozen k; clear hb1)
            go_roundw
            case rel => exact ⟨k + 1, by go_num, by omega, Lib.hid (by
              have := (HL.out.next HB1.out).put k (.bool (S k && holdsP V what k))
              rw [part_set hlt, HV1.out, Bool.true_and] at this
              exact this)⟩
            case measure => simp [RowKit.intOf]; omega
        · obtain rfl : k = n + 1 := by omega
          have hki : ¬ ((n : Int) + 1) ≤ (n : Int) := by omega
          go_wp2_with fail
          go_ret
          exact ⟨_, rfl, by omega, by have := HL.out.to_; rw [part_all] at this; exact this, HL.out.below⟩
    · have q94 : (wh == 94) = false := by rw [beq_eq_false_iff_ne]; exact h94
      have h36 : wh = 36 := by
        have := HED.out
        have := HWH.out
        omega
      subst h36
      clear hcd h94
      go_enter Tryd.func63, Tryd.ntmps63
      go_upto_region 1 with fail
      rw [← HW0.out]
      go_wp2_with fail
      go_loopw [11] (fun ui wr => ∃ k : Nat, ui = .int .i64 (k : Int) ∧ k ≤ n + 1 ∧ Hid (LdW w wr [.string (bstr lp), .bool fo, .slice aI mI cI] [.slice (some ⟨g1, 0, none⟩) n c1, .slice (some ⟨g2, 0, none⟩) (n + 1) c2] [.int .i64 (36 : Int), .bool ng, .slice a m c, .int .i64 ls, .bool mn, .bool mb] (boolsV n (partB (fun i => S i && holdsP V what i) k)))) (fun ui _ => n + 2 - (RowKit.intOf ui).toNat)
      case atStart => exact ⟨0, rfl, Nat.zero_le _, Lib.hid (by rw [part_none]; exact HST.out)⟩
      case round =>
        obtain ⟨k, rfl, hk, HL⟩ := hrel
        have x0 : wr.cell? ⟨w.heap.size + 1, 0, none⟩ = some (.slice (some ⟨g1, 0, none⟩) n c1) := HL.out.txt.cell 0
        have x1 : wr.cell? ⟨w.heap.size + 1, 1, none⟩ = some (.slice (some ⟨g2, 0, none⟩) (n + 1) c2) := HL.out.txt.cell 1
        have xl := HL.out.txt.lt
        have y0 : wr.cell? ⟨w.heap.size + 2, 0, none⟩ = some (.int .i64 36) := HL.out.itm.cell 0
        have yl := HL.out.itm.lt
        by_cases hlt : k ≤ n
        · have hki : (k : Int) ≤ (n : Int) := by omega
          have z0 : wr.cell? ⟨w.heap.size + 3, k, none⟩ = some (.bool (partB (fun i => S i && holdsP V what i) k k)) := (HL.out.to_.cell k).trans (bools_at hlt)
          have zl := HL.out.to_.lt
          have zf := HL.out.to_.frozen k
          obtain ⟨ad, had, hsrc⟩ := (HF.out wr HL.out.below).src (Nat.succ_pos n)
          subst had
          have f0 := hsrc k _ (bools_at hlt)
          have hc := HHO.out wr HL.out.below k what hlt HED.out
          unfold txV at hc
          rw [HWH.out] at hc
          obtain ⟨sb, hsb⟩ : ∃ b, S k = b := ⟨_, rfl⟩
          rw [hsb] at f0
          obtain ⟨hb, hhb⟩ : ∃ b, holdsP V what k = b := ⟨_, rfl⟩
          rw [hhb] at hc
          have HC := Lib.hid hc
          have HV1 : Hid ((S k && holdsP V what k) = (sb && hb)) := Lib.hid (by rw [hsb, hhb])
          clear hc hsb hhb hsrc
          cases sb with
          | false =>
            go_wp2_with fail
            go_roundw
            case rel => exact ⟨k + 1, by go_num, by omega, Lib.hid (by
              have := HL.out.put k (.bool (S k && holdsP V what k))
              rw [part_set hlt, HV1.out, Bool.false_and] at this
              exact this)⟩
            case measure => simp [RowKit.intOf]; omega
          | true =>
            go_wp2_with (go_at_call 90; refine (HC.out).mono ?_; rintro e w1 ⟨rfl, hb1⟩; have HB1 := Lib.hid hb1; have z1 : w1.cell? ⟨w.heap.size + 3, k, none⟩ = some (.bool (partB (fun i => S i && holdsP V what i) k k)) := ((HL.out.next hb1).to_.cell k).trans (bools_at hlt); have zl1 := (HL.out.next hb1).to_.lt; have zf1 := (HL.out.next hb1).to_.frozen k; clear hb1)
            go_roundw
            case rel => exact ⟨k + 1, by go_num, by omega, Lib.hid (by
              have := (HL.out.next HB1.out).put k (.bool (S k && holdsP V what k))
              rw [part_set hlt, HV1.out, Bool.true_and] at this
              exact this)⟩
            case measure => simp [RowKit.intOf]; omega
        · obtain rfl : k = n + 1 := by omega
          have hki : ¬ ((n : Int) + 1) ≤ (n : Int) := by omega
          go_wp2_with fail
          go_ret
          exact ⟨_, rfl, by omega, by have := HL.out.to_; rw [part_all] at this; exact this, HL.out.below⟩
  · have hT : ∀ i, ledP fo V it S i = (onRun fo V it S i || (S i && decide (it.least = 0))) := fun i => by unfold ledP; rw [if_neg hed]
    have q94 : (wh == 94) = false := by rw [beq_eq_false_iff_ne]; omega
    have q36 : (wh == 36) = false := by rw [beq_eq_false_iff_ne]; omega
    obtain ⟨lb, hlb⟩ : ∃ b, (ls == 0) = b := ⟨_, rfl⟩
    have hLB : decide (it.least = 0) = lb := by rw [← hlb, Bool.eq_iff_iff, decide_eq_true_iff, beq_iff_eq]; omega
    have hat : OkAt it := by rcases hok with h | h | h
                             · exact absurd (Or.inl h) hed
                             · exact absurd (Or.inr h) hed
                             · exact h
    have HIS0 : Hid (∀ W, Below w.heap.size w W → ∀ v, OkC v → Calls Tryd.prog 91 #[.agg #[.string (bstr lp), .bool fo, .slice aI mI cI], .agg #[.int .i64 wh, .bool ng, .slice a m c, .int .i64 ls, .bool mn, .bool mb], .int .i64 (v : Int)] W fun e w' => e = .returned (.bool (atomIs fo it v)) ∧ Below W.heap.size W w') := Lib.hid (fun W hb v hv => by
      have := isR6 W lp fo aI mI cI it a m c v (hr.below hb) hat hm hv
      rw [hIV] at this
      exact this)
    have HT := Lib.hid hT
    have HLB := Lib.hid hLB
    have HMN := Lib.hid hmn
    clear HHO hn hI hV hr hok hf hed hwh hIV hls hng hmn hmb hT hLB hq1 hq2 hq3 hq5 hst hrow hbm hW0 hat
    go_enter Tryd.func63, Tryd.ntmps63
    go_upto_region 1 with fail
    rw [← HW0.out]
    go_wp2_with fail
    go_loopw [12, 13] (fun uo ui wr => ∃ (on : Bool) (k : Nat), uo = .bool on ∧ ui = .int .i64 (k : Int) ∧ k ≤ n + 1 ∧ Hid (LdW w wr [.string (bstr lp), .bool fo, .slice aI mI cI] [.slice (some ⟨g1, 0, none⟩) n c1, .slice (some ⟨g2, 0, none⟩) (n + 1) c2] [.int .i64 wh, .bool ng, .slice a m c, .int .i64 ls, .bool mn, .bool mb] (boolsV n (partB (ledP fo V it S) k)) ∧ onRun fo V it S k = on)) (fun uo ui _ => n + 2 - (RowKit.intOf ui).toNat)
    case atStart => exact ⟨false, 0, rfl, rfl, Nat.zero_le _, Lib.hid ⟨by rw [part_none]; exact HST.out, rfl⟩⟩
    case round =>
      obtain ⟨on, k, rfl, rfl, hk, HL⟩ := hrel
      have xl := HL.out.1.txt.lt
      have yl := HL.out.1.itm.lt
      have zl := HL.out.1.to_.lt
      have pl := HL.out.1.pat.lt
      by_cases hlt : k ≤ n
      · have hki : (k : Int) ≤ (n : Int) := by omega
        have HLT := Lib.hid hlt
        have x0 : wr.cell? ⟨w.heap.size + 1, 0, none⟩ = some (.slice (some ⟨g1, 0, none⟩) n c1) := HL.out.1.txt.cell 0
        have y3 : wr.cell? ⟨w.heap.size + 2, 3, none⟩ = some (.int .i64 ls) := HL.out.1.itm.cell 3
        have z0 : wr.cell? ⟨w.heap.size + 3, k, none⟩ = some (.bool (partB (ledP fo V it S) k k)) := (HL.out.1.to_.cell k).trans (bools_at hlt)
        have zf := HL.out.1.to_.frozen k
        obtain ⟨ad, had, hsrc⟩ := (HF.out wr HL.out.1.below).src (Nat.succ_pos n)
        subst had
        have f0 := hsrc k _ (bools_at hlt)
        obtain ⟨sb, hsb⟩ : ∃ b, S k = b := ⟨_, rfl⟩
        rw [hsb] at f0
        have HSB := Lib.hid hsb
        have HFC : Hid (∀ W, Below w.heap.size w W → W.cell? (ad.add k) = some (.bool sb)) := Lib.hid (fun W hb => by
          obtain ⟨ad2, had2, hsrc2⟩ := (HF.out W hb).src (Nat.succ_pos n)
          cases had2
          have := hsrc2 k _ (bools_at (HLT.out))
          rw [HSB.out] at this
          exact this)
        clear hsrc hsb
        by_cases hin : k < n
        · obtain ⟨v, hv⟩ : ∃ v, V[k]? = some v := ⟨_, List.getElem?_eq_getElem (by rw [HN.out]; exact hin)⟩
          have HVK := Lib.hid hv
          obtain ⟨z, hz⟩ : ∃ z : Int, (v : Int) = z := ⟨_, rfl⟩
          have HVC : Hid (∀ W, Below w.heap.size w W → W.cell? ⟨g1, k, none⟩ = some (.int .i64 z)) := Lib.hid (fun W hb => by
            have := (HIN.out W hb).v (i := k) (by rw [HN.out]; exact (HLT.out))
            rw [vI_some HVK.out, hz] at this
            exact this)
          have hvo := okv_c HV.out v (List.mem_of_getElem? hv)
          obtain ⟨bq, hbq⟩ : ∃ b, atomIs fo it v = b := ⟨_, rfl⟩
          have HAT := Lib.hid hbq
          have HIS := Lib.hid (fun W hb => hbq ▸ hz ▸ HIS0.out W hb v hvo)
          have hkn : (k : Int) < (n : Int) := by omega
          clear hv hz hvo hbq hin
          cases on with
          | true =>
            cases sb with
            | true =>
              have HV1 : Hid (ledP fo V it S k = true) := Lib.hid (by rw [HT.out k, HL.out.2, HSB.out, HLB.out]; rfl)
              have HON : Hid (onRun fo V it S (k + 1) = bq) := Lib.hid (by rw [on_in HVK.out, HL.out.2, HSB.out, HMN.out, HAT.out]; simp)
              go_upto_region 14 with fail
              obtain ⟨W1, hW1⟩ : ∃ W, W = wr.setCell ⟨w.heap.size + 3, k, none⟩ (.bool true) := ⟨_, rfl⟩
              rw [← hW1]
              have hl1 : LdW w W1 [.string (bstr lp), .bool fo, .slice aI mI cI] [.slice (some ⟨g1, 0, none⟩) n c1, .slice (some ⟨g2, 0, none⟩) (n + 1) c2] [.int .i64 wh, .bool ng, .slice a m c, .int .i64 ls, .bool mn, .bool mb] (boolsV n (partB (ledP fo V it S) (k + 1))) := by
                have := HL.out.1.put k (.bool (ledP fo V it S k))
                rw [part_set hlt, HV1.out, ← hW1] at this
                exact this
              have HL1 := Lib.hid hl1
              have HBW : Hid (∀ W, Below W1.heap.size W1 W → Below w.heap.size w W) := Lib.hid (fun W hb => HL1.out.below.trans (hb.mono HL1.out.below.size))
              have HSf : Hid (∀ W, Below W1.heap.size W1 W → W.cell? (ad.add k) = some (.bool true)) := Lib.hid (fun W hb => HFC.out W (HBW.out W hb))
              have HSv : Hid (∀ W, Below W1.heap.size W1 W → W.cell? ⟨g1, k, none⟩ = some (.int .i64 z)) := Lib.hid (fun W hb => HVC.out W (HBW.out W hb))
              have HSt : Hid (∀ W, Below W1.heap.size W1 W → W.cell? ⟨w.heap.size + 1, 0, none⟩ = some (.slice (some ⟨g1, 0, none⟩) n c1)) := Lib.hid (fun W hb => (HL1.out.next hb).txt.cell 0)
              have HSp : Hid (∀ W, Below W1.heap.size W1 W → W.cell? ⟨w.heap.size, 0, none⟩ = some (.string (bstr lp)) ∧ W.cell? ⟨w.heap.size, 1, none⟩ = some (.bool fo) ∧ W.cell? ⟨w.heap.size, 2, none⟩ = some (.slice aI mI cI)) := Lib.hid (fun W hb => ⟨(HL1.out.next hb).pat.cell 0, (HL1.out.next hb).pat.cell 1, (HL1.out.next hb).pat.cell 2⟩)
              have HSi : Hid (∀ W, Below W1.heap.size W1 W → W.cell? ⟨w.heap.size + 2, 0, none⟩ = some (.int .i64 wh) ∧ W.cell? ⟨w.heap.size + 2, 1, none⟩ = some (.bool ng) ∧ W.cell? ⟨w.heap.size + 2, 2, none⟩ = some (.slice a m c) ∧ W.cell? ⟨w.heap.size + 2, 3, none⟩ = some (.int .i64 ls) ∧ W.cell? ⟨w.heap.size + 2, 4, none⟩ = some (.bool mn) ∧ W.cell? ⟨w.heap.size + 2, 5, none⟩ = some (.bool mb)) := Lib.hid (fun W hb => ⟨(HL1.out.next hb).itm.cell 0, (HL1.out.next hb).itm.cell 1, (HL1.out.next hb).itm.cell 2, (HL1.out.next hb).itm.cell 3, (HL1.out.next hb).itm.cell 4, (HL1.out.next hb).itm.cell 5⟩)
              have HIC : Hid (∀ W, Below W1.heap.size W1 W → Calls Tryd.prog 91 #[.agg #[.string (bstr lp), .bool fo, .slice aI mI cI], .agg #[.int .i64 wh, .bool ng, .slice a m c, .int .i64 ls, .bool mn, .bool mb], .int .i64 z] W fun e w' => e = .returned (.bool bq) ∧ Below W.heap.size W w') := Lib.hid (fun W hb => HIS.out W (HBW.out W hb))
              clear hl1 hW1 x0 y3 z0 zf f0
              refine wp_region_held_drew (S := (fun W => Below W1.heap.size W1 W)) (by kernel_rfl) ((Below.refl W1.heap.size W1).drew) (fun hS0 => ?_)
              refine tC 0 ⟨some 68, .move (.tmp 13), 3, _, #[], none⟩ ?v1 rfl ?y1 hS0 ?r1; (case y1 => rintro w2 s1; go_simp; try with_reducible rfl)
              refine tC 1 ⟨some 69, .move (.tmp 9), 3, _, #[], none⟩ ?v2 rfl ?y2 hS0 ?r2; (case y2 => rintro w2 s1; go_simp; try with_reducible rfl)
              refine tC 2 ⟨some 70, .binOp BinOp.lss 3 (.tmp 68) (.tmp 69) 3, 4, _, #[⟨0, .data⟩, ⟨1, .data⟩], none⟩ ?v3 rfl ?y3 hS0 ?r3; (case y3 => rintro w2 s1; go_simp; try with_reducible rfl)
              try simp only [Act.put, pB, pC, pD]
              refine tC 3 ⟨some 71, .move (.tmp 70), 4, _, #[⟨2, .data⟩], none⟩ ?v4 rfl ?y4 hS0 ?r4; (case y4 => rintro w2 s1; go_simp; try with_reducible rfl)
              refine tC 4 ⟨some 72, .move (.tmp 3), 120, _, #[⟨3, .guard⟩], some (3, true)⟩ ?v5 rfl ?y5 hS0 ?r5; (case y5 => rintro w2 s1; go_simp; try with_reducible rfl)
              refine tC 5 ⟨some 73, .move (.tmp 13), 3, _, #[⟨3, .guard⟩], some (3, true)⟩ ?v6 rfl ?y6 hS0 ?r6; (case y6 => rintro w2 s1; go_simp; try with_reducible rfl)
              try simp only [Act.put, pB, pC, pD]
              refine tC 6 ⟨some 74, .indexAddr 120 (.tmp 72) (.tmp 73), 0, _, #[⟨4, .data⟩, ⟨5, .data⟩, ⟨3, .guard⟩], some (3, true)⟩ ?v7 rfl ?y7 hS0 ?r7; (case y7 => rintro w2 s1; have e0 : (k : Int) < (n : Int) + 1 := (by omega); go_simp; try with_reducible rfl)
              refine tC 7 ⟨some 75, .load 4 (.tmp 74), 4, _, #[⟨6, .data⟩, ⟨3, .guard⟩], some (3, true)⟩ ?v8 rfl ?y8 hS0 ?r8; (case y8 => rintro w2 s1; have e0 := HSf.out w2 s1; go_simp; try with_reducible rfl)
              refine tC 8 ⟨some 76, .move (.tmp 75), 4, _, #[⟨7, .data⟩, ⟨3, .chain⟩, ⟨3, .guard⟩], some (3, true)⟩ ?v9 rfl ?y9 hS0 ?r9; (case y9 => rintro w2 s1; go_simp; try with_reducible rfl)
              try simp only [Act.put, pB, pC, pD]
              refine tD 9 ⟨some 77, .move (.tmp 12), 4, _, #[⟨8, .guard⟩], some (8, false)⟩ rfl hS0 ?r10
              refine tD 10 ⟨some 78, .move (.tmp 77), 4, _, #[⟨9, .data⟩, ⟨8, .chain⟩, ⟨8, .guard⟩], some (8, false)⟩ rfl hS0 ?r11
              refine tD 11 ⟨some 79, .fieldAddr 90 (.tmp 6) 4, 0, _, #[⟨10, .guard⟩], some (10, true)⟩ rfl hS0 ?r12
              try simp only [Act.put, pB, pC, pD]
              refine tD 12 ⟨some 80, .load 4 (.tmp 79), 4, _, #[⟨11, .data⟩, ⟨10, .guard⟩], some (10, true)⟩ rfl hS0 ?r13
              refine tD 13 ⟨some 81, .pick (.tmp 78) (.tmp 80) (Operand.const (Value.bool false)), 4, _, #[⟨10, .data⟩, ⟨12, .data⟩, ⟨8, .guard⟩], some (8, false)⟩ rfl hS0 ?r14
              refine tC 14 ⟨some 82, .pick (.tmp 76) (Operand.const (Value.bool true)) (.tmp 81), 4, _, #[⟨8, .data⟩, ⟨13, .data⟩, ⟨3, .guard⟩], some (3, true)⟩ ?v15 rfl ?y15 hS0 ?r15; (case y15 => rintro w2 s1; go_simp; try with_reducible rfl)
              try simp only [Act.put, pB, pC, pD]
              refine tC 15 ⟨some 83, .pick (.tmp 71) (.tmp 82) (Operand.const (Value.bool false)), 4, _, #[⟨3, .data⟩, ⟨14, .data⟩], none⟩ ?v16 rfl ?y16 hS0 ?r16; (case y16 => rintro w2 s1; go_simp; try with_reducible rfl)
              refine tC 16 ⟨some 84, .move (.tmp 83), 4, _, #[⟨15, .data⟩, ⟨10, .chain⟩], none⟩ ?v17 rfl ?y17 hS0 ?r17; (case y17 => rintro w2 s1; go_simp; try with_reducible rfl)
              refine tC 17 ⟨some 85, .load 31 (.tmp 4), 31, _, #[⟨16, .guard⟩], some (16, true)⟩ ?v18 rfl ?y18 hS0 ?r18; (case y18 => rintro w2 s1; obtain ⟨e0, e1, e2⟩ := HSp.out w2 s1; go_simp; try with_reducible rfl)
              try simp only [Act.put, pB, pC, pD]
              refine tC 18 ⟨some 86, .load 90 (.tmp 6), 90, _, #[⟨16, .guard⟩], some (16, true)⟩ ?v19 rfl ?y19 hS0 ?r19; (case y19 => rintro w2 s1; obtain ⟨e0, e1, e2, e3, e4, e5⟩ := HSi.out w2 s1; go_simp; try with_reducible rfl)
              refine tC 19 ⟨some 87, .fieldAddr 99 (.tmp 5) 0, 0, _, #[⟨16, .guard⟩], some (16, true)⟩ ?v20 rfl ?y20 hS0 ?r20; (case y20 => rintro w2 s1; go_simp; try with_reducible rfl)
              refine tC 20 ⟨some 88, .load 72 (.tmp 87), 72, _, #[⟨19, .data⟩, ⟨16, .guard⟩], some (16, true)⟩ ?v21 rfl ?y21 hS0 ?r21; (case y21 => rintro w2 s1; have e0 := HSt.out w2 s1; go_simp; try with_reducible rfl)
              try simp only [Act.put, pB, pC, pD]
              refine tC 21 ⟨some 89, .move (.tmp 13), 3, _, #[⟨16, .guard⟩], some (16, true)⟩ ?v22 rfl ?y22 hS0 ?r22; (case y22 => rintro w2 s1; go_simp; try with_reducible rfl)
              refine tC 22 ⟨some 90, .indexAddr 72 (.tmp 88) (.tmp 89), 0, _, #[⟨20, .data⟩, ⟨21, .data⟩, ⟨16, .guard⟩], some (16, true)⟩ ?v23 rfl ?y23 hS0 ?r23; (case y23 => rintro w2 s1; go_simp; try with_reducible rfl)
              refine tC 23 ⟨some 91, .load 3 (.tmp 90), 3, _, #[⟨22, .data⟩, ⟨16, .guard⟩], some (16, true)⟩ ?v24 rfl ?y24 hS0 ?r24; (case y24 => rintro w2 s1; have e0 := HSv.out w2 s1; go_simp; try with_reducible rfl)
              try simp only [Act.put, pB, pC, pD]
              refine wpAnyH_ready (rs := [24]) (by kernel_rfl) (by simp) (AllReadyH.cons (o := ⟨some 92, .call { callee := Callee.value (Operand.func 91), args := #[.tmp 85, .tmp 86, .tmp 91], argTypes := #[31, 90, 3] }, 4, "ref.go:331", #[⟨17, .data⟩, ⟨18, .data⟩, ⟨23, .data⟩, ⟨16, .chain⟩, ⟨16, .guard⟩], some (16, true)⟩) rfl (fun K' hK => ?_) AllReadyH.nil)
              go_simp
              with_reducible refine (HIC.out _ ((Below.refl W1.heap.size W1).drew)).mono ?_
              rintro e wa ⟨rfl, hbwa⟩
              have Bwa := Lib.hid (((Below.refl W1.heap.size W1).drew).trans (hbwa.mono ((Below.refl W1.heap.size W1).drew).size))
              clear hbwa
              show K' _ _
              refine hK.out _ _ Bwa.out (fun hSn => ?_)
              try simp only [Act.put, pB, pC, pD]
              clear hK K'
              refine tC 25 ⟨some 93, .pick (.tmp 84) (.tmp 92) (Operand.const (Value.bool false)), 4, _, #[⟨16, .data⟩, ⟨24, .data⟩], none⟩ ?v25 rfl ?y25 Bwa.out ?r25; (case y25 => rintro w2 s1; go_simp; try with_reducible rfl)
              try simp only [Act.put, pB, pC, pD]
              refine tC 26 ⟨some 12, .assign (.tmp 93), 4, _, pa [⟨25, .data⟩, ⟨24, .chain⟩] 26, none⟩ ?v26 rfl ?y26 Bwa.out ?r26; (case y26 => rintro w2 s1; go_simp; try with_reducible rfl)
              try simp only [Act.put, pB, pC, pD]
              refine wpAnyH_done (by kernel_rfl) ?_ _
              go_wp2_with fail
              go_roundw
              case rel => exact ⟨bq, k + 1, rfl, by go_num, by omega, Lib.hid ⟨HL1.out.next Bwa.out, HON.out⟩⟩
              case measure => simp [RowKit.intOf]; omega
            | false =>
              cases mn with
              | true =>
                have HV1 : Hid (ledP fo V it S k = true) := Lib.hid (by rw [HT.out k, HL.out.2, HSB.out, HLB.out]; rfl)
                have HON : Hid (onRun fo V it S (k + 1) = bq) := Lib.hid (by rw [on_in HVK.out, HL.out.2, HSB.out, HMN.out, HAT.out]; simp)
                go_upto_region 14 with fail
                obtain ⟨W1, hW1⟩ : ∃ W, W = wr.setCell ⟨w.heap.size + 3, k, none⟩ (.bool true) := ⟨_, rfl⟩
                rw [← hW1]
                have hl1 : LdW w W1 [.string (bstr lp), .bool fo, .slice aI mI cI] [.slice (some ⟨g1, 0, none⟩) n c1, .slice (some ⟨g2, 0, none⟩) (n + 1) c2] [.int .i64 wh, .bool ng, .slice a m c, .int .i64 ls, .bool true, .bool mb] (boolsV n (partB (ledP fo V it S) (k + 1))) := by
                  have := HL.out.1.put k (.bool (ledP fo V it S k))
                  rw [part_set hlt, HV1.out, ← hW1] at this
                  exact this
                have HL1 := Lib.hid hl1
                have HBW : Hid (∀ W, Below W1.heap.size W1 W → Below w.heap.size w W) := Lib.hid (fun W hb => HL1.out.below.trans (hb.mono HL1.out.below.size))
                have HSf : Hid (∀ W, Below W1.heap.size W1 W → W.cell? (ad.add k) = some (.bool false)) := Lib.hid (fun W hb => HFC.out W (HBW.out W hb))
                have HSm : Hid (∀ W, Below W1.heap.size W1 W → W.cell? ⟨w.heap.size + 2, 4, none⟩ = some (.bool true)) := Lib.hid (fun W hb => (HL1.out.next hb).itm.cell 4)
                have HSv : Hid (∀ W, Below W1.heap.size W1 W → W.cell? ⟨g1, k, none⟩ = some (.int .i64 z)) := Lib.hid (fun W hb => HVC.out W (HBW.out W hb))
                have HSt : Hid (∀ W, Below W1.heap.size W1 W → W.cell? ⟨w.heap.size + 1, 0, none⟩ = some (.slice (some ⟨g1, 0, none⟩) n c1)) := Lib.hid (fun W hb => (HL1.out.next hb).txt.cell 0)
                have HSp : Hid (∀ W, Below W1.heap.size W1 W → W.cell? ⟨w.heap.size, 0, none⟩ = some (.string (bstr lp)) ∧ W.cell? ⟨w.heap.size, 1, none⟩ = some (.bool fo) ∧ W.cell? ⟨w.heap.size, 2, none⟩ = some (.slice aI mI cI)) := Lib.hid (fun W hb => ⟨(HL1.out.next hb).pat.cell 0, (HL1.out.next hb).pat.cell 1, (HL1.out.next hb).pat.cell 2⟩)
                have HSi : Hid (∀ W, Below W1.heap.size W1 W → W.cell? ⟨w.heap.size + 2, 0, none⟩ = some (.int .i64 wh) ∧ W.cell? ⟨w.heap.size + 2, 1, none⟩ = some (.bool ng) ∧ W.cell? ⟨w.heap.size + 2, 2, none⟩ = some (.slice a m c) ∧ W.cell? ⟨w.heap.size + 2, 3, none⟩ = some (.int .i64 ls) ∧ W.cell? ⟨w.heap.size + 2, 4, none⟩ = some (.bool true) ∧ W.cell? ⟨w.heap.size + 2, 5, none⟩ = some (.bool mb)) := Lib.hid (fun W hb => ⟨(HL1.out.next hb).itm.cell 0, (HL1.out.next hb).itm.cell 1, (HL1.out.next hb).itm.cell 2, (HL1.out.next hb).itm.cell 3, (HL1.out.next hb).itm.cell 4, (HL1.out.next hb).itm.cell 5⟩)
                have HIC : Hid (∀ W, Below W1.heap.size W1 W → Calls Tryd.prog 91 #[.agg #[.string (bstr lp), .bool fo, .slice aI mI cI], .agg #[.int .i64 wh, .bool ng, .slice a m c, .int .i64 ls, .bool true, .bool mb], .int .i64 z] W fun e w' => e = .returned (.bool bq) ∧ Below W.heap.size W w') := Lib.hid (fun W hb => HIS.out W (HBW.out W hb))
                clear hl1 hW1 x0 y3 z0 zf f0
                refine wp_region_held_drew (S := (fun W => Below W1.heap.size W1 W)) (by kernel_rfl) ((Below.refl W1.heap.size W1).drew) (fun hS0 => ?_)
                refine tC 0 ⟨some 68, .move (.tmp 13), 3, _, #[], none⟩ ?v27 rfl ?y27 hS0 ?r27; (case y27 => rintro w2 s1; go_simp; try with_reducible rfl)
                refine tC 1 ⟨some 69, .move (.tmp 9), 3, _, #[], none⟩ ?v28 rfl ?y28 hS0 ?r28; (case y28 => rintro w2 s1; go_simp; try with_reducible rfl)
                refine tC 2 ⟨some 70, .binOp BinOp.lss 3 (.tmp 68) (.tmp 69) 3, 4, _, #[⟨0, .data⟩, ⟨1, .data⟩], none⟩ ?v29 rfl ?y29 hS0 ?r29; (case y29 => rintro w2 s1; go_simp; try with_reducible rfl)
                try simp only [Act.put, pB, pC, pD]
                refine tC 3 ⟨some 71, .move (.tmp 70), 4, _, #[⟨2, .data⟩], none⟩ ?v30 rfl ?y30 hS0 ?r30; (case y30 => rintro w2 s1; go_simp; try with_reducible rfl)
                refine tC 4 ⟨some 72, .move (.tmp 3), 120, _, #[⟨3, .guard⟩], some (3, true)⟩ ?v31 rfl ?y31 hS0 ?r31; (case y31 => rintro w2 s1; go_simp; try with_reducible rfl)
                refine tC 5 ⟨some 73, .move (.tmp 13), 3, _, #[⟨3, .guard⟩], some (3, true)⟩ ?v32 rfl ?y32 hS0 ?r32; (case y32 => rintro w2 s1; go_simp; try with_reducible rfl)
                try simp only [Act.put, pB, pC, pD]
                refine tC 6 ⟨some 74, .indexAddr 120 (.tmp 72) (.tmp 73), 0, _, #[⟨4, .data⟩, ⟨5, .data⟩, ⟨3, .guard⟩], some (3, true)⟩ ?v33 rfl ?y33 hS0 ?r33; (case y33 => rintro w2 s1; have e0 : (k : Int) < (n : Int) + 1 := (by omega); go_simp; try with_reducible rfl)
                refine tC 7 ⟨some 75, .load 4 (.tmp 74), 4, _, #[⟨6, .data⟩, ⟨3, .guard⟩], some (3, true)⟩ ?v34 rfl ?y34 hS0 ?r34; (case y34 => rintro w2 s1; have e0 := HSf.out w2 s1; go_simp; try with_reducible rfl)
                refine tC 8 ⟨some 76, .move (.tmp 75), 4, _, #[⟨7, .data⟩, ⟨3, .chain⟩, ⟨3, .guard⟩], some (3, true)⟩ ?v35 rfl ?y35 hS0 ?r35; (case y35 => rintro w2 s1; go_simp; try with_reducible rfl)
                try simp only [Act.put, pB, pC, pD]
                refine tC 9 ⟨some 77, .move (.tmp 12), 4, _, #[⟨8, .guard⟩], some (8, false)⟩ ?v36 rfl ?y36 hS0 ?r36; (case y36 => rintro w2 s1; go_simp; try with_reducible rfl)
                refine tC 10 ⟨some 78, .move (.tmp 77), 4, _, #[⟨9, .data⟩, ⟨8, .chain⟩, ⟨8, .guard⟩], some (8, false)⟩ ?v37 rfl ?y37 hS0 ?r37; (case y37 => rintro w2 s1; go_simp; try with_reducible rfl)
                refine tC 11 ⟨some 79, .fieldAddr 90 (.tmp 6) 4, 0, _, #[⟨10, .guard⟩], some (10, true)⟩ ?v38 rfl ?y38 hS0 ?r38; (case y38 => rintro w2 s1; go_simp; try with_reducible rfl)
                try simp only [Act.put, pB, pC, pD]
                refine tC 12 ⟨some 80, .load 4 (.tmp 79), 4, _, #[⟨11, .data⟩, ⟨10, .guard⟩], some (10, true)⟩ ?v39 rfl ?y39 hS0 ?r39; (case y39 => rintro w2 s1; have e0 := HSm.out w2 s1; go_simp; try with_reducible rfl)
                refine tC 13 ⟨some 81, .pick (.tmp 78) (.tmp 80) (Operand.const (Value.bool false)), 4, _, #[⟨10, .data⟩, ⟨12, .data⟩, ⟨8, .guard⟩], some (8, false)⟩ ?v40 rfl ?y40 hS0 ?r40; (case y40 => rintro w2 s1; go_simp; try with_reducible rfl)
                refine tC 14 ⟨some 82, .pick (.tmp 76) (Operand.const (Value.bool true)) (.tmp 81), 4, _, #[⟨8, .data⟩, ⟨13, .data⟩, ⟨3, .guard⟩], some (3, true)⟩ ?v41 rfl ?y41 hS0 ?r41; (case y41 => rintro w2 s1; go_simp; try with_reducible rfl)
                try simp only [Act.put, pB, pC, pD]
                refine tC 15 ⟨some 83, .pick (.tmp 71) (.tmp 82) (Operand.const (Value.bool false)), 4, _, #[⟨3, .data⟩, ⟨14, .data⟩], none⟩ ?v42 rfl ?y42 hS0 ?r42; (case y42 => rintro w2 s1; go_simp; try with_reducible rfl)
                refine tC 16 ⟨some 84, .move (.tmp 83), 4, _, #[⟨15, .data⟩, ⟨10, .chain⟩], none⟩ ?v43 rfl ?y43 hS0 ?r43; (case y43 => rintro w2 s1; go_simp; try with_reducible rfl)
                refine tC 17 ⟨some 85, .load 31 (.tmp 4), 31, _, #[⟨16, .guard⟩], some (16, true)⟩ ?v44 rfl ?y44 hS0 ?r44; (case y44 => rintro w2 s1; obtain ⟨e0, e1, e2⟩ := HSp.out w2 s1; go_simp; try with_reducible rfl)
                try simp only [Act.put, pB, pC, pD]
                refine tC 18 ⟨some 86, .load 90 (.tmp 6), 90, _, #[⟨16, .guard⟩], some (16, true)⟩ ?v45 rfl ?y45 hS0 ?r45; (case y45 => rintro w2 s1; obtain ⟨e0, e1, e2, e3, e4, e5⟩ := HSi.out w2 s1; go_simp; try with_reducible rfl)
                refine tC 19 ⟨some 87, .fieldAddr 99 (.tmp 5) 0, 0, _, #[⟨16, .guard⟩], some (16, true)⟩ ?v46 rfl ?y46 hS0 ?r46; (case y46 => rintro w2 s1; go_simp; try with_reducible rfl)
                refine tC 20 ⟨some 88, .load 72 (.tmp 87), 72, _, #[⟨19, .data⟩, ⟨16, .guard⟩], some (16, true)⟩ ?v47 rfl ?y47 hS0 ?r47; (case y47 => rintro w2 s1; have e0 := HSt.out w2 s1; go_simp; try with_reducible rfl)
                try simp only [Act.put, pB, pC, pD]
                refine tC 21 ⟨some 89, .move (.tmp 13), 3, _, #[⟨16, .guard⟩], some (16, true)⟩ ?v48 rfl ?y48 hS0 ?r48; (case y48 => rintro w2 s1; go_simp; try with_reducible rfl)
                refine tC 22 ⟨some 90, .indexAddr 72 (.tmp 88) (.tmp 89), 0, _, #[⟨20, .data⟩, ⟨21, .data⟩, ⟨16, .guard⟩], some (16, true)⟩ ?v49 rfl ?y49 hS0 ?r49; (case y49 => rintro w2 s1; go_simp; try with_reducible rfl)
                refine tC 23 ⟨some 91, .load 3 (.tmp 90), 3, _, #[⟨22, .data⟩, ⟨16, .guard⟩], some (16, true)⟩ ?v50 rfl ?y50 hS0 ?r50; (case y50 => rintro w2 s1; have e0 := HSv.out w2 s1; go_simp; try with_reducible rfl)
                try simp only [Act.put, pB, pC, pD]
                refine wpAnyH_ready (rs := [24]) (by kernel_rfl) (by simp) (AllReadyH.cons (o := ⟨some 92, .call { callee := Callee.value (Operand.func 91), args := #[.tmp 85, .tmp 86, .tmp 91], argTypes := #[31, 90, 3] }, 4, "ref.go:331", #[⟨17, .data⟩, ⟨18, .data⟩, ⟨23, .data⟩, ⟨16, .chain⟩, ⟨16, .guard⟩], some (16, true)⟩) rfl (fun K' hK => ?_) AllReadyH.nil)
                go_simp
                with_reducible refine (HIC.out _ ((Below.refl W1.heap.size W1).drew)).mono ?_
                rintro e wa ⟨rfl, hbwa⟩
                have Bwa := Lib.hid (((Below.refl W1.heap.size W1).drew).trans (hbwa.mono ((Below.refl W1.heap.size W1).drew).size))
                clear hbwa
                show K' _ _
                refine hK.out _ _ Bwa.out (fun hSn => ?_)
                try simp only [Act.put, pB, pC, pD]
                clear hK K'
                refine tC 25 ⟨some 93, .pick (.tmp 84) (.tmp 92) (Operand.const (Value.bool false)), 4, _, #[⟨16, .data⟩, ⟨24, .data⟩], none⟩ ?v51 rfl ?y51 Bwa.out ?r51; (case y51 => rintro w2 s1; go_simp; try with_reducible rfl)
                try simp only [Act.put, pB, pC, pD]
                refine tC 26 ⟨some 12, .assign (.tmp 93), 4, _, pa [⟨25, .data⟩, ⟨24, .chain⟩] 26, none⟩ ?v52 rfl ?y52 Bwa.out ?r52; (case y52 => rintro w2 s1; go_simp; try with_reducible rfl)
                try simp only [Act.put, pB, pC, pD]
                refine wpAnyH_done (by kernel_rfl) ?_ _
                go_wp2_with fail
                go_roundw
                case rel => exact ⟨bq, k + 1, rfl, by go_num, by omega, Lib.hid ⟨HL1.out.next Bwa.out, HON.out⟩⟩
                case measure => simp [RowKit.intOf]; omega
              | false =>
                have HV1 : Hid (ledP fo V it S k = true) := Lib.hid (by rw [HT.out k, HL.out.2, HSB.out, HLB.out]; rfl)
                have HON : Hid (onRun fo V it S (k + 1) = false) := Lib.hid (by rw [on_in HVK.out, HL.out.2, HSB.out, HMN.out, HAT.out]; rfl)
                go_upto_region 14 with fail
                obtain ⟨W1, hW1⟩ : ∃ W, W = wr.setCell ⟨w.heap.size + 3, k, none⟩ (.bool true) := ⟨_, rfl⟩
                rw [← hW1]
                have hl1 : LdW w W1 [.string (bstr lp), .bool fo, .slice aI mI cI] [.slice (some ⟨g1, 0, none⟩) n c1, .slice (some ⟨g2, 0, none⟩) (n + 1) c2] [.int .i64 wh, .bool ng, .slice a m c, .int .i64 ls, .bool false, .bool mb] (boolsV n (partB (ledP fo V it S) (k + 1))) := by
                  have := HL.out.1.put k (.bool (ledP fo V it S k))
                  rw [part_set hlt, HV1.out, ← hW1] at this
                  exact this
                have HL1 := Lib.hid hl1
                have HBW : Hid (∀ W, Below W1.heap.size W1 W → Below w.heap.size w W) := Lib.hid (fun W hb => HL1.out.below.trans (hb.mono HL1.out.below.size))
                have HSf : Hid (∀ W, Below W1.heap.size W1 W → W.cell? (ad.add k) = some (.bool false)) := Lib.hid (fun W hb => HFC.out W (HBW.out W hb))
                have HSm : Hid (∀ W, Below W1.heap.size W1 W → W.cell? ⟨w.heap.size + 2, 4, none⟩ = some (.bool false)) := Lib.hid (fun W hb => (HL1.out.next hb).itm.cell 4)
                clear hl1 hW1 x0 y3 z0 zf f0
                refine wp_region_held_drew (S := (fun W => Below W1.heap.size W1 W)) (by kernel_rfl) ((Below.refl W1.heap.size W1).drew) (fun hS0 => ?_)
                refine tC 0 ⟨some 68, .move (.tmp 13), 3, _, #[], none⟩ ?v53 rfl ?y53 hS0 ?r53; (case y53 => rintro w2 s1; go_simp; try with_reducible rfl)
                refine tC 1 ⟨some 69, .move (.tmp 9), 3, _, #[], none⟩ ?v54 rfl ?y54 hS0 ?r54; (case y54 => rintro w2 s1; go_simp; try with_reducible rfl)
                refine tC 2 ⟨some 70, .binOp BinOp.lss 3 (.tmp 68) (.tmp 69) 3, 4, _, #[⟨0, .data⟩, ⟨1, .data⟩], none⟩ ?v55 rfl ?y55 hS0 ?r55; (case y55 => rintro w2 s1; go_simp; try with_reducible rfl)
                try simp only [Act.put, pB, pC, pD]
                refine tC 3 ⟨some 71, .move (.tmp 70), 4, _, #[⟨2, .data⟩], none⟩ ?v56 rfl ?y56 hS0 ?r56; (case y56 => rintro w2 s1; go_simp; try with_reducible rfl)
                refine tC 4 ⟨some 72, .move (.tmp 3), 120, _, #[⟨3, .guard⟩], some (3, true)⟩ ?v57 rfl ?y57 hS0 ?r57; (case y57 => rintro w2 s1; go_simp; try with_reducible rfl)
                refine tC 5 ⟨some 73, .move (.tmp 13), 3, _, #[⟨3, .guard⟩], some (3, true)⟩ ?v58 rfl ?y58 hS0 ?r58; (case y58 => rintro w2 s1; go_simp; try with_reducible rfl)
                try simp only [Act.put, pB, pC, pD]
                refine tC 6 ⟨some 74, .indexAddr 120 (.tmp 72) (.tmp 73), 0, _, #[⟨4, .data⟩, ⟨5, .data⟩, ⟨3, .guard⟩], some (3, true)⟩ ?v59 rfl ?y59 hS0 ?r59; (case y59 => rintro w2 s1; have e0 : (k : Int) < (n : Int) + 1 := (by omega); go_simp; try with_reducible rfl)
                refine tC 7 ⟨some 75, .load 4 (.tmp 74), 4, _, #[⟨6, .data⟩, ⟨3, .guard⟩], some (3, true)⟩ ?v60 rfl ?y60 hS0 ?r60; (case y60 => rintro w2 s1; have e0 := HSf.out w2 s1; go_simp; try with_reducible rfl)
                refine tC 8 ⟨some 76, .move (.tmp 75), 4, _, #[⟨7, .data⟩, ⟨3, .chain⟩, ⟨3, .guard⟩], some (3, true)⟩ ?v61 rfl ?y61 hS0 ?r61; (case y61 => rintro w2 s1; go_simp; try with_reducible rfl)
                try simp only [Act.put, pB, pC, pD]
                refine tC 9 ⟨some 77, .move (.tmp 12), 4, _, #[⟨8, .guard⟩], some (8, false)⟩ ?v62 rfl ?y62 hS0 ?r62; (case y62 => rintro w2 s1; go_simp; try with_reducible rfl)
                refine tC 10 ⟨some 78, .move (.tmp 77), 4, _, #[⟨9, .data⟩, ⟨8, .chain⟩, ⟨8, .guard⟩], some (8, false)⟩ ?v63 rfl ?y63 hS0 ?r63; (case y63 => rintro w2 s1; go_simp; try with_reducible rfl)
                refine tC 11 ⟨some 79, .fieldAddr 90 (.tmp 6) 4, 0, _, #[⟨10, .guard⟩], some (10, true)⟩ ?v64 rfl ?y64 hS0 ?r64; (case y64 => rintro w2 s1; go_simp; try with_reducible rfl)
                try simp only [Act.put, pB, pC, pD]
                refine tC 12 ⟨some 80, .load 4 (.tmp 79), 4, _, #[⟨11, .data⟩, ⟨10, .guard⟩], some (10, true)⟩ ?v65 rfl ?y65 hS0 ?r65; (case y65 => rintro w2 s1; have e0 := HSm.out w2 s1; go_simp; try with_reducible rfl)
                refine tC 13 ⟨some 81, .pick (.tmp 78) (.tmp 80) (Operand.const (Value.bool false)), 4, _, #[⟨10, .data⟩, ⟨12, .data⟩, ⟨8, .guard⟩], some (8, false)⟩ ?v66 rfl ?y66 hS0 ?r66; (case y66 => rintro w2 s1; go_simp; try with_reducible rfl)
                refine tC 14 ⟨some 82, .pick (.tmp 76) (Operand.const (Value.bool true)) (.tmp 81), 4, _, #[⟨8, .data⟩, ⟨13, .data⟩, ⟨3, .guard⟩], some (3, true)⟩ ?v67 rfl ?y67 hS0 ?r67; (case y67 => rintro w2 s1; go_simp; try with_reducible rfl)
                try simp only [Act.put, pB, pC, pD]
                refine tC 15 ⟨some 83, .pick (.tmp 71) (.tmp 82) (Operand.const (Value.bool false)), 4, _, #[⟨3, .data⟩, ⟨14, .data⟩], none⟩ ?v68 rfl ?y68 hS0 ?r68; (case y68 => rintro w2 s1; go_simp; try with_reducible rfl)
                refine tC 16 ⟨some 84, .move (.tmp 83), 4, _, #[⟨15, .data⟩, ⟨10, .chain⟩], none⟩ ?v69 rfl ?y69 hS0 ?r69; (case y69 => rintro w2 s1; go_simp; try with_reducible rfl)
                refine tD 17 ⟨some 85, .load 31 (.tmp 4), 31, _, #[⟨16, .guard⟩], some (16, true)⟩ rfl hS0 ?r70
                try simp only [Act.put, pB, pC, pD]
                refine tD 18 ⟨some 86, .load 90 (.tmp 6), 90, _, #[⟨16, .guard⟩], some (16, true)⟩ rfl hS0 ?r71
                refine tD 19 ⟨some 87, .fieldAddr 99 (.tmp 5) 0, 0, _, #[⟨16, .guard⟩], some (16, true)⟩ rfl hS0 ?r72
                refine tD 20 ⟨some 88, .load 72 (.tmp 87), 72, _, #[⟨19, .data⟩, ⟨16, .guard⟩], some (16, true)⟩ rfl hS0 ?r73
                try simp only [Act.put, pB, pC, pD]
                refine tD 21 ⟨some 89, .move (.tmp 13), 3, _, #[⟨16, .guard⟩], some (16, true)⟩ rfl hS0 ?r74
                refine tD 22 ⟨some 90, .indexAddr 72 (.tmp 88) (.tmp 89), 0, _, #[⟨20, .data⟩, ⟨21, .data⟩, ⟨16, .guard⟩], some (16, true)⟩ rfl hS0 ?r75
                refine tD 23 ⟨some 91, .load 3 (.tmp 90), 3, _, #[⟨22, .data⟩, ⟨16, .guard⟩], some (16, true)⟩ rfl hS0 ?r76
                try simp only [Act.put, pB, pC, pD]
                refine tD 24 ⟨some 92, .call { callee := Callee.value (Operand.func 91), args := #[.tmp 85, .tmp 86, .tmp 91], argTypes := #[31, 90, 3] }, 4, _, #[⟨17, .data⟩, ⟨18, .data⟩, ⟨23, .data⟩, ⟨16, .chain⟩, ⟨16, .guard⟩], some (16, true)⟩ rfl hS0 ?r77
                refine tC 25 ⟨some 93, .pick (.tmp 84) (.tmp 92) (Operand.const (Value.bool false)), 4, _, #[⟨16, .data⟩, ⟨24, .data⟩], none⟩ ?v78 rfl ?y78 hS0 ?r78; (case y78 => rintro w2 s1; go_simp; try with_reducible rfl)
                refine tC 26 ⟨some 12, .assign (.tmp 93), 4, _, pa [⟨25, .data⟩, ⟨24, .chain⟩] 26, none⟩ ?v79 rfl ?y79 hS0 ?r79; (case y79 => rintro w2 s1; go_simp; try with_reducible rfl)
                try simp only [Act.put, pB, pC, pD]
                refine wpAnyH_done (by kernel_rfl) ?_ _
                go_wp2_with fail
                go_roundw
                case rel => exact ⟨false, k + 1, rfl, by go_num, by omega, Lib.hid ⟨HL1.out.next ((Below.refl W1.heap.size W1).drew), HON.out⟩⟩
                case measure => simp [RowKit.intOf]; omega
          | false =>
            cases sb with
            | false =>
              have HV1 : Hid (ledP fo V it S k = false) := Lib.hid (by rw [HT.out k, HL.out.2, HSB.out, HLB.out]; rfl)
              have HON : Hid (onRun fo V it S (k + 1) = false) := Lib.hid (by rw [on_in HVK.out, HL.out.2, HSB.out, HMN.out, HAT.out]; rfl)
              go_upto_region 14 with fail
              obtain ⟨W1, hW1⟩ : ∃ W, W = wr.setCell ⟨w.heap.size + 3, k, none⟩ (.bool false) := ⟨_, rfl⟩
              rw [← hW1]
              have hl1 : LdW w W1 [.string (bstr lp), .bool fo, .slice aI mI cI] [.slice (some ⟨g1, 0, none⟩) n c1, .slice (some ⟨g2, 0, none⟩) (n + 1) c2] [.int .i64 wh, .bool ng, .slice a m c, .int .i64 ls, .bool mn, .bool mb] (boolsV n (partB (ledP fo V it S) (k + 1))) := by
                have := HL.out.1.put k (.bool (ledP fo V it S k))
                rw [part_set hlt, HV1.out, ← hW1] at this
                exact this
              have HL1 := Lib.hid hl1
              have HBW : Hid (∀ W, Below W1.heap.size W1 W → Below w.heap.size w W) := Lib.hid (fun W hb => HL1.out.below.trans (hb.mono HL1.out.below.size))
              have HSf : Hid (∀ W, Below W1.heap.size W1 W → W.cell? (ad.add k) = some (.bool false)) := Lib.hid (fun W hb => HFC.out W (HBW.out W hb))
              clear hl1 hW1 x0 y3 z0 zf f0
              refine wp_region_held_drew (S := (fun W => Below W1.heap.size W1 W)) (by kernel_rfl) ((Below.refl W1.heap.size W1).drew) (fun hS0 => ?_)
              refine tC 0 ⟨some 68, .move (.tmp 13), 3, _, #[], none⟩ ?v80 rfl ?y80 hS0 ?r80; (case y80 => rintro w2 s1; go_simp; try with_reducible rfl)
              try simp only [Act.put, pB, pC, pD]
              refine tC 1 ⟨some 69, .move (.tmp 9), 3, _, #[], none⟩ ?v81 rfl ?y81 hS0 ?r81; (case y81 => rintro w2 s1; go_simp; try with_reducible rfl)
              refine tC 2 ⟨some 70, .binOp BinOp.lss 3 (.tmp 68) (.tmp 69) 3, 4, _, #[⟨0, .data⟩, ⟨1, .data⟩], none⟩ ?v82 rfl ?y82 hS0 ?r82; (case y82 => rintro w2 s1; go_simp; try with_reducible rfl)
              refine tC 3 ⟨some 71, .move (.tmp 70), 4, _, #[⟨2, .data⟩], none⟩ ?v83 rfl ?y83 hS0 ?r83; (case y83 => rintro w2 s1; go_simp; try with_reducible rfl)
              try simp only [Act.put, pB, pC, pD]
              refine tC 4 ⟨some 72, .move (.tmp 3), 120, _, #[⟨3, .guard⟩], some (3, true)⟩ ?v84 rfl ?y84 hS0 ?r84; (case y84 => rintro w2 s1; go_simp; try with_reducible rfl)
              refine tC 5 ⟨some 73, .move (.tmp 13), 3, _, #[⟨3, .guard⟩], some (3, true)⟩ ?v85 rfl ?y85 hS0 ?r85; (case y85 => rintro w2 s1; go_simp; try with_reducible rfl)
              refine tC 6 ⟨some 74, .indexAddr 120 (.tmp 72) (.tmp 73), 0, _, #[⟨4, .data⟩, ⟨5, .data⟩, ⟨3, .guard⟩], some (3, true)⟩ ?v86 rfl ?y86 hS0 ?r86; (case y86 => rintro w2 s1; have e0 : (k : Int) < (n : Int) + 1 := (by omega); go_simp; try with_reducible rfl)
              try simp only [Act.put, pB, pC, pD]
              refine tC 7 ⟨some 75, .load 4 (.tmp 74), 4, _, #[⟨6, .data⟩, ⟨3, .guard⟩], some (3, true)⟩ ?v87 rfl ?y87 hS0 ?r87; (case y87 => rintro w2 s1; have e0 := HSf.out w2 s1; go_simp; try with_reducible rfl)
              refine tC 8 ⟨some 76, .move (.tmp 75), 4, _, #[⟨7, .data⟩, ⟨3, .chain⟩, ⟨3, .guard⟩], some (3, true)⟩ ?v88 rfl ?y88 hS0 ?r88; (case y88 => rintro w2 s1; go_simp; try with_reducible rfl)
              refine tC 9 ⟨some 77, .move (.tmp 12), 4, _, #[⟨8, .guard⟩], some (8, false)⟩ ?v89 rfl ?y89 hS0 ?r89; (case y89 => rintro w2 s1; go_simp; try with_reducible rfl)
              try simp only [Act.put, pB, pC, pD]
              refine tC 10 ⟨some 78, .move (.tmp 77), 4, _, #[⟨9, .data⟩, ⟨8, .chain⟩, ⟨8, .guard⟩], some (8, false)⟩ ?v90 rfl ?y90 hS0 ?r90; (case y90 => rintro w2 s1; go_simp; try with_reducible rfl)
              refine tD 11 ⟨some 79, .fieldAddr 90 (.tmp 6) 4, 0, _, #[⟨10, .guard⟩], some (10, true)⟩ rfl hS0 ?r91
              refine tD 12 ⟨some 80, .load 4 (.tmp 79), 4, _, #[⟨11, .data⟩, ⟨10, .guard⟩], some (10, true)⟩ rfl hS0 ?r92
              try simp only [Act.put, pB, pC, pD]
              refine tC 13 ⟨some 81, .pick (.tmp 78) (.tmp 80) (Operand.const (Value.bool false)), 4, _, #[⟨10, .data⟩, ⟨12, .data⟩, ⟨8, .guard⟩], some (8, false)⟩ ?v93 rfl ?y93 hS0 ?r93; (case y93 => rintro w2 s1; go_simp; try with_reducible rfl)
              refine tC 14 ⟨some 82, .pick (.tmp 76) (Operand.const (Value.bool true)) (.tmp 81), 4, _, #[⟨8, .data⟩, ⟨13, .data⟩, ⟨3, .guard⟩], some (3, true)⟩ ?v94 rfl ?y94 hS0 ?r94; (case y94 => rintro w2 s1; go_simp; try with_reducible rfl)
              refine tC 15 ⟨some 83, .pick (.tmp 71) (.tmp 82) (Operand.const (Value.bool false)), 4, _, #[⟨3, .data⟩, ⟨14, .data⟩], none⟩ ?v95 rfl ?y95 hS0 ?r95; (case y95 => rintro w2 s1; go_simp; try with_reducible rfl)
              try simp only [Act.put, pB, pC, pD]
              refine tC 16 ⟨some 84, .move (.tmp 83), 4, _, #[⟨15, .data⟩, ⟨10, .chain⟩], none⟩ ?v96 rfl ?y96 hS0 ?r96; (case y96 => rintro w2 s1; go_simp; try with_reducible rfl)
              refine tD 17 ⟨some 85, .load 31 (.tmp 4), 31, _, #[⟨16, .guard⟩], some (16, true)⟩ rfl hS0 ?r97
              refine tD 18 ⟨some 86, .load 90 (.tmp 6), 90, _, #[⟨16, .guard⟩], some (16, true)⟩ rfl hS0 ?r98
              try simp only [Act.put, pB, pC, pD]
              refine tD 19 ⟨some 87, .fieldAddr 99 (.tmp 5) 0, 0, _, #[⟨16, .guard⟩], some (16, true)⟩ rfl hS0 ?r99
              refine tD 20 ⟨some 88, .load 72 (.tmp 87), 72, _, #[⟨19, .data⟩, ⟨16, .guard⟩], some (16, true)⟩ rfl hS0 ?r100
              refine tD 21 ⟨some 89, .move (.tmp 13), 3, _, #[⟨16, .guard⟩], some (16, true)⟩ rfl hS0 ?r101
              try simp only [Act.put, pB, pC, pD]
              refine tD 22 ⟨some 90, .indexAddr 72 (.tmp 88) (.tmp 89), 0, _, #[⟨20, .data⟩, ⟨21, .data⟩, ⟨16, .guard⟩], some (16, true)⟩ rfl hS0 ?r102
              refine tD 23 ⟨some 91, .load 3 (.tmp 90), 3, _, #[⟨22, .data⟩, ⟨16, .guard⟩], some (16, true)⟩ rfl hS0 ?r103
              refine tD 24 ⟨some 92, .call { callee := Callee.value (Operand.func 91), args := #[.tmp 85, .tmp 86, .tmp 91], argTypes := #[31, 90, 3] }, 4, _, #[⟨17, .data⟩, ⟨18, .data⟩, ⟨23, .data⟩, ⟨16, .chain⟩, ⟨16, .guard⟩], some (16, true)⟩ rfl hS0 ?r104
              try simp only [Act.put, pB, pC, pD]
              refine tC 25 ⟨some 93, .pick (.tmp 84) (.tmp 92) (Operand.const (Value.bool false)), 4, _, #[⟨16, .data⟩, ⟨24, .data⟩], none⟩ ?v105 rfl ?y105 hS0 ?r105; (case y105 => rintro w2 s1; go_simp; try with_reducible rfl)
              refine tC 26 ⟨some 12, .assign (.tmp 93), 4, _, pa [⟨25, .data⟩, ⟨24, .chain⟩] 26, none⟩ ?v106 rfl ?y106 hS0 ?r106; (case y106 => rintro w2 s1; go_simp; try with_reducible rfl)
              try simp only [Act.put, pB, pC, pD]
              refine wpAnyH_done (by kernel_rfl) ?_ _
              go_wp2_with fail
              go_roundw
              case rel => exact ⟨false, k + 1, rfl, by go_num, by omega, Lib.hid ⟨HL1.out.next ((Below.refl W1.heap.size W1).drew), HON.out⟩⟩
              case measure => simp [RowKit.intOf]; omega
            | true =>
              cases lb with
              | true =>
                have HV1 : Hid (ledP fo V it S k = true) := Lib.hid (by rw [HT.out k, HL.out.2, HSB.out, HLB.out]; rfl)
                have HON : Hid (onRun fo V it S (k + 1) = bq) := Lib.hid (by rw [on_in HVK.out, HL.out.2, HSB.out, HMN.out, HAT.out]; simp)
                go_upto_region 14 with fail
                obtain ⟨W1, hW1⟩ : ∃ W, W = wr.setCell ⟨w.heap.size + 3, k, none⟩ (.bool true) := ⟨_, rfl⟩
                rw [← hW1]
                have hl1 : LdW w W1 [.string (bstr lp), .bool fo, .slice aI mI cI] [.slice (some ⟨g1, 0, none⟩) n c1, .slice (some ⟨g2, 0, none⟩) (n + 1) c2] [.int .i64 wh, .bool ng, .slice a m c, .int .i64 ls, .bool mn, .bool mb] (boolsV n (partB (ledP fo V it S) (k + 1))) := by
                  have := HL.out.1.put k (.bool (ledP fo V it S k))
                  rw [part_set hlt, HV1.out, ← hW1] at this
                  exact this
                have HL1 := Lib.hid hl1
                have HBW : Hid (∀ W, Below W1.heap.size W1 W → Below w.heap.size w W) := Lib.hid (fun W hb => HL1.out.below.trans (hb.mono HL1.out.below.size))
                have HSf : Hid (∀ W, Below W1.heap.size W1 W → W.cell? (ad.add k) = some (.bool true)) := Lib.hid (fun W hb => HFC.out W (HBW.out W hb))
                have HSv : Hid (∀ W, Below W1.heap.size W1 W → W.cell? ⟨g1, k, none⟩ = some (.int .i64 z)) := Lib.hid (fun W hb => HVC.out W (HBW.out W hb))
                have HSt : Hid (∀ W, Below W1.heap.size W1 W → W.cell? ⟨w.heap.size + 1, 0, none⟩ = some (.slice (some ⟨g1, 0, none⟩) n c1)) := Lib.hid (fun W hb => (HL1.out.next hb).txt.cell 0)
                have HSp : Hid (∀ W, Below W1.heap.size W1 W → W.cell? ⟨w.heap.size, 0, none⟩ = some (.string (bstr lp)) ∧ W.cell? ⟨w.heap.size, 1, none⟩ = some (.bool fo) ∧ W.cell? ⟨w.heap.size, 2, none⟩ = some (.slice aI mI cI)) := Lib.hid (fun W hb => ⟨(HL1.out.next hb).pat.cell 0, (HL1.out.next hb).pat.cell 1, (HL1.out.next hb).pat.cell 2⟩)
                have HSi : Hid (∀ W, Below W1.heap.size W1 W → W.cell? ⟨w.heap.size + 2, 0, none⟩ = some (.int .i64 wh) ∧ W.cell? ⟨w.heap.size + 2, 1, none⟩ = some (.bool ng) ∧ W.cell? ⟨w.heap.size + 2, 2, none⟩ = some (.slice a m c) ∧ W.cell? ⟨w.heap.size + 2, 3, none⟩ = some (.int .i64 ls) ∧ W.cell? ⟨w.heap.size + 2, 4, none⟩ = some (.bool mn) ∧ W.cell? ⟨w.heap.size + 2, 5, none⟩ = some (.bool mb)) := Lib.hid (fun W hb => ⟨(HL1.out.next hb).itm.cell 0, (HL1.out.next hb).itm.cell 1, (HL1.out.next hb).itm.cell 2, (HL1.out.next hb).itm.cell 3, (HL1.out.next hb).itm.cell 4, (HL1.out.next hb).itm.cell 5⟩)
                have HIC : Hid (∀ W, Below W1.heap.size W1 W → Calls Tryd.prog 91 #[.agg #[.string (bstr lp), .bool fo, .slice aI mI cI], .agg #[.int .i64 wh, .bool ng, .slice a m c, .int .i64 ls, .bool mn, .bool mb], .int .i64 z] W fun e w' => e = .returned (.bool bq) ∧ Below W.heap.size W w') := Lib.hid (fun W hb => HIS.out W (HBW.out W hb))
                clear hl1 hW1 x0 y3 z0 zf f0
                refine wp_region_held_drew (S := (fun W => Below W1.heap.size W1 W)) (by kernel_rfl) ((Below.refl W1.heap.size W1).drew) (fun hS0 => ?_)
                refine tC 0 ⟨some 68, .move (.tmp 13), 3, _, #[], none⟩ ?v107 rfl ?y107 hS0 ?r107; (case y107 => rintro w2 s1; go_simp; try with_reducible rfl)
                refine tC 1 ⟨some 69, .move (.tmp 9), 3, _, #[], none⟩ ?v108 rfl ?y108 hS0 ?r108; (case y108 => rintro w2 s1; go_simp; try with_reducible rfl)
                try simp only [Act.put, pB, pC, pD]
                refine tC 2 ⟨some 70, .binOp BinOp.lss 3 (.tmp 68) (.tmp 69) 3, 4, _, #[⟨0, .data⟩, ⟨1, .data⟩], none⟩ ?v109 rfl ?y109 hS0 ?r109; (case y109 => rintro w2 s1; go_simp; try with_reducible rfl)
                refine tC 3 ⟨some 71, .move (.tmp 70), 4, _, #[⟨2, .data⟩], none⟩ ?v110 rfl ?y110 hS0 ?r110; (case y110 => rintro w2 s1; go_simp; try with_reducible rfl)
                refine tC 4 ⟨some 72, .move (.tmp 3), 120, _, #[⟨3, .guard⟩], some (3, true)⟩ ?v111 rfl ?y111 hS0 ?r111; (case y111 => rintro w2 s1; go_simp; try with_reducible rfl)
                try simp only [Act.put, pB, pC, pD]
                refine tC 5 ⟨some 73, .move (.tmp 13), 3, _, #[⟨3, .guard⟩], some (3, true)⟩ ?v112 rfl ?y112 hS0 ?r112; (case y112 => rintro w2 s1; go_simp; try with_reducible rfl)
                refine tC 6 ⟨some 74, .indexAddr 120 (.tmp 72) (.tmp 73), 0, _, #[⟨4, .data⟩, ⟨5, .data⟩, ⟨3, .guard⟩], some (3, true)⟩ ?v113 rfl ?y113 hS0 ?r113; (case y113 => rintro w2 s1; have e0 : (k : Int) < (n : Int) + 1 := (by omega); go_simp; try with_reducible rfl)
                refine tC 7 ⟨some 75, .load 4 (.tmp 74), 4, _, #[⟨6, .data⟩, ⟨3, .guard⟩], some (3, true)⟩ ?v114 rfl ?y114 hS0 ?r114; (case y114 => rintro w2 s1; have e0 := HSf.out w2 s1; go_simp; try with_reducible rfl)
                try simp only [Act.put, pB, pC, pD]
                refine tC 8 ⟨some 76, .move (.tmp 75), 4, _, #[⟨7, .data⟩, ⟨3, .chain⟩, ⟨3, .guard⟩], some (3, true)⟩ ?v115 rfl ?y115 hS0 ?r115; (case y115 => rintro w2 s1; go_simp; try with_reducible rfl)
                refine tD 9 ⟨some 77, .move (.tmp 12), 4, _, #[⟨8, .guard⟩], some (8, false)⟩ rfl hS0 ?r116
                refine tD 10 ⟨some 78, .move (.tmp 77), 4, _, #[⟨9, .data⟩, ⟨8, .chain⟩, ⟨8, .guard⟩], some (8, false)⟩ rfl hS0 ?r117
                try simp only [Act.put, pB, pC, pD]
                refine tD 11 ⟨some 79, .fieldAddr 90 (.tmp 6) 4, 0, _, #[⟨10, .guard⟩], some (10, true)⟩ rfl hS0 ?r118
                refine tD 12 ⟨some 80, .load 4 (.tmp 79), 4, _, #[⟨11, .data⟩, ⟨10, .guard⟩], some (10, true)⟩ rfl hS0 ?r119
                refine tD 13 ⟨some 81, .pick (.tmp 78) (.tmp 80) (Operand.const (Value.bool false)), 4, _, #[⟨10, .data⟩, ⟨12, .data⟩, ⟨8, .guard⟩], some (8, false)⟩ rfl hS0 ?r120
                try simp only [Act.put, pB, pC, pD]
                refine tC 14 ⟨some 82, .pick (.tmp 76) (Operand.const (Value.bool true)) (.tmp 81), 4, _, #[⟨8, .data⟩, ⟨13, .data⟩, ⟨3, .guard⟩], some (3, true)⟩ ?v121 rfl ?y121 hS0 ?r121; (case y121 => rintro w2 s1; go_simp; try with_reducible rfl)
                refine tC 15 ⟨some 83, .pick (.tmp 71) (.tmp 82) (Operand.const (Value.bool false)), 4, _, #[⟨3, .data⟩, ⟨14, .data⟩], none⟩ ?v122 rfl ?y122 hS0 ?r122; (case y122 => rintro w2 s1; go_simp; try with_reducible rfl)
                refine tC 16 ⟨some 84, .move (.tmp 83), 4, _, #[⟨15, .data⟩, ⟨10, .chain⟩], none⟩ ?v123 rfl ?y123 hS0 ?r123; (case y123 => rintro w2 s1; go_simp; try with_reducible rfl)
                try simp only [Act.put, pB, pC, pD]
                refine tC 17 ⟨some 85, .load 31 (.tmp 4), 31, _, #[⟨16, .guard⟩], some (16, true)⟩ ?v124 rfl ?y124 hS0 ?r124; (case y124 => rintro w2 s1; obtain ⟨e0, e1, e2⟩ := HSp.out w2 s1; go_simp; try with_reducible rfl)
                refine tC 18 ⟨some 86, .load 90 (.tmp 6), 90, _, #[⟨16, .guard⟩], some (16, true)⟩ ?v125 rfl ?y125 hS0 ?r125; (case y125 => rintro w2 s1; obtain ⟨e0, e1, e2, e3, e4, e5⟩ := HSi.out w2 s1; go_simp; try with_reducible rfl)
                refine tC 19 ⟨some 87, .fieldAddr 99 (.tmp 5) 0, 0, _, #[⟨16, .guard⟩], some (16, true)⟩ ?v126 rfl ?y126 hS0 ?r126; (case y126 => rintro w2 s1; go_simp; try with_reducible rfl)
                try simp only [Act.put, pB, pC, pD]
                refine tC 20 ⟨some 88, .load 72 (.tmp 87), 72, _, #[⟨19, .data⟩, ⟨16, .guard⟩], some (16, true)⟩ ?v127 rfl ?y127 hS0 ?r127; (case y127 => rintro w2 s1; have e0 := HSt.out w2 s1; go_simp; try with_reducible rfl)
                refine tC 21 ⟨some 89, .move (.tmp 13), 3, _, #[⟨16, .guard⟩], some (16, true)⟩ ?v128 rfl ?y128 hS0 ?r128; (case y128 => rintro w2 s1; go_simp; try with_reducible rfl)
                refine tC 22 ⟨some 90, .indexAddr 72 (.tmp 88) (.tmp 89), 0, _, #[⟨20, .data⟩, ⟨21, .data⟩, ⟨16, .guard⟩], some (16, true)⟩ ?v129 rfl ?y129 hS0 ?r129; (case y129 => rintro w2 s1; go_simp; try with_reducible rfl)
                try simp only [Act.put, pB, pC, pD]
                refine tC 23 ⟨some 91, .load 3 (.tmp 90), 3, _, #[⟨22, .data⟩, ⟨16, .guard⟩], some (16, true)⟩ ?v130 rfl ?y130 hS0 ?r130; (case y130 => rintro w2 s1; have e0 := HSv.out w2 s1; go_simp; try with_reducible rfl)
                try simp only [Act.put, pB, pC, pD]
                refine wpAnyH_ready (rs := [24]) (by kernel_rfl) (by simp) (AllReadyH.cons (o := ⟨some 92, .call { callee := Callee.value (Operand.func 91), args := #[.tmp 85, .tmp 86, .tmp 91], argTypes := #[31, 90, 3] }, 4, "ref.go:331", #[⟨17, .data⟩, ⟨18, .data⟩, ⟨23, .data⟩, ⟨16, .chain⟩, ⟨16, .guard⟩], some (16, true)⟩) rfl (fun K' hK => ?_) AllReadyH.nil)
                go_simp
                with_reducible refine (HIC.out _ ((Below.refl W1.heap.size W1).drew)).mono ?_
                rintro e wa ⟨rfl, hbwa⟩
                have Bwa := Lib.hid (((Below.refl W1.heap.size W1).drew).trans (hbwa.mono ((Below.refl W1.heap.size W1).drew).size))
                clear hbwa
                show K' _ _
                refine hK.out _ _ Bwa.out (fun hSn => ?_)
                try simp only [Act.put, pB, pC, pD]
                clear hK K'
                refine tC 25 ⟨some 93, .pick (.tmp 84) (.tmp 92) (Operand.const (Value.bool false)), 4, _, #[⟨16, .data⟩, ⟨24, .data⟩], none⟩ ?v131 rfl ?y131 Bwa.out ?r131; (case y131 => rintro w2 s1; go_simp; try with_reducible rfl)
                refine tC 26 ⟨some 12, .assign (.tmp 93), 4, _, pa [⟨25, .data⟩, ⟨24, .chain⟩] 26, none⟩ ?v132 rfl ?y132 Bwa.out ?r132; (case y132 => rintro w2 s1; go_simp; try with_reducible rfl)
                try simp only [Act.put, pB, pC, pD]
                refine wpAnyH_done (by kernel_rfl) ?_ _
                go_wp2_with fail
                go_roundw
                case rel => exact ⟨bq, k + 1, rfl, by go_num, by omega, Lib.hid ⟨HL1.out.next Bwa.out, HON.out⟩⟩
                case measure => simp [RowKit.intOf]; omega
              | false =>
                have HV1 : Hid (ledP fo V it S k = false) := Lib.hid (by rw [HT.out k, HL.out.2, HSB.out, HLB.out]; rfl)
                have HON : Hid (onRun fo V it S (k + 1) = bq) := Lib.hid (by rw [on_in HVK.out, HL.out.2, HSB.out, HMN.out, HAT.out]; simp)
                go_upto_region 14 with fail
                obtain ⟨W1, hW1⟩ : ∃ W, W = wr.setCell ⟨w.heap.size + 3, k, none⟩ (.bool false) := ⟨_, rfl⟩
                rw [← hW1]
                have hl1 : LdW w W1 [.string (bstr lp), .bool fo, .slice aI mI cI] [.slice (some ⟨g1, 0, none⟩) n c1, .slice (some ⟨g2, 0, none⟩) (n + 1) c2] [.int .i64 wh, .bool ng, .slice a m c, .int .i64 ls, .bool mn, .bool mb] (boolsV n (partB (ledP fo V it S) (k + 1))) := by
                  have := HL.out.1.put k (.bool (ledP fo V it S k))
                  rw [part_set hlt, HV1.out, ← hW1] at this
                  exact this
                have HL1 := Lib.hid hl1
                have HBW : Hid (∀ W, Below W1.heap.size W1 W → Below w.heap.size w W) := Lib.hid (fun W hb => HL1.out.below.trans (hb.mono HL1.out.below.size))
                have HSf : Hid (∀ W, Below W1.heap.size W1 W → W.cell? (ad.add k) = some (.bool true)) := Lib.hid (fun W hb => HFC.out W (HBW.out W hb))
                have HSv : Hid (∀ W, Below W1.heap.size W1 W → W.cell? ⟨g1, k, none⟩ = some (.int .i64 z)) := Lib.hid (fun W hb => HVC.out W (HBW.out W hb))
                have HSt : Hid (∀ W, Below W1.heap.size W1 W → W.cell? ⟨w.heap.size + 1, 0, none⟩ = some (.slice (some ⟨g1, 0, none⟩) n c1)) := Lib.hid (fun W hb => (HL1.out.next hb).txt.cell 0)
                have HSp : Hid (∀ W, Below W1.heap.size W1 W → W.cell? ⟨w.heap.size, 0, none⟩ = some (.string (bstr lp)) ∧ W.cell? ⟨w.heap.size, 1, none⟩ = some (.bool fo) ∧ W.cell? ⟨w.heap.size, 2, none⟩ = some (.slice aI mI cI)) := Lib.hid (fun W hb => ⟨(HL1.out.next hb).pat.cell 0, (HL1.out.next hb).pat.cell 1, (HL1.out.next hb).pat.cell 2⟩)
                have HSi : Hid (∀ W, Below W1.heap.size W1 W → W.cell? ⟨w.heap.size + 2, 0, none⟩ = some (.int .i64 wh) ∧ W.cell? ⟨w.heap.size + 2, 1, none⟩ = some (.bool ng) ∧ W.cell? ⟨w.heap.size + 2, 2, none⟩ = some (.slice a m c) ∧ W.cell? ⟨w.heap.size + 2, 3, none⟩ = some (.int .i64 ls) ∧ W.cell? ⟨w.heap.size + 2, 4, none⟩ = some (.bool mn) ∧ W.cell? ⟨w.heap.size + 2, 5, none⟩ = some (.bool mb)) := Lib.hid (fun W hb => ⟨(HL1.out.next hb).itm.cell 0, (HL1.out.next hb).itm.cell 1, (HL1.out.next hb).itm.cell 2, (HL1.out.next hb).itm.cell 3, (HL1.out.next hb).itm.cell 4, (HL1.out.next hb).itm.cell 5⟩)
                have HIC : Hid (∀ W, Below W1.heap.size W1 W → Calls Tryd.prog 91 #[.agg #[.string (bstr lp), .bool fo, .slice aI mI cI], .agg #[.int .i64 wh, .bool ng, .slice a m c, .int .i64 ls, .bool mn, .bool mb], .int .i64 z] W fun e w' => e = .returned (.bool bq) ∧ Below W.heap.size W w') := Lib.hid (fun W hb => HIS.out W (HBW.out W hb))
                clear hl1 hW1 x0 y3 z0 zf f0
                refine wp_region_held_drew (S := (fun W => Below W1.heap.size W1 W)) (by kernel_rfl) ((Below.refl W1.heap.size W1).drew) (fun hS0 => ?_)
                refine tC 0 ⟨some 68, .move (.tmp 13), 3, _, #[], none⟩ ?v133 rfl ?y133 hS0 ?r133; (case y133 => rintro w2 s1; go_simp; try with_reducible rfl)
                refine tC 1 ⟨some 69, .move (.tmp 9), 3, _, #[], none⟩ ?v134 rfl ?y134 hS0 ?r134; (case y134 => rintro w2 s1; go_simp; try with_reducible rfl)
                try simp only [Act.put, pB, pC, pD]
                refine tC 2 ⟨some 70, .binOp BinOp.lss 3 (.tmp 68) (.tmp 69) 3, 4, _, #[⟨0, .data⟩, ⟨1, .data⟩], none⟩ ?v135 rfl ?y135 hS0 ?r135; (case y135 => rintro w2 s1; go_simp; try with_reducible rfl)
                refine tC 3 ⟨some 71, .move (.tmp 70), 4, _, #[⟨2, .data⟩], none⟩ ?v136 rfl ?y136 hS0 ?r136; (case y136 => rintro w2 s1; go_simp; try with_reducible rfl)
                refine tC 4 ⟨some 72, .move (.tmp 3), 120, _, #[⟨3, .guard⟩], some (3, true)⟩ ?v137 rfl ?y137 hS0 ?r137; (case y137 => rintro w2 s1; go_simp; try with_reducible rfl)
                try simp only [Act.put, pB, pC, pD]
                refine tC 5 ⟨some 73, .move (.tmp 13), 3, _, #[⟨3, .guard⟩], some (3, true)⟩ ?v138 rfl ?y138 hS0 ?r138; (case y138 => rintro w2 s1; go_simp; try with_reducible rfl)
                refine tC 6 ⟨some 74, .indexAddr 120 (.tmp 72) (.tmp 73), 0, _, #[⟨4, .data⟩, ⟨5, .data⟩, ⟨3, .guard⟩], some (3, true)⟩ ?v139 rfl ?y139 hS0 ?r139; (case y139 => rintro w2 s1; have e0 : (k : Int) < (n : Int) + 1 := (by omega); go_simp; try with_reducible rfl)
                refine tC 7 ⟨some 75, .load 4 (.tmp 74), 4, _, #[⟨6, .data⟩, ⟨3, .guard⟩], some (3, true)⟩ ?v140 rfl ?y140 hS0 ?r140; (case y140 => rintro w2 s1; have e0 := HSf.out w2 s1; go_simp; try with_reducible rfl)
                try simp only [Act.put, pB, pC, pD]
                refine tC 8 ⟨some 76, .move (.tmp 75), 4, _, #[⟨7, .data⟩, ⟨3, .chain⟩, ⟨3, .guard⟩], some (3, true)⟩ ?v141 rfl ?y141 hS0 ?r141; (case y141 => rintro w2 s1; go_simp; try with_reducible rfl)
                refine tD 9 ⟨some 77, .move (.tmp 12), 4, _, #[⟨8, .guard⟩], some (8, false)⟩ rfl hS0 ?r142
                refine tD 10 ⟨some 78, .move (.tmp 77), 4, _, #[⟨9, .data⟩, ⟨8, .chain⟩, ⟨8, .guard⟩], some (8, false)⟩ rfl hS0 ?r143
                try simp only [Act.put, pB, pC, pD]
                refine tD 11 ⟨some 79, .fieldAddr 90 (.tmp 6) 4, 0, _, #[⟨10, .guard⟩], some (10, true)⟩ rfl hS0 ?r144
                refine tD 12 ⟨some 80, .load 4 (.tmp 79), 4, _, #[⟨11, .data⟩, ⟨10, .guard⟩], some (10, true)⟩ rfl hS0 ?r145
                refine tD 13 ⟨some 81, .pick (.tmp 78) (.tmp 80) (Operand.const (Value.bool false)), 4, _, #[⟨10, .data⟩, ⟨12, .data⟩, ⟨8, .guard⟩], some (8, false)⟩ rfl hS0 ?r146
                try simp only [Act.put, pB, pC, pD]
                refine tC 14 ⟨some 82, .pick (.tmp 76) (Operand.const (Value.bool true)) (.tmp 81), 4, _, #[⟨8, .data⟩, ⟨13, .data⟩, ⟨3, .guard⟩], some (3, true)⟩ ?v147 rfl ?y147 hS0 ?r147; (case y147 => rintro w2 s1; go_simp; try with_reducible rfl)
                refine tC 15 ⟨some 83, .pick (.tmp 71) (.tmp 82) (Operand.const (Value.bool false)), 4, _, #[⟨3, .data⟩, ⟨14, .data⟩], none⟩ ?v148 rfl ?y148 hS0 ?r148; (case y148 => rintro w2 s1; go_simp; try with_reducible rfl)
                refine tC 16 ⟨some 84, .move (.tmp 83), 4, _, #[⟨15, .data⟩, ⟨10, .chain⟩], none⟩ ?v149 rfl ?y149 hS0 ?r149; (case y149 => rintro w2 s1; go_simp; try with_reducible rfl)
                try simp only [Act.put, pB, pC, pD]
                refine tC 17 ⟨some 85, .load 31 (.tmp 4), 31, _, #[⟨16, .guard⟩], some (16, true)⟩ ?v150 rfl ?y150 hS0 ?r150; (case y150 => rintro w2 s1; obtain ⟨e0, e1, e2⟩ := HSp.out w2 s1; go_simp; try with_reducible rfl)
                refine tC 18 ⟨some 86, .load 90 (.tmp 6), 90, _, #[⟨16, .guard⟩], some (16, true)⟩ ?v151 rfl ?y151 hS0 ?r151; (case y151 => rintro w2 s1; obtain ⟨e0, e1, e2, e3, e4, e5⟩ := HSi.out w2 s1; go_simp; try with_reducible rfl)
                refine tC 19 ⟨some 87, .fieldAddr 99 (.tmp 5) 0, 0, _, #[⟨16, .guard⟩], some (16, true)⟩ ?v152 rfl ?y152 hS0 ?r152; (case y152 => rintro w2 s1; go_simp; try with_reducible rfl)
                try simp only [Act.put, pB, pC, pD]
                refine tC 20 ⟨some 88, .load 72 (.tmp 87), 72, _, #[⟨19, .data⟩, ⟨16, .guard⟩], some (16, true)⟩ ?v153 rfl ?y153 hS0 ?r153; (case y153 => rintro w2 s1; have e0 := HSt.out w2 s1; go_simp; try with_reducible rfl)
                refine tC 21 ⟨some 89, .move (.tmp 13), 3, _, #[⟨16, .guard⟩], some (16, true)⟩ ?v154 rfl ?y154 hS0 ?r154; (case y154 => rintro w2 s1; go_simp; try with_reducible rfl)
                refine tC 22 ⟨some 90, .indexAddr 72 (.tmp 88) (.tmp 89), 0, _, #[⟨20, .data⟩, ⟨21, .data⟩, ⟨16, .guard⟩], some (16, true)⟩ ?v155 rfl ?y155 hS0 ?r155; (case y155 => rintro w2 s1; go_simp; try with_reducible rfl)
                try simp only [Act.put, pB, pC, pD]
                refine tC 23 ⟨some 91, .load 3 (.tmp 90), 3, _, #[⟨22, .data⟩, ⟨16, .guard⟩], some (16, true)⟩ ?v156 rfl ?y156 hS0 ?r156; (case y156 => rintro w2 s1; have e0 := HSv.out w2 s1; go_simp; try with_reducible rfl)
                try simp only [Act.put, pB, pC, pD]
                refine wpAnyH_ready (rs := [24]) (by kernel_rfl) (by simp) (AllReadyH.cons (o := ⟨some 92, .call { callee := Callee.value (Operand.func 91), args := #[.tmp 85, .tmp 86, .tmp 91], argTypes := #[31, 90, 3] }, 4, "ref.go:331", #[⟨17, .data⟩, ⟨18, .data⟩, ⟨23, .data⟩, ⟨16, .chain⟩, ⟨16, .guard⟩], some (16, true)⟩) rfl (fun K' hK => ?_) AllReadyH.nil)
                go_simp
                with_reducible refine (HIC.out _ ((Below.refl W1.heap.size W1).drew)).mono ?_
                rintro e wa ⟨rfl, hbwa⟩
                have Bwa := Lib.hid (((Below.refl W1.heap.size W1).drew).trans (hbwa.mono ((Below.refl W1.heap.size W1).drew).size))
                clear hbwa
                show K' _ _
                refine hK.out _ _ Bwa.out (fun hSn => ?_)
                try simp only [Act.put, pB, pC, pD]
                clear hK K'
                refine tC 25 ⟨some 93, .pick (.tmp 84) (.tmp 92) (Operand.const (Value.bool false)), 4, _, #[⟨16, .data⟩, ⟨24, .data⟩], none⟩ ?v157 rfl ?y157 Bwa.out ?r157; (case y157 => rintro w2 s1; go_simp; try with_reducible rfl)
                refine tC 26 ⟨some 12, .assign (.tmp 93), 4, _, pa [⟨25, .data⟩, ⟨24, .chain⟩] 26, none⟩ ?v158 rfl ?y158 Bwa.out ?r158; (case y158 => rintro w2 s1; go_simp; try with_reducible rfl)
                try simp only [Act.put, pB, pC, pD]
                refine wpAnyH_done (by kernel_rfl) ?_ _
                go_wp2_with fail
                go_roundw
                case rel => exact ⟨bq, k + 1, rfl, by go_num, by omega, Lib.hid ⟨HL1.out.next Bwa.out, HON.out⟩⟩
                case measure => simp [RowKit.intOf]; omega
        · have hkn : ¬ (k : Int) < (n : Int) := by omega
          have HNK : Hid (n ≤ k) := Lib.hid (by omega)
          clear hin
          cases on with
          | true =>
            have HV1 : Hid (ledP fo V it S k = true) := Lib.hid (by rw [HT.out k, HL.out.2, HSB.out, HLB.out]; rfl)
            have HON : Hid (onRun fo V it S (k + 1) = false) := Lib.hid (by rw [on_out (by rw [HN.out]; exact HNK.out)])
            go_upto_region 14 with fail
            obtain ⟨W1, hW1⟩ : ∃ W, W = wr.setCell ⟨w.heap.size + 3, k, none⟩ (.bool true) := ⟨_, rfl⟩
            rw [← hW1]
            have hl1 : LdW w W1 [.string (bstr lp), .bool fo, .slice aI mI cI] [.slice (some ⟨g1, 0, none⟩) n c1, .slice (some ⟨g2, 0, none⟩) (n + 1) c2] [.int .i64 wh, .bool ng, .slice a m c, .int .i64 ls, .bool mn, .bool mb] (boolsV n (partB (ledP fo V it S) (k + 1))) := by
              have := HL.out.1.put k (.bool (ledP fo V it S k))
              rw [part_set hlt, HV1.out, ← hW1] at this
              exact this
            have HL1 := Lib.hid hl1
            have HBW : Hid (∀ W, Below W1.heap.size W1 W → Below w.heap.size w W) := Lib.hid (fun W hb => HL1.out.below.trans (hb.mono HL1.out.below.size))
            clear hl1 hW1 x0 y3 z0 zf f0
            refine wp_region_held_drew (S := (fun W => Below W1.heap.size W1 W)) (by kernel_rfl) ((Below.refl W1.heap.size W1).drew) (fun hS0 => ?_)
            refine tC 0 ⟨some 68, .move (.tmp 13), 3, _, #[], none⟩ ?v159 rfl ?y159 hS0 ?r159; (case y159 => rintro w2 s1; go_simp; try with_reducible rfl)
            refine tC 1 ⟨some 69, .move (.tmp 9), 3, _, #[], none⟩ ?v160 rfl ?y160 hS0 ?r160; (case y160 => rintro w2 s1; go_simp; try with_reducible rfl)
            try simp only [Act.put, pB, pC, pD]
            refine tC 2 ⟨some 70, .binOp BinOp.lss 3 (.tmp 68) (.tmp 69) 3, 4, _, #[⟨0, .data⟩, ⟨1, .data⟩], none⟩ ?v161 rfl ?y161 hS0 ?r161; (case y161 => rintro w2 s1; go_simp; try with_reducible rfl)
            refine tC 3 ⟨some 71, .move (.tmp 70), 4, _, #[⟨2, .data⟩], none⟩ ?v162 rfl ?y162 hS0 ?r162; (case y162 => rintro w2 s1; go_simp; try with_reducible rfl)
            refine tD 4 ⟨some 72, .move (.tmp 3), 120, _, #[⟨3, .guard⟩], some (3, true)⟩ rfl hS0 ?r163
            try simp only [Act.put, pB, pC, pD]
            refine tD 5 ⟨some 73, .move (.tmp 13), 3, _, #[⟨3, .guard⟩], some (3, true)⟩ rfl hS0 ?r164
            refine tD 6 ⟨some 74, .indexAddr 120 (.tmp 72) (.tmp 73), 0, _, #[⟨4, .data⟩, ⟨5, .data⟩, ⟨3, .guard⟩], some (3, true)⟩ rfl hS0 ?r165
            refine tD 7 ⟨some 75, .load 4 (.tmp 74), 4, _, #[⟨6, .data⟩, ⟨3, .guard⟩], some (3, true)⟩ rfl hS0 ?r166
            try simp only [Act.put, pB, pC, pD]
            refine tD 8 ⟨some 76, .move (.tmp 75), 4, _, #[⟨7, .data⟩, ⟨3, .chain⟩, ⟨3, .guard⟩], some (3, true)⟩ rfl hS0 ?r167
            refine tD 9 ⟨some 77, .move (.tmp 12), 4, _, #[⟨8, .guard⟩], some (8, false)⟩ rfl hS0 ?r168
            refine tD 10 ⟨some 78, .move (.tmp 77), 4, _, #[⟨9, .data⟩, ⟨8, .chain⟩, ⟨8, .guard⟩], some (8, false)⟩ rfl hS0 ?r169
            try simp only [Act.put, pB, pC, pD]
            refine tD 11 ⟨some 79, .fieldAddr 90 (.tmp 6) 4, 0, _, #[⟨10, .guard⟩], some (10, true)⟩ rfl hS0 ?r170
            refine tD 12 ⟨some 80, .load 4 (.tmp 79), 4, _, #[⟨11, .data⟩, ⟨10, .guard⟩], some (10, true)⟩ rfl hS0 ?r171
            refine tD 13 ⟨some 81, .pick (.tmp 78) (.tmp 80) (Operand.const (Value.bool false)), 4, _, #[⟨10, .data⟩, ⟨12, .data⟩, ⟨8, .guard⟩], some (8, false)⟩ rfl hS0 ?r172
            try simp only [Act.put, pB, pC, pD]
            refine tD 14 ⟨some 82, .pick (.tmp 76) (Operand.const (Value.bool true)) (.tmp 81), 4, _, #[⟨8, .data⟩, ⟨13, .data⟩, ⟨3, .guard⟩], some (3, true)⟩ rfl hS0 ?r173
            refine tC 15 ⟨some 83, .pick (.tmp 71) (.tmp 82) (Operand.const (Value.bool false)), 4, _, #[⟨3, .data⟩, ⟨14, .data⟩], none⟩ ?v174 rfl ?y174 hS0 ?r174; (case y174 => rintro w2 s1; go_simp; try with_reducible rfl)
            refine tC 16 ⟨some 84, .move (.tmp 83), 4, _, #[⟨15, .data⟩, ⟨10, .chain⟩], none⟩ ?v175 rfl ?y175 hS0 ?r175; (case y175 => rintro w2 s1; go_simp; try with_reducible rfl)
            try simp only [Act.put, pB, pC, pD]
            refine tD 17 ⟨some 85, .load 31 (.tmp 4), 31, _, #[⟨16, .guard⟩], some (16, true)⟩ rfl hS0 ?r176
            refine tD 18 ⟨some 86, .load 90 (.tmp 6), 90, _, #[⟨16, .guard⟩], some (16, true)⟩ rfl hS0 ?r177
            refine tD 19 ⟨some 87, .fieldAddr 99 (.tmp 5) 0, 0, _, #[⟨16, .guard⟩], some (16, true)⟩ rfl hS0 ?r178
            try simp only [Act.put, pB, pC, pD]
            refine tD 20 ⟨some 88, .load 72 (.tmp 87), 72, _, #[⟨19, .data⟩, ⟨16, .guard⟩], some (16, true)⟩ rfl hS0 ?r179
            refine tD 21 ⟨some 89, .move (.tmp 13), 3, _, #[⟨16, .guard⟩], some (16, true)⟩ rfl hS0 ?r180
            refine tD 22 ⟨some 90, .indexAddr 72 (.tmp 88) (.tmp 89), 0, _, #[⟨20, .data⟩, ⟨21, .data⟩, ⟨16, .guard⟩], some (16, true)⟩ rfl hS0 ?r181
            try simp only [Act.put, pB, pC, pD]
            refine tD 23 ⟨some 91, .load 3 (.tmp 90), 3, _, #[⟨22, .data⟩, ⟨16, .guard⟩], some (16, true)⟩ rfl hS0 ?r182
            refine tD 24 ⟨some 92, .call { callee := Callee.value (Operand.func 91), args := #[.tmp 85, .tmp 86, .tmp 91], argTypes := #[31, 90, 3] }, 4, _, #[⟨17, .data⟩, ⟨18, .data⟩, ⟨23, .data⟩, ⟨16, .chain⟩, ⟨16, .guard⟩], some (16, true)⟩ rfl hS0 ?r183
            refine tC 25 ⟨some 93, .pick (.tmp 84) (.tmp 92) (Operand.const (Value.bool false)), 4, _, #[⟨16, .data⟩, ⟨24, .data⟩], none⟩ ?v184 rfl ?y184 hS0 ?r184; (case y184 => rintro w2 s1; go_simp; try with_reducible rfl)
            try simp only [Act.put, pB, pC, pD]
            refine tC 26 ⟨some 12, .assign (.tmp 93), 4, _, pa [⟨25, .data⟩, ⟨24, .chain⟩] 26, none⟩ ?v185 rfl ?y185 hS0 ?r185; (case y185 => rintro w2 s1; go_simp; try with_reducible rfl)
            try simp only [Act.put, pB, pC, pD]
            refine wpAnyH_done (by kernel_rfl) ?_ _
            go_wp2_with fail
            go_roundw
            case rel => exact ⟨false, k + 1, rfl, by go_num, by omega, Lib.hid ⟨HL1.out.next ((Below.refl W1.heap.size W1).drew), HON.out⟩⟩
            case measure => simp [RowKit.intOf]; omega
          | false =>
            cases sb with
            | false =>
              have HV1 : Hid (ledP fo V it S k = false) := Lib.hid (by rw [HT.out k, HL.out.2, HSB.out, HLB.out]; rfl)
              have HON : Hid (onRun fo V it S (k + 1) = false) := Lib.hid (by rw [on_out (by rw [HN.out]; exact HNK.out)])
              go_upto_region 14 with fail
              obtain ⟨W1, hW1⟩ : ∃ W, W = wr.setCell ⟨w.heap.size + 3, k, none⟩ (.bool false) := ⟨_, rfl⟩
              rw [← hW1]
              have hl1 : LdW w W1 [.string (bstr lp), .bool fo, .slice aI mI cI] [.slice (some ⟨g1, 0, none⟩) n c1, .slice (some ⟨g2, 0, none⟩) (n + 1) c2] [.int .i64 wh, .bool ng, .slice a m c, .int .i64 ls, .bool mn, .bool mb] (boolsV n (partB (ledP fo V it S) (k + 1))) := by
                have := HL.out.1.put k (.bool (ledP fo V it S k))
                rw [part_set hlt, HV1.out, ← hW1] at this
                exact this
              have HL1 := Lib.hid hl1
              have HBW : Hid (∀ W, Below W1.heap.size W1 W → Below w.heap.size w W) := Lib.hid (fun W hb => HL1.out.below.trans (hb.mono HL1.out.below.size))
              clear hl1 hW1 x0 y3 z0 zf f0
              refine wp_region_held_drew (S := (fun W => Below W1.heap.size W1 W)) (by kernel_rfl) ((Below.refl W1.heap.size W1).drew) (fun hS0 => ?_)
              refine tC 0 ⟨some 68, .move (.tmp 13), 3, _, #[], none⟩ ?v186 rfl ?y186 hS0 ?r186; (case y186 => rintro w2 s1; go_simp; try with_reducible rfl)
              refine tC 1 ⟨some 69, .move (.tmp 9), 3, _, #[], none⟩ ?v187 rfl ?y187 hS0 ?r187; (case y187 => rintro w2 s1; go_simp; try with_reducible rfl)
              refine tC 2 ⟨some 70, .binOp BinOp.lss 3 (.tmp 68) (.tmp 69) 3, 4, _, #[⟨0, .data⟩, ⟨1, .data⟩], none⟩ ?v188 rfl ?y188 hS0 ?r188; (case y188 => rintro w2 s1; go_simp; try with_reducible rfl)
              try simp only [Act.put, pB, pC, pD]
              refine tC 3 ⟨some 71, .move (.tmp 70), 4, _, #[⟨2, .data⟩], none⟩ ?v189 rfl ?y189 hS0 ?r189; (case y189 => rintro w2 s1; go_simp; try with_reducible rfl)
              refine tD 4 ⟨some 72, .move (.tmp 3), 120, _, #[⟨3, .guard⟩], some (3, true)⟩ rfl hS0 ?r190
              refine tD 5 ⟨some 73, .move (.tmp 13), 3, _, #[⟨3, .guard⟩], some (3, true)⟩ rfl hS0 ?r191
              try simp only [Act.put, pB, pC, pD]
              refine tD 6 ⟨some 74, .indexAddr 120 (.tmp 72) (.tmp 73), 0, _, #[⟨4, .data⟩, ⟨5, .data⟩, ⟨3, .guard⟩], some (3, true)⟩ rfl hS0 ?r192
              refine tD 7 ⟨some 75, .load 4 (.tmp 74), 4, _, #[⟨6, .data⟩, ⟨3, .guard⟩], some (3, true)⟩ rfl hS0 ?r193
              refine tD 8 ⟨some 76, .move (.tmp 75), 4, _, #[⟨7, .data⟩, ⟨3, .chain⟩, ⟨3, .guard⟩], some (3, true)⟩ rfl hS0 ?r194
              try simp only [Act.put, pB, pC, pD]
              refine tD 9 ⟨some 77, .move (.tmp 12), 4, _, #[⟨8, .guard⟩], some (8, false)⟩ rfl hS0 ?r195
              refine tD 10 ⟨some 78, .move (.tmp 77), 4, _, #[⟨9, .data⟩, ⟨8, .chain⟩, ⟨8, .guard⟩], some (8, false)⟩ rfl hS0 ?r196
              refine tD 11 ⟨some 79, .fieldAddr 90 (.tmp 6) 4, 0, _, #[⟨10, .guard⟩], some (10, true)⟩ rfl hS0 ?r197
              try simp only [Act.put, pB, pC, pD]
              refine tD 12 ⟨some 80, .load 4 (.tmp 79), 4, _, #[⟨11, .data⟩, ⟨10, .guard⟩], some (10, true)⟩ rfl hS0 ?r198
              refine tD 13 ⟨some 81, .pick (.tmp 78) (.tmp 80) (Operand.const (Value.bool false)), 4, _, #[⟨10, .data⟩, ⟨12, .data⟩, ⟨8, .guard⟩], some (8, false)⟩ rfl hS0 ?r199
              refine tD 14 ⟨some 82, .pick (.tmp 76) (Operand.const (Value.bool true)) (.tmp 81), 4, _, #[⟨8, .data⟩, ⟨13, .data⟩, ⟨3, .guard⟩], some (3, true)⟩ rfl hS0 ?r200
              try simp only [Act.put, pB, pC, pD]
              refine tC 15 ⟨some 83, .pick (.tmp 71) (.tmp 82) (Operand.const (Value.bool false)), 4, _, #[⟨3, .data⟩, ⟨14, .data⟩], none⟩ ?v201 rfl ?y201 hS0 ?r201; (case y201 => rintro w2 s1; go_simp; try with_reducible rfl)
              refine tC 16 ⟨some 84, .move (.tmp 83), 4, _, #[⟨15, .data⟩, ⟨10, .chain⟩], none⟩ ?v202 rfl ?y202 hS0 ?r202; (case y202 => rintro w2 s1; go_simp; try with_reducible rfl)
              refine tD 17 ⟨some 85, .load 31 (.tmp 4), 31, _, #[⟨16, .guard⟩], some (16, true)⟩ rfl hS0 ?r203
              try simp only [Act.put, pB, pC, pD]
              refine tD 18 ⟨some 86, .load 90 (.tmp 6), 90, _, #[⟨16, .guard⟩], some (16, true)⟩ rfl hS0 ?r204
              refine tD 19 ⟨some 87, .fieldAddr 99 (.tmp 5) 0, 0, _, #[⟨16, .guard⟩], some (16, true)⟩ rfl hS0 ?r205
              refine tD 20 ⟨some 88, .load 72 (.tmp 87), 72, _, #[⟨19, .data⟩, ⟨16, .guard⟩], some (16, true)⟩ rfl hS0 ?r206
              try simp only [Act.put, pB, pC, pD]
              refine tD 21 ⟨some 89, .move (.tmp 13), 3, _, #[⟨16, .guard⟩], some (16, true)⟩ rfl hS0 ?r207
              refine tD 22 ⟨some 90, .indexAddr 72 (.tmp 88) (.tmp 89), 0, _, #[⟨20, .data⟩, ⟨21, .data⟩, ⟨16, .guard⟩], some (16, true)⟩ rfl hS0 ?r208
              refine tD 23 ⟨some 91, .load 3 (.tmp 90), 3, _, #[⟨22, .data⟩, ⟨16, .guard⟩], some (16, true)⟩ rfl hS0 ?r209
              try simp only [Act.put, pB, pC, pD]
              refine tD 24 ⟨some 92, .call { callee := Callee.value (Operand.func 91), args := #[.tmp 85, .tmp 86, .tmp 91], argTypes := #[31, 90, 3] }, 4, _, #[⟨17, .data⟩, ⟨18, .data⟩, ⟨23, .data⟩, ⟨16, .chain⟩, ⟨16, .guard⟩], some (16, true)⟩ rfl hS0 ?r210
              refine tC 25 ⟨some 93, .pick (.tmp 84) (.tmp 92) (Operand.const (Value.bool false)), 4, _, #[⟨16, .data⟩, ⟨24, .data⟩], none⟩ ?v211 rfl ?y211 hS0 ?r211; (case y211 => rintro w2 s1; go_simp; try with_reducible rfl)
              refine tC 26 ⟨some 12, .assign (.tmp 93), 4, _, pa [⟨25, .data⟩, ⟨24, .chain⟩] 26, none⟩ ?v212 rfl ?y212 hS0 ?r212; (case y212 => rintro w2 s1; go_simp; try with_reducible rfl)
              try simp only [Act.put, pB, pC, pD]
              refine wpAnyH_done (by kernel_rfl) ?_ _
              go_wp2_with fail
              go_roundw
              case rel => exact ⟨false, k + 1, rfl, by go_num, by omega, Lib.hid ⟨HL1.out.next ((Below.refl W1.heap.size W1).drew), HON.out⟩⟩
              case measure => simp [RowKit.intOf]; omega
            | true =>
              cases lb with
              | true =>
                have HV1 : Hid (ledP fo V it S k = true) := Lib.hid (by rw [HT.out k, HL.out.2, HSB.out, HLB.out]; rfl)
                have HON : Hid (onRun fo V it S (k + 1) = false) := Lib.hid (by rw [on_out (by rw [HN.out]; exact HNK.out)])
                go_upto_region 14 with fail
                obtain ⟨W1, hW1⟩ : ∃ W, W = wr.setCell ⟨w.heap.size + 3, k, none⟩ (.bool true) := ⟨_, rfl⟩
                rw [← hW1]
                have hl1 : LdW w W1 [.string (bstr lp), .bool fo, .slice aI mI cI] [.slice (some ⟨g1, 0, none⟩) n c1, .slice (some ⟨g2, 0, none⟩) (n + 1) c2] [.int .i64 wh, .bool ng, .slice a m c, .int .i64 ls, .bool mn, .bool mb] (boolsV n (partB (ledP fo V it S) (k + 1))) := by
                  have := HL.out.1.put k (.bool (ledP fo V it S k))
                  rw [part_set hlt, HV1.out, ← hW1] at this
                  exact this
                have HL1 := Lib.hid hl1
                have HBW : Hid (∀ W, Below W1.heap.size W1 W → Below w.heap.size w W) := Lib.hid (fun W hb => HL1.out.below.trans (hb.mono HL1.out.below.size))
                clear hl1 hW1 x0 y3 z0 zf f0
                refine wp_region_held_drew (S := (fun W => Below W1.heap.size W1 W)) (by kernel_rfl) ((Below.refl W1.heap.size W1).drew) (fun hS0 => ?_)
                refine tC 0 ⟨some 68, .move (.tmp 13), 3, _, #[], none⟩ ?v213 rfl ?y213 hS0 ?r213; (case y213 => rintro w2 s1; go_simp; try with_reducible rfl)
                try simp only [Act.put, pB, pC, pD]
                refine tC 1 ⟨some 69, .move (.tmp 9), 3, _, #[], none⟩ ?v214 rfl ?y214 hS0 ?r214; (case y214 => rintro w2 s1; go_simp; try with_reducible rfl)
                refine tC 2 ⟨some 70, .binOp BinOp.lss 3 (.tmp 68) (.tmp 69) 3, 4, _, #[⟨0, .data⟩, ⟨1, .data⟩], none⟩ ?v215 rfl ?y215 hS0 ?r215; (case y215 => rintro w2 s1; go_simp; try with_reducible rfl)
                refine tC 3 ⟨some 71, .move (.tmp 70), 4, _, #[⟨2, .data⟩], none⟩ ?v216 rfl ?y216 hS0 ?r216; (case y216 => rintro w2 s1; go_simp; try with_reducible rfl)
                try simp only [Act.put, pB, pC, pD]
                refine tD 4 ⟨some 72, .move (.tmp 3), 120, _, #[⟨3, .guard⟩], some (3, true)⟩ rfl hS0 ?r217
                refine tD 5 ⟨some 73, .move (.tmp 13), 3, _, #[⟨3, .guard⟩], some (3, true)⟩ rfl hS0 ?r218
                refine tD 6 ⟨some 74, .indexAddr 120 (.tmp 72) (.tmp 73), 0, _, #[⟨4, .data⟩, ⟨5, .data⟩, ⟨3, .guard⟩], some (3, true)⟩ rfl hS0 ?r219
                try simp only [Act.put, pB, pC, pD]
                refine tD 7 ⟨some 75, .load 4 (.tmp 74), 4, _, #[⟨6, .data⟩, ⟨3, .guard⟩], some (3, true)⟩ rfl hS0 ?r220
                refine tD 8 ⟨some 76, .move (.tmp 75), 4, _, #[⟨7, .data⟩, ⟨3, .chain⟩, ⟨3, .guard⟩], some (3, true)⟩ rfl hS0 ?r221
                refine tD 9 ⟨some 77, .move (.tmp 12), 4, _, #[⟨8, .guard⟩], some (8, false)⟩ rfl hS0 ?r222
                try simp only [Act.put, pB, pC, pD]
                refine tD 10 ⟨some 78, .move (.tmp 77), 4, _, #[⟨9, .data⟩, ⟨8, .chain⟩, ⟨8, .guard⟩], some (8, false)⟩ rfl hS0 ?r223
                refine tD 11 ⟨some 79, .fieldAddr 90 (.tmp 6) 4, 0, _, #[⟨10, .guard⟩], some (10, true)⟩ rfl hS0 ?r224
                refine tD 12 ⟨some 80, .load 4 (.tmp 79), 4, _, #[⟨11, .data⟩, ⟨10, .guard⟩], some (10, true)⟩ rfl hS0 ?r225
                try simp only [Act.put, pB, pC, pD]
                refine tD 13 ⟨some 81, .pick (.tmp 78) (.tmp 80) (Operand.const (Value.bool false)), 4, _, #[⟨10, .data⟩, ⟨12, .data⟩, ⟨8, .guard⟩], some (8, false)⟩ rfl hS0 ?r226
                refine tD 14 ⟨some 82, .pick (.tmp 76) (Operand.const (Value.bool true)) (.tmp 81), 4, _, #[⟨8, .data⟩, ⟨13, .data⟩, ⟨3, .guard⟩], some (3, true)⟩ rfl hS0 ?r227
                refine tC 15 ⟨some 83, .pick (.tmp 71) (.tmp 82) (Operand.const (Value.bool false)), 4, _, #[⟨3, .data⟩, ⟨14, .data⟩], none⟩ ?v228 rfl ?y228 hS0 ?r228; (case y228 => rintro w2 s1; go_simp; try with_reducible rfl)
                try simp only [Act.put, pB, pC, pD]
                refine tC 16 ⟨some 84, .move (.tmp 83), 4, _, #[⟨15, .data⟩, ⟨10, .chain⟩], none⟩ ?v229 rfl ?y229 hS0 ?r229; (case y229 => rintro w2 s1; go_simp; try with_reducible rfl)
                refine tD 17 ⟨some 85, .load 31 (.tmp 4), 31, _, #[⟨16, .guard⟩], some (16, true)⟩ rfl hS0 ?r230
                refine tD 18 ⟨some 86, .load 90 (.tmp 6), 90, _, #[⟨16, .guard⟩], some (16, true)⟩ rfl hS0 ?r231
                try simp only [Act.put, pB, pC, pD]
                refine tD 19 ⟨some 87, .fieldAddr 99 (.tmp 5) 0, 0, _, #[⟨16, .guard⟩], some (16, true)⟩ rfl hS0 ?r232
                refine tD 20 ⟨some 88, .load 72 (.tmp 87), 72, _, #[⟨19, .data⟩, ⟨16, .guard⟩], some (16, true)⟩ rfl hS0 ?r233
                refine tD 21 ⟨some 89, .move (.tmp 13), 3, _, #[⟨16, .guard⟩], some (16, true)⟩ rfl hS0 ?r234
                try simp only [Act.put, pB, pC, pD]
                refine tD 22 ⟨some 90, .indexAddr 72 (.tmp 88) (.tmp 89), 0, _, #[⟨20, .data⟩, ⟨21, .data⟩, ⟨16, .guard⟩], some (16, true)⟩ rfl hS0 ?r235
                refine tD 23 ⟨some 91, .load 3 (.tmp 90), 3, _, #[⟨22, .data⟩, ⟨16, .guard⟩], some (16, true)⟩ rfl hS0 ?r236
                refine tD 24 ⟨some 92, .call { callee := Callee.value (Operand.func 91), args := #[.tmp 85, .tmp 86, .tmp 91], argTypes := #[31, 90, 3] }, 4, _, #[⟨17, .data⟩, ⟨18, .data⟩, ⟨23, .data⟩, ⟨16, .chain⟩, ⟨16, .guard⟩], some (16, true)⟩ rfl hS0 ?r237
                try simp only [Act.put, pB, pC, pD]
                refine tC 25 ⟨some 93, .pick (.tmp 84) (.tmp 92) (Operand.const (Value.bool false)), 4, _, #[⟨16, .data⟩, ⟨24, .data⟩], none⟩ ?v238 rfl ?y238 hS0 ?r238; (case y238 => rintro w2 s1; go_simp; try with_reducible rfl)
                refine tC 26 ⟨some 12, .assign (.tmp 93), 4, _, pa [⟨25, .data⟩, ⟨24, .chain⟩] 26, none⟩ ?v239 rfl ?y239 hS0 ?r239; (case y239 => rintro w2 s1; go_simp; try with_reducible rfl)
                try simp only [Act.put, pB, pC, pD]
                refine wpAnyH_done (by kernel_rfl) ?_ _
                go_wp2_with fail
                go_roundw
                case rel => exact ⟨false, k + 1, rfl, by go_num, by omega, Lib.hid ⟨HL1.out.next ((Below.refl W1.heap.size W1).drew), HON.out⟩⟩
                case measure => simp [RowKit.intOf]; omega
              | false =>
                have HV1 : Hid (ledP fo V it S k = false) := Lib.hid (by rw [HT.out k, HL.out.2, HSB.out, HLB.out]; rfl)
                have HON : Hid (onRun fo V it S (k + 1) = false) := Lib.hid (by rw [on_out (by rw [HN.out]; exact HNK.out)])
                go_upto_region 14 with fail
                obtain ⟨W1, hW1⟩ : ∃ W, W = wr.setCell ⟨w.heap.size + 3, k, none⟩ (.bool false) := ⟨_, rfl⟩
                rw [← hW1]
                have hl1 : LdW w W1 [.string (bstr lp), .bool fo, .slice aI mI cI] [.slice (some ⟨g1, 0, none⟩) n c1, .slice (some ⟨g2, 0, none⟩) (n + 1) c2] [.int .i64 wh, .bool ng, .slice a m c, .int .i64 ls, .bool mn, .bool mb] (boolsV n (partB (ledP fo V it S) (k + 1))) := by
                  have := HL.out.1.put k (.bool (ledP fo V it S k))
                  rw [part_set hlt, HV1.out, ← hW1] at this
                  exact this
                have HL1 := Lib.hid hl1
                have HBW : Hid (∀ W, Below W1.heap.size W1 W → Below w.heap.size w W) := Lib.hid (fun W hb => HL1.out.below.trans (hb.mono HL1.out.below.size))
                clear hl1 hW1 x0 y3 z0 zf f0
                refine wp_region_held_drew (S := (fun W => Below W1.heap.size W1 W)) (by kernel_rfl) ((Below.refl W1.heap.size W1).drew) (fun hS0 => ?_)
                refine tC 0 ⟨some 68, .move (.tmp 13), 3, _, #[], none⟩ ?v240 rfl ?y240 hS0 ?r240; (case y240 => rintro w2 s1; go_simp; try with_reducible rfl)
                refine tC 1 ⟨some 69, .move (.tmp 9), 3, _, #[], none⟩ ?v241 rfl ?y241 hS0 ?r241; (case y241 => rintro w2 s1; go_simp; try with_reducible rfl)
                try simp only [Act.put, pB, pC, pD]
                refine tC 2 ⟨some 70, .binOp BinOp.lss 3 (.tmp 68) (.tmp 69) 3, 4, _, #[⟨0, .data⟩, ⟨1, .data⟩], none⟩ ?v242 rfl ?y242 hS0 ?r242; (case y242 => rintro w2 s1; go_simp; try with_reducible rfl)
                refine tC 3 ⟨some 71, .move (.tmp 70), 4, _, #[⟨2, .data⟩], none⟩ ?v243 rfl ?y243 hS0 ?r243; (case y243 => rintro w2 s1; go_simp; try with_reducible rfl)
                refine tD 4 ⟨some 72, .move (.tmp 3), 120, _, #[⟨3, .guard⟩], some (3, true)⟩ rfl hS0 ?r244
                try simp only [Act.put, pB, pC, pD]
                refine tD 5 ⟨some 73, .move (.tmp 13), 3, _, #[⟨3, .guard⟩], some (3, true)⟩ rfl hS0 ?r245
                refine tD 6 ⟨some 74, .indexAddr 120 (.tmp 72) (.tmp 73), 0, _, #[⟨4, .data⟩, ⟨5, .data⟩, ⟨3, .guard⟩], some (3, true)⟩ rfl hS0 ?r246
                refine tD 7 ⟨some 75, .load 4 (.tmp 74), 4, _, #[⟨6, .data⟩, ⟨3, .guard⟩], some (3, true)⟩ rfl hS0 ?r247
                try simp only [Act.put, pB, pC, pD]
                refine tD 8 ⟨some 76, .move (.tmp 75), 4, _, #[⟨7, .data⟩, ⟨3, .chain⟩, ⟨3, .guard⟩], some (3, true)⟩ rfl hS0 ?r248
                refine tD 9 ⟨some 77, .move (.tmp 12), 4, _, #[⟨8, .guard⟩], some (8, false)⟩ rfl hS0 ?r249
                refine tD 10 ⟨some 78, .move (.tmp 77), 4, _, #[⟨9, .data⟩, ⟨8, .chain⟩, ⟨8, .guard⟩], some (8, false)⟩ rfl hS0 ?r250
                try simp only [Act.put, pB, pC, pD]
                refine tD 11 ⟨some 79, .fieldAddr 90 (.tmp 6) 4, 0, _, #[⟨10, .guard⟩], some (10, true)⟩ rfl hS0 ?r251
                refine tD 12 ⟨some 80, .load 4 (.tmp 79), 4, _, #[⟨11, .data⟩, ⟨10, .guard⟩], some (10, true)⟩ rfl hS0 ?r252
                refine tD 13 ⟨some 81, .pick (.tmp 78) (.tmp 80) (Operand.const (Value.bool false)), 4, _, #[⟨10, .data⟩, ⟨12, .data⟩, ⟨8, .guard⟩], some (8, false)⟩ rfl hS0 ?r253
                try simp only [Act.put, pB, pC, pD]
                refine tD 14 ⟨some 82, .pick (.tmp 76) (Operand.const (Value.bool true)) (.tmp 81), 4, _, #[⟨8, .data⟩, ⟨13, .data⟩, ⟨3, .guard⟩], some (3, true)⟩ rfl hS0 ?r254
                refine tC 15 ⟨some 83, .pick (.tmp 71) (.tmp 82) (Operand.const (Value.bool false)), 4, _, #[⟨3, .data⟩, ⟨14, .data⟩], none⟩ ?v255 rfl ?y255 hS0 ?r255; (case y255 => rintro w2 s1; go_simp; try with_reducible rfl)
                refine tC 16 ⟨some 84, .move (.tmp 83), 4, _, #[⟨15, .data⟩, ⟨10, .chain⟩], none⟩ ?v256 rfl ?y256 hS0 ?r256; (case y256 => rintro w2 s1; go_simp; try with_reducible rfl)
                try simp only [Act.put, pB, pC, pD]
                refine tD 17 ⟨some 85, .load 31 (.tmp 4), 31, _, #[⟨16, .guard⟩], some (16, true)⟩ rfl hS0 ?r257
                refine tD 18 ⟨some 86, .load 90 (.tmp 6), 90, _, #[⟨16, .guard⟩], some (16, true)⟩ rfl hS0 ?r258
                refine tD 19 ⟨some 87, .fieldAddr 99 (.tmp 5) 0, 0, _, #[⟨16, .guard⟩], some (16, true)⟩ rfl hS0 ?r259
                try simp only [Act.put, pB, pC, pD]
                refine tD 20 ⟨some 88, .load 72 (.tmp 87), 72, _, #[⟨19, .data⟩, ⟨16, .guard⟩], some (16, true)⟩ rfl hS0 ?r260
                refine tD 21 ⟨some 89, .move (.tmp 13), 3, _, #[⟨16, .guard⟩], some (16, true)⟩ rfl hS0 ?r261
                refine tD 22 ⟨some 90, .indexAddr 72 (.tmp 88) (.tmp 89), 0, _, #[⟨20, .data⟩, ⟨21, .data⟩, ⟨16, .guard⟩], some (16, true)⟩ rfl hS0 ?r262
                try simp only [Act.put, pB, pC, pD]
                refine tD 23 ⟨some 91, .load 3 (.tmp 90), 3, _, #[⟨22, .data⟩, ⟨16, .guard⟩], some (16, true)⟩ rfl hS0 ?r263
                refine tD 24 ⟨some 92, .call { callee := Callee.value (Operand.func 91), args := #[.tmp 85, .tmp 86, .tmp 91], argTypes := #[31, 90, 3] }, 4, _, #[⟨17, .data⟩, ⟨18, .data⟩, ⟨23, .data⟩, ⟨16, .chain⟩, ⟨16, .guard⟩], some (16, true)⟩ rfl hS0 ?r264
                refine tC 25 ⟨some 93, .pick (.tmp 84) (.tmp 92) (Operand.const (Value.bool false)), 4, _, #[⟨16, .data⟩, ⟨24, .data⟩], none⟩ ?v265 rfl ?y265 hS0 ?r265; (case y265 => rintro w2 s1; go_simp; try with_reducible rfl)
                try simp only [Act.put, pB, pC, pD]
                refine tC 26 ⟨some 12, .assign (.tmp 93), 4, _, pa [⟨25, .data⟩, ⟨24, .chain⟩] 26, none⟩ ?v266 rfl ?y266 hS0 ?r266; (case y266 => rintro w2 s1; go_simp; try with_reducible rfl)
                try simp only [Act.put, pB, pC, pD]
                refine wpAnyH_done (by kernel_rfl) ?_ _
                go_wp2_with fail
                go_roundw
                case rel => exact ⟨false, k + 1, rfl, by go_num, by omega, Lib.hid ⟨HL1.out.next ((Below.refl W1.heap.size W1).drew), HON.out⟩⟩
                case measure => simp [RowKit.intOf]; omega
      · obtain rfl : k = n + 1 := by omega
        have hki : ¬ ((n : Int) + 1) ≤ (n : Int) := by omega
        go_wp2_with fail
        go_ret
        exact ⟨_, rfl, by omega, by have := HL.out.1.to_; rw [part_all] at this; exact this, HL.out.1.below⟩
end Go.Proofs.YtchdeboialbdiaaDoor
