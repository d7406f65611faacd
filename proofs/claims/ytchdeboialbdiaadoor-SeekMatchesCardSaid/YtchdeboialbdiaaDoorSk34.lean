/- Texts joined, one behind the other (SRefS). -/
import Derived.Test.YtchdeboialbdiaaDoorSk33
/- The reference: to which places an item leads. -/
namespace Go.Proofs.YtchdeboialbdiaaDoor
set_option linter.unusedVariables false
set_option linter.unusedSimpArgs false
open Go.RowKit
open Go.Lib hiding intOf
theorem infoBool : (Tryd.prog.info? 4).map (fun i => (i.zero, i.size, i.bytes)) = some (some (.bool false), 1, 1) := by kernel_rfl
/-- so many places, and whether each can be come to -/
def boolsV (n : Nat) (T : Nat → Bool) : List Value := (List.range (n + 1)).map fun j => .bool (T j)
theorem bools_at {n : Nat} {T : Nat → Bool} {i : Nat} (h : i ≤ n) : (boolsV n T)[i]? = some (.bool (T i)) := by
  unfold boolsV
  rw [List.getElem?_map, List.getElem?_range (by omega)]
  rfl
theorem bools_len (n : Nat) (T : Nat → Bool) : (boolsV n T).length = n + 1 := by unfold boolsV; rw [List.length_map, List.length_range]
def partB (T : Nat → Bool) (i j : Nat) : Bool := decide (j < i) && T j
theorem part_set {n : Nat} {T : Nat → Bool} {i : Nat} (h : i ≤ n) : (boolsV n (partB T i)).set i (.bool (T i)) = boolsV n (partB T (i + 1)) := by
  refine List.ext_getElem? fun j => ?_
  rw [List.getElem?_set]
  by_cases hj : j ≤ n
  · rw [bools_at hj, bools_at hj, bools_len]
    unfold partB
    by_cases hij : i = j
    · subst hij
      rw [if_pos rfl, if_pos (by omega), decide_eq_true (by omega), Bool.true_and]
    · rw [if_neg hij]
      by_cases h2 : j < i
      · rw [decide_eq_true h2, decide_eq_true (by omega)]
      · rw [decide_eq_false h2, decide_eq_false (by omega)]
  · rw [if_neg (by omega), List.getElem?_eq_none (by rw [bools_len]; omega), List.getElem?_eq_none (by rw [bools_len]; omega)]
theorem part_all {n : Nat} {T : Nat → Bool} : boolsV n (partB T (n + 1)) = boolsV n T := by
  unfold boolsV
  refine List.map_congr_left fun j hj => ?_
  have := List.mem_range.1 hj
  unfold partB
  rw [decide_eq_true this, Bool.true_and]
theorem part_none {n : Nat} {T : Nat → Bool} : boolsV n (partB T 0) = List.replicate (n + 1) (.bool false) := by
  unfold boolsV
  refine List.ext_getElem? fun j => ?_
  rw [List.getElem?_map, List.getElem?_replicate]
  by_cases hj : j < n + 1
  · rw [List.getElem?_range hj, if_pos hj]
    show some (Value.bool (decide (j < 0) && T j)) = _
    rw [decide_eq_false (by omega), Bool.false_and]
  · rw [if_neg hj, List.getElem?_eq_none (by rw [List.length_range]; omega)]
    rfl
theorem made_bools (m : Nat) (hm : 0 < m) (z : Value) (N : Nat) : (madeCells (List.replicate m z).toArray N).toList = List.replicate N z := by
  apply List.ext_getElem?
  intro j
  by_cases hj : j < N
  · have h1 : j % m < m := Nat.mod_lt _ hm
    simp [madeCells, hj, h1]
  · simp [madeCells, hj]
theorem makeBools (w : World) (n : Nat) (hn : n ≤ 67108864) :
    ∃ wm, (Instr.makeSlice 120 (.int .i64 ((n : Int) + 1)) (.int .i64 ((n : Int) + 1))).run Tryd.prog w = .ok (.slice (some ⟨w.heap.size, 0, none⟩) (n + 1) (n + 1)) wm ∧ Row wm w.heap.size 4 (List.replicate (n + 1) (.bool false)) ∧ Below w.heap.size w wm := by
  obtain ⟨i0, hi, hz0, hz1, hz2⟩ := info_parts infoBool
  have hr := run_make (P := Tryd.prog) w 120 4 i0 (.bool false) Tryd.underlying120 hi hz0 .i64 .i64 ((n : Int) + 1) ((n : Int) + 1) (by omega) (Int.le_refl _) (by rw [hz2]; omega) (by omega)
  rw [hz1] at hr
  have e1 : ((n : Int) + 1).toNat = n + 1 := by omega
  rw [e1, show (Value.bool false).cells = #[.bool false] from rfl, Nat.mul_one] at hr
  refine ⟨_, hr, ?_, (Below.refl _ w).alloc (Nat.le_refl _) _⟩
  have h1 := heap_alloc_new w (.cells (madeCells #[.bool false] (n + 1)) 4)
  unfold Row
  rw [show List.replicate (n + 1) (Value.bool false) = (madeCells #[.bool false] (n + 1)).toList from (made_bools 1 (by decide) (.bool false) (n + 1)).symm]
  simpa using h1
/-- the boxes and the row that is made -/
structure LdW (w W : World) (pv tv iv xs : List Value) : Prop where
  pat : Row W w.heap.size 31 pv
  txt : Row W (w.heap.size + 1) 99 tv
  itm : Row W (w.heap.size + 2) 90 iv
  to_ : Row W (w.heap.size + 3) 4 xs
  below : Below w.heap.size w W
theorem LdW.next {w W W' : World} {pv tv iv xs : List Value} (h : LdW w W pv tv iv xs) (hb : Below W.heap.size W W') : LdW w W' pv tv iv xs :=
  ⟨h.pat.keep hb h.pat.lt, h.txt.keep hb h.txt.lt, h.itm.keep hb h.itm.lt, h.to_.keep hb h.to_.lt, h.below.trans (hb.mono h.below.size)⟩
theorem LdW.put {w W : World} {pv tv iv xs : List Value} (h : LdW w W pv tv iv xs) (i : Nat) (v : Value) : LdW w (W.setCell ⟨w.heap.size + 3, i, none⟩ v) pv tv iv (xs.set i v) :=
  ⟨h.pat.other (p := ⟨w.heap.size + 3, i, none⟩) (by show w.heap.size + 3 ≠ w.heap.size; omega) v, h.txt.other (p := ⟨w.heap.size + 3, i, none⟩) (by show w.heap.size + 3 ≠ w.heap.size + 1; omega) v, h.itm.other (p := ⟨w.heap.size + 3, i, none⟩) (by show w.heap.size + 3 ≠ w.heap.size + 2; omega) v, h.to_.set i v, h.below.setCell (p := ⟨w.heap.size + 3, i, none⟩) (by show w.heap.size ≤ w.heap.size + 3; omega) v⟩
theorem ld_heads (w : World) (pv tv iv : List Value) : Row (((w.alloc (.cells pv.toArray 31)).alloc (.cells tv.toArray 99)).alloc (.cells iv.toArray 90)) w.heap.size 31 pv ∧ Row (((w.alloc (.cells pv.toArray 31)).alloc (.cells tv.toArray 99)).alloc (.cells iv.toArray 90)) (w.heap.size + 1) 99 tv ∧ Row (((w.alloc (.cells pv.toArray 31)).alloc (.cells tv.toArray 99)).alloc (.cells iv.toArray 90)) (w.heap.size + 2) 90 iv ∧ (((w.alloc (.cells pv.toArray 31)).alloc (.cells tv.toArray 99)).alloc (.cells iv.toArray 90)).heap.size = w.heap.size + 3 ∧ Below w.heap.size w (((w.alloc (.cells pv.toArray 31)).alloc (.cells tv.toArray 99)).alloc (.cells iv.toArray 90)) := by
  have r1 : Row (w.alloc (.cells pv.toArray 31)) w.heap.size 31 pv := row_new w pv _
  have r2 := row_new (w.alloc (.cells pv.toArray 31)) tv 99
  rw [World.size_alloc] at r2
  have r3 := row_new ((w.alloc (.cells pv.toArray 31)).alloc (.cells tv.toArray 99)) iv 90
  rw [World.size_alloc, World.size_alloc] at r3
  exact ⟨(r1.alloc _).alloc _, r2.alloc _, r3, by simp, (((Below.refl _ w).alloc (Nat.le_refl _) _).alloc (by simp) _).alloc (by simp; omega) _⟩
/-- an item that may be -/
def OkIt (it : Itm) : Prop := it.what = 94 ∨ it.what = 36 ∨ OkAt it
theorem on_out {fo : Bool} {V : List Nat} {it : Itm} {S : Nat → Bool} {k : Nat} (h : V.length ≤ k) : onRun fo V it S (k + 1) = false := by
  have hv : V[k]? = none := List.getElem?_eq_none h
  rw [onRun, hv, Bool.and_false]
theorem on_in {fo : Bool} {V : List Nat} {it : Itm} {S : Nat → Bool} {k v : Nat} (h : V[k]? = some v) : onRun fo V it S (k + 1) = ((S k || (onRun fo V it S k && it.many)) && atomIs fo it v) := by
  rw [onRun, h]
theorem okv_c {V : List Nat} (hV : OkV V) (v : Nat) (hv : v ∈ V) : OkC v := by
  rcases hV v hv with ⟨h, _⟩ | h
  · exact Or.inl h
  · exact Or.inr h
set_option maxHeartbeats 8000000 in
set_option maxRecDepth 100000 in
theorem ledR6 (w : World) (lp : List UInt8) (fo : Bool) (aI : Option Addr) (mI cI g1 c1 g2 c2 n : Nat) (V : List Nat) (it : Itm) (a : Option Addr) (m c : Nat) (af : Option Addr) (S : Nat → Bool) (cf : Nat) (hn : V.length = n) (hI : IntsAt w g1 (toZ V ++ [-1])) (hV : OkV V) (hr : ElRd w (.slice a m c) it.els) (hok : OkIt it) (hm : m ≤ 1000000) (hnb : n ≤ 67108000) (hf : Reads w af (n + 1) (boolsV n S)) (hle : it.least ≤ 1) :
    Calls Tryd.prog 63 #[.agg #[.string (bstr lp), .bool fo, .slice aI mI cI], .agg #[.slice (some ⟨g1, 0, none⟩) n c1, .slice (some ⟨g2, 0, none⟩) (n + 1) c2], itV (it, .slice a m c), .slice af (n + 1) cf] w fun e w' => ∃ g, e = .returned (.slice (some ⟨g, 0, none⟩) (n + 1) (n + 1)) ∧ w.heap.size ≤ g ∧ Row w' g 4 (boolsV n (ledP fo V it S)) ∧ Below w.heap.size w w' := by
  obtain ⟨wh, hwh⟩ : ∃ z : Int, (it.what : Int) = z := ⟨_, rfl⟩
  obtain ⟨ls, hls⟩ : ∃ z : Int, (it.least : Int) = z := ⟨_, rfl⟩
  obtain ⟨ng, hng⟩ : ∃ b, it.neg = b := ⟨_, rfl⟩
  obtain ⟨mn, hmn⟩ : ∃ b, it.many = b := ⟨_, rfl⟩
  obtain ⟨mb, hmb⟩ : ∃ b, maybeB it = b := ⟨_, rfl⟩
  have hIV : itV (it, .slice a m c) = .agg #[.int .i64 wh, .bool ng, .slice a m c, .int .i64 ls, .bool mn, .bool mb] := by
    rw [← hwh, ← hls, ← hng, ← hmn, ← hmb]
    rfl
  obtain ⟨q1, q2, q3, q4, q5⟩ := ld_heads w [.string (bstr lp), .bool fo, .slice aI mI cI] [.slice (some ⟨g1, 0, none⟩) n c1, .slice (some ⟨g2, 0, none⟩) (n + 1) c2] [.int .i64 wh, .bool ng, .slice a m c, .int .i64 ls, .bool mn, .bool mb]
  obtain ⟨W0, hW0⟩ : ∃ W, W = ((w.alloc (.cells #[.string (bstr lp), .bool fo, .slice aI mI cI] 31)).alloc (.cells #[.slice (some ⟨g1, 0, none⟩) n c1, .slice (some ⟨g2, 0, none⟩) (n + 1) c2] 99)).alloc (.cells #[.int .i64 wh, .bool ng, .slice a m c, .int .i64 ls, .bool mn, .bool mb] 90) := ⟨_, rfl⟩
  have hq1 : Row W0 w.heap.size 31 [.string (bstr lp), .bool fo, .slice aI mI cI] := by rw [hW0]; exact q1
  have hq2 : Row W0 (w.heap.size + 1) 99 [.slice (some ⟨g1, 0, none⟩) n c1, .slice (some ⟨g2, 0, none⟩) (n + 1) c2] := by rw [hW0]; exact q2
  have hq3 : Row W0 (w.heap.size + 2) 90 [.int .i64 wh, .bool ng, .slice a m c, .int .i64 ls, .bool mn, .bool mb] := by rw [hW0]; exact q3
  have hq4 : W0.heap.size = w.heap.size + 3 := by rw [hW0]; exact q4
  have hq5 : Below w.heap.size w W0 := by rw [hW0]; exact q5
  clear q1 q2 q3 q4 q5
  obtain ⟨wm, hmk, hrow, hbm⟩ := makeBools W0 n (by omega)
  rw [hq4] at hmk hrow
  have hst : LdW w wm [.string (bstr lp), .bool fo, .slice aI mI cI] [.slice (some ⟨g1, 0, none⟩) n c1, .slice (some ⟨g2, 0, none⟩) (n + 1) c2] [.int .i64 wh, .bool ng, .slice a m c, .int .i64 ls, .bool mn, .bool mb] (List.replicate (n + 1) (.bool false)) := ⟨hq1.keep hbm hq1.lt, hq2.keep hbm hq2.lt, hq3.keep hbm hq3.lt, hrow, hq5.trans (hbm.mono hq5.size)⟩
  have HST := Lib.hid hst
  have HMK := Lib.hid hmk
  have HW0 := Lib.hid hW0
  have t0 : W0.cell? ⟨w.heap.size + 1, 0, none⟩ = some (.slice (some ⟨g1, 0, none⟩) n c1) := hq2.cell 0
  have tl := hq2.lt
  have i0 : wm.cell? ⟨w.heap.size + 2, 0, none⟩ = some (.int .i64 wh) := hst.itm.cell 0
  have il := hst.itm.lt
  have HHO := Lib.hid (fun W (hb : Below w.heap.size w W) (i what : Nat) (hi : i ≤ n) (hwt : what = 94 ∨ what = 36) => holdsR6 W g1 c1 g2 c2 n V what i hn (hI.keep hb (Nat.le_refl _)) hV hi (by omega) hwt)
  have HF := Lib.hid (fun W (hb : Below w.heap.size w W) => hf.keep hb (Nat.le_refl _))
  have HIN := Lib.hid (fun W (hb : Below w.heap.size w W) => hI.keep hb (Nat.le_refl _))
  have HN := Lib.hid hn
  have HV := Lib.hid hV
  rw [hIV]
  by_cases hed : it.what = 94 ∨ it.what = 36
  · have hT : ∀ i, ledP fo V it S i = (S i && holdsP V it.what i) := fun i => by unfold ledP; rw [if_pos hed]
    obtain ⟨what, hwt⟩ : ∃ x, it.what = x := ⟨_, rfl⟩
    rw [hwt] at hed hwh
    simp only [hwt] at hT
    have HT := Lib.hid hT
    have HED := Lib.hid hed
    have HWH := Lib.hid hwh
    have hcd : (wh == 94 || wh == 36) = true := by rcases hed with h | h <;> (subst h; subst hwh; rfl)
    have hLT : ledP fo V it S = fun i => S i && holdsP V what i := funext hT
    rw [hLT]
    clear hn hI hV hr hok hf hwt hed hwh hIV hls hng hmn hmb hT hLT hq1 hq2 hq3 hq5 hst hrow hbm hW0
    by_cases h94 : wh = 94
    · subst h94
      clear hcd
      go_enter Tryd.func63, Tryd.ntmps63
      go_upto_region 1 with fail
      rw [← HW0.out]
      go_wp2_with fail
      go_loopw [11] (fun ui wr => ∃ k : Nat, ui = .int .i64 (k : Int) ∧ k ≤ n + 1 ∧ Hid (LdW w wr [.string (bstr lp), .bool fo, .slice aI mI cI] [.slice (some ⟨g1, 0, none⟩) n c1, .slice (some ⟨g2, 0, none⟩) (n + 1) c2] [.int .i64 (94 : Int), .bool ng, .slice a m c, .int .i64 ls, .bool mn, .bool mb] (boolsV n (partB (fun i => S i && holdsP V what i) k)))) (fun ui _ => n + 2 - (RowKit.intOf ui).toNat)
      case atStart => exact ⟨0, rfl, Nat.zero_le _, Lib.hid (by rw [part_none]; exact HST.out)⟩
      case round =>
        obtain ⟨k, rfl, hk, HL⟩ := hrel
        have x0 : wr.cell? ⟨w.heap.size + 1, 0, none⟩ = some (.slice (some ⟨g1, 0, none⟩) n c1) := HL.out.txt.cell 0
        have x1 : wr.cell? ⟨w.heap.size + 1, 1, none⟩ = some (.slice (some ⟨g2, 0, none⟩) (n + 1) c2) := HL.out.txt.cell 1
        have xl := HL.out.txt.lt
        have y0 : wr.cell? ⟨w.heap.size + 2, 0, none⟩ = some (.int .i64 94) := HL.out.itm.cell 0
        have yl := HL.out.itm.lt
        by_cases hlt : k ≤ n
        · have hki : (k : Int) ≤ (n : Int) := by omega
          have z0 : wr.cell? ⟨w.heap.size + 3, k, none⟩ = some (.bool (partB (fun i => S i && holdsP V what i) k k)) := (HL.out.to_.cell k).trans (bools_at hlt)
          have zl := HL.out.to_.lt
          have zf := HL.out.to_.frozen k
          obtain ⟨ad, had, hsrc⟩ := (HF.out wr HL.out.below).src (Nat.succ_pos n)
          subst had
          have f0 := hsrc k _ (bools_at hlt)
          have hc := HHO.out wr HL.out.below k what hlt HED.out
          unfold txV at hc
          rw [HWH.out] at hc
          obtain ⟨sb, hsb⟩ : ∃ b, S k = b := ⟨_, rfl⟩
          rw [hsb] at f0
          obtain ⟨hb, hhb⟩ : ∃ b, holdsP V what k = b := ⟨_, rfl⟩
          rw [hhb] at hc
          have HC := Lib.hid hc
          have HV1 : Hid ((S k && holdsP V what k) = (sb && hb)) := Lib.hid (by rw [hsb, hhb])
          clear hc hsb hhb hsrc
          cases sb with
          | false =>
            go_wp2_with fail
            go_roundw
            case rel => exact ⟨k + 1, by go_num, by omega, Lib.hid (by
              have := HL.out.put k (.bool (S k && holdsP V what k))
              rw [part_set hlt, HV1.out, Bool.false_and] at this
              exact this)⟩
            case measure => simp [RowKit.intOf]; omega
          | true =>
            go_wp2_with (go_at_call 90; refine (HC.out).mono ?_; rintro e w1 ⟨rfl, hb1⟩; have HB1 := Lib.hid hb1; have z1 : w1.cell? ⟨w.heap.size + 3, k, none⟩ = some (.bool (partB (fun i => S i && holdsP V what i) k k)) := ((HL.out.next hb1).to_.cell k).trans (bools_at hlt); have zl1 := (HL.out.next hb1).to_.lt; have zf1 := (HL.out.next hb1).to_.frozen k; clear hb1)
            go_roundw
            case rel => exact ⟨k + 1, by go_num, by omega, Lib.hid (by
              have := (HL.out.next HB1.out).put k (.bool (S k && holdsP V what k))
              rw [part_set hlt, HV1.out, Bool.true_and] at this
              exact this)⟩
            case measure => simp [RowKit.intOf]; omega
        · obtain rfl : k = n + 1 := by omega
          have hki : ¬ ((n : Int) + 1) ≤ (n : Int) := by omega
          go_wp2_with fail
          go_ret
          exact ⟨_, rfl, by omega, by have := HL.out.to_; rw [part_all] at this; exact this, HL.out.below⟩
    · have q94 : (wh == 94) = false := by rw [beq_eq_false_iff_ne]; exact h94
      have h36 : wh = 36 := by
        have := HED.out
        have := HWH.out
        omega
      subst h36
      clear hcd h94
      go_enter Tryd.func63, Tryd.ntmps63
      go_upto_region 1 with fail
      rw [← HW0.out]
      go_wp2_with fail
      go_loopw [11] (fun ui wr => ∃ k : Nat, ui = .int .i64 (k : Int) ∧ k ≤ n + 1 ∧ Hid (LdW w wr [.string (bstr lp), .bool fo, .slice aI mI cI] [.slice (some ⟨g1, 0, none⟩) n c1, .slice (some ⟨g2, 0, none⟩) (n + 1) c2] [.int .i64 (36 : Int), .bool ng, .slice a m c, .int .i64 ls, .bool mn, .bool mb] (boolsV n (partB (fun i => S i && holdsP V what i) k)))) (fun ui _ => n + 2 - (RowKit.intOf ui).toNat)
      case atStart => exact ⟨0, rfl, Nat.zero_le _, Lib.hid (by rw [part_none]; exact HST.out)⟩
      case round =>
        obtain ⟨k, rfl, hk, HL⟩ := hrel
        have x0 : wr.cell? ⟨w.heap.size + 1, 0, none⟩ = some (.slice (some ⟨g1, 0, none⟩) n c1) := HL.out.txt.cell 0
        have x1 : wr.cell? ⟨w.heap.size + 1, 1, none⟩ = some (.slice (some ⟨g2, 0, none⟩) (n + 1) c2) := HL.out.txt.cell 1
        have xl := HL.out.txt.lt
        have y0 : wr.cell? ⟨w.heap.size + 2, 0, none⟩ = some (.int .i64 36) := HL.out.itm.cell 0
        have yl := HL.out.itm.lt
        by_cases hlt : k ≤ n
        · have hki : (k : Int) ≤ (n : Int) := by omega
          have z0 : wr.cell? ⟨w.heap.size + 3, k, none⟩ = some (.bool (partB (fun i => S i && holdsP V what i) k k)) := (HL.out.to_.cell k).trans (bools_at hlt)
          have zl := HL.out.to_.lt
          have zf := HL.out.to_.frozen k
          obtain ⟨ad, had, hsrc⟩ := (HF.out wr HL.out.below).src (Nat.succ_pos n)
          subst had
          have f0 := hsrc k _ (bools_at hlt)
          have hc := HHO.out wr HL.out.below k what hlt HED.out
          unfold txV at hc
          rw [HWH.out] at hc
          obtain ⟨sb, hsb⟩ : ∃ b, S k = b := ⟨_, rfl⟩
          rw [hsb] at f0
          obtain ⟨hb, hhb⟩ : ∃ b, holdsP V what k = b := ⟨_, rfl⟩
          rw [hhb] at hc
          have HC := Lib.hid hc
          have HV1 : Hid ((S k && holdsP V what k) = (sb && hb)) := Lib.hid (by rw [hsb, hhb])
          clear hc hsb hhb hsrc
          cases sb with
          | false =>
            go_wp2_with fail
            go_roundw
            case rel => exact ⟨k + 1, by go_num, by omega, Lib.hid (by
              have := HL.out.put k (.bool (S k && holdsP V what k))
              rw [part_set hlt, HV1.out, Bool.false_and] at this
              exact this)⟩
            case measure => simp [RowKit.intOf]; omega
          | true =>
            go_wp2_with (go_at_call 90; refine (HC.out).mono ?_; rintro e w1 ⟨rfl, hb1⟩; have HB1 := Lib.hid hb1; have z1 : w1.cell? ⟨w.heap.size + 3, k, none⟩ = some (.bool (partB (fun i => S i && holdsP V what i) k k)) := ((HL.out.next hb1).to_.cell k).trans (bools_at hlt); have zl1 := (HL.out.next hb1).to_.lt; have zf1 := (HL.out.next hb1).to_.frozen k; clear hb1)
            go_roundw
            case rel => exact ⟨k + 1, by go_num, by omega, Lib.hid (by
              have := (HL.out.next HB1.out).put k (.bool (S k && holdsP V what k))
              rw [part_set hlt, HV1.out, Bool.true_and] at this
              exact this)⟩
            case measure => simp [RowKit.intOf]; omega
        · obtain rfl : k = n + 1 := by omega
          have hki : ¬ ((n : Int) + 1) ≤ (n : Int) := by omega
          go_wp2_with fail
          go_ret
          exact ⟨_, rfl, by omega, by have := HL.out.to_; rw [part_all] at this; exact this, HL.out.below⟩
  · have hT : ∀ i, ledP fo V it S i = (onRun fo V it S i || (S i && decide (it.least = 0))) := fun i => by unfold ledP; rw [if_neg hed]
    have q94 : (wh == 94) = false := by rw [beq_eq_false_iff_ne]; omega
    have q36 : (wh == 36) = false := by rw [beq_eq_false_iff_ne]; omega
    obtain ⟨lb, hlb⟩ : ∃ b, (ls == 0) = b := ⟨_, rfl⟩
    have hLB : decide (it.least = 0) = lb := by rw [← hlb, Bool.eq_iff_iff, decide_eq_true_iff, beq_iff_eq]; omega
    have hat : OkAt it := by rcases hok with h | h | h
                             · exact absurd (Or.inl h) hed
                             · exact absurd (Or.inr h) hed
                             · exact h
    have HIS0 : Hid (∀ W, Below w.heap.size w W → ∀ v, OkC v → Calls Tryd.prog 91 #[.agg #[.string (bstr lp), .bool fo, .slice aI mI cI], .agg #[.int .i64 wh, .bool ng, .slice a m c, .int .i64 ls, .bool mn, .bool mb], .int .i64 (v : Int)] W fun e w' => e = .returned (.bool (atomIs fo it v)) ∧ Below W.heap.size W w') := Lib.hid (fun W hb v hv => by
      have := isR6 W lp fo aI mI cI it a m c v (hr.below hb) hat hm hv
      rw [hIV] at this
      exact this)
    have HT := Lib.hid hT
    have HLB := Lib.hid hLB
    have HMN := Lib.hid hmn
    clear HHO hn hI hV hr hok hf hed hwh hIV hls hng hmn hmb hT hLB hq1 hq2 hq3 hq5 hst hrow hbm hW0 hat
    go_enter Tryd.func63, Tryd.ntmps63
    go_upto_region 1 with fail
    rw [← HW0.out]
    go_wp2_with fail
    go_loopw [12, 13] (fun uo ui wr => ∃ (on : Bool) (k : Nat), uo = .bool on ∧ ui = .int .i64 (k : Int) ∧ k ≤ n + 1 ∧ Hid (LdW w wr [.string (bstr lp), .bool fo, .slice aI mI cI] [.slice (some ⟨g1, 0, none⟩) n c1, .slice (some ⟨g2, 0, none⟩) (n + 1) c2] [.int .i64 wh, .bool ng, .slice a m c, .int .i64 ls, .bool mn, .bool mb] (boolsV n (partB (ledP fo V it S) k)) ∧ onRun fo V it S k = on)) (fun uo ui _ => n + 2 - (RowKit.intOf ui).toNat)
    case atStart => exact ⟨false, 0, rfl, rfl, Nat.zero_le _, Lib.hid ⟨by rw [part_none]; exact HST.out, rfl⟩⟩
    case round =>
      obtain ⟨on, k, rfl, rfl, hk, HL⟩ := hrel
      have xl := HL.out.1.txt.lt
      have yl := HL.out.1.itm.lt
      have zl := HL.out.1.to_.lt
      have pl := HL.out.1.pat.lt
      by_cases hlt : k ≤ n
      · have hki : (k : Int) ≤ (n : Int) := by omega
        have HLT := Lib.hid hlt
        have x0 : wr.cell? ⟨w.heap.size + 1, 0, none⟩ = some (.slice (some ⟨g1, 0, none⟩) n c1) := HL.out.1.txt.cell 0
        have y3 : wr.cell? ⟨w.heap.size + 2, 3, none⟩ = some (.int .i64 ls) := HL.out.1.itm.cell 3
        have z0 : wr.cell? ⟨w.heap.size + 3, k, none⟩ = some (.bool (partB (ledP fo V it S) k k)) := (HL.out.1.to_.cell k).trans (bools_at hlt)
        have zf := HL.out.1.to_.frozen k
        obtain ⟨ad, had, hsrc⟩ := (HF.out wr HL.out.1.below).src (Nat.succ_pos n)
        subst had
        have f0 := hsrc k _ (bools_at hlt)
        obtain ⟨sb, hsb⟩ : ∃ b, S k = b := ⟨_, rfl⟩
        rw [hsb] at f0
        have HSB := Lib.hid hsb
        have HFC : Hid (∀ W, Below w.heap.size w W → W.cell? (ad.add k) = some (.bool sb)) := Lib.hid (fun W hb => by
          obtain ⟨ad2, had2, hsrc2⟩ := (HF.out W hb).src (Nat.succ_pos n)
          cases had2
          have := hsrc2 k _ (bools_at (HLT.out))
          rw [HSB.out] at this
          exact this)
        clear hsrc hsb
        by_cases hin : k < n
        · obtain ⟨v, hv⟩ : ∃ v, V[k]? = some v := ⟨_, List.getElem?_eq_getElem (by rw [HN.out]; exact hin)⟩
          have HVK := Lib.hid hv
          obtain ⟨z, hz⟩ : ∃ z : Int, (v : Int) = z := ⟨_, rfl⟩
          have HVC : Hid (∀ W, Below w.heap.size w W → W.cell? ⟨g1, k, none⟩ = some (.int .i64 z)) := Lib.hid (fun W hb => by
            have := (HIN.out W hb).v (i := k) (by rw [HN.out]; exact (HLT.out))
            rw [vI_some HVK.out, hz] at this
            exact this)
          have hvo := okv_c HV.out v (List.mem_of_getElem? hv)
          obtain ⟨bq, hbq⟩ : ∃ b, atomIs fo it v = b := ⟨_, rfl⟩
          have HAT := Lib.hid hbq
          have HIS := Lib.hid (fun W hb => hbq ▸ hz ▸ HIS0.out W hb v hvo)
          have hkn : (k : Int) < (n : Int) := by omega
          clear hv hz hvo hbq hin
          cases on with
          | true =>
            cases sb with
            | true =>
              have HV1 : Hid (ledP fo V it S k = true) := Lib.hid (by rw [HT.out k, HL.out.2, HSB.out, HLB.out]; rfl)
              have HON : Hid (onRun fo V it S (k + 1) = bq) := Lib.hid (by rw [on_in HVK.out, HL.out.2, HSB.out, HMN.out, HAT.out]; simp)
              go_upto_region 14 with fail
              obtain ⟨W1, hW1⟩ : ∃ W, W = wr.setCell ⟨w.heap.size + 3, k, none⟩ (.bool true) := ⟨_, rfl⟩
              rw [← hW1]
              have hl1 : LdW w W1 [.string (bstr lp), .bool fo, .slice aI mI cI] [.slice (some ⟨g1, 0, none⟩) n c1, .slice (some ⟨g2, 0, none⟩) (n + 1) c2] [.int .i64 wh, .bool ng, .slice a m c, .int .i64 ls, .bool mn, .bool mb] (boolsV n (partB (ledP fo V it S) (k + 1))) := by
                have := HL.out.1.put k (.bool (ledP fo V it S k))
                rw [part_set hlt, HV1.out, ← hW1] at this
                exact this
              have HL1 := Lib.hid hl1
              have HBW : Hid (∀ W, Below W1.heap.size W1 W → Below w.heap.size w W) := Lib.hid (fun W hb => HL1.out.below.trans (hb.mono HL1.out.below.size))
              have HSf : Hid (∀ W, Below W1.heap.size W1 W → W.cell? (ad.add k) = some (.bool true)) := Lib.hid (fun W hb => HFC.out W (HBW.out W hb))
              have HSv : Hid (∀ W, Below W1.heap.size W1 W → W.cell? ⟨g1, k, none⟩ = some (.int .i64 z)) := Lib.hid (fun W hb => HVC.out W (HBW.out W hb))
              have HSt : Hid (∀ W, Below W1.heap.size W1 W → W.cell? ⟨w.heap.size + 1, 0, none⟩ = some (.slice (some ⟨g1, 0, none⟩) n c1)) := Lib.hid (fun W hb => (HL1.out.next hb).txt.cell 0)
              have HSp : Hid (∀ W, Below W1.heap.size W1 W → W.cell? ⟨w.heap.size, 0, none⟩ = some (.string (bstr lp)) ∧ W.cell? ⟨w.heap.size, 1, none⟩ = some (.bool fo) ∧ W.cell? ⟨w.heap.size, 2, none⟩ = some (.slice aI mI cI)) := Lib.hid (fun W hb => ⟨(HL1.out.next hb).pat.cell 0, (HL1.out.next hb).pat.cell 1, (HL1.out.next hb).pat.cell 2⟩)
              have HSi : Hid (∀ W, Below W1.heap.size W1 W → W.cell? ⟨w.heap.size + 2, 0, none⟩ = some (.int .i64 wh) ∧ W.cell? ⟨w.heap.size + 2, 1, none⟩ = some (.bool ng) ∧ W.cell? ⟨w.heap.size + 2, 2, none⟩ = some (.slice a m c) ∧ W.cell? ⟨w.heap.size + 2, 3, none⟩ = some (.int .i64 ls) ∧ W.cell? ⟨w.heap.size + 2, 4, none⟩ = some (.bool mn) ∧ W.cell? ⟨w.heap.size + 2, 5, none⟩ = some (.bool mb)) := Lib.hid (fun W hb => ⟨(HL1.out.next hb).itm.cell 0, (HL1.out.next hb).itm.cell 1, (HL1.out.next hb).itm.cell 2, (HL1.out.next hb).itm.cell 3, (HL1.out.next hb).itm.cell 4, (HL1.out.next hb).itm.cell 5⟩)
              have HIC : Hid (∀ W, Below W1.heap.size W1 W → Calls Tryd.prog 91 #[.agg #[.string (bstr lp), .bool fo, .slice aI mI cI], .agg #[.int .i64 wh, .bool ng, .slice a m c, .int .i64 ls, .bool mn, .bool mb], .int .i64 z] W fun e w' => e = .returned (.bool bq) ∧ Below W.heap.size W w') := Lib.hid (fun W hb => HIS.out W (HBW.out W hb))
              clear hl1 hW1 x0 y3 z0 zf f0
              refine wp_region_held_drew (S := (fun W => Below W1.heap.size W1 W)) (by kernel_rfl) ((Below.refl W1.heap.size W1).drew) (fun hS0 => ?_)
              refine tkA (i := 0) (oi := ⟨some 68, .move (.tmp 13), 3, "ref.go:331", #[], none⟩) (v := ?v0q1) rfl ?y0q1 hS0 ?r0q1
              case y0q1 => (rintro w2 s1; go_simp; try with_reducible rfl)
              try simp only [Act.put, pB, pC, pD]
              refine tkA (i := 1) (oi := ⟨some 69, .move (.tmp 9), 3, "ref.go:331", #[], none⟩) (v := ?v1q2) rfl ?y1q2 hS0 ?r1q2
              case y1q2 => (rintro w2 s1; go_simp; try with_reducible rfl)
              try simp only [Act.put, pB, pC, pD]
              refine tkA (i := 2) (oi := ⟨some 70, .binOp BinOp.lss 3 (.tmp 68) (.tmp 69) 3, 4, "ref.go:331", #[⟨0, .data⟩, ⟨1, .data⟩], none⟩) (v := ?v2q3) rfl ?y2q3 hS0 ?r2q3
              case y2q3 => (rintro w2 s1; go_simp; try with_reducible rfl)
              try simp only [Act.put, pB, pC, pD]
              refine tkA (i := 3) (oi := ⟨some 71, .move (.tmp 70), 4, "ref.go:331", #[⟨2, .data⟩], none⟩) (v := ?v3q4) rfl ?y3q4 hS0 ?r3q4
              case y3q4 => (rintro w2 s1; go_simp; try with_reducible rfl)
              try simp only [Act.put, pB, pC, pD]
              refine tkA (i := 4) (oi := ⟨some 72, .move (.tmp 3), 120, "ref.go:331", #[⟨3, .guard⟩], some (3, true)⟩) (v := ?v4q5) rfl ?y4q5 hS0 ?r4q5
              case y4q5 => (rintro w2 s1; go_simp; try with_reducible rfl)
              try simp only [Act.put, pB, pC, pD]
              refine tkA (i := 5) (oi := ⟨some 73, .move (.tmp 13), 3, "ref.go:331", #[⟨3, .guard⟩], some (3, true)⟩) (v := ?v5q6) rfl ?y5q6 hS0 ?r5q6
              case y5q6 => (rintro w2 s1; go_simp; try with_reducible rfl)
              try simp only [Act.put, pB, pC, pD]
              refine tkA (i := 6) (oi := ⟨some 74, .indexAddr 120 (.tmp 72) (.tmp 73), 0, "ref.go:331", #[⟨4, .data⟩, ⟨5, .data⟩, ⟨3, .guard⟩], some (3, true)⟩) (v := ?v6q7) rfl ?y6q7 hS0 ?r6q7
              case y6q7 => (rintro w2 s1; have e0 : (k : Int) < (n : Int) + 1 := (by omega); go_simp; try with_reducible rfl)
              try simp only [Act.put, pB, pC, pD]
              refine tkA (i := 7) (oi := ⟨some 75, .load 4 (.tmp 74), 4, "ref.go:331", #[⟨6, .data⟩, ⟨3, .guard⟩], some (3, true)⟩) (v := ?v7q8) rfl ?y7q8 hS0 ?r7q8
              case y7q8 => (rintro w2 s1; have e0 := HSf.out w2 s1; go_simp; try with_reducible rfl)
              try simp only [Act.put, pB, pC, pD]
              refine tkA (i := 8) (oi := ⟨some 76, .move (.tmp 75), 4, "ref.go:331", #[⟨7, .data⟩, ⟨3, .chain⟩, ⟨3, .guard⟩], some (3, true)⟩) (v := ?v8q9) rfl ?y8q9 hS0 ?r8q9
              case y8q9 => (rintro w2 s1; go_simp; try with_reducible rfl)
              try simp only [Act.put, pB, pC, pD]
              refine tkB (i := 9) (oi := ⟨some 77, .move (.tmp 12), 4, "ref.go:331", #[⟨8, .guard⟩], some (8, false)⟩) rfl hS0 ?r9q10
              try simp only [Act.put, pB, pC, pD]
              refine tkB (i := 10) (oi := ⟨some 78, .move (.tmp 77), 4, "ref.go:331", #[⟨9, .data⟩, ⟨8, .chain⟩, ⟨8, .guard⟩], some (8, false)⟩) rfl hS0 ?r10q11
              try simp only [Act.put, pB, pC, pD]
              refine tkB (i := 11) (oi := ⟨some 79, .fieldAddr 90 (.tmp 6) 4, 0, "ref.go:331", #[⟨10, .guard⟩], some (10, true)⟩) rfl hS0 ?r11q12
              try simp only [Act.put, pB, pC, pD]
              refine tkB (i := 12) (oi := ⟨some 80, .load 4 (.tmp 79), 4, "ref.go:331", #[⟨11, .data⟩, ⟨10, .guard⟩], some (10, true)⟩) rfl hS0 ?r12q13
              try simp only [Act.put, pB, pC, pD]
              refine tkB (i := 13) (oi := ⟨some 81, .pick (.tmp 78) (.tmp 80) (Operand.const (Value.bool false)), 4, "ref.go:331", #[⟨10, .data⟩, ⟨12, .data⟩, ⟨8, .guard⟩], some (8, false)⟩) rfl hS0 ?r13q14
              try simp only [Act.put, pB, pC, pD]
              refine tkA (i := 14) (oi := ⟨some 82, .pick (.tmp 76) (Operand.const (Value.bool true)) (.tmp 81), 4, "ref.go:331", #[⟨8, .data⟩, ⟨13, .data⟩, ⟨3, .guard⟩], some (3, true)⟩) (v := ?v14q15) rfl ?y14q15 hS0 ?r14q15
              case y14q15 => (rintro w2 s1; go_simp; try with_reducible rfl)
              try simp only [Act.put, pB, pC, pD]
              refine tkA (i := 15) (oi := ⟨some 83, .pick (.tmp 71) (.tmp 82) (Operand.const (Value.bool false)), 4, "ref.go:331", #[⟨3, .data⟩, ⟨14, .data⟩], none⟩) (v := ?v15q16) rfl ?y15q16 hS0 ?r15q16
              case y15q16 => (rintro w2 s1; go_simp; try with_reducible rfl)
              try simp only [Act.put, pB, pC, pD]
              refine tkA (i := 16) (oi := ⟨some 84, .move (.tmp 83), 4, "ref.go:331", #[⟨15, .data⟩, ⟨10, .chain⟩], none⟩) (v := ?v16q17) rfl ?y16q17 hS0 ?r16q17
              case y16q17 => (rintro w2 s1; go_simp; try with_reducible rfl)
              try simp only [Act.put, pB, pC, pD]
              refine tkA (i := 17) (oi := ⟨some 85, .load 31 (.tmp 4), 31, "ref.go:331", #[⟨16, .guard⟩], some (16, true)⟩) (v := ?v17q18) rfl ?y17q18 hS0 ?r17q18
              case y17q18 => (rintro w2 s1; obtain ⟨e0, e1, e2⟩ := HSp.out w2 s1; go_simp; try with_reducible rfl)
              try simp only [Act.put, pB, pC, pD]
              refine tkA (i := 18) (oi := ⟨some 86, .load 90 (.tmp 6), 90, "ref.go:331", #[⟨16, .guard⟩], some (16, true)⟩) (v := ?v18q19) rfl ?y18q19 hS0 ?r18q19
              case y18q19 => (rintro w2 s1; obtain ⟨e0, e1, e2, e3, e4, e5⟩ := HSi.out w2 s1; go_simp; try with_reducible rfl)
              try simp only [Act.put, pB, pC, pD]
              refine tkA (i := 19) (oi := ⟨some 87, .fieldAddr 99 (.tmp 5) 0, 0, "ref.go:331", #[⟨16, .guard⟩], some (16, true)⟩) (v := ?v19q20) rfl ?y19q20 hS0 ?r19q20
              case y19q20 => (rintro w2 s1; go_simp; try with_reducible rfl)
              try simp only [Act.put, pB, pC, pD]
              refine tkA (i := 20) (oi := ⟨some 88, .load 72 (.tmp 87), 72, "ref.go:331", #[⟨19, .data⟩, ⟨16, .guard⟩], some (16, true)⟩) (v := ?v20q21) rfl ?y20q21 hS0 ?r20q21
              case y20q21 => (rintro w2 s1; have e0 := HSt.out w2 s1; go_simp; try with_reducible rfl)
              try simp only [Act.put, pB, pC, pD]
              refine tkA (i := 21) (oi := ⟨some 89, .move (.tmp 13), 3, "ref.go:331", #[⟨16, .guard⟩], some (16, true)⟩) (v := ?v21q22) rfl ?y21q22 hS0 ?r21q22
              case y21q22 => (rintro w2 s1; go_simp; try with_reducible rfl)
              try simp only [Act.put, pB, pC, pD]
              refine tkA (i := 22) (oi := ⟨some 90, .indexAddr 72 (.tmp 88) (.tmp 89), 0, "ref.go:331", #[⟨20, .data⟩, ⟨21, .data⟩, ⟨16, .guard⟩], some (16, true)⟩) (v := ?v22q23) rfl ?y22q23 hS0 ?r22q23
              case y22q23 => (rintro w2 s1; go_simp; try with_reducible rfl)
              try simp only [Act.put, pB, pC, pD]
              refine tkA (i := 23) (oi := ⟨some 91, .load 3 (.tmp 90), 3, "ref.go:331", #[⟨22, .data⟩, ⟨16, .guard⟩], some (16, true)⟩) (v := ?v23q24) rfl ?y23q24 hS0 ?r23q24
              case y23q24 => (rintro w2 s1; have e0 := HSv.out w2 s1; go_simp; try with_reducible rfl)
              try simp only [Act.put, pB, pC, pD]
              refine wpAnyH_ready (rs := [24]) (by kernel_rfl) (by simp) (AllReadyH.cons (o := ⟨some 92, .call { callee := Callee.value (Operand.func 91), args := #[.tmp 85, .tmp 86, .tmp 91], argTypes := #[31, 90, 3] }, 4, "ref.go:331", #[⟨17, .data⟩, ⟨18, .data⟩, ⟨23, .data⟩, ⟨16, .chain⟩, ⟨16, .guard⟩], some (16, true)⟩) rfl (fun K' hK => ?_) AllReadyH.nil)
              go_simp
              with_reducible refine (HIC.out _ ((Below.refl W1.heap.size W1).drew)).mono ?_
              rintro e wa ⟨rfl, hbwa⟩
              have Bwa := Lib.hid (((Below.refl W1.heap.size W1).drew).trans (hbwa.mono ((Below.refl W1.heap.size W1).drew).size))
              clear hbwa
              show K' _ _
              refine hK.out _ _ Bwa.out (fun hSn => ?_)
              try simp only [Act.put, pB, pC, pD]
              clear hK K'
              refine tkA (i := 25) (oi := ⟨some 93, .pick (.tmp 84) (.tmp 92) (Operand.const (Value.bool false)), 4, "ref.go:331", #[⟨16, .data⟩, ⟨24, .data⟩], none⟩) (v := ?v25q25) rfl ?y25q25 Bwa.out ?r25q25
              case y25q25 => (rintro w2 s1; go_simp; try with_reducible rfl)
              try simp only [Act.put, pB, pC, pD]
              refine tkA (i := 26) (oi := ⟨some 12, .assign (.tmp 93), 4, "ref.go:331", #[⟨25, .data⟩, ⟨24, .chain⟩, ⟨0, .phase⟩, ⟨1, .phase⟩, ⟨2, .phase⟩, ⟨3, .phase⟩, ⟨4, .phase⟩, ⟨5, .phase⟩, ⟨6, .phase⟩, ⟨7, .phase⟩, ⟨8, .phase⟩, ⟨9, .phase⟩, ⟨10, .phase⟩, ⟨11, .phase⟩, ⟨12, .phase⟩, ⟨13, .phase⟩, ⟨14, .phase⟩, ⟨15, .phase⟩, ⟨16, .phase⟩, ⟨17, .phase⟩, ⟨18, .phase⟩, ⟨19, .phase⟩, ⟨20, .phase⟩, ⟨21, .phase⟩, ⟨22, .phase⟩, ⟨23, .phase⟩, ⟨24, .phase⟩, ⟨25, .phase⟩], none⟩) (v := ?v26q26) rfl ?y26q26 Bwa.out ?r26q26
              case y26q26 => (rintro w2 s1; go_simp; try with_reducible rfl)
              try simp only [Act.put, pB, pC, pD]
              refine wpAnyH_done (by kernel_rfl) ?_ _
              go_wp2_with fail
              go_roundw
              case rel => exact ⟨bq, k + 1, rfl, by go_num, by omega, Lib.hid ⟨HL1.out.next Bwa.out, HON.out⟩⟩
              case measure => simp [RowKit.intOf]; omega
            | false =>
              cases mn with
              | true =>
                have HV1 : Hid (ledP fo V it S k = true) := Lib.hid (by rw [HT.out k, HL.out.2, HSB.out, HLB.out]; rfl)
                have HON : Hid (onRun fo V it S (k + 1) = bq) := Lib.hid (by rw [on_in HVK.out, HL.out.2, HSB.out, HMN.out, HAT.out]; simp)
                go_upto_region 14 with fail
                obtain ⟨W1, hW1⟩ : ∃ W, W = wr.setCell ⟨w.heap.size + 3, k, none⟩ (.bool true) := ⟨_, rfl⟩
                rw [← hW1]
                have hl1 : LdW w W1 [.string (bstr lp), .bool fo, .slice aI mI cI] [.slice (some ⟨g1, 0, none⟩) n c1, .slice (some ⟨g2, 0, none⟩) (n + 1) c2] [.int .i64 wh, .bool ng, .slice a m c, .int .i64 ls, .bool true, .bool mb] (boolsV n (partB (ledP fo V it S) (k + 1))) := by
                  have := HL.out.1.put k (.bool (ledP fo V it S k))
                  rw [part_set hlt, HV1.out, ← hW1] at this
                  exact this
                have HL1 := Lib.hid hl1
                have HBW : Hid (∀ W, Below W1.heap.size W1 W → Below w.heap.size w W) := Lib.hid (fun W hb => HL1.out.below.trans (hb.mono HL1.out.below.size))
                have HSf : Hid (∀ W, Below W1.heap.size W1 W → W.cell? (ad.add k) = some (.bool false)) := Lib.hid (fun W hb => HFC.out W (HBW.out W hb))
                have HSm : Hid (∀ W, Below W1.heap.size W1 W → W.cell? ⟨w.heap.size + 2, 4, none⟩ = some (.bool true)) := Lib.hid (fun W hb => (HL1.out.next hb).itm.cell 4)
                have HSv : Hid (∀ W, Below W1.heap.size W1 W → W.cell? ⟨g1, k, none⟩ = some (.int .i64 z)) := Lib.hid (fun W hb => HVC.out W (HBW.out W hb))
                have HSt : Hid (∀ W, Below W1.heap.size W1 W → W.cell? ⟨w.heap.size + 1, 0, none⟩ = some (.slice (some ⟨g1, 0, none⟩) n c1)) := Lib.hid (fun W hb => (HL1.out.next hb).txt.cell 0)
                have HSp : Hid (∀ W, Below W1.heap.size W1 W → W.cell? ⟨w.heap.size, 0, none⟩ = some (.string (bstr lp)) ∧ W.cell? ⟨w.heap.size, 1, none⟩ = some (.bool fo) ∧ W.cell? ⟨w.heap.size, 2, none⟩ = some (.slice aI mI cI)) := Lib.hid (fun W hb => ⟨(HL1.out.next hb).pat.cell 0, (HL1.out.next hb).pat.cell 1, (HL1.out.next hb).pat.cell 2⟩)
                have HSi : Hid (∀ W, Below W1.heap.size W1 W → W.cell? ⟨w.heap.size + 2, 0, none⟩ = some (.int .i64 wh) ∧ W.cell? ⟨w.heap.size + 2, 1, none⟩ = some (.bool ng) ∧ W.cell? ⟨w.heap.size + 2, 2, none⟩ = some (.slice a m c) ∧ W.cell? ⟨w.heap.size + 2, 3, none⟩ = some (.int .i64 ls) ∧ W.cell? ⟨w.heap.size + 2, 4, none⟩ = some (.bool true) ∧ W.cell? ⟨w.heap.size + 2, 5, none⟩ = some (.bool mb)) := Lib.hid (fun W hb => ⟨(HL1.out.next hb).itm.cell 0, (HL1.out.next hb).itm.cell 1, (HL1.out.next hb).itm.cell 2, (HL1.out.next hb).itm.cell 3, (HL1.out.next hb).itm.cell 4, (HL1.out.next hb).itm.cell 5⟩)
                have HIC : Hid (∀ W, Below W1.heap.size W1 W → Calls Tryd.prog 91 #[.agg #[.string (bstr lp), .bool fo, .slice aI mI cI], .agg #[.int .i64 wh, .bool ng, .slice a m c, .int .i64 ls, .bool true, .bool mb], .int .i64 z] W fun e w' => e = .returned (.bool bq) ∧ Below W.heap.size W w') := Lib.hid (fun W hb => HIS.out W (HBW.out W hb))
                clear hl1 hW1 x0 y3 z0 zf f0
                refine wp_region_held_drew (S := (fun W => Below W1.heap.size W1 W)) (by kernel_rfl) ((Below.refl W1.heap.size W1).drew) (fun hS0 => ?_)
                refine tkA (i := 0) (oi := ⟨some 68, .move (.tmp 13), 3, "ref.go:331", #[], none⟩) (v := ?v0q27) rfl ?y0q27 hS0 ?r0q27
                case y0q27 => (rintro w2 s1; go_simp; try with_reducible rfl)
                try simp only [Act.put, pB, pC, pD]
                refine tkA (i := 1) (oi := ⟨some 69, .move (.tmp 9), 3, "ref.go:331", #[], none⟩) (v := ?v1q28) rfl ?y1q28 hS0 ?r1q28
                case y1q28 => (rintro w2 s1; go_simp; try with_reducible rfl)
                try simp only [Act.put, pB, pC, pD]
                refine tkA (i := 2) (oi := ⟨some 70, .binOp BinOp.lss 3 (.tmp 68) (.tmp 69) 3, 4, "ref.go:331", #[⟨0, .data⟩, ⟨1, .data⟩], none⟩) (v := ?v2q29) rfl ?y2q29 hS0 ?r2q29
                case y2q29 => (rintro w2 s1; go_simp; try with_reducible rfl)
                try simp only [Act.put, pB, pC, pD]
                refine tkA (i := 3) (oi := ⟨some 71, .move (.tmp 70), 4, "ref.go:331", #[⟨2, .data⟩], none⟩) (v := ?v3q30) rfl ?y3q30 hS0 ?r3q30
                case y3q30 => (rintro w2 s1; go_simp; try with_reducible rfl)
                try simp only [Act.put, pB, pC, pD]
                refine tkA (i := 4) (oi := ⟨some 72, .move (.tmp 3), 120, "ref.go:331", #[⟨3, .guard⟩], some (3, true)⟩) (v := ?v4q31) rfl ?y4q31 hS0 ?r4q31
                case y4q31 => (rintro w2 s1; go_simp; try with_reducible rfl)
                try simp only [Act.put, pB, pC, pD]
                refine tkA (i := 5) (oi := ⟨some 73, .move (.tmp 13), 3, "ref.go:331", #[⟨3, .guard⟩], some (3, true)⟩) (v := ?v5q32) rfl ?y5q32 hS0 ?r5q32
                case y5q32 => (rintro w2 s1; go_simp; try with_reducible rfl)
                try simp only [Act.put, pB, pC, pD]
                refine tkA (i := 6) (oi := ⟨some 74, .indexAddr 120 (.tmp 72) (.tmp 73), 0, "ref.go:331", #[⟨4, .data⟩, ⟨5, .data⟩, ⟨3, .guard⟩], some (3, true)⟩) (v := ?v6q33) rfl ?y6q33 hS0 ?r6q33
                case y6q33 => (rintro w2 s1; have e0 : (k : Int) < (n : Int) + 1 := (by omega); go_simp; try with_reducible rfl)
                try simp only [Act.put, pB, pC, pD]
                refine tkA (i := 7) (oi := ⟨some 75, .load 4 (.tmp 74), 4, "ref.go:331", #[⟨6, .data⟩, ⟨3, .guard⟩], some (3, true)⟩) (v := ?v7q34) rfl ?y7q34 hS0 ?r7q34
                case y7q34 => (rintro w2 s1; have e0 := HSf.out w2 s1; go_simp; try with_reducible rfl)
                try simp only [Act.put, pB, pC, pD]
                refine tkA (i := 8) (oi := ⟨some 76, .move (.tmp 75), 4, "ref.go:331", #[⟨7, .data⟩, ⟨3, .chain⟩, ⟨3, .guard⟩], some (3, true)⟩) (v := ?v8q35) rfl ?y8q35 hS0 ?r8q35
                case y8q35 => (rintro w2 s1; go_simp; try with_reducible rfl)
                try simp only [Act.put, pB, pC, pD]
                refine tkA (i := 9) (oi := ⟨some 77, .move (.tmp 12), 4, "ref.go:331", #[⟨8, .guard⟩], some (8, false)⟩) (v := ?v9q36) rfl ?y9q36 hS0 ?r9q36
                case y9q36 => (rintro w2 s1; go_simp; try with_reducible rfl)
                try simp only [Act.put, pB, pC, pD]
                refine tkA (i := 10) (oi := ⟨some 78, .move (.tmp 77), 4, "ref.go:331", #[⟨9, .data⟩, ⟨8, .chain⟩, ⟨8, .guard⟩], some (8, false)⟩) (v := ?v10q37) rfl ?y10q37 hS0 ?r10q37
                case y10q37 => (rintro w2 s1; go_simp; try with_reducible rfl)
                try simp only [Act.put, pB, pC, pD]
                refine tkA (i := 11) (oi := ⟨some 79, .fieldAddr 90 (.tmp 6) 4, 0, "ref.go:331", #[⟨10, .guard⟩], some (10, true)⟩) (v := ?v11q38) rfl ?y11q38 hS0 ?r11q38
                case y11q38 => (rintro w2 s1; go_simp; try with_reducible rfl)
                try simp only [Act.put, pB, pC, pD]
                refine tkA (i := 12) (oi := ⟨some 80, .load 4 (.tmp 79), 4, "ref.go:331", #[⟨11, .data⟩, ⟨10, .guard⟩], some (10, true)⟩) (v := ?v12q39) rfl ?y12q39 hS0 ?r12q39
                case y12q39 => (rintro w2 s1; have e0 := HSm.out w2 s1; go_simp; try with_reducible rfl)
                try simp only [Act.put, pB, pC, pD]
                refine tkA (i := 13) (oi := ⟨some 81, .pick (.tmp 78) (.tmp 80) (Operand.const (Value.bool false)), 4, "ref.go:331", #[⟨10, .data⟩, ⟨12, .data⟩, ⟨8, .guard⟩], some (8, false)⟩) (v := ?v13q40) rfl ?y13q40 hS0 ?r13q40
                case y13q40 => (rintro w2 s1; go_simp; try with_reducible rfl)
                try simp only [Act.put, pB, pC, pD]
                refine tkA (i := 14) (oi := ⟨some 82, .pick (.tmp 76) (Operand.const (Value.bool true)) (.tmp 81), 4, "ref.go:331", #[⟨8, .data⟩, ⟨13, .data⟩, ⟨3, .guard⟩], some (3, true)⟩) (v := ?v14q41) rfl ?y14q41 hS0 ?r14q41
                case y14q41 => (rintro w2 s1; go_simp; try with_reducible rfl)
                try simp only [Act.put, pB, pC, pD]
                refine tkA (i := 15) (oi := ⟨some 83, .pick (.tmp 71) (.tmp 82) (Operand.const (Value.bool false)), 4, "ref.go:331", #[⟨3, .data⟩, ⟨14, .data⟩], none⟩) (v := ?v15q42) rfl ?y15q42 hS0 ?r15q42
                case y15q42 => (rintro w2 s1; go_simp; try with_reducible rfl)
                try simp only [Act.put, pB, pC, pD]
                refine tkA (i := 16) (oi := ⟨some 84, .move (.tmp 83), 4, "ref.go:331", #[⟨15, .data⟩, ⟨10, .chain⟩], none⟩) (v := ?v16q43) rfl ?y16q43 hS0 ?r16q43
                case y16q43 => (rintro w2 s1; go_simp; try with_reducible rfl)
                try simp only [Act.put, pB, pC, pD]
                refine tkA (i := 17) (oi := ⟨some 85, .load 31 (.tmp 4), 31, "ref.go:331", #[⟨16, .guard⟩], some (16, true)⟩) (v := ?v17q44) rfl ?y17q44 hS0 ?r17q44
                case y17q44 => (rintro w2 s1; obtain ⟨e0, e1, e2⟩ := HSp.out w2 s1; go_simp; try with_reducible rfl)
                try simp only [Act.put, pB, pC, pD]
                refine tkA (i := 18) (oi := ⟨some 86, .load 90 (.tmp 6), 90, "ref.go:331", #[⟨16, .guard⟩], some (16, true)⟩) (v := ?v18q45) rfl ?y18q45 hS0 ?r18q45
                case y18q45 => (rintro w2 s1; obtain ⟨e0, e1, e2, e3, e4, e5⟩ := HSi.out w2 s1; go_simp; try with_reducible rfl)
                try simp only [Act.put, pB, pC, pD]
                refine tkA (i := 19) (oi := ⟨some 87, .fieldAddr 99 (.tmp 5) 0, 0, "ref.go:331", #[⟨16, .guard⟩], some (16, true)⟩) (v := ?v19q46) rfl ?y19q46 hS0 ?r19q46
                case y19q46 => (rintro w2 s1; go_simp; try with_reducible rfl)
                try simp only [Act.put, pB, pC, pD]
                refine tkA (i := 20) (oi := ⟨some 88, .load 72 (.tmp 87), 72, "ref.go:331", #[⟨19, .data⟩, ⟨16, .guard⟩], some (16, true)⟩) (v := ?v20q47) rfl ?y20q47 hS0 ?r20q47
                case y20q47 => (rintro w2 s1; have e0 := HSt.out w2 s1; go_simp; try with_reducible rfl)
                try simp only [Act.put, pB, pC, pD]
                refine tkA (i := 21) (oi := ⟨some 89, .move (.tmp 13), 3, "ref.go:331", #[⟨16, .guard⟩], some (16, true)⟩) (v := ?v21q48) rfl ?y21q48 hS0 ?r21q48
                case y21q48 => (rintro w2 s1; go_simp; try with_reducible rfl)
                try simp only [Act.put, pB, pC, pD]
                refine tkA (i := 22) (oi := ⟨some 90, .indexAddr 72 (.tmp 88) (.tmp 89), 0, "ref.go:331", #[⟨20, .data⟩, ⟨21, .data⟩, ⟨16, .guard⟩], some (16, true)⟩) (v := ?v22q49) rfl ?y22q49 hS0 ?r22q49
                case y22q49 => (rintro w2 s1; go_simp; try with_reducible rfl)
                try simp only [Act.put, pB, pC, pD]
                refine tkA (i := 23) (oi := ⟨some 91, .load 3 (.tmp 90), 3, "ref.go:331", #[⟨22, .data⟩, ⟨16, .guard⟩], some (16, true)⟩) (v := ?v23q50) rfl ?y23q50 hS0 ?r23q50
                case y23q50 => (rintro w2 s1; have e0 := HSv.out w2 s1; go_simp; try with_reducible rfl)
                try simp only [Act.put, pB, pC, pD]
                refine wpAnyH_ready (rs := [24]) (by kernel_rfl) (by simp) (AllReadyH.cons (o := ⟨some 92, .call { callee := Callee.value (Operand.func 91), args := #[.tmp 85, .tmp 86, .tmp 91], argTypes := #[31, 90, 3] }, 4, "ref.go:331", #[⟨17, .data⟩, ⟨18, .data⟩, ⟨23, .data⟩, ⟨16, .chain⟩, ⟨16, .guard⟩], some (16, true)⟩) rfl (fun K' hK => ?_) AllReadyH.nil)
                go_simp
                with_reducible refine (HIC.out _ ((Below.refl W1.heap.size W1).drew)).mono ?_
                rintro e wa ⟨rfl, hbwa⟩
                have Bwa := Lib.hid (((Below.refl W1.heap.size W1).drew).trans (hbwa.mono ((Below.refl W1.heap.size W1).drew).size))
                clear hbwa
                show K' _ _
                refine hK.out _ _ Bwa.out (fun hSn => ?_)
                try simp only [Act.put, pB, pC, pD]
                clear hK K'
                refine tkA (i := 25) (oi := ⟨some 93, .pick (.tmp 84) (.tmp 92) (Operand.const (Value.bool false)), 4, "ref.go:331", #[⟨16, .data⟩, ⟨24, .data⟩], none⟩) (v := ?v25q51) rfl ?y25q51 Bwa.out ?r25q51
                case y25q51 => (rintro w2 s1; go_simp; try with_reducible rfl)
                try simp only [Act.put, pB, pC, pD]
                refine tkA (i := 26) (oi := ⟨some 12, .assign (.tmp 93), 4, "ref.go:331", #[⟨25, .data⟩, ⟨24, .chain⟩, ⟨0, .phase⟩, ⟨1, .phase⟩, ⟨2, .phase⟩, ⟨3, .phase⟩, ⟨4, .phase⟩, ⟨5, .phase⟩, ⟨6, .phase⟩, ⟨7, .phase⟩, ⟨8, .phase⟩, ⟨9, .phase⟩, ⟨10, .phase⟩, ⟨11, .phase⟩, ⟨12, .phase⟩, ⟨13, .phase⟩, ⟨14, .phase⟩, ⟨15, .phase⟩, ⟨16, .phase⟩, ⟨17, .phase⟩, ⟨18, .phase⟩, ⟨19, .phase⟩, ⟨20, .phase⟩, ⟨21, .phase⟩, ⟨22, .phase⟩, ⟨23, .phase⟩, ⟨24, .phase⟩, ⟨25, .phase⟩], none⟩) (v := ?v26q52) rfl ?y26q52 Bwa.out ?r26q52
                case y26q52 => (rintro w2 s1; go_simp; try with_reducible rfl)
                try simp only [Act.put, pB, pC, pD]
                refine wpAnyH_done (by kernel_rfl) ?_ _
                go_wp2_with fail
                go_roundw
                case rel => exact ⟨bq, k + 1, rfl, by go_num, by omega, Lib.hid ⟨HL1.out.next Bwa.out, HON.out⟩⟩
                case measure => simp [RowKit.intOf]; omega
              | false =>
                have HV1 : Hid (ledP fo V it S k = true) := Lib.hid (by rw [HT.out k, HL.out.2, HSB.out, HLB.out]; rfl)
                have HON : Hid (onRun fo V it S (k + 1) = false) := Lib.hid (by rw [on_in HVK.out, HL.out.2, HSB.out, HMN.out, HAT.out]; rfl)
                go_upto_region 14 with fail
                obtain ⟨W1, hW1⟩ : ∃ W, W = wr.setCell ⟨w.heap.size + 3, k, none⟩ (.bool true) := ⟨_, rfl⟩
                rw [← hW1]
                have hl1 : LdW w W1 [.string (bstr lp), .bool fo, .slice aI mI cI] [.slice (some ⟨g1, 0, none⟩) n c1, .slice (some ⟨g2, 0, none⟩) (n + 1) c2] [.int .i64 wh, .bool ng, .slice a m c, .int .i64 ls, .bool false, .bool mb] (boolsV n (partB (ledP fo V it S) (k + 1))) := by
                  have := HL.out.1.put k (.bool (ledP fo V it S k))
                  rw [part_set hlt, HV1.out, ← hW1] at this
                  exact this
                have HL1 := Lib.hid hl1
                have HBW : Hid (∀ W, Below W1.heap.size W1 W → Below w.heap.size w W) := Lib.hid (fun W hb => HL1.out.below.trans (hb.mono HL1.out.below.size))
                have HSf : Hid (∀ W, Below W1.heap.size W1 W → W.cell? (ad.add k) = some (.bool false)) := Lib.hid (fun W hb => HFC.out W (HBW.out W hb))
                have HSm : Hid (∀ W, Below W1.heap.size W1 W → W.cell? ⟨w.heap.size + 2, 4, none⟩ = some (.bool false)) := Lib.hid (fun W hb => (HL1.out.next hb).itm.cell 4)
                clear hl1 hW1 x0 y3 z0 zf f0
                refine wp_region_held_drew (S := (fun W => Below W1.heap.size W1 W)) (by kernel_rfl) ((Below.refl W1.heap.size W1).drew) (fun hS0 => ?_)
                refine tkA (i := 0) (oi := ⟨some 68, .move (.tmp 13), 3, "ref.go:331", #[], none⟩) (v := ?v0q53) rfl ?y0q53 hS0 ?r0q53
                case y0q53 => (rintro w2 s1; go_simp; try with_reducible rfl)
                try simp only [Act.put, pB, pC, pD]
                refine tkA (i := 1) (oi := ⟨some 69, .move (.tmp 9), 3, "ref.go:331", #[], none⟩) (v := ?v1q54) rfl ?y1q54 hS0 ?r1q54
                case y1q54 => (rintro w2 s1; go_simp; try with_reducible rfl)
                try simp only [Act.put, pB, pC, pD]
                refine tkA (i := 2) (oi := ⟨some 70, .binOp BinOp.lss 3 (.tmp 68) (.tmp 69) 3, 4, "ref.go:331", #[⟨0, .data⟩, ⟨1, .data⟩], none⟩) (v := ?v2q55) rfl ?y2q55 hS0 ?r2q55
                case y2q55 => (rintro w2 s1; go_simp; try with_reducible rfl)
                try simp only [Act.put, pB, pC, pD]
                refine tkA (i := 3) (oi := ⟨some 71, .move (.tmp 70), 4, "ref.go:331", #[⟨2, .data⟩], none⟩) (v := ?v3q56) rfl ?y3q56 hS0 ?r3q56
                case y3q56 => (rintro w2 s1; go_simp; try with_reducible rfl)
                try simp only [Act.put, pB, pC, pD]
                refine tkA (i := 4) (oi := ⟨some 72, .move (.tmp 3), 120, "ref.go:331", #[⟨3, .guard⟩], some (3, true)⟩) (v := ?v4q57) rfl ?y4q57 hS0 ?r4q57
                case y4q57 => (rintro w2 s1; go_simp; try with_reducible rfl)
                try simp only [Act.put, pB, pC, pD]
                refine tkA (i := 5) (oi := ⟨some 73, .move (.tmp 13), 3, "ref.go:331", #[⟨3, .guard⟩], some (3, true)⟩) (v := ?v5q58) rfl ?y5q58 hS0 ?r5q58
                case y5q58 => (rintro w2 s1; go_simp; try with_reducible rfl)
                try simp only [Act.put, pB, pC, pD]
                refine tkA (i := 6) (oi := ⟨some 74, .indexAddr 120 (.tmp 72) (.tmp 73), 0, "ref.go:331", #[⟨4, .data⟩, ⟨5, .data⟩, ⟨3, .guard⟩], some (3, true)⟩) (v := ?v6q59) rfl ?y6q59 hS0 ?r6q59
                case y6q59 => (rintro w2 s1; have e0 : (k : Int) < (n : Int) + 1 := (by omega); go_simp; try with_reducible rfl)
                try simp only [Act.put, pB, pC, pD]
                refine tkA (i := 7) (oi := ⟨some 75, .load 4 (.tmp 74), 4, "ref.go:331", #[⟨6, .data⟩, ⟨3, .guard⟩], some (3, true)⟩) (v := ?v7q60) rfl ?y7q60 hS0 ?r7q60
                case y7q60 => (rintro w2 s1; have e0 := HSf.out w2 s1; go_simp; try with_reducible rfl)
                try simp only [Act.put, pB, pC, pD]
                refine tkA (i := 8) (oi := ⟨some 76, .move (.tmp 75), 4, "ref.go:331", #[⟨7, .data⟩, ⟨3, .chain⟩, ⟨3, .guard⟩], some (3, true)⟩) (v := ?v8q61) rfl ?y8q61 hS0 ?r8q61
                case y8q61 => (rintro w2 s1; go_simp; try with_reducible rfl)
                try simp only [Act.put, pB, pC, pD]
                refine tkA (i := 9) (oi := ⟨some 77, .move (.tmp 12), 4, "ref.go:331", #[⟨8, .guard⟩], some (8, false)⟩) (v := ?v9q62) rfl ?y9q62 hS0 ?r9q62
                case y9q62 => (rintro w2 s1; go_simp; try with_reducible rfl)
                try simp only [Act.put, pB, pC, pD]
                refine tkA (i := 10) (oi := ⟨some 78, .move (.tmp 77), 4, "ref.go:331", #[⟨9, .data⟩, ⟨8, .chain⟩, ⟨8, .guard⟩], some (8, false)⟩) (v := ?v10q63) rfl ?y10q63 hS0 ?r10q63
                case y10q63 => (rintro w2 s1; go_simp; try with_reducible rfl)
                try simp only [Act.put, pB, pC, pD]
                refine tkA (i := 11) (oi := ⟨some 79, .fieldAddr 90 (.tmp 6) 4, 0, "ref.go:331", #[⟨10, .guard⟩], some (10, true)⟩) (v := ?v11q64) rfl ?y11q64 hS0 ?r11q64
                case y11q64 => (rintro w2 s1; go_simp; try with_reducible rfl)
                try simp only [Act.put, pB, pC, pD]
                refine tkA (i := 12) (oi := ⟨some 80, .load 4 (.tmp 79), 4, "ref.go:331", #[⟨11, .data⟩, ⟨10, .guard⟩], some (10, true)⟩) (v := ?v12q65) rfl ?y12q65 hS0 ?r12q65
                case y12q65 => (rintro w2 s1; have e0 := HSm.out w2 s1; go_simp; try with_reducible rfl)
                try simp only [Act.put, pB, pC, pD]
                refine tkA (i := 13) (oi := ⟨some 81, .pick (.tmp 78) (.tmp 80) (Operand.const (Value.bool false)), 4, "ref.go:331", #[⟨10, .data⟩, ⟨12, .data⟩, ⟨8, .guard⟩], some (8, false)⟩) (v := ?v13q66) rfl ?y13q66 hS0 ?r13q66
                case y13q66 => (rintro w2 s1; go_simp; try with_reducible rfl)
                try simp only [Act.put, pB, pC, pD]
                refine tkA (i := 14) (oi := ⟨some 82, .pick (.tmp 76) (Operand.const (Value.bool true)) (.tmp 81), 4, "ref.go:331", #[⟨8, .data⟩, ⟨13, .data⟩, ⟨3, .guard⟩], some (3, true)⟩) (v := ?v14q67) rfl ?y14q67 hS0 ?r14q67
                case y14q67 => (rintro w2 s1; go_simp; try with_reducible rfl)
                try simp only [Act.put, pB, pC, pD]
                refine tkA (i := 15) (oi := ⟨some 83, .pick (.tmp 71) (.tmp 82) (Operand.const (Value.bool false)), 4, "ref.go:331", #[⟨3, .data⟩, ⟨14, .data⟩], none⟩) (v := ?v15q68) rfl ?y15q68 hS0 ?r15q68
                case y15q68 => (rintro w2 s1; go_simp; try with_reducible rfl)
                try simp only [Act.put, pB, pC, pD]
                refine tkA (i := 16) (oi := ⟨some 84, .move (.tmp 83), 4, "ref.go:331", #[⟨15, .data⟩, ⟨10, .chain⟩], none⟩) (v := ?v16q69) rfl ?y16q69 hS0 ?r16q69
                case y16q69 => (rintro w2 s1; go_simp; try with_reducible rfl)
                try simp only [Act.put, pB, pC, pD]
                refine tkB (i := 17) (oi := ⟨some 85, .load 31 (.tmp 4), 31, "ref.go:331", #[⟨16, .guard⟩], some (16, true)⟩) rfl hS0 ?r17q70
                try simp only [Act.put, pB, pC, pD]
                refine tkB (i := 18) (oi := ⟨some 86, .load 90 (.tmp 6), 90, "ref.go:331", #[⟨16, .guard⟩], some (16, true)⟩) rfl hS0 ?r18q71
                try simp only [Act.put, pB, pC, pD]
                refine tkB (i := 19) (oi := ⟨some 87, .fieldAddr 99 (.tmp 5) 0, 0, "ref.go:331", #[⟨16, .guard⟩], some (16, true)⟩) rfl hS0 ?r19q72
                try simp only [Act.put, pB, pC, pD]
                refine tkB (i := 20) (oi := ⟨some 88, .load 72 (.tmp 87), 72, "ref.go:331", #[⟨19, .data⟩, ⟨16, .guard⟩], some (16, true)⟩) rfl hS0 ?r20q73
                try simp only [Act.put, pB, pC, pD]
                refine tkB (i := 21) (oi := ⟨some 89, .move (.tmp 13), 3, "ref.go:331", #[⟨16, .guard⟩], some (16, true)⟩) rfl hS0 ?r21q74
                try simp only [Act.put, pB, pC, pD]
                refine tkB (i := 22) (oi := ⟨some 90, .indexAddr 72 (.tmp 88) (.tmp 89), 0, "ref.go:331", #[⟨20, .data⟩, ⟨21, .data⟩, ⟨16, .guard⟩], some (16, true)⟩) rfl hS0 ?r22q75
                try simp only [Act.put, pB, pC, pD]
                refine tkB (i := 23) (oi := ⟨some 91, .load 3 (.tmp 90), 3, "ref.go:331", #[⟨22, .data⟩, ⟨16, .guard⟩], some (16, true)⟩) rfl hS0 ?r23q76
                try simp only [Act.put, pB, pC, pD]
                refine tkB (i := 24) (oi := ⟨some 92, .call { callee := Callee.value (Operand.func 91), args := #[.tmp 85, .tmp 86, .tmp 91], argTypes := #[31, 90, 3] }, 4, "ref.go:331", #[⟨17, .data⟩, ⟨18, .data⟩, ⟨23, .data⟩, ⟨16, .chain⟩, ⟨16, .guard⟩], some (16, true)⟩) rfl hS0 ?r24q77
                try simp only [Act.put, pB, pC, pD]
                refine tkA (i := 25) (oi := ⟨some 93, .pick (.tmp 84) (.tmp 92) (Operand.const (Value.bool false)), 4, "ref.go:331", #[⟨16, .data⟩, ⟨24, .data⟩], none⟩) (v := ?v25q78) rfl ?y25q78 hS0 ?r25q78
                case y25q78 => (rintro w2 s1; go_simp; try with_reducible rfl)
                try simp only [Act.put, pB, pC, pD]
                refine tkA (i := 26) (oi := ⟨some 12, .assign (.tmp 93), 4, "ref.go:331", #[⟨25, .data⟩, ⟨24, .chain⟩, ⟨0, .phase⟩, ⟨1, .phase⟩, ⟨2, .phase⟩, ⟨3, .phase⟩, ⟨4, .phase⟩, ⟨5, .phase⟩, ⟨6, .phase⟩, ⟨7, .phase⟩, ⟨8, .phase⟩, ⟨9, .phase⟩, ⟨10, .phase⟩, ⟨11, .phase⟩, ⟨12, .phase⟩, ⟨13, .phase⟩, ⟨14, .phase⟩, ⟨15, .phase⟩, ⟨16, .phase⟩, ⟨17, .phase⟩, ⟨18, .phase⟩, ⟨19, .phase⟩, ⟨20, .phase⟩, ⟨21, .phase⟩, ⟨22, .phase⟩, ⟨23, .phase⟩, ⟨24, .phase⟩, ⟨25, .phase⟩], none⟩) (v := ?v26q79) rfl ?y26q79 hS0 ?r26q79
                case y26q79 => (rintro w2 s1; go_simp; try with_reducible rfl)
                try simp only [Act.put, pB, pC, pD]
                refine wpAnyH_done (by kernel_rfl) ?_ _
                go_wp2_with fail
                go_roundw
                case rel => exact ⟨false, k + 1, rfl, by go_num, by omega, Lib.hid ⟨HL1.out.next ((Below.refl W1.heap.size W1).drew), HON.out⟩⟩
                case measure => simp [RowKit.intOf]; omega
          | false =>
            cases sb with
            | false =>
              have HV1 : Hid (ledP fo V it S k = false) := Lib.hid (by rw [HT.out k, HL.out.2, HSB.out, HLB.out]; rfl)
              have HON : Hid (onRun fo V it S (k + 1) = false) := Lib.hid (by rw [on_in HVK.out, HL.out.2, HSB.out, HMN.out, HAT.out]; rfl)
              go_upto_region 14 with fail
              obtain ⟨W1, hW1⟩ : ∃ W, W = wr.setCell ⟨w.heap.size + 3, k, none⟩ (.bool false) := ⟨_, rfl⟩
              rw [← hW1]
              have hl1 : LdW w W1 [.string (bstr lp), .bool fo, .slice aI mI cI] [.slice (some ⟨g1, 0, none⟩) n c1, .slice (some ⟨g2, 0, none⟩) (n + 1) c2] [.int .i64 wh, .bool ng, .slice a m c, .int .i64 ls, .bool mn, .bool mb] (boolsV n (partB (ledP fo V it S) (k + 1))) := by
                have := HL.out.1.put k (.bool (ledP fo V it S k))
                rw [part_set hlt, HV1.out, ← hW1] at this
                exact this
              have HL1 := Lib.hid hl1
              have HBW : Hid (∀ W, Below W1.heap.size W1 W → Below w.heap.size w W) := Lib.hid (fun W hb => HL1.out.below.trans (hb.mono HL1.out.below.size))
              have HSf : Hid (∀ W, Below W1.heap.size W1 W → W.cell? (ad.add k) = some (.bool false)) := Lib.hid (fun W hb => HFC.out W (HBW.out W hb))
              clear hl1 hW1 x0 y3 z0 zf f0
              refine wp_region_held_drew (S := (fun W => Below W1.heap.size W1 W)) (by kernel_rfl) ((Below.refl W1.heap.size W1).drew) (fun hS0 => ?_)
              refine tkA (i := 0) (oi := ⟨some 68, .move (.tmp 13), 3, "ref.go:331", #[], none⟩) (v := ?v0q80) rfl ?y0q80 hS0 ?r0q80
              case y0q80 => (rintro w2 s1; go_simp; try with_reducible rfl)
              try simp only [Act.put, pB, pC, pD]
              refine tkA (i := 1) (oi := ⟨some 69, .move (.tmp 9), 3, "ref.go:331", #[], none⟩) (v := ?v1q81) rfl ?y1q81 hS0 ?r1q81
              case y1q81 => (rintro w2 s1; go_simp; try with_reducible rfl)
              try simp only [Act.put, pB, pC, pD]
              refine tkA (i := 2) (oi := ⟨some 70, .binOp BinOp.lss 3 (.tmp 68) (.tmp 69) 3, 4, "ref.go:331", #[⟨0, .data⟩, ⟨1, .data⟩], none⟩) (v := ?v2q82) rfl ?y2q82 hS0 ?r2q82
              case y2q82 => (rintro w2 s1; go_simp; try with_reducible rfl)
              try simp only [Act.put, pB, pC, pD]
              refine tkA (i := 3) (oi := ⟨some 71, .move (.tmp 70), 4, "ref.go:331", #[⟨2, .data⟩], none⟩) (v := ?v3q83) rfl ?y3q83 hS0 ?r3q83
              case y3q83 => (rintro w2 s1; go_simp; try with_reducible rfl)
              try simp only [Act.put, pB, pC, pD]
              refine tkA (i := 4) (oi := ⟨some 72, .move (.tmp 3), 120, "ref.go:331", #[⟨3, .guard⟩], some (3, true)⟩) (v := ?v4q84) rfl ?y4q84 hS0 ?r4q84
              case y4q84 => (rintro w2 s1; go_simp; try with_reducible rfl)
              try simp only [Act.put, pB, pC, pD]
              refine tkA (i := 5) (oi := ⟨some 73, .move (.tmp 13), 3, "ref.go:331", #[⟨3, .guard⟩], some (3, true)⟩) (v := ?v5q85) rfl ?y5q85 hS0 ?r5q85
              case y5q85 => (rintro w2 s1; go_simp; try with_reducible rfl)
              try simp only [Act.put, pB, pC, pD]
              refine tkA (i := 6) (oi := ⟨some 74, .indexAddr 120 (.tmp 72) (.tmp 73), 0, "ref.go:331", #[⟨4, .data⟩, ⟨5, .data⟩, ⟨3, .guard⟩], some (3, true)⟩) (v := ?v6q86) rfl ?y6q86 hS0 ?r6q86
              case y6q86 => (rintro w2 s1; have e0 : (k : Int) < (n : Int) + 1 := (by omega); go_simp; try with_reducible rfl)
              try simp only [Act.put, pB, pC, pD]
              refine tkA (i := 7) (oi := ⟨some 75, .load 4 (.tmp 74), 4, "ref.go:331", #[⟨6, .data⟩, ⟨3, .guard⟩], some (3, true)⟩) (v := ?v7q87) rfl ?y7q87 hS0 ?r7q87
              case y7q87 => (rintro w2 s1; have e0 := HSf.out w2 s1; go_simp; try with_reducible rfl)
              try simp only [Act.put, pB, pC, pD]
              refine tkA (i := 8) (oi := ⟨some 76, .move (.tmp 75), 4, "ref.go:331", #[⟨7, .data⟩, ⟨3, .chain⟩, ⟨3, .guard⟩], some (3, true)⟩) (v := ?v8q88) rfl ?y8q88 hS0 ?r8q88
              case y8q88 => (rintro w2 s1; go_simp; try with_reducible rfl)
              try simp only [Act.put, pB, pC, pD]
              refine tkA (i := 9) (oi := ⟨some 77, .move (.tmp 12), 4, "ref.go:331", #[⟨8, .guard⟩], some (8, false)⟩) (v := ?v9q89) rfl ?y9q89 hS0 ?r9q89
              case y9q89 => (rintro w2 s1; go_simp; try with_reducible rfl)
              try simp only [Act.put, pB, pC, pD]
              refine tkA (i := 10) (oi := ⟨some 78, .move (.tmp 77), 4, "ref.go:331", #[⟨9, .data⟩, ⟨8, .chain⟩, ⟨8, .guard⟩], some (8, false)⟩) (v := ?v10q90) rfl ?y10q90 hS0 ?r10q90
              case y10q90 => (rintro w2 s1; go_simp; try with_reducible rfl)
              try simp only [Act.put, pB, pC, pD]
              refine tkB (i := 11) (oi := ⟨some 79, .fieldAddr 90 (.tmp 6) 4, 0, "ref.go:331", #[⟨10, .guard⟩], some (10, true)⟩) rfl hS0 ?r11q91
              try simp only [Act.put, pB, pC, pD]
              refine tkB (i := 12) (oi := ⟨some 80, .load 4 (.tmp 79), 4, "ref.go:331", #[⟨11, .data⟩, ⟨10, .guard⟩], some (10, true)⟩) rfl hS0 ?r12q92
              try simp only [Act.put, pB, pC, pD]
              refine tkA (i := 13) (oi := ⟨some 81, .pick (.tmp 78) (.tmp 80) (Operand.const (Value.bool false)), 4, "ref.go:331", #[⟨10, .data⟩, ⟨12, .data⟩, ⟨8, .guard⟩], some (8, false)⟩) (v := ?v13q93) rfl ?y13q93 hS0 ?r13q93
              case y13q93 => (rintro w2 s1; go_simp; try with_reducible rfl)
              try simp only [Act.put, pB, pC, pD]
              refine tkA (i := 14) (oi := ⟨some 82, .pick (.tmp 76) (Operand.const (Value.bool true)) (.tmp 81), 4, "ref.go:331", #[⟨8, .data⟩, ⟨13, .data⟩, ⟨3, .guard⟩], some (3, true)⟩) (v := ?v14q94) rfl ?y14q94 hS0 ?r14q94
              case y14q94 => (rintro w2 s1; go_simp; try with_reducible rfl)
              try simp only [Act.put, pB, pC, pD]
              refine tkA (i := 15) (oi := ⟨some 83, .pick (.tmp 71) (.tmp 82) (Operand.const (Value.bool false)), 4, "ref.go:331", #[⟨3, .data⟩, ⟨14, .data⟩], none⟩) (v := ?v15q95) rfl ?y15q95 hS0 ?r15q95
              case y15q95 => (rintro w2 s1; go_simp; try with_reducible rfl)
              try simp only [Act.put, pB, pC, pD]
              refine tkA (i := 16) (oi := ⟨some 84, .move (.tmp 83), 4, "ref.go:331", #[⟨15, .data⟩, ⟨10, .chain⟩], none⟩) (v := ?v16q96) rfl ?y16q96 hS0 ?r16q96
              case y16q96 => (rintro w2 s1; go_simp; try with_reducible rfl)
              try simp only [Act.put, pB, pC, pD]
              refine tkB (i := 17) (oi := ⟨some 85, .load 31 (.tmp 4), 31, "ref.go:331", #[⟨16, .guard⟩], some (16, true)⟩) rfl hS0 ?r17q97
              try simp only [Act.put, pB, pC, pD]
              refine tkB (i := 18) (oi := ⟨some 86, .load 90 (.tmp 6), 90, "ref.go:331", #[⟨16, .guard⟩], some (16, true)⟩) rfl hS0 ?r18q98
              try simp only [Act.put, pB, pC, pD]
              refine tkB (i := 19) (oi := ⟨some 87, .fieldAddr 99 (.tmp 5) 0, 0, "ref.go:331", #[⟨16, .guard⟩], some (16, true)⟩) rfl hS0 ?r19q99
              try simp only [Act.put, pB, pC, pD]
              refine tkB (i := 20) (oi := ⟨some 88, .load 72 (.tmp 87), 72, "ref.go:331", #[⟨19, .data⟩, ⟨16, .guard⟩], some (16, true)⟩) rfl hS0 ?r20q100
              try simp only [Act.put, pB, pC, pD]
              refine tkB (i := 21) (oi := ⟨some 89, .move (.tmp 13), 3, "ref.go:331", #[⟨16, .guard⟩], some (16, true)⟩) rfl hS0 ?r21q101
              try simp only [Act.put, pB, pC, pD]
              refine tkB (i := 22) (oi := ⟨some 90, .indexAddr 72 (.tmp 88) (.tmp 89), 0, "ref.go:331", #[⟨20, .data⟩, ⟨21, .data⟩, ⟨16, .guard⟩], some (16, true)⟩) rfl hS0 ?r22q102
              try simp only [Act.put, pB, pC, pD]
              refine tkB (i := 23) (oi := ⟨some 91, .load 3 (.tmp 90), 3, "ref.go:331", #[⟨22, .data⟩, ⟨16, .guard⟩], some (16, true)⟩) rfl hS0 ?r23q103
              try simp only [Act.put, pB, pC, pD]
              refine tkB (i := 24) (oi := ⟨some 92, .call { callee := Callee.value (Operand.func 91), args := #[.tmp 85, .tmp 86, .tmp 91], argTypes := #[31, 90, 3] }, 4, "ref.go:331", #[⟨17, .data⟩, ⟨18, .data⟩, ⟨23, .data⟩, ⟨16, .chain⟩, ⟨16, .guard⟩], some (16, true)⟩) rfl hS0 ?r24q104
              try simp only [Act.put, pB, pC, pD]
              refine tkA (i := 25) (oi := ⟨some 93, .pick (.tmp 84) (.tmp 92) (Operand.const (Value.bool false)), 4, "ref.go:331", #[⟨16, .data⟩, ⟨24, .data⟩], none⟩) (v := ?v25q105) rfl ?y25q105 hS0 ?r25q105
              case y25q105 => (rintro w2 s1; go_simp; try with_reducible rfl)
              try simp only [Act.put, pB, pC, pD]
              refine tkA (i := 26) (oi := ⟨some 12, .assign (.tmp 93), 4, "ref.go:331", #[⟨25, .data⟩, ⟨24, .chain⟩, ⟨0, .phase⟩, ⟨1, .phase⟩, ⟨2, .phase⟩, ⟨3, .phase⟩, ⟨4, .phase⟩, ⟨5, .phase⟩, ⟨6, .phase⟩, ⟨7, .phase⟩, ⟨8, .phase⟩, ⟨9, .phase⟩, ⟨10, .phase⟩, ⟨11, .phase⟩, ⟨12, .phase⟩, ⟨13, .phase⟩, ⟨14, .phase⟩, ⟨15, .phase⟩, ⟨16, .phase⟩, ⟨17, .phase⟩, ⟨18, .phase⟩, ⟨19, .phase⟩, ⟨20, .phase⟩, ⟨21, .phase⟩, ⟨22, .phase⟩, ⟨23, .phase⟩, ⟨24, .phase⟩, ⟨25, .phase⟩], none⟩) (v := ?v26q106) rfl ?y26q106 hS0 ?r26q106
              case y26q106 => (rintro w2 s1; go_simp; try with_reducible rfl)
              try simp only [Act.put, pB, pC, pD]
              refine wpAnyH_done (by kernel_rfl) ?_ _
              go_wp2_with fail
              go_roundw
              case rel => exact ⟨false, k + 1, rfl, by go_num, by omega, Lib.hid ⟨HL1.out.next ((Below.refl W1.heap.size W1).drew), HON.out⟩⟩
              case measure => simp [RowKit.intOf]; omega
            | true =>
              cases lb with
              | true =>
                have HV1 : Hid (ledP fo V it S k = true) := Lib.hid (by rw [HT.out k, HL.out.2, HSB.out, HLB.out]; rfl)
                have HON : Hid (onRun fo V it S (k + 1) = bq) := Lib.hid (by rw [on_in HVK.out, HL.out.2, HSB.out, HMN.out, HAT.out]; simp)
                go_upto_region 14 with fail
                obtain ⟨W1, hW1⟩ : ∃ W, W = wr.setCell ⟨w.heap.size + 3, k, none⟩ (.bool true) := ⟨_, rfl⟩
                rw [← hW1]
                have hl1 : LdW w W1 [.string (bstr lp), .bool fo, .slice aI mI cI] [.slice (some ⟨g1, 0, none⟩) n c1, .slice (some ⟨g2, 0, none⟩) (n + 1) c2] [.int .i64 wh, .bool ng, .slice a m c, .int .i64 ls, .bool mn, .bool mb] (boolsV n (partB (ledP fo V it S) (k + 1))) := by
                  have := HL.out.1.put k (.bool (ledP fo V it S k))
                  rw [part_set hlt, HV1.out, ← hW1] at this
                  exact this
                have HL1 := Lib.hid hl1
                have HBW : Hid (∀ W, Below W1.heap.size W1 W → Below w.heap.size w W) := Lib.hid (fun W hb => HL1.out.below.trans (hb.mono HL1.out.below.size))
                have HSf : Hid (∀ W, Below W1.heap.size W1 W → W.cell? (ad.add k) = some (.bool true)) := Lib.hid (fun W hb => HFC.out W (HBW.out W hb))
                have HSv : Hid (∀ W, Below W1.heap.size W1 W → W.cell? ⟨g1, k, none⟩ = some (.int .i64 z)) := Lib.hid (fun W hb => HVC.out W (HBW.out W hb))
                have HSt : Hid (∀ W, Below W1.heap.size W1 W → W.cell? ⟨w.heap.size + 1, 0, none⟩ = some (.slice (some ⟨g1, 0, none⟩) n c1)) := Lib.hid (fun W hb => (HL1.out.next hb).txt.cell 0)
                have HSp : Hid (∀ W, Below W1.heap.size W1 W → W.cell? ⟨w.heap.size, 0, none⟩ = some (.string (bstr lp)) ∧ W.cell? ⟨w.heap.size, 1, none⟩ = some (.bool fo) ∧ W.cell? ⟨w.heap.size, 2, none⟩ = some (.slice aI mI cI)) := Lib.hid (fun W hb => ⟨(HL1.out.next hb).pat.cell 0, (HL1.out.next hb).pat.cell 1, (HL1.out.next hb).pat.cell 2⟩)
                have HSi : Hid (∀ W, Below W1.heap.size W1 W → W.cell? ⟨w.heap.size + 2, 0, none⟩ = some (.int .i64 wh) ∧ W.cell? ⟨w.heap.size + 2, 1, none⟩ = some (.bool ng) ∧ W.cell? ⟨w.heap.size + 2, 2, none⟩ = some (.slice a m c) ∧ W.cell? ⟨w.heap.size + 2, 3, none⟩ = some (.int .i64 ls) ∧ W.cell? ⟨w.heap.size + 2, 4, none⟩ = some (.bool mn) ∧ W.cell? ⟨w.heap.size + 2, 5, none⟩ = some (.bool mb)) := Lib.hid (fun W hb => ⟨(HL1.out.next hb).itm.cell 0, (HL1.out.next hb).itm.cell 1, (HL1.out.next hb).itm.cell 2, (HL1.out.next hb).itm.cell 3, (HL1.out.next hb).itm.cell 4, (HL1.out.next hb).itm.cell 5⟩)
                have HIC : Hid (∀ W, Below W1.heap.size W1 W → Calls Tryd.prog 91 #[.agg #[.string (bstr lp), .bool fo, .slice aI mI cI], .agg #[.int .i64 wh, .bool ng, .slice a m c, .int .i64 ls, .bool mn, .bool mb], .int .i64 z] W fun e w' => e = .returned (.bool bq) ∧ Below W.heap.size W w') := Lib.hid (fun W hb => HIS.out W (HBW.out W hb))
                clear hl1 hW1 x0 y3 z0 zf f0
                refine wp_region_held_drew (S := (fun W => Below W1.heap.size W1 W)) (by kernel_rfl) ((Below.refl W1.heap.size W1).drew) (fun hS0 => ?_)
                refine tkA (i := 0) (oi := ⟨some 68, .move (.tmp 13), 3, "ref.go:331", #[], none⟩) (v := ?v0q107) rfl ?y0q107 hS0 ?r0q107
                case y0q107 => (rintro w2 s1; go_simp; try with_reducible rfl)
                try simp only [Act.put, pB, pC, pD]
                refine tkA (i := 1) (oi := ⟨some 69, .move (.tmp 9), 3, "ref.go:331", #[], none⟩) (v := ?v1q108) rfl ?y1q108 hS0 ?r1q108
                case y1q108 => (rintro w2 s1; go_simp; try with_reducible rfl)
                try simp only [Act.put, pB, pC, pD]
                refine tkA (i := 2) (oi := ⟨some 70, .binOp BinOp.lss 3 (.tmp 68) (.tmp 69) 3, 4, "ref.go:331", #[⟨0, .data⟩, ⟨1, .data⟩], none⟩) (v := ?v2q109) rfl ?y2q109 hS0 ?r2q109
                case y2q109 => (rintro w2 s1; go_simp; try with_reducible rfl)
                try simp only [Act.put, pB, pC, pD]
                refine tkA (i := 3) (oi := ⟨some 71, .move (.tmp 70), 4, "ref.go:331", #[⟨2, .data⟩], none⟩) (v := ?v3q110) rfl ?y3q110 hS0 ?r3q110
                case y3q110 => (rintro w2 s1; go_simp; try with_reducible rfl)
                try simp only [Act.put, pB, pC, pD]
                refine tkA (i := 4) (oi := ⟨some 72, .move (.tmp 3), 120, "ref.go:331", #[⟨3, .guard⟩], some (3, true)⟩) (v := ?v4q111) rfl ?y4q111 hS0 ?r4q111
                case y4q111 => (rintro w2 s1; go_simp; try with_reducible rfl)
                try simp only [Act.put, pB, pC, pD]
                refine tkA (i := 5) (oi := ⟨some 73, .move (.tmp 13), 3, "ref.go:331", #[⟨3, .guard⟩], some (3, true)⟩) (v := ?v5q112) rfl ?y5q112 hS0 ?r5q112
                case y5q112 => (rintro w2 s1; go_simp; try with_reducible rfl)
                try simp only [Act.put, pB, pC, pD]
                refine tkA (i := 6) (oi := ⟨some 74, .indexAddr 120 (.tmp 72) (.tmp 73), 0, "ref.go:331", #[⟨4, .data⟩, ⟨5, .data⟩, ⟨3, .guard⟩], some (3, true)⟩) (v := ?v6q113) rfl ?y6q113 hS0 ?r6q113
                case y6q113 => (rintro w2 s1; have e0 : (k : Int) < (n : Int) + 1 := (by omega); go_simp; try with_reducible rfl)
                try simp only [Act.put, pB, pC, pD]
                refine tkA (i := 7) (oi := ⟨some 75, .load 4 (.tmp 74), 4, "ref.go:331", #[⟨6, .data⟩, ⟨3, .guard⟩], some (3, true)⟩) (v := ?v7q114) rfl ?y7q114 hS0 ?r7q114
                case y7q114 => (rintro w2 s1; have e0 := HSf.out w2 s1; go_simp; try with_reducible rfl)
                try simp only [Act.put, pB, pC, pD]
                refine tkA (i := 8) (oi := ⟨some 76, .move (.tmp 75), 4, "ref.go:331", #[⟨7, .data⟩, ⟨3, .chain⟩, ⟨3, .guard⟩], some (3, true)⟩) (v := ?v8q115) rfl ?y8q115 hS0 ?r8q115
                case y8q115 => (rintro w2 s1; go_simp; try with_reducible rfl)
                try simp only [Act.put, pB, pC, pD]
                refine tkB (i := 9) (oi := ⟨some 77, .move (.tmp 12), 4, "ref.go:331", #[⟨8, .guard⟩], some (8, false)⟩) rfl hS0 ?r9q116
                try simp only [Act.put, pB, pC, pD]
                refine tkB (i := 10) (oi := ⟨some 78, .move (.tmp 77), 4, "ref.go:331", #[⟨9, .data⟩, ⟨8, .chain⟩, ⟨8, .guard⟩], some (8, false)⟩) rfl hS0 ?r10q117
                try simp only [Act.put, pB, pC, pD]
                refine tkB (i := 11) (oi := ⟨some 79, .fieldAddr 90 (.tmp 6) 4, 0, "ref.go:331", #[⟨10, .guard⟩], some (10, true)⟩) rfl hS0 ?r11q118
                try simp only [Act.put, pB, pC, pD]
                refine tkB (i := 12) (oi := ⟨some 80, .load 4 (.tmp 79), 4, "ref.go:331", #[⟨11, .data⟩, ⟨10, .guard⟩], some (10, true)⟩) rfl hS0 ?r12q119
                try simp only [Act.put, pB, pC, pD]
                refine tkB (i := 13) (oi := ⟨some 81, .pick (.tmp 78) (.tmp 80) (Operand.const (Value.bool false)), 4, "ref.go:331", #[⟨10, .data⟩, ⟨12, .data⟩, ⟨8, .guard⟩], some (8, false)⟩) rfl hS0 ?r13q120
                try simp only [Act.put, pB, pC, pD]
                refine tkA (i := 14) (oi := ⟨some 82, .pick (.tmp 76) (Operand.const (Value.bool true)) (.tmp 81), 4, "ref.go:331", #[⟨8, .data⟩, ⟨13, .data⟩, ⟨3, .guard⟩], some (3, true)⟩) (v := ?v14q121) rfl ?y14q121 hS0 ?r14q121
                case y14q121 => (rintro w2 s1; go_simp; try with_reducible rfl)
                try simp only [Act.put, pB, pC, pD]
                refine tkA (i := 15) (oi := ⟨some 83, .pick (.tmp 71) (.tmp 82) (Operand.const (Value.bool false)), 4, "ref.go:331", #[⟨3, .data⟩, ⟨14, .data⟩], none⟩) (v := ?v15q122) rfl ?y15q122 hS0 ?r15q122
                case y15q122 => (rintro w2 s1; go_simp; try with_reducible rfl)
                try simp only [Act.put, pB, pC, pD]
                refine tkA (i := 16) (oi := ⟨some 84, .move (.tmp 83), 4, "ref.go:331", #[⟨15, .data⟩, ⟨10, .chain⟩], none⟩) (v := ?v16q123) rfl ?y16q123 hS0 ?r16q123
                case y16q123 => (rintro w2 s1; go_simp; try with_reducible rfl)
                try simp only [Act.put, pB, pC, pD]
                refine tkA (i := 17) (oi := ⟨some 85, .load 31 (.tmp 4), 31, "ref.go:331", #[⟨16, .guard⟩], some (16, true)⟩) (v := ?v17q124) rfl ?y17q124 hS0 ?r17q124
                case y17q124 => (rintro w2 s1; obtain ⟨e0, e1, e2⟩ := HSp.out w2 s1; go_simp; try with_reducible rfl)
                try simp only [Act.put, pB, pC, pD]
                refine tkA (i := 18) (oi := ⟨some 86, .load 90 (.tmp 6), 90, "ref.go:331", #[⟨16, .guard⟩], some (16, true)⟩) (v := ?v18q125) rfl ?y18q125 hS0 ?r18q125
                case y18q125 => (rintro w2 s1; obtain ⟨e0, e1, e2, e3, e4, e5⟩ := HSi.out w2 s1; go_simp; try with_reducible rfl)
                try simp only [Act.put, pB, pC, pD]
                refine tkA (i := 19) (oi := ⟨some 87, .fieldAddr 99 (.tmp 5) 0, 0, "ref.go:331", #[⟨16, .guard⟩], some (16, true)⟩) (v := ?v19q126) rfl ?y19q126 hS0 ?r19q126
                case y19q126 => (rintro w2 s1; go_simp; try with_reducible rfl)
                try simp only [Act.put, pB, pC, pD]
                refine tkA (i := 20) (oi := ⟨some 88, .load 72 (.tmp 87), 72, "ref.go:331", #[⟨19, .data⟩, ⟨16, .guard⟩], some (16, true)⟩) (v := ?v20q127) rfl ?y20q127 hS0 ?r20q127
                case y20q127 => (rintro w2 s1; have e0 := HSt.out w2 s1; go_simp; try with_reducible rfl)
                try simp only [Act.put, pB, pC, pD]
                refine tkA (i := 21) (oi := ⟨some 89, .move (.tmp 13), 3, "ref.go:331", #[⟨16, .guard⟩], some (16, true)⟩) (v := ?v21q128) rfl ?y21q128 hS0 ?r21q128
                case y21q128 => (rintro w2 s1; go_simp; try with_reducible rfl)
                try simp only [Act.put, pB, pC, pD]
                refine tkA (i := 22) (oi := ⟨some 90, .indexAddr 72 (.tmp 88) (.tmp 89), 0, "ref.go:331", #[⟨20, .data⟩, ⟨21, .data⟩, ⟨16, .guard⟩], some (16, true)⟩) (v := ?v22q129) rfl ?y22q129 hS0 ?r22q129
                case y22q129 => (rintro w2 s1; go_simp; try with_reducible rfl)
                try simp only [Act.put, pB, pC, pD]
                refine tkA (i := 23) (oi := ⟨some 91, .load 3 (.tmp 90), 3, "ref.go:331", #[⟨22, .data⟩, ⟨16, .guard⟩], some (16, true)⟩) (v := ?v23q130) rfl ?y23q130 hS0 ?r23q130
                case y23q130 => (rintro w2 s1; have e0 := HSv.out w2 s1; go_simp; try with_reducible rfl)
                try simp only [Act.put, pB, pC, pD]
                refine wpAnyH_ready (rs := [24]) (by kernel_rfl) (by simp) (AllReadyH.cons (o := ⟨some 92, .call { callee := Callee.value (Operand.func 91), args := #[.tmp 85, .tmp 86, .tmp 91], argTypes := #[31, 90, 3] }, 4, "ref.go:331", #[⟨17, .data⟩, ⟨18, .data⟩, ⟨23, .data⟩, ⟨16, .chain⟩, ⟨16, .guard⟩], some (16, true)⟩) rfl (fun K' hK => ?_) AllReadyH.nil)
                go_simp
                with_reducible refine (HIC.out _ ((Below.refl W1.heap.size W1).drew)).mono ?_
                rintro e wa ⟨rfl, hbwa⟩
                have Bwa := Lib.hid (((Below.refl W1.heap.size W1).drew).trans (hbwa.mono ((Below.refl W1.heap.size W1).drew).size))
                clear hbwa
                show K' _ _
                refine hK.out _ _ Bwa.out (fun hSn => ?_)
                try simp only [Act.put, pB, pC, pD]
                clear hK K'
                refine tkA (i := 25) (oi := ⟨some 93, .pick (.tmp 84) (.tmp 92) (Operand.const (Value.bool false)), 4, "ref.go:331", #[⟨16, .data⟩, ⟨24, .data⟩], none⟩) (v := ?v25q131) rfl ?y25q131 Bwa.out ?r25q131
                case y25q131 => (rintro w2 s1; go_simp; try with_reducible rfl)
                try simp only [Act.put, pB, pC, pD]
                refine tkA (i := 26) (oi := ⟨some 12, .assign (.tmp 93), 4, "ref.go:331", #[⟨25, .data⟩, ⟨24, .chain⟩, ⟨0, .phase⟩, ⟨1, .phase⟩, ⟨2, .phase⟩, ⟨3, .phase⟩, ⟨4, .phase⟩, ⟨5, .phase⟩, ⟨6, .phase⟩, ⟨7, .phase⟩, ⟨8, .phase⟩, ⟨9, .phase⟩, ⟨10, .phase⟩, ⟨11, .phase⟩, ⟨12, .phase⟩, ⟨13, .phase⟩, ⟨14, .phase⟩, ⟨15, .phase⟩, ⟨16, .phase⟩, ⟨17, .phase⟩, ⟨18, .phase⟩, ⟨19, .phase⟩, ⟨20, .phase⟩, ⟨21, .phase⟩, ⟨22, .phase⟩, ⟨23, .phase⟩, ⟨24, .phase⟩, ⟨25, .phase⟩], none⟩) (v := ?v26q132) rfl ?y26q132 Bwa.out ?r26q132
                case y26q132 => (rintro w2 s1; go_simp; try with_reducible rfl)
                try simp only [Act.put, pB, pC, pD]
                refine wpAnyH_done (by kernel_rfl) ?_ _
                go_wp2_with fail
                go_roundw
                case rel => exact ⟨bq, k + 1, rfl, by go_num, by omega, Lib.hid ⟨HL1.out.next Bwa.out, HON.out⟩⟩
                case measure => simp [RowKit.intOf]; omega
              | false =>
                have HV1 : Hid (ledP fo V it S k = false) := Lib.hid (by rw [HT.out k, HL.out.2, HSB.out, HLB.out]; rfl)
                have HON : Hid (onRun fo V it S (k + 1) = bq) := Lib.hid (by rw [on_in HVK.out, HL.out.2, HSB.out, HMN.out, HAT.out]; simp)
                go_upto_region 14 with fail
                obtain ⟨W1, hW1⟩ : ∃ W, W = wr.setCell ⟨w.heap.size + 3, k, none⟩ (.bool false) := ⟨_, rfl⟩
                rw [← hW1]
                have hl1 : LdW w W1 [.string (bstr lp), .bool fo, .slice aI mI cI] [.slice (some ⟨g1, 0, none⟩) n c1, .slice (some ⟨g2, 0, none⟩) (n + 1) c2] [.int .i64 wh, .bool ng, .slice a m c, .int .i64 ls, .bool mn, .bool mb] (boolsV n (partB (ledP fo V it S) (k + 1))) := by
                  have := HL.out.1.put k (.bool (ledP fo V it S k))
                  rw [part_set hlt, HV1.out, ← hW1] at this
                  exact this
                have HL1 := Lib.hid hl1
                have HBW : Hid (∀ W, Below W1.heap.size W1 W → Below w.heap.size w W) := Lib.hid (fun W hb => HL1.out.below.trans (hb.mono HL1.out.below.size))
                have HSf : Hid (∀ W, Below W1.heap.size W1 W → W.cell? (ad.add k) = some (.bool true)) := Lib.hid (fun W hb => HFC.out W (HBW.out W hb))
                have HSv : Hid (∀ W, Below W1.heap.size W1 W → W.cell? ⟨g1, k, none⟩ = some (.int .i64 z)) := Lib.hid (fun W hb => HVC.out W (HBW.out W hb))
                have HSt : Hid (∀ W, Below W1.heap.size W1 W → W.cell? ⟨w.heap.size + 1, 0, none⟩ = some (.slice (some ⟨g1, 0, none⟩) n c1)) := Lib.hid (fun W hb => (HL1.out.next hb).txt.cell 0)
                have HSp : Hid (∀ W, Below W1.heap.size W1 W → W.cell? ⟨w.heap.size, 0, none⟩ = some (.string (bstr lp)) ∧ W.cell? ⟨w.heap.size, 1, none⟩ = some (.bool fo) ∧ W.cell? ⟨w.heap.size, 2, none⟩ = some (.slice aI mI cI)) := Lib.hid (fun W hb => ⟨(HL1.out.next hb).pat.cell 0, (HL1.out.next hb).pat.cell 1, (HL1.out.next hb).pat.cell 2⟩)
                have HSi : Hid (∀ W, Below W1.heap.size W1 W → W.cell? ⟨w.heap.size + 2, 0, none⟩ = some (.int .i64 wh) ∧ W.cell? ⟨w.heap.size + 2, 1, none⟩ = some (.bool ng) ∧ W.cell? ⟨w.heap.size + 2, 2, none⟩ = some (.slice a m c) ∧ W.cell? ⟨w.heap.size + 2, 3, none⟩ = some (.int .i64 ls) ∧ W.cell? ⟨w.heap.size + 2, 4, none⟩ = some (.bool mn) ∧ W.cell? ⟨w.heap.size + 2, 5, none⟩ = some (.bool mb)) := Lib.hid (fun W hb => ⟨(HL1.out.next hb).itm.cell 0, (HL1.out.next hb).itm.cell 1, (HL1.out.next hb).itm.cell 2, (HL1.out.next hb).itm.cell 3, (HL1.out.next hb).itm.cell 4, (HL1.out.next hb).itm.cell 5⟩)
                have HIC : Hid (∀ W, Below W1.heap.size W1 W → Calls Tryd.prog 91 #[.agg #[.string (bstr lp), .bool fo, .slice aI mI cI], .agg #[.int .i64 wh, .bool ng, .slice a m c, .int .i64 ls, .bool mn, .bool mb], .int .i64 z] W fun e w' => e = .returned (.bool bq) ∧ Below W.heap.size W w') := Lib.hid (fun W hb => HIS.out W (HBW.out W hb))
                clear hl1 hW1 x0 y3 z0 zf f0
                refine wp_region_held_drew (S := (fun W => Below W1.heap.size W1 W)) (by kernel_rfl) ((Below.refl W1.heap.size W1).drew) (fun hS0 => ?_)
                refine tkA (i := 0) (oi := ⟨some 68, .move (.tmp 13), 3, "ref.go:331", #[], none⟩) (v := ?v0q133) rfl ?y0q133 hS0 ?r0q133
                case y0q133 => (rintro w2 s1; go_simp; try with_reducible rfl)
                try simp only [Act.put, pB, pC, pD]
                refine tkA (i := 1) (oi := ⟨some 69, .move (.tmp 9), 3, "ref.go:331", #[], none⟩) (v := ?v1q134) rfl ?y1q134 hS0 ?r1q134
                case y1q134 => (rintro w2 s1; go_simp; try with_reducible rfl)
                try simp only [Act.put, pB, pC, pD]
                refine tkA (i := 2) (oi := ⟨some 70, .binOp BinOp.lss 3 (.tmp 68) (.tmp 69) 3, 4, "ref.go:331", #[⟨0, .data⟩, ⟨1, .data⟩], none⟩) (v := ?v2q135) rfl ?y2q135 hS0 ?r2q135
                case y2q135 => (rintro w2 s1; go_simp; try with_reducible rfl)
                try simp only [Act.put, pB, pC, pD]
                refine tkA (i := 3) (oi := ⟨some 71, .move (.tmp 70), 4, "ref.go:331", #[⟨2, .data⟩], none⟩) (v := ?v3q136) rfl ?y3q136 hS0 ?r3q136
                case y3q136 => (rintro w2 s1; go_simp; try with_reducible rfl)
                try simp only [Act.put, pB, pC, pD]
                refine tkA (i := 4) (oi := ⟨some 72, .move (.tmp 3), 120, "ref.go:331", #[⟨3, .guard⟩], some (3, true)⟩) (v := ?v4q137) rfl ?y4q137 hS0 ?r4q137
                case y4q137 => (rintro w2 s1; go_simp; try with_reducible rfl)
                try simp only [Act.put, pB, pC, pD]
                refine tkA (i := 5) (oi := ⟨some 73, .move (.tmp 13), 3, "ref.go:331", #[⟨3, .guard⟩], some (3, true)⟩) (v := ?v5q138) rfl ?y5q138 hS0 ?r5q138
                case y5q138 => (rintro w2 s1; go_simp; try with_reducible rfl)
                try simp only [Act.put, pB, pC, pD]
                refine tkA (i := 6) (oi := ⟨some 74, .indexAddr 120 (.tmp 72) (.tmp 73), 0, "ref.go:331", #[⟨4, .data⟩, ⟨5, .data⟩, ⟨3, .guard⟩], some (3, true)⟩) (v := ?v6q139) rfl ?y6q139 hS0 ?r6q139
                case y6q139 => (rintro w2 s1; have e0 : (k : Int) < (n : Int) + 1 := (by omega); go_simp; try with_reducible rfl)
                try simp only [Act.put, pB, pC, pD]
                refine tkA (i := 7) (oi := ⟨some 75, .load 4 (.tmp 74), 4, "ref.go:331", #[⟨6, .data⟩, ⟨3, .guard⟩], some (3, true)⟩) (v := ?v7q140) rfl ?y7q140 hS0 ?r7q140
                case y7q140 => (rintro w2 s1; have e0 := HSf.out w2 s1; go_simp; try with_reducible rfl)
                try simp only [Act.put, pB, pC, pD]
                refine tkA (i := 8) (oi := ⟨some 76, .move (.tmp 75), 4, "ref.go:331", #[⟨7, .data⟩, ⟨3, .chain⟩, ⟨3, .guard⟩], some (3, true)⟩) (v := ?v8q141) rfl ?y8q141 hS0 ?r8q141
                case y8q141 => (rintro w2 s1; go_simp; try with_reducible rfl)
                try simp only [Act.put, pB, pC, pD]
                refine tkB (i := 9) (oi := ⟨some 77, .move (.tmp 12), 4, "ref.go:331", #[⟨8, .guard⟩], some (8, false)⟩) rfl hS0 ?r9q142
                try simp only [Act.put, pB, pC, pD]
                refine tkB (i := 10) (oi := ⟨some 78, .move (.tmp 77), 4, "ref.go:331", #[⟨9, .data⟩, ⟨8, .chain⟩, ⟨8, .guard⟩], some (8, false)⟩) rfl hS0 ?r10q143
                try simp only [Act.put, pB, pC, pD]
                refine tkB (i := 11) (oi := ⟨some 79, .fieldAddr 90 (.tmp 6) 4, 0, "ref.go:331", #[⟨10, .guard⟩], some (10, true)⟩) rfl hS0 ?r11q144
                try simp only [Act.put, pB, pC, pD]
                refine tkB (i := 12) (oi := ⟨some 80, .load 4 (.tmp 79), 4, "ref.go:331", #[⟨11, .data⟩, ⟨10, .guard⟩], some (10, true)⟩) rfl hS0 ?r12q145
                try simp only [Act.put, pB, pC, pD]
                refine tkB (i := 13) (oi := ⟨some 81, .pick (.tmp 78) (.tmp 80) (Operand.const (Value.bool false)), 4, "ref.go:331", #[⟨10, .data⟩, ⟨12, .data⟩, ⟨8, .guard⟩], some (8, false)⟩) rfl hS0 ?r13q146
                try simp only [Act.put, pB, pC, pD]
                refine tkA (i := 14) (oi := ⟨some 82, .pick (.tmp 76) (Operand.const (Value.bool true)) (.tmp 81), 4, "ref.go:331", #[⟨8, .data⟩, ⟨13, .data⟩, ⟨3, .guard⟩], some (3, true)⟩) (v := ?v14q147) rfl ?y14q147 hS0 ?r14q147
                case y14q147 => (rintro w2 s1; go_simp; try with_reducible rfl)
                try simp only [Act.put, pB, pC, pD]
                refine tkA (i := 15) (oi := ⟨some 83, .pick (.tmp 71) (.tmp 82) (Operand.const (Value.bool false)), 4, "ref.go:331", #[⟨3, .data⟩, ⟨14, .data⟩], none⟩) (v := ?v15q148) rfl ?y15q148 hS0 ?r15q148
                case y15q148 => (rintro w2 s1; go_simp; try with_reducible rfl)
                try simp only [Act.put, pB, pC, pD]
                refine tkA (i := 16) (oi := ⟨some 84, .move (.tmp 83), 4, "ref.go:331", #[⟨15, .data⟩, ⟨10, .chain⟩], none⟩) (v := ?v16q149) rfl ?y16q149 hS0 ?r16q149
                case y16q149 => (rintro w2 s1; go_simp; try with_reducible rfl)
                try simp only [Act.put, pB, pC, pD]
                refine tkA (i := 17) (oi := ⟨some 85, .load 31 (.tmp 4), 31, "ref.go:331", #[⟨16, .guard⟩], some (16, true)⟩) (v := ?v17q150) rfl ?y17q150 hS0 ?r17q150
                case y17q150 => (rintro w2 s1; obtain ⟨e0, e1, e2⟩ := HSp.out w2 s1; go_simp; try with_reducible rfl)
                try simp only [Act.put, pB, pC, pD]
                refine tkA (i := 18) (oi := ⟨some 86, .load 90 (.tmp 6), 90, "ref.go:331", #[⟨16, .guard⟩], some (16, true)⟩) (v := ?v18q151) rfl ?y18q151 hS0 ?r18q151
                case y18q151 => (rintro w2 s1; obtain ⟨e0, e1, e2, e3, e4, e5⟩ := HSi.out w2 s1; go_simp; try with_reducible rfl)
                try simp only [Act.put, pB, pC, pD]
                refine tkA (i := 19) (oi := ⟨some 87, .fieldAddr 99 (.tmp 5) 0, 0, "ref.go:331", #[⟨16, .guard⟩], some (16, true)⟩) (v := ?v19q152) rfl ?y19q152 hS0 ?r19q152
                case y19q152 => (rintro w2 s1; go_simp; try with_reducible rfl)
                try simp only [Act.put, pB, pC, pD]
                refine tkA (i := 20) (oi := ⟨some 88, .load 72 (.tmp 87), 72, "ref.go:331", #[⟨19, .data⟩, ⟨16, .guard⟩], some (16, true)⟩) (v := ?v20q153) rfl ?y20q153 hS0 ?r20q153
                case y20q153 => (rintro w2 s1; have e0 := HSt.out w2 s1; go_simp; try with_reducible rfl)
                try simp only [Act.put, pB, pC, pD]
                refine tkA (i := 21) (oi := ⟨some 89, .move (.tmp 13), 3, "ref.go:331", #[⟨16, .guard⟩], some (16, true)⟩) (v := ?v21q154) rfl ?y21q154 hS0 ?r21q154
                case y21q154 => (rintro w2 s1; go_simp; try with_reducible rfl)
                try simp only [Act.put, pB, pC, pD]
                refine tkA (i := 22) (oi := ⟨some 90, .indexAddr 72 (.tmp 88) (.tmp 89), 0, "ref.go:331", #[⟨20, .data⟩, ⟨21, .data⟩, ⟨16, .guard⟩], some (16, true)⟩) (v := ?v22q155) rfl ?y22q155 hS0 ?r22q155
                case y22q155 => (rintro w2 s1; go_simp; try with_reducible rfl)
                try simp only [Act.put, pB, pC, pD]
                refine tkA (i := 23) (oi := ⟨some 91, .load 3 (.tmp 90), 3, "ref.go:331", #[⟨22, .data⟩, ⟨16, .guard⟩], some (16, true)⟩) (v := ?v23q156) rfl ?y23q156 hS0 ?r23q156
                case y23q156 => (rintro w2 s1; have e0 := HSv.out w2 s1; go_simp; try with_reducible rfl)
                try simp only [Act.put, pB, pC, pD]
                refine wpAnyH_ready (rs := [24]) (by kernel_rfl) (by simp) (AllReadyH.cons (o := ⟨some 92, .call { callee := Callee.value (Operand.func 91), args := #[.tmp 85, .tmp 86, .tmp 91], argTypes := #[31, 90, 3] }, 4, "ref.go:331", #[⟨17, .data⟩, ⟨18, .data⟩, ⟨23, .data⟩, ⟨16, .chain⟩, ⟨16, .guard⟩], some (16, true)⟩) rfl (fun K' hK => ?_) AllReadyH.nil)
                go_simp
                with_reducible refine (HIC.out _ ((Below.refl W1.heap.size W1).drew)).mono ?_
                rintro e wa ⟨rfl, hbwa⟩
                have Bwa := Lib.hid (((Below.refl W1.heap.size W1).drew).trans (hbwa.mono ((Below.refl W1.heap.size W1).drew).size))
                clear hbwa
                show K' _ _
                refine hK.out _ _ Bwa.out (fun hSn => ?_)
                try simp only [Act.put, pB, pC, pD]
                clear hK K'
                refine tkA (i := 25) (oi := ⟨some 93, .pick (.tmp 84) (.tmp 92) (Operand.const (Value.bool false)), 4, "ref.go:331", #[⟨16, .data⟩, ⟨24, .data⟩], none⟩) (v := ?v25q157) rfl ?y25q157 Bwa.out ?r25q157
                case y25q157 => (rintro w2 s1; go_simp; try with_reducible rfl)
                try simp only [Act.put, pB, pC, pD]
                refine tkA (i := 26) (oi := ⟨some 12, .assign (.tmp 93), 4, "ref.go:331", #[⟨25, .data⟩, ⟨24, .chain⟩, ⟨0, .phase⟩, ⟨1, .phase⟩, ⟨2, .phase⟩, ⟨3, .phase⟩, ⟨4, .phase⟩, ⟨5, .phase⟩, ⟨6, .phase⟩, ⟨7, .phase⟩, ⟨8, .phase⟩, ⟨9, .phase⟩, ⟨10, .phase⟩, ⟨11, .phase⟩, ⟨12, .phase⟩, ⟨13, .phase⟩, ⟨14, .phase⟩, ⟨15, .phase⟩, ⟨16, .phase⟩, ⟨17, .phase⟩, ⟨18, .phase⟩, ⟨19, .phase⟩, ⟨20, .phase⟩, ⟨21, .phase⟩, ⟨22, .phase⟩, ⟨23, .phase⟩, ⟨24, .phase⟩, ⟨25, .phase⟩], none⟩) (v := ?v26q158) rfl ?y26q158 Bwa.out ?r26q158
                case y26q158 => (rintro w2 s1; go_simp; try with_reducible rfl)
                try simp only [Act.put, pB, pC, pD]
                refine wpAnyH_done (by kernel_rfl) ?_ _
                go_wp2_with fail
                go_roundw
                case rel => exact ⟨bq, k + 1, rfl, by go_num, by omega, Lib.hid ⟨HL1.out.next Bwa.out, HON.out⟩⟩
                case measure => simp [RowKit.intOf]; omega
        · have hkn : ¬ (k : Int) < (n : Int) := by omega
          have HNK : Hid (n ≤ k) := Lib.hid (by omega)
          clear hin
          cases on with
          | true =>
            have HV1 : Hid (ledP fo V it S k = true) := Lib.hid (by rw [HT.out k, HL.out.2, HSB.out, HLB.out]; rfl)
            have HON : Hid (onRun fo V it S (k + 1) = false) := Lib.hid (by rw [on_out (by rw [HN.out]; exact HNK.out)])
            go_upto_region 14 with fail
            obtain ⟨W1, hW1⟩ : ∃ W, W = wr.setCell ⟨w.heap.size + 3, k, none⟩ (.bool true) := ⟨_, rfl⟩
            rw [← hW1]
            have hl1 : LdW w W1 [.string (bstr lp), .bool fo, .slice aI mI cI] [.slice (some ⟨g1, 0, none⟩) n c1, .slice (some ⟨g2, 0, none⟩) (n + 1) c2] [.int .i64 wh, .bool ng, .slice a m c, .int .i64 ls, .bool mn, .bool mb] (boolsV n (partB (ledP fo V it S) (k + 1))) := by
              have := HL.out.1.put k (.bool (ledP fo V it S k))
              rw [part_set hlt, HV1.out, ← hW1] at this
              exact this
            have HL1 := Lib.hid hl1
            have HBW : Hid (∀ W, Below W1.heap.size W1 W → Below w.heap.size w W) := Lib.hid (fun W hb => HL1.out.below.trans (hb.mono HL1.out.below.size))
            clear hl1 hW1 x0 y3 z0 zf f0
            refine wp_region_held_drew (S := (fun W => Below W1.heap.size W1 W)) (by kernel_rfl) ((Below.refl W1.heap.size W1).drew) (fun hS0 => ?_)
            refine tkA (i := 0) (oi := ⟨some 68, .move (.tmp 13), 3, "ref.go:331", #[], none⟩) (v := ?v0q159) rfl ?y0q159 hS0 ?r0q159
            case y0q159 => (rintro w2 s1; go_simp; try with_reducible rfl)
            try simp only [Act.put, pB, pC, pD]
            refine tkA (i := 1) (oi := ⟨some 69, .move (.tmp 9), 3, "ref.go:331", #[], none⟩) (v := ?v1q160) rfl ?y1q160 hS0 ?r1q160
            case y1q160 => (rintro w2 s1; go_simp; try with_reducible rfl)
            try simp only [Act.put, pB, pC, pD]
            refine tkA (i := 2) (oi := ⟨some 70, .binOp BinOp.lss 3 (.tmp 68) (.tmp 69) 3, 4, "ref.go:331", #[⟨0, .data⟩, ⟨1, .data⟩], none⟩) (v := ?v2q161) rfl ?y2q161 hS0 ?r2q161
            case y2q161 => (rintro w2 s1; go_simp; try with_reducible rfl)
            try simp only [Act.put, pB, pC, pD]
            refine tkA (i := 3) (oi := ⟨some 71, .move (.tmp 70), 4, "ref.go:331", #[⟨2, .data⟩], none⟩) (v := ?v3q162) rfl ?y3q162 hS0 ?r3q162
            case y3q162 => (rintro w2 s1; go_simp; try with_reducible rfl)
            try simp only [Act.put, pB, pC, pD]
            refine tkB (i := 4) (oi := ⟨some 72, .move (.tmp 3), 120, "ref.go:331", #[⟨3, .guard⟩], some (3, true)⟩) rfl hS0 ?r4q163
            try simp only [Act.put, pB, pC, pD]
            refine tkB (i := 5) (oi := ⟨some 73, .move (.tmp 13), 3, "ref.go:331", #[⟨3, .guard⟩], some (3, true)⟩) rfl hS0 ?r5q164
            try simp only [Act.put, pB, pC, pD]
            refine tkB (i := 6) (oi := ⟨some 74, .indexAddr 120 (.tmp 72) (.tmp 73), 0, "ref.go:331", #[⟨4, .data⟩, ⟨5, .data⟩, ⟨3, .guard⟩], some (3, true)⟩) rfl hS0 ?r6q165
            try simp only [Act.put, pB, pC, pD]
            refine tkB (i := 7) (oi := ⟨some 75, .load 4 (.tmp 74), 4, "ref.go:331", #[⟨6, .data⟩, ⟨3, .guard⟩], some (3, true)⟩) rfl hS0 ?r7q166
            try simp only [Act.put, pB, pC, pD]
            refine tkB (i := 8) (oi := ⟨some 76, .move (.tmp 75), 4, "ref.go:331", #[⟨7, .data⟩, ⟨3, .chain⟩, ⟨3, .guard⟩], some (3, true)⟩) rfl hS0 ?r8q167
            try simp only [Act.put, pB, pC, pD]
            refine tkB (i := 9) (oi := ⟨some 77, .move (.tmp 12), 4, "ref.go:331", #[⟨8, .guard⟩], some (8, false)⟩) rfl hS0 ?r9q168
            try simp only [Act.put, pB, pC, pD]
            refine tkB (i := 10) (oi := ⟨some 78, .move (.tmp 77), 4, "ref.go:331", #[⟨9, .data⟩, ⟨8, .chain⟩, ⟨8, .guard⟩], some (8, false)⟩) rfl hS0 ?r10q169
            try simp only [Act.put, pB, pC, pD]
            refine tkB (i := 11) (oi := ⟨some 79, .fieldAddr 90 (.tmp 6) 4, 0, "ref.go:331", #[⟨10, .guard⟩], some (10, true)⟩) rfl hS0 ?r11q170
            try simp only [Act.put, pB, pC, pD]
            refine tkB (i := 12) (oi := ⟨some 80, .load 4 (.tmp 79), 4, "ref.go:331", #[⟨11, .data⟩, ⟨10, .guard⟩], some (10, true)⟩) rfl hS0 ?r12q171
            try simp only [Act.put, pB, pC, pD]
            refine tkB (i := 13) (oi := ⟨some 81, .pick (.tmp 78) (.tmp 80) (Operand.const (Value.bool false)), 4, "ref.go:331", #[⟨10, .data⟩, ⟨12, .data⟩, ⟨8, .guard⟩], some (8, false)⟩) rfl hS0 ?r13q172
            try simp only [Act.put, pB, pC, pD]
            refine tkB (i := 14) (oi := ⟨some 82, .pick (.tmp 76) (Operand.const (Value.bool true)) (.tmp 81), 4, "ref.go:331", #[⟨8, .data⟩, ⟨13, .data⟩, ⟨3, .guard⟩], some (3, true)⟩) rfl hS0 ?r14q173
            try simp only [Act.put, pB, pC, pD]
            refine tkA (i := 15) (oi := ⟨some 83, .pick (.tmp 71) (.tmp 82) (Operand.const (Value.bool false)), 4, "ref.go:331", #[⟨3, .data⟩, ⟨14, .data⟩], none⟩) (v := ?v15q174) rfl ?y15q174 hS0 ?r15q174
            case y15q174 => (rintro w2 s1; go_simp; try with_reducible rfl)
            try simp only [Act.put, pB, pC, pD]
            refine tkA (i := 16) (oi := ⟨some 84, .move (.tmp 83), 4, "ref.go:331", #[⟨15, .data⟩, ⟨10, .chain⟩], none⟩) (v := ?v16q175) rfl ?y16q175 hS0 ?r16q175
            case y16q175 => (rintro w2 s1; go_simp; try with_reducible rfl)
            try simp only [Act.put, pB, pC, pD]
            refine tkB (i := 17) (oi := ⟨some 85, .load 31 (.tmp 4), 31, "ref.go:331", #[⟨16, .guard⟩], some (16, true)⟩) rfl hS0 ?r17q176
            try simp only [Act.put, pB, pC, pD]
            refine tkB (i := 18) (oi := ⟨some 86, .load 90 (.tmp 6), 90, "ref.go:331", #[⟨16, .guard⟩], some (16, true)⟩) rfl hS0 ?r18q177
            try simp only [Act.put, pB, pC, pD]
            refine tkB (i := 19) (oi := ⟨some 87, .fieldAddr 99 (.tmp 5) 0, 0, "ref.go:331", #[⟨16, .guard⟩], some (16, true)⟩) rfl hS0 ?r19q178
            try simp only [Act.put, pB, pC, pD]
            refine tkB (i := 20) (oi := ⟨some 88, .load 72 (.tmp 87), 72, "ref.go:331", #[⟨19, .data⟩, ⟨16, .guard⟩], some (16, true)⟩) rfl hS0 ?r20q179
            try simp only [Act.put, pB, pC, pD]
            refine tkB (i := 21) (oi := ⟨some 89, .move (.tmp 13), 3, "ref.go:331", #[⟨16, .guard⟩], some (16, true)⟩) rfl hS0 ?r21q180
            try simp only [Act.put, pB, pC, pD]
            refine tkB (i := 22) (oi := ⟨some 90, .indexAddr 72 (.tmp 88) (.tmp 89), 0, "ref.go:331", #[⟨20, .data⟩, ⟨21, .data⟩, ⟨16, .guard⟩], some (16, true)⟩) rfl hS0 ?r22q181
            try simp only [Act.put, pB, pC, pD]
            refine tkB (i := 23) (oi := ⟨some 91, .load 3 (.tmp 90), 3, "ref.go:331", #[⟨22, .data⟩, ⟨16, .guard⟩], some (16, true)⟩) rfl hS0 ?r23q182
            try simp only [Act.put, pB, pC, pD]
            refine tkB (i := 24) (oi := ⟨some 92, .call { callee := Callee.value (Operand.func 91), args := #[.tmp 85, .tmp 86, .tmp 91], argTypes := #[31, 90, 3] }, 4, "ref.go:331", #[⟨17, .data⟩, ⟨18, .data⟩, ⟨23, .data⟩, ⟨16, .chain⟩, ⟨16, .guard⟩], some (16, true)⟩) rfl hS0 ?r24q183
            try simp only [Act.put, pB, pC, pD]
            refine tkA (i := 25) (oi := ⟨some 93, .pick (.tmp 84) (.tmp 92) (Operand.const (Value.bool false)), 4, "ref.go:331", #[⟨16, .data⟩, ⟨24, .data⟩], none⟩) (v := ?v25q184) rfl ?y25q184 hS0 ?r25q184
            case y25q184 => (rintro w2 s1; go_simp; try with_reducible rfl)
            try simp only [Act.put, pB, pC, pD]
            refine tkA (i := 26) (oi := ⟨some 12, .assign (.tmp 93), 4, "ref.go:331", #[⟨25, .data⟩, ⟨24, .chain⟩, ⟨0, .phase⟩, ⟨1, .phase⟩, ⟨2, .phase⟩, ⟨3, .phase⟩, ⟨4, .phase⟩, ⟨5, .phase⟩, ⟨6, .phase⟩, ⟨7, .phase⟩, ⟨8, .phase⟩, ⟨9, .phase⟩, ⟨10, .phase⟩, ⟨11, .phase⟩, ⟨12, .phase⟩, ⟨13, .phase⟩, ⟨14, .phase⟩, ⟨15, .phase⟩, ⟨16, .phase⟩, ⟨17, .phase⟩, ⟨18, .phase⟩, ⟨19, .phase⟩, ⟨20, .phase⟩, ⟨21, .phase⟩, ⟨22, .phase⟩, ⟨23, .phase⟩, ⟨24, .phase⟩, ⟨25, .phase⟩], none⟩) (v := ?v26q185) rfl ?y26q185 hS0 ?r26q185
            case y26q185 => (rintro w2 s1; go_simp; try with_reducible rfl)
            try simp only [Act.put, pB, pC, pD]
            refine wpAnyH_done (by kernel_rfl) ?_ _
            go_wp2_with fail
            go_roundw
            case rel => exact ⟨false, k + 1, rfl, by go_num, by omega, Lib.hid ⟨HL1.out.next ((Below.refl W1.heap.size W1).drew), HON.out⟩⟩
            case measure => simp [RowKit.intOf]; omega
          | false =>
            cases sb with
            | false =>
              have HV1 : Hid (ledP fo V it S k = false) := Lib.hid (by rw [HT.out k, HL.out.2, HSB.out, HLB.out]; rfl)
              have HON : Hid (onRun fo V it S (k + 1) = false) := Lib.hid (by rw [on_out (by rw [HN.out]; exact HNK.out)])
              go_upto_region 14 with fail
              obtain ⟨W1, hW1⟩ : ∃ W, W = wr.setCell ⟨w.heap.size + 3, k, none⟩ (.bool false) := ⟨_, rfl⟩
              rw [← hW1]
              have hl1 : LdW w W1 [.string (bstr lp), .bool fo, .slice aI mI cI] [.slice (some ⟨g1, 0, none⟩) n c1, .slice (some ⟨g2, 0, none⟩) (n + 1) c2] [.int .i64 wh, .bool ng, .slice a m c, .int .i64 ls, .bool mn, .bool mb] (boolsV n (partB (ledP fo V it S) (k + 1))) := by
                have := HL.out.1.put k (.bool (ledP fo V it S k))
                rw [part_set hlt, HV1.out, ← hW1] at this
                exact this
              have HL1 := Lib.hid hl1
              have HBW : Hid (∀ W, Below W1.heap.size W1 W → Below w.heap.size w W) := Lib.hid (fun W hb => HL1.out.below.trans (hb.mono HL1.out.below.size))
              clear hl1 hW1 x0 y3 z0 zf f0
              refine wp_region_held_drew (S := (fun W => Below W1.heap.size W1 W)) (by kernel_rfl) ((Below.refl W1.heap.size W1).drew) (fun hS0 => ?_)
              refine tkA (i := 0) (oi := ⟨some 68, .move (.tmp 13), 3, "ref.go:331", #[], none⟩) (v := ?v0q186) rfl ?y0q186 hS0 ?r0q186
              case y0q186 => (rintro w2 s1; go_simp; try with_reducible rfl)
              try simp only [Act.put, pB, pC, pD]
              refine tkA (i := 1) (oi := ⟨some 69, .move (.tmp 9), 3, "ref.go:331", #[], none⟩) (v := ?v1q187) rfl ?y1q187 hS0 ?r1q187
              case y1q187 => (rintro w2 s1; go_simp; try with_reducible rfl)
              try simp only [Act.put, pB, pC, pD]
              refine tkA (i := 2) (oi := ⟨some 70, .binOp BinOp.lss 3 (.tmp 68) (.tmp 69) 3, 4, "ref.go:331", #[⟨0, .data⟩, ⟨1, .data⟩], none⟩) (v := ?v2q188) rfl ?y2q188 hS0 ?r2q188
              case y2q188 => (rintro w2 s1; go_simp; try with_reducible rfl)
              try simp only [Act.put, pB, pC, pD]
              refine tkA (i := 3) (oi := ⟨some 71, .move (.tmp 70), 4, "ref.go:331", #[⟨2, .data⟩], none⟩) (v := ?v3q189) rfl ?y3q189 hS0 ?r3q189
              case y3q189 => (rintro w2 s1; go_simp; try with_reducible rfl)
              try simp only [Act.put, pB, pC, pD]
              refine tkB (i := 4) (oi := ⟨some 72, .move (.tmp 3), 120, "ref.go:331", #[⟨3, .guard⟩], some (3, true)⟩) rfl hS0 ?r4q190
              try simp only [Act.put, pB, pC, pD]
              refine tkB (i := 5) (oi := ⟨some 73, .move (.tmp 13), 3, "ref.go:331", #[⟨3, .guard⟩], some (3, true)⟩) rfl hS0 ?r5q191
              try simp only [Act.put, pB, pC, pD]
              refine tkB (i := 6) (oi := ⟨some 74, .indexAddr 120 (.tmp 72) (.tmp 73), 0, "ref.go:331", #[⟨4, .data⟩, ⟨5, .data⟩, ⟨3, .guard⟩], some (3, true)⟩) rfl hS0 ?r6q192
              try simp only [Act.put, pB, pC, pD]
              refine tkB (i := 7) (oi := ⟨some 75, .load 4 (.tmp 74), 4, "ref.go:331", #[⟨6, .data⟩, ⟨3, .guard⟩], some (3, true)⟩) rfl hS0 ?r7q193
              try simp only [Act.put, pB, pC, pD]
              refine tkB (i := 8) (oi := ⟨some 76, .move (.tmp 75), 4, "ref.go:331", #[⟨7, .data⟩, ⟨3, .chain⟩, ⟨3, .guard⟩], some (3, true)⟩) rfl hS0 ?r8q194
              try simp only [Act.put, pB, pC, pD]
              refine tkB (i := 9) (oi := ⟨some 77, .move (.tmp 12), 4, "ref.go:331", #[⟨8, .guard⟩], some (8, false)⟩) rfl hS0 ?r9q195
              try simp only [Act.put, pB, pC, pD]
              refine tkB (i := 10) (oi := ⟨some 78, .move (.tmp 77), 4, "ref.go:331", #[⟨9, .data⟩, ⟨8, .chain⟩, ⟨8, .guard⟩], some (8, false)⟩) rfl hS0 ?r10q196
              try simp only [Act.put, pB, pC, pD]
              refine tkB (i := 11) (oi := ⟨some 79, .fieldAddr 90 (.tmp 6) 4, 0, "ref.go:331", #[⟨10, .guard⟩], some (10, true)⟩) rfl hS0 ?r11q197
              try simp only [Act.put, pB, pC, pD]
              refine tkB (i := 12) (oi := ⟨some 80, .load 4 (.tmp 79), 4, "ref.go:331", #[⟨11, .data⟩, ⟨10, .guard⟩], some (10, true)⟩) rfl hS0 ?r12q198
              try simp only [Act.put, pB, pC, pD]
              refine tkB (i := 13) (oi := ⟨some 81, .pick (.tmp 78) (.tmp 80) (Operand.const (Value.bool false)), 4, "ref.go:331", #[⟨10, .data⟩, ⟨12, .data⟩, ⟨8, .guard⟩], some (8, false)⟩) rfl hS0 ?r13q199
              try simp only [Act.put, pB, pC, pD]
              refine tkB (i := 14) (oi := ⟨some 82, .pick (.tmp 76) (Operand.const (Value.bool true)) (.tmp 81), 4, "ref.go:331", #[⟨8, .data⟩, ⟨13, .data⟩, ⟨3, .guard⟩], some (3, true)⟩) rfl hS0 ?r14q200
              try simp only [Act.put, pB, pC, pD]
              refine tkA (i := 15) (oi := ⟨some 83, .pick (.tmp 71) (.tmp 82) (Operand.const (Value.bool false)), 4, "ref.go:331", #[⟨3, .data⟩, ⟨14, .data⟩], none⟩) (v := ?v15q201) rfl ?y15q201 hS0 ?r15q201
              case y15q201 => (rintro w2 s1; go_simp; try with_reducible rfl)
              try simp only [Act.put, pB, pC, pD]
              refine tkA (i := 16) (oi := ⟨some 84, .move (.tmp 83), 4, "ref.go:331", #[⟨15, .data⟩, ⟨10, .chain⟩], none⟩) (v := ?v16q202) rfl ?y16q202 hS0 ?r16q202
              case y16q202 => (rintro w2 s1; go_simp; try with_reducible rfl)
              try simp only [Act.put, pB, pC, pD]
              refine tkB (i := 17) (oi := ⟨some 85, .load 31 (.tmp 4), 31, "ref.go:331", #[⟨16, .guard⟩], some (16, true)⟩) rfl hS0 ?r17q203
              try simp only [Act.put, pB, pC, pD]
              refine tkB (i := 18) (oi := ⟨some 86, .load 90 (.tmp 6), 90, "ref.go:331", #[⟨16, .guard⟩], some (16, true)⟩) rfl hS0 ?r18q204
              try simp only [Act.put, pB, pC, pD]
              refine tkB (i := 19) (oi := ⟨some 87, .fieldAddr 99 (.tmp 5) 0, 0, "ref.go:331", #[⟨16, .guard⟩], some (16, true)⟩) rfl hS0 ?r19q205
              try simp only [Act.put, pB, pC, pD]
              refine tkB (i := 20) (oi := ⟨some 88, .load 72 (.tmp 87), 72, "ref.go:331", #[⟨19, .data⟩, ⟨16, .guard⟩], some (16, true)⟩) rfl hS0 ?r20q206
              try simp only [Act.put, pB, pC, pD]
              refine tkB (i := 21) (oi := ⟨some 89, .move (.tmp 13), 3, "ref.go:331", #[⟨16, .guard⟩], some (16, true)⟩) rfl hS0 ?r21q207
              try simp only [Act.put, pB, pC, pD]
              refine tkB (i := 22) (oi := ⟨some 90, .indexAddr 72 (.tmp 88) (.tmp 89), 0, "ref.go:331", #[⟨20, .data⟩, ⟨21, .data⟩, ⟨16, .guard⟩], some (16, true)⟩) rfl hS0 ?r22q208
              try simp only [Act.put, pB, pC, pD]
              refine tkB (i := 23) (oi := ⟨some 91, .load 3 (.tmp 90), 3, "ref.go:331", #[⟨22, .data⟩, ⟨16, .guard⟩], some (16, true)⟩) rfl hS0 ?r23q209
              try simp only [Act.put, pB, pC, pD]
              refine tkB (i := 24) (oi := ⟨some 92, .call { callee := Callee.value (Operand.func 91), args := #[.tmp 85, .tmp 86, .tmp 91], argTypes := #[31, 90, 3] }, 4, "ref.go:331", #[⟨17, .data⟩, ⟨18, .data⟩, ⟨23, .data⟩, ⟨16, .chain⟩, ⟨16, .guard⟩], some (16, true)⟩) rfl hS0 ?r24q210
              try simp only [Act.put, pB, pC, pD]
              refine tkA (i := 25) (oi := ⟨some 93, .pick (.tmp 84) (.tmp 92) (Operand.const (Value.bool false)), 4, "ref.go:331", #[⟨16, .data⟩, ⟨24, .data⟩], none⟩) (v := ?v25q211) rfl ?y25q211 hS0 ?r25q211
              case y25q211 => (rintro w2 s1; go_simp; try with_reducible rfl)
              try simp only [Act.put, pB, pC, pD]
              refine tkA (i := 26) (oi := ⟨some 12, .assign (.tmp 93), 4, "ref.go:331", #[⟨25, .data⟩, ⟨24, .chain⟩, ⟨0, .phase⟩, ⟨1, .phase⟩, ⟨2, .phase⟩, ⟨3, .phase⟩, ⟨4, .phase⟩, ⟨5, .phase⟩, ⟨6, .phase⟩, ⟨7, .phase⟩, ⟨8, .phase⟩, ⟨9, .phase⟩, ⟨10, .phase⟩, ⟨11, .phase⟩, ⟨12, .phase⟩, ⟨13, .phase⟩, ⟨14, .phase⟩, ⟨15, .phase⟩, ⟨16, .phase⟩, ⟨17, .phase⟩, ⟨18, .phase⟩, ⟨19, .phase⟩, ⟨20, .phase⟩, ⟨21, .phase⟩, ⟨22, .phase⟩, ⟨23, .phase⟩, ⟨24, .phase⟩, ⟨25, .phase⟩], none⟩) (v := ?v26q212) rfl ?y26q212 hS0 ?r26q212
              case y26q212 => (rintro w2 s1; go_simp; try with_reducible rfl)
              try simp only [Act.put, pB, pC, pD]
              refine wpAnyH_done (by kernel_rfl) ?_ _
              go_wp2_with fail
              go_roundw
              case rel => exact ⟨false, k + 1, rfl, by go_num, by omega, Lib.hid ⟨HL1.out.next ((Below.refl W1.heap.size W1).drew), HON.out⟩⟩
              case measure => simp [RowKit.intOf]; omega
            | true =>
              cases lb with
              | true =>
                have HV1 : Hid (ledP fo V it S k = true) := Lib.hid (by rw [HT.out k, HL.out.2, HSB.out, HLB.out]; rfl)
                have HON : Hid (onRun fo V it S (k + 1) = false) := Lib.hid (by rw [on_out (by rw [HN.out]; exact HNK.out)])
                go_upto_region 14 with fail
                obtain ⟨W1, hW1⟩ : ∃ W, W = wr.setCell ⟨w.heap.size + 3, k, none⟩ (.bool true) := ⟨_, rfl⟩
                rw [← hW1]
                have hl1 : LdW w W1 [.string (bstr lp), .bool fo, .slice aI mI cI] [.slice (some ⟨g1, 0, none⟩) n c1, .slice (some ⟨g2, 0, none⟩) (n + 1) c2] [.int .i64 wh, .bool ng, .slice a m c, .int .i64 ls, .bool mn, .bool mb] (boolsV n (partB (ledP fo V it S) (k + 1))) := by
                  have := HL.out.1.put k (.bool (ledP fo V it S k))
                  rw [part_set hlt, HV1.out, ← hW1] at this
                  exact this
                have HL1 := Lib.hid hl1
                have HBW : Hid (∀ W, Below W1.heap.size W1 W → Below w.heap.size w W) := Lib.hid (fun W hb => HL1.out.below.trans (hb.mono HL1.out.below.size))
                clear hl1 hW1 x0 y3 z0 zf f0
                refine wp_region_held_drew (S := (fun W => Below W1.heap.size W1 W)) (by kernel_rfl) ((Below.refl W1.heap.size W1).drew) (fun hS0 => ?_)
                refine tkA (i := 0) (oi := ⟨some 68, .move (.tmp 13), 3, "ref.go:331", #[], none⟩) (v := ?v0q213) rfl ?y0q213 hS0 ?r0q213
                case y0q213 => (rintro w2 s1; go_simp; try with_reducible rfl)
                try simp only [Act.put, pB, pC, pD]
                refine tkA (i := 1) (oi := ⟨some 69, .move (.tmp 9), 3, "ref.go:331", #[], none⟩) (v := ?v1q214) rfl ?y1q214 hS0 ?r1q214
                case y1q214 => (rintro w2 s1; go_simp; try with_reducible rfl)
                try simp only [Act.put, pB, pC, pD]
                refine tkA (i := 2) (oi := ⟨some 70, .binOp BinOp.lss 3 (.tmp 68) (.tmp 69) 3, 4, "ref.go:331", #[⟨0, .data⟩, ⟨1, .data⟩], none⟩) (v := ?v2q215) rfl ?y2q215 hS0 ?r2q215
                case y2q215 => (rintro w2 s1; go_simp; try with_reducible rfl)
                try simp only [Act.put, pB, pC, pD]
                refine tkA (i := 3) (oi := ⟨some 71, .move (.tmp 70), 4, "ref.go:331", #[⟨2, .data⟩], none⟩) (v := ?v3q216) rfl ?y3q216 hS0 ?r3q216
                case y3q216 => (rintro w2 s1; go_simp; try with_reducible rfl)
                try simp only [Act.put, pB, pC, pD]
                refine tkB (i := 4) (oi := ⟨some 72, .move (.tmp 3), 120, "ref.go:331", #[⟨3, .guard⟩], some (3, true)⟩) rfl hS0 ?r4q217
                try simp only [Act.put, pB, pC, pD]
                refine tkB (i := 5) (oi := ⟨some 73, .move (.tmp 13), 3, "ref.go:331", #[⟨3, .guard⟩], some (3, true)⟩) rfl hS0 ?r5q218
                try simp only [Act.put, pB, pC, pD]
                refine tkB (i := 6) (oi := ⟨some 74, .indexAddr 120 (.tmp 72) (.tmp 73), 0, "ref.go:331", #[⟨4, .data⟩, ⟨5, .data⟩, ⟨3, .guard⟩], some (3, true)⟩) rfl hS0 ?r6q219
                try simp only [Act.put, pB, pC, pD]
                refine tkB (i := 7) (oi := ⟨some 75, .load 4 (.tmp 74), 4, "ref.go:331", #[⟨6, .data⟩, ⟨3, .guard⟩], some (3, true)⟩) rfl hS0 ?r7q220
                try simp only [Act.put, pB, pC, pD]
                refine tkB (i := 8) (oi := ⟨some 76, .move (.tmp 75), 4, "ref.go:331", #[⟨7, .data⟩, ⟨3, .chain⟩, ⟨3, .guard⟩], some (3, true)⟩) rfl hS0 ?r8q221
                try simp only [Act.put, pB, pC, pD]
                refine tkB (i := 9) (oi := ⟨some 77, .move (.tmp 12), 4, "ref.go:331", #[⟨8, .guard⟩], some (8, false)⟩) rfl hS0 ?r9q222
                try simp only [Act.put, pB, pC, pD]
                refine tkB (i := 10) (oi := ⟨some 78, .move (.tmp 77), 4, "ref.go:331", #[⟨9, .data⟩, ⟨8, .chain⟩, ⟨8, .guard⟩], some (8, false)⟩) rfl hS0 ?r10q223
                try simp only [Act.put, pB, pC, pD]
                refine tkB (i := 11) (oi := ⟨some 79, .fieldAddr 90 (.tmp 6) 4, 0, "ref.go:331", #[⟨10, .guard⟩], some (10, true)⟩) rfl hS0 ?r11q224
                try simp only [Act.put, pB, pC, pD]
                refine tkB (i := 12) (oi := ⟨some 80, .load 4 (.tmp 79), 4, "ref.go:331", #[⟨11, .data⟩, ⟨10, .guard⟩], some (10, true)⟩) rfl hS0 ?r12q225
                try simp only [Act.put, pB, pC, pD]
                refine tkB (i := 13) (oi := ⟨some 81, .pick (.tmp 78) (.tmp 80) (Operand.const (Value.bool false)), 4, "ref.go:331", #[⟨10, .data⟩, ⟨12, .data⟩, ⟨8, .guard⟩], some (8, false)⟩) rfl hS0 ?r13q226
                try simp only [Act.put, pB, pC, pD]
                refine tkB (i := 14) (oi := ⟨some 82, .pick (.tmp 76) (Operand.const (Value.bool true)) (.tmp 81), 4, "ref.go:331", #[⟨8, .data⟩, ⟨13, .data⟩, ⟨3, .guard⟩], some (3, true)⟩) rfl hS0 ?r14q227
                try simp only [Act.put, pB, pC, pD]
                refine tkA (i := 15) (oi := ⟨some 83, .pick (.tmp 71) (.tmp 82) (Operand.const (Value.bool false)), 4, "ref.go:331", #[⟨3, .data⟩, ⟨14, .data⟩], none⟩) (v := ?v15q228) rfl ?y15q228 hS0 ?r15q228
                case y15q228 => (rintro w2 s1; go_simp; try with_reducible rfl)
                try simp only [Act.put, pB, pC, pD]
                refine tkA (i := 16) (oi := ⟨some 84, .move (.tmp 83), 4, "ref.go:331", #[⟨15, .data⟩, ⟨10, .chain⟩], none⟩) (v := ?v16q229) rfl ?y16q229 hS0 ?r16q229
                case y16q229 => (rintro w2 s1; go_simp; try with_reducible rfl)
                try simp only [Act.put, pB, pC, pD]
                refine tkB (i := 17) (oi := ⟨some 85, .load 31 (.tmp 4), 31, "ref.go:331", #[⟨16, .guard⟩], some (16, true)⟩) rfl hS0 ?r17q230
                try simp only [Act.put, pB, pC, pD]
                refine tkB (i := 18) (oi := ⟨some 86, .load 90 (.tmp 6), 90, "ref.go:331", #[⟨16, .guard⟩], some (16, true)⟩) rfl hS0 ?r18q231
                try simp only [Act.put, pB, pC, pD]
                refine tkB (i := 19) (oi := ⟨some 87, .fieldAddr 99 (.tmp 5) 0, 0, "ref.go:331", #[⟨16, .guard⟩], some (16, true)⟩) rfl hS0 ?r19q232
                try simp only [Act.put, pB, pC, pD]
                refine tkB (i := 20) (oi := ⟨some 88, .load 72 (.tmp 87), 72, "ref.go:331", #[⟨19, .data⟩, ⟨16, .guard⟩], some (16, true)⟩) rfl hS0 ?r20q233
                try simp only [Act.put, pB, pC, pD]
                refine tkB (i := 21) (oi := ⟨some 89, .move (.tmp 13), 3, "ref.go:331", #[⟨16, .guard⟩], some (16, true)⟩) rfl hS0 ?r21q234
                try simp only [Act.put, pB, pC, pD]
                refine tkB (i := 22) (oi := ⟨some 90, .indexAddr 72 (.tmp 88) (.tmp 89), 0, "ref.go:331", #[⟨20, .data⟩, ⟨21, .data⟩, ⟨16, .guard⟩], some (16, true)⟩) rfl hS0 ?r22q235
                try simp only [Act.put, pB, pC, pD]
                refine tkB (i := 23) (oi := ⟨some 91, .load 3 (.tmp 90), 3, "ref.go:331", #[⟨22, .data⟩, ⟨16, .guard⟩], some (16, true)⟩) rfl hS0 ?r23q236
                try simp only [Act.put, pB, pC, pD]
                refine tkB (i := 24) (oi := ⟨some 92, .call { callee := Callee.value (Operand.func 91), args := #[.tmp 85, .tmp 86, .tmp 91], argTypes := #[31, 90, 3] }, 4, "ref.go:331", #[⟨17, .data⟩, ⟨18, .data⟩, ⟨23, .data⟩, ⟨16, .chain⟩, ⟨16, .guard⟩], some (16, true)⟩) rfl hS0 ?r24q237
                try simp only [Act.put, pB, pC, pD]
                refine tkA (i := 25) (oi := ⟨some 93, .pick (.tmp 84) (.tmp 92) (Operand.const (Value.bool false)), 4, "ref.go:331", #[⟨16, .data⟩, ⟨24, .data⟩], none⟩) (v := ?v25q238) rfl ?y25q238 hS0 ?r25q238
                case y25q238 => (rintro w2 s1; go_simp; try with_reducible rfl)
                try simp only [Act.put, pB, pC, pD]
                refine tkA (i := 26) (oi := ⟨some 12, .assign (.tmp 93), 4, "ref.go:331", #[⟨25, .data⟩, ⟨24, .chain⟩, ⟨0, .phase⟩, ⟨1, .phase⟩, ⟨2, .phase⟩, ⟨3, .phase⟩, ⟨4, .phase⟩, ⟨5, .phase⟩, ⟨6, .phase⟩, ⟨7, .phase⟩, ⟨8, .phase⟩, ⟨9, .phase⟩, ⟨10, .phase⟩, ⟨11, .phase⟩, ⟨12, .phase⟩, ⟨13, .phase⟩, ⟨14, .phase⟩, ⟨15, .phase⟩, ⟨16, .phase⟩, ⟨17, .phase⟩, ⟨18, .phase⟩, ⟨19, .phase⟩, ⟨20, .phase⟩, ⟨21, .phase⟩, ⟨22, .phase⟩, ⟨23, .phase⟩, ⟨24, .phase⟩, ⟨25, .phase⟩], none⟩) (v := ?v26q239) rfl ?y26q239 hS0 ?r26q239
                case y26q239 => (rintro w2 s1; go_simp; try with_reducible rfl)
                try simp only [Act.put, pB, pC, pD]
                refine wpAnyH_done (by kernel_rfl) ?_ _
                go_wp2_with fail
                go_roundw
                case rel => exact ⟨false, k + 1, rfl, by go_num, by omega, Lib.hid ⟨HL1.out.next ((Below.refl W1.heap.size W1).drew), HON.out⟩⟩
                case measure => simp [RowKit.intOf]; omega
              | false =>
                have HV1 : Hid (ledP fo V it S k = false) := Lib.hid (by rw [HT.out k, HL.out.2, HSB.out, HLB.out]; rfl)
                have HON : Hid (onRun fo V it S (k + 1) = false) := Lib.hid (by rw [on_out (by rw [HN.out]; exact HNK.out)])
                go_upto_region 14 with fail
                obtain ⟨W1, hW1⟩ : ∃ W, W = wr.setCell ⟨w.heap.size + 3, k, none⟩ (.bool false) := ⟨_, rfl⟩
                rw [← hW1]
                have hl1 : LdW w W1 [.string (bstr lp), .bool fo, .slice aI mI cI] [.slice (some ⟨g1, 0, none⟩) n c1, .slice (some ⟨g2, 0, none⟩) (n + 1) c2] [.int .i64 wh, .bool ng, .slice a m c, .int .i64 ls, .bool mn, .bool mb] (boolsV n (partB (ledP fo V it S) (k + 1))) := by
                  have := HL.out.1.put k (.bool (ledP fo V it S k))
                  rw [part_set hlt, HV1.out, ← hW1] at this
                  exact this
                have HL1 := Lib.hid hl1
                have HBW : Hid (∀ W, Below W1.heap.size W1 W → Below w.heap.size w W) := Lib.hid (fun W hb => HL1.out.below.trans (hb.mono HL1.out.below.size))
                clear hl1 hW1 x0 y3 z0 zf f0
                refine wp_region_held_drew (S := (fun W => Below W1.heap.size W1 W)) (by kernel_rfl) ((Below.refl W1.heap.size W1).drew) (fun hS0 => ?_)
                refine tkA (i := 0) (oi := ⟨some 68, .move (.tmp 13), 3, "ref.go:331", #[], none⟩) (v := ?v0q240) rfl ?y0q240 hS0 ?r0q240
                case y0q240 => (rintro w2 s1; go_simp; try with_reducible rfl)
                try simp only [Act.put, pB, pC, pD]
                refine tkA (i := 1) (oi := ⟨some 69, .move (.tmp 9), 3, "ref.go:331", #[], none⟩) (v := ?v1q241) rfl ?y1q241 hS0 ?r1q241
                case y1q241 => (rintro w2 s1; go_simp; try with_reducible rfl)
                try simp only [Act.put, pB, pC, pD]
                refine tkA (i := 2) (oi := ⟨some 70, .binOp BinOp.lss 3 (.tmp 68) (.tmp 69) 3, 4, "ref.go:331", #[⟨0, .data⟩, ⟨1, .data⟩], none⟩) (v := ?v2q242) rfl ?y2q242 hS0 ?r2q242
                case y2q242 => (rintro w2 s1; go_simp; try with_reducible rfl)
                try simp only [Act.put, pB, pC, pD]
                refine tkA (i := 3) (oi := ⟨some 71, .move (.tmp 70), 4, "ref.go:331", #[⟨2, .data⟩], none⟩) (v := ?v3q243) rfl ?y3q243 hS0 ?r3q243
                case y3q243 => (rintro w2 s1; go_simp; try with_reducible rfl)
                try simp only [Act.put, pB, pC, pD]
                refine tkB (i := 4) (oi := ⟨some 72, .move (.tmp 3), 120, "ref.go:331", #[⟨3, .guard⟩], some (3, true)⟩) rfl hS0 ?r4q244
                try simp only [Act.put, pB, pC, pD]
                refine tkB (i := 5) (oi := ⟨some 73, .move (.tmp 13), 3, "ref.go:331", #[⟨3, .guard⟩], some (3, true)⟩) rfl hS0 ?r5q245
                try simp only [Act.put, pB, pC, pD]
                refine tkB (i := 6) (oi := ⟨some 74, .indexAddr 120 (.tmp 72) (.tmp 73), 0, "ref.go:331", #[⟨4, .data⟩, ⟨5, .data⟩, ⟨3, .guard⟩], some (3, true)⟩) rfl hS0 ?r6q246
                try simp only [Act.put, pB, pC, pD]
                refine tkB (i := 7) (oi := ⟨some 75, .load 4 (.tmp 74), 4, "ref.go:331", #[⟨6, .data⟩, ⟨3, .guard⟩], some (3, true)⟩) rfl hS0 ?r7q247
                try simp only [Act.put, pB, pC, pD]
                refine tkB (i := 8) (oi := ⟨some 76, .move (.tmp 75), 4, "ref.go:331", #[⟨7, .data⟩, ⟨3, .chain⟩, ⟨3, .guard⟩], some (3, true)⟩) rfl hS0 ?r8q248
                try simp only [Act.put, pB, pC, pD]
                refine tkB (i := 9) (oi := ⟨some 77, .move (.tmp 12), 4, "ref.go:331", #[⟨8, .guard⟩], some (8, false)⟩) rfl hS0 ?r9q249
                try simp only [Act.put, pB, pC, pD]
                refine tkB (i := 10) (oi := ⟨some 78, .move (.tmp 77), 4, "ref.go:331", #[⟨9, .data⟩, ⟨8, .chain⟩, ⟨8, .guard⟩], some (8, false)⟩) rfl hS0 ?r10q250
                try simp only [Act.put, pB, pC, pD]
                refine tkB (i := 11) (oi := ⟨some 79, .fieldAddr 90 (.tmp 6) 4, 0, "ref.go:331", #[⟨10, .guard⟩], some (10, true)⟩) rfl hS0 ?r11q251
                try simp only [Act.put, pB, pC, pD]
                refine tkB (i := 12) (oi := ⟨some 80, .load 4 (.tmp 79), 4, "ref.go:331", #[⟨11, .data⟩, ⟨10, .guard⟩], some (10, true)⟩) rfl hS0 ?r12q252
                try simp only [Act.put, pB, pC, pD]
                refine tkB (i := 13) (oi := ⟨some 81, .pick (.tmp 78) (.tmp 80) (Operand.const (Value.bool false)), 4, "ref.go:331", #[⟨10, .data⟩, ⟨12, .data⟩, ⟨8, .guard⟩], some (8, false)⟩) rfl hS0 ?r13q253
                try simp only [Act.put, pB, pC, pD]
                refine tkB (i := 14) (oi := ⟨some 82, .pick (.tmp 76) (Operand.const (Value.bool true)) (.tmp 81), 4, "ref.go:331", #[⟨8, .data⟩, ⟨13, .data⟩, ⟨3, .guard⟩], some (3, true)⟩) rfl hS0 ?r14q254
                try simp only [Act.put, pB, pC, pD]
                refine tkA (i := 15) (oi := ⟨some 83, .pick (.tmp 71) (.tmp 82) (Operand.const (Value.bool false)), 4, "ref.go:331", #[⟨3, .data⟩, ⟨14, .data⟩], none⟩) (v := ?v15q255) rfl ?y15q255 hS0 ?r15q255
                case y15q255 => (rintro w2 s1; go_simp; try with_reducible rfl)
                try simp only [Act.put, pB, pC, pD]
                refine tkA (i := 16) (oi := ⟨some 84, .move (.tmp 83), 4, "ref.go:331", #[⟨15, .data⟩, ⟨10, .chain⟩], none⟩) (v := ?v16q256) rfl ?y16q256 hS0 ?r16q256
                case y16q256 => (rintro w2 s1; go_simp; try with_reducible rfl)
                try simp only [Act.put, pB, pC, pD]
                refine tkB (i := 17) (oi := ⟨some 85, .load 31 (.tmp 4), 31, "ref.go:331", #[⟨16, .guard⟩], some (16, true)⟩) rfl hS0 ?r17q257
                try simp only [Act.put, pB, pC, pD]
                refine tkB (i := 18) (oi := ⟨some 86, .load 90 (.tmp 6), 90, "ref.go:331", #[⟨16, .guard⟩], some (16, true)⟩) rfl hS0 ?r18q258
                try simp only [Act.put, pB, pC, pD]
                refine tkB (i := 19) (oi := ⟨some 87, .fieldAddr 99 (.tmp 5) 0, 0, "ref.go:331", #[⟨16, .guard⟩], some (16, true)⟩) rfl hS0 ?r19q259
                try simp only [Act.put, pB, pC, pD]
                refine tkB (i := 20) (oi := ⟨some 88, .load 72 (.tmp 87), 72, "ref.go:331", #[⟨19, .data⟩, ⟨16, .guard⟩], some (16, true)⟩) rfl hS0 ?r20q260
                try simp only [Act.put, pB, pC, pD]
                refine tkB (i := 21) (oi := ⟨some 89, .move (.tmp 13), 3, "ref.go:331", #[⟨16, .guard⟩], some (16, true)⟩) rfl hS0 ?r21q261
                try simp only [Act.put, pB, pC, pD]
                refine tkB (i := 22) (oi := ⟨some 90, .indexAddr 72 (.tmp 88) (.tmp 89), 0, "ref.go:331", #[⟨20, .data⟩, ⟨21, .data⟩, ⟨16, .guard⟩], some (16, true)⟩) rfl hS0 ?r22q262
                try simp only [Act.put, pB, pC, pD]
                refine tkB (i := 23) (oi := ⟨some 91, .load 3 (.tmp 90), 3, "ref.go:331", #[⟨22, .data⟩, ⟨16, .guard⟩], some (16, true)⟩) rfl hS0 ?r23q263
                try simp only [Act.put, pB, pC, pD]
                refine tkB (i := 24) (oi := ⟨some 92, .call { callee := Callee.value (Operand.func 91), args := #[.tmp 85, .tmp 86, .tmp 91], argTypes := #[31, 90, 3] }, 4, "ref.go:331", #[⟨17, .data⟩, ⟨18, .data⟩, ⟨23, .data⟩, ⟨16, .chain⟩, ⟨16, .guard⟩], some (16, true)⟩) rfl hS0 ?r24q264
                try simp only [Act.put, pB, pC, pD]
                refine tkA (i := 25) (oi := ⟨some 93, .pick (.tmp 84) (.tmp 92) (Operand.const (Value.bool false)), 4, "ref.go:331", #[⟨16, .data⟩, ⟨24, .data⟩], none⟩) (v := ?v25q265) rfl ?y25q265 hS0 ?r25q265
                case y25q265 => (rintro w2 s1; go_simp; try with_reducible rfl)
                try simp only [Act.put, pB, pC, pD]
                refine tkA (i := 26) (oi := ⟨some 12, .assign (.tmp 93), 4, "ref.go:331", #[⟨25, .data⟩, ⟨24, .chain⟩, ⟨0, .phase⟩, ⟨1, .phase⟩, ⟨2, .phase⟩, ⟨3, .phase⟩, ⟨4, .phase⟩, ⟨5, .phase⟩, ⟨6, .phase⟩, ⟨7, .phase⟩, ⟨8, .phase⟩, ⟨9, .phase⟩, ⟨10, .phase⟩, ⟨11, .phase⟩, ⟨12, .phase⟩, ⟨13, .phase⟩, ⟨14, .phase⟩, ⟨15, .phase⟩, ⟨16, .phase⟩, ⟨17, .phase⟩, ⟨18, .phase⟩, ⟨19, .phase⟩, ⟨20, .phase⟩, ⟨21, .phase⟩, ⟨22, .phase⟩, ⟨23, .phase⟩, ⟨24, .phase⟩, ⟨25, .phase⟩], none⟩) (v := ?v26q266) rfl ?y26q266 hS0 ?r26q266
                case y26q266 => (rintro w2 s1; go_simp; try with_reducible rfl)
                try simp only [Act.put, pB, pC, pD]
                refine wpAnyH_done (by kernel_rfl) ?_ _
                go_wp2_with fail
                go_roundw
                case rel => exact ⟨false, k + 1, rfl, by go_num, by omega, Lib.hid ⟨HL1.out.next ((Below.refl W1.heap.size W1).drew), HON.out⟩⟩
                case measure => simp [RowKit.intOf]; omega
      · obtain rfl : k = n + 1 := by omega
        have hki : ¬ ((n : Int) + 1) ≤ (n : Int) := by omega
        go_wp2_with fail
        go_ret
        exact ⟨_, rfl, by omega, by have := HL.out.1.to_; rw [part_all] at this; exact this, HL.out.1.below⟩
end Go.Proofs.YtchdeboialbdiaaDoor
