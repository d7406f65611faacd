/- Texts joined, one behind the other (SRefP). -/
import Derived.Test.YtchdeboialbdiaaDoorSk31
import Derived.Deep.RegionHeld3
/- The reference: is a character of an item's kind? -/
namespace Go.Proofs.YtchdeboialbdiaaDoor
set_option linter.unusedVariables false
set_option linter.unusedSimpArgs false
open Go.RowKit
open Go.Lib hiding intOf
/-- an atom that may be -/
def OkAt (it : Itm) : Prop := (it.what = 46 ∨ it.what = 91 ∨ (it.what = 99 ∧ ∃ x, it.els = [x])) ∧ ∀ x ∈ it.els, OkEl x
theorem is_dot {fo : Bool} {it : Itm} {v : Nat} (h : it.what = 46) : atomIs fo it v = !(decide (v < wrongN) && endsB v) := by unfold atomIs; rw [if_pos h]
theorem is_set {fo : Bool} {it : Itm} {v : Nat} (h : it.what = 91) : atomIs fo it v = ((hasV it.els v || (fo && decide (v < wrongN) && hasV it.els (foldN v))) != it.neg) := by unfold atomIs; rw [if_neg (by omega), if_pos h]
theorem is_one {fo : Bool} {it : Itm} {v : Nat} {x : El} (h : it.what = 99) (hx : it.els = [x]) (hn : ∀ lo hi, x = .rng lo hi → ¬ (fo = true ∧ lo < wrongN)) : atomIs fo it v = elHas x v := by
  unfold atomIs
  rw [if_neg (by omega), if_neg (by omega), hx]
  cases x with
  | kind k => rfl
  | rng lo hi => exact if_neg (hn lo hi rfl)
theorem is_fold {fo : Bool} {it : Itm} {v lo hi : Nat} (h : it.what = 99) (hx : it.els = [.rng lo hi]) (hn : fo = true ∧ lo < wrongN) : atomIs fo it v = (decide (v < wrongN) && decide (foldN v = foldN lo)) := by
  unfold atomIs
  rw [if_neg (by omega), if_neg (by omega), hx]
  exact if_pos hn
/-- the two boxes -/
structure IsW (w W : World) (pv iv : List Value) : Prop where
  pat : Row W w.heap.size 31 pv
  it : Row W (w.heap.size + 1) 90 iv
  below : Below w.heap.size w W
theorem IsW.next {w W W' : World} {pv iv : List Value} (h : IsW w W pv iv) (hb : Below W.heap.size W W') : IsW w W' pv iv :=
  ⟨h.pat.keep hb h.pat.lt, h.it.keep hb h.it.lt, h.below.trans (hb.mono h.below.size)⟩
theorem is_start (w : World) (pv iv : List Value) : IsW w ((w.alloc (.cells pv.toArray 31)).alloc (.cells iv.toArray 90)) pv iv := by
  refine ⟨?_, ?_, ((Below.refl _ w).alloc (Nat.le_refl _) _).alloc (by simp) _⟩
  · have hr : Row (w.alloc (.cells pv.toArray 31)) w.heap.size 31 pv := row_new w pv _
    exact hr.alloc _
  · have := row_new (w.alloc (.cells pv.toArray 31)) iv 90
    rwa [World.size_alloc] at this
set_option maxHeartbeats 8000000 in
set_option maxRecDepth 100000 in
theorem is_dotR (w : World) (lp : List UInt8) (fo : Bool) (aI : Option Addr) (mI cI : Nat) (it : Itm) (a : Option Addr) (m c : Nat) (v : Nat) (hr : ElRd w (.slice a m c) it.els) (hok : OkAt it) (hm : m ≤ 1000000) (hv : OkC v) (hw : it.what = 46) : Calls Tryd.prog 91 #[.agg #[.string (bstr lp), .bool fo, .slice aI mI cI], itV (it, .slice a m c), .int .i64 (v : Int)] w fun e w' => e = .returned (.bool (atomIs fo it v)) ∧ Below w.heap.size w w' := by
  obtain ⟨wh, hwh⟩ : ∃ z : Int, (it.what : Int) = z := ⟨_, rfl⟩
  obtain ⟨ls, hls⟩ : ∃ z : Int, (it.least : Int) = z := ⟨_, rfl⟩
  obtain ⟨ng, hng⟩ : ∃ b, it.neg = b := ⟨_, rfl⟩
  obtain ⟨mn, hmn⟩ : ∃ b, it.many = b := ⟨_, rfl⟩
  obtain ⟨mb, hmb⟩ : ∃ b, maybeB it = b := ⟨_, rfl⟩
  have hIV : itV (it, .slice a m c) = .agg #[.int .i64 wh, .bool ng, .slice a m c, .int .i64 ls, .bool mn, .bool mb] := by
    rw [← hwh, ← hls, ← hng, ← hmn, ← hmb]
    rfl
  obtain ⟨z, hz⟩ : ∃ z : Int, (v : Int) = z := ⟨_, rfl⟩
  have hvb : v < 2000000 := by unfold OkC wrongN at hv; omega
  rw [hIV, is_dot hw, hz]
  obtain rfl : wh = 46 := by omega
  have hst := is_start w [.string (bstr lp), .bool fo, .slice aI mI cI] [.int .i64 46, .bool ng, .slice a m c, .int .i64 ls, .bool mn, .bool mb]
  obtain ⟨W0, hW0⟩ : ∃ W, W = (w.alloc (.cells #[.string (bstr lp), .bool fo, .slice aI mI cI] 31)).alloc (.cells #[.int .i64 46, .bool ng, .slice a m c, .int .i64 ls, .bool mn, .bool mb] 90) := ⟨_, rfl⟩
  have hst2 : IsW w W0 [.string (bstr lp), .bool fo, .slice aI mI cI] [.int .i64 46, .bool ng, .slice a m c, .int .i64 ls, .bool mn, .bool mb] := by rw [hW0]; exact hst
  have HST := Lib.hid hst2
  have HW0 := Lib.hid hW0
  have p1 : W0.cell? ⟨w.heap.size, 1, none⟩ = some (.bool fo) := hst2.pat.cell 1
  have pl := hst2.pat.lt
  have i0 : W0.cell? ⟨w.heap.size + 1, 0, none⟩ = some (.int .i64 46) := hst2.it.cell 0
  have i1 : W0.cell? ⟨w.heap.size + 1, 1, none⟩ = some (.bool ng) := hst2.it.cell 1
  have i2 : W0.cell? ⟨w.heap.size + 1, 2, none⟩ = some (.slice a m c) := hst2.it.cell 2
  have i3 : W0.cell? ⟨w.heap.size + 1, 3, none⟩ = some (.int .i64 ls) := hst2.it.cell 3
  have i4 : W0.cell? ⟨w.heap.size + 1, 4, none⟩ = some (.bool mn) := hst2.it.cell 4
  have i5 : W0.cell? ⟨w.heap.size + 1, 5, none⟩ = some (.bool mb) := hst2.it.cell 5
  have il := hst2.it.lt
  clear hst hst2 hW0
  have hz0 : 0 ≤ z ∧ z < 2000000 := by omega
  obtain ⟨hz0, hz1⟩ := hz0
  have HE := Lib.hid (fun W => hz ▸ endsR6 W v)
  obtain ⟨be, hbe⟩ : ∃ b, endsB v = b := ⟨_, rfl⟩
  rw [hbe] at HE ⊢
  by_cases hr : z < 1114112
  · rw [decide_eq_true (show v < wrongN by unfold wrongN; omega), Bool.true_and]
    by_cases h10 : z = 10
    · have hb : be = true := by rw [← hbe, show v = 10 by omega]; rfl
      subst h10 hb
      clear hz hbe hIV hls hng hmn hmb hwh
      go_enter Tryd.func91, Tryd.ntmps91
      go_upto_region 1 with fail
      rw [← HW0.out]
      go_wp2_with fail
      go_ret
      exact ⟨rfl, HST.out.below⟩
    · have q10 : (z != 10) = true := by simp [h10]
      by_cases h13 : z = 13
      · have hb : be = true := by rw [← hbe, show v = 13 by omega]; rfl
        subst h13 hb
        clear hz hbe hIV hls hng hmn hmb hwh
        go_enter Tryd.func91, Tryd.ntmps91
        go_upto_region 1 with fail
        rw [← HW0.out]
        go_wp2_with fail
        go_ret
        exact ⟨rfl, HST.out.below⟩
      · have q13 : (z != 13) = true := by simp [h13]
        clear hz hbe hIV hls hng hmn hmb hwh h10 h13
        go_enter Tryd.func91, Tryd.ntmps91
        go_upto_region 1 with fail
        rw [← HW0.out]
        go_wp2_with (go_at_call 109; refine (HE.out _).mono ?_; rintro e w1 ⟨rfl, rfl⟩)
        go_ret
        exact ⟨rfl, HST.out.below⟩
  · rw [decide_eq_false (show ¬ v < wrongN by unfold wrongN; omega), Bool.false_and]
    clear hz hbe hIV hls hng hmn hmb hwh
    go_enter Tryd.func91, Tryd.ntmps91
    go_upto_region 1 with fail
    rw [← HW0.out]
    go_wp2_with fail
    go_ret
    exact ⟨rfl, HST.out.below⟩
set_option maxHeartbeats 8000000 in
set_option maxRecDepth 100000 in
theorem is_setR (w : World) (lp : List UInt8) (fo : Bool) (aI : Option Addr) (mI cI : Nat) (it : Itm) (a : Option Addr) (m c : Nat) (v : Nat) (hr : ElRd w (.slice a m c) it.els) (hok : OkAt it) (hm : m ≤ 1000000) (hv : OkC v) (hw : it.what = 91) : Calls Tryd.prog 91 #[.agg #[.string (bstr lp), .bool fo, .slice aI mI cI], itV (it, .slice a m c), .int .i64 (v : Int)] w fun e w' => e = .returned (.bool (atomIs fo it v)) ∧ Below w.heap.size w w' := by
  obtain ⟨wh, hwh⟩ : ∃ z : Int, (it.what : Int) = z := ⟨_, rfl⟩
  obtain ⟨ls, hls⟩ : ∃ z : Int, (it.least : Int) = z := ⟨_, rfl⟩
  obtain ⟨ng, hng⟩ : ∃ b, it.neg = b := ⟨_, rfl⟩
  obtain ⟨mn, hmn⟩ : ∃ b, it.many = b := ⟨_, rfl⟩
  obtain ⟨mb, hmb⟩ : ∃ b, maybeB it = b := ⟨_, rfl⟩
  have hIV : itV (it, .slice a m c) = .agg #[.int .i64 wh, .bool ng, .slice a m c, .int .i64 ls, .bool mn, .bool mb] := by
    rw [← hwh, ← hls, ← hng, ← hmn, ← hmb]
    rfl
  obtain ⟨z, hz⟩ : ∃ z : Int, (v : Int) = z := ⟨_, rfl⟩
  have hvb : v < 2000000 := by unfold OkC wrongN at hv; omega
  have hH := fun W (hb : Below w.heap.size w W) => hasR6 W it a m c v (hr.below hb) hok.2 hm hvb
  have hH2 := fun W (hb : Below w.heap.size w W) (hf : foldN v < 2000000) => hasR6 W it a m c (foldN v) (hr.below hb) hok.2 hm hf
  rw [hIV] at hH
  simp only [hIV] at hH2
  rw [hIV, is_set hw, hng, hz]
  simp only [hz] at hH
  obtain rfl : wh = 91 := by omega
  have hst := is_start w [.string (bstr lp), .bool fo, .slice aI mI cI] [.int .i64 91, .bool ng, .slice a m c, .int .i64 ls, .bool mn, .bool mb]
  obtain ⟨W0, hW0⟩ : ∃ W, W = (w.alloc (.cells #[.string (bstr lp), .bool fo, .slice aI mI cI] 31)).alloc (.cells #[.int .i64 91, .bool ng, .slice a m c, .int .i64 ls, .bool mn, .bool mb] 90) := ⟨_, rfl⟩
  have hst2 : IsW w W0 [.string (bstr lp), .bool fo, .slice aI mI cI] [.int .i64 91, .bool ng, .slice a m c, .int .i64 ls, .bool mn, .bool mb] := by rw [hW0]; exact hst
  have HST := Lib.hid hst2
  have HW0 := Lib.hid hW0
  have p1 : W0.cell? ⟨w.heap.size, 1, none⟩ = some (.bool fo) := hst2.pat.cell 1
  have pl := hst2.pat.lt
  have i0 : W0.cell? ⟨w.heap.size + 1, 0, none⟩ = some (.int .i64 91) := hst2.it.cell 0
  have i1 : W0.cell? ⟨w.heap.size + 1, 1, none⟩ = some (.bool ng) := hst2.it.cell 1
  have i2 : W0.cell? ⟨w.heap.size + 1, 2, none⟩ = some (.slice a m c) := hst2.it.cell 2
  have i3 : W0.cell? ⟨w.heap.size + 1, 3, none⟩ = some (.int .i64 ls) := hst2.it.cell 3
  have i4 : W0.cell? ⟨w.heap.size + 1, 4, none⟩ = some (.bool mn) := hst2.it.cell 4
  have i5 : W0.cell? ⟨w.heap.size + 1, 5, none⟩ = some (.bool mb) := hst2.it.cell 5
  have il := hst2.it.lt
  clear hst hst2 hW0
  have HS : Hid (∀ W, Below W0.heap.size W0 W → (W.cell? ⟨w.heap.size, 1, none⟩ = some (.bool fo) ∧ W.cell? ⟨w.heap.size + 1, 0, none⟩ = some (.int .i64 91) ∧ W.cell? ⟨w.heap.size + 1, 1, none⟩ = some (.bool ng) ∧ W.cell? ⟨w.heap.size + 1, 2, none⟩ = some (.slice a m c) ∧ W.cell? ⟨w.heap.size + 1, 3, none⟩ = some (.int .i64 ls) ∧ W.cell? ⟨w.heap.size + 1, 4, none⟩ = some (.bool mn) ∧ W.cell? ⟨w.heap.size + 1, 5, none⟩ = some (.bool mb))) := Lib.hid (fun W hW => ⟨(HST.out.next hW).pat.cell 1, (HST.out.next hW).it.cell 0, (HST.out.next hW).it.cell 1, (HST.out.next hW).it.cell 2, (HST.out.next hW).it.cell 3, (HST.out.next hW).it.cell 4, (HST.out.next hW).it.cell 5⟩)
  have hz0 : 0 ≤ z ∧ z < 2000000 := by omega
  obtain ⟨hz0, hz1⟩ := hz0
  obtain ⟨b1, hb1⟩ : ∃ b, hasV it.els v = b := ⟨_, rfl⟩
  rw [hb1] at hH ⊢
  have HH : Hid (∀ W, Below W0.heap.size W0 W → Calls Tryd.prog 110 #[.agg #[.int .i64 91, .bool ng, .slice a m c, .int .i64 ls, .bool mn, .bool mb], .int .i64 z] W fun e w' => e = .returned (.bool b1) ∧ Below W.heap.size W w') := Lib.hid (fun W hW => hH W (HST.out.next hW).below)
  clear hH hb1
  cases b1 with
  | true =>
    rw [Bool.true_or]
    clear hH2 hz hIV hls hng hmn hmb hwh
    by_cases c1 : z < 1114112
    · go_enter Tryd.func91, Tryd.ntmps91
      go_upto_region 6 with fail
      rw [← HW0.out]
      refine wp_region_held_drew (S := (fun w' : World => w'.cell? ⟨w.heap.size, 1, none⟩ = some (.bool fo) ∧ w'.cell? ⟨w.heap.size + 1, 0, none⟩ = some (.int .i64 91) ∧ w'.cell? ⟨w.heap.size + 1, 1, none⟩ = some (.bool ng) ∧ w'.cell? ⟨w.heap.size + 1, 2, none⟩ = some (.slice a m c) ∧ w'.cell? ⟨w.heap.size + 1, 3, none⟩ = some (.int .i64 ls) ∧ w'.cell? ⟨w.heap.size + 1, 4, none⟩ = some (.bool mn) ∧ w'.cell? ⟨w.heap.size + 1, 5, none⟩ = some (.bool mb))) (by kernel_rfl) (HS.out _ (Below.refl _ W0).drew) (fun hS0 => ?_)
      refine tkA (i := 0) (oi := ⟨some 34, .load 90 (.tmp 4), 90, "ref.go:278", #[], none⟩) (v := ?v0q1) rfl ?y0q1 hS0 ?r0q1
      case y0q1 => (rintro w2 ⟨s1, s2, s3, s4, s5, s6, s7⟩; go_simp; try with_reducible rfl)
      try simp only [Act.put, pB, pC, pD]
      refine tkA (i := 1) (oi := ⟨some 35, .move (.tmp 2), 3, "ref.go:278", #[], none⟩) (v := ?v1q2) rfl ?y1q2 hS0 ?r1q2
      case y1q2 => (rintro w2 ⟨s1, s2, s3, s4, s5, s6, s7⟩; go_simp; try with_reducible rfl)
      try simp only [Act.put, pB, pC, pD]
      refine wpAnyH_ready (rs := [2]) (by kernel_rfl) (by simp) (AllReadyH.cons (o := ⟨some 36, .call { callee := Callee.value (Operand.func 110), args := #[.tmp 34, .tmp 35], argTypes := #[90, 3] }, 4, "ref.go:278", #[⟨0, .data⟩, ⟨1, .data⟩], none⟩) rfl (fun K' hK => ?_) AllReadyH.nil)
      go_simp
      with_reducible refine (HH.out _ (Below.refl _ W0).drew).mono ?_
      rintro e w3 ⟨rfl, hb3⟩
      have HB3 := Lib.hid ((Below.refl W0.heap.size W0).drew.trans (hb3.mono (Nat.le_refl _)))
      clear hb3
      show K' _ _
      refine hK.out _ _ (HS.out _ HB3.out) (fun hSn => ?_)
      try simp only [Act.put, pB, pC, pD]
      clear hK K'
      refine tkA (i := 3) (oi := ⟨some 37, .move (.tmp 36), 4, "ref.go:278", #[⟨2, .data⟩, ⟨2, .chain⟩], none⟩) (v := ?v3q3) rfl ?y3q3 (HS.out _ HB3.out) ?r3q3
      case y3q3 => (rintro w2 ⟨s1, s2, s3, s4, s5, s6, s7⟩; go_simp; try with_reducible rfl)
      try simp only [Act.put, pB, pC, pD]
      refine tkB (i := 4) (oi := ⟨some 38, .fieldAddr 31 (.tmp 3) 1, 0, "ref.go:278", #[⟨3, .guard⟩], some (3, false)⟩) rfl (HS.out _ HB3.out) ?r4q4
      try simp only [Act.put, pB, pC, pD]
      refine tkB (i := 5) (oi := ⟨some 39, .load 4 (.tmp 38), 4, "ref.go:278", #[⟨4, .data⟩, ⟨3, .guard⟩], some (3, false)⟩) rfl (HS.out _ HB3.out) ?r5q5
      try simp only [Act.put, pB, pC, pD]
      refine tkB (i := 6) (oi := ⟨some 40, .move (.tmp 39), 4, "ref.go:278", #[⟨5, .data⟩, ⟨3, .chain⟩, ⟨3, .guard⟩], some (3, false)⟩) rfl (HS.out _ HB3.out) ?r6q6
      try simp only [Act.put, pB, pC, pD]
      refine tkB (i := 7) (oi := ⟨some 41, .move (.tmp 7), 4, "ref.go:278", #[⟨6, .guard⟩], some (6, true)⟩) rfl (HS.out _ HB3.out) ?r7q7
      try simp only [Act.put, pB, pC, pD]
      refine tkB (i := 8) (oi := ⟨some 42, .pick (.tmp 40) (.tmp 41) (Operand.const (Value.bool false)), 4, "ref.go:278", #[⟨6, .data⟩, ⟨7, .data⟩, ⟨3, .guard⟩], some (3, false)⟩) rfl (HS.out _ HB3.out) ?r8q8
      try simp only [Act.put, pB, pC, pD]
      refine tkB (i := 9) (oi := ⟨some 43, .move (.tmp 42), 4, "ref.go:278", #[⟨8, .data⟩, ⟨6, .chain⟩, ⟨3, .guard⟩], some (3, false)⟩) rfl (HS.out _ HB3.out) ?r9q9
      try simp only [Act.put, pB, pC, pD]
      refine tkB (i := 10) (oi := ⟨some 44, .load 90 (.tmp 4), 90, "ref.go:278", #[⟨9, .guard⟩], some (9, true)⟩) rfl (HS.out _ HB3.out) ?r10q10
      try simp only [Act.put, pB, pC, pD]
      refine tkB (i := 11) (oi := ⟨some 45, .move (.tmp 2), 3, "ref.go:278", #[⟨9, .guard⟩], some (9, true)⟩) rfl (HS.out _ HB3.out) ?r11q11
      try simp only [Act.put, pB, pC, pD]
      refine tkB (i := 12) (oi := ⟨some 46, .convert 3 21 (.tmp 45), 21, "ref.go:278", #[⟨11, .data⟩, ⟨9, .guard⟩], some (9, true)⟩) rfl (HS.out _ HB3.out) ?r12q12
      try simp only [Act.put, pB, pC, pD]
      refine tkB (i := 13) (oi := ⟨some 47, .call { callee := Callee.value (Operand.func 111), args := #[.tmp 46], argTypes := #[21] }, 21, "ref.go:278", #[⟨12, .data⟩, ⟨9, .chain⟩, ⟨9, .guard⟩], some (9, true)⟩) rfl (HS.out _ HB3.out) ?r13q13
      try simp only [Act.put, pB, pC, pD]
      refine tkB (i := 14) (oi := ⟨some 48, .convert 21 3 (.tmp 47), 3, "ref.go:278", #[⟨13, .data⟩, ⟨9, .guard⟩], some (9, true)⟩) rfl (HS.out _ HB3.out) ?r14q14
      try simp only [Act.put, pB, pC, pD]
      refine tkB (i := 15) (oi := ⟨some 49, .call { callee := Callee.value (Operand.func 110), args := #[.tmp 44, .tmp 48], argTypes := #[90, 3] }, 4, "ref.go:278", #[⟨10, .data⟩, ⟨14, .data⟩, ⟨13, .chain⟩, ⟨9, .guard⟩], some (9, true)⟩) rfl (HS.out _ HB3.out) ?r15q15
      try simp only [Act.put, pB, pC, pD]
      refine tkB (i := 16) (oi := ⟨some 50, .pick (.tmp 43) (.tmp 49) (Operand.const (Value.bool false)), 4, "ref.go:278", #[⟨9, .data⟩, ⟨15, .data⟩, ⟨3, .guard⟩], some (3, false)⟩) rfl (HS.out _ HB3.out) ?r16q16
      try simp only [Act.put, pB, pC, pD]
      refine tkA (i := 17) (oi := ⟨some 51, .pick (.tmp 37) (Operand.const (Value.bool true)) (.tmp 50), 4, "ref.go:278", #[⟨3, .data⟩, ⟨16, .data⟩], none⟩) (v := ?v17q17) rfl ?y17q17 (HS.out _ HB3.out) ?r17q17
      case y17q17 => (rintro w2 ⟨s1, s2, s3, s4, s5, s6, s7⟩; go_simp; try with_reducible rfl)
      try simp only [Act.put, pB, pC, pD]
      refine tkA (i := 18) (oi := ⟨some 8, .assign (.tmp 51), 4, "ref.go:278", #[⟨17, .data⟩, ⟨15, .chain⟩, ⟨0, .phase⟩, ⟨1, .phase⟩, ⟨2, .phase⟩, ⟨3, .phase⟩, ⟨4, .phase⟩, ⟨5, .phase⟩, ⟨6, .phase⟩, ⟨7, .phase⟩, ⟨8, .phase⟩, ⟨9, .phase⟩, ⟨10, .phase⟩, ⟨11, .phase⟩, ⟨12, .phase⟩, ⟨13, .phase⟩, ⟨14, .phase⟩, ⟨15, .phase⟩, ⟨16, .phase⟩, ⟨17, .phase⟩], none⟩) (v := ?v18q18) rfl ?y18q18 (HS.out _ HB3.out) ?r18q18
      case y18q18 => (rintro w2 ⟨s1, s2, s3, s4, s5, s6, s7⟩; go_simp; try with_reducible rfl)
      try simp only [Act.put, pB, pC, pD]
      refine wpAnyH_done (by kernel_rfl) ?_ _
      have n1 := (HST.out.next HB3.out).it.cell 1
      have n2 := (HST.out.next HB3.out).it.lt
      have HBE := Lib.hid (HST.out.next HB3.out).below
      go_wp2_with fail
      go_ret
      exact ⟨by first | rfl | (cases ng <;> rfl) | (cases b2 <;> cases ng <;> rfl), HBE.out⟩
    · go_enter Tryd.func91, Tryd.ntmps91
      go_upto_region 6 with fail
      rw [← HW0.out]
      refine wp_region_held_drew (S := (fun w' : World => w'.cell? ⟨w.heap.size, 1, none⟩ = some (.bool fo) ∧ w'.cell? ⟨w.heap.size + 1, 0, none⟩ = some (.int .i64 91) ∧ w'.cell? ⟨w.heap.size + 1, 1, none⟩ = some (.bool ng) ∧ w'.cell? ⟨w.heap.size + 1, 2, none⟩ = some (.slice a m c) ∧ w'.cell? ⟨w.heap.size + 1, 3, none⟩ = some (.int .i64 ls) ∧ w'.cell? ⟨w.heap.size + 1, 4, none⟩ = some (.bool mn) ∧ w'.cell? ⟨w.heap.size + 1, 5, none⟩ = some (.bool mb))) (by kernel_rfl) (HS.out _ (Below.refl _ W0).drew) (fun hS0 => ?_)
      refine tkA (i := 0) (oi := ⟨some 34, .load 90 (.tmp 4), 90, "ref.go:278", #[], none⟩) (v := ?v0q19) rfl ?y0q19 hS0 ?r0q19
      case y0q19 => (rintro w2 ⟨s1, s2, s3, s4, s5, s6, s7⟩; go_simp; try with_reducible rfl)
      try simp only [Act.put, pB, pC, pD]
      refine tkA (i := 1) (oi := ⟨some 35, .move (.tmp 2), 3, "ref.go:278", #[], none⟩) (v := ?v1q20) rfl ?y1q20 hS0 ?r1q20
      case y1q20 => (rintro w2 ⟨s1, s2, s3, s4, s5, s6, s7⟩; go_simp; try with_reducible rfl)
      try simp only [Act.put, pB, pC, pD]
      refine wpAnyH_ready (rs := [2]) (by kernel_rfl) (by simp) (AllReadyH.cons (o := ⟨some 36, .call { callee := Callee.value (Operand.func 110), args := #[.tmp 34, .tmp 35], argTypes := #[90, 3] }, 4, "ref.go:278", #[⟨0, .data⟩, ⟨1, .data⟩], none⟩) rfl (fun K' hK => ?_) AllReadyH.nil)
      go_simp
      with_reducible refine (HH.out _ (Below.refl _ W0).drew).mono ?_
      rintro e w3 ⟨rfl, hb3⟩
      have HB3 := Lib.hid ((Below.refl W0.heap.size W0).drew.trans (hb3.mono (Nat.le_refl _)))
      clear hb3
      show K' _ _
      refine hK.out _ _ (HS.out _ HB3.out) (fun hSn => ?_)
      try simp only [Act.put, pB, pC, pD]
      clear hK K'
      refine tkA (i := 3) (oi := ⟨some 37, .move (.tmp 36), 4, "ref.go:278", #[⟨2, .data⟩, ⟨2, .chain⟩], none⟩) (v := ?v3q21) rfl ?y3q21 (HS.out _ HB3.out) ?r3q21
      case y3q21 => (rintro w2 ⟨s1, s2, s3, s4, s5, s6, s7⟩; go_simp; try with_reducible rfl)
      try simp only [Act.put, pB, pC, pD]
      refine tkB (i := 4) (oi := ⟨some 38, .fieldAddr 31 (.tmp 3) 1, 0, "ref.go:278", #[⟨3, .guard⟩], some (3, false)⟩) rfl (HS.out _ HB3.out) ?r4q22
      try simp only [Act.put, pB, pC, pD]
      refine tkB (i := 5) (oi := ⟨some 39, .load 4 (.tmp 38), 4, "ref.go:278", #[⟨4, .data⟩, ⟨3, .guard⟩], some (3, false)⟩) rfl (HS.out _ HB3.out) ?r5q23
      try simp only [Act.put, pB, pC, pD]
      refine tkB (i := 6) (oi := ⟨some 40, .move (.tmp 39), 4, "ref.go:278", #[⟨5, .data⟩, ⟨3, .chain⟩, ⟨3, .guard⟩], some (3, false)⟩) rfl (HS.out _ HB3.out) ?r6q24
      try simp only [Act.put, pB, pC, pD]
      refine tkB (i := 7) (oi := ⟨some 41, .move (.tmp 7), 4, "ref.go:278", #[⟨6, .guard⟩], some (6, true)⟩) rfl (HS.out _ HB3.out) ?r7q25
      try simp only [Act.put, pB, pC, pD]
      refine tkB (i := 8) (oi := ⟨some 42, .pick (.tmp 40) (.tmp 41) (Operand.const (Value.bool false)), 4, "ref.go:278", #[⟨6, .data⟩, ⟨7, .data⟩, ⟨3, .guard⟩], some (3, false)⟩) rfl (HS.out _ HB3.out) ?r8q26
      try simp only [Act.put, pB, pC, pD]
      refine tkB (i := 9) (oi := ⟨some 43, .move (.tmp 42), 4, "ref.go:278", #[⟨8, .data⟩, ⟨6, .chain⟩, ⟨3, .guard⟩], some (3, false)⟩) rfl (HS.out _ HB3.out) ?r9q27
      try simp only [Act.put, pB, pC, pD]
      refine tkB (i := 10) (oi := ⟨some 44, .load 90 (.tmp 4), 90, "ref.go:278", #[⟨9, .guard⟩], some (9, true)⟩) rfl (HS.out _ HB3.out) ?r10q28
      try simp only [Act.put, pB, pC, pD]
      refine tkB (i := 11) (oi := ⟨some 45, .move (.tmp 2), 3, "ref.go:278", #[⟨9, .guard⟩], some (9, true)⟩) rfl (HS.out _ HB3.out) ?r11q29
      try simp only [Act.put, pB, pC, pD]
      refine tkB (i := 12) (oi := ⟨some 46, .convert 3 21 (.tmp 45), 21, "ref.go:278", #[⟨11, .data⟩, ⟨9, .guard⟩], some (9, true)⟩) rfl (HS.out _ HB3.out) ?r12q30
      try simp only [Act.put, pB, pC, pD]
      refine tkB (i := 13) (oi := ⟨some 47, .call { callee := Callee.value (Operand.func 111), args := #[.tmp 46], argTypes := #[21] }, 21, "ref.go:278", #[⟨12, .data⟩, ⟨9, .chain⟩, ⟨9, .guard⟩], some (9, true)⟩) rfl (HS.out _ HB3.out) ?r13q31
      try simp only [Act.put, pB, pC, pD]
      refine tkB (i := 14) (oi := ⟨some 48, .convert 21 3 (.tmp 47), 3, "ref.go:278", #[⟨13, .data⟩, ⟨9, .guard⟩], some (9, true)⟩) rfl (HS.out _ HB3.out) ?r14q32
      try simp only [Act.put, pB, pC, pD]
      refine tkB (i := 15) (oi := ⟨some 49, .call { callee := Callee.value (Operand.func 110), args := #[.tmp 44, .tmp 48], argTypes := #[90, 3] }, 4, "ref.go:278", #[⟨10, .data⟩, ⟨14, .data⟩, ⟨13, .chain⟩, ⟨9, .guard⟩], some (9, true)⟩) rfl (HS.out _ HB3.out) ?r15q33
      try simp only [Act.put, pB, pC, pD]
      refine tkB (i := 16) (oi := ⟨some 50, .pick (.tmp 43) (.tmp 49) (Operand.const (Value.bool false)), 4, "ref.go:278", #[⟨9, .data⟩, ⟨15, .data⟩, ⟨3, .guard⟩], some (3, false)⟩) rfl (HS.out _ HB3.out) ?r16q34
      try simp only [Act.put, pB, pC, pD]
      refine tkA (i := 17) (oi := ⟨some 51, .pick (.tmp 37) (Operand.const (Value.bool true)) (.tmp 50), 4, "ref.go:278", #[⟨3, .data⟩, ⟨16, .data⟩], none⟩) (v := ?v17q35) rfl ?y17q35 (HS.out _ HB3.out) ?r17q35
      case y17q35 => (rintro w2 ⟨s1, s2, s3, s4, s5, s6, s7⟩; go_simp; try with_reducible rfl)
      try simp only [Act.put, pB, pC, pD]
      refine tkA (i := 18) (oi := ⟨some 8, .assign (.tmp 51), 4, "ref.go:278", #[⟨17, .data⟩, ⟨15, .chain⟩, ⟨0, .phase⟩, ⟨1, .phase⟩, ⟨2, .phase⟩, ⟨3, .phase⟩, ⟨4, .phase⟩, ⟨5, .phase⟩, ⟨6, .phase⟩, ⟨7, .phase⟩, ⟨8, .phase⟩, ⟨9, .phase⟩, ⟨10, .phase⟩, ⟨11, .phase⟩, ⟨12, .phase⟩, ⟨13, .phase⟩, ⟨14, .phase⟩, ⟨15, .phase⟩, ⟨16, .phase⟩, ⟨17, .phase⟩], none⟩) (v := ?v18q36) rfl ?y18q36 (HS.out _ HB3.out) ?r18q36
      case y18q36 => (rintro w2 ⟨s1, s2, s3, s4, s5, s6, s7⟩; go_simp; try with_reducible rfl)
      try simp only [Act.put, pB, pC, pD]
      refine wpAnyH_done (by kernel_rfl) ?_ _
      have n1 := (HST.out.next HB3.out).it.cell 1
      have n2 := (HST.out.next HB3.out).it.lt
      have HBE := Lib.hid (HST.out.next HB3.out).below
      go_wp2_with fail
      go_ret
      exact ⟨by first | rfl | (cases ng <;> rfl) | (cases b2 <;> cases ng <;> rfl), HBE.out⟩
  | false =>
    rw [Bool.false_or]
    cases fo with
    | false =>
      rw [Bool.false_and, Bool.false_and]
      clear hH2 hz hIV hls hng hmn hmb hwh
      by_cases c1 : z < 1114112
      · go_enter Tryd.func91, Tryd.ntmps91
        go_upto_region 6 with fail
        rw [← HW0.out]
        refine wp_region_held_drew (S := (fun w' : World => w'.cell? ⟨w.heap.size, 1, none⟩ = some (.bool false) ∧ w'.cell? ⟨w.heap.size + 1, 0, none⟩ = some (.int .i64 91) ∧ w'.cell? ⟨w.heap.size + 1, 1, none⟩ = some (.bool ng) ∧ w'.cell? ⟨w.heap.size + 1, 2, none⟩ = some (.slice a m c) ∧ w'.cell? ⟨w.heap.size + 1, 3, none⟩ = some (.int .i64 ls) ∧ w'.cell? ⟨w.heap.size + 1, 4, none⟩ = some (.bool mn) ∧ w'.cell? ⟨w.heap.size + 1, 5, none⟩ = some (.bool mb))) (by kernel_rfl) (HS.out _ (Below.refl _ W0).drew) (fun hS0 => ?_)
        refine tkA (i := 0) (oi := ⟨some 34, .load 90 (.tmp 4), 90, "ref.go:278", #[], none⟩) (v := ?v0q37) rfl ?y0q37 hS0 ?r0q37
        case y0q37 => (rintro w2 ⟨s1, s2, s3, s4, s5, s6, s7⟩; go_simp; try with_reducible rfl)
        try simp only [Act.put, pB, pC, pD]
        refine tkA (i := 1) (oi := ⟨some 35, .move (.tmp 2), 3, "ref.go:278", #[], none⟩) (v := ?v1q38) rfl ?y1q38 hS0 ?r1q38
        case y1q38 => (rintro w2 ⟨s1, s2, s3, s4, s5, s6, s7⟩; go_simp; try with_reducible rfl)
        try simp only [Act.put, pB, pC, pD]
        refine wpAnyH_ready (rs := [2]) (by kernel_rfl) (by simp) (AllReadyH.cons (o := ⟨some 36, .call { callee := Callee.value (Operand.func 110), args := #[.tmp 34, .tmp 35], argTypes := #[90, 3] }, 4, "ref.go:278", #[⟨0, .data⟩, ⟨1, .data⟩], none⟩) rfl (fun K' hK => ?_) AllReadyH.nil)
        go_simp
        with_reducible refine (HH.out _ (Below.refl _ W0).drew).mono ?_
        rintro e w3 ⟨rfl, hb3⟩
        have HB3 := Lib.hid ((Below.refl W0.heap.size W0).drew.trans (hb3.mono (Nat.le_refl _)))
        clear hb3
        show K' _ _
        refine hK.out _ _ (HS.out _ HB3.out) (fun hSn => ?_)
        try simp only [Act.put, pB, pC, pD]
        clear hK K'
        refine tkA (i := 3) (oi := ⟨some 37, .move (.tmp 36), 4, "ref.go:278", #[⟨2, .data⟩, ⟨2, .chain⟩], none⟩) (v := ?v3q39) rfl ?y3q39 (HS.out _ HB3.out) ?r3q39
        case y3q39 => (rintro w2 ⟨s1, s2, s3, s4, s5, s6, s7⟩; go_simp; try with_reducible rfl)
        try simp only [Act.put, pB, pC, pD]
        refine tkA (i := 4) (oi := ⟨some 38, .fieldAddr 31 (.tmp 3) 1, 0, "ref.go:278", #[⟨3, .guard⟩], some (3, false)⟩) (v := ?v4q40) rfl ?y4q40 (HS.out _ HB3.out) ?r4q40
        case y4q40 => (rintro w2 ⟨s1, s2, s3, s4, s5, s6, s7⟩; go_simp; try with_reducible rfl)
        try simp only [Act.put, pB, pC, pD]
        refine tkA (i := 5) (oi := ⟨some 39, .load 4 (.tmp 38), 4, "ref.go:278", #[⟨4, .data⟩, ⟨3, .guard⟩], some (3, false)⟩) (v := ?v5q41) rfl ?y5q41 (HS.out _ HB3.out) ?r5q41
        case y5q41 => (rintro w2 ⟨s1, s2, s3, s4, s5, s6, s7⟩; go_simp; try with_reducible rfl)
        try simp only [Act.put, pB, pC, pD]
        refine tkA (i := 6) (oi := ⟨some 40, .move (.tmp 39), 4, "ref.go:278", #[⟨5, .data⟩, ⟨3, .chain⟩, ⟨3, .guard⟩], some (3, false)⟩) (v := ?v6q42) rfl ?y6q42 (HS.out _ HB3.out) ?r6q42
        case y6q42 => (rintro w2 ⟨s1, s2, s3, s4, s5, s6, s7⟩; go_simp; try with_reducible rfl)
        try simp only [Act.put, pB, pC, pD]
        refine tkB (i := 7) (oi := ⟨some 41, .move (.tmp 7), 4, "ref.go:278", #[⟨6, .guard⟩], some (6, true)⟩) rfl (HS.out _ HB3.out) ?r7q43
        try simp only [Act.put, pB, pC, pD]
        refine tkA (i := 8) (oi := ⟨some 42, .pick (.tmp 40) (.tmp 41) (Operand.const (Value.bool false)), 4, "ref.go:278", #[⟨6, .data⟩, ⟨7, .data⟩, ⟨3, .guard⟩], some (3, false)⟩) (v := ?v8q44) rfl ?y8q44 (HS.out _ HB3.out) ?r8q44
        case y8q44 => (rintro w2 ⟨s1, s2, s3, s4, s5, s6, s7⟩; go_simp; try with_reducible rfl)
        try simp only [Act.put, pB, pC, pD]
        refine tkA (i := 9) (oi := ⟨some 43, .move (.tmp 42), 4, "ref.go:278", #[⟨8, .data⟩, ⟨6, .chain⟩, ⟨3, .guard⟩], some (3, false)⟩) (v := ?v9q45) rfl ?y9q45 (HS.out _ HB3.out) ?r9q45
        case y9q45 => (rintro w2 ⟨s1, s2, s3, s4, s5, s6, s7⟩; go_simp; try with_reducible rfl)
        try simp only [Act.put, pB, pC, pD]
        refine tkB (i := 10) (oi := ⟨some 44, .load 90 (.tmp 4), 90, "ref.go:278", #[⟨9, .guard⟩], some (9, true)⟩) rfl (HS.out _ HB3.out) ?r10q46
        try simp only [Act.put, pB, pC, pD]
        refine tkB (i := 11) (oi := ⟨some 45, .move (.tmp 2), 3, "ref.go:278", #[⟨9, .guard⟩], some (9, true)⟩) rfl (HS.out _ HB3.out) ?r11q47
        try simp only [Act.put, pB, pC, pD]
        refine tkB (i := 12) (oi := ⟨some 46, .convert 3 21 (.tmp 45), 21, "ref.go:278", #[⟨11, .data⟩, ⟨9, .guard⟩], some (9, true)⟩) rfl (HS.out _ HB3.out) ?r12q48
        try simp only [Act.put, pB, pC, pD]
        refine tkB (i := 13) (oi := ⟨some 47, .call { callee := Callee.value (Operand.func 111), args := #[.tmp 46], argTypes := #[21] }, 21, "ref.go:278", #[⟨12, .data⟩, ⟨9, .chain⟩, ⟨9, .guard⟩], some (9, true)⟩) rfl (HS.out _ HB3.out) ?r13q49
        try simp only [Act.put, pB, pC, pD]
        refine tkB (i := 14) (oi := ⟨some 48, .convert 21 3 (.tmp 47), 3, "ref.go:278", #[⟨13, .data⟩, ⟨9, .guard⟩], some (9, true)⟩) rfl (HS.out _ HB3.out) ?r14q50
        try simp only [Act.put, pB, pC, pD]
        refine tkB (i := 15) (oi := ⟨some 49, .call { callee := Callee.value (Operand.func 110), args := #[.tmp 44, .tmp 48], argTypes := #[90, 3] }, 4, "ref.go:278", #[⟨10, .data⟩, ⟨14, .data⟩, ⟨13, .chain⟩, ⟨9, .guard⟩], some (9, true)⟩) rfl (HS.out _ HB3.out) ?r15q51
        try simp only [Act.put, pB, pC, pD]
        refine tkA (i := 16) (oi := ⟨some 50, .pick (.tmp 43) (.tmp 49) (Operand.const (Value.bool false)), 4, "ref.go:278", #[⟨9, .data⟩, ⟨15, .data⟩, ⟨3, .guard⟩], some (3, false)⟩) (v := ?v16q52) rfl ?y16q52 (HS.out _ HB3.out) ?r16q52
        case y16q52 => (rintro w2 ⟨s1, s2, s3, s4, s5, s6, s7⟩; go_simp; try with_reducible rfl)
        try simp only [Act.put, pB, pC, pD]
        refine tkA (i := 17) (oi := ⟨some 51, .pick (.tmp 37) (Operand.const (Value.bool true)) (.tmp 50), 4, "ref.go:278", #[⟨3, .data⟩, ⟨16, .data⟩], none⟩) (v := ?v17q53) rfl ?y17q53 (HS.out _ HB3.out) ?r17q53
        case y17q53 => (rintro w2 ⟨s1, s2, s3, s4, s5, s6, s7⟩; go_simp; try with_reducible rfl)
        try simp only [Act.put, pB, pC, pD]
        refine tkA (i := 18) (oi := ⟨some 8, .assign (.tmp 51), 4, "ref.go:278", #[⟨17, .data⟩, ⟨15, .chain⟩, ⟨0, .phase⟩, ⟨1, .phase⟩, ⟨2, .phase⟩, ⟨3, .phase⟩, ⟨4, .phase⟩, ⟨5, .phase⟩, ⟨6, .phase⟩, ⟨7, .phase⟩, ⟨8, .phase⟩, ⟨9, .phase⟩, ⟨10, .phase⟩, ⟨11, .phase⟩, ⟨12, .phase⟩, ⟨13, .phase⟩, ⟨14, .phase⟩, ⟨15, .phase⟩, ⟨16, .phase⟩, ⟨17, .phase⟩], none⟩) (v := ?v18q54) rfl ?y18q54 (HS.out _ HB3.out) ?r18q54
        case y18q54 => (rintro w2 ⟨s1, s2, s3, s4, s5, s6, s7⟩; go_simp; try with_reducible rfl)
        try simp only [Act.put, pB, pC, pD]
        refine wpAnyH_done (by kernel_rfl) ?_ _
        have n1 := (HST.out.next HB3.out).it.cell 1
        have n2 := (HST.out.next HB3.out).it.lt
        have HBE := Lib.hid (HST.out.next HB3.out).below
        go_wp2_with fail
        go_ret
        exact ⟨by first | rfl | (cases ng <;> rfl) | (cases b2 <;> cases ng <;> rfl), HBE.out⟩
      · go_enter Tryd.func91, Tryd.ntmps91
        go_upto_region 6 with fail
        rw [← HW0.out]
        refine wp_region_held_drew (S := (fun w' : World => w'.cell? ⟨w.heap.size, 1, none⟩ = some (.bool false) ∧ w'.cell? ⟨w.heap.size + 1, 0, none⟩ = some (.int .i64 91) ∧ w'.cell? ⟨w.heap.size + 1, 1, none⟩ = some (.bool ng) ∧ w'.cell? ⟨w.heap.size + 1, 2, none⟩ = some (.slice a m c) ∧ w'.cell? ⟨w.heap.size + 1, 3, none⟩ = some (.int .i64 ls) ∧ w'.cell? ⟨w.heap.size + 1, 4, none⟩ = some (.bool mn) ∧ w'.cell? ⟨w.heap.size + 1, 5, none⟩ = some (.bool mb))) (by kernel_rfl) (HS.out _ (Below.refl _ W0).drew) (fun hS0 => ?_)
        refine tkA (i := 0) (oi := ⟨some 34, .load 90 (.tmp 4), 90, "ref.go:278", #[], none⟩) (v := ?v0q55) rfl ?y0q55 hS0 ?r0q55
        case y0q55 => (rintro w2 ⟨s1, s2, s3, s4, s5, s6, s7⟩; go_simp; try with_reducible rfl)
        try simp only [Act.put, pB, pC, pD]
        refine tkA (i := 1) (oi := ⟨some 35, .move (.tmp 2), 3, "ref.go:278", #[], none⟩) (v := ?v1q56) rfl ?y1q56 hS0 ?r1q56
        case y1q56 => (rintro w2 ⟨s1, s2, s3, s4, s5, s6, s7⟩; go_simp; try with_reducible rfl)
        try simp only [Act.put, pB, pC, pD]
        refine wpAnyH_ready (rs := [2]) (by kernel_rfl) (by simp) (AllReadyH.cons (o := ⟨some 36, .call { callee := Callee.value (Operand.func 110), args := #[.tmp 34, .tmp 35], argTypes := #[90, 3] }, 4, "ref.go:278", #[⟨0, .data⟩, ⟨1, .data⟩], none⟩) rfl (fun K' hK => ?_) AllReadyH.nil)
        go_simp
        with_reducible refine (HH.out _ (Below.refl _ W0).drew).mono ?_
        rintro e w3 ⟨rfl, hb3⟩
        have HB3 := Lib.hid ((Below.refl W0.heap.size W0).drew.trans (hb3.mono (Nat.le_refl _)))
        clear hb3
        show K' _ _
        refine hK.out _ _ (HS.out _ HB3.out) (fun hSn => ?_)
        try simp only [Act.put, pB, pC, pD]
        clear hK K'
        refine tkA (i := 3) (oi := ⟨some 37, .move (.tmp 36), 4, "ref.go:278", #[⟨2, .data⟩, ⟨2, .chain⟩], none⟩) (v := ?v3q57) rfl ?y3q57 (HS.out _ HB3.out) ?r3q57
        case y3q57 => (rintro w2 ⟨s1, s2, s3, s4, s5, s6, s7⟩; go_simp; try with_reducible rfl)
        try simp only [Act.put, pB, pC, pD]
        refine tkA (i := 4) (oi := ⟨some 38, .fieldAddr 31 (.tmp 3) 1, 0, "ref.go:278", #[⟨3, .guard⟩], some (3, false)⟩) (v := ?v4q58) rfl ?y4q58 (HS.out _ HB3.out) ?r4q58
        case y4q58 => (rintro w2 ⟨s1, s2, s3, s4, s5, s6, s7⟩; go_simp; try with_reducible rfl)
        try simp only [Act.put, pB, pC, pD]
        refine tkA (i := 5) (oi := ⟨some 39, .load 4 (.tmp 38), 4, "ref.go:278", #[⟨4, .data⟩, ⟨3, .guard⟩], some (3, false)⟩) (v := ?v5q59) rfl ?y5q59 (HS.out _ HB3.out) ?r5q59
        case y5q59 => (rintro w2 ⟨s1, s2, s3, s4, s5, s6, s7⟩; go_simp; try with_reducible rfl)
        try simp only [Act.put, pB, pC, pD]
        refine tkA (i := 6) (oi := ⟨some 40, .move (.tmp 39), 4, "ref.go:278", #[⟨5, .data⟩, ⟨3, .chain⟩, ⟨3, .guard⟩], some (3, false)⟩) (v := ?v6q60) rfl ?y6q60 (HS.out _ HB3.out) ?r6q60
        case y6q60 => (rintro w2 ⟨s1, s2, s3, s4, s5, s6, s7⟩; go_simp; try with_reducible rfl)
        try simp only [Act.put, pB, pC, pD]
        refine tkB (i := 7) (oi := ⟨some 41, .move (.tmp 7), 4, "ref.go:278", #[⟨6, .guard⟩], some (6, true)⟩) rfl (HS.out _ HB3.out) ?r7q61
        try simp only [Act.put, pB, pC, pD]
        refine tkA (i := 8) (oi := ⟨some 42, .pick (.tmp 40) (.tmp 41) (Operand.const (Value.bool false)), 4, "ref.go:278", #[⟨6, .data⟩, ⟨7, .data⟩, ⟨3, .guard⟩], some (3, false)⟩) (v := ?v8q62) rfl ?y8q62 (HS.out _ HB3.out) ?r8q62
        case y8q62 => (rintro w2 ⟨s1, s2, s3, s4, s5, s6, s7⟩; go_simp; try with_reducible rfl)
        try simp only [Act.put, pB, pC, pD]
        refine tkA (i := 9) (oi := ⟨some 43, .move (.tmp 42), 4, "ref.go:278", #[⟨8, .data⟩, ⟨6, .chain⟩, ⟨3, .guard⟩], some (3, false)⟩) (v := ?v9q63) rfl ?y9q63 (HS.out _ HB3.out) ?r9q63
        case y9q63 => (rintro w2 ⟨s1, s2, s3, s4, s5, s6, s7⟩; go_simp; try with_reducible rfl)
        try simp only [Act.put, pB, pC, pD]
        refine tkB (i := 10) (oi := ⟨some 44, .load 90 (.tmp 4), 90, "ref.go:278", #[⟨9, .guard⟩], some (9, true)⟩) rfl (HS.out _ HB3.out) ?r10q64
        try simp only [Act.put, pB, pC, pD]
        refine tkB (i := 11) (oi := ⟨some 45, .move (.tmp 2), 3, "ref.go:278", #[⟨9, .guard⟩], some (9, true)⟩) rfl (HS.out _ HB3.out) ?r11q65
        try simp only [Act.put, pB, pC, pD]
        refine tkB (i := 12) (oi := ⟨some 46, .convert 3 21 (.tmp 45), 21, "ref.go:278", #[⟨11, .data⟩, ⟨9, .guard⟩], some (9, true)⟩) rfl (HS.out _ HB3.out) ?r12q66
        try simp only [Act.put, pB, pC, pD]
        refine tkB (i := 13) (oi := ⟨some 47, .call { callee := Callee.value (Operand.func 111), args := #[.tmp 46], argTypes := #[21] }, 21, "ref.go:278", #[⟨12, .data⟩, ⟨9, .chain⟩, ⟨9, .guard⟩], some (9, true)⟩) rfl (HS.out _ HB3.out) ?r13q67
        try simp only [Act.put, pB, pC, pD]
        refine tkB (i := 14) (oi := ⟨some 48, .convert 21 3 (.tmp 47), 3, "ref.go:278", #[⟨13, .data⟩, ⟨9, .guard⟩], some (9, true)⟩) rfl (HS.out _ HB3.out) ?r14q68
        try simp only [Act.put, pB, pC, pD]
        refine tkB (i := 15) (oi := ⟨some 49, .call { callee := Callee.value (Operand.func 110), args := #[.tmp 44, .tmp 48], argTypes := #[90, 3] }, 4, "ref.go:278", #[⟨10, .data⟩, ⟨14, .data⟩, ⟨13, .chain⟩, ⟨9, .guard⟩], some (9, true)⟩) rfl (HS.out _ HB3.out) ?r15q69
        try simp only [Act.put, pB, pC, pD]
        refine tkA (i := 16) (oi := ⟨some 50, .pick (.tmp 43) (.tmp 49) (Operand.const (Value.bool false)), 4, "ref.go:278", #[⟨9, .data⟩, ⟨15, .data⟩, ⟨3, .guard⟩], some (3, false)⟩) (v := ?v16q70) rfl ?y16q70 (HS.out _ HB3.out) ?r16q70
        case y16q70 => (rintro w2 ⟨s1, s2, s3, s4, s5, s6, s7⟩; go_simp; try with_reducible rfl)
        try simp only [Act.put, pB, pC, pD]
        refine tkA (i := 17) (oi := ⟨some 51, .pick (.tmp 37) (Operand.const (Value.bool true)) (.tmp 50), 4, "ref.go:278", #[⟨3, .data⟩, ⟨16, .data⟩], none⟩) (v := ?v17q71) rfl ?y17q71 (HS.out _ HB3.out) ?r17q71
        case y17q71 => (rintro w2 ⟨s1, s2, s3, s4, s5, s6, s7⟩; go_simp; try with_reducible rfl)
        try simp only [Act.put, pB, pC, pD]
        refine tkA (i := 18) (oi := ⟨some 8, .assign (.tmp 51), 4, "ref.go:278", #[⟨17, .data⟩, ⟨15, .chain⟩, ⟨0, .phase⟩, ⟨1, .phase⟩, ⟨2, .phase⟩, ⟨3, .phase⟩, ⟨4, .phase⟩, ⟨5, .phase⟩, ⟨6, .phase⟩, ⟨7, .phase⟩, ⟨8, .phase⟩, ⟨9, .phase⟩, ⟨10, .phase⟩, ⟨11, .phase⟩, ⟨12, .phase⟩, ⟨13, .phase⟩, ⟨14, .phase⟩, ⟨15, .phase⟩, ⟨16, .phase⟩, ⟨17, .phase⟩], none⟩) (v := ?v18q72) rfl ?y18q72 (HS.out _ HB3.out) ?r18q72
        case y18q72 => (rintro w2 ⟨s1, s2, s3, s4, s5, s6, s7⟩; go_simp; try with_reducible rfl)
        try simp only [Act.put, pB, pC, pD]
        refine wpAnyH_done (by kernel_rfl) ?_ _
        have n1 := (HST.out.next HB3.out).it.cell 1
        have n2 := (HST.out.next HB3.out).it.lt
        have HBE := Lib.hid (HST.out.next HB3.out).below
        go_wp2_with fail
        go_ret
        exact ⟨by first | rfl | (cases ng <;> rfl) | (cases b2 <;> cases ng <;> rfl), HBE.out⟩
    | true =>
      rw [Bool.true_and]
      by_cases c1 : z < 1114112
      · have hvw : v < wrongN := by unfold wrongN; omega
        rw [decide_eq_true hvw, Bool.true_and]
        have hfl := foldN_lt hvw
        have hfb : foldN v < 2000000 := by unfold wrongN at hfl; omega
        have HFO := Lib.hid (fun W => hz ▸ foldR6 W v (by unfold wrongN at hvw; omega))
        obtain ⟨fz, hfz⟩ : ∃ z : Int, (foldN v : Int) = z := ⟨_, rfl⟩
        obtain ⟨b2, hb2⟩ : ∃ b, hasV it.els (foldN v) = b := ⟨_, rfl⟩
        have HH2 : Hid (∀ W, Below W0.heap.size W0 W → Calls Tryd.prog 110 #[.agg #[.int .i64 91, .bool ng, .slice a m c, .int .i64 ls, .bool mn, .bool mb], .int .i64 fz] W fun e w' => e = .returned (.bool b2) ∧ Below W.heap.size W w') := Lib.hid (fun W hW => by
          have := hH2 W (HST.out.next hW).below hfb
          rw [hfz, hb2] at this
          exact this)
        rw [hb2]
        rw [hfz] at HFO
        have hfz0 : 0 ≤ fz ∧ fz < 2000000 := by omega
        obtain ⟨hfz0, hfz1⟩ := hfz0
        have hw32 : IntKind.i32.wrap z = z := IntWalk.i32_in _ (by omega)
        have hw64 : IntKind.i64.wrap fz = fz := IntWalk.i64_in _ (by omega)
        clear hH2 hz hIV hls hng hmn hmb hwh hfl hfb hfz hb2 hvw
        go_enter Tryd.func91, Tryd.ntmps91
        go_upto_region 6 with fail
        rw [← HW0.out]
        refine wp_region_held_drew (S := (fun w' : World => w'.cell? ⟨w.heap.size, 1, none⟩ = some (.bool true) ∧ w'.cell? ⟨w.heap.size + 1, 0, none⟩ = some (.int .i64 91) ∧ w'.cell? ⟨w.heap.size + 1, 1, none⟩ = some (.bool ng) ∧ w'.cell? ⟨w.heap.size + 1, 2, none⟩ = some (.slice a m c) ∧ w'.cell? ⟨w.heap.size + 1, 3, none⟩ = some (.int .i64 ls) ∧ w'.cell? ⟨w.heap.size + 1, 4, none⟩ = some (.bool mn) ∧ w'.cell? ⟨w.heap.size + 1, 5, none⟩ = some (.bool mb))) (by kernel_rfl) (HS.out _ (Below.refl _ W0).drew) (fun hS0 => ?_)
        refine tkA (i := 0) (oi := ⟨some 34, .load 90 (.tmp 4), 90, "ref.go:278", #[], none⟩) (v := ?v0q73) rfl ?y0q73 hS0 ?r0q73
        case y0q73 => (rintro w2 ⟨s1, s2, s3, s4, s5, s6, s7⟩; go_simp; try with_reducible rfl)
        try simp only [Act.put, pB, pC, pD]
        refine tkA (i := 1) (oi := ⟨some 35, .move (.tmp 2), 3, "ref.go:278", #[], none⟩) (v := ?v1q74) rfl ?y1q74 hS0 ?r1q74
        case y1q74 => (rintro w2 ⟨s1, s2, s3, s4, s5, s6, s7⟩; go_simp; try with_reducible rfl)
        try simp only [Act.put, pB, pC, pD]
        refine wpAnyH_ready (rs := [2]) (by kernel_rfl) (by simp) (AllReadyH.cons (o := ⟨some 36, .call { callee := Callee.value (Operand.func 110), args := #[.tmp 34, .tmp 35], argTypes := #[90, 3] }, 4, "ref.go:278", #[⟨0, .data⟩, ⟨1, .data⟩], none⟩) rfl (fun K' hK => ?_) AllReadyH.nil)
        go_simp
        with_reducible refine (HH.out _ (Below.refl _ W0).drew).mono ?_
        rintro e w3 ⟨rfl, hb3⟩
        have HB3 := Lib.hid ((Below.refl W0.heap.size W0).drew.trans (hb3.mono (Nat.le_refl _)))
        clear hb3
        show K' _ _
        refine hK.out _ _ (HS.out _ HB3.out) (fun hSn => ?_)
        try simp only [Act.put, pB, pC, pD]
        clear hK K'
        refine tkA (i := 3) (oi := ⟨some 37, .move (.tmp 36), 4, "ref.go:278", #[⟨2, .data⟩, ⟨2, .chain⟩], none⟩) (v := ?v3q75) rfl ?y3q75 (HS.out _ HB3.out) ?r3q75
        case y3q75 => (rintro w2 ⟨s1, s2, s3, s4, s5, s6, s7⟩; go_simp; try with_reducible rfl)
        try simp only [Act.put, pB, pC, pD]
        refine tkA (i := 4) (oi := ⟨some 38, .fieldAddr 31 (.tmp 3) 1, 0, "ref.go:278", #[⟨3, .guard⟩], some (3, false)⟩) (v := ?v4q76) rfl ?y4q76 (HS.out _ HB3.out) ?r4q76
        case y4q76 => (rintro w2 ⟨s1, s2, s3, s4, s5, s6, s7⟩; go_simp; try with_reducible rfl)
        try simp only [Act.put, pB, pC, pD]
        refine tkA (i := 5) (oi := ⟨some 39, .load 4 (.tmp 38), 4, "ref.go:278", #[⟨4, .data⟩, ⟨3, .guard⟩], some (3, false)⟩) (v := ?v5q77) rfl ?y5q77 (HS.out _ HB3.out) ?r5q77
        case y5q77 => (rintro w2 ⟨s1, s2, s3, s4, s5, s6, s7⟩; go_simp; try with_reducible rfl)
        try simp only [Act.put, pB, pC, pD]
        refine tkA (i := 6) (oi := ⟨some 40, .move (.tmp 39), 4, "ref.go:278", #[⟨5, .data⟩, ⟨3, .chain⟩, ⟨3, .guard⟩], some (3, false)⟩) (v := ?v6q78) rfl ?y6q78 (HS.out _ HB3.out) ?r6q78
        case y6q78 => (rintro w2 ⟨s1, s2, s3, s4, s5, s6, s7⟩; go_simp; try with_reducible rfl)
        try simp only [Act.put, pB, pC, pD]
        refine tkA (i := 7) (oi := ⟨some 41, .move (.tmp 7), 4, "ref.go:278", #[⟨6, .guard⟩], some (6, true)⟩) (v := ?v7q79) rfl ?y7q79 (HS.out _ HB3.out) ?r7q79
        case y7q79 => (rintro w2 ⟨s1, s2, s3, s4, s5, s6, s7⟩; go_simp; try with_reducible rfl)
        try simp only [Act.put, pB, pC, pD]
        refine tkA (i := 8) (oi := ⟨some 42, .pick (.tmp 40) (.tmp 41) (Operand.const (Value.bool false)), 4, "ref.go:278", #[⟨6, .data⟩, ⟨7, .data⟩, ⟨3, .guard⟩], some (3, false)⟩) (v := ?v8q80) rfl ?y8q80 (HS.out _ HB3.out) ?r8q80
        case y8q80 => (rintro w2 ⟨s1, s2, s3, s4, s5, s6, s7⟩; go_simp; try with_reducible rfl)
        try simp only [Act.put, pB, pC, pD]
        refine tkA (i := 9) (oi := ⟨some 43, .move (.tmp 42), 4, "ref.go:278", #[⟨8, .data⟩, ⟨6, .chain⟩, ⟨3, .guard⟩], some (3, false)⟩) (v := ?v9q81) rfl ?y9q81 (HS.out _ HB3.out) ?r9q81
        case y9q81 => (rintro w2 ⟨s1, s2, s3, s4, s5, s6, s7⟩; go_simp; try with_reducible rfl)
        try simp only [Act.put, pB, pC, pD]
        refine tkA (i := 10) (oi := ⟨some 44, .load 90 (.tmp 4), 90, "ref.go:278", #[⟨9, .guard⟩], some (9, true)⟩) (v := ?v10q82) rfl ?y10q82 (HS.out _ HB3.out) ?r10q82
        case y10q82 => (rintro w2 ⟨s1, s2, s3, s4, s5, s6, s7⟩; go_simp; try with_reducible rfl)
        try simp only [Act.put, pB, pC, pD]
        refine tkA (i := 11) (oi := ⟨some 45, .move (.tmp 2), 3, "ref.go:278", #[⟨9, .guard⟩], some (9, true)⟩) (v := ?v11q83) rfl ?y11q83 (HS.out _ HB3.out) ?r11q83
        case y11q83 => (rintro w2 ⟨s1, s2, s3, s4, s5, s6, s7⟩; go_simp; try with_reducible rfl)
        try simp only [Act.put, pB, pC, pD]
        refine tkA (i := 12) (oi := ⟨some 46, .convert 3 21 (.tmp 45), 21, "ref.go:278", #[⟨11, .data⟩, ⟨9, .guard⟩], some (9, true)⟩) (v := ?v12q84) rfl ?y12q84 (HS.out _ HB3.out) ?r12q84
        case y12q84 => (rintro w2 ⟨s1, s2, s3, s4, s5, s6, s7⟩; go_simp; try with_reducible rfl)
        try simp only [Act.put, pB, pC, pD]
        refine wpAnyH_ready (rs := [13]) (by kernel_rfl) (by simp) (AllReadyH.cons (o := ⟨some 47, .call { callee := Callee.value (Operand.func 111), args := #[.tmp 46], argTypes := #[21] }, 21, "ref.go:278", #[⟨12, .data⟩, ⟨9, .chain⟩, ⟨9, .guard⟩], some (9, true)⟩) rfl (fun K' hK => ?_) AllReadyH.nil)
        go_simp
        with_reducible refine (HFO.out _).mono ?_
        rintro e w4 ⟨rfl, hb4⟩
        have HB4 := Lib.hid (HB3.out.trans (hb4.mono HB3.out.size))
        clear hb4
        show K' _ _
        refine hK.out _ _ (HS.out _ HB4.out) (fun hSn => ?_)
        try simp only [Act.put, pB, pC, pD]
        clear hK K'
        refine tkA (i := 14) (oi := ⟨some 48, .convert 21 3 (.tmp 47), 3, "ref.go:278", #[⟨13, .data⟩, ⟨9, .guard⟩], some (9, true)⟩) (v := ?v14q85) rfl ?y14q85 (HS.out _ HB4.out) ?r14q85
        case y14q85 => (rintro w2 ⟨s1, s2, s3, s4, s5, s6, s7⟩; go_simp; try with_reducible rfl)
        try simp only [Act.put, pB, pC, pD]
        refine wpAnyH_ready (rs := [15]) (by kernel_rfl) (by simp) (AllReadyH.cons (o := ⟨some 49, .call { callee := Callee.value (Operand.func 110), args := #[.tmp 44, .tmp 48], argTypes := #[90, 3] }, 4, "ref.go:278", #[⟨10, .data⟩, ⟨14, .data⟩, ⟨13, .chain⟩, ⟨9, .guard⟩], some (9, true)⟩) rfl (fun K' hK => ?_) AllReadyH.nil)
        go_simp
        with_reducible refine (HH2.out _ HB4.out).mono ?_
        rintro e w5 ⟨rfl, hb5⟩
        have HB5 := Lib.hid (HB4.out.trans (hb5.mono HB4.out.size))
        clear hb5
        show K' _ _
        refine hK.out _ _ (HS.out _ HB5.out) (fun hSn => ?_)
        try simp only [Act.put, pB, pC, pD]
        clear hK K'
        refine tkA (i := 16) (oi := ⟨some 50, .pick (.tmp 43) (.tmp 49) (Operand.const (Value.bool false)), 4, "ref.go:278", #[⟨9, .data⟩, ⟨15, .data⟩, ⟨3, .guard⟩], some (3, false)⟩) (v := ?v16q86) rfl ?y16q86 (HS.out _ HB5.out) ?r16q86
        case y16q86 => (rintro w2 ⟨s1, s2, s3, s4, s5, s6, s7⟩; go_simp; try with_reducible rfl)
        try simp only [Act.put, pB, pC, pD]
        refine tkA (i := 17) (oi := ⟨some 51, .pick (.tmp 37) (Operand.const (Value.bool true)) (.tmp 50), 4, "ref.go:278", #[⟨3, .data⟩, ⟨16, .data⟩], none⟩) (v := ?v17q87) rfl ?y17q87 (HS.out _ HB5.out) ?r17q87
        case y17q87 => (rintro w2 ⟨s1, s2, s3, s4, s5, s6, s7⟩; go_simp; try with_reducible rfl)
        try simp only [Act.put, pB, pC, pD]
        refine tkA (i := 18) (oi := ⟨some 8, .assign (.tmp 51), 4, "ref.go:278", #[⟨17, .data⟩, ⟨15, .chain⟩, ⟨0, .phase⟩, ⟨1, .phase⟩, ⟨2, .phase⟩, ⟨3, .phase⟩, ⟨4, .phase⟩, ⟨5, .phase⟩, ⟨6, .phase⟩, ⟨7, .phase⟩, ⟨8, .phase⟩, ⟨9, .phase⟩, ⟨10, .phase⟩, ⟨11, .phase⟩, ⟨12, .phase⟩, ⟨13, .phase⟩, ⟨14, .phase⟩, ⟨15, .phase⟩, ⟨16, .phase⟩, ⟨17, .phase⟩], none⟩) (v := ?v18q88) rfl ?y18q88 (HS.out _ HB5.out) ?r18q88
        case y18q88 => (rintro w2 ⟨s1, s2, s3, s4, s5, s6, s7⟩; go_simp; try with_reducible rfl)
        try simp only [Act.put, pB, pC, pD]
        refine wpAnyH_done (by kernel_rfl) ?_ _
        have n1 := (HST.out.next HB5.out).it.cell 1
        have n2 := (HST.out.next HB5.out).it.lt
        have HBE := Lib.hid (HST.out.next HB5.out).below
        go_wp2_with fail
        go_ret
        exact ⟨by first | rfl | (cases ng <;> rfl) | (cases b2 <;> cases ng <;> rfl), HBE.out⟩
      · rw [decide_eq_false (show ¬ v < wrongN by unfold wrongN; omega), Bool.false_and]
        clear hH2 hz hIV hls hng hmn hmb hwh
        go_enter Tryd.func91, Tryd.ntmps91
        go_upto_region 6 with fail
        rw [← HW0.out]
        refine wp_region_held_drew (S := (fun w' : World => w'.cell? ⟨w.heap.size, 1, none⟩ = some (.bool true) ∧ w'.cell? ⟨w.heap.size + 1, 0, none⟩ = some (.int .i64 91) ∧ w'.cell? ⟨w.heap.size + 1, 1, none⟩ = some (.bool ng) ∧ w'.cell? ⟨w.heap.size + 1, 2, none⟩ = some (.slice a m c) ∧ w'.cell? ⟨w.heap.size + 1, 3, none⟩ = some (.int .i64 ls) ∧ w'.cell? ⟨w.heap.size + 1, 4, none⟩ = some (.bool mn) ∧ w'.cell? ⟨w.heap.size + 1, 5, none⟩ = some (.bool mb))) (by kernel_rfl) (HS.out _ (Below.refl _ W0).drew) (fun hS0 => ?_)
        refine tkA (i := 0) (oi := ⟨some 34, .load 90 (.tmp 4), 90, "ref.go:278", #[], none⟩) (v := ?v0q89) rfl ?y0q89 hS0 ?r0q89
        case y0q89 => (rintro w2 ⟨s1, s2, s3, s4, s5, s6, s7⟩; go_simp; try with_reducible rfl)
        try simp only [Act.put, pB, pC, pD]
        refine tkA (i := 1) (oi := ⟨some 35, .move (.tmp 2), 3, "ref.go:278", #[], none⟩) (v := ?v1q90) rfl ?y1q90 hS0 ?r1q90
        case y1q90 => (rintro w2 ⟨s1, s2, s3, s4, s5, s6, s7⟩; go_simp; try with_reducible rfl)
        try simp only [Act.put, pB, pC, pD]
        refine wpAnyH_ready (rs := [2]) (by kernel_rfl) (by simp) (AllReadyH.cons (o := ⟨some 36, .call { callee := Callee.value (Operand.func 110), args := #[.tmp 34, .tmp 35], argTypes := #[90, 3] }, 4, "ref.go:278", #[⟨0, .data⟩, ⟨1, .data⟩], none⟩) rfl (fun K' hK => ?_) AllReadyH.nil)
        go_simp
        with_reducible refine (HH.out _ (Below.refl _ W0).drew).mono ?_
        rintro e w3 ⟨rfl, hb3⟩
        have HB3 := Lib.hid ((Below.refl W0.heap.size W0).drew.trans (hb3.mono (Nat.le_refl _)))
        clear hb3
        show K' _ _
        refine hK.out _ _ (HS.out _ HB3.out) (fun hSn => ?_)
        try simp only [Act.put, pB, pC, pD]
        clear hK K'
        refine tkA (i := 3) (oi := ⟨some 37, .move (.tmp 36), 4, "ref.go:278", #[⟨2, .data⟩, ⟨2, .chain⟩], none⟩) (v := ?v3q91) rfl ?y3q91 (HS.out _ HB3.out) ?r3q91
        case y3q91 => (rintro w2 ⟨s1, s2, s3, s4, s5, s6, s7⟩; go_simp; try with_reducible rfl)
        try simp only [Act.put, pB, pC, pD]
        refine tkA (i := 4) (oi := ⟨some 38, .fieldAddr 31 (.tmp 3) 1, 0, "ref.go:278", #[⟨3, .guard⟩], some (3, false)⟩) (v := ?v4q92) rfl ?y4q92 (HS.out _ HB3.out) ?r4q92
        case y4q92 => (rintro w2 ⟨s1, s2, s3, s4, s5, s6, s7⟩; go_simp; try with_reducible rfl)
        try simp only [Act.put, pB, pC, pD]
        refine tkA (i := 5) (oi := ⟨some 39, .load 4 (.tmp 38), 4, "ref.go:278", #[⟨4, .data⟩, ⟨3, .guard⟩], some (3, false)⟩) (v := ?v5q93) rfl ?y5q93 (HS.out _ HB3.out) ?r5q93
        case y5q93 => (rintro w2 ⟨s1, s2, s3, s4, s5, s6, s7⟩; go_simp; try with_reducible rfl)
        try simp only [Act.put, pB, pC, pD]
        refine tkA (i := 6) (oi := ⟨some 40, .move (.tmp 39), 4, "ref.go:278", #[⟨5, .data⟩, ⟨3, .chain⟩, ⟨3, .guard⟩], some (3, false)⟩) (v := ?v6q94) rfl ?y6q94 (HS.out _ HB3.out) ?r6q94
        case y6q94 => (rintro w2 ⟨s1, s2, s3, s4, s5, s6, s7⟩; go_simp; try with_reducible rfl)
        try simp only [Act.put, pB, pC, pD]
        refine tkA (i := 7) (oi := ⟨some 41, .move (.tmp 7), 4, "ref.go:278", #[⟨6, .guard⟩], some (6, true)⟩) (v := ?v7q95) rfl ?y7q95 (HS.out _ HB3.out) ?r7q95
        case y7q95 => (rintro w2 ⟨s1, s2, s3, s4, s5, s6, s7⟩; go_simp; try with_reducible rfl)
        try simp only [Act.put, pB, pC, pD]
        refine tkA (i := 8) (oi := ⟨some 42, .pick (.tmp 40) (.tmp 41) (Operand.const (Value.bool false)), 4, "ref.go:278", #[⟨6, .data⟩, ⟨7, .data⟩, ⟨3, .guard⟩], some (3, false)⟩) (v := ?v8q96) rfl ?y8q96 (HS.out _ HB3.out) ?r8q96
        case y8q96 => (rintro w2 ⟨s1, s2, s3, s4, s5, s6, s7⟩; go_simp; try with_reducible rfl)
        try simp only [Act.put, pB, pC, pD]
        refine tkA (i := 9) (oi := ⟨some 43, .move (.tmp 42), 4, "ref.go:278", #[⟨8, .data⟩, ⟨6, .chain⟩, ⟨3, .guard⟩], some (3, false)⟩) (v := ?v9q97) rfl ?y9q97 (HS.out _ HB3.out) ?r9q97
        case y9q97 => (rintro w2 ⟨s1, s2, s3, s4, s5, s6, s7⟩; go_simp; try with_reducible rfl)
        try simp only [Act.put, pB, pC, pD]
        refine tkB (i := 10) (oi := ⟨some 44, .load 90 (.tmp 4), 90, "ref.go:278", #[⟨9, .guard⟩], some (9, true)⟩) rfl (HS.out _ HB3.out) ?r10q98
        try simp only [Act.put, pB, pC, pD]
        refine tkB (i := 11) (oi := ⟨some 45, .move (.tmp 2), 3, "ref.go:278", #[⟨9, .guard⟩], some (9, true)⟩) rfl (HS.out _ HB3.out) ?r11q99
        try simp only [Act.put, pB, pC, pD]
        refine tkB (i := 12) (oi := ⟨some 46, .convert 3 21 (.tmp 45), 21, "ref.go:278", #[⟨11, .data⟩, ⟨9, .guard⟩], some (9, true)⟩) rfl (HS.out _ HB3.out) ?r12q100
        try simp only [Act.put, pB, pC, pD]
        refine tkB (i := 13) (oi := ⟨some 47, .call { callee := Callee.value (Operand.func 111), args := #[.tmp 46], argTypes := #[21] }, 21, "ref.go:278", #[⟨12, .data⟩, ⟨9, .chain⟩, ⟨9, .guard⟩], some (9, true)⟩) rfl (HS.out _ HB3.out) ?r13q101
        try simp only [Act.put, pB, pC, pD]
        refine tkB (i := 14) (oi := ⟨some 48, .convert 21 3 (.tmp 47), 3, "ref.go:278", #[⟨13, .data⟩, ⟨9, .guard⟩], some (9, true)⟩) rfl (HS.out _ HB3.out) ?r14q102
        try simp only [Act.put, pB, pC, pD]
        refine tkB (i := 15) (oi := ⟨some 49, .call { callee := Callee.value (Operand.func 110), args := #[.tmp 44, .tmp 48], argTypes := #[90, 3] }, 4, "ref.go:278", #[⟨10, .data⟩, ⟨14, .data⟩, ⟨13, .chain⟩, ⟨9, .guard⟩], some (9, true)⟩) rfl (HS.out _ HB3.out) ?r15q103
        try simp only [Act.put, pB, pC, pD]
        refine tkA (i := 16) (oi := ⟨some 50, .pick (.tmp 43) (.tmp 49) (Operand.const (Value.bool false)), 4, "ref.go:278", #[⟨9, .data⟩, ⟨15, .data⟩, ⟨3, .guard⟩], some (3, false)⟩) (v := ?v16q104) rfl ?y16q104 (HS.out _ HB3.out) ?r16q104
        case y16q104 => (rintro w2 ⟨s1, s2, s3, s4, s5, s6, s7⟩; go_simp; try with_reducible rfl)
        try simp only [Act.put, pB, pC, pD]
        refine tkA (i := 17) (oi := ⟨some 51, .pick (.tmp 37) (Operand.const (Value.bool true)) (.tmp 50), 4, "ref.go:278", #[⟨3, .data⟩, ⟨16, .data⟩], none⟩) (v := ?v17q105) rfl ?y17q105 (HS.out _ HB3.out) ?r17q105
        case y17q105 => (rintro w2 ⟨s1, s2, s3, s4, s5, s6, s7⟩; go_simp; try with_reducible rfl)
        try simp only [Act.put, pB, pC, pD]
        refine tkA (i := 18) (oi := ⟨some 8, .assign (.tmp 51), 4, "ref.go:278", #[⟨17, .data⟩, ⟨15, .chain⟩, ⟨0, .phase⟩, ⟨1, .phase⟩, ⟨2, .phase⟩, ⟨3, .phase⟩, ⟨4, .phase⟩, ⟨5, .phase⟩, ⟨6, .phase⟩, ⟨7, .phase⟩, ⟨8, .phase⟩, ⟨9, .phase⟩, ⟨10, .phase⟩, ⟨11, .phase⟩, ⟨12, .phase⟩, ⟨13, .phase⟩, ⟨14, .phase⟩, ⟨15, .phase⟩, ⟨16, .phase⟩, ⟨17, .phase⟩], none⟩) (v := ?v18q106) rfl ?y18q106 (HS.out _ HB3.out) ?r18q106
        case y18q106 => (rintro w2 ⟨s1, s2, s3, s4, s5, s6, s7⟩; go_simp; try with_reducible rfl)
        try simp only [Act.put, pB, pC, pD]
        refine wpAnyH_done (by kernel_rfl) ?_ _
        have n1 := (HST.out.next HB3.out).it.cell 1
        have n2 := (HST.out.next HB3.out).it.lt
        have HBE := Lib.hid (HST.out.next HB3.out).below
        go_wp2_with fail
        go_ret
        exact ⟨by first | rfl | (cases ng <;> rfl) | (cases b2 <;> cases ng <;> rfl), HBE.out⟩
end Go.Proofs.YtchdeboialbdiaaDoor
