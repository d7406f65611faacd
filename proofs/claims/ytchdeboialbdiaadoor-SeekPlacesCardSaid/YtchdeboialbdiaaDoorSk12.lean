/- Texts joined, one behind the other (SSetB). -/
import Derived.Test.YtchdeboialbdiaaDoorSk11
import Derived.Deep.RegionHeld3
/- The scanner: a set's function value. -/
namespace Go.Proofs.YtchdeboialbdiaaDoor
set_option linter.unusedVariables false
set_option linter.unusedSimpArgs false
open Go.RowKit
open Go.Lib hiding intOf
def setHas (fo neg : Bool) (P : Nat → Bool) (v : Nat) : Bool := (P v || (fo && decide (v < wrongN) && P (foldN v))) != neg
set_option maxHeartbeats 4000000 in
set_option maxRecDepth 100000 in
theorem set3C (w : World) (K : Nat → Prop) (g1 g2 g3 : Nat) (f : Value) (fo neg : Bool) (P : Nat → Bool) (h1 : Row w g1 124 [f]) (h2 : Row w g2 4 [.bool fo]) (h3 : Row w g3 4 [.bool neg]) (hf : FunAt K w f P) (v : Nat) (hv : OkC v) : Calls Tryd.prog 80 #[tokV v, .pointer (some ⟨g1, 0, none⟩), .pointer (some ⟨g2, 0, none⟩), .pointer (some ⟨g3, 0, none⟩)] w fun e w' => e = .returned (.bool (setHas fo neg P v)) ∧ Below w.heap.size w w' := by
  obtain ⟨gf, cs, rfl⟩ := hf.shape
  obtain ⟨x, y, htv, hx, hy⟩ : ∃ x y : Int, tokV v = .agg #[.int .i32 x, .int .i64 y] ∧ (tokR v : Int) = x ∧ (tokW v : Int) = y := ⟨_, _, rfl, rfl, rfl⟩
  rw [htv]
  obtain ⟨_, g', cs', hshape, hent, hcall⟩ := hf
  obtain ⟨rfl, rfl⟩ : g' = gf ∧ cs' = cs := by
    simp only [Value.func.injEq, Fn.func.injEq] at hshape
    exact ⟨hshape.1.symm, hshape.2.2.symm⟩
  obtain ⟨w1, hw1⟩ : ∃ w1, w1 = w.alloc (.cells #[.int .i32 x, .int .i64 y] 79) := ⟨_, rfl⟩
  have hb1 : Below w.heap.size w w1 := by rw [hw1]; exact (Below.refl _ w).alloc (Nat.le_refl _) _
  have hbox : Row w1 w.heap.size 79 [.int .i32 x, .int .i64 y] := by rw [hw1]; exact row_new w [.int .i32 x, .int .i64 y] 79
  have hS : ∀ W, Below w1.heap.size w1 W → W.cell? ⟨g1, 0, none⟩ = some (.func (.func g') #[] cs') ∧ W.cell? ⟨g2, 0, none⟩ = some (.bool fo) ∧ W.cell? ⟨w.heap.size, 0, none⟩ = some (.int .i32 x) ∧ W.cell? ⟨w.heap.size, 1, none⟩ = some (.int .i64 y) := fun W hW => by
    have hl := hb1.size
    have r1 := (h1.keep hb1 h1.lt).keep hW (Nat.lt_of_lt_of_le h1.lt hl)
    have r2 := (h2.keep hb1 h2.lt).keep hW (Nat.lt_of_lt_of_le h2.lt hl)
    have r3 := hbox.keep hW hbox.lt
    exact ⟨r1.cell 0, r2.cell 0, r3.cell 0, r3.cell 1⟩
  have hC : ∀ W, Below w1.heap.size w1 W → ∀ u, OkC u → Calls Tryd.prog g' (#[tokV u] ++ cs') W fun e w' => e = .returned (.bool (P u)) ∧ Below W.heap.size W w' := fun W hW u hu => by
    have hl := hb1.size
    exact hcall W (fun k hk => by
      have hkl := ‹∀ k, K k → k < w.heap.size› k hk
      rw [hW.block k (Nat.lt_of_lt_of_le hkl hl), hb1.block k hkl]) (Nat.le_trans hl hW.size) u hu
  have hq0 : Below w1.heap.size w1 w1.drew := Quiet.below ⟨1, rfl⟩ _
  have hneg : ∀ W, Below w1.heap.size w1 W → W.cell? ⟨g3, 0, none⟩ = some (.bool neg) ∧ Below w.heap.size w W := fun W hW => by
    have hl := hb1.size
    exact ⟨((h3.keep hb1 h3.lt).keep hW (Nat.lt_of_lt_of_le h3.lt hl)).cell 0, hb1.trans (hW.mono hl)⟩
  have HS := Lib.hid hS
  have HC := Lib.hid hC
  have HN := Lib.hid hneg
  clear hcall hS hC hneg h1 h2 h3 hshape hbox
  unfold setHas
  obtain ⟨b1, hP1⟩ : ∃ b, P v = b := ⟨_, rfl⟩
  rw [hP1]
  have HC1 : Hid (∀ W, Below w1.heap.size w1 W → Calls Tryd.prog g' (#[.agg #[.int .i32 x, .int .i64 y]] ++ cs') W fun e w' => e = .returned (.bool b1) ∧ Below W.heap.size W w') := Lib.hid (fun W hW => by
    have := HC.out W hW v hv
    rwa [hP1, htv] at this)
  have hs0 := HS.out _ hq0
  have HW1 := Lib.hid hw1
  clear hw1
  cases b1 with
  | true =>
    clear hv hx hy hP1 htv
    go_enter Tryd.func80, Tryd.ntmps80
    go_wp2_with fail
    rw [← HW1.out]
    refine wp_region_held_drew (S := (fun w' : World => w'.cell? ⟨g1, 0, none⟩ = some (.func (.func g') #[] cs') ∧ w'.cell? ⟨g2, 0, none⟩ = some (.bool fo) ∧ w'.cell? ⟨w.heap.size, 0, none⟩ = some (.int .i32 x) ∧ w'.cell? ⟨w.heap.size, 1, none⟩ = some (.int .i64 y))) (by kernel_rfl) hs0 (fun hS0 => ?_)
    refine tkA (i := 0) (oi := ⟨some 7, .load 124 (.tmp 1), 124, "seek.go:283", #[], none⟩) (v := ?v0q1) rfl ?y0q1 hS0 ?r0q1
    case y0q1 => (rintro w2 ⟨s1, s2, s3, s4⟩; go_simp; try with_reducible rfl)
    try simp only [Act.put, pB, pC, pD]
    refine tkA (i := 1) (oi := ⟨some 8, .load 79 (.tmp 4), 79, "seek.go:283", #[], none⟩) (v := ?v1q2) rfl ?y1q2 hS0 ?r1q2
    case y1q2 => (rintro w2 ⟨s1, s2, s3, s4⟩; go_simp; try with_reducible rfl)
    try simp only [Act.put, pB, pC, pD]
    refine wpAnyH_ready (rs := [2]) (by kernel_rfl) (by simp) (AllReadyH.cons rfl (fun K' hK => ?_) AllReadyH.nil)
    go_simp
    refine (HC1.out _ hq0).mono ?_
    rintro e w9 ⟨rfl, hb9⟩
    show K' _ _
    refine hK.out _ _ (HS.out _ (below_next hq0 (Nat.le_refl _) hb9)) (fun hSn => ?_)
    try simp only [Act.put, pB, pC, pD]
    clear hK K'
    have hq9 := below_next hq0 (Nat.le_refl _) hb9
    clear hb9
    refine tkA (i := 3) (oi := ⟨some 10, .move (.tmp 9), 4, "seek.go:283", #[⟨2, .data⟩, ⟨2, .chain⟩], none⟩) (v := ?v3q3) rfl ?y3q3 (HS.out _ hq9) ?r3q3
    case y3q3 => (rintro w2 ⟨s1, s2, s3, s4⟩; go_simp; try with_reducible rfl)
    try simp only [Act.put, pB, pC, pD]
    refine tkB (i := 4) (oi := ⟨some 11, .load 4 (.tmp 2), 4, "seek.go:283", #[⟨3, .guard⟩], some (3, false)⟩) rfl (HS.out _ hq9) ?r4q4
    try simp only [Act.put, pB, pC, pD]
    refine tkB (i := 5) (oi := ⟨some 12, .move (.tmp 11), 4, "seek.go:283", #[⟨4, .data⟩, ⟨3, .chain⟩, ⟨3, .guard⟩], some (3, false)⟩) rfl (HS.out _ hq9) ?r5q5
    try simp only [Act.put, pB, pC, pD]
    refine tkB (i := 6) (oi := ⟨some 13, .fieldAddr 79 (.tmp 4) 1, 0, "seek.go:283", #[⟨5, .guard⟩], some (5, true)⟩) rfl (HS.out _ hq9) ?r6q6
    try simp only [Act.put, pB, pC, pD]
    refine tkB (i := 7) (oi := ⟨some 14, .load 3 (.tmp 13), 3, "seek.go:283", #[⟨6, .data⟩, ⟨5, .guard⟩], some (5, true)⟩) rfl (HS.out _ hq9) ?r7q7
    try simp only [Act.put, pB, pC, pD]
    refine tkB (i := 8) (oi := ⟨some 15, .binOp BinOp.eql 3 (.tmp 14) (Operand.const (Value.int IntKind.i64 0)) 3, 4, "seek.go:283", #[⟨7, .data⟩, ⟨5, .guard⟩], some (5, true)⟩) rfl (HS.out _ hq9) ?r8q8
    try simp only [Act.put, pB, pC, pD]
    refine tkB (i := 9) (oi := ⟨some 16, .pick (.tmp 12) (.tmp 15) (Operand.const (Value.bool false)), 4, "seek.go:283", #[⟨5, .data⟩, ⟨8, .data⟩, ⟨3, .guard⟩], some (3, false)⟩) rfl (HS.out _ hq9) ?r9q9
    try simp only [Act.put, pB, pC, pD]
    refine tkB (i := 10) (oi := ⟨some 17, .move (.tmp 16), 4, "seek.go:283", #[⟨9, .data⟩, ⟨5, .chain⟩, ⟨3, .guard⟩], some (3, false)⟩) rfl (HS.out _ hq9) ?r10q10
    try simp only [Act.put, pB, pC, pD]
    refine tkB (i := 11) (oi := ⟨some 18, .load 124 (.tmp 1), 124, "seek.go:283", #[⟨10, .guard⟩], some (10, true)⟩) rfl (HS.out _ hq9) ?r11q11
    try simp only [Act.put, pB, pC, pD]
    refine tkB (i := 12) (oi := ⟨some 19, .fieldAddr 79 (.tmp 4) 0, 0, "seek.go:283", #[⟨10, .guard⟩], some (10, true)⟩) rfl (HS.out _ hq9) ?r12q12
    try simp only [Act.put, pB, pC, pD]
    refine tkB (i := 13) (oi := ⟨some 20, .load 21 (.tmp 19), 21, "seek.go:283", #[⟨12, .data⟩, ⟨10, .guard⟩], some (10, true)⟩) rfl (HS.out _ hq9) ?r13q13
    try simp only [Act.put, pB, pC, pD]
    refine tkB (i := 14) (oi := ⟨some 21, .call { callee := Callee.value (Operand.func 81), args := #[.tmp 20], argTypes := #[21] }, 21, "seek.go:283", #[⟨13, .data⟩, ⟨10, .chain⟩, ⟨10, .guard⟩], some (10, true)⟩) rfl (HS.out _ hq9) ?r14q14
    try simp only [Act.put, pB, pC, pD]
    refine tkB (i := 15) (oi := ⟨some 22, .build 79 #[(0, .tmp 21)], 79, "seek.go:283", #[⟨14, .data⟩, ⟨10, .guard⟩], some (10, true)⟩) rfl (HS.out _ hq9) ?r15q15
    try simp only [Act.put, pB, pC, pD]
    refine tkB (i := 16) (oi := ⟨some 23, .call { callee := Callee.value (.tmp 18), args := #[.tmp 22], argTypes := #[79] }, 4, "seek.go:283", #[⟨11, .data⟩, ⟨15, .data⟩, ⟨14, .chain⟩, ⟨10, .guard⟩], some (10, true)⟩) rfl (HS.out _ hq9) ?r16q16
    try simp only [Act.put, pB, pC, pD]
    refine tkB (i := 17) (oi := ⟨some 24, .pick (.tmp 17) (.tmp 23) (Operand.const (Value.bool false)), 4, "seek.go:283", #[⟨10, .data⟩, ⟨16, .data⟩, ⟨3, .guard⟩], some (3, false)⟩) rfl (HS.out _ hq9) ?r17q17
    try simp only [Act.put, pB, pC, pD]
    refine tkA (i := 18) (oi := ⟨some 25, .pick (.tmp 10) (Operand.const (Value.bool true)) (.tmp 24), 4, "seek.go:283", #[⟨3, .data⟩, ⟨17, .data⟩], none⟩) (v := ?v18q18) rfl ?y18q18 (HS.out _ hq9) ?r18q18
    case y18q18 => (rintro w2 ⟨s1, s2, s3, s4⟩; go_simp; try with_reducible rfl)
    try simp only [Act.put, pB, pC, pD]
    refine tkA (i := 19) (oi := ⟨some 6, .assign (.tmp 25), 4, "seek.go:283", #[⟨18, .data⟩, ⟨16, .chain⟩, ⟨0, .phase⟩, ⟨1, .phase⟩, ⟨2, .phase⟩, ⟨3, .phase⟩, ⟨4, .phase⟩, ⟨5, .phase⟩, ⟨6, .phase⟩, ⟨7, .phase⟩, ⟨8, .phase⟩, ⟨9, .phase⟩, ⟨10, .phase⟩, ⟨11, .phase⟩, ⟨12, .phase⟩, ⟨13, .phase⟩, ⟨14, .phase⟩, ⟨15, .phase⟩, ⟨16, .phase⟩, ⟨17, .phase⟩, ⟨18, .phase⟩], none⟩) (v := ?v19q19) rfl ?y19q19 (HS.out _ hq9) ?r19q19
    case y19q19 => (rintro w2 ⟨s1, s2, s3, s4⟩; go_simp; try with_reducible rfl)
    try simp only [Act.put, pB, pC, pD]
    refine wpAnyH_done (by kernel_rfl) ?_ _
    obtain ⟨hng, hbe⟩ := HN.out _ hq9
    have HBE := Lib.hid hbe
    clear hbe
    go_wp2_with fail
    go_ret
    refine ⟨?_, HBE.out⟩
    cases neg <;> (first | rfl | (cases b2 <;> rfl) | (cases fo <;> rfl))
  | false =>
    cases fo with
    | false =>
      clear hv hx hy hP1 htv
      go_enter Tryd.func80, Tryd.ntmps80
      go_wp2_with fail
      rw [← HW1.out]
      refine wp_region_held_drew (S := (fun w' : World => w'.cell? ⟨g1, 0, none⟩ = some (.func (.func g') #[] cs') ∧ w'.cell? ⟨g2, 0, none⟩ = some (.bool false) ∧ w'.cell? ⟨w.heap.size, 0, none⟩ = some (.int .i32 x) ∧ w'.cell? ⟨w.heap.size, 1, none⟩ = some (.int .i64 y))) (by kernel_rfl) hs0 (fun hS0 => ?_)
      refine tkA (i := 0) (oi := ⟨some 7, .load 124 (.tmp 1), 124, "seek.go:283", #[], none⟩) (v := ?v0q20) rfl ?y0q20 hS0 ?r0q20
      case y0q20 => (rintro w2 ⟨s1, s2, s3, s4⟩; go_simp; try with_reducible rfl)
      try simp only [Act.put, pB, pC, pD]
      refine tkA (i := 1) (oi := ⟨some 8, .load 79 (.tmp 4), 79, "seek.go:283", #[], none⟩) (v := ?v1q21) rfl ?y1q21 hS0 ?r1q21
      case y1q21 => (rintro w2 ⟨s1, s2, s3, s4⟩; go_simp; try with_reducible rfl)
      try simp only [Act.put, pB, pC, pD]
      refine wpAnyH_ready (rs := [2]) (by kernel_rfl) (by simp) (AllReadyH.cons rfl (fun K' hK => ?_) AllReadyH.nil)
      go_simp
      refine (HC1.out _ hq0).mono ?_
      rintro e w9 ⟨rfl, hb9⟩
      show K' _ _
      refine hK.out _ _ (HS.out _ (below_next hq0 (Nat.le_refl _) hb9)) (fun hSn => ?_)
      try simp only [Act.put, pB, pC, pD]
      clear hK K'
      have hq9 := below_next hq0 (Nat.le_refl _) hb9
      clear hb9
      refine tkA (i := 3) (oi := ⟨some 10, .move (.tmp 9), 4, "seek.go:283", #[⟨2, .data⟩, ⟨2, .chain⟩], none⟩) (v := ?v3q22) rfl ?y3q22 (HS.out _ hq9) ?r3q22
      case y3q22 => (rintro w2 ⟨s1, s2, s3, s4⟩; go_simp; try with_reducible rfl)
      try simp only [Act.put, pB, pC, pD]
      refine tkA (i := 4) (oi := ⟨some 11, .load 4 (.tmp 2), 4, "seek.go:283", #[⟨3, .guard⟩], some (3, false)⟩) (v := ?v4q23) rfl ?y4q23 (HS.out _ hq9) ?r4q23
      case y4q23 => (rintro w2 ⟨s1, s2, s3, s4⟩; go_simp; try with_reducible rfl)
      try simp only [Act.put, pB, pC, pD]
      refine tkA (i := 5) (oi := ⟨some 12, .move (.tmp 11), 4, "seek.go:283", #[⟨4, .data⟩, ⟨3, .chain⟩, ⟨3, .guard⟩], some (3, false)⟩) (v := ?v5q24) rfl ?y5q24 (HS.out _ hq9) ?r5q24
      case y5q24 => (rintro w2 ⟨s1, s2, s3, s4⟩; go_simp; try with_reducible rfl)
      try simp only [Act.put, pB, pC, pD]
      refine tkB (i := 6) (oi := ⟨some 13, .fieldAddr 79 (.tmp 4) 1, 0, "seek.go:283", #[⟨5, .guard⟩], some (5, true)⟩) rfl (HS.out _ hq9) ?r6q25
      try simp only [Act.put, pB, pC, pD]
      refine tkB (i := 7) (oi := ⟨some 14, .load 3 (.tmp 13), 3, "seek.go:283", #[⟨6, .data⟩, ⟨5, .guard⟩], some (5, true)⟩) rfl (HS.out _ hq9) ?r7q26
      try simp only [Act.put, pB, pC, pD]
      refine tkB (i := 8) (oi := ⟨some 15, .binOp BinOp.eql 3 (.tmp 14) (Operand.const (Value.int IntKind.i64 0)) 3, 4, "seek.go:283", #[⟨7, .data⟩, ⟨5, .guard⟩], some (5, true)⟩) rfl (HS.out _ hq9) ?r8q27
      try simp only [Act.put, pB, pC, pD]
      refine tkA (i := 9) (oi := ⟨some 16, .pick (.tmp 12) (.tmp 15) (Operand.const (Value.bool false)), 4, "seek.go:283", #[⟨5, .data⟩, ⟨8, .data⟩, ⟨3, .guard⟩], some (3, false)⟩) (v := ?v9q28) rfl ?y9q28 (HS.out _ hq9) ?r9q28
      case y9q28 => (rintro w2 ⟨s1, s2, s3, s4⟩; go_simp; try with_reducible rfl)
      try simp only [Act.put, pB, pC, pD]
      refine tkA (i := 10) (oi := ⟨some 17, .move (.tmp 16), 4, "seek.go:283", #[⟨9, .data⟩, ⟨5, .chain⟩, ⟨3, .guard⟩], some (3, false)⟩) (v := ?v10q29) rfl ?y10q29 (HS.out _ hq9) ?r10q29
      case y10q29 => (rintro w2 ⟨s1, s2, s3, s4⟩; go_simp; try with_reducible rfl)
      try simp only [Act.put, pB, pC, pD]
      refine tkB (i := 11) (oi := ⟨some 18, .load 124 (.tmp 1), 124, "seek.go:283", #[⟨10, .guard⟩], some (10, true)⟩) rfl (HS.out _ hq9) ?r11q30
      try simp only [Act.put, pB, pC, pD]
      refine tkB (i := 12) (oi := ⟨some 19, .fieldAddr 79 (.tmp 4) 0, 0, "seek.go:283", #[⟨10, .guard⟩], some (10, true)⟩) rfl (HS.out _ hq9) ?r12q31
      try simp only [Act.put, pB, pC, pD]
      refine tkB (i := 13) (oi := ⟨some 20, .load 21 (.tmp 19), 21, "seek.go:283", #[⟨12, .data⟩, ⟨10, .guard⟩], some (10, true)⟩) rfl (HS.out _ hq9) ?r13q32
      try simp only [Act.put, pB, pC, pD]
      refine tkB (i := 14) (oi := ⟨some 21, .call { callee := Callee.value (Operand.func 81), args := #[.tmp 20], argTypes := #[21] }, 21, "seek.go:283", #[⟨13, .data⟩, ⟨10, .chain⟩, ⟨10, .guard⟩], some (10, true)⟩) rfl (HS.out _ hq9) ?r14q33
      try simp only [Act.put, pB, pC, pD]
      refine tkB (i := 15) (oi := ⟨some 22, .build 79 #[(0, .tmp 21)], 79, "seek.go:283", #[⟨14, .data⟩, ⟨10, .guard⟩], some (10, true)⟩) rfl (HS.out _ hq9) ?r15q34
      try simp only [Act.put, pB, pC, pD]
      refine tkB (i := 16) (oi := ⟨some 23, .call { callee := Callee.value (.tmp 18), args := #[.tmp 22], argTypes := #[79] }, 4, "seek.go:283", #[⟨11, .data⟩, ⟨15, .data⟩, ⟨14, .chain⟩, ⟨10, .guard⟩], some (10, true)⟩) rfl (HS.out _ hq9) ?r16q35
      try simp only [Act.put, pB, pC, pD]
      refine tkA (i := 17) (oi := ⟨some 24, .pick (.tmp 17) (.tmp 23) (Operand.const (Value.bool false)), 4, "seek.go:283", #[⟨10, .data⟩, ⟨16, .data⟩, ⟨3, .guard⟩], some (3, false)⟩) (v := ?v17q36) rfl ?y17q36 (HS.out _ hq9) ?r17q36
      case y17q36 => (rintro w2 ⟨s1, s2, s3, s4⟩; go_simp; try with_reducible rfl)
      try simp only [Act.put, pB, pC, pD]
      refine tkA (i := 18) (oi := ⟨some 25, .pick (.tmp 10) (Operand.const (Value.bool true)) (.tmp 24), 4, "seek.go:283", #[⟨3, .data⟩, ⟨17, .data⟩], none⟩) (v := ?v18q37) rfl ?y18q37 (HS.out _ hq9) ?r18q37
      case y18q37 => (rintro w2 ⟨s1, s2, s3, s4⟩; go_simp; try with_reducible rfl)
      try simp only [Act.put, pB, pC, pD]
      refine tkA (i := 19) (oi := ⟨some 6, .assign (.tmp 25), 4, "seek.go:283", #[⟨18, .data⟩, ⟨16, .chain⟩, ⟨0, .phase⟩, ⟨1, .phase⟩, ⟨2, .phase⟩, ⟨3, .phase⟩, ⟨4, .phase⟩, ⟨5, .phase⟩, ⟨6, .phase⟩, ⟨7, .phase⟩, ⟨8, .phase⟩, ⟨9, .phase⟩, ⟨10, .phase⟩, ⟨11, .phase⟩, ⟨12, .phase⟩, ⟨13, .phase⟩, ⟨14, .phase⟩, ⟨15, .phase⟩, ⟨16, .phase⟩, ⟨17, .phase⟩, ⟨18, .phase⟩], none⟩) (v := ?v19q38) rfl ?y19q38 (HS.out _ hq9) ?r19q38
      case y19q38 => (rintro w2 ⟨s1, s2, s3, s4⟩; go_simp; try with_reducible rfl)
      try simp only [Act.put, pB, pC, pD]
      refine wpAnyH_done (by kernel_rfl) ?_ _
      obtain ⟨hng, hbe⟩ := HN.out _ hq9
      have HBE := Lib.hid hbe
      clear hbe
      go_wp2_with fail
      go_ret
      refine ⟨?_, HBE.out⟩
      cases neg <;> (first | rfl | (cases b2 <;> rfl) | (cases fo <;> rfl))
    | true =>
      by_cases hw : v < wrongN
      · have hy0 : y = 0 := by rw [← hy]; unfold tokW; rw [if_pos hw]; rfl
        have hx0 : x = (v : Int) := by rw [← hx]; unfold tokR; rw [if_pos hw]
        have HF := Lib.hid (fun w => foldC w v (by unfold wrongN at hw; omega))
        have hlt := foldN_lt hw
        rw [decide_eq_true hw]
        obtain ⟨R, hR⟩ : ∃ R, foldN v = R := ⟨_, rfl⟩
        rw [hR] at hlt HF ⊢
        obtain ⟨b2, hP2⟩ : ∃ b, P R = b := ⟨_, rfl⟩
        rw [hP2]
        have HC2 : Hid (∀ W, Below w1.heap.size w1 W → Calls Tryd.prog g' (#[.agg #[.int .i32 (R : Int), .int .i64 0]] ++ cs') W fun e w' => e = .returned (.bool b2) ∧ Below W.heap.size W w') := Lib.hid (fun W hW => by
          have := HC.out W hW R (.inl hlt)
          rwa [hP2, tokV_right hlt] at this)
        subst hy0
        rw [← hx0] at HF
        clear hv hx hy hP1 htv hx0 hw hlt hR hP2
        go_enter Tryd.func80, Tryd.ntmps80
        go_wp2_with fail
        rw [← HW1.out]
        refine wp_region_held_drew (S := (fun w' : World => w'.cell? ⟨g1, 0, none⟩ = some (.func (.func g') #[] cs') ∧ w'.cell? ⟨g2, 0, none⟩ = some (.bool true) ∧ w'.cell? ⟨w.heap.size, 0, none⟩ = some (.int .i32 x) ∧ w'.cell? ⟨w.heap.size, 1, none⟩ = some (.int .i64 0))) (by kernel_rfl) hs0 (fun hS0 => ?_)
        refine tkA (i := 0) (oi := ⟨some 7, .load 124 (.tmp 1), 124, "seek.go:283", #[], none⟩) (v := ?v0q39) rfl ?y0q39 hS0 ?r0q39
        case y0q39 => (rintro w2 ⟨s1, s2, s3, s4⟩; go_simp; try with_reducible rfl)
        try simp only [Act.put, pB, pC, pD]
        refine tkA (i := 1) (oi := ⟨some 8, .load 79 (.tmp 4), 79, "seek.go:283", #[], none⟩) (v := ?v1q40) rfl ?y1q40 hS0 ?r1q40
        case y1q40 => (rintro w2 ⟨s1, s2, s3, s4⟩; go_simp; try with_reducible rfl)
        try simp only [Act.put, pB, pC, pD]
        refine wpAnyH_ready (rs := [2]) (by kernel_rfl) (by simp) (AllReadyH.cons rfl (fun K' hK => ?_) AllReadyH.nil)
        go_simp
        refine (HC1.out _ hq0).mono ?_
        rintro e w9 ⟨rfl, hb9⟩
        show K' _ _
        refine hK.out _ _ (HS.out _ (below_next hq0 (Nat.le_refl _) hb9)) (fun hSn => ?_)
        try simp only [Act.put, pB, pC, pD]
        clear hK K'
        have hq9 := below_next hq0 (Nat.le_refl _) hb9
        clear hb9
        refine tkA (i := 3) (oi := ⟨some 10, .move (.tmp 9), 4, "seek.go:283", #[⟨2, .data⟩, ⟨2, .chain⟩], none⟩) (v := ?v3q41) rfl ?y3q41 (HS.out _ hq9) ?r3q41
        case y3q41 => (rintro w2 ⟨s1, s2, s3, s4⟩; go_simp; try with_reducible rfl)
        try simp only [Act.put, pB, pC, pD]
        refine tkA (i := 4) (oi := ⟨some 11, .load 4 (.tmp 2), 4, "seek.go:283", #[⟨3, .guard⟩], some (3, false)⟩) (v := ?v4q42) rfl ?y4q42 (HS.out _ hq9) ?r4q42
        case y4q42 => (rintro w2 ⟨s1, s2, s3, s4⟩; go_simp; try with_reducible rfl)
        try simp only [Act.put, pB, pC, pD]
        refine tkA (i := 5) (oi := ⟨some 12, .move (.tmp 11), 4, "seek.go:283", #[⟨4, .data⟩, ⟨3, .chain⟩, ⟨3, .guard⟩], some (3, false)⟩) (v := ?v5q43) rfl ?y5q43 (HS.out _ hq9) ?r5q43
        case y5q43 => (rintro w2 ⟨s1, s2, s3, s4⟩; go_simp; try with_reducible rfl)
        try simp only [Act.put, pB, pC, pD]
        refine tkA (i := 6) (oi := ⟨some 13, .fieldAddr 79 (.tmp 4) 1, 0, "seek.go:283", #[⟨5, .guard⟩], some (5, true)⟩) (v := ?v6q44) rfl ?y6q44 (HS.out _ hq9) ?r6q44
        case y6q44 => (rintro w2 ⟨s1, s2, s3, s4⟩; go_simp; try with_reducible rfl)
        try simp only [Act.put, pB, pC, pD]
        refine tkA (i := 7) (oi := ⟨some 14, .load 3 (.tmp 13), 3, "seek.go:283", #[⟨6, .data⟩, ⟨5, .guard⟩], some (5, true)⟩) (v := ?v7q45) rfl ?y7q45 (HS.out _ hq9) ?r7q45
        case y7q45 => (rintro w2 ⟨s1, s2, s3, s4⟩; go_simp; try with_reducible rfl)
        try simp only [Act.put, pB, pC, pD]
        refine tkA (i := 8) (oi := ⟨some 15, .binOp BinOp.eql 3 (.tmp 14) (Operand.const (Value.int IntKind.i64 0)) 3, 4, "seek.go:283", #[⟨7, .data⟩, ⟨5, .guard⟩], some (5, true)⟩) (v := ?v8q46) rfl ?y8q46 (HS.out _ hq9) ?r8q46
        case y8q46 => (rintro w2 ⟨s1, s2, s3, s4⟩; go_simp; try with_reducible rfl)
        try simp only [Act.put, pB, pC, pD]
        refine tkA (i := 9) (oi := ⟨some 16, .pick (.tmp 12) (.tmp 15) (Operand.const (Value.bool false)), 4, "seek.go:283", #[⟨5, .data⟩, ⟨8, .data⟩, ⟨3, .guard⟩], some (3, false)⟩) (v := ?v9q47) rfl ?y9q47 (HS.out _ hq9) ?r9q47
        case y9q47 => (rintro w2 ⟨s1, s2, s3, s4⟩; go_simp; try with_reducible rfl)
        try simp only [Act.put, pB, pC, pD]
        refine tkA (i := 10) (oi := ⟨some 17, .move (.tmp 16), 4, "seek.go:283", #[⟨9, .data⟩, ⟨5, .chain⟩, ⟨3, .guard⟩], some (3, false)⟩) (v := ?v10q48) rfl ?y10q48 (HS.out _ hq9) ?r10q48
        case y10q48 => (rintro w2 ⟨s1, s2, s3, s4⟩; go_simp; try with_reducible rfl)
        try simp only [Act.put, pB, pC, pD]
        refine tkA (i := 11) (oi := ⟨some 18, .load 124 (.tmp 1), 124, "seek.go:283", #[⟨10, .guard⟩], some (10, true)⟩) (v := ?v11q49) rfl ?y11q49 (HS.out _ hq9) ?r11q49
        case y11q49 => (rintro w2 ⟨s1, s2, s3, s4⟩; go_simp; try with_reducible rfl)
        try simp only [Act.put, pB, pC, pD]
        refine tkA (i := 12) (oi := ⟨some 19, .fieldAddr 79 (.tmp 4) 0, 0, "seek.go:283", #[⟨10, .guard⟩], some (10, true)⟩) (v := ?v12q50) rfl ?y12q50 (HS.out _ hq9) ?r12q50
        case y12q50 => (rintro w2 ⟨s1, s2, s3, s4⟩; go_simp; try with_reducible rfl)
        try simp only [Act.put, pB, pC, pD]
        refine tkA (i := 13) (oi := ⟨some 20, .load 21 (.tmp 19), 21, "seek.go:283", #[⟨12, .data⟩, ⟨10, .guard⟩], some (10, true)⟩) (v := ?v13q51) rfl ?y13q51 (HS.out _ hq9) ?r13q51
        case y13q51 => (rintro w2 ⟨s1, s2, s3, s4⟩; go_simp; try with_reducible rfl)
        try simp only [Act.put, pB, pC, pD]
        refine wpAnyH_ready (rs := [14]) (by kernel_rfl) (by simp) (AllReadyH.cons rfl (fun K' hK => ?_) AllReadyH.nil)
        go_simp
        refine (HF.out _).mono ?_
        rintro e w8 ⟨rfl, rfl⟩
        show K' _ _
        refine hK.out _ _ (HS.out _ hq9) (fun hSn => ?_)
        try simp only [Act.put, pB, pC, pD]
        clear hK K'
        refine tkA (i := 15) (oi := ⟨some 22, .build 79 #[(0, .tmp 21)], 79, "seek.go:283", #[⟨14, .data⟩, ⟨10, .guard⟩], some (10, true)⟩) (v := ?v15q52) rfl ?y15q52 (HS.out _ hq9) ?r15q52
        case y15q52 => (rintro w2 ⟨s1, s2, s3, s4⟩; go_simp; try with_reducible rfl)
        try simp only [Act.put, pB, pC, pD]
        refine wpAnyH_ready (rs := [16]) (by kernel_rfl) (by simp) (AllReadyH.cons rfl (fun K' hK => ?_) AllReadyH.nil)
        go_simp
        refine (HC2.out _ hq9).mono ?_
        rintro e w9 ⟨rfl, hb9⟩
        show K' _ _
        refine hK.out _ _ (HS.out _ (below_next hq9 (Nat.le_refl _) hb9)) (fun hSn => ?_)
        try simp only [Act.put, pB, pC, pD]
        clear hK K'
        have hq9 := below_next hq9 (Nat.le_refl _) hb9
        clear hb9
        refine tkA (i := 17) (oi := ⟨some 24, .pick (.tmp 17) (.tmp 23) (Operand.const (Value.bool false)), 4, "seek.go:283", #[⟨10, .data⟩, ⟨16, .data⟩, ⟨3, .guard⟩], some (3, false)⟩) (v := ?v17q53) rfl ?y17q53 (HS.out _ hq9) ?r17q53
        case y17q53 => (rintro w2 ⟨s1, s2, s3, s4⟩; go_simp; try with_reducible rfl)
        try simp only [Act.put, pB, pC, pD]
        refine tkA (i := 18) (oi := ⟨some 25, .pick (.tmp 10) (Operand.const (Value.bool true)) (.tmp 24), 4, "seek.go:283", #[⟨3, .data⟩, ⟨17, .data⟩], none⟩) (v := ?v18q54) rfl ?y18q54 (HS.out _ hq9) ?r18q54
        case y18q54 => (rintro w2 ⟨s1, s2, s3, s4⟩; go_simp; try with_reducible rfl)
        try simp only [Act.put, pB, pC, pD]
        refine tkA (i := 19) (oi := ⟨some 6, .assign (.tmp 25), 4, "seek.go:283", #[⟨18, .data⟩, ⟨16, .chain⟩, ⟨0, .phase⟩, ⟨1, .phase⟩, ⟨2, .phase⟩, ⟨3, .phase⟩, ⟨4, .phase⟩, ⟨5, .phase⟩, ⟨6, .phase⟩, ⟨7, .phase⟩, ⟨8, .phase⟩, ⟨9, .phase⟩, ⟨10, .phase⟩, ⟨11, .phase⟩, ⟨12, .phase⟩, ⟨13, .phase⟩, ⟨14, .phase⟩, ⟨15, .phase⟩, ⟨16, .phase⟩, ⟨17, .phase⟩, ⟨18, .phase⟩], none⟩) (v := ?v19q55) rfl ?y19q55 (HS.out _ hq9) ?r19q55
        case y19q55 => (rintro w2 ⟨s1, s2, s3, s4⟩; go_simp; try with_reducible rfl)
        try simp only [Act.put, pB, pC, pD]
        refine wpAnyH_done (by kernel_rfl) ?_ _
        obtain ⟨hng, hbe⟩ := HN.out _ hq9
        have HBE := Lib.hid hbe
        clear hbe
        go_wp2_with fail
        go_ret
        refine ⟨?_, HBE.out⟩
        cases neg <;> (first | rfl | (cases b2 <;> rfl) | (cases fo <;> rfl))
      · have hy0 : (y == 0) = false := by
          rw [← hy, beq_eq_false_iff_ne]
          unfold OkC at hv
          unfold tokW
          rw [if_neg hw]
          omega
        rw [decide_eq_false hw]
        clear hv hx hy hP1 htv hw
        go_enter Tryd.func80, Tryd.ntmps80
        go_wp2_with fail
        rw [← HW1.out]
        refine wp_region_held_drew (S := (fun w' : World => w'.cell? ⟨g1, 0, none⟩ = some (.func (.func g') #[] cs') ∧ w'.cell? ⟨g2, 0, none⟩ = some (.bool true) ∧ w'.cell? ⟨w.heap.size, 0, none⟩ = some (.int .i32 x) ∧ w'.cell? ⟨w.heap.size, 1, none⟩ = some (.int .i64 y))) (by kernel_rfl) hs0 (fun hS0 => ?_)
        refine tkA (i := 0) (oi := ⟨some 7, .load 124 (.tmp 1), 124, "seek.go:283", #[], none⟩) (v := ?v0q56) rfl ?y0q56 hS0 ?r0q56
        case y0q56 => (rintro w2 ⟨s1, s2, s3, s4⟩; go_simp; try with_reducible rfl)
        try simp only [Act.put, pB, pC, pD]
        refine tkA (i := 1) (oi := ⟨some 8, .load 79 (.tmp 4), 79, "seek.go:283", #[], none⟩) (v := ?v1q57) rfl ?y1q57 hS0 ?r1q57
        case y1q57 => (rintro w2 ⟨s1, s2, s3, s4⟩; go_simp; try with_reducible rfl)
        try simp only [Act.put, pB, pC, pD]
        refine wpAnyH_ready (rs := [2]) (by kernel_rfl) (by simp) (AllReadyH.cons rfl (fun K' hK => ?_) AllReadyH.nil)
        go_simp
        refine (HC1.out _ hq0).mono ?_
        rintro e w9 ⟨rfl, hb9⟩
        show K' _ _
        refine hK.out _ _ (HS.out _ (below_next hq0 (Nat.le_refl _) hb9)) (fun hSn => ?_)
        try simp only [Act.put, pB, pC, pD]
        clear hK K'
        have hq9 := below_next hq0 (Nat.le_refl _) hb9
        clear hb9
        refine tkA (i := 3) (oi := ⟨some 10, .move (.tmp 9), 4, "seek.go:283", #[⟨2, .data⟩, ⟨2, .chain⟩], none⟩) (v := ?v3q58) rfl ?y3q58 (HS.out _ hq9) ?r3q58
        case y3q58 => (rintro w2 ⟨s1, s2, s3, s4⟩; go_simp; try with_reducible rfl)
        try simp only [Act.put, pB, pC, pD]
        refine tkA (i := 4) (oi := ⟨some 11, .load 4 (.tmp 2), 4, "seek.go:283", #[⟨3, .guard⟩], some (3, false)⟩) (v := ?v4q59) rfl ?y4q59 (HS.out _ hq9) ?r4q59
        case y4q59 => (rintro w2 ⟨s1, s2, s3, s4⟩; go_simp; try with_reducible rfl)
        try simp only [Act.put, pB, pC, pD]
        refine tkA (i := 5) (oi := ⟨some 12, .move (.tmp 11), 4, "seek.go:283", #[⟨4, .data⟩, ⟨3, .chain⟩, ⟨3, .guard⟩], some (3, false)⟩) (v := ?v5q60) rfl ?y5q60 (HS.out _ hq9) ?r5q60
        case y5q60 => (rintro w2 ⟨s1, s2, s3, s4⟩; go_simp; try with_reducible rfl)
        try simp only [Act.put, pB, pC, pD]
        refine tkA (i := 6) (oi := ⟨some 13, .fieldAddr 79 (.tmp 4) 1, 0, "seek.go:283", #[⟨5, .guard⟩], some (5, true)⟩) (v := ?v6q61) rfl ?y6q61 (HS.out _ hq9) ?r6q61
        case y6q61 => (rintro w2 ⟨s1, s2, s3, s4⟩; go_simp; try with_reducible rfl)
        try simp only [Act.put, pB, pC, pD]
        refine tkA (i := 7) (oi := ⟨some 14, .load 3 (.tmp 13), 3, "seek.go:283", #[⟨6, .data⟩, ⟨5, .guard⟩], some (5, true)⟩) (v := ?v7q62) rfl ?y7q62 (HS.out _ hq9) ?r7q62
        case y7q62 => (rintro w2 ⟨s1, s2, s3, s4⟩; go_simp; try with_reducible rfl)
        try simp only [Act.put, pB, pC, pD]
        refine tkA (i := 8) (oi := ⟨some 15, .binOp BinOp.eql 3 (.tmp 14) (Operand.const (Value.int IntKind.i64 0)) 3, 4, "seek.go:283", #[⟨7, .data⟩, ⟨5, .guard⟩], some (5, true)⟩) (v := ?v8q63) rfl ?y8q63 (HS.out _ hq9) ?r8q63
        case y8q63 => (rintro w2 ⟨s1, s2, s3, s4⟩; go_simp; try with_reducible rfl)
        try simp only [Act.put, pB, pC, pD]
        refine tkA (i := 9) (oi := ⟨some 16, .pick (.tmp 12) (.tmp 15) (Operand.const (Value.bool false)), 4, "seek.go:283", #[⟨5, .data⟩, ⟨8, .data⟩, ⟨3, .guard⟩], some (3, false)⟩) (v := ?v9q64) rfl ?y9q64 (HS.out _ hq9) ?r9q64
        case y9q64 => (rintro w2 ⟨s1, s2, s3, s4⟩; go_simp; try with_reducible rfl)
        try simp only [Act.put, pB, pC, pD]
        refine tkA (i := 10) (oi := ⟨some 17, .move (.tmp 16), 4, "seek.go:283", #[⟨9, .data⟩, ⟨5, .chain⟩, ⟨3, .guard⟩], some (3, false)⟩) (v := ?v10q65) rfl ?y10q65 (HS.out _ hq9) ?r10q65
        case y10q65 => (rintro w2 ⟨s1, s2, s3, s4⟩; go_simp; try with_reducible rfl)
        try simp only [Act.put, pB, pC, pD]
        refine tkB (i := 11) (oi := ⟨some 18, .load 124 (.tmp 1), 124, "seek.go:283", #[⟨10, .guard⟩], some (10, true)⟩) rfl (HS.out _ hq9) ?r11q66
        try simp only [Act.put, pB, pC, pD]
        refine tkB (i := 12) (oi := ⟨some 19, .fieldAddr 79 (.tmp 4) 0, 0, "seek.go:283", #[⟨10, .guard⟩], some (10, true)⟩) rfl (HS.out _ hq9) ?r12q67
        try simp only [Act.put, pB, pC, pD]
        refine tkB (i := 13) (oi := ⟨some 20, .load 21 (.tmp 19), 21, "seek.go:283", #[⟨12, .data⟩, ⟨10, .guard⟩], some (10, true)⟩) rfl (HS.out _ hq9) ?r13q68
        try simp only [Act.put, pB, pC, pD]
        refine tkB (i := 14) (oi := ⟨some 21, .call { callee := Callee.value (Operand.func 81), args := #[.tmp 20], argTypes := #[21] }, 21, "seek.go:283", #[⟨13, .data⟩, ⟨10, .chain⟩, ⟨10, .guard⟩], some (10, true)⟩) rfl (HS.out _ hq9) ?r14q69
        try simp only [Act.put, pB, pC, pD]
        refine tkB (i := 15) (oi := ⟨some 22, .build 79 #[(0, .tmp 21)], 79, "seek.go:283", #[⟨14, .data⟩, ⟨10, .guard⟩], some (10, true)⟩) rfl (HS.out _ hq9) ?r15q70
        try simp only [Act.put, pB, pC, pD]
        refine tkB (i := 16) (oi := ⟨some 23, .call { callee := Callee.value (.tmp 18), args := #[.tmp 22], argTypes := #[79] }, 4, "seek.go:283", #[⟨11, .data⟩, ⟨15, .data⟩, ⟨14, .chain⟩, ⟨10, .guard⟩], some (10, true)⟩) rfl (HS.out _ hq9) ?r16q71
        try simp only [Act.put, pB, pC, pD]
        refine tkA (i := 17) (oi := ⟨some 24, .pick (.tmp 17) (.tmp 23) (Operand.const (Value.bool false)), 4, "seek.go:283", #[⟨10, .data⟩, ⟨16, .data⟩, ⟨3, .guard⟩], some (3, false)⟩) (v := ?v17q72) rfl ?y17q72 (HS.out _ hq9) ?r17q72
        case y17q72 => (rintro w2 ⟨s1, s2, s3, s4⟩; go_simp; try with_reducible rfl)
        try simp only [Act.put, pB, pC, pD]
        refine tkA (i := 18) (oi := ⟨some 25, .pick (.tmp 10) (Operand.const (Value.bool true)) (.tmp 24), 4, "seek.go:283", #[⟨3, .data⟩, ⟨17, .data⟩], none⟩) (v := ?v18q73) rfl ?y18q73 (HS.out _ hq9) ?r18q73
        case y18q73 => (rintro w2 ⟨s1, s2, s3, s4⟩; go_simp; try with_reducible rfl)
        try simp only [Act.put, pB, pC, pD]
        refine tkA (i := 19) (oi := ⟨some 6, .assign (.tmp 25), 4, "seek.go:283", #[⟨18, .data⟩, ⟨16, .chain⟩, ⟨0, .phase⟩, ⟨1, .phase⟩, ⟨2, .phase⟩, ⟨3, .phase⟩, ⟨4, .phase⟩, ⟨5, .phase⟩, ⟨6, .phase⟩, ⟨7, .phase⟩, ⟨8, .phase⟩, ⟨9, .phase⟩, ⟨10, .phase⟩, ⟨11, .phase⟩, ⟨12, .phase⟩, ⟨13, .phase⟩, ⟨14, .phase⟩, ⟨15, .phase⟩, ⟨16, .phase⟩, ⟨17, .phase⟩, ⟨18, .phase⟩], none⟩) (v := ?v19q74) rfl ?y19q74 (HS.out _ hq9) ?r19q74
        case y19q74 => (rintro w2 ⟨s1, s2, s3, s4⟩; go_simp; try with_reducible rfl)
        try simp only [Act.put, pB, pC, pD]
        refine wpAnyH_done (by kernel_rfl) ?_ _
        obtain ⟨hng, hbe⟩ := HN.out _ hq9
        have HBE := Lib.hid hbe
        clear hbe
        go_wp2_with fail
        go_ret
        refine ⟨?_, HBE.out⟩
        cases neg <;> (first | rfl | (cases b2 <;> rfl) | (cases fo <;> rfl))
end Go.Proofs.YtchdeboialbdiaaDoor
