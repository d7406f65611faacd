/- The lines of a text, by the program's iterator. -/
import Derived.Test.YtnbihjocdlpplaaDoorDLineA
import Derived.Test.YtnbihjocdlpplaaDoorIter
import Derived.Scope
namespace Go.Proofs.YtnbihjocdlpplaaDoor
set_option linter.unusedVariables false
set_option linter.unusedSimpArgs false
open Go.RowKit Go.Shelf
open Go.Lib hiding intOf
attribute [local go_sem] Oper.semAt_some
section
variable {F : Fence} {n : Nat} {P : Program} {b : Frame} {a : Act} {k : List Item} {cs : List Frame} {w : World} {Q : Exit → Act → World → Prop}
theorem stepR_scope {c : Code} : step P (lone (b.atR a (.code (.scope c) :: k)) cs w) = .next (lone (b.atR a (.code c :: .inScope c :: k)) cs w) :=
  step_lone_go (by simp [stepG, stepG.exec, Frame.atR])
theorem stepR_inScope {c : Code} : step P (lone (b.atR a (.inScope c :: k)) cs w) = .next (lone (b.atR a k) cs w) :=
  step_lone_go (by simp [stepG, stepG.exec, Frame.atR])
/-- a scope that no goto leaves, inside a fence -/
theorem wpIn_scope_straight {c : Code} (h : c.wpIn F n P (Exit.noGoto Q) a w) : (Code.scope c).wpIn F n P Q a w := by
  intro b k cs hro hb hr
  have h0 : (lone (b.atR a (.code (.scope c) :: k)) cs w).fenced P F := fenced_calm hb hr rfl
  obtain ⟨e, a₁, w₁, hq, harr⟩ := h b (.inScope c :: k) cs hro hb hr
  cases e with
  | normal => exact ⟨.normal, a₁, w₁, hq, .head h0 stepR_scope (StepsIn.trans harr (.one (fenced_calm hb hr rfl) stepR_inScope))⟩
  | exit id =>
    have hx : exitTo id (.inScope c :: k) = exitTo id k := by simp [exitTo]
    exact ⟨.exit id, a₁, w₁, hq, fun k' hk => .head h0 stepR_scope (harr.1 k' (by rw [hx]; exact hk)),
      fun hr' hk => let ⟨k₁, h1, h2⟩ := harr.2 hr' (by rw [hx]; exact hk); ⟨k₁, h1, .head h0 stepR_scope h2⟩⟩
  | goto l => exact hq.elim
  | ret => exact ⟨_, a₁, w₁, hq, .of_steps (.one h0 stepR_scope) harr⟩
  | panic ch => exact ⟨_, a₁, w₁, hq, .of_steps (.one h0 stepR_scope) harr⟩
  | outgrown => exact ⟨_, a₁, w₁, hq, .of_steps (.one h0 stepR_scope) harr⟩
end
attribute [local go_sem] Exit.noGoto
theorem EndQ_def (w : World) (l : List UInt8) (i : Nat) : EndQ w l i = fun e w' => ∃ n : Int, e = .returned (.tuple #[.int .i64 n, .bool (endL l i != 0)]) ∧ Below w.heap.size w w' ∧ (endL l i ≠ 0 → n = (endL l i : Int)) := rfl
theorem boxed_rows {b : Nat} {t : TypeId} {v : Value} {W W' : World} (h : Boxed W b t v) (hk : W'.heap[b]? = W.heap[b]?) : Boxed W' b t v := hk.trans h
def pieceV (x : Nat × Nat × Nat) : Array Value := #[.agg #[.int .i64 (x.1 : Int), .int .i64 (x.2.1 : Int)], .int .i64 (x.2.2 : Int)]
theorem below_other {W W' : World} (h : Below W.heap.size W W') : W.grownBy W' none := ⟨h.os, h.tape, h.output, h.size, fun k hk _ => h.block k hk⟩
theorem KeepsC.below {K : Nat → Prop} {lo hi : Nat} {W W' : World} (h : Below W.heap.size W W') (hn : ∀ r, K r → r < W.heap.size) (hh : hi ≤ W.heap.size) : KeepsC K lo hi W W' :=
  KeepsC.grown (below_other h) hn hh (fun r e => by cases e)
set_option maxHeartbeats 4000000 in
set_option maxRecDepth 100000 in
theorem all1 (m : Nat) (hm : 1 ≤ m) (B0 b1 : Nat) (w0 : World) (l : List UInt8) (h1 : w0.heap[b1]? = some (.cells #[.string (bstr l)] 9 (0, 0))) (hl : l.length ≤ 67108864) (hT : Tabs w0) (hB0 : 4 ≤ B0) (hB1 : B0 ≤ w0.heap.size) :
    SeqC Fence.wide m Tryd.prog 93 #[.pointer (some ⟨b1, 0, none⟩)] pieceV (fun r => r < B0 ∨ r = b1) w0 (fun xs => xs = linesL l) (fun pre => pre <+: linesL l) := by
  intro l0 J Jx W hW hn0 hJ hJx hY h0
  have k1 : Boxed W b1 9 (.string (bstr l)) := ((hW b1 (.inr rfl)).2).trans h1
  have hTW : Tabs W := hT.rows (fun r hr => (hW r (.inl (by omega))).2) hn0
  obtain ⟨hi, hhi⟩ : ∃ hi, hi = W.heap.size := ⟨_, rfl⟩
  have HK : Hid (Tabs W ∧ Boxed W b1 9 (.string (bstr l)) ∧ B0 ≤ W.heap.size) := Lib.hid ⟨hTW, k1, by omega⟩
  have HKL : Hid (∀ r, (r < B0 ∨ r = b1) → ∀ s, W.heap.size ≤ s → r < s) := Lib.hid (fun r hr s hs => by have := k1.lt; omega)
  have HJ := Lib.hid (h0 hi (by omega))
  have HJA := Lib.hid (hJ hi)
  have HY := Lib.hid hY
  have HH := Lib.hid hhi
  have c1 := k1.cell
  have hsz := bstr_size l
  clear hY h0 hJ hJx h1 hT hTW k1 hW hn0 hB1
  refine callsIn_of_wp Tryd.func93 rfl trivial ?_ rfl
  simp only [Tryd.ntmps93, List.size_toArray, List.length_cons, List.length_nil, Nat.reduceAdd, Nat.reduceSub, Array.replicate_succ, Array.replicate_zero, List.push_toArray, List.append_toArray, List.nil_append, List.cons_append]
  refine wpIn_scope_straight ?_
  gi_wp2
  refine wpIn_label ?_
  gi_wp2
  clear c1 hhi
  gi_loopw [3, 4] (fun ua ui wr => ∃ a i f : Nat, ∃ acc : List (Nat × Nat × Nat), ua = .int .i64 (a : Int) ∧ ui = .int .i64 (i : Int) ∧ a ≤ i ∧ i ≤ l.length ∧ l.length < i + f ∧ Hid (acc ++ linesGo l f a i = linesL l ∧ J hi acc wr ∧ KeepsC (fun r => r < B0 ∨ r = b1) W.heap.size hi W wr)) (fun _ ui _ => l.length + 1 - (RowKit.intOf ui).toNat)
  case atStart => exact ⟨0, 0, l.length + 1, [], rfl, rfl, Nat.le_refl _, Nat.zero_le _, by omega, Lib.hid ⟨rfl, HJ.out, KeepsC.refl _ _ _ _⟩⟩
  case round =>
    obtain ⟨a, i, f, acc, rfl, rfl, hai, hil, hf, HR⟩ := hrel
    have hTr : Tabs wr := HK.out.1.rows (fun r hr => HR.out.2.2.rows r (.inl (.inl (by omega)))) HR.out.2.2.size
    have c1 := (boxed_rows HK.out.2.1 (HR.out.2.2.rows b1 (.inl (.inr rfl)))).cell
    have HTR := Lib.hid hTr
    clear hTr
    by_cases hlt : i < l.length
    · have HE := Lib.hid (endC wr l i hlt (by omega) HTR.out)
      obtain ⟨f, rfl⟩ : ∃ g, f = g + 1 := ⟨f - 1, by omega⟩
      by_cases h0 : endL l i = 0
      · have hz : (endL l i != 0) = false := by rw [h0]; rfl
        rw [EndQ_def, hz] at HE
        have hgo : linesGo l (f + 1) a i = linesGo l f a (i + 1) := by rw [linesGo, if_neg (by omega), if_pos h0]
        have HGO := Lib.hid hgo
        clear hgo hz
        gi_wp2_with (refine ⟨trivial, ?_⟩; gi_at_call 94; refine (callsIn_wide.2 HE.out).mono ?_; rintro e w' ⟨n, rfl, hb, hn⟩)
        have HNX : Hid (acc ++ linesGo l f a (i + 1) = linesL l ∧ J hi acc w' ∧ KeepsC (fun r => r < B0 ∨ r = b1) W.heap.size hi W w') := Lib.hid ⟨HGO.out ▸ HR.out.1, HJA.out _ _ _ none HR.out.2.1 (below_other hb) (fun r e => by cases e), HR.out.2.2.trans (KeepsC.below hb (fun r hr => HKL.out r hr _ HR.out.2.2.size) (by rw [HH.out]; exact HR.out.2.2.size))⟩
        go_roundw
        case rel => exact ⟨a, i + 1, f, acc, rfl, by go_num, by omega, by omega, by omega, HNX⟩
        case measure => simp [RowKit.intOf]; omega
      · have hz : (endL l i != 0) = true := by rw [bne_iff_ne]; exact h0
        have hle := (endL_le l i).resolve_left h0
        obtain ⟨n0, hn0⟩ : ∃ n0, endL l i = n0 := ⟨_, rfl⟩
        have hgo : linesGo l (f + 1) a i = (a, i, n0) :: linesGo l f (i + n0) (i + n0) := by rw [linesGo, if_neg (by omega), if_neg h0, hn0]
        rw [EndQ_def, hz] at HE
        rw [hn0] at HE h0 hle
        have HGO := Lib.hid hgo
        clear hgo hz hn0
        gi_wp2_with (refine ⟨trivial, ?_⟩; gi_at_call 94; refine (callsIn_wide.2 HE.out).mono ?_; rintro e w' ⟨n, rfl, hb, hn⟩; obtain rfl := hn h0)
        have HR1 : Hid (J hi acc w' ∧ KeepsC (fun r => r < B0 ∨ r = b1) W.heap.size hi W w') := Lib.hid ⟨HJA.out _ _ _ none HR.out.2.1 (below_other hb) (fun r e => by cases e), HR.out.2.2.trans (KeepsC.below hb (fun r hr => HKL.out r hr _ HR.out.2.2.size) (by rw [HH.out]; exact HR.out.2.2.size))⟩
        have HPR : Hid (acc ++ [(a, i, n0)] <+: linesL l) := Lib.hid (by rw [← HR.out.1, HGO.out]; exact ⟨linesGo l f (i + n0) (i + n0), by simp⟩)
        obtain ⟨fn, tmps, assign, body, hy, hR⟩ := HY.out hi acc (a, i, n0) w' HR1.out.1 HPR.out (by rw [HH.out]; exact Nat.le_refl _) (by rw [HH.out]; exact HR1.out.2.size)
        have HRD := Lib.hid hR
        unfold pieceV at hy
        clear hR c1 hb hn
        gi_wp2
        refine HRD.out.mono ?_
        clear HRD hy
        rintro e W3 (⟨rfl, hJ3, hk3⟩ | ⟨rfl, hJx3, _⟩)
        · have HNX : Hid ((acc ++ [(a, i, n0)]) ++ linesGo l f (i + n0) (i + n0) = linesL l ∧ J hi (acc ++ [(a, i, n0)]) W3 ∧ KeepsC (fun r => r < B0 ∨ r = b1) W.heap.size hi W W3) := Lib.hid ⟨by rw [← HR.out.1, HGO.out]; simp, hJ3, HR1.out.2.trans hk3⟩
          clear hJ3 hk3
          gi_wp2
          go_roundw
          case rel => exact ⟨i + n0, i + n0, f, acc ++ [(a, i, n0)], by go_num, by go_num, Nat.le_refl _, hle, by omega, HNX⟩
          case measure => simp [RowKit.intOf]; omega
        · have HX3 := Lib.hid hJx3
          clear hJx3
          gi_wp2
          simp only [Exit.noGoto]
          refine bodyPost_ret (results_none rfl _ _ _) rfl ?_
          exact ⟨⟨_, rfl⟩, hi, by rw [HH.out]; exact Nat.le_refl _, .inr ⟨_, HPR.out, HX3.out⟩⟩
    · obtain rfl : i = l.length := by omega
      obtain ⟨f, rfl⟩ : ∃ g, f = g + 1 := ⟨f - 1, by omega⟩
      have hgo : linesGo l (f + 1) a l.length = [(a, l.length, 0)] := by rw [linesGo, if_pos (Nat.le_refl _)]
      have HE : Hid (acc ++ [(a, l.length, 0)] = linesL l) := Lib.hid (by rw [← HR.out.1, hgo])
      obtain ⟨fn, tmps, assign, body, hy, hR⟩ := HY.out hi acc (a, l.length, 0) wr HR.out.2.1 (by rw [HE.out]; exact List.prefix_refl _) (by rw [HH.out]; exact Nat.le_refl _) (by rw [HH.out]; exact HR.out.2.2.size)
      have HRD := Lib.hid hR
      unfold pieceV at hy
      dsimp only at hy
      rw [show ((0 : Nat) : Int) = 0 from rfl] at hy
      clear hR hgo
      gi_wp2
      refine HRD.out.mono ?_
      clear HRD hy
      rintro e W3 (⟨rfl, hJ3, hk3⟩ | ⟨rfl, hJx3, _⟩)
      · have H3 := Lib.hid hJ3
        clear hJ3 hk3
        gi_wp2
        simp only [Exit.noGoto]
        go_end0
        exact ⟨⟨_, rfl⟩, hi, by rw [HH.out]; exact Nat.le_refl _, .inl ⟨_, HE.out, H3.out⟩⟩
      · have H3 := Lib.hid hJx3
        clear hJx3
        gi_wp2
        simp only [Exit.noGoto]
        go_end0
        exact ⟨⟨_, rfl⟩, hi, by rw [HH.out]; exact Nat.le_refl _, .inr ⟨_, by rw [HE.out]; exact List.prefix_refl _, H3.out⟩⟩
end Go.Proofs.YtnbihjocdlpplaaDoor
