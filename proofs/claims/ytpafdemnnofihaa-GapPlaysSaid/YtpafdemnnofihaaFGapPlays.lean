/- The statement on GapPlays (for every input): the walk is in the text that this one imports. No condition beyond the given row. -/
import Derived.Test.YtpafdemnnofihaaRows
import Derived.Test.YtpafdemnnofihaaOpen
import Derived.Test.YtpafdemnnofihaaLGapPlays
import Derived.Test.YtpafdemnnofihaaOpenS
import Derived.Lib.SmallJoins
namespace Go.Proofs.Ytpafdemnnofihaa.gapPlays
open Go.ChangeShapes Go.WideShapes Go.ChangeAt Go.RowKit
open Go.ChangeMaps (open_string shut_string)
set_option linter.unusedVariables false
theorem own : ownKnob Try.prog.godebug = none := by kernel_rfl
theorem laidOut : laidOutB Try.prog = true := by kernel_rfl
set_option maxRecDepth 100000 in
theorem lifted (os : Os) (started : os.Started) (H : Type) (enc : TypeId × Value → H) :
    ReturnsInHanded {} Try.checked os 6 .any (Rows.gapPlaysSpec.pre6 enc Try.prog Try.f6 Rows.gapPlaysRow.domain false) (Rows.gapPlaysSpec.post enc Try.prog Try.f6 false true false false) := by
  refine returnsInHanded_of_change_sized (C := Try.checked) own started (by kernel_rfl) Try.func6
    (ChangeSpec.witness6 (enc := enc) (C := Try.checked) false ⟨#[], #[.agg #[.string ByteArray.empty, .string ByteArray.empty, .slice none 0 0, .slice none 0 0]], []⟩ 8 (by kernel_rfl) (by kernel_rfl) (by kernel_rfl) (by kernel_rfl)) ?_
  intro W base args ds gs before hval0 hW hcnd hsz0 _
  have hval : ∀ (j : Nat) t v, Try.f6.params[j]? = some t → args[j]? = some v → Value.okWide Try.prog W .any base t v := hval0
  have hW' := hW
  obtain ⟨p, q, hA0, hV, rfl, hfz, hnd⟩ := hW
  have hA : DataW.TrodAll enc Try.prog W 0 (fun _ => true) true Try.f6.params.toList args.toList ds p := hA0
  rw [Try.params6] at hA hval
  have hsz : (DataW.weightsEach Try.prog (Try.f6.params.toList ++ Rows.gapPlaysSpec.plain.varTypes Try.prog) (ds ++ gs)).all (· ≤ reachBytes) = true := hsz0
  rw [Try.params6] at hsz
  obtain ⟨v0, vs0, d0, ds0, p0, q0, hargs, rfl, rfl, h0, r0⟩ := trodAll_cons hA
  obtain ⟨rfl, rfl, rfl⟩ := trodAll_nil r0
  obtain rfl : args = #[v0] := by cases args; simp_all
  obtain ⟨rfl, rfl⟩ := trodVars_none hV
  have k0 := h0
  have lt0 : ∀ x ∈ p0, x.block < W.heap.size := by obtain ⟨m, hm⟩ := k0; exact DataW.trod_lt m _ _ _ hm
  obtain ⟨x0, x1, x2, x3, y0, y1, y2, y3, nn, rfl, rfl, rfl, t0, t1, t2, t3⟩ := Go.Joins.open_agg4 Try.underlying51 (by kernel_rfl) (by kernel_rfl) (hval 0 51 v0 rfl rfl) h0
  have hw : ∀ n ∈ (DataW.agg [y0.1, y1.1, y2.1, y3.1]).weights Try.prog 51, n ≤ reachBytes := fun n hn => by have := List.all_eq_true.1 hsz n (DataW.weights_mem_each (j := 0) (t := 51) rfl rfl n hn); simpa using this
  simp only [DataW.weights, Try.underlying51] at hw
  have hw0 : ∀ n ∈ y0.1.weights Try.prog _, n ≤ reachBytes := fun n hn => hw n (DataW.weights_mem_each (j := 0) rfl rfl n hn)
  have hw1 : ∀ n ∈ y1.1.weights Try.prog _, n ≤ reachBytes := fun n hn => hw n (DataW.weights_mem_each (j := 1) rfl rfl n hn)
  have hw2 : ∀ n ∈ y2.1.weights Try.prog _, n ≤ reachBytes := fun n hn => hw n (DataW.weights_mem_each (j := 2) rfl rfl n hn)
  have hw3 : ∀ n ∈ y3.1.weights Try.prog _, n ≤ reachBytes := fun n hn => hw n (DataW.weights_mem_each (j := 3) rfl rfl n hn)
  obtain ⟨sA, eA, rfl, _⟩ := DataW.trod_string Try.underlying9 t0
  obtain ⟨sB, eB, rfl, _⟩ := DataW.trod_string Try.underlying9 t1
  obtain ⟨rfl⟩ : x0 = .string sA := by simpa using eA
  obtain ⟨rfl⟩ : x1 = .string sB := by simpa using eB
  obtain ⟨a1, n1, c1, L1, e2, r1, _, _, b1, f1⟩ := openSteps Try.underlying38 t2 hw2
  obtain ⟨a2, n2, c2, L2, e3, r2, _, _, b2, f2⟩ := openSteps Try.underlying38 t3 hw3
  obtain ⟨rfl⟩ : x2 = .slice a1 n1 c1 := by simpa using e2
  obtain ⟨rfl⟩ : x3 = .slice a2 n2 c2 := by simpa using e3
  obtain ⟨lA, rfl⟩ : ∃ l, sA = bstr l := ⟨_, bstr_of sA⟩
  obtain ⟨lB, rfl⟩ : ∃ l, sB = bstr l := ⟨_, bstr_of sB⟩
  have hbA : lA.length ≤ 140737488351232 := hw0 lA.length (by simp [DataW.weights])
  have hbB : lB.length ≤ 140737488351232 := hw1 lB.length (by simp [DataW.weights])
  clear hA0 hval0
  refine (gapPlays_walk W lA lB hbA hbB a1 n1 c1 L1 r1 b1 f1 a2 n2 c2 L2 r2 b2 f2).mono fun e W' ⟨he, bel⟩ => ?_
  subst he
  exact ⟨_, rfl, _, _, _, [], _, [], hW', trodAll_mk1 (shut_bool Try.underlying4 _), (trodAll_cons_mk (Below.trod laidOut (by kernel_rfl) (of_decide_eq_true (by kernel_rfl)) k0 bel lt0) trodAll_mk0), rfl, bel.frame _, fun h => by cases h⟩
theorem over : Rows.gapPlaysRow.holds Try.pinned (OpenSpec.ofChange Rows.gapPlaysSpec) :=
  OpenClaim.holds_of_wide 6 Try.f6 rfl rfl rfl rfl rfl rfl rfl ⟨rfl, rfl, rfl, rfl, rfl⟩ rfl rfl rfl rfl rfl (by kernel_rfl) Try.func6 (by kernel_rfl)
    (of_decide_eq_true (by kernel_rfl)) (by unfold Func.isWrapper; first | (rw [if_pos (by decide +kernel)]; kernel_rfl) | (rw [if_neg (by decide +kernel)]; exact ⟨rfl, rfl⟩))
    (fun os started H enc _ => lifted os started H enc)
theorem proved : Rows.GapPlaysSaid := over
#print axioms proved
end Go.Proofs.Ytpafdemnnofihaa.gapPlays
