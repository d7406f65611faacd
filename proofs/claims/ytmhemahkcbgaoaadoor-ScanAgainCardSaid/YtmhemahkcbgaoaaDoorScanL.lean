/- A line's tokens: behind a run. -/
import Derived.Test.YtmhemahkcbgaoaaDoorScanK
namespace Go.Proofs.YtmhemahkcbgaoaaDoor
set_option linter.unusedVariables false
set_option linter.unusedSimpArgs false
open Go.RowKit
open Go.Lib hiding intOf
set_option maxHeartbeats 8000000 in
set_option maxRecDepth 100000 in
theorem scan_tail (w : World) (l : List UInt8) (hm : l.length ≤ 16384) :
    ∃ X, findLabel (scopeOf Tryd.f18.body) 0 = some (.seq .skip X) ∧ ∀ (j k f : Nat) (acc : List Tok) (v : Value) (a : Act) (wr : World) (M : Nat), a = SF7 l w.heap.size v k j (fun k => a.tmps.getD k undef) →
      OwnT (w.heap.size + 1) v acc wr → Row wr w.heap.size 38 (tokCells ⟨0, j, [], 0⟩) → Below w.heap.size w wr → j ≤ k → k ≤ l.length → acc.length ≤ j → l.length < j + (f + 1) →
      (ScanF l = if k = j then .error (70, j) else if l.length ≤ k ∨ BlankN (l.getD k 0).toNat then scanGo l f k (acc ++ [wordTok l j k]) else .error (70, k)) → j < l.length → 4 * (l.length + 1 - j) ≤ M →
      (sndC (sndC (sndC (sndC (sndC X))))).wp Tryd.prog (jumps (fun l' a' w' => SJ l w.heap.size w l' a' w' ∧ SM l l' a' w' < M)
      (bodyPost Tryd.prog Tryd.f18 (ScanQ w.heap.size w (ScanF l)))) a wr := by
  refine ⟨_, rfl, ?_⟩
  intro j k f acc v a wr M ha hO hR hb hjk hkn hac hif hspec hjl hM
  generalize (fun k => a.tmps.getD k undef) = u at ha
  subst ha
  dsimp only [sndC]
  obtain ⟨n, hn⟩ : ∃ n, n = l.length := ⟨_, rfl⟩
  have hsz : (bstr l).size = n := by rw [bstr_size, hn]
  have hBr := hb.size
  have hRl : w.heap.size + 1 ≤ wr.heap.size := hR.lt
  have HN := Lib.hid hn
  have HM := Lib.hid hM
  rw [← hn] at hm hkn hif hjl
  unfold SF7 SFR
  simp only [if_true, Nat.reduceEqDiff, if_false]
  by_cases hkj : k = j
  · subst hkj
    rw [if_pos rfl] at hspec
    have HS := Lib.hid hspec
    clear hspec hn hM
    go_wp2
    go_step3
    refine ⟨⟨k, f + 1, acc, _, v, rfl, hO, hR, hb, by rw [← HN.out]; omega, by omega, by rw [← HN.out]; omega, .inr (.inr (.inl ⟨rfl, HS.out⟩))⟩, ?_⟩
    show 0 < M
    have := HM.out
    rw [← HN.out] at this
    omega
  rw [if_neg hkj] at hspec
  obtain ⟨S, hS⟩ : ∃ S, (l.drop j).take (k - j) = S := ⟨_, rfl⟩
  have hSl : S.length ≤ 16384 := by rw [← hS, List.length_take, List.length_drop, ← hn]; omega
  have hkjb : ((k : Int) == (j : Int)) = false := nat_ne hkj
  have hjk2 : j < k := by omega
  have hwt : wordTok l j k = match numOf S with | some m => ⟨2, j, [], m⟩ | none => ⟨1, j, S, 0⟩ := by unfold wordTok; rw [hS]; cases numOf S <;> rfl
  rw [hwt] at hspec
  have c0 := Row.cell hR 0
  have c2 := Row.cell hR 2
  have f0 := Row.frozen hR 0
  have f2 := Row.frozen hR 2
  simp only [tokCells, List.getElem?_cons_zero, List.getElem?_cons_succ] at c0 c2
  have HCL := Lib.hid (cloneC wr S (by omega))
  have HNU := Lib.hid (fun w1 => numberC w1 S (by omega))
  have HMM := HM.out
  cases hnum : numOf S with
  | none =>
    rw [hnum] at hspec HNU
    have HS := Lib.hid hspec
    clear hspec hwt hkj hnum hn hM HMM
    go_wp2_with (first | (go_at_call 41; refine (HCL.out).mono ?_; rintro e w5 ⟨rfl, hb5⟩; have hR5 := hR.keep hb5 hR.lt; have d0 := Row.cell hR5 0; have d2 := Row.cell hR5 2; have g0 := Row.frozen hR5 0; have g2 := Row.frozen hR5 2; simp only [tokCells, List.getElem?_cons_zero, List.getElem?_cons_succ] at d0 d2) | (go_at_call 42; refine (HNU.out _).mono ?_; rintro e wq ⟨rfl, hwq⟩; obtain rfl := hwq.symm))
    go_step3
    show SJ l w.heap.size w 3 _ _ ∧ SM l 3 _ _ < M
    have hR6 := ((hR5.set 0 (.int .i64 1)).set 2 (.string (bstr S)))
    refine ⟨⟨k, f, acc, ⟨1, j, S, 0⟩, v, rfl, (((hO.below hb5).other (Nat.lt_succ_self _) _).other (Nat.lt_succ_self _) _), hR6, (((hb.trans (hb5.mono hBr)).setCell (p := ⟨w.heap.size, 0, none⟩) (Nat.le_refl _) _).setCell (p := ⟨w.heap.size, 2, none⟩) (Nat.le_refl _) _), by rw [← HN.out]; omega, by omega, by rw [← HN.out]; omega, .inr (.inr (.inr ⟨rfl, by omega, by omega, HS.out.symm⟩))⟩, ?_⟩
    show 4 * (l.length + 1 - ((k : Nat) : Int).toNat) + 3 < M
    have := HM.out
    rw [← HN.out] at this ⊢
    omega
  | some m =>
    rw [hnum] at hspec HNU
    simp only [Option.getD_some, Option.isSome_some] at HNU
    have HS := Lib.hid hspec
    clear hspec hwt hkj hnum hn hM HMM
    go_wp2_with (first | (go_at_call 41; refine (HCL.out).mono ?_; rintro e w5 ⟨rfl, hb5⟩; have hR5 := hR.keep hb5 hR.lt; have d0 := Row.cell hR5 0; have d2 := Row.cell hR5 2; have d3 := Row.cell hR5 3; have g3 := Row.frozen hR5 3; have g0 := Row.frozen hR5 0; have g2 := Row.frozen hR5 2; simp only [tokCells, List.getElem?_cons_zero, List.getElem?_cons_succ] at d0 d2 d3) | (go_at_call 42; refine (HNU.out _).mono ?_; rintro e wq ⟨rfl, hwq⟩; obtain rfl := hwq.symm))
    go_step3
    show SJ l w.heap.size w 3 _ _ ∧ SM l 3 _ _ < M
    have hR6 := (((((hR5.set 0 (.int .i64 1)).set 2 (.string (bstr S))).set 0 (.int .i64 2)).set 2 (.string (bstr []))).set 3 (.int .i64 ((m : Nat) : Int)))
    refine ⟨⟨k, f, acc, ⟨2, j, [], m⟩, v, rfl, ((((((hO.below hb5).other (Nat.lt_succ_self _) _).other (Nat.lt_succ_self _) _).other (Nat.lt_succ_self _) _).other (Nat.lt_succ_self _) _).other (Nat.lt_succ_self _) _), hR6, ((((((hb.trans (hb5.mono hBr)).setCell (p := ⟨w.heap.size, 0, none⟩) (Nat.le_refl _) _).setCell (p := ⟨w.heap.size, 2, none⟩) (Nat.le_refl _) _).setCell (p := ⟨w.heap.size, 0, none⟩) (Nat.le_refl _) _).setCell (p := ⟨w.heap.size, 2, none⟩) (Nat.le_refl _) _).setCell (p := ⟨w.heap.size, 3, none⟩) (Nat.le_refl _) _), by rw [← HN.out]; omega, by omega, by rw [← HN.out]; omega, .inr (.inr (.inr ⟨rfl, by omega, by omega, HS.out.symm⟩))⟩, ?_⟩
    show 4 * (l.length + 1 - ((k : Nat) : Int).toNat) + 3 < M
    have := HM.out
    rw [← HN.out] at this ⊢
    omega
end Go.Proofs.YtmhemahkcbgaoaaDoor
