/- Texts joined, one behind the other (ScanM). -/
import Derived.Test.YtmhemahkcbgaoaaGreatDoorKn08
import Derived.Deep.DeepCutAuto
import Derived.Deep.CutBlock
/- A line's tokens: the label at which blanks are passed over, whole; Scan's contract. -/
namespace Go.Proofs.YtmhemahkcbgaoaaGreatDoor
set_option linter.unusedVariables false
set_option linter.unusedSimpArgs false
open Go.RowKit
open Go.Lib hiding intOf
theorem code_of {c : Option Code} {X : Code} (h : c = some (.seq .skip X)) : X = sndC (c.getD .skip) := by rw [h]; rfl
set_option maxHeartbeats 8000000 in
set_option maxRecDepth 100000 in
theorem scan_blanks (w : World) (l : List UInt8) (hm : l.length ≤ 16384) :
    ∃ X, findLabel (scopeOf Tryz.f12.body) 0 = some (.seq .skip X) ∧ ∀ a wr, SJ l w.heap.size w 0 a wr → X.wp Tryz.prog (jumps (fun l' a' w' => SJ l w.heap.size w l' a' w' ∧ SM l l' a' w' < SM l 0 a wr)
      (bodyPost Tryz.prog Tryz.f12 (ScanQ w.heap.size w (ScanF l)))) a wr := by
  obtain ⟨XT, hXT, htail⟩ := scan_tail w l hm
  have e2 : Code.seq .skip XT = _ := Option.some.inj hXT.symm
  obtain rfl := (Code.seq.inj e2).2
  clear e2 hXT
  refine ⟨_, rfl, ?_⟩
  intro a wr hJ
  obtain ⟨i, f, acc, tk, v, ha, hO, hR, hb, hi, hac, hif, hq⟩ := hJ
  generalize hu : (fun k => a.tmps.getD k undef) = u at ha
  rcases hq with ⟨_, hq⟩ | ⟨h, _⟩ | ⟨h, _⟩ | ⟨h, _⟩
  rotate_left
  · cases h
  · cases h
  · cases h
  clear hu
  subst ha
  obtain ⟨f, rfl⟩ : ∃ g, f = g + 1 := ⟨f - 1, by omega⟩
  obtain ⟨X1, hX1, hl1⟩ := scan_loop1 l hm w.heap.size v i hi u wr
  have e1 : Code.seq .skip X1 = _ := Option.some.inj hX1.symm
  obtain rfl := (Code.seq.inj e1).2
  clear e1 hX1
  dsimp only [fstC] at hl1
  dsimp only [sndC] at htail
  refine wp_seq (hl1 _ _ ?_)
  clear hl1
  intro j a' hij hjn hen hej ha'
  generalize hu : (fun k => a'.tmps.getD k undef) = u2 at ha'
  clear hu
  subst ha'
  obtain ⟨n, hn⟩ : ∃ n, n = l.length := ⟨_, rfl⟩
  have hsz : (bstr l).size = n := by rw [bstr_size, hn]
  have hBr := hb.size
  have hRl : w.heap.size + 1 ≤ wr.heap.size := hR.lt
  have c0 := Row.cell hR 0
  have c1 := Row.cell hR 1
  have c2 := Row.cell hR 2
  have c3 := Row.cell hR 3
  have f0 := Row.frozen hR 0
  have f1 := Row.frozen hR 1
  have f2 := Row.frozen hR 2
  have f3 := Row.frozen hR 3
  simp only [tokCells, List.getElem?_cons_zero, List.getElem?_cons_succ] at c0 c1 c2 c3
  have HN := Lib.hid hn
  have HQ0 := Lib.hid hq
  have HT := Lib.hid htail
  have HEN := Lib.hid hen
  rw [← hn] at hm hi hif hjn
  clear hn hq htail
  by_cases hlt : j < n
  · obtain ⟨x, hx⟩ := some_at (l := l) (k := j) (by rw [← HN.out]; exact hlt)
    have ij : j < (bstr l).size := by rw [hsz]; exact hlt
    have hxa : (bstr l)[j]'ij = x := bstr_at hx _
    have HX := Lib.hid hx
    have HSM := Lib.hid (scanGo_same (l := l) (f := f) (i := j) (j := i) (acc := acc) (hej.trans hen.symm))
    have HEJ := Lib.hid hej
    clear hx hej hen
    by_cases hq34 : x = 34
    · subst hq34
      unfold SFR
      go_wp2
      go_step3
      show SJ l w.heap.size w 1 _ _ ∧ SM l 1 _ _ < SM l 0 _ _
      have hR4 := (((hR.set 0 (.int .i64 0)).set 1 (.int .i64 (j : Int))).set 2 (.string (bstr []))).set 3 (.int .i64 0)
      refine ⟨⟨j, f + 1, acc, ⟨0, j, [], 0⟩, v, rfl, (((hO.other (Nat.lt_succ_self _) _).other (Nat.lt_succ_self _) _).other (Nat.lt_succ_self _) _).other (Nat.lt_succ_self _) _, hR4, (((hb.setCell (p := ⟨w.heap.size, 0, none⟩) (Nat.le_refl _) _).setCell (p := ⟨w.heap.size, 1, none⟩) (Nat.le_refl _) _).setCell (p := ⟨w.heap.size, 2, none⟩) (Nat.le_refl _) _).setCell (p := ⟨w.heap.size, 3, none⟩) (Nat.le_refl _) _, by rw [← HN.out]; omega, by omega, by rw [← HN.out]; omega, .inr (.inl ⟨rfl, HX.out, rfl, HSM.out.trans HQ0.out⟩)⟩, ?_⟩
      show 4 * (l.length + 1 - ((j : Nat) : Int).toNat) + 1 < 4 * (l.length + 1 - ((i : Nat) : Int).toNat) + 2
      rw [← HN.out]
      omega
    · have hq34b : ((x.toNat : Int) == 34) = false := byte_ne (n := 34) (by decide) hq34
      have hgj : l.getD j 0 ≠ 34 := by rw [List.getD_eq_getElem?_getD, HX.out]; exact hq34
      have HG := Lib.hid hgj
      clear hq34 hgj
      unfold SFR
      go_upto_block 2 with fail
      have hR4 : Row ((((wr.setCell ⟨w.heap.size, 0, none⟩ (.int .i64 0)).setCell ⟨w.heap.size, 1, none⟩ (.int .i64 (j : Int))).setCell ⟨w.heap.size, 2, none⟩ (.string ⟨#[]⟩)).setCell ⟨w.heap.size, 3, none⟩ (.int .i64 0)) w.heap.size 28 (tokCells ⟨0, j, [], 0⟩) := (((hR.set 0 (.int .i64 0)).set 1 (.int .i64 (j : Int))).set 2 (.string (bstr []))).set 3 (.int .i64 0)
      have hO4 : OwnT (w.heap.size + 1) v acc ((((wr.setCell ⟨w.heap.size, 0, none⟩ (.int .i64 0)).setCell ⟨w.heap.size, 1, none⟩ (.int .i64 (j : Int))).setCell ⟨w.heap.size, 2, none⟩ (.string ⟨#[]⟩)).setCell ⟨w.heap.size, 3, none⟩ (.int .i64 0)) := (((hO.other (Nat.lt_succ_self _) _).other (Nat.lt_succ_self _) _).other (Nat.lt_succ_self _) _).other (Nat.lt_succ_self _) _
      have hb4 : Below w.heap.size w ((((wr.setCell ⟨w.heap.size, 0, none⟩ (.int .i64 0)).setCell ⟨w.heap.size, 1, none⟩ (.int .i64 (j : Int))).setCell ⟨w.heap.size, 2, none⟩ (.string ⟨#[]⟩)).setCell ⟨w.heap.size, 3, none⟩ (.int .i64 0)) := (((hb.setCell (p := ⟨w.heap.size, 0, none⟩) (Nat.le_refl _) _).setCell (p := ⟨w.heap.size, 1, none⟩) (Nat.le_refl _) _).setCell (p := ⟨w.heap.size, 2, none⟩) (Nat.le_refl _) _).setCell (p := ⟨w.heap.size, 3, none⟩) (Nat.le_refl _) _
      generalize ((((wr.setCell ⟨w.heap.size, 0, none⟩ (.int .i64 0)).setCell ⟨w.heap.size, 1, none⟩ (.int .i64 (j : Int))).setCell ⟨w.heap.size, 2, none⟩ (.string ⟨#[]⟩)).setCell ⟨w.heap.size, 3, none⟩ (.int .i64 0)) = w4 at hR4 hO4 hb4 ⊢
      obtain ⟨X2, hX2, hl2⟩ := scan_loop2 l (by rw [← HN.out]; exact hm) w.heap.size v j (by rw [← HN.out]; exact hjn) w4
      have e1 : Code.seq .skip X2 = _ := Option.some.inj hX2.symm
      obtain rfl := (Code.seq.inj e1).2
      clear e1 hX2
      dsimp only [fstC, sndC] at hl2
      refine hl2 _ _ _ rfl ?_
      clear hl2
      intro k a2 hjk hkn hek ha2
      rename_i hK
      refine hK _ _ ?_
      have hspec : ScanF l = if k = j then .error (70, j) else if l.length ≤ k ∨ BlankN (l.getD k 0).toNat then scanGo l f k (acc ++ [wordTok l j k]) else .error (70, k) := by
        rw [← HQ0.out, ← HSM.out, scanGo]
        simp only [HEJ.out, hek, if_neg HG.out, if_neg (show ¬ l.length ≤ j by rw [← HN.out]; omega)]
      refine wp_mono (HT.out j k f acc v a2 w4 (SM l 0 (SFR l w.heap.size v i u) wr) ha2 hO4 hR4 hb4 hjk hkn (by omega) (by rw [← HN.out]; omega) hspec (by rw [← HN.out]; exact hlt) ?_) (fun _ _ _ h => h)
      show 4 * (l.length + 1 - j) ≤ 4 * (l.length + 1 - ((i : Nat) : Int).toNat) + 2
      omega
  · obtain rfl : j = n := by omega
    have hq : ScanF l = .ok acc := by
      rw [← HQ0.out, scanGo]
      simp only [HEN.out, HN.out, Nat.le_refl, if_true]
    have HQ := Lib.hid hq
    clear hq
    unfold SFR
    go_wp2
    try rw [jumps_ret]
    go_ret2
    unfold ScanQ
    rw [HQ.out]
    exact ⟨_, _, rfl, hb, rfl, own_mono hO (by omega)⟩
set_option maxHeartbeats 4000000 in
set_option maxRecDepth 100000 in
theorem scanC (w : World) (l : List UInt8) (hm : l.length ≤ 140737488355328) (hT : Tabs w) :
    Calls Tryz.prog 12 #[.string (bstr l)] w (ScanQ w.heap.size w (scanOf l)) := by
  have hsz : (bstr l).size = l.length := bstr_size l
  by_cases hl : 16384 < l.length
  · have hs : scanOf l = .error (4, 0) := if_pos hl
    have HS := Lib.hid hs
    have hl2 : 16384 < (bstr l).size := by omega
    clear hs
    go_enter Tryz.func12, Tryz.ntmps12
    go_wp2
    refine wp_scope_labels (fun _ _ _ => False) (fun _ _ _ => 0) (fun _ _ _ h => h.elim) ?_
    go_wp2
    try rw [jumps_ret]
    go_ret2
    unfold ScanQ
    rw [HS.out]
    exact ⟨_, _, rfl, (Below.refl _ w).alloc (Nat.le_refl _) _, rfl, w.heap.size, rfl, Nat.le_refl _, alloc_last _ _⟩
  have hs : scanOf l = ScanF l := if_neg hl
  rw [hs]
  have hm2 : l.length ≤ 16384 := by omega
  obtain ⟨X0, hX0, hp0⟩ := scan_blanks w l hm2
  obtain ⟨X1, hX1, hp1⟩ := scan_text w l hm2 hT
  obtain ⟨X2, hX2, hp2⟩ := scan_wrong w l hm2
  obtain ⟨X3, hX3, hp3⟩ := scan_behind w l hm2
  have hl2 : (bstr l).size ≤ 16384 := by omega
  clear hs hm hsz
  have HX := Lib.hid (⟨hX0, hp0⟩ : _ ∧ _)
  have HP : Hid (∀ lab a wr, SJ l w.heap.size w lab a wr → ∃ rest, findLabel (scopeOf Tryz.f12.body) lab = some rest ∧ rest.wp Tryz.prog (jumps (fun l' a' w' => SJ l w.heap.size w l' a' w' ∧ SM l l' a' w' < SM l lab a wr)
      (bodyPost Tryz.prog Tryz.f12 (ScanQ w.heap.size w (ScanF l)))) a wr) := by
    intro lab a wr hJ
    obtain ⟨i, f, acc, tk, v, h1, h2, h3, h4, h5, h6, h7, hq⟩ := id hJ
    rcases hq with ⟨rfl, _⟩ | ⟨rfl, _⟩ | ⟨rfl, _⟩ | ⟨rfl, _⟩
    · exact ⟨_, hX0, wp_seq (wp_skip (hp0 a wr hJ))⟩
    · exact ⟨_, hX1, wp_seq (wp_skip (hp1 a wr hJ))⟩
    · exact ⟨_, hX2, wp_seq (wp_skip (hp2 _ a wr hJ))⟩
    · exact ⟨_, hX3, wp_seq (wp_skip (hp3 a wr hJ))⟩
  clear hX0 hp0 hX1 hp1 hX2 hp2 hX3 hp3
  go_enter Tryz.func12, Tryz.ntmps12
  go_wp2
  refine wp_scope_labels (SJ l w.heap.size w) (SM l) HP.out ?_
  go_wp2
  go_step3
  rename_i hK
  refine hK _ _ ?_
  obtain ⟨hX, hpass⟩ := HX.out
  have e : Code.seq .skip X0 = _ := Option.some.inj hX.symm
  obtain rfl := (Code.seq.inj e).2
  refine wp_mono (hpass _ _ ?_) ?_
  · exact ⟨0, l.length + 1, [], ⟨0, 0, [], 0⟩, _, rfl, ⟨rfl, .inl ⟨rfl, rfl⟩⟩, alloc_last _ _, (Below.refl _ w).alloc (Nat.le_refl _) _, Nat.zero_le _, Nat.le_refl _, by omega, .inl ⟨rfl, rfl⟩⟩
  · intro e a w hh
    cases e <;> first | exact hh | exact hh.1
end Go.Proofs.YtmhemahkcbgaoaaGreatDoor
