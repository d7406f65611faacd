/- Open of a gap. -/
import Derived.Test.YtpafdemnnofihaaGapF
import Derived.Test.YtpafdemnnofihaaGapD
import Derived.Test.YtpafdemnnofihaaArr
namespace Go.Proofs.Ytpafdemnnofihaa
open Go.RowKit
theorem sizeU8 (w : World) : (sizeOf 5).run Try.prog w = .ok 1 w := by kernel_rfl
theorem info252 : (Try.prog.info? 58).map (·.size) = some 252 := by kernel_rfl
theorem under252 : Try.prog.underlying 58 = some (.array 252 5) := by kernel_rfl
/-- what lies in a block of 256 bytes, by definition -/
def openB (l : List UInt8) : Option (List UInt8 × Nat) :=
  if l.length = 256 then
    if leV (piece l 2 2) < leV (piece l 0 2) ∨ 252 < leV (piece l 2 2) then none
    else if (l.drop (4 + leV (piece l 0 2))).take (leV (piece l 2 2) - leV (piece l 0 2)) = List.replicate (leV (piece l 2 2) - leV (piece l 0 2)) 0 then some ((l.drop 4).take (leV (piece l 0 2)) ++ l.drop (4 + leV (piece l 2 2)), leV (piece l 0 2))
    else none
  else none
theorem openNoLen (w : World) (a : Option Addr) (n ca : Nat) (hn : n ≠ 256) (hm : n ≤ 140737488355328) :
    Calls Try.prog 9 #[.slice a n ca] w fun e w' => e = .returned (.tuple #[.pointer none, .int .i64 160]) ∧ Below w.heap.size w w' := by
  have hne : ((n : Int) != 256) = true := by simp only [bne_iff_ne, ne_eq]; omega
  clear hn
  go_enter Try.func9, Try.ntmps9
  go_wp2
  go_ret2
  exact ⟨rfl, Below.refl _ _⟩
theorem openNoBounds (w : World) (a : Option Addr) (ca : Nat) (l : List UInt8) (ha : Reads w a 256 (l.map B8)) (hno : leV (piece l 2 2) < leV (piece l 0 2) ∨ 252 < leV (piece l 2 2)) :
    Calls Try.prog 9 #[.slice a 256 ca] w fun e w' => e = .returned (.tuple #[.pointer none, .int .i64 160]) ∧ Below w.heap.size w w' := by
  have HA := Lib.hid ha
  obtain ⟨f, hf⟩ : ∃ f, f = leV (piece l 0 2) := ⟨_, rfl⟩
  obtain ⟨t, ht⟩ : ∃ t, t = leV (piece l 2 2) := ⟨_, rfl⟩
  rw [← hf, ← ht] at hno
  have HF := Lib.hid hf
  have HT := Lib.hid ht
  clear hf ht ha
  go_enter Try.func9, Try.ntmps9
  rcases Nat.lt_or_ge t f with h1 | h1
  · clear hno
    go_wp2_with fail
    refine (take16 _ _ _ _ _ 0 HA.out (by decide) (by decide)).mono ?_
    rintro e w1 ⟨rfl, hb1⟩
    have B1 := Lib.hid hb1
    rw [← HF.out]
    clear hb1
    go_wp2_with fail
    refine (take16 _ _ _ _ _ 2 (HA.out.keep B1.out (Nat.le_refl _)) (by decide) (by decide)).mono ?_
    rintro e w2 ⟨rfl, hb2⟩
    have B2 := Lib.hid (B1.out.trans (hb2.mono B1.out.size))
    rw [← HT.out]
    clear hb2
    go_wp2_with fail
    go_ret2
    exact ⟨rfl, B2.out⟩
  · have h2 : 252 < t := by omega
    clear hno
    go_wp2_with fail
    refine (take16 _ _ _ _ _ 0 HA.out (by decide) (by decide)).mono ?_
    rintro e w1 ⟨rfl, hb1⟩
    have B1 := Lib.hid hb1
    rw [← HF.out]
    clear hb1
    go_wp2_with fail
    refine (take16 _ _ _ _ _ 2 (HA.out.keep B1.out (Nat.le_refl _)) (by decide) (by decide)).mono ?_
    rintro e w2 ⟨rfl, hb2⟩
    have B2 := Lib.hid (B1.out.trans (hb2.mono B1.out.size))
    rw [← HT.out]
    clear hb2
    go_wp2_with fail
    go_ret2
    exact ⟨rfl, B2.out⟩
def gapZ0 : List Value := .bool false :: .int .i64 0 :: .int .i64 0 :: List.replicate 252 (.int .u8 0)
theorem run_build_gap (w : World) (v1 v2 : Int) (cs : List Value) (hl : cs.length = 252) :
    (Instr.build 60 #[(0, .bool true), (1, .int .i64 v1), (2, .int .i64 v2), (3, .agg cs.toArray)]).run Try.prog w = .ok (.agg (.bool true :: .int .i64 v1 :: .int .i64 v2 :: cs).toArray) w := by
  have hz : (zeroValue 60).run Try.prog w = .ok (.agg gapZ0.toArray) w := by kernel_rfl
  have hu : Try.prog.underlying 60 = some (.struct (Try.prog.fieldsOf 60)) := by kernel_rfl
  have hp : ((Try.prog.fieldsOf 60).mapM fun f => do pure (f.offset, ← sizeOf f.type) : Sem (Array (Nat × Nat))).run Try.prog w = .ok #[(0, 1), (1, 1), (2, 1), (3, 252)] w := by kernel_rfl
  have hfill : Instr.fill ((#[(0, 1), (1, 1), (2, 1), (3, 252)] : Array (Nat × Nat))[·]?) gapZ0.toArray [(0, .bool true), (1, .int .i64 v1), (2, .int .i64 v2), (3, .agg cs.toArray)] = some (.bool true :: .int .i64 v1 :: .int .i64 v2 :: cs).toArray := by
    have hzl : gapZ0.toArray.size = 255 := by simp only [gapZ0, List.size_toArray, List.length_cons, List.length_replicate]
    simp [Instr.fill, Value.cells, hl, hzl]
    have hz2 : gapZ0.length = 255 := by simpa using hzl
    refine ⟨by omega, by omega, by omega, ?_⟩
    have hf := fold_set 3 cs 0 (((gapZ0.set 0 (Value.bool true)).set 1 (Value.int IntKind.i64 v1)).set 2 (Value.int IntKind.i64 v2)).toArray (by simp [hz2, hl])
    apply Array.ext'
    rw [hf, List.drop_eq_nil_of_le (by simp [hz2, hl])]
    simp only [List.append_nil]
    rfl
  simp only [Instr.build, Sem.run_bind, hz, Result.andThen_ok, run_underlying hu, hp]
  simp only [Value.cells]
  rw [hfill]
  rfl
theorem cell3 (x y z : Value) (L : List Value) (j : Nat) : (x :: y :: z :: L).toArray[3 + j]? = L[j]? := by
  rw [Nat.add_comm]
  simp
def zeros252 : List Value := List.replicate 252 (.int .u8 0)
theorem zeros252_length : zeros252.length = 252 := by simp only [zeros252, List.length_replicate]
set_option maxHeartbeats 2000000 in
set_option maxRecDepth 100000 in
theorem openMain (w : World) (a : Option Addr) (ca : Nat) (l : List UInt8) (ha : Reads w a 256 (l.map B8)) (hc : 256 ≤ ca) (f t : Nat) (hf : f = leV (piece l 0 2)) (ht : t = leV (piece l 2 2)) (h1 : f ≤ t) (h2 : t ≤ 252)
    (b : Bool) (hb : (splice (l.drop 4) f (List.replicate (t - f) 0) == l.drop 4) = b) :
    Calls Try.prog 9 #[.slice a 256 ca] w fun e w' => ∃ g, w.heap.size ≤ g ∧ Raw w' g f t (l.drop 4) ∧ e = .returned (if b = true then .tuple #[gapV g, .int .i64 0] else .tuple #[.pointer none, .int .i64 160]) ∧ Below w.heap.size w w' := by
  have hl := ha.len
  rw [List.length_map] at hl
  have HA := Lib.hid ha
  have HF := Lib.hid hf
  have HT := Lib.hid ht
  have HB := Lib.hid hb
  obtain ⟨D, hD⟩ : ∃ D, D = l.drop 4 := ⟨_, rfl⟩
  have hDl : D.length = 252 := by rw [hD, List.length_drop, hl]
  have HD := Lib.hid hD
  have HDL := Lib.hid hDl
  obtain ⟨bb, o, rfl, hbl, hcell⟩ := ha.2 (by decide)
  have hsrc : ∀ j v, (D.map B8)[j]? = some v → w.cell? ((⟨bb, o + 4, none⟩ : Addr).add j) = some v := by
    intro j v hv
    have hj : j < 252 := by
      have := (List.getElem?_eq_some_iff.1 hv).1
      rwa [List.length_map, hDl] at this
    rw [cell_add, Nat.add_assoc, hcell (4 + j) (by omega), ← hv, hD, List.getElem?_map, List.getElem?_map, List.getElem?_drop]
  have HS := Lib.hid hsrc
  have hca : ¬ ca = 4 := by omega
  clear hf ht hb ha hD hDl hl hcell hsrc
  go_enter Try.func9, Try.ntmps9
  go_wp2_with fail
  refine (take16 _ _ _ _ _ 0 HA.out (by decide) (by decide)).mono ?_
  rintro e w1 ⟨rfl, hb1⟩
  have B1 := Lib.hid hb1
  rw [← HF.out]
  clear hb1
  go_wp2_with fail
  refine (take16 _ _ _ _ _ 2 (HA.out.keep B1.out (Nat.le_refl _)) (by decide) (by decide)).mono ?_
  rintro e w2 ⟨rfl, hb2⟩
  have B2 := Lib.hid (B1.out.trans (hb2.mono B1.out.size))
  rw [← HT.out]
  have hs2 : ∀ j v, (D.map B8)[j]? = some v → w2.cell? ((⟨bb, o + 4, none⟩ : Addr).add j) = some v := by
    intro j v hv
    rw [cell_add, B2.out.cell (p := ⟨bb, o + 4 + j, none⟩) hbl, ← cell_add]
    exact HS.out j v hv
  have HS2 := Lib.hid hs2
  have z2 := B2.out.size
  have hgo : ((f : Nat) : Int) ≤ t := by omega
  have hat : ∀ w', (Instr.arrayAt 58 (.slice (some ⟨bb, o + 4, none⟩) 252 (ca - 4))).run Try.prog w' = .ok (.pointer (some ⟨bb, o + 4, none⟩)) w' := fun w' => run_arrayAt w' _ _ 252 _ _ _ under252 (Nat.le_refl _)
  clear hb2 hs2
  go_wp2_with (first | ((with_reducible show wpList _ _ _ (Oper.mk (some 37) _ _ _ _ _ :: _) _ _); go_must (refine wpList_load_cells rfl 58 (.tmp 36) rfl ⟨bb, o + 4, none⟩ 5 252 rfl under252 info252 (D.map B8) (by rw [List.length_map, HDL.out]) HS2.out ?_)) | ((with_reducible show wpList _ _ _ (Oper.mk (some 38) _ _ _ _ _ :: _) _ _); go_must (refine wpList_run rfl (.agg (.bool true :: .int .i64 f :: .int .i64 t :: D.map B8).toArray) w2 (exec_build _ _ rfl #[(0, .bool true), (1, .int .i64 f), (2, .int .i64 t), (3, .agg (D.map B8).toArray)] (by simp [Act.eval, Act.put]) (run_build_gap w2 f t (D.map B8) (by rw [List.length_map, HDL.out]))) ?_)) | ((with_reducible show wpList _ _ _ (Oper.mk (some 43) _ _ _ _ _ :: _) _ _); go_must (refine wpList_load_arr rfl 58 (.tmp 42) rfl w2.heap.size 3 5 252 rfl _ 60 (0, 0) (heap_alloc_new w2 _) under252 info252 (D.map B8) (by rw [List.length_map, HDL.out]) (fun j v hv => by rw [cell3]; exact hv) ?_)) | ((with_reducible show wpList _ _ _ (Oper.mk (some 9) _ _ _ _ _ :: _) _ _); go_must (refine wpList_run rfl (.pointer (some ⟨(w2.alloc (.cells (.bool true :: .int .i64 f :: .int .i64 t :: D.map B8).toArray 60)).heap.size, 0, none⟩)) ((w2.alloc (.cells (.bool true :: .int .i64 f :: .int .i64 t :: D.map B8).toArray 60)).alloc (.cells zeros252.toArray 58)) (by kernel_rfl) ?_)) | ((with_reducible show wpList _ _ _ (Oper.mk none (Op.store _ _ _) _ _ _ _ :: _) _ _); go_must (refine wpList_store_arr rfl 58 (.tmp 9) (.tmp 43) rfl (w2.heap.size + 1) (D.map B8) (by simp [Act.eval, Act.put]) (by simp [Act.eval, Act.put]) 58 zeros252 (heap_alloc2_new w2 _ _) (by rw [List.length_map, HDL.out]; exact info252) (by rw [List.length_map, HDL.out, zeros252_length]) (b8_one D) ?_); intro w5 hr5 hg5; have r5 : Raw w5 w2.heap.size f t D := Row.apart (show Raw _ w2.heap.size f t D from heap_alloc2_old w2 _ _) hg5 (by omega); have B5 : Hid (Below w.heap.size w w5) := (((B2.out.alloc z2 _).alloc (by simp; omega) _).trans (below_grownBy hg5 (by omega) (by simp; omega))); have z5 := hg5.size; have z5b : w2.heap.size + 1 + 1 ≤ w5.heap.size := by simpa using z5) | ((with_reducible show wpList _ _ _ (Oper.mk none (Op.call _) _ _ _ _ :: _) _ _); go_must (refine wpList_clear_splice rfl (.tmp 46) 22 rfl 5 (.int .u8 0) Try.underlying22 zeroU8 rfl rfl (some (if 252 = f then ⟨w2.heap.size + 1, 0, none⟩ else ⟨w2.heap.size + 1, f, none⟩)) (t - f) (252 - f) (by simp [Act.eval, Act.put]) (w2.heap.size + 1) f (D.map B8) 58 hr5.out (fun hpos => by rw [if_neg (show ¬ 252 = f by omega)]) (by rw [List.length_map, HDL.out]; omega) ?_); intro w6 hr6 hg6; have r6 : Raw w6 w2.heap.size f t D := Row.apart r5 hg6 (by omega); have B6 : Hid (Below w.heap.size w w6) := B5.out.trans (below_grownBy hg6 (by omega) (by omega))))
  all_goals
    clear h
    obtain ⟨SD, hSD⟩ : ∃ SD, SD = splice D f (List.replicate (t - f) 0) := ⟨_, rfl⟩
    have hlS : SD.length = 252 := by
      have e := length_splice D f (List.replicate (t - f) 0) (by rw [List.length_replicate, HDL.out]; omega)
      rw [HDL.out] at e
      rw [hSD]
      exact e
    have hm : splice (D.map B8) f (List.replicate (t - f) (Value.int .u8 0)) = SD.map B8 := by
      rw [hSD]
      unfold splice
      rw [List.map_append, List.map_append, List.map_take, List.map_drop, List.map_replicate, List.length_replicate, List.length_replicate]
      rfl
    have hrow : w6.heap[w2.heap.size + 1]? = some (.cells (SD.map B8).toArray 58 (0, 0)) := by rw [← hm]; exact hr6.out
    have hl1 : ∀ n, (Instr.loadAt 58 (.pointer (some ⟨w2.heap.size + 1, 0, none⟩))).run Try.prog (w6.drewN n) = .ok (.agg (SD.map B8).toArray) (w6.drewN n) := fun n =>
      run_loadAt_part (w6.drewN n) _ 0 _ 5 252 _ _ (0, 0) hrow under252 info252 (SD.map B8) (by rw [List.length_map, hlS]) (fun j v hv => by rw [Nat.zero_add]; simpa using hv)
    have hl2 : ∀ n, (Instr.loadAt 58 (.pointer (some ⟨w2.heap.size, 3, none⟩))).run Try.prog (w6.drewN n) = .ok (.agg (D.map B8).toArray) (w6.drewN n) := fun n =>
      run_loadAt_part (w6.drewN n) _ 3 _ 5 252 _ _ (0, 0) r6 under252 info252 (D.map B8) (by rw [List.length_map, HDL.out]) (fun j v hv => by rw [cell3]; exact hv)
    have heq : ∀ n, (Op.equalIn 10000 58 (.agg (SD.map B8).toArray) (.agg (D.map B8).toArray)).run Try.prog (w6.drewN n) = .ok b (w6.drewN n) := fun n => by
      rw [run_eq_bytes (w6.drewN n) _ _ 252 under252 Try.underlying5 sizeU8 SD D hlS HDL.out, hSD, HD.out, HB.out]
    have R6 := Lib.hid r6
    clear hSD hlS hm hrow r6 r5 hg5 hr5 hr6 hg6 z5 hat
    generalize (SD.map B8).toArray = C1 at hl1 heq
    generalize (D.map B8).toArray = C2 at hl2 heq ⊢
    refine wp_region_quiet_lit (by kernel_rfl) (by kernel_rfl) ?_
    refine wpQuiet_run rfl (.agg C1) (fun w' ⟨n, hn⟩ => by rw [hn]; exact exec_load _ (.tmp 9) rfl (hl1 n)) ?_
    quiet_step (fail)
    quiet_step (fail)
    quiet_step (fail)
    refine wpQuiet_run rfl (.agg C2) (fun w' ⟨n, hn⟩ => by rw [hn]; exact exec_load _ (.tmp 50) rfl (hl2 n)) ?_
    quiet_step (fail)
    refine wpQuiet_nil ?_
    intro _ hw'
    obtain ⟨nq, hw''⟩ := hw'
    subst hw''
    have hq : Quiet w6 (w6.drewN nq) := ⟨_, rfl⟩
    have R7 := Lib.hid (R6.out.quiet hq)
    have B7 : Hid (Below w.heap.size w (w6.drewN nq)) := B6.out.trans (hq.below _)
    clear hl1 hl2 heq hq
    cases b
    · go_wp2
      go_ret2
      exact ⟨_, z2, by rw [← HD.out]; exact R7.out, rfl, B7.out⟩
    · go_wp2
      go_ret2
      exact ⟨_, z2, by rw [← HD.out]; exact R7.out, rfl, B7.out⟩
end Go.Proofs.Ytpafdemnnofihaa
