/- Texts joined, one behind the other (DWriter). -/
import Derived.Test.YtnbihjocdlpplaaDoorDp06
/- The program's writer: a line stays, goes, comes. -/
namespace Go.Proofs.YtnbihjocdlpplaaDoor
set_option linter.unusedVariables false
set_option linter.unusedSimpArgs false
open Go.RowKit
open Go.Lib
/-- the writer, whatever its rows are -/
def WS (B : Nat) (w : World) (p : Nat) (st : St7) : Prop := ∃ hs vo vs vg vc, WW B w p hs st.out vo [(vs, st.same), (vg, st.gone), (vc, st.come)]
theorem putK_le (k : Nat) (l : List (List UInt8)) (out : List Hk) : (putK k l out).length ≤ out.length + 1 := by
  unfold putK
  split
  · omega
  · simp
theorem WW.keep {B p : Nat} {w w' : World} {hs : List HCell} {H : List Hk} {vo : Value} {vals : List Wait} (h : WW B w p hs H vo vals) (hb : Below w.heap.size w w') : WW B w' p hs H vo vals :=
  ⟨h.row.keep hb h.row.lt, h.lt, Nat.le_trans h.size hb.size, h.sw.keep hb, h.clip⟩
theorem WS.keep {B p : Nat} {w w' : World} {st : St7} (h : WS B w p st) (hb : Below w.heap.size w w') : WS B w' p st := by
  obtain ⟨hs, vo, vs, vg, vc, h⟩ := h
  exact ⟨hs, vo, vs, vg, vc, h.keep hb⟩
/-- blocks that the writer does not own -/
def ZFree (Z : Nat → Prop) (w : World) (p : Nat) (l : List Value) : Prop := ∀ k, Z k → k < w.heap.size ∧ k ≠ p ∧ ∀ v ∈ l, v.ownBlock ≠ some k
def ZF (Z : Nat → Prop) (w0 w : World) (p : Nat) (l : List Value) : Prop := ZFree Z w p l ∧ ∀ k, Z k → w.heap[k]? = w0.heap[k]?
theorem ZF.start {Z : Nat → Prop} {w : World} {p : Nat} {l : List Value} (h : ZFree Z w p l) : ZF Z w w p l := ⟨h, fun _ _ => rfl⟩
theorem mem_set9 {l : List Value} {i : Nat} {a v : Value} (h : v ∈ l.set i a) : v ∈ l ∨ v = a := List.mem_or_eq_of_mem_set h
theorem ZF.sep {Z : Nat → Prop} {w0 w w1 : World} {B p i : Nat} {vo vo1 v v1 : Value} {l : List Value} (h : ZF Z w0 w p (vo :: l)) (hi : l[i]? = some v) (hs : Sep p w w1 vo vo1 v v1) (hk : KB B p w w1) : ZF Z w0 w1 p (vo1 :: l.set i v1) := by
  refine ⟨fun k hz => ?_, fun k hz => ?_⟩
  · obtain ⟨h1, h2, h3⟩ := h.1 k hz
    refine ⟨Nat.lt_of_lt_of_le h1 hk.1.size, h2, fun u hu => ?_⟩
    rcases List.mem_cons.1 hu with rfl | hu
    · intro e
      rcases hs.2.1 k e with e | e
      · exact h3 vo (by simp) e
      · omega
    · rcases mem_set9 hu with hu | rfl
      · exact h3 u (List.mem_cons_of_mem _ hu)
      · exact fun e => h3 v (List.mem_cons_of_mem _ (List.mem_of_getElem? hi)) (hs.2.2 k e)
  · obtain ⟨h1, h2, h3⟩ := h.1 k hz
    rw [hs.1 k h1 h2 (h3 vo (by simp))]
    exact h.2 k hz
theorem ZF.below {Z : Nat → Prop} {w0 w w' : World} {p : Nat} {l : List Value} (h : ZF Z w0 w p l) (hb : Below w.heap.size w w') : ZF Z w0 w' p l := by
  refine ⟨fun k hz => ?_, fun k hz => ?_⟩
  · obtain ⟨h1, h2, h3⟩ := h.1 k hz
    exact ⟨Nat.lt_of_lt_of_le h1 hb.size, h2, h3⟩
  · rw [hb.block k (h.1 k hz).1]
    exact h.2 k hz
theorem ZF.stored {Z : Nat → Prop} {w0 w w8 : World} {B p i j : Nat} {vo v v8 x : Value} {l : List Value} {e : TypeId} {size n : Nat} {xs cs : List Value} (h : ZF Z w0 w p (vo :: l)) (hi : l[i]? = some v) (hp : AppPost w B e size v n xs cs v8 w8) : ZF Z w0 (w8.setCell ⟨p, j, none⟩ x) p (vo :: l.set i v8) := by
  have hsz : (w8.setCell ⟨p, j, none⟩ x).heap.size = w8.heap.size := by simp
  refine ⟨fun k hz => ?_, fun k hz => ?_⟩
  · obtain ⟨h1, h2, h3⟩ := h.1 k hz
    refine ⟨by rw [hsz]; exact Nat.lt_of_lt_of_le h1 hp.2.1.size, h2, fun u hu => ?_⟩
    rcases List.mem_cons.1 hu with rfl | hu
    · exact h3 u (by simp)
    · rcases mem_set9 hu with hu | rfl
      · exact h3 u (List.mem_cons_of_mem _ hu)
      · intro e
        rcases hp.2.2 with q | q
        · exact h3 v (List.mem_cons_of_mem _ (List.mem_of_getElem? hi)) (q ▸ e)
        · have := q k e; omega
  · obtain ⟨h1, h2, h3⟩ := h.1 k hz
    rw [Below.heap_setCell _ _ _ _ h2, hp.2.1.block k h1 (fun e => h3 v (List.mem_cons_of_mem _ (List.mem_of_getElem? hi)) e.symm)]
    exact h.2 k hz
theorem WS.size {B p : Nat} {w : World} {st : St7} (h : WS B w p st) : B ≤ w.heap.size ∧ p < B := by
  obtain ⟨hs, vo, vs, vg, vc, h⟩ := h
  exact ⟨h.size, h.lt⟩
/-- the writer, and blocks that it does not own -/
def WZ (Z : Nat → Prop) (B : Nat) (w : World) (p : Nat) (st : St7) : Prop := ∃ hs vo vs vg vc, WW B w p hs st.out vo [(vs, st.same), (vg, st.gone), (vc, st.come)] ∧ ZFree Z w p [vo, vs, vg, vc]
theorem WZ.forget {Z : Nat → Prop} {B p : Nat} {w : World} {st : St7} (h : WZ Z B w p st) : WS B w p st := by
  obtain ⟨hs, vo, vs, vg, vc, h, _⟩ := h
  exact ⟨hs, vo, vs, vg, vc, h⟩
theorem WS.zed {B p : Nat} {w : World} {st : St7} (h : WS B w p st) : WZ (fun _ => False) B w p st := by
  obtain ⟨hs, vo, vs, vg, vc, h⟩ := h
  exact ⟨hs, vo, vs, vg, vc, h, fun k hz => hz.elim⟩
/-- a block that is laid just now is not the writer's -/
theorem WS.fresh {B p : Nat} {w : World} {st : St7} (h : WS B w p st) (o : Obj) : WZ (fun k => k = w.heap.size) B (w.alloc o) p st := by
  obtain ⟨hs, vo, vs, vg, vc, h⟩ := h
  refine ⟨hs, vo, vs, vg, vc, h.keep ((Below.refl _ w).alloc (Nat.le_refl _) o), fun k hk => ?_⟩
  have hlt := h.row.lt
  have hv : ∀ q ∈ [(vs, st.same), (vg, st.gone), (vc, st.come)], q.1.ownBlock ≠ some w.heap.size := fun q hq e => by
    have := ((h.sw.strs q hq).lt _ e).2
    omega
  refine ⟨by rw [hk]; simp, by omega, fun v hv2 e => ?_⟩
  rw [hk] at e
  simp only [List.mem_cons, List.not_mem_nil, or_false] at hv2
  rcases hv2 with rfl | rfl | rfl | rfl
  · have := (h.sw.own.lt _ e).2; omega
  · exact hv (v, st.same) (by simp) e
  · exact hv (v, st.gone) (by simp) e
  · exact hv (v, st.come) (by simp) e
theorem WZ.keep {Z : Nat → Prop} {B p : Nat} {w w' : World} {st : St7} (h : WZ Z B w p st) (hb : Below w.heap.size w w') : WZ Z B w' p st := by
  obtain ⟨hs, vo, vs, vg, vc, h, hz⟩ := h
  exact ⟨hs, vo, vs, vg, vc, h.keep hb, ((ZF.start hz).below hb).1⟩
/-- behind the store of a grown row -/
theorem WW.stored {B p : Nat} {w w8 : World} {hs : List HCell} {H : List Hk} {vo v v8 : Value} {vals : List Wait} {i : Nat} {L : List (List UInt8)} {x : List UInt8} (h : WW B w p hs H vo vals) (hi : vals[i]? = some (v, L)) (hp : AppPost w B 9 1 v L.length (L.map S1) [S1 x] v8 w8) :
    WW B (w8.setCell ⟨p, i + 1, none⟩ v8) p hs H vo (vals.set i (v8, L ++ [x])) ∧ KB B p w (w8.setCell ⟨p, i + 1, none⟩ v8) := by
  have hst : StrOwn B v L w := h.sw.strs _ (List.mem_of_getElem? hi)
  have hb8 : Below B w w8 := hp.below hst h.size
  obtain ⟨r1, r2⟩ := h.sw.push h.size hi hp
  have hg9 : w8.grownBy (w8.setCell ⟨p, i + 1, none⟩ v8) (some p) := grownBy_setCell _ _ _ _
  refine ⟨⟨?_, h.lt, Nat.le_trans r2 hg9.size, r1.other hg9 h.lt, h.clip⟩, (KB.of hb8 (.inl (Nat.le_refl _))).set _ _ _⟩
  have h9 := (h.row.keep hb8 h.lt).set (i + 1) v8
  rw [List.set_cons_succ] at h9
  rw [List.map_set]
  exact h9
set_option maxHeartbeats 8000000 in
set_option maxRecDepth 100000 in
theorem staysZ (Z : Nat → Prop) (w : World) (B p : Nat) (st : St7) (s : List UInt8) (h : WZ Z B w p st) (hH : st.out.length ≤ 1048500) (hl : st.same.length ≤ 1073741824) (hsl : s.length ≤ 1099511627776) :
    Calls Tryd.prog 40 #[.pointer (some ⟨p, 0, none⟩), .string (bstr s)] w fun e w' => (∃ u, e = .returned u) ∧ WZ Z B w' p (stepW st (.same s)) ∧ KB B p w w' ∧ ∀ k, Z k → w'.heap[k]? = w.heap[k]? := by
  obtain ⟨hs0, vo0, vs, vg, vc, h0, hz0⟩ := h
  have HZ0 := Lib.hid (ZF.start hz0)
  have HW0 := Lib.hid h0
  have HW1 := HW0
  clear h0 HW1
  go_enter Tryd.func40, Tryd.ntmps40
  go_upto_region 2 with (first
    | (go_at_call_of 74 (Value.int .i64 2); refine (putC w B p hs0 st.out vo0 vg [(vs, st.same), (vg, st.gone), (vc, st.come)] 1 2 st.gone HW0.out rfl (by first | omega | (have := putK_le 2 st.gone st.out; omega))).mono ?_; rintro e w1 ⟨⟨u0, rfl⟩, vo1, hs1, v1, hw1, hb1, hp1⟩; have HW1 := Lib.hid hw1; have HB1x := Lib.hid hb1; have HZ1 := Lib.hid (ZF.sep (i := 1) HZ0.out rfl hp1 hb1); clear hw1 hb1 hp1)
    | (go_at_call_of 74 (Value.int .i64 3); refine (putC w1 B p hs1 (putK 2 st.gone st.out) vo1 vc [(vs, st.same), (v1, []), (vc, st.come)] 2 3 st.come HW1.out rfl (by first | omega | (have := putK_le 2 st.gone st.out; omega))).mono ?_; rintro e w2 ⟨⟨u1, rfl⟩, vo2, hs2, v2, hw2, hb2, hp2⟩; have HW2 := Lib.hid hw2; have HB2x := Lib.hid hb2; have HZ2 := Lib.hid (ZF.sep (i := 2) HZ1.out rfl hp2 hb2); clear hw2 hb2 hp2))
  have HBW : Hid (KB B p w w2) := Lib.hid (HB1x.out.trans HB2x.out)
  obtain ⟨wq, hwq⟩ : ∃ x, x = w2 := ⟨_, rfl⟩
  obtain ⟨vals, hvals⟩ : ∃ x, x = [(vs, st.same), (v1, []), (v2, [])] := ⟨_, rfl⟩
  obtain ⟨vv, hvv⟩ : ∃ x, x = vs := ⟨_, rfl⟩
  obtain ⟨L, hL⟩ : ∃ x, x = st.same := ⟨_, rfl⟩
  have HI : Hid (vals[0]? = some (vv, L)) := by rw [hvals, hvv, hL]; exact rfl
  have HWQ : Hid (WW B wq p hs2 (putK 3 st.come (putK 2 st.gone st.out)) vo2 vals) := by rw [hwq, hvals]; exact HW2
  have HBQ : Hid (KB B p w wq) := by rw [hwq]; exact HBW
  have HZQ : Hid (ZF Z w wq p (vo2 :: vals.map (·.1))) := by rw [hwq, hvals]; exact HZ2
  have HZ1 : Hid (ZF Z w wq.drew p (vo2 :: vals.map (·.1))) := Lib.hid (HZQ.out.below ((Below.refl _ _).drew))
  have hvi : (vals.map (·.1))[0]? = some vv := by rw [List.getElem?_map, HI.out]; rfl
  have HW1 : Hid (WW B wq.drew p hs2 (putK 3 st.come (putK 2 st.gone st.out)) vo2 vals) := Lib.hid (HWQ.out.keep ((Below.refl _ _).drew))
  have HB1 : Hid (KB B p w wq.drew) := Lib.hid (HBQ.out.trans (KB.of ((Below.refl _ _).drew) (.inr (Nat.le_refl _))))
  have hpq : p ≤ wq.drew.heap.size := Nat.le_of_lt HW1.out.row.lt
  have hL2 : L.length ≤ 1073741824 := by rw [hL]; exact hl
  have hf : ∀ W, Row W p 68 (vo2 :: vals.map (·.1)) → W.cell? ⟨p, 1, none⟩ = some vv ∧ W.frozen? ⟨p, 1, none⟩ = false := fun W hW => ⟨(hW.cell 1).trans (by have := HI.out; simp [this]), hW.frozen 1⟩
  have HF := Lib.hid hf
  have d1 := (HF.out _ HW1.out.row).1
  have a1 := HWQ.out.sw.slice HI.out
  obtain ⟨aa, cc, rfl, _, _, _⟩ := a1
  rw [← hwq]
  have HFIN : Hid (∀ W v, WW B W p hs2 (putK 3 st.come (putK 2 st.gone st.out)) vo2 (vals.set 0 (v, L ++ [s])) → ZFree Z W p (vo2 :: (vals.map (·.1)).set 0 v) → WZ Z B W p (stepW st (.same s))) := Lib.hid (fun W v hW hZ => by rw [hvals, hL] at hW; rw [hvals] at hZ; exact ⟨_, _, _, _, _, hW, hZ⟩)
  have HVI := Lib.hid hvi
  clear hf hvals hvv hL hwq hvi
  refine wp_region_held_drew (S := (fun _ : World => True)) (by kernel_rfl) trivial (fun hS0 => ?_)
  refine wpAnyH_take (i := 0) (v := ?v0x1) rfl (by kernel_rfl) (by kernel_rfl) (by kernel_rfl) (fun _ _ _ h => h) (Or.inl ⟨by rfl, ?y0x1⟩) hS0 ?r0x1
  case y0x1 => (intro w2 hSw; go_simp; try with_reducible rfl)
  try simp only [Act.put, List.setIfInBounds_toArray, List.set_cons_zero, List.set_cons_succ]
  refine wpAnyH_take (i := 1) (v := ?v1x2) rfl (by kernel_rfl) (by kernel_rfl) (by kernel_rfl) (fun _ _ _ h => h) (Or.inl ⟨by rfl, ?y1x2⟩) hS0 ?r1x2
  case y1x2 => (intro w2 hSw; go_simp; try with_reducible rfl)
  try simp only [Act.put, List.setIfInBounds_toArray, List.set_cons_zero, List.set_cons_succ]
  refine wpAnyH_take (i := 2) (v := ?v2x3) rfl (by kernel_rfl) (by kernel_rfl) (by kernel_rfl) (fun _ _ _ h => h) (Or.inl ⟨by rfl, ?y2x3⟩) hS0 ?r2x3
  case y2x3 => (intro w2 hSw; go_simp; try with_reducible rfl)
  try simp only [Act.put, List.setIfInBounds_toArray, List.set_cons_zero, List.set_cons_succ]
  refine wpAnyH_take (i := 3) (v := ?v3x4) rfl (by kernel_rfl) (by kernel_rfl) (by kernel_rfl) (fun _ _ _ h => h) (Or.inl ⟨by rfl, ?y3x4⟩) hS0 ?r3x4
  case y3x4 => (intro w2 hSw; go_simp; try with_reducible rfl)
  try simp only [Act.put, List.setIfInBounds_toArray, List.set_cons_zero, List.set_cons_succ]
  refine wpAnyH_take (i := 5) (v := ?v5x5) rfl (by kernel_rfl) (by kernel_rfl) (by kernel_rfl) (fun _ _ _ h => h) (Or.inl ⟨by rfl, ?y5x5⟩) hS0 ?r5x5
  case y5x5 => (intro w2 hSw; go_simp; try with_reducible rfl)
  try simp only [Act.put, List.setIfInBounds_toArray, List.set_cons_zero, List.set_cons_succ]
  refine wpAnyH_ready (rs := [4, 6]) (by kernel_rfl) (by simp) (AllReadyH.cons rfl (fun K' hK => ?p4) (AllReadyH.cons rfl (fun K' hK => ?p6) AllReadyH.nil))
  case p4 =>
    go_simp
    refine hK.out _ _ trivial (fun hSn => ?_)
    try simp only [Act.put, List.setIfInBounds_toArray, List.set_cons_zero, List.set_cons_succ]
    clear hK K'
    refine wpAnyH_ready (rs := [6]) (by kernel_rfl) (by simp) (AllReadyH.cons rfl (fun K' hK => ?_) AllReadyH.nil)
    go_simp
    refine (cloneC wq.drew s hsl).mono ?_
    rintro e w3 ⟨rfl, hb3⟩
    have HW3 := Lib.hid (HW1.out.keep hb3)
    have s3 := (HF.out w3 HW3.out.row).1
    have HZ3 := Lib.hid (HZ1.out.below hb3)
    have hB3 := HW3.out.size
    have Hb3 : Hid (KB B p w w3) := Lib.hid (HB1.out.trans (KB.of hb3 (.inr (Nat.le_refl _))))
    clear hb3
    show K' _ _
    refine hK.out _ _ trivial (fun hSn => ?_)
    try simp only [Act.put, List.setIfInBounds_toArray, List.set_cons_zero, List.set_cons_succ]
    clear hK K'
    refine wpAnyH_ready (rs := [7]) (by kernel_rfl) (by simp) (AllReadyH.cons rfl (fun K' hK => ?_) AllReadyH.nil)
    go_simp
    refine hK.out _ _ trivial (fun hSn => ?_)
    try simp only [Act.put, List.setIfInBounds_toArray, List.set_cons_zero, List.set_cons_succ]
    clear hK K'
    refine wpAnyH_ready (rs := [8]) (by kernel_rfl) (by simp) (AllReadyH.cons rfl (fun K' hK => ?_) AllReadyH.nil)
    refine stepSep (by rfl) _ _ (by rfl) Tryd.underlying29 (.string ByteArray.empty) 1 16 infoStr (by rfl) (by decide) (by decide) B w3 (.slice aa L.length cc) L.length (L.map S1) [S1 s] (by rfl) (by intro u hu; simp only [List.mem_singleton] at hu; subst hu; rfl) (by rfl) (HW3.out.sw.strs _ (List.mem_of_getElem? HI.out)) (by rfl) (by rfl) hL2 hB3 ?_
    intro v8 w8 hp8
    obtain ⟨hq8, hq9⟩ := HW3.out.stored HI.out hp8
    have HZ8 := Lib.hid (ZF.stored (j := 1) (x := v8) HZ3.out HVI.out hp8)
    have hr8 : Row w8 p 68 _ := HW3.out.row.keep (hp8.below (HW3.out.sw.strs _ (List.mem_of_getElem? HI.out)) hB3) HW3.out.lt
    obtain ⟨x1, x2⟩ := HF.out w8 hr8
    obtain ⟨a8, c8, hv8⟩ := slice_own hp8.1
    subst hv8
    have HQ8 := Lib.hid hq8; have HQ9 := Lib.hid hq9; clear hp8 hr8 hq8 hq9
    refine hK.out _ _ trivial (fun hSn => ?_)
    try simp only [Act.put, List.setIfInBounds_toArray, List.set_cons_zero, List.set_cons_succ]
    clear hK K'
    refine wpAnyH_take (i := 9) (v := ?v9x6) rfl (by kernel_rfl) (by kernel_rfl) (by kernel_rfl) (fun _ _ _ h => h) (Or.inl ⟨by rfl, ?y9x6⟩) trivial ?r9x6
    case y9x6 => (intro w2 hSw; go_simp; try with_reducible rfl)
    try simp only [Act.put, List.setIfInBounds_toArray, List.set_cons_zero, List.set_cons_succ]
    refine wpAnyH_take (i := 10) (v := ?v10x7) rfl (by kernel_rfl) (by kernel_rfl) (by kernel_rfl) (fun _ _ _ h => h) (Or.inl ⟨by rfl, ?y10x7⟩) trivial ?r10x7
    case y10x7 => (intro w2 hSw; go_simp; try with_reducible rfl)
    try simp only [Act.put, List.setIfInBounds_toArray, List.set_cons_zero, List.set_cons_succ]
    refine wpAnyH_ready (rs := [11]) (by kernel_rfl) (by simp) (AllReadyH.cons rfl (fun K' hK => ?_) AllReadyH.nil)
    go_simp
    refine hK.out _ _ trivial (fun hSn => ?_)
    try simp only [Act.put, List.setIfInBounds_toArray, List.set_cons_zero, List.set_cons_succ]
    clear hK K'
    refine wpAnyH_done (by kernel_rfl) ?_ _
    go_wp2
    refine bodyPost_end (results_none rfl _ _ _) rfl ?_
    exact ⟨⟨_, rfl⟩, HFIN.out _ _ HQ8.out HZ8.out.1, Hb3.out.trans HQ9.out, HZ8.out.2⟩
  case p6 =>
    go_simp
    refine (cloneC wq.drew s hsl).mono ?_
    rintro e w3 ⟨rfl, hb3⟩
    have HW3 := Lib.hid (HW1.out.keep hb3)
    have s3 := (HF.out w3 HW3.out.row).1
    have HZ3 := Lib.hid (HZ1.out.below hb3)
    have hB3 := HW3.out.size
    have Hb3 : Hid (KB B p w w3) := Lib.hid (HB1.out.trans (KB.of hb3 (.inr (Nat.le_refl _))))
    clear hb3
    show K' _ _
    refine hK.out _ _ trivial (fun hSn => ?_)
    try simp only [Act.put, List.setIfInBounds_toArray, List.set_cons_zero, List.set_cons_succ]
    clear hK K'
    refine wpAnyH_ready (rs := [4, 7]) (by kernel_rfl) (by simp) (AllReadyH.cons rfl (fun K' hK => ?q4) (AllReadyH.cons rfl (fun K' hK => ?q7) AllReadyH.nil))
    case q4 =>
      go_simp
      refine hK.out _ _ trivial (fun hSn => ?_)
      try simp only [Act.put, List.setIfInBounds_toArray, List.set_cons_zero, List.set_cons_succ]
      clear hK K'
      refine wpAnyH_ready (rs := [7]) (by kernel_rfl) (by simp) (AllReadyH.cons rfl (fun K' hK => ?_) AllReadyH.nil)
      go_simp
      refine hK.out _ _ trivial (fun hSn => ?_)
      try simp only [Act.put, List.setIfInBounds_toArray, List.set_cons_zero, List.set_cons_succ]
      clear hK K'
      refine wpAnyH_ready (rs := [8]) (by kernel_rfl) (by simp) (AllReadyH.cons rfl (fun K' hK => ?_) AllReadyH.nil)
      refine stepSep (by rfl) _ _ (by rfl) Tryd.underlying29 (.string ByteArray.empty) 1 16 infoStr (by rfl) (by decide) (by decide) B w3 (.slice aa L.length cc) L.length (L.map S1) [S1 s] (by rfl) (by intro u hu; simp only [List.mem_singleton] at hu; subst hu; rfl) (by rfl) (HW3.out.sw.strs _ (List.mem_of_getElem? HI.out)) (by rfl) (by rfl) hL2 hB3 ?_
      intro v8 w8 hp8
      obtain ⟨hq8, hq9⟩ := HW3.out.stored HI.out hp8
      have HZ8 := Lib.hid (ZF.stored (j := 1) (x := v8) HZ3.out HVI.out hp8)
      have hr8 : Row w8 p 68 _ := HW3.out.row.keep (hp8.below (HW3.out.sw.strs _ (List.mem_of_getElem? HI.out)) hB3) HW3.out.lt
      obtain ⟨x1, x2⟩ := HF.out w8 hr8
      obtain ⟨a8, c8, hv8⟩ := slice_own hp8.1
      subst hv8
      have HQ8 := Lib.hid hq8; have HQ9 := Lib.hid hq9; clear hp8 hr8 hq8 hq9
      refine hK.out _ _ trivial (fun hSn => ?_)
      try simp only [Act.put, List.setIfInBounds_toArray, List.set_cons_zero, List.set_cons_succ]
      clear hK K'
      refine wpAnyH_take (i := 9) (v := ?v9x8) rfl (by kernel_rfl) (by kernel_rfl) (by kernel_rfl) (fun _ _ _ h => h) (Or.inl ⟨by rfl, ?y9x8⟩) trivial ?r9x8
      case y9x8 => (intro w2 hSw; go_simp; try with_reducible rfl)
      try simp only [Act.put, List.setIfInBounds_toArray, List.set_cons_zero, List.set_cons_succ]
      refine wpAnyH_take (i := 10) (v := ?v10x9) rfl (by kernel_rfl) (by kernel_rfl) (by kernel_rfl) (fun _ _ _ h => h) (Or.inl ⟨by rfl, ?y10x9⟩) trivial ?r10x9
      case y10x9 => (intro w2 hSw; go_simp; try with_reducible rfl)
      try simp only [Act.put, List.setIfInBounds_toArray, List.set_cons_zero, List.set_cons_succ]
      refine wpAnyH_ready (rs := [11]) (by kernel_rfl) (by simp) (AllReadyH.cons rfl (fun K' hK => ?_) AllReadyH.nil)
      go_simp
      refine hK.out _ _ trivial (fun hSn => ?_)
      try simp only [Act.put, List.setIfInBounds_toArray, List.set_cons_zero, List.set_cons_succ]
      clear hK K'
      refine wpAnyH_done (by kernel_rfl) ?_ _
      go_wp2
      refine bodyPost_end (results_none rfl _ _ _) rfl ?_
      exact ⟨⟨_, rfl⟩, HFIN.out _ _ HQ8.out HZ8.out.1, Hb3.out.trans HQ9.out, HZ8.out.2⟩
    case q7 =>
      have s4 : (w3.alloc (.cells #[Value.string (bstr s)] 9)).cell? ⟨p, 1, none⟩ = some (.slice aa L.length cc) := (HF.out _ (HW3.out.row.alloc (.cells [S1 s].toArray 9))).1
      go_simp
      refine hK.out _ _ trivial (fun hSn => ?_)
      try simp only [Act.put, List.setIfInBounds_toArray, List.set_cons_zero, List.set_cons_succ]
      clear hK K'
      refine wpAnyH_ready (rs := [4]) (by kernel_rfl) (by simp) (AllReadyH.cons rfl (fun K' hK => ?_) AllReadyH.nil)
      go_simp
      refine hK.out _ _ trivial (fun hSn => ?_)
      try simp only [Act.put, List.setIfInBounds_toArray, List.set_cons_zero, List.set_cons_succ]
      clear hK K'
      refine wpAnyH_ready (rs := [8]) (by kernel_rfl) (by simp) (AllReadyH.cons rfl (fun K' hK => ?_) AllReadyH.nil)
      refine stepSep (by rfl) _ _ (by rfl) Tryd.underlying29 (.string ByteArray.empty) 1 16 infoStr (by rfl) (by decide) (by decide) B w3 (.slice aa L.length cc) L.length (L.map S1) [S1 s] (by rfl) (by intro u hu; simp only [List.mem_singleton] at hu; subst hu; rfl) (by rfl) (HW3.out.sw.strs _ (List.mem_of_getElem? HI.out)) (by rfl) (by rfl) hL2 hB3 ?_
      intro v8 w8 hp8
      obtain ⟨hq8, hq9⟩ := HW3.out.stored HI.out hp8
      have HZ8 := Lib.hid (ZF.stored (j := 1) (x := v8) HZ3.out HVI.out hp8)
      have hr8 : Row w8 p 68 _ := HW3.out.row.keep (hp8.below (HW3.out.sw.strs _ (List.mem_of_getElem? HI.out)) hB3) HW3.out.lt
      obtain ⟨x1, x2⟩ := HF.out w8 hr8
      obtain ⟨a8, c8, hv8⟩ := slice_own hp8.1
      subst hv8
      have HQ8 := Lib.hid hq8; have HQ9 := Lib.hid hq9; clear hp8 hr8 hq8 hq9
      refine hK.out _ _ trivial (fun hSn => ?_)
      try simp only [Act.put, List.setIfInBounds_toArray, List.set_cons_zero, List.set_cons_succ]
      clear hK K'
      refine wpAnyH_take (i := 9) (v := ?v9x10) rfl (by kernel_rfl) (by kernel_rfl) (by kernel_rfl) (fun _ _ _ h => h) (Or.inl ⟨by rfl, ?y9x10⟩) trivial ?r9x10
      case y9x10 => (intro w2 hSw; go_simp; try with_reducible rfl)
      try simp only [Act.put, List.setIfInBounds_toArray, List.set_cons_zero, List.set_cons_succ]
      refine wpAnyH_take (i := 10) (v := ?v10x11) rfl (by kernel_rfl) (by kernel_rfl) (by kernel_rfl) (fun _ _ _ h => h) (Or.inl ⟨by rfl, ?y10x11⟩) trivial ?r10x11
      case y10x11 => (intro w2 hSw; go_simp; try with_reducible rfl)
      try simp only [Act.put, List.setIfInBounds_toArray, List.set_cons_zero, List.set_cons_succ]
      refine wpAnyH_ready (rs := [11]) (by kernel_rfl) (by simp) (AllReadyH.cons rfl (fun K' hK => ?_) AllReadyH.nil)
      go_simp
      refine hK.out _ _ trivial (fun hSn => ?_)
      try simp only [Act.put, List.setIfInBounds_toArray, List.set_cons_zero, List.set_cons_succ]
      clear hK K'
      refine wpAnyH_done (by kernel_rfl) ?_ _
      go_wp2
      refine bodyPost_end (results_none rfl _ _ _) rfl ?_
      exact ⟨⟨_, rfl⟩, HFIN.out _ _ HQ8.out HZ8.out.1, Hb3.out.trans HQ9.out, HZ8.out.2⟩
set_option maxHeartbeats 8000000 in
set_option maxRecDepth 100000 in
theorem goesZ (Z : Nat → Prop) (w : World) (B p : Nat) (st : St7) (s : List UInt8) (h : WZ Z B w p st) (hH : st.out.length ≤ 1048500) (hl : st.gone.length ≤ 1073741824) (hsl : s.length ≤ 1099511627776) :
    Calls Tryd.prog 41 #[.pointer (some ⟨p, 0, none⟩), .string (bstr s)] w fun e w' => (∃ u, e = .returned u) ∧ WZ Z B w' p (stepW st (.gone s)) ∧ KB B p w w' ∧ ∀ k, Z k → w'.heap[k]? = w.heap[k]? := by
  obtain ⟨hs0, vo0, vs, vg, vc, h0, hz0⟩ := h
  have HZ0 := Lib.hid (ZF.start hz0)
  have HW0 := Lib.hid h0
  have HW1 := HW0
  clear h0 HW1
  go_enter Tryd.func41, Tryd.ntmps41
  go_upto_region 1 with (first
    | (go_at_call_of 74 (Value.int .i64 1); refine (putC w B p hs0 st.out vo0 vs [(vs, st.same), (vg, st.gone), (vc, st.come)] 0 1 st.same HW0.out rfl (by first | omega | (have := putK_le 1 st.same st.out; omega))).mono ?_; rintro e w1 ⟨⟨u0, rfl⟩, vo1, hs1, v1, hw1, hb1, hp1⟩; have HW1 := Lib.hid hw1; have HB1x := Lib.hid hb1; have HZ1 := Lib.hid (ZF.sep (i := 0) HZ0.out rfl hp1 hb1); clear hw1 hb1 hp1))
  have HBW : Hid (KB B p w w1) := Lib.hid (HB1x.out)
  obtain ⟨wq, hwq⟩ : ∃ x, x = w1 := ⟨_, rfl⟩
  obtain ⟨vals, hvals⟩ : ∃ x, x = [(v1, []), (vg, st.gone), (vc, st.come)] := ⟨_, rfl⟩
  obtain ⟨vv, hvv⟩ : ∃ x, x = vg := ⟨_, rfl⟩
  obtain ⟨L, hL⟩ : ∃ x, x = st.gone := ⟨_, rfl⟩
  have HI : Hid (vals[1]? = some (vv, L)) := by rw [hvals, hvv, hL]; exact rfl
  have HWQ : Hid (WW B wq p hs1 (putK 1 st.same st.out) vo1 vals) := by rw [hwq, hvals]; exact HW1
  have HBQ : Hid (KB B p w wq) := by rw [hwq]; exact HBW
  have HZQ : Hid (ZF Z w wq p (vo1 :: vals.map (·.1))) := by rw [hwq, hvals]; exact HZ1
  have HZ1 : Hid (ZF Z w wq.drew p (vo1 :: vals.map (·.1))) := Lib.hid (HZQ.out.below ((Below.refl _ _).drew))
  have hvi : (vals.map (·.1))[1]? = some vv := by rw [List.getElem?_map, HI.out]; rfl
  have HW1 : Hid (WW B wq.drew p hs1 (putK 1 st.same st.out) vo1 vals) := Lib.hid (HWQ.out.keep ((Below.refl _ _).drew))
  have HB1 : Hid (KB B p w wq.drew) := Lib.hid (HBQ.out.trans (KB.of ((Below.refl _ _).drew) (.inr (Nat.le_refl _))))
  have hpq : p ≤ wq.drew.heap.size := Nat.le_of_lt HW1.out.row.lt
  have hL2 : L.length ≤ 1073741824 := by rw [hL]; exact hl
  have hf : ∀ W, Row W p 68 (vo1 :: vals.map (·.1)) → W.cell? ⟨p, 2, none⟩ = some vv ∧ W.frozen? ⟨p, 2, none⟩ = false := fun W hW => ⟨(hW.cell 2).trans (by have := HI.out; simp [this]), hW.frozen 2⟩
  have HF := Lib.hid hf
  have d1 := (HF.out _ HW1.out.row).1
  have a1 := HWQ.out.sw.slice HI.out
  obtain ⟨aa, cc, rfl, _, _, _⟩ := a1
  rw [← hwq]
  have HFIN : Hid (∀ W v, WW B W p hs1 (putK 1 st.same st.out) vo1 (vals.set 1 (v, L ++ [s])) → ZFree Z W p (vo1 :: (vals.map (·.1)).set 1 v) → WZ Z B W p (stepW st (.gone s))) := Lib.hid (fun W v hW hZ => by rw [hvals, hL] at hW; rw [hvals] at hZ; exact ⟨_, _, _, _, _, hW, hZ⟩)
  have HVI := Lib.hid hvi
  clear hf hvals hvv hL hwq hvi
  refine wp_region_held_drew (S := (fun _ : World => True)) (by kernel_rfl) trivial (fun hS0 => ?_)
  refine wpAnyH_take (i := 0) (v := ?v0x12) rfl (by kernel_rfl) (by kernel_rfl) (by kernel_rfl) (fun _ _ _ h => h) (Or.inl ⟨by rfl, ?y0x12⟩) hS0 ?r0x12
  case y0x12 => (intro w2 hSw; go_simp; try with_reducible rfl)
  try simp only [Act.put, List.setIfInBounds_toArray, List.set_cons_zero, List.set_cons_succ]
  refine wpAnyH_take (i := 1) (v := ?v1x13) rfl (by kernel_rfl) (by kernel_rfl) (by kernel_rfl) (fun _ _ _ h => h) (Or.inl ⟨by rfl, ?y1x13⟩) hS0 ?r1x13
  case y1x13 => (intro w2 hSw; go_simp; try with_reducible rfl)
  try simp only [Act.put, List.setIfInBounds_toArray, List.set_cons_zero, List.set_cons_succ]
  refine wpAnyH_take (i := 2) (v := ?v2x14) rfl (by kernel_rfl) (by kernel_rfl) (by kernel_rfl) (fun _ _ _ h => h) (Or.inl ⟨by rfl, ?y2x14⟩) hS0 ?r2x14
  case y2x14 => (intro w2 hSw; go_simp; try with_reducible rfl)
  try simp only [Act.put, List.setIfInBounds_toArray, List.set_cons_zero, List.set_cons_succ]
  refine wpAnyH_take (i := 3) (v := ?v3x15) rfl (by kernel_rfl) (by kernel_rfl) (by kernel_rfl) (fun _ _ _ h => h) (Or.inl ⟨by rfl, ?y3x15⟩) hS0 ?r3x15
  case y3x15 => (intro w2 hSw; go_simp; try with_reducible rfl)
  try simp only [Act.put, List.setIfInBounds_toArray, List.set_cons_zero, List.set_cons_succ]
  refine wpAnyH_take (i := 5) (v := ?v5x16) rfl (by kernel_rfl) (by kernel_rfl) (by kernel_rfl) (fun _ _ _ h => h) (Or.inl ⟨by rfl, ?y5x16⟩) hS0 ?r5x16
  case y5x16 => (intro w2 hSw; go_simp; try with_reducible rfl)
  try simp only [Act.put, List.setIfInBounds_toArray, List.set_cons_zero, List.set_cons_succ]
  refine wpAnyH_ready (rs := [4, 6]) (by kernel_rfl) (by simp) (AllReadyH.cons rfl (fun K' hK => ?p4) (AllReadyH.cons rfl (fun K' hK => ?p6) AllReadyH.nil))
  case p4 =>
    go_simp
    refine hK.out _ _ trivial (fun hSn => ?_)
    try simp only [Act.put, List.setIfInBounds_toArray, List.set_cons_zero, List.set_cons_succ]
    clear hK K'
    refine wpAnyH_ready (rs := [6]) (by kernel_rfl) (by simp) (AllReadyH.cons rfl (fun K' hK => ?_) AllReadyH.nil)
    go_simp
    refine (cloneC wq.drew s hsl).mono ?_
    rintro e w3 ⟨rfl, hb3⟩
    have HW3 := Lib.hid (HW1.out.keep hb3)
    have s3 := (HF.out w3 HW3.out.row).1
    have HZ3 := Lib.hid (HZ1.out.below hb3)
    have hB3 := HW3.out.size
    have Hb3 : Hid (KB B p w w3) := Lib.hid (HB1.out.trans (KB.of hb3 (.inr (Nat.le_refl _))))
    clear hb3
    show K' _ _
    refine hK.out _ _ trivial (fun hSn => ?_)
    try simp only [Act.put, List.setIfInBounds_toArray, List.set_cons_zero, List.set_cons_succ]
    clear hK K'
    refine wpAnyH_ready (rs := [7]) (by kernel_rfl) (by simp) (AllReadyH.cons rfl (fun K' hK => ?_) AllReadyH.nil)
    go_simp
    refine hK.out _ _ trivial (fun hSn => ?_)
    try simp only [Act.put, List.setIfInBounds_toArray, List.set_cons_zero, List.set_cons_succ]
    clear hK K'
    refine wpAnyH_ready (rs := [8]) (by kernel_rfl) (by simp) (AllReadyH.cons rfl (fun K' hK => ?_) AllReadyH.nil)
    refine stepSep (by rfl) _ _ (by rfl) Tryd.underlying29 (.string ByteArray.empty) 1 16 infoStr (by rfl) (by decide) (by decide) B w3 (.slice aa L.length cc) L.length (L.map S1) [S1 s] (by rfl) (by intro u hu; simp only [List.mem_singleton] at hu; subst hu; rfl) (by rfl) (HW3.out.sw.strs _ (List.mem_of_getElem? HI.out)) (by rfl) (by rfl) hL2 hB3 ?_
    intro v8 w8 hp8
    obtain ⟨hq8, hq9⟩ := HW3.out.stored HI.out hp8
    have HZ8 := Lib.hid (ZF.stored (j := 2) (x := v8) HZ3.out HVI.out hp8)
    have hr8 : Row w8 p 68 _ := HW3.out.row.keep (hp8.below (HW3.out.sw.strs _ (List.mem_of_getElem? HI.out)) hB3) HW3.out.lt
    obtain ⟨x1, x2⟩ := HF.out w8 hr8
    obtain ⟨a8, c8, hv8⟩ := slice_own hp8.1
    subst hv8
    have HQ8 := Lib.hid hq8; have HQ9 := Lib.hid hq9; clear hp8 hr8 hq8 hq9
    refine hK.out _ _ trivial (fun hSn => ?_)
    try simp only [Act.put, List.setIfInBounds_toArray, List.set_cons_zero, List.set_cons_succ]
    clear hK K'
    refine wpAnyH_take (i := 9) (v := ?v9x17) rfl (by kernel_rfl) (by kernel_rfl) (by kernel_rfl) (fun _ _ _ h => h) (Or.inl ⟨by rfl, ?y9x17⟩) trivial ?r9x17
    case y9x17 => (intro w2 hSw; go_simp; try with_reducible rfl)
    try simp only [Act.put, List.setIfInBounds_toArray, List.set_cons_zero, List.set_cons_succ]
    refine wpAnyH_take (i := 10) (v := ?v10x18) rfl (by kernel_rfl) (by kernel_rfl) (by kernel_rfl) (fun _ _ _ h => h) (Or.inl ⟨by rfl, ?y10x18⟩) trivial ?r10x18
    case y10x18 => (intro w2 hSw; go_simp; try with_reducible rfl)
    try simp only [Act.put, List.setIfInBounds_toArray, List.set_cons_zero, List.set_cons_succ]
    refine wpAnyH_ready (rs := [11]) (by kernel_rfl) (by simp) (AllReadyH.cons rfl (fun K' hK => ?_) AllReadyH.nil)
    go_simp
    refine hK.out _ _ trivial (fun hSn => ?_)
    try simp only [Act.put, List.setIfInBounds_toArray, List.set_cons_zero, List.set_cons_succ]
    clear hK K'
    refine wpAnyH_done (by kernel_rfl) ?_ _
    go_wp2
    refine bodyPost_end (results_none rfl _ _ _) rfl ?_
    exact ⟨⟨_, rfl⟩, HFIN.out _ _ HQ8.out HZ8.out.1, Hb3.out.trans HQ9.out, HZ8.out.2⟩
  case p6 =>
    go_simp
    refine (cloneC wq.drew s hsl).mono ?_
    rintro e w3 ⟨rfl, hb3⟩
    have HW3 := Lib.hid (HW1.out.keep hb3)
    have s3 := (HF.out w3 HW3.out.row).1
    have HZ3 := Lib.hid (HZ1.out.below hb3)
    have hB3 := HW3.out.size
    have Hb3 : Hid (KB B p w w3) := Lib.hid (HB1.out.trans (KB.of hb3 (.inr (Nat.le_refl _))))
    clear hb3
    show K' _ _
    refine hK.out _ _ trivial (fun hSn => ?_)
    try simp only [Act.put, List.setIfInBounds_toArray, List.set_cons_zero, List.set_cons_succ]
    clear hK K'
    refine wpAnyH_ready (rs := [4, 7]) (by kernel_rfl) (by simp) (AllReadyH.cons rfl (fun K' hK => ?q4) (AllReadyH.cons rfl (fun K' hK => ?q7) AllReadyH.nil))
    case q4 =>
      go_simp
      refine hK.out _ _ trivial (fun hSn => ?_)
      try simp only [Act.put, List.setIfInBounds_toArray, List.set_cons_zero, List.set_cons_succ]
      clear hK K'
      refine wpAnyH_ready (rs := [7]) (by kernel_rfl) (by simp) (AllReadyH.cons rfl (fun K' hK => ?_) AllReadyH.nil)
      go_simp
      refine hK.out _ _ trivial (fun hSn => ?_)
      try simp only [Act.put, List.setIfInBounds_toArray, List.set_cons_zero, List.set_cons_succ]
      clear hK K'
      refine wpAnyH_ready (rs := [8]) (by kernel_rfl) (by simp) (AllReadyH.cons rfl (fun K' hK => ?_) AllReadyH.nil)
      refine stepSep (by rfl) _ _ (by rfl) Tryd.underlying29 (.string ByteArray.empty) 1 16 infoStr (by rfl) (by decide) (by decide) B w3 (.slice aa L.length cc) L.length (L.map S1) [S1 s] (by rfl) (by intro u hu; simp only [List.mem_singleton] at hu; subst hu; rfl) (by rfl) (HW3.out.sw.strs _ (List.mem_of_getElem? HI.out)) (by rfl) (by rfl) hL2 hB3 ?_
      intro v8 w8 hp8
      obtain ⟨hq8, hq9⟩ := HW3.out.stored HI.out hp8
      have HZ8 := Lib.hid (ZF.stored (j := 2) (x := v8) HZ3.out HVI.out hp8)
      have hr8 : Row w8 p 68 _ := HW3.out.row.keep (hp8.below (HW3.out.sw.strs _ (List.mem_of_getElem? HI.out)) hB3) HW3.out.lt
      obtain ⟨x1, x2⟩ := HF.out w8 hr8
      obtain ⟨a8, c8, hv8⟩ := slice_own hp8.1
      subst hv8
      have HQ8 := Lib.hid hq8; have HQ9 := Lib.hid hq9; clear hp8 hr8 hq8 hq9
      refine hK.out _ _ trivial (fun hSn => ?_)
      try simp only [Act.put, List.setIfInBounds_toArray, List.set_cons_zero, List.set_cons_succ]
      clear hK K'
      refine wpAnyH_take (i := 9) (v := ?v9x19) rfl (by kernel_rfl) (by kernel_rfl) (by kernel_rfl) (fun _ _ _ h => h) (Or.inl ⟨by rfl, ?y9x19⟩) trivial ?r9x19
      case y9x19 => (intro w2 hSw; go_simp; try with_reducible rfl)
      try simp only [Act.put, List.setIfInBounds_toArray, List.set_cons_zero, List.set_cons_succ]
      refine wpAnyH_take (i := 10) (v := ?v10x20) rfl (by kernel_rfl) (by kernel_rfl) (by kernel_rfl) (fun _ _ _ h => h) (Or.inl ⟨by rfl, ?y10x20⟩) trivial ?r10x20
      case y10x20 => (intro w2 hSw; go_simp; try with_reducible rfl)
      try simp only [Act.put, List.setIfInBounds_toArray, List.set_cons_zero, List.set_cons_succ]
      refine wpAnyH_ready (rs := [11]) (by kernel_rfl) (by simp) (AllReadyH.cons rfl (fun K' hK => ?_) AllReadyH.nil)
      go_simp
      refine hK.out _ _ trivial (fun hSn => ?_)
      try simp only [Act.put, List.setIfInBounds_toArray, List.set_cons_zero, List.set_cons_succ]
      clear hK K'
      refine wpAnyH_done (by kernel_rfl) ?_ _
      go_wp2
      refine bodyPost_end (results_none rfl _ _ _) rfl ?_
      exact ⟨⟨_, rfl⟩, HFIN.out _ _ HQ8.out HZ8.out.1, Hb3.out.trans HQ9.out, HZ8.out.2⟩
    case q7 =>
      have s4 : (w3.alloc (.cells #[Value.string (bstr s)] 9)).cell? ⟨p, 2, none⟩ = some (.slice aa L.length cc) := (HF.out _ (HW3.out.row.alloc (.cells [S1 s].toArray 9))).1
      go_simp
      refine hK.out _ _ trivial (fun hSn => ?_)
      try simp only [Act.put, List.setIfInBounds_toArray, List.set_cons_zero, List.set_cons_succ]
      clear hK K'
      refine wpAnyH_ready (rs := [4]) (by kernel_rfl) (by simp) (AllReadyH.cons rfl (fun K' hK => ?_) AllReadyH.nil)
      go_simp
      refine hK.out _ _ trivial (fun hSn => ?_)
      try simp only [Act.put, List.setIfInBounds_toArray, List.set_cons_zero, List.set_cons_succ]
      clear hK K'
      refine wpAnyH_ready (rs := [8]) (by kernel_rfl) (by simp) (AllReadyH.cons rfl (fun K' hK => ?_) AllReadyH.nil)
      refine stepSep (by rfl) _ _ (by rfl) Tryd.underlying29 (.string ByteArray.empty) 1 16 infoStr (by rfl) (by decide) (by decide) B w3 (.slice aa L.length cc) L.length (L.map S1) [S1 s] (by rfl) (by intro u hu; simp only [List.mem_singleton] at hu; subst hu; rfl) (by rfl) (HW3.out.sw.strs _ (List.mem_of_getElem? HI.out)) (by rfl) (by rfl) hL2 hB3 ?_
      intro v8 w8 hp8
      obtain ⟨hq8, hq9⟩ := HW3.out.stored HI.out hp8
      have HZ8 := Lib.hid (ZF.stored (j := 2) (x := v8) HZ3.out HVI.out hp8)
      have hr8 : Row w8 p 68 _ := HW3.out.row.keep (hp8.below (HW3.out.sw.strs _ (List.mem_of_getElem? HI.out)) hB3) HW3.out.lt
      obtain ⟨x1, x2⟩ := HF.out w8 hr8
      obtain ⟨a8, c8, hv8⟩ := slice_own hp8.1
      subst hv8
      have HQ8 := Lib.hid hq8; have HQ9 := Lib.hid hq9; clear hp8 hr8 hq8 hq9
      refine hK.out _ _ trivial (fun hSn => ?_)
      try simp only [Act.put, List.setIfInBounds_toArray, List.set_cons_zero, List.set_cons_succ]
      clear hK K'
      refine wpAnyH_take (i := 9) (v := ?v9x21) rfl (by kernel_rfl) (by kernel_rfl) (by kernel_rfl) (fun _ _ _ h => h) (Or.inl ⟨by rfl, ?y9x21⟩) trivial ?r9x21
      case y9x21 => (intro w2 hSw; go_simp; try with_reducible rfl)
      try simp only [Act.put, List.setIfInBounds_toArray, List.set_cons_zero, List.set_cons_succ]
      refine wpAnyH_take (i := 10) (v := ?v10x22) rfl (by kernel_rfl) (by kernel_rfl) (by kernel_rfl) (fun _ _ _ h => h) (Or.inl ⟨by rfl, ?y10x22⟩) trivial ?r10x22
      case y10x22 => (intro w2 hSw; go_simp; try with_reducible rfl)
      try simp only [Act.put, List.setIfInBounds_toArray, List.set_cons_zero, List.set_cons_succ]
      refine wpAnyH_ready (rs := [11]) (by kernel_rfl) (by simp) (AllReadyH.cons rfl (fun K' hK => ?_) AllReadyH.nil)
      go_simp
      refine hK.out _ _ trivial (fun hSn => ?_)
      try simp only [Act.put, List.setIfInBounds_toArray, List.set_cons_zero, List.set_cons_succ]
      clear hK K'
      refine wpAnyH_done (by kernel_rfl) ?_ _
      go_wp2
      refine bodyPost_end (results_none rfl _ _ _) rfl ?_
      exact ⟨⟨_, rfl⟩, HFIN.out _ _ HQ8.out HZ8.out.1, Hb3.out.trans HQ9.out, HZ8.out.2⟩
set_option maxHeartbeats 8000000 in
set_option maxRecDepth 100000 in
theorem comesZ (Z : Nat → Prop) (w : World) (B p : Nat) (st : St7) (s : List UInt8) (h : WZ Z B w p st) (hH : st.out.length ≤ 1048500) (hl : st.come.length ≤ 1073741824) (hsl : s.length ≤ 1099511627776) :
    Calls Tryd.prog 42 #[.pointer (some ⟨p, 0, none⟩), .string (bstr s)] w fun e w' => (∃ u, e = .returned u) ∧ WZ Z B w' p (stepW st (.come s)) ∧ KB B p w w' ∧ ∀ k, Z k → w'.heap[k]? = w.heap[k]? := by
  obtain ⟨hs0, vo0, vs, vg, vc, h0, hz0⟩ := h
  have HZ0 := Lib.hid (ZF.start hz0)
  have HW0 := Lib.hid h0
  have HW1 := HW0
  clear h0 HW1
  go_enter Tryd.func42, Tryd.ntmps42
  go_upto_region 1 with (first
    | (go_at_call_of 74 (Value.int .i64 1); refine (putC w B p hs0 st.out vo0 vs [(vs, st.same), (vg, st.gone), (vc, st.come)] 0 1 st.same HW0.out rfl (by first | omega | (have := putK_le 1 st.same st.out; omega))).mono ?_; rintro e w1 ⟨⟨u0, rfl⟩, vo1, hs1, v1, hw1, hb1, hp1⟩; have HW1 := Lib.hid hw1; have HB1x := Lib.hid hb1; have HZ1 := Lib.hid (ZF.sep (i := 0) HZ0.out rfl hp1 hb1); clear hw1 hb1 hp1))
  have HBW : Hid (KB B p w w1) := Lib.hid (HB1x.out)
  obtain ⟨wq, hwq⟩ : ∃ x, x = w1 := ⟨_, rfl⟩
  obtain ⟨vals, hvals⟩ : ∃ x, x = [(v1, []), (vg, st.gone), (vc, st.come)] := ⟨_, rfl⟩
  obtain ⟨vv, hvv⟩ : ∃ x, x = vc := ⟨_, rfl⟩
  obtain ⟨L, hL⟩ : ∃ x, x = st.come := ⟨_, rfl⟩
  have HI : Hid (vals[2]? = some (vv, L)) := by rw [hvals, hvv, hL]; exact rfl
  have HWQ : Hid (WW B wq p hs1 (putK 1 st.same st.out) vo1 vals) := by rw [hwq, hvals]; exact HW1
  have HBQ : Hid (KB B p w wq) := by rw [hwq]; exact HBW
  have HZQ : Hid (ZF Z w wq p (vo1 :: vals.map (·.1))) := by rw [hwq, hvals]; exact HZ1
  have HZ1 : Hid (ZF Z w wq.drew p (vo1 :: vals.map (·.1))) := Lib.hid (HZQ.out.below ((Below.refl _ _).drew))
  have hvi : (vals.map (·.1))[2]? = some vv := by rw [List.getElem?_map, HI.out]; rfl
  have HW1 : Hid (WW B wq.drew p hs1 (putK 1 st.same st.out) vo1 vals) := Lib.hid (HWQ.out.keep ((Below.refl _ _).drew))
  have HB1 : Hid (KB B p w wq.drew) := Lib.hid (HBQ.out.trans (KB.of ((Below.refl _ _).drew) (.inr (Nat.le_refl _))))
  have hpq : p ≤ wq.drew.heap.size := Nat.le_of_lt HW1.out.row.lt
  have hL2 : L.length ≤ 1073741824 := by rw [hL]; exact hl
  have hf : ∀ W, Row W p 68 (vo1 :: vals.map (·.1)) → W.cell? ⟨p, 3, none⟩ = some vv ∧ W.frozen? ⟨p, 3, none⟩ = false := fun W hW => ⟨(hW.cell 3).trans (by have := HI.out; simp [this]), hW.frozen 3⟩
  have HF := Lib.hid hf
  have d1 := (HF.out _ HW1.out.row).1
  have a1 := HWQ.out.sw.slice HI.out
  obtain ⟨aa, cc, rfl, _, _, _⟩ := a1
  rw [← hwq]
  have HFIN : Hid (∀ W v, WW B W p hs1 (putK 1 st.same st.out) vo1 (vals.set 2 (v, L ++ [s])) → ZFree Z W p (vo1 :: (vals.map (·.1)).set 2 v) → WZ Z B W p (stepW st (.come s))) := Lib.hid (fun W v hW hZ => by rw [hvals, hL] at hW; rw [hvals] at hZ; exact ⟨_, _, _, _, _, hW, hZ⟩)
  have HVI := Lib.hid hvi
  clear hf hvals hvv hL hwq hvi
  refine wp_region_held_drew (S := (fun _ : World => True)) (by kernel_rfl) trivial (fun hS0 => ?_)
  refine wpAnyH_take (i := 0) (v := ?v0x23) rfl (by kernel_rfl) (by kernel_rfl) (by kernel_rfl) (fun _ _ _ h => h) (Or.inl ⟨by rfl, ?y0x23⟩) hS0 ?r0x23
  case y0x23 => (intro w2 hSw; go_simp; try with_reducible rfl)
  try simp only [Act.put, List.setIfInBounds_toArray, List.set_cons_zero, List.set_cons_succ]
  refine wpAnyH_take (i := 1) (v := ?v1x24) rfl (by kernel_rfl) (by kernel_rfl) (by kernel_rfl) (fun _ _ _ h => h) (Or.inl ⟨by rfl, ?y1x24⟩) hS0 ?r1x24
  case y1x24 => (intro w2 hSw; go_simp; try with_reducible rfl)
  try simp only [Act.put, List.setIfInBounds_toArray, List.set_cons_zero, List.set_cons_succ]
  refine wpAnyH_take (i := 2) (v := ?v2x25) rfl (by kernel_rfl) (by kernel_rfl) (by kernel_rfl) (fun _ _ _ h => h) (Or.inl ⟨by rfl, ?y2x25⟩) hS0 ?r2x25
  case y2x25 => (intro w2 hSw; go_simp; try with_reducible rfl)
  try simp only [Act.put, List.setIfInBounds_toArray, List.set_cons_zero, List.set_cons_succ]
  refine wpAnyH_take (i := 3) (v := ?v3x26) rfl (by kernel_rfl) (by kernel_rfl) (by kernel_rfl) (fun _ _ _ h => h) (Or.inl ⟨by rfl, ?y3x26⟩) hS0 ?r3x26
  case y3x26 => (intro w2 hSw; go_simp; try with_reducible rfl)
  try simp only [Act.put, List.setIfInBounds_toArray, List.set_cons_zero, List.set_cons_succ]
  refine wpAnyH_take (i := 5) (v := ?v5x27) rfl (by kernel_rfl) (by kernel_rfl) (by kernel_rfl) (fun _ _ _ h => h) (Or.inl ⟨by rfl, ?y5x27⟩) hS0 ?r5x27
  case y5x27 => (intro w2 hSw; go_simp; try with_reducible rfl)
  try simp only [Act.put, List.setIfInBounds_toArray, List.set_cons_zero, List.set_cons_succ]
  refine wpAnyH_ready (rs := [4, 6]) (by kernel_rfl) (by simp) (AllReadyH.cons rfl (fun K' hK => ?p4) (AllReadyH.cons rfl (fun K' hK => ?p6) AllReadyH.nil))
  case p4 =>
    go_simp
    refine hK.out _ _ trivial (fun hSn => ?_)
    try simp only [Act.put, List.setIfInBounds_toArray, List.set_cons_zero, List.set_cons_succ]
    clear hK K'
    refine wpAnyH_ready (rs := [6]) (by kernel_rfl) (by simp) (AllReadyH.cons rfl (fun K' hK => ?_) AllReadyH.nil)
    go_simp
    refine (cloneC wq.drew s hsl).mono ?_
    rintro e w3 ⟨rfl, hb3⟩
    have HW3 := Lib.hid (HW1.out.keep hb3)
    have s3 := (HF.out w3 HW3.out.row).1
    have HZ3 := Lib.hid (HZ1.out.below hb3)
    have hB3 := HW3.out.size
    have Hb3 : Hid (KB B p w w3) := Lib.hid (HB1.out.trans (KB.of hb3 (.inr (Nat.le_refl _))))
    clear hb3
    show K' _ _
    refine hK.out _ _ trivial (fun hSn => ?_)
    try simp only [Act.put, List.setIfInBounds_toArray, List.set_cons_zero, List.set_cons_succ]
    clear hK K'
    refine wpAnyH_ready (rs := [7]) (by kernel_rfl) (by simp) (AllReadyH.cons rfl (fun K' hK => ?_) AllReadyH.nil)
    go_simp
    refine hK.out _ _ trivial (fun hSn => ?_)
    try simp only [Act.put, List.setIfInBounds_toArray, List.set_cons_zero, List.set_cons_succ]
    clear hK K'
    refine wpAnyH_ready (rs := [8]) (by kernel_rfl) (by simp) (AllReadyH.cons rfl (fun K' hK => ?_) AllReadyH.nil)
    refine stepSep (by rfl) _ _ (by rfl) Tryd.underlying29 (.string ByteArray.empty) 1 16 infoStr (by rfl) (by decide) (by decide) B w3 (.slice aa L.length cc) L.length (L.map S1) [S1 s] (by rfl) (by intro u hu; simp only [List.mem_singleton] at hu; subst hu; rfl) (by rfl) (HW3.out.sw.strs _ (List.mem_of_getElem? HI.out)) (by rfl) (by rfl) hL2 hB3 ?_
    intro v8 w8 hp8
    obtain ⟨hq8, hq9⟩ := HW3.out.stored HI.out hp8
    have HZ8 := Lib.hid (ZF.stored (j := 3) (x := v8) HZ3.out HVI.out hp8)
    have hr8 : Row w8 p 68 _ := HW3.out.row.keep (hp8.below (HW3.out.sw.strs _ (List.mem_of_getElem? HI.out)) hB3) HW3.out.lt
    obtain ⟨x1, x2⟩ := HF.out w8 hr8
    obtain ⟨a8, c8, hv8⟩ := slice_own hp8.1
    subst hv8
    have HQ8 := Lib.hid hq8; have HQ9 := Lib.hid hq9; clear hp8 hr8 hq8 hq9
    refine hK.out _ _ trivial (fun hSn => ?_)
    try simp only [Act.put, List.setIfInBounds_toArray, List.set_cons_zero, List.set_cons_succ]
    clear hK K'
    refine wpAnyH_take (i := 9) (v := ?v9x28) rfl (by kernel_rfl) (by kernel_rfl) (by kernel_rfl) (fun _ _ _ h => h) (Or.inl ⟨by rfl, ?y9x28⟩) trivial ?r9x28
    case y9x28 => (intro w2 hSw; go_simp; try with_reducible rfl)
    try simp only [Act.put, List.setIfInBounds_toArray, List.set_cons_zero, List.set_cons_succ]
    refine wpAnyH_take (i := 10) (v := ?v10x29) rfl (by kernel_rfl) (by kernel_rfl) (by kernel_rfl) (fun _ _ _ h => h) (Or.inl ⟨by rfl, ?y10x29⟩) trivial ?r10x29
    case y10x29 => (intro w2 hSw; go_simp; try with_reducible rfl)
    try simp only [Act.put, List.setIfInBounds_toArray, List.set_cons_zero, List.set_cons_succ]
    refine wpAnyH_ready (rs := [11]) (by kernel_rfl) (by simp) (AllReadyH.cons rfl (fun K' hK => ?_) AllReadyH.nil)
    go_simp
    refine hK.out _ _ trivial (fun hSn => ?_)
    try simp only [Act.put, List.setIfInBounds_toArray, List.set_cons_zero, List.set_cons_succ]
    clear hK K'
    refine wpAnyH_done (by kernel_rfl) ?_ _
    go_wp2
    refine bodyPost_end (results_none rfl _ _ _) rfl ?_
    exact ⟨⟨_, rfl⟩, HFIN.out _ _ HQ8.out HZ8.out.1, Hb3.out.trans HQ9.out, HZ8.out.2⟩
  case p6 =>
    go_simp
    refine (cloneC wq.drew s hsl).mono ?_
    rintro e w3 ⟨rfl, hb3⟩
    have HW3 := Lib.hid (HW1.out.keep hb3)
    have s3 := (HF.out w3 HW3.out.row).1
    have HZ3 := Lib.hid (HZ1.out.below hb3)
    have hB3 := HW3.out.size
    have Hb3 : Hid (KB B p w w3) := Lib.hid (HB1.out.trans (KB.of hb3 (.inr (Nat.le_refl _))))
    clear hb3
    show K' _ _
    refine hK.out _ _ trivial (fun hSn => ?_)
    try simp only [Act.put, List.setIfInBounds_toArray, List.set_cons_zero, List.set_cons_succ]
    clear hK K'
    refine wpAnyH_ready (rs := [4, 7]) (by kernel_rfl) (by simp) (AllReadyH.cons rfl (fun K' hK => ?q4) (AllReadyH.cons rfl (fun K' hK => ?q7) AllReadyH.nil))
    case q4 =>
      go_simp
      refine hK.out _ _ trivial (fun hSn => ?_)
      try simp only [Act.put, List.setIfInBounds_toArray, List.set_cons_zero, List.set_cons_succ]
      clear hK K'
      refine wpAnyH_ready (rs := [7]) (by kernel_rfl) (by simp) (AllReadyH.cons rfl (fun K' hK => ?_) AllReadyH.nil)
      go_simp
      refine hK.out _ _ trivial (fun hSn => ?_)
      try simp only [Act.put, List.setIfInBounds_toArray, List.set_cons_zero, List.set_cons_succ]
      clear hK K'
      refine wpAnyH_ready (rs := [8]) (by kernel_rfl) (by simp) (AllReadyH.cons rfl (fun K' hK => ?_) AllReadyH.nil)
      refine stepSep (by rfl) _ _ (by rfl) Tryd.underlying29 (.string ByteArray.empty) 1 16 infoStr (by rfl) (by decide) (by decide) B w3 (.slice aa L.length cc) L.length (L.map S1) [S1 s] (by rfl) (by intro u hu; simp only [List.mem_singleton] at hu; subst hu; rfl) (by rfl) (HW3.out.sw.strs _ (List.mem_of_getElem? HI.out)) (by rfl) (by rfl) hL2 hB3 ?_
      intro v8 w8 hp8
      obtain ⟨hq8, hq9⟩ := HW3.out.stored HI.out hp8
      have HZ8 := Lib.hid (ZF.stored (j := 3) (x := v8) HZ3.out HVI.out hp8)
      have hr8 : Row w8 p 68 _ := HW3.out.row.keep (hp8.below (HW3.out.sw.strs _ (List.mem_of_getElem? HI.out)) hB3) HW3.out.lt
      obtain ⟨x1, x2⟩ := HF.out w8 hr8
      obtain ⟨a8, c8, hv8⟩ := slice_own hp8.1
      subst hv8
      have HQ8 := Lib.hid hq8; have HQ9 := Lib.hid hq9; clear hp8 hr8 hq8 hq9
      refine hK.out _ _ trivial (fun hSn => ?_)
      try simp only [Act.put, List.setIfInBounds_toArray, List.set_cons_zero, List.set_cons_succ]
      clear hK K'
      refine wpAnyH_take (i := 9) (v := ?v9x30) rfl (by kernel_rfl) (by kernel_rfl) (by kernel_rfl) (fun _ _ _ h => h) (Or.inl ⟨by rfl, ?y9x30⟩) trivial ?r9x30
      case y9x30 => (intro w2 hSw; go_simp; try with_reducible rfl)
      try simp only [Act.put, List.setIfInBounds_toArray, List.set_cons_zero, List.set_cons_succ]
      refine wpAnyH_take (i := 10) (v := ?v10x31) rfl (by kernel_rfl) (by kernel_rfl) (by kernel_rfl) (fun _ _ _ h => h) (Or.inl ⟨by rfl, ?y10x31⟩) trivial ?r10x31
      case y10x31 => (intro w2 hSw; go_simp; try with_reducible rfl)
      try simp only [Act.put, List.setIfInBounds_toArray, List.set_cons_zero, List.set_cons_succ]
      refine wpAnyH_ready (rs := [11]) (by kernel_rfl) (by simp) (AllReadyH.cons rfl (fun K' hK => ?_) AllReadyH.nil)
      go_simp
      refine hK.out _ _ trivial (fun hSn => ?_)
      try simp only [Act.put, List.setIfInBounds_toArray, List.set_cons_zero, List.set_cons_succ]
      clear hK K'
      refine wpAnyH_done (by kernel_rfl) ?_ _
      go_wp2
      refine bodyPost_end (results_none rfl _ _ _) rfl ?_
      exact ⟨⟨_, rfl⟩, HFIN.out _ _ HQ8.out HZ8.out.1, Hb3.out.trans HQ9.out, HZ8.out.2⟩
    case q7 =>
      have s4 : (w3.alloc (.cells #[Value.string (bstr s)] 9)).cell? ⟨p, 3, none⟩ = some (.slice aa L.length cc) := (HF.out _ (HW3.out.row.alloc (.cells [S1 s].toArray 9))).1
      go_simp
      refine hK.out _ _ trivial (fun hSn => ?_)
      try simp only [Act.put, List.setIfInBounds_toArray, List.set_cons_zero, List.set_cons_succ]
      clear hK K'
      refine wpAnyH_ready (rs := [4]) (by kernel_rfl) (by simp) (AllReadyH.cons rfl (fun K' hK => ?_) AllReadyH.nil)
      go_simp
      refine hK.out _ _ trivial (fun hSn => ?_)
      try simp only [Act.put, List.setIfInBounds_toArray, List.set_cons_zero, List.set_cons_succ]
      clear hK K'
      refine wpAnyH_ready (rs := [8]) (by kernel_rfl) (by simp) (AllReadyH.cons rfl (fun K' hK => ?_) AllReadyH.nil)
      refine stepSep (by rfl) _ _ (by rfl) Tryd.underlying29 (.string ByteArray.empty) 1 16 infoStr (by rfl) (by decide) (by decide) B w3 (.slice aa L.length cc) L.length (L.map S1) [S1 s] (by rfl) (by intro u hu; simp only [List.mem_singleton] at hu; subst hu; rfl) (by rfl) (HW3.out.sw.strs _ (List.mem_of_getElem? HI.out)) (by rfl) (by rfl) hL2 hB3 ?_
      intro v8 w8 hp8
      obtain ⟨hq8, hq9⟩ := HW3.out.stored HI.out hp8
      have HZ8 := Lib.hid (ZF.stored (j := 3) (x := v8) HZ3.out HVI.out hp8)
      have hr8 : Row w8 p 68 _ := HW3.out.row.keep (hp8.below (HW3.out.sw.strs _ (List.mem_of_getElem? HI.out)) hB3) HW3.out.lt
      obtain ⟨x1, x2⟩ := HF.out w8 hr8
      obtain ⟨a8, c8, hv8⟩ := slice_own hp8.1
      subst hv8
      have HQ8 := Lib.hid hq8; have HQ9 := Lib.hid hq9; clear hp8 hr8 hq8 hq9
      refine hK.out _ _ trivial (fun hSn => ?_)
      try simp only [Act.put, List.setIfInBounds_toArray, List.set_cons_zero, List.set_cons_succ]
      clear hK K'
      refine wpAnyH_take (i := 9) (v := ?v9x32) rfl (by kernel_rfl) (by kernel_rfl) (by kernel_rfl) (fun _ _ _ h => h) (Or.inl ⟨by rfl, ?y9x32⟩) trivial ?r9x32
      case y9x32 => (intro w2 hSw; go_simp; try with_reducible rfl)
      try simp only [Act.put, List.setIfInBounds_toArray, List.set_cons_zero, List.set_cons_succ]
      refine wpAnyH_take (i := 10) (v := ?v10x33) rfl (by kernel_rfl) (by kernel_rfl) (by kernel_rfl) (fun _ _ _ h => h) (Or.inl ⟨by rfl, ?y10x33⟩) trivial ?r10x33
      case y10x33 => (intro w2 hSw; go_simp; try with_reducible rfl)
      try simp only [Act.put, List.setIfInBounds_toArray, List.set_cons_zero, List.set_cons_succ]
      refine wpAnyH_ready (rs := [11]) (by kernel_rfl) (by simp) (AllReadyH.cons rfl (fun K' hK => ?_) AllReadyH.nil)
      go_simp
      refine hK.out _ _ trivial (fun hSn => ?_)
      try simp only [Act.put, List.setIfInBounds_toArray, List.set_cons_zero, List.set_cons_succ]
      clear hK K'
      refine wpAnyH_done (by kernel_rfl) ?_ _
      go_wp2
      refine bodyPost_end (results_none rfl _ _ _) rfl ?_
      exact ⟨⟨_, rfl⟩, HFIN.out _ _ HQ8.out HZ8.out.1, Hb3.out.trans HQ9.out, HZ8.out.2⟩
theorem staysC (w : World) (B p : Nat) (st : St7) (s : List UInt8) (h : WS B w p st) (hH : st.out.length ≤ 1048500) (hl : st.same.length ≤ 1073741824) (hsl : s.length ≤ 1099511627776) :
    Calls Tryd.prog 40 #[.pointer (some ⟨p, 0, none⟩), .string (bstr s)] w fun e w' => (∃ u, e = .returned u) ∧ WS B w' p (stepW st (.same s)) ∧ KB B p w w' := by
  refine (staysZ _ w B p st s h.zed hH hl hsl).mono ?_
  rintro e w' ⟨h1, h2, h3, _⟩
  exact ⟨h1, h2.forget, h3⟩
theorem goesC (w : World) (B p : Nat) (st : St7) (s : List UInt8) (h : WS B w p st) (hH : st.out.length ≤ 1048500) (hl : st.gone.length ≤ 1073741824) (hsl : s.length ≤ 1099511627776) :
    Calls Tryd.prog 41 #[.pointer (some ⟨p, 0, none⟩), .string (bstr s)] w fun e w' => (∃ u, e = .returned u) ∧ WS B w' p (stepW st (.gone s)) ∧ KB B p w w' := by
  refine (goesZ _ w B p st s h.zed hH hl hsl).mono ?_
  rintro e w' ⟨h1, h2, h3, _⟩
  exact ⟨h1, h2.forget, h3⟩
theorem comesC (w : World) (B p : Nat) (st : St7) (s : List UInt8) (h : WS B w p st) (hH : st.out.length ≤ 1048500) (hl : st.come.length ≤ 1073741824) (hsl : s.length ≤ 1099511627776) :
    Calls Tryd.prog 42 #[.pointer (some ⟨p, 0, none⟩), .string (bstr s)] w fun e w' => (∃ u, e = .returned u) ∧ WS B w' p (stepW st (.come s)) ∧ KB B p w w' := by
  refine (comesZ _ w B p st s h.zed hH hl hsl).mono ?_
  rintro e w' ⟨h1, h2, h3, _⟩
  exact ⟨h1, h2.forget, h3⟩
end Go.Proofs.YtnbihjocdlpplaaDoor
