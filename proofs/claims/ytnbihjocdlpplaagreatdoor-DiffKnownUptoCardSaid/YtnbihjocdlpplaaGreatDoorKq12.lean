/- Texts joined, one behind the other (DPut). -/
import Derived.Test.YtnbihjocdlpplaaGreatDoorKq11
/- The program's writer: put. -/
namespace Go.Proofs.YtnbihjocdlpplaaGreatDoor
set_option linter.unusedVariables false
set_option linter.unusedSimpArgs false
open Go.RowKit
open Go.Lib
theorem clipC (w : World) (a : Option Addr) (n c : Nat) (hn : n ≤ c) (hc : c ≤ 9223372036854775807) : Calls Tryz.prog 60 #[.slice a n c] w fun e w' => e = .returned (.slice a n n) ∧ w = w' := by
  have h1 : (n : Int) ≤ (c : Int) := by omega
  go_enter Tryz.func60, Tryz.ntmps60
  go_wp2
  go_ret
  exact ⟨rfl, rfl⟩
theorem clipH (w : World) (a : Option Addr) (n c : Nat) (hn : n ≤ c) (hc : c ≤ 9223372036854775807) : Calls Tryz.prog 61 #[.slice a n c] w fun e w' => e = .returned (.slice a n n) ∧ w = w' := by
  have h1 : (n : Int) ≤ (c : Int) := by omega
  go_enter Tryz.func61, Tryz.ntmps61
  go_wp2
  go_ret
  exact ⟨rfl, rfl⟩
theorem SW.other {B p : Nat} {w w' : World} {vo : Value} {hs : List HCell} {H : List Hk} {vals : List Wait} (h : SW B w vo hs H vals) (hg : w.grownBy w' (some p)) (hp : p < B) : SW B w' vo hs H vals := by
  have hno : ∀ {e : TypeId} {size : Nat} {v : Value} {n : Nat} {xs : List Value}, w.ownsRow B e size v n xs → v.ownBlock = none ∨ v.ownBlock ≠ some p := fun ho => .inr fun e => by
    have := (ho.lt p e).1
    omega
  refine ⟨h.own.kept hg (hno h.own), h.len, fun k c x h1 h2 => ?_, fun q hq => (h.strs q hq).grown hg (hno (h.strs q hq)), h.apart, h.dist⟩
  obtain ⟨e1, e2, e3, e4, e5⟩ := h.each k c x h1 h2
  have hne : ∀ ad, c.2.1 = some ad → some p ≠ some ad.block := fun ad had e => by
    have := (e5 ad had).1
    cases e
    omega
  refine ⟨e1, e2, e3, e4.grown hg hne, fun ad had => ?_⟩
  obtain ⟨f1, ⟨cur, f2⟩, f3⟩ := e5 ad had
  exact ⟨f1, ⟨cur, (hg.block _ (Array.getElem?_eq_some_iff.1 f2).1 (fun e => hne ad had e.symm)).trans f2⟩, f3⟩
/-- the frame of what writes block p and what lies from B on -/
def KB (B p : Nat) (w w' : World) : Prop := Below 0 w w' ∧ ∀ k, k < B → k < w.heap.size → k ≠ p → w'.heap[k]? = w.heap[k]?
theorem KB.refl (B p : Nat) (w : World) : KB B p w w := ⟨Below.refl _ _, fun _ _ _ _ => rfl⟩
theorem KB.trans {B p : Nat} {w w1 w2 : World} (h : KB B p w w1) (h' : KB B p w1 w2) : KB B p w w2 :=
  ⟨h.1.trans h'.1, fun k hk hs hp => (h'.2 k hk (Nat.lt_of_lt_of_le hs h.1.size) hp).trans (h.2 k hk hs hp)⟩
theorem KB.of {B p B' : Nat} {w w' : World} (h : Below B' w w') (hB : B ≤ B' ∨ w.heap.size ≤ B') : KB B p w w' := by
  refine ⟨h.mono (Nat.zero_le _), fun k hk hs _ => h.block k ?_⟩
  rcases hB with hB | hB <;> omega
theorem KB.set {B p : Nat} {w w' : World} (h : KB B p w w') (k : Nat) (sp : Option Nat) (v : Value) : KB B p w (w'.setCell ⟨p, k, sp⟩ v) :=
  ⟨h.1.setCell (Nat.zero_le _) _, fun j hj hs hp => (Below.heap_setCell _ _ _ _ hp).trans (h.2 j hj hs hp)⟩
theorem KB.below {B p C : Nat} {w w' : World} (h : KB B p w w') (hB : C ≤ B) (hp : C ≤ p) (hs : C ≤ w.heap.size) : Below C w w' :=
  ⟨h.1.os, h.1.tape, h.1.output, h.1.size, fun k hk => h.2 k (by omega) (by omega) (by omega)⟩
theorem KB.row {B p : Nat} {w w' : World} (h : KB B p w w') {g : Nat} {e : TypeId} {xs : List Value} (hr : Row w g e xs) (hB : g < B) (hp : g ≠ p) : Row w' g e xs :=
  (h.2 g hB hr.lt hp).trans hr
/-- the writer: one block below what it owns -/
structure WW (B : Nat) (w : World) (p : Nat) (hs : List HCell) (H : List Hk) (vo : Value) (vals : List Wait) : Prop where
  row : Row w p 67 (vo :: vals.map (·.1))
  lt : p < B
  size : B ≤ w.heap.size
  sw : SW B w vo hs H vals
  clip : ∀ h ∈ hs, h.2.2.1 = h.2.2.2
theorem clip_snoc {hs : List HCell} {k n : Nat} {a : Option Addr} (h : ∀ h ∈ hs, h.2.2.1 = h.2.2.2) : ∀ h ∈ hs ++ [(k, a, n, n)], h.2.2.1 = h.2.2.2 := by
  intro x hx
  rcases List.mem_append.1 hx with hx | hx
  · exact h x hx
  · rw [List.mem_singleton.1 hx]
/-- what a put leaves alone, and which blocks it owns behind it -/
def Sep (p : Nat) (w w' : World) (vo vo' v v' : Value) : Prop :=
  (∀ k, k < w.heap.size → k ≠ p → vo.ownBlock ≠ some k → w'.heap[k]? = w.heap[k]?) ∧ (∀ k, vo'.ownBlock = some k → vo.ownBlock = some k ∨ w.heap.size ≤ k) ∧ (∀ k, v'.ownBlock = some k → v.ownBlock = some k)
theorem Sep.refl (p : Nat) (w : World) (vo v : Value) : Sep p w w vo vo v v := ⟨fun _ _ _ _ => rfl, fun _ h => .inl h, fun _ h => h⟩
theorem sep_put {p B i : Nat} {w w8 : World} {vo v8 v x : Value} {e : TypeId} {size n : Nat} {xs cs : List Value} (hp : AppPost w.drew B e size vo n xs cs v8 w8) : Sep p w ((w8.setCell ⟨p, 0, none⟩ x).setCell ⟨p, i, none⟩ nilV) vo v8 v nilV := by
  refine ⟨fun k hk hkp hvo => ?_, fun k hk => ?_, fun k hk => by cases hk⟩
  · rw [Below.heap_setCell _ _ _ _ hkp, Below.heap_setCell _ _ _ _ hkp]
    exact hp.2.1.block k hk (fun e => hvo e.symm)
  · rcases hp.2.2 with h | h
    · exact .inl (h ▸ hk)
    · exact .inr (h k hk)
set_option maxHeartbeats 8000000 in
set_option maxRecDepth 100000 in
theorem putC (w : World) (B p : Nat) (hs : List HCell) (H : List Hk) (vo v : Value) (vals : List Wait) (i k : Nat) (L : List (List UInt8)) (h : WW B w p hs H vo vals) (hi : vals[i]? = some (v, L)) (hH : H.length ≤ 1048576) :
    Calls Tryz.prog 72 #[.pointer (some ⟨p, 0, none⟩), .int .i64 (k : Int), .pointer (some ⟨p, i + 1, none⟩)] w fun e w' => (∃ u, e = .returned u) ∧ ∃ vo' hs' v', WW B w' p hs' (putK k L H) vo' (vals.set i (v', [])) ∧ KB B p w w' ∧ Sep p w w' vo vo' v v' := by
  obtain ⟨a, c, rfl, hr, hc1, hc2⟩ := h.sw.slice hi
  have HW := Lib.hid h
  obtain ⟨n, hn⟩ : ∃ n, L.length = n := ⟨_, rfl⟩
  rw [hn] at hc1 hi hr
  have hcm : c ≤ 9223372036854775807 := by unfold maxLen at hc2; omega
  have hhl : hs.length ≤ 1048576 := by rw [h.sw.len]; exact hH
  have e0 : w.cell? ⟨p, 0, none⟩ = some vo := h.row.cell 0
  have e1 : w.cell? ⟨p, i + 1, none⟩ = some (.slice a n c) := by rw [h.row.cell]; simp [hi]
  have f0 : w.frozen? ⟨p, 0, none⟩ = false := h.row.frozen 0
  have f1 : w.frozen? ⟨p, i + 1, none⟩ = false := h.row.frozen (i + 1)
  obtain ⟨i1, hi1⟩ : ∃ i1, i + 1 = i1 := ⟨_, rfl⟩
  rw [hi1] at e1 f1 ⊢
  by_cases h0 : n = 0
  · subst h0
    have hL : L = [] := List.eq_nil_of_length_eq_zero hn
    have HI := Lib.hid hi1
    have HI2 := Lib.hid hi
    clear hn h hr hi hi1
    go_enter Tryz.func72, Tryz.ntmps72
    go_wp2
    refine bodyPost_end (results_none rfl _ _ _) rfl ?_
    refine ⟨⟨_, rfl⟩, vo, hs, .slice a 0 c, ?_, KB.refl _ _ _, by rw [hL]; exact Sep.refl _ _ _ _⟩
    have hset : vals.set i (.slice a 0 c, []) = vals := by
      apply List.ext_getElem?
      intro j
      by_cases hj : j = i
      · subst hj
        rw [List.getElem?_set_self (List.getElem?_eq_some_iff.1 HI2.out).1, HI2.out, hL]
      · rw [List.getElem?_set_ne (Ne.symm hj)]
    rw [hset, hL]
    exact HW.out
  · have hL : L ≠ [] := by rintro rfl; exact h0 hn.symm
    have hpk : putK k L H = H ++ [(k, L)] := by unfold putK; rw [if_neg hL]
    rw [hpk]
    have h0' : 0 < (n : Int) := by omega
    have HI2 := Lib.hid hi
    have HI := Lib.hid hi1
    have HC := Lib.hid hc1
    have HM := Lib.hid hc2
    have hne : 0 < i1 := by omega
    have hnx : p < w.heap.size := h.row.lt
    have hkeep : ∀ W, Below w.heap.size w W → W.cell? ⟨p, 0, none⟩ = some vo ∧ W.cell? ⟨p, i1, none⟩ = some (.slice a n c) := fun W hW => by
      rw [hW.cell (p := ⟨p, 0, none⟩) hnx, hW.cell (p := ⟨p, i1, none⟩) hnx]
      exact ⟨e0, e1⟩
    have HK := Lib.hid hkeep
    clear hpk hL hn h hr hi h0 hi1 hkeep hc2
    go_enter Tryz.func72, Tryz.ntmps72
    go_wp2
    have B0 : Below w.heap.size w w.drew := (Below.refl _ w).drew
    obtain ⟨d0, d1⟩ := HK.out _ B0
    have HW1 : Hid (SW B w.drew vo hs H vals) := Lib.hid (HW.out.sw.keep B0)
    have hap : ∀ v8 w8, AppPost w.drew B 25 2 vo hs.length (hs.flatMap hkCells) (hkCells (k, a, n, n)) v8 w8 → w8.cell? ⟨p, i1, none⟩ = some (.slice a n c) ∧ w8.cell? ⟨p, 0, none⟩ = some vo ∧ w8.frozen? ⟨p, 0, none⟩ = false ∧ w8.frozen? ⟨p, i1, none⟩ = false ∧ (∃ g8 cap8, v8 = .slice (some ⟨g8, 0, none⟩) (hs.length + 1) cap8) := fun v8 w8 hp8 => by
      have hb := hp8.below HW1.out.own HW.out.size
      have hr : Row w8 p 67 (vo :: vals.map (·.1)) := (HW.out.row.keep B0 hnx).keep hb HW.out.lt
      obtain ⟨g8, cap8, hv⟩ : ∃ g8 cap8, v8 = .slice (some ⟨g8, 0, none⟩) (hs.length + 1) cap8 := by
        rcases hp8.1.2 with ⟨q1, q2⟩ | ⟨g, cap, cur, hv, _⟩
        · omega
        · exact ⟨g, cap, hv⟩
      refine ⟨(hr.cell i1).trans ?_, hr.cell 0, hr.frozen 0, hr.frozen i1, g8, cap8, hv⟩
      rw [← HI.out]
      simp [HI2.out]
    have HAP := Lib.hid hap
    clear hap
    refine wp_region_held_drew (S := (fun w' : World => w'.cell? ⟨p, i1, none⟩ = some (.slice a n c))) (by kernel_rfl) d1 (fun hS0 => ?_)
    refine wpAnyH_take (i := 0) (v := ?v0x1) rfl (by kernel_rfl) (by kernel_rfl) (by kernel_rfl) (fun _ _ _ h => h) (Or.inl ⟨by rfl, ?y0x1⟩) hS0 ?r0x1
    case y0x1 => (intro w2 hSw; go_simp; try with_reducible rfl)
    try simp only [Act.put, List.setIfInBounds_toArray, List.set_cons_zero, List.set_cons_succ]
    refine wpAnyH_take (i := 1) (v := ?v1x2) rfl (by kernel_rfl) (by kernel_rfl) (by kernel_rfl) (fun _ _ _ h => h) (Or.inl ⟨by rfl, ?y1x2⟩) hS0 ?r1x2
    case y1x2 => (intro w2 hSw; go_simp; try with_reducible rfl)
    try simp only [Act.put, List.setIfInBounds_toArray, List.set_cons_zero, List.set_cons_succ]
    refine wpAnyH_take (i := 2) (v := ?v2x3) rfl (by kernel_rfl) (by kernel_rfl) (by kernel_rfl) (fun _ _ _ h => h) (Or.inl ⟨by rfl, ?y2x3⟩) hS0 ?r2x3
    case y2x3 => (intro w2 hSw; go_simp; try with_reducible rfl)
    try simp only [Act.put, List.setIfInBounds_toArray, List.set_cons_zero, List.set_cons_succ]
    refine wpAnyH_take (i := 3) (v := ?v3x4) rfl (by kernel_rfl) (by kernel_rfl) (by kernel_rfl) (fun _ _ _ h => h) (Or.inl ⟨by rfl, ?y3x4⟩) hS0 ?r3x4
    case y3x4 => (intro w2 hSw; go_simp; try with_reducible rfl)
    try simp only [Act.put, List.setIfInBounds_toArray, List.set_cons_zero, List.set_cons_succ]
    refine wpAnyH_take (i := 5) (v := ?v5x5) rfl (by kernel_rfl) (by kernel_rfl) (by kernel_rfl) (fun _ _ _ h => h) (Or.inl ⟨by rfl, ?y5x5⟩) hS0 ?r5x5
    case y5x5 => (intro w2 hSw; go_simp; try with_reducible rfl)
    try simp only [Act.put, List.setIfInBounds_toArray, List.set_cons_zero, List.set_cons_succ]
    refine wpAnyH_take (i := 6) (v := ?v6x6) rfl (by kernel_rfl) (by kernel_rfl) (by kernel_rfl) (fun _ _ _ h => h) (Or.inl ⟨by rfl, ?y6x6⟩) hS0 ?r6x6
    case y6x6 => (intro w2 hSw; go_simp; try with_reducible rfl)
    try simp only [Act.put, List.setIfInBounds_toArray, List.set_cons_zero, List.set_cons_succ]
    refine wpAnyH_take (i := 7) (v := ?v7x7) rfl (by kernel_rfl) (by kernel_rfl) (by kernel_rfl) (fun _ _ _ h => h) (Or.inl ⟨by rfl, ?y7x7⟩) hS0 ?r7x7
    case y7x7 => (intro w2 hSw; go_simp; try with_reducible rfl)
    try simp only [Act.put, List.setIfInBounds_toArray, List.set_cons_zero, List.set_cons_succ]
    refine wpAnyH_take (i := 8) (v := ?v8x8) rfl (by kernel_rfl) (by kernel_rfl) (by kernel_rfl) (fun _ _ _ h => h) (Or.inl ⟨by rfl, ?y8x8⟩) hS0 ?r8x8
    case y8x8 => (intro w2 hSw; go_simp; try with_reducible rfl)
    try simp only [Act.put, List.setIfInBounds_toArray, List.set_cons_zero, List.set_cons_succ]
    refine wpAnyH_ready (rs := [4, 9]) (by kernel_rfl) (by simp) (AllReadyH.cons rfl (fun K' hK => ?p4) (AllReadyH.cons rfl (fun K' hK => ?p9) AllReadyH.nil))
    case p4 =>
      go_simp
      refine hK.out _ _ d1 (fun hSn => ?_)
      try simp only [Act.put, List.setIfInBounds_toArray, List.set_cons_zero, List.set_cons_succ]
      clear hK K'
      refine wpAnyH_ready (rs := [9]) (by kernel_rfl) (by simp) (AllReadyH.cons rfl (fun K' hK => ?_) AllReadyH.nil)
      go_simp
      refine (clipC _ a n c HC.out hcm).mono ?_
      rintro e w3 ⟨rfl, rfl⟩
      show K' _ _
      refine hK.out _ _ d1 (fun hSn => ?_)
      try simp only [Act.put, List.setIfInBounds_toArray, List.set_cons_zero, List.set_cons_succ]
      clear hK K'
      refine wpAnyH_take (i := 10) (v := ?v10x9) rfl (by kernel_rfl) (by kernel_rfl) (by kernel_rfl) (fun _ _ _ h => h) (Or.inl ⟨by rfl, ?y10x9⟩) d1 ?r10x9
      case y10x9 => (intro w2 hSw; go_simp; try with_reducible rfl)
      try simp only [Act.put, List.setIfInBounds_toArray, List.set_cons_zero, List.set_cons_succ]
      refine wpAnyH_ready (rs := [11]) (by kernel_rfl) (by simp) (AllReadyH.cons rfl (fun K' hK => ?_) AllReadyH.nil)
      go_simp
      refine hK.out _ _ (HK.out _ (((Below.refl _ w).drew).alloc (by simp) _)).2 (fun hSn => ?_)
      try simp only [Act.put, List.setIfInBounds_toArray, List.set_cons_zero, List.set_cons_succ]
      clear hK K'
      refine wpAnyH_ready (rs := [12]) (by kernel_rfl) (by simp) (AllReadyH.cons rfl (fun K' hK => ?_) AllReadyH.nil)
      refine stepSep (by rfl) _ _ (by rfl) Tryz.underlying26 (.agg #[.int .i64 0, .slice none 0 0]) 2 32 infoHunk (by rfl) (by decide) (by decide) B w.drew vo hs.length (hs.flatMap hkCells) (hkCells (k, a, n, n)) (by rfl) (hkCells_one _) (by rfl) HW1.out.own (by rfl) (by rfl) (by omega) HW.out.size ?_
      intro v8 w8 hp8
      obtain ⟨x1, x2, x3, x4, g8, cap8, hv8⟩ := HAP.out v8 w8 hp8
      have HP8 := Lib.hid hp8
      subst hv8
      clear hp8
      refine hK.out _ _ x1 (fun hSn => ?_)
      try simp only [Act.put, List.setIfInBounds_toArray, List.set_cons_zero, List.set_cons_succ]
      clear hK K'
      refine wpAnyH_take (i := 13) (v := ?v13x10) rfl (by kernel_rfl) (by kernel_rfl) (by kernel_rfl) (fun _ _ _ h => h) (Or.inl ⟨by rfl, ?y13x10⟩) x1 ?r13x10
      case y13x10 => (intro w2 hSw; go_simp; try with_reducible rfl)
      try simp only [Act.put, List.setIfInBounds_toArray, List.set_cons_zero, List.set_cons_succ]
      refine wpAnyH_take (i := 14) (v := ?v14x11) rfl (by kernel_rfl) (by kernel_rfl) (by kernel_rfl) (fun _ _ _ h => h) (Or.inl ⟨by rfl, ?y14x11⟩) x1 ?r14x11
      case y14x11 => (intro w2 hSw; go_simp; try with_reducible rfl)
      try simp only [Act.put, List.setIfInBounds_toArray, List.set_cons_zero, List.set_cons_succ]
      refine wpAnyH_ready (rs := [15]) (by kernel_rfl) (by simp) (AllReadyH.cons rfl (fun K' hK => ?_) AllReadyH.nil)
      go_simp
      refine hK.out _ _ ((World.cell?_setCell_other _ _ _ _ (by intro h; simp only [Addr.mk.injEq] at h; omega)).trans x1) (fun hSn => ?_)
      try simp only [Act.put, List.setIfInBounds_toArray, List.set_cons_zero, List.set_cons_succ]
      clear hK K'
      refine wpAnyH_done (by kernel_rfl) ?_ _
      have y1 : (w8.setCell ⟨p, 0, none⟩ (.slice (some ⟨g8, 0, none⟩) (hs.length + 1) cap8)).cell? ⟨p, i1, none⟩ = some (.slice a n c) := (World.cell?_setCell_other _ _ _ _ (by intro h; simp only [Addr.mk.injEq] at h; omega)).trans x1
      go_wp2
      refine bodyPost_end (results_none rfl _ _ _) rfl ?_
      have hr : Row w8 p 67 (vo :: vals.map (·.1)) := (HW.out.row.keep B0 hnx).keep (HP8.out.below HW1.out.own HW.out.size) HW.out.lt
      obtain ⟨r1, r2⟩ := HW1.out.hunk HW.out.size HI2.out ⟨Nat.le_refl _, Nat.le_trans HC.out HM.out⟩ HP8.out
      have hg9 : w8.grownBy ((w8.setCell ⟨p, 0, none⟩ (.slice (some ⟨g8, 0, none⟩) (hs.length + 1) cap8)).setCell ⟨p, i1, none⟩ (.slice none 0 0)) (some p) := grownBy_trans (grownBy_setCell _ _ _ _) (grownBy_setCell _ _ _ _)
      refine ⟨⟨_, rfl⟩, _, _, nilV, ⟨?_, HW.out.lt, Nat.le_trans r2 hg9.size, r1.other hg9 HW.out.lt, clip_snoc HW.out.clip⟩, ?_⟩
      · have h9 := (hr.set 0 (.slice (some ⟨g8, 0, none⟩) (hs.length + 1) cap8)).set i1 (.slice none 0 0)
        rw [← HI.out] at h9 ⊢
        simpa [nilV] using h9
      · have hb := HP8.out.below HW1.out.own HW.out.size
        exact ⟨((KB.of (((Below.refl B w).drew).trans hb) (.inl (Nat.le_refl _))).set _ _ _).set _ _ _, sep_put HP8.out⟩
    case p9 =>
      go_simp
      refine (clipC _ a n c HC.out hcm).mono ?_
      rintro e w3 ⟨rfl, rfl⟩
      show K' _ _
      refine hK.out _ _ d1 (fun hSn => ?_)
      try simp only [Act.put, List.setIfInBounds_toArray, List.set_cons_zero, List.set_cons_succ]
      clear hK K'
      refine wpAnyH_take (i := 10) (v := ?v10x12) rfl (by kernel_rfl) (by kernel_rfl) (by kernel_rfl) (fun _ _ _ h => h) (Or.inl ⟨by rfl, ?y10x12⟩) d1 ?r10x12
      case y10x12 => (intro w2 hSw; go_simp; try with_reducible rfl)
      try simp only [Act.put, List.setIfInBounds_toArray, List.set_cons_zero, List.set_cons_succ]
      refine wpAnyH_ready (rs := [4, 11]) (by kernel_rfl) (by simp) (AllReadyH.cons rfl (fun K' hK => ?q4) (AllReadyH.cons rfl (fun K' hK => ?q11) AllReadyH.nil))
      case q4 =>
        go_simp
        refine hK.out _ _ d1 (fun hSn => ?_)
        try simp only [Act.put, List.setIfInBounds_toArray, List.set_cons_zero, List.set_cons_succ]
        clear hK K'
        refine wpAnyH_ready (rs := [11]) (by kernel_rfl) (by simp) (AllReadyH.cons rfl (fun K' hK => ?_) AllReadyH.nil)
        go_simp
        refine hK.out _ _ (HK.out _ (((Below.refl _ w).drew).alloc (by simp) _)).2 (fun hSn => ?_)
        try simp only [Act.put, List.setIfInBounds_toArray, List.set_cons_zero, List.set_cons_succ]
        clear hK K'
        refine wpAnyH_ready (rs := [12]) (by kernel_rfl) (by simp) (AllReadyH.cons rfl (fun K' hK => ?_) AllReadyH.nil)
        refine stepSep (by rfl) _ _ (by rfl) Tryz.underlying26 (.agg #[.int .i64 0, .slice none 0 0]) 2 32 infoHunk (by rfl) (by decide) (by decide) B w.drew vo hs.length (hs.flatMap hkCells) (hkCells (k, a, n, n)) (by rfl) (hkCells_one _) (by rfl) HW1.out.own (by rfl) (by rfl) (by omega) HW.out.size ?_
        intro v8 w8 hp8
        obtain ⟨x1, x2, x3, x4, g8, cap8, hv8⟩ := HAP.out v8 w8 hp8
        have HP8 := Lib.hid hp8
        subst hv8
        clear hp8
        refine hK.out _ _ x1 (fun hSn => ?_)
        try simp only [Act.put, List.setIfInBounds_toArray, List.set_cons_zero, List.set_cons_succ]
        clear hK K'
        refine wpAnyH_take (i := 13) (v := ?v13x13) rfl (by kernel_rfl) (by kernel_rfl) (by kernel_rfl) (fun _ _ _ h => h) (Or.inl ⟨by rfl, ?y13x13⟩) x1 ?r13x13
        case y13x13 => (intro w2 hSw; go_simp; try with_reducible rfl)
        try simp only [Act.put, List.setIfInBounds_toArray, List.set_cons_zero, List.set_cons_succ]
        refine wpAnyH_take (i := 14) (v := ?v14x14) rfl (by kernel_rfl) (by kernel_rfl) (by kernel_rfl) (fun _ _ _ h => h) (Or.inl ⟨by rfl, ?y14x14⟩) x1 ?r14x14
        case y14x14 => (intro w2 hSw; go_simp; try with_reducible rfl)
        try simp only [Act.put, List.setIfInBounds_toArray, List.set_cons_zero, List.set_cons_succ]
        refine wpAnyH_ready (rs := [15]) (by kernel_rfl) (by simp) (AllReadyH.cons rfl (fun K' hK => ?_) AllReadyH.nil)
        go_simp
        refine hK.out _ _ ((World.cell?_setCell_other _ _ _ _ (by intro h; simp only [Addr.mk.injEq] at h; omega)).trans x1) (fun hSn => ?_)
        try simp only [Act.put, List.setIfInBounds_toArray, List.set_cons_zero, List.set_cons_succ]
        clear hK K'
        refine wpAnyH_done (by kernel_rfl) ?_ _
        have y1 : (w8.setCell ⟨p, 0, none⟩ (.slice (some ⟨g8, 0, none⟩) (hs.length + 1) cap8)).cell? ⟨p, i1, none⟩ = some (.slice a n c) := (World.cell?_setCell_other _ _ _ _ (by intro h; simp only [Addr.mk.injEq] at h; omega)).trans x1
        go_wp2
        refine bodyPost_end (results_none rfl _ _ _) rfl ?_
        have hr : Row w8 p 67 (vo :: vals.map (·.1)) := (HW.out.row.keep B0 hnx).keep (HP8.out.below HW1.out.own HW.out.size) HW.out.lt
        obtain ⟨r1, r2⟩ := HW1.out.hunk HW.out.size HI2.out ⟨Nat.le_refl _, Nat.le_trans HC.out HM.out⟩ HP8.out
        have hg9 : w8.grownBy ((w8.setCell ⟨p, 0, none⟩ (.slice (some ⟨g8, 0, none⟩) (hs.length + 1) cap8)).setCell ⟨p, i1, none⟩ (.slice none 0 0)) (some p) := grownBy_trans (grownBy_setCell _ _ _ _) (grownBy_setCell _ _ _ _)
        refine ⟨⟨_, rfl⟩, _, _, nilV, ⟨?_, HW.out.lt, Nat.le_trans r2 hg9.size, r1.other hg9 HW.out.lt, clip_snoc HW.out.clip⟩, ?_⟩
        · have h9 := (hr.set 0 (.slice (some ⟨g8, 0, none⟩) (hs.length + 1) cap8)).set i1 (.slice none 0 0)
          rw [← HI.out] at h9 ⊢
          simpa [nilV] using h9
        · have hb := HP8.out.below HW1.out.own HW.out.size
          exact ⟨((KB.of (((Below.refl B w).drew).trans hb) (.inl (Nat.le_refl _))).set _ _ _).set _ _ _, sep_put HP8.out⟩
      case q11 =>
        go_simp
        refine hK.out _ _ (HK.out _ (((Below.refl _ w).drew).alloc (by simp) _)).2 (fun hSn => ?_)
        try simp only [Act.put, List.setIfInBounds_toArray, List.set_cons_zero, List.set_cons_succ]
        clear hK K'
        refine wpAnyH_ready (rs := [4]) (by kernel_rfl) (by simp) (AllReadyH.cons rfl (fun K' hK => ?_) AllReadyH.nil)
        have d4 := (HK.out (w.drew.alloc (.cells (hkCells (k, a, n, n)).toArray 25)) (((Below.refl _ w).drew).alloc (by simp) _)).1
        unfold hkCells at d4
        go_simp
        refine hK.out _ _ (HK.out _ (((Below.refl _ w).drew).alloc (by simp) _)).2 (fun hSn => ?_)
        try simp only [Act.put, List.setIfInBounds_toArray, List.set_cons_zero, List.set_cons_succ]
        clear hK K'
        refine wpAnyH_ready (rs := [12]) (by kernel_rfl) (by simp) (AllReadyH.cons rfl (fun K' hK => ?_) AllReadyH.nil)
        refine stepSep (by rfl) _ _ (by rfl) Tryz.underlying26 (.agg #[.int .i64 0, .slice none 0 0]) 2 32 infoHunk (by rfl) (by decide) (by decide) B w.drew vo hs.length (hs.flatMap hkCells) (hkCells (k, a, n, n)) (by rfl) (hkCells_one _) (by rfl) HW1.out.own (by rfl) (by rfl) (by omega) HW.out.size ?_
        intro v8 w8 hp8
        obtain ⟨x1, x2, x3, x4, g8, cap8, hv8⟩ := HAP.out v8 w8 hp8
        have HP8 := Lib.hid hp8
        subst hv8
        clear hp8
        refine hK.out _ _ x1 (fun hSn => ?_)
        try simp only [Act.put, List.setIfInBounds_toArray, List.set_cons_zero, List.set_cons_succ]
        clear hK K'
        refine wpAnyH_take (i := 13) (v := ?v13x15) rfl (by kernel_rfl) (by kernel_rfl) (by kernel_rfl) (fun _ _ _ h => h) (Or.inl ⟨by rfl, ?y13x15⟩) x1 ?r13x15
        case y13x15 => (intro w2 hSw; go_simp; try with_reducible rfl)
        try simp only [Act.put, List.setIfInBounds_toArray, List.set_cons_zero, List.set_cons_succ]
        refine wpAnyH_take (i := 14) (v := ?v14x16) rfl (by kernel_rfl) (by kernel_rfl) (by kernel_rfl) (fun _ _ _ h => h) (Or.inl ⟨by rfl, ?y14x16⟩) x1 ?r14x16
        case y14x16 => (intro w2 hSw; go_simp; try with_reducible rfl)
        try simp only [Act.put, List.setIfInBounds_toArray, List.set_cons_zero, List.set_cons_succ]
        refine wpAnyH_ready (rs := [15]) (by kernel_rfl) (by simp) (AllReadyH.cons rfl (fun K' hK => ?_) AllReadyH.nil)
        go_simp
        refine hK.out _ _ ((World.cell?_setCell_other _ _ _ _ (by intro h; simp only [Addr.mk.injEq] at h; omega)).trans x1) (fun hSn => ?_)
        try simp only [Act.put, List.setIfInBounds_toArray, List.set_cons_zero, List.set_cons_succ]
        clear hK K'
        refine wpAnyH_done (by kernel_rfl) ?_ _
        have y1 : (w8.setCell ⟨p, 0, none⟩ (.slice (some ⟨g8, 0, none⟩) (hs.length + 1) cap8)).cell? ⟨p, i1, none⟩ = some (.slice a n c) := (World.cell?_setCell_other _ _ _ _ (by intro h; simp only [Addr.mk.injEq] at h; omega)).trans x1
        go_wp2
        refine bodyPost_end (results_none rfl _ _ _) rfl ?_
        have hr : Row w8 p 67 (vo :: vals.map (·.1)) := (HW.out.row.keep B0 hnx).keep (HP8.out.below HW1.out.own HW.out.size) HW.out.lt
        obtain ⟨r1, r2⟩ := HW1.out.hunk HW.out.size HI2.out ⟨Nat.le_refl _, Nat.le_trans HC.out HM.out⟩ HP8.out
        have hg9 : w8.grownBy ((w8.setCell ⟨p, 0, none⟩ (.slice (some ⟨g8, 0, none⟩) (hs.length + 1) cap8)).setCell ⟨p, i1, none⟩ (.slice none 0 0)) (some p) := grownBy_trans (grownBy_setCell _ _ _ _) (grownBy_setCell _ _ _ _)
        refine ⟨⟨_, rfl⟩, _, _, nilV, ⟨?_, HW.out.lt, Nat.le_trans r2 hg9.size, r1.other hg9 HW.out.lt, clip_snoc HW.out.clip⟩, ?_⟩
        · have h9 := (hr.set 0 (.slice (some ⟨g8, 0, none⟩) (hs.length + 1) cap8)).set i1 (.slice none 0 0)
          rw [← HI.out] at h9 ⊢
          simpa [nilV] using h9
        · have hb := HP8.out.below HW1.out.own HW.out.size
          exact ⟨((KB.of (((Below.refl B w).drew).trans hb) (.inl (Nat.le_refl _))).set _ _ _).set _ _ _, sep_put HP8.out⟩
end Go.Proofs.YtnbihjocdlpplaaGreatDoor
