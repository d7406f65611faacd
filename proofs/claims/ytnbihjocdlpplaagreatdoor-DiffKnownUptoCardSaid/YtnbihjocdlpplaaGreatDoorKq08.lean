/- Texts joined, one behind the other (DSplitC, DSplitD, DCheck). -/
import Derived.Test.YtnbihjocdlpplaaGreatDoorKq07
/- The lines of a text with their ends, by the program. -/
namespace Go.Proofs.YtnbihjocdlpplaaGreatDoor
set_option linter.unusedVariables false
set_option linter.unusedSimpArgs false
open Go.RowKit Go.Shelf
open Go.Lib
attribute [local go_sem] Oper.semAt_some
theorem allC (w : World) (s : ByteArray) : Calls Tryz.prog 76 #[.string s] w fun e w' => e = .returned (.func (.func 90) #[] #[.pointer (some ⟨w.heap.size, 0, none⟩)]) ∧ w.alloc (.cells #[.string s] 9) = w' := by
  go_enter Tryz.func76, Tryz.ntmps76
  go_wp2
  go_ret
  exact ⟨rfl, rfl⟩
theorem stepAppG {T e : TypeId} {w : World} {ops : Array Oper} {o : Oper} {a : Act} {K : Act → World → Prop} {Q : Exit → Act → World → Prop} {E : Prop} (hgd : o.guard = none) (sl x : Operand) (ho : o.op = .call { callee := .builtin .append, args := #[sl, x], argTypes := #[T, T] })
    (hT : Tryz.prog.underlying T = some (.slice e)) (z : Value) (size bytes : Nat) (hinfo : (Tryz.prog.info? e).map (fun i => (i.zero, i.size, i.bytes)) = some (some z, size, bytes)) (hz : z.cells.size = size) (hs0 : 0 < size) (hby : bytes ≤ 4096)
    (B : Nat) (wp : World) (v : Value) (n : Nat) (xs cs : List Value) (hcs : cs.length = size) (hone : ∀ u ∈ cs, u.oneCell' = true) (hs : a.eval sl = v) (hown : wp.ownsRow B e size v n xs) (hx : a.eval x = .slice (some ⟨wp.heap.size, 0, none⟩) 1 1) (hw : w = wp.alloc (.cells cs.toArray e)) (hl : n ≤ 1073741824) (hB : B ≤ wp.heap.size)
    (h : ∀ v' w', w'.ownsRow B e size v' (n + 1) (xs ++ cs) → (wp.alloc (.cells cs.toArray e)).grownBy w' v.ownBlock → K (a.put o.dst v') w') : if Region.wanted o (yielded ops a.tmps) = true then Oper.wp Tryz.prog o a w K Q else E := by
  subst hw
  obtain ⟨i0, hi, hz0, hz1, hz2⟩ := info_parts hinfo
  have hwd : Region.wanted o (yielded ops a.tmps) = true := by simp [Region.wanted, hgd]
  rw [if_pos hwd]
  have hsz : (wp.alloc (.cells cs.toArray e)).heap.size = wp.heap.size + 1 := by simp
  have hbt : (n + 1) * bytes ≤ 140737488355328 := by
    calc (n + 1) * bytes ≤ (n + 1) * 4096 := Nat.mul_le_mul (Nat.le_refl _) hby
      _ ≤ 140737488355328 := by omega
  obtain ⟨v', w', hrun, r1, r2, _⟩ := run_append_own (P := Tryz.prog) (wp.alloc (.cells cs.toArray e)) B T o.type e i0 z size bytes hT hi hz0 hz1 hz2 hz hs0 v n xs (World.ownsRow.alloc hown _) ⟨wp.heap.size, 0, none⟩ 1 1 cs (by rw [hcs, Nat.one_mul]) (new_cells _ _ _) hone (by unfold maxLen; omega) hbt (by omega)
  unfold Oper.wp
  simp [execOp, ho, resolve, invoke, builtin, hs, hx, hrun, Result.andThen]
  exact h v' w' r1 r2
theorem row_mid {s hi : Nat} {W w1 : World} {e : TypeId} {size : Nat} {v : Value} {k : Nat} {xs : List Value} {o : Obj} (hown : W.ownsRow hi e size v k xs) (hg : (W.alloc o).grownBy w1 v.ownBlock) (hhi : s + 3 ≤ hi) (hW : hi ≤ W.heap.size) {b : Nat} (hb : b < s + 3) : w1.heap[b]? = W.heap[b]? := by
  refine (hg.block b (by simp; omega) (fun e => ?_)).trans (Below.heap_alloc W o b (by omega))
  have := (hown.lt b e.symm).1
  omega
theorem row_step7 {s hi : Nat} {W w1 : World} {e : TypeId} {size : Nat} {v v' : Value} {k : Nat} {xs ys : List Value} {o : Obj} (hown : W.ownsRow hi e size v k xs) (hg : (W.alloc o).grownBy w1 v.ownBlock) (hown' : w1.ownsRow hi e size v' (k + 1) ys)
    (hhi : s + 3 ≤ hi) (hW : hi ≤ W.heap.size) :
    KeepsC (fun r => r < s ∨ r = s + 2) (s + 3) hi W (w1.setCell ⟨s + 1, 0, none⟩ v') ∧ (w1.setCell ⟨s + 1, 0, none⟩ v').ownsRow hi e size v' (k + 1) ys ∧ (∀ w, Below s w W → Below s w (w1.setCell ⟨s + 1, 0, none⟩ v')) := by
  have hK : ∀ r, (r < s ∨ r = s + 2) → r < s + 3 ∧ r ≠ s + 1 := fun r h => by omega
  have g1 : KeepsC (fun r => r < s ∨ r = s + 2) (s + 3) hi W (W.alloc o) := KeepsC.grown (World.grownBy_alloc W o none) (fun r hr => by have := hK r hr; omega) hW (fun r e => by cases e)
  have g2 : KeepsC (fun r => r < s ∨ r = s + 2) (s + 3) hi (W.alloc o) w1 := by
    refine KeepsC.grown hg (fun r hr => by have := hK r hr; simp; omega) (by simp; omega) (fun r e => ?_)
    have hl := hown.lt r e
    refine ⟨fun h => by have := hK r h; omega, .inr ⟨hl.1, fun o' ho => ?_⟩⟩
    rw [Below.heap_alloc W o r hl.2] at ho
    rcases hown.2 with ⟨rfl, _⟩ | ⟨g, cap, cur, rfl, _, hgr, _⟩
    · cases e
    · cases e; rw [hgr] at ho; cases ho; rfl
  have z1 := g1.size
  have z2 := g2.size
  have g3 : KeepsC (fun r => r < s ∨ r = s + 2) (s + 3) hi w1 (w1.setCell ⟨s + 1, 0, none⟩ v') := KeepsC.grown (grownBy_setCell' w1 (s + 1) v') (fun r hr => by have := hK r hr; omega) (by omega) (fun r e => by cases e; exact ⟨fun h => by have := hK _ h; omega, .inl (by omega)⟩)
  refine ⟨(g1.trans g2).trans g3, ownsRow_setCell_below hown' (by simp; omega) v', fun w hb => ?_⟩
  exact ((hb.alloc (by omega) o).grown hg (by simp; omega) (fun r e => by have := (hown.lt r e).1; omega)).setCell (by simp) _
theorem own_abides2 {lo hi : Nat} {A A' : World} {row : Option Nat} {e : TypeId} {size : Nat} {v : Value} {n : Nat} {xs : List Value} (h : A.ownsRow hi e size v n xs) (hg : A.grownBy A' row) (ht : MayTurn lo hi A row) : A'.ownsRow hi e size v n xs := by
  refine h.kept hg ?_
  rcases h.2 with ⟨rfl, _⟩ | ⟨g, cap, cur, rfl, hb, hgr, _⟩
  · exact .inl rfl
  · refine .inr fun e' => ?_
    have e' : some g = row := e'
    obtain ⟨h1, h2 | ⟨o, ho, hc⟩⟩ := ht g e'.symm
    · omega
    · rw [hgr] at ho; cases ho; cases hc
set_option maxHeartbeats 4000000 in
set_option maxRecDepth 100000 in
theorem splitAC (w : World) (l : List UInt8) (hl : l.length ≤ 67108864) (hT : Tabs w) :
    Calls Tryz.prog 47 #[.string (bstr l)] w fun e w' => ∃ a n c, e = .returned (.slice a n c) ∧ n = (splitA l).length ∧ n ≤ c ∧ c ≤ maxLen ∧ ReadsS w' a n (splitA l) ∧ Below w.heap.size w w' := by
  obtain ⟨i0, hi_, hz0, hz1, hz2⟩ := info_parts infoStr
  have hB7 := hT.size
  have HT := Lib.hid hT
  have hgf := enters_of Tryz.func90 (by kernel_rfl) rfl
  have HE := Lib.hid hgf
  clear hT hgf
  refine (callsIn_wide (n := 20)).1 ?_
  refine callsIn_of_wp_marks Tryz.func47 rfl trivial ?_ rfl
  simp only [Tryz.ntmps47, List.size_toArray, List.length_cons, List.length_nil, Nat.reduceAdd, Nat.reduceSub, Array.replicate_succ, Array.replicate_zero, List.push_toArray, List.append_toArray, List.nil_append, List.cons_append]
  gi_wp2_with (refine ⟨trivial, ?_⟩; gi_at_call 76; refine (callsIn_wide.2 (allC _ _)).mono ?_; rintro e w' ⟨rfl, hw'⟩)
  obtain ⟨s, hs⟩ : ∃ s, s = w.heap.size := ⟨_, rfl⟩
  obtain ⟨wk, hwk⟩ : ∃ wk, wk = (w.alloc (.cells #[.string (bstr l)] 9)).alloc (.cells #[.slice none 0 0] 22) := ⟨_, rfl⟩
  rw [← hwk] at hw'
  have zk : wk.heap.size = s + 2 := by rw [hwk, hs]; simp
  have bk : Below w.heap.size w wk := by rw [hwk]; exact ((Below.refl _ w).alloc (Nat.le_refl _) _).alloc (by simp) _
  have x1 : Boxed wk s 9 (.string (bstr l)) := by rw [hwk, hs]; exact (Boxed.new w _ _).alloc _
  have x2 : Boxed wk (s + 1) 22 (.slice none 0 0) := by
    rw [hwk, hs]
    have := Boxed.new (w.alloc (.cells #[.string (bstr l)] 9)) 22 (.slice none 0 0)
    rwa [World.size_alloc] at this
  have x3 := Boxed.new wk 9 (.string (bstr l))
  rw [zk] at x3
  obtain ⟨wl, hwl⟩ : ∃ wl, wl = wk.alloc (.cells #[.string (bstr l)] 9) := ⟨_, rfl⟩
  have zl : wl.heap.size = s + 3 := by rw [hwl]; simp [zk]
  have bl : Below w.heap.size w wl := by rw [hwl]; exact bk.alloc (by rw [zk, ← hs]; omega) _
  have y1 : Boxed wl s 9 (.string (bstr l)) := by rw [hwl]; exact x1.alloc _
  have y2 : Boxed wl (s + 1) 22 (.slice none 0 0) := by rw [hwl]; exact x2.alloc _
  have y3 : Boxed wl (s + 2) 9 (.string (bstr l)) := by rw [hwl]; exact x3
  rw [← hwl] at hw'
  subst hw'
  have HTL : Hid (Tabs wl) := Lib.hid (HT.out.next bl)
  rw [← hs] at bl hB7 ⊢
  have HSS := Lib.hid hs
  clear hs hwl hwk zk bk x1 x2 x3
  have hseq := fun m hm => all1 m hm s (s + 2) wl l y3 hl HTL.out hB7 (by omega)
  have HSQ := Lib.hid hseq
  clear hseq
  refine wpIn_rangeFunc_A rfl (by decide) (gf := 90) (lb := #[.pointer (some ⟨s + 2, 0, none⟩)]) rfl trivial HE.out (HSQ.out 19 (by decide)) (fun r hr => ⟨by have hr : r < s ∨ r = s + 2 := hr; omega, rfl⟩) (Nat.le_refl _) (fun _ => rfl)
    (fun hi pre W => Boxed W s 9 (.string (bstr l)) ∧ Below s w W ∧ ∃ v, Boxed W (s + 1) 22 v ∧ W.ownsRow hi 9 1 v pre.length ((pre.map (pieceE l)).map S1))
    (fun c hi pre W => False) ?hI ?hIx ?h0 (fun x => .cells #[.int .i64 (x.1 : Int), .int .i64 (x.2.1 : Int)] 121 (0, 0))
    (fun x g => { tmps := #[.string (bstr l), .pointer (some ⟨s, 0, none⟩), .slice none 0 0, .pointer (some ⟨s + 1, 0, none⟩), .pointer (some ⟨g, 0, none⟩), .int .i64 (x.2.2 : Int), .string (bstr l), .func (.func 90) #[] #[.pointer (some ⟨s + 2, 0, none⟩)], .agg #[.int .i64 (x.1 : Int), .int .i64 (x.2.1 : Int)], .int .i64 (x.2.2 : Int), undef, undef, undef, undef, undef, undef, undef, undef, undef, undef, undef, undef, undef, undef, undef, undef, undef, undef], defers := [] }) ?assign ?body ?done ?stop
  case assign =>
    intro l' x Wx K hK
    obtain ⟨xa, xb, xe⟩ := x
    unfold pieceV
    gi_wp2
    exact hK
  case hI =>
    rintro hi pre A A' row ⟨h2, h3, v, h4, h5⟩ hg ht
    have ne : ∀ k, k < s + 3 → some k ≠ row := fun k hk e => by have := (ht k e.symm).1; omega
    exact ⟨h2.kept hg (ne _ (by omega)), h3.grown hg (by have := h2.lt; omega) (fun r e => by have := (ht r e).1; omega), v, h4.kept hg (ne _ (by omega)), own_abides2 h5 hg (fun r e => ⟨(ht r e).1, (ht r e).2⟩)⟩
  case hIx =>
    rintro c hi pre A A' row h hg ht
    exact h
  case h0 =>
    intro hi hh
    exact ⟨y1, bl, _, y2, World.ownsRow_nil _ _ _ _⟩
  case done =>
    rintro D hi xs Wx hD hDh rfl ⟨q2, q3, v, q4, q5⟩ hd
    have c4 := q4.cell
    obtain ⟨a2, c2, rfl⟩ := slice_own q5
    have hlt := (Array.getElem?_eq_some_iff.1 hd).1
    have hx1 : (linesL l).length ≤ c2 ∧ c2 ≤ maxLen := by
      obtain ⟨a', c', he, _, h3, h4⟩ := reads_of_own q5
      cases he
      exact ⟨h3, h4⟩
    have HX1 := Lib.hid hx1
    have HQ5 := Lib.hid q5
    have hc2 : c2 ≤ 9223372036854775807 := by unfold maxLen at hx1; omega
    have hxc := hx1.1
    have hxl : ((linesL l).length : Int) ≤ (c2 : Int) := by omega
    have hll := linesL_len l
    clear hx1 q5
    gi_wp2
    have q5 := HQ5.out
    have hlen : (splitA l).length = (linesL l).length := by unfold splitA; rw [List.length_map]
    have q6 := ownsRow_putObj q5 (.deferred none) hd rfl
    have hR : ReadsS (Wx.putObj D (.deferred none)) a2 (linesL l).length (splitA l) := by
      obtain ⟨a', c', he, h2, h3, h4⟩ := reads_of_own q6
      cases he
      exact h2
    refine ⟨by simp, .inl ⟨_, _, rfl, run_takeDeferred hd, ?_⟩⟩
    refine ⟨_, results_tmp rfl _ _ _, _, _, _, rfl, hlen.symm, Nat.le_refl _, Nat.le_trans HX1.out.1 HX1.out.2, hR, ?_⟩
    rw [← HSS.out]
    exact q3.grown (grownBy_putObj' Wx D _) (by omega) (fun r e => by cases e; omega)
  case stop =>
    rintro D hi c pre Wx hD hDh hpre h hd
    exact h.elim
  case body =>
    rintro l' hi g pre x Wx hhi1 hhi2 hob hpx ⟨q2, q3, v, q4, q5⟩
    obtain ⟨xa, xb, xe⟩ := x
    gi_wp2
    have hpok := linesL_end l (xa, xb, xe) (hpx.subset (List.mem_append_right _ (List.mem_singleton_self _)))
    have hpl := hpx.length_le
    have hll := linesL_len l
    rw [List.length_append, List.length_singleton] at hpl
    simp only at hpok
    obtain ⟨hab, hbl⟩ := hpok
    obtain ⟨y, hy⟩ : ∃ y, xb + xe = y := ⟨_, rfl⟩
    rw [hy] at hbl
    have iw : IntKind.i64.wrap ((xb : Int) + (xe : Int)) = (y : Int) := by rw [show (xb : Int) + (xe : Int) = (y : Int) by omega]; exact IntWalk.i64_in _ (by omega)
    have i1 : (xa : Int) ≤ (y : Int) := by omega
    have i2 : (y : Int) ≤ (l.length : Int) := by omega
    obtain ⟨S, hS⟩ : ∃ S, pieceE l (xa, xb, xe) = S := ⟨_, rfl⟩
    have hex : (bstr l).extract xa y = bstr S := by rw [← hS, bstr_extract, ← hy]; rfl
    have hsz := bstr_size l
    have r0 : Row Wx g 121 [.int .i64 (xa : Int), .int .i64 (xb : Int)] := hob
    have g0 := r0.cell 0
    have g1 := r0.cell 1
    simp only [List.getElem?_cons_zero, List.getElem?_cons_succ] at g0 g1
    have c2 := q2.cell
    have hS0 : (fun w' : World => w'.cell? ⟨s, 0, none⟩ = some (.string (bstr l)) ∧ w'.cell? ⟨g, 0, none⟩ = some (.int .i64 (xa : Int)) ∧ w'.cell? ⟨g, 1, none⟩ = some (.int .i64 (xb : Int))) Wx.drew := ⟨c2, g0, g1⟩
    have c4 := q4.cell
    have f4 := q4.frozen
    clear hy hob
    have hll2 := hll
    have hkl : pre.length ≤ 1073741824 := by omega
    have hgl : g < Wx.heap.size := r0.lt
    have hsg : s + 3 ≤ hi := by rw [zl] at hhi1; omega
    have hihx : hi ≤ Wx.heap.size := by omega
    have HDR : Hid (Below Wx.heap.size Wx Wx.drew) := Lib.hid (Below.refl _ Wx).drew
    obtain ⟨Wd, hWd⟩ : ∃ Wd, Wd = Wx.drew := ⟨_, rfl⟩
    rw [← hWd] at HDR hS0
    have hkeep : ∀ W', Below Wx.heap.size Wx W' → (W'.cell? ⟨s, 0, none⟩ = some (.string (bstr l)) ∧ W'.cell? ⟨g, 0, none⟩ = some (.int .i64 (xa : Int)) ∧ W'.cell? ⟨g, 1, none⟩ = some (.int .i64 (xb : Int))) ∧ W'.cell? ⟨s + 1, 0, none⟩ = some v := fun W' hb => by
      rw [hb.cell (p := ⟨s, 0, none⟩) (by show s < _; omega), hb.cell (p := ⟨g, 0, none⟩) hgl, hb.cell (p := ⟨g, 1, none⟩) hgl, hb.cell (p := ⟨s + 1, 0, none⟩) (by show s + 1 < _; omega)]
      exact ⟨⟨c2, g0, g1⟩, c4⟩
    have HKP := Lib.hid hkeep
    have hend : ∀ W3, Below Wx.heap.size Wx W3 → ∀ v' w1, w1.ownsRow hi 9 1 v' (pre.length + 1) ((pre.map (pieceE l)).map S1 ++ [S1 S]) → (W3.alloc (.cells [S1 S].toArray 9)).grownBy w1 v.ownBlock →
        (w1.cell? ⟨s, 0, none⟩ = some (.string (bstr l)) ∧ w1.cell? ⟨g, 0, none⟩ = some (.int .i64 (xa : Int)) ∧ w1.cell? ⟨g, 1, none⟩ = some (.int .i64 (xb : Int))) ∧ w1.cell? ⟨s + 1, 0, none⟩ = some v ∧ w1.frozen? ⟨s + 1, 0, none⟩ = false ∧
        ((w1.setCell ⟨s + 1, 0, none⟩ v').cell? ⟨s, 0, none⟩ = some (.string (bstr l)) ∧ (w1.setCell ⟨s + 1, 0, none⟩ v').cell? ⟨g, 0, none⟩ = some (.int .i64 (xa : Int)) ∧ (w1.setCell ⟨s + 1, 0, none⟩ v').cell? ⟨g, 1, none⟩ = some (.int .i64 (xb : Int))) ∧
        Hid (KeepsC (fun r => r < s ∨ r = s + 2) wl.heap.size hi Wx (w1.setCell ⟨s + 1, 0, none⟩ v') ∧ Boxed (w1.setCell ⟨s + 1, 0, none⟩ v') s 9 (.string (bstr l)) ∧ Below s w (w1.setCell ⟨s + 1, 0, none⟩ v') ∧ Boxed (w1.setCell ⟨s + 1, 0, none⟩ v') (s + 1) 22 v' ∧ (w1.setCell ⟨s + 1, 0, none⟩ v').ownsRow hi 9 1 v' (pre ++ [(xa, xb, xe)]).length (((pre ++ [(xa, xb, xe)]).map (pieceE l)).map S1)) := by
      intro W3 hb3 v' w1 ho hg
      have h3s := hb3.size
      have hown3 := own_below q5 hb3
      have b1 : Boxed w1 s 9 (.string (bstr l)) := ((row_mid (s := s) (b := s) hown3 hg hsg (by omega) (by omega)).trans (hb3.block s (by omega))).trans q2
      have b2 : Boxed w1 (s + 1) 22 v := ((row_mid (s := s) (b := s + 1) hown3 hg hsg (by omega) (by omega)).trans (hb3.block (s + 1) (by omega))).trans q4
      have hng : v.ownBlock ≠ some g := by
        intro e
        rcases hown3.2 with ⟨rfl, _⟩ | ⟨g', cap, cur, rfl, _, hgr, _⟩
        · cases e
        · have eg : g' = g := by injection e
          rw [eg, hb3.block g hgl] at hgr
          have r1 : Wx.heap[g]? = some _ := r0
          rw [r1] at hgr
          cases hgr
      have b3 : Row w1 g 121 [.int .i64 (xa : Int), .int .i64 (xb : Int)] := ((hg.block g (by simp; omega) (fun e => hng e.symm)).trans (Below.heap_alloc W3 _ g (by omega))).trans ((hb3.block g hgl).trans r0)
      have b5 := b3.cell 0
      have b6 := b3.cell 1
      simp only [List.getElem?_cons_zero, List.getElem?_cons_succ] at b5 b6
      obtain ⟨k1, k2, k3⟩ := row_step7 (s := s) hown3 hg ho hsg (by omega)
      have k0 : KeepsC (fun r => r < s ∨ r = s + 2) (s + 3) hi Wx W3 := KeepsC.below hb3 (fun r hr => by omega) hihx
      have hcs : ∀ c : Addr, c.block ≠ s + 1 → (w1.setCell ⟨s + 1, 0, none⟩ v').cell? c = w1.cell? c := fun c hc => World.cell?_setCell_other _ _ _ _ (by first | (intro h; exact hc (by rw [← h])) | (intro h; exact hc (by rw [h])))
      refine ⟨⟨b1.cell, b5, b6⟩, b2.cell, b2.frozen, ⟨?_, ?_, ?_⟩, Lib.hid ⟨by rw [zl]; exact k0.trans k1, b1.other (by omega) _, k3 w (q3.trans (hb3.mono (by omega))), b2.set _, ?_⟩⟩
      · rw [hcs _ (by show s ≠ _; omega)]; exact b1.cell
      · rw [hcs _ (by show g ≠ _; omega)]; exact b5
      · rw [hcs _ (by show g ≠ _; omega)]; exact b6
      · have := k2
        rw [← hS] at this
        simpa using this
    have HEND := Lib.hid hend
    have HO := Lib.hid q5
    have hSl : S.length ≤ 1099511627776 := by rw [← hS]; unfold pieceE; rw [List.length_take, List.length_drop]; omega
    clear hpx hend hkeep q5 c4 hS r0
    refine wpIn_round_held (S := fun w' : World => w'.cell? ⟨s, 0, none⟩ = some (.string (bstr l)) ∧ w'.cell? ⟨g, 0, none⟩ = some (.int .i64 (xa : Int)) ∧ w'.cell? ⟨g, 1, none⟩ = some (.int .i64 (xb : Int))) (by kernel_rfl) (by kernel_rfl) _ (fun _ _ h => h) ?_
    rw [← hWd]
    clear hWd
    refine wpAnyH_take (i := 1) (v := ?v1) rfl (by kernel_rfl) (by kernel_rfl) (by kernel_rfl) (fun _ _ _ h => h) (Or.inl ⟨by rfl, ?y1⟩) hS0 ?r1
    case y1 => (intro w2 hSw; obtain ⟨s0, s1, s2⟩ := hSw; go_simp; try with_reducible rfl)
    try simp only [Act.put, List.setIfInBounds_toArray, List.set_cons_zero, List.set_cons_succ]
    refine wpAnyH_take (i := 2) (v := ?v2) rfl (by kernel_rfl) (by kernel_rfl) (by kernel_rfl) (fun _ _ _ h => h) (Or.inl ⟨by rfl, ?y2⟩) hS0 ?r2
    case y2 => (intro w2 hSw; obtain ⟨s0, s1, s2⟩ := hSw; go_simp; try with_reducible rfl)
    try simp only [Act.put, List.setIfInBounds_toArray, List.set_cons_zero, List.set_cons_succ]
    refine wpAnyH_take (i := 3) (v := ?v3) rfl (by kernel_rfl) (by kernel_rfl) (by kernel_rfl) (fun _ _ _ h => h) (Or.inl ⟨by rfl, ?y3⟩) hS0 ?r3
    case y3 => (intro w2 hSw; obtain ⟨s0, s1, s2⟩ := hSw; go_simp; try with_reducible rfl)
    try simp only [Act.put, List.setIfInBounds_toArray, List.set_cons_zero, List.set_cons_succ]
    refine wpAnyH_take (i := 4) (v := ?v4) rfl (by kernel_rfl) (by kernel_rfl) (by kernel_rfl) (fun _ _ _ h => h) (Or.inl ⟨by rfl, ?y4⟩) hS0 ?r4
    case y4 => (intro w2 hSw; obtain ⟨s0, s1, s2⟩ := hSw; go_simp; try with_reducible rfl)
    try simp only [Act.put, List.setIfInBounds_toArray, List.set_cons_zero, List.set_cons_succ]
    refine wpAnyH_take (i := 5) (v := ?v5) rfl (by kernel_rfl) (by kernel_rfl) (by kernel_rfl) (fun _ _ _ h => h) (Or.inl ⟨by rfl, ?y5⟩) hS0 ?r5
    case y5 => (intro w2 hSw; obtain ⟨s0, s1, s2⟩ := hSw; go_simp; try with_reducible rfl)
    try simp only [Act.put, List.setIfInBounds_toArray, List.set_cons_zero, List.set_cons_succ]
    refine wpAnyH_take (i := 6) (v := ?v6) rfl (by kernel_rfl) (by kernel_rfl) (by kernel_rfl) (fun _ _ _ h => h) (Or.inl ⟨by rfl, ?y6⟩) hS0 ?r6
    case y6 => (intro w2 hSw; obtain ⟨s0, s1, s2⟩ := hSw; go_simp; try with_reducible rfl)
    try simp only [Act.put, List.setIfInBounds_toArray, List.set_cons_zero, List.set_cons_succ]
    refine wpAnyH_take (i := 7) (v := ?v7) rfl (by kernel_rfl) (by kernel_rfl) (by kernel_rfl) (fun _ _ _ h => h) (Or.inl ⟨by rfl, ?y7⟩) hS0 ?r7
    case y7 => (intro w2 hSw; obtain ⟨s0, s1, s2⟩ := hSw; go_simp; try with_reducible rfl)
    try simp only [Act.put, List.setIfInBounds_toArray, List.set_cons_zero, List.set_cons_succ]
    refine wpAnyH_take (i := 8) (v := ?v8) rfl (by kernel_rfl) (by kernel_rfl) (by kernel_rfl) (fun _ _ _ h => h) (Or.inl ⟨by rfl, ?y8⟩) hS0 ?r8
    case y8 => (intro w2 hSw; obtain ⟨s0, s1, s2⟩ := hSw; go_simp; try with_reducible rfl)
    try simp only [Act.put, List.setIfInBounds_toArray, List.set_cons_zero, List.set_cons_succ]
    refine wpAnyH_ready (rs := [0, 9]) (by kernel_rfl) (by simp) (AllReadyH.cons rfl (fun K' hK => ?p0) (AllReadyH.cons rfl (fun K' hK => ?p9) AllReadyH.nil))
    case p0 =>
      have d4 := (HKP.out _ HDR.out).2
      go_simp
      refine hK.out _ _ hS0 (fun _ => ?_)
      try simp only [Act.put, List.setIfInBounds_toArray, List.set_cons_zero, List.set_cons_succ]
      clear hK K'
      refine wpAnyH_ready (rs := [9]) (by kernel_rfl) (by simp) (AllReadyH.cons rfl (fun K' hK => ?_) AllReadyH.nil)
      go_simp
      refine (cloneC _ S hSl).mono ?_
      rintro e W3 ⟨rfl, hb3⟩
      show K' _ _
      have HB3 : Hid (Below Wx.heap.size Wx W3) := Lib.hid (HDR.out.trans (hb3.mono HDR.out.size))
      clear hb3
      refine hK.out _ _ (HKP.out _ HB3.out).1 (fun _ => ?_)
      try simp only [Act.put, List.setIfInBounds_toArray, List.set_cons_zero, List.set_cons_succ]
      clear hK K'
      refine wpAnyH_ready (rs := [10]) (by kernel_rfl) (by simp) (AllReadyH.cons rfl (fun K' hK => ?_) AllReadyH.nil)
      go_simp
      refine hK.out _ _ (HKP.out _ (HB3.out.alloc (by have := HB3.out.size; omega) _)).1 (fun _ => ?_)
      try simp only [Act.put, List.setIfInBounds_toArray, List.set_cons_zero, List.set_cons_succ]
      clear hK K'
      refine wpAnyH_ready (rs := [11]) (by kernel_rfl) (by simp) (AllReadyH.cons rfl (fun K' hK => ?_) AllReadyH.nil)
      refine stepAppG (by rfl) _ _ (by rfl) Tryz.underlying22 (.string ByteArray.empty) 1 16 infoStr (by rfl) (by decide) (by decide) hi W3 v pre.length ((pre.map (pieceE l)).map S1) [S1 S] (by rfl) (by intro u hu; simp only [List.mem_singleton] at hu; subst hu; rfl) (by rfl) (own_below HO.out HB3.out) (by rfl) (by rfl) hkl (by have := HB3.out.size; omega) ?_
      intro v8 w8 hO8 hg8
      obtain ⟨e1, e2, e3, e4, e5⟩ := HEND.out W3 HB3.out v8 w8 hO8 hg8
      obtain ⟨g8, cap8, hv8⟩ := ownsRow_succ hO8
      subst hv8
      clear hO8 hg8
      refine hK.out _ _ e1 (fun _ => ?_)
      try simp only [Act.put, List.setIfInBounds_toArray, List.set_cons_zero, List.set_cons_succ]
      clear hK K'
      refine wpAnyH_ready (rs := [12]) (by kernel_rfl) (by simp) (AllReadyH.cons rfl (fun K' hK => ?_) AllReadyH.nil)
      go_simp
      refine hK.out _ _ e4 (fun _ => ?_)
      try simp only [Act.put, List.setIfInBounds_toArray, List.set_cons_zero, List.set_cons_succ]
      clear hK K'
      refine wpAnyH_done (by kernel_rfl) ?_ _
      have E5 := e5.out
      exact ⟨E5.1, E5.2.1, E5.2.2.1, _, E5.2.2.2.1, E5.2.2.2.2⟩
    case p9 =>
      go_simp
      refine (cloneC _ S hSl).mono ?_
      rintro e W3 ⟨rfl, hb3⟩
      show K' _ _
      have HB3 : Hid (Below Wx.heap.size Wx W3) := Lib.hid (HDR.out.trans (hb3.mono HDR.out.size))
      clear hb3
      refine hK.out _ _ (HKP.out _ HB3.out).1 (fun _ => ?_)
      try simp only [Act.put, List.setIfInBounds_toArray, List.set_cons_zero, List.set_cons_succ]
      clear hK K'
      refine wpAnyH_ready (rs := [0, 10]) (by kernel_rfl) (by simp) (AllReadyH.cons rfl (fun K' hK => ?q0) (AllReadyH.cons rfl (fun K' hK => ?q10) AllReadyH.nil))
      case q0 =>
        have d4 := (HKP.out _ HB3.out).2
        go_simp
        refine hK.out _ _ (HKP.out _ HB3.out).1 (fun _ => ?_)
        try simp only [Act.put, List.setIfInBounds_toArray, List.set_cons_zero, List.set_cons_succ]
        clear hK K'
        refine wpAnyH_ready (rs := [10]) (by kernel_rfl) (by simp) (AllReadyH.cons rfl (fun K' hK => ?_) AllReadyH.nil)
        go_simp
        refine hK.out _ _ (HKP.out _ (HB3.out.alloc (by have := HB3.out.size; omega) _)).1 (fun _ => ?_)
        try simp only [Act.put, List.setIfInBounds_toArray, List.set_cons_zero, List.set_cons_succ]
        clear hK K'
        refine wpAnyH_ready (rs := [11]) (by kernel_rfl) (by simp) (AllReadyH.cons rfl (fun K' hK => ?_) AllReadyH.nil)
        refine stepAppG (by rfl) _ _ (by rfl) Tryz.underlying22 (.string ByteArray.empty) 1 16 infoStr (by rfl) (by decide) (by decide) hi W3 v pre.length ((pre.map (pieceE l)).map S1) [S1 S] (by rfl) (by intro u hu; simp only [List.mem_singleton] at hu; subst hu; rfl) (by rfl) (own_below HO.out HB3.out) (by rfl) (by rfl) hkl (by have := HB3.out.size; omega) ?_
        intro v8 w8 hO8 hg8
        obtain ⟨e1, e2, e3, e4, e5⟩ := HEND.out W3 HB3.out v8 w8 hO8 hg8
        obtain ⟨g8, cap8, hv8⟩ := ownsRow_succ hO8
        subst hv8
        clear hO8 hg8
        refine hK.out _ _ e1 (fun _ => ?_)
        try simp only [Act.put, List.setIfInBounds_toArray, List.set_cons_zero, List.set_cons_succ]
        clear hK K'
        refine wpAnyH_ready (rs := [12]) (by kernel_rfl) (by simp) (AllReadyH.cons rfl (fun K' hK => ?_) AllReadyH.nil)
        go_simp
        refine hK.out _ _ e4 (fun _ => ?_)
        try simp only [Act.put, List.setIfInBounds_toArray, List.set_cons_zero, List.set_cons_succ]
        clear hK K'
        refine wpAnyH_done (by kernel_rfl) ?_ _
        have E5 := e5.out
        exact ⟨E5.1, E5.2.1, E5.2.2.1, _, E5.2.2.2.1, E5.2.2.2.2⟩
      case q10 =>
        go_simp
        refine hK.out _ _ (HKP.out _ (HB3.out.alloc (by have := HB3.out.size; omega) _)).1 (fun _ => ?_)
        try simp only [Act.put, List.setIfInBounds_toArray, List.set_cons_zero, List.set_cons_succ]
        clear hK K'
        refine wpAnyH_ready (rs := [0]) (by kernel_rfl) (by simp) (AllReadyH.cons rfl (fun K' hK => ?_) AllReadyH.nil)
        have HB4 : Hid (Below Wx.heap.size Wx (W3.alloc (.cells #[.string (bstr S)] 9))) := Lib.hid (HB3.out.alloc (by have := HB3.out.size; omega) _)
        have d4 := (HKP.out _ HB4.out).2
        go_simp
        refine hK.out _ _ (HKP.out _ HB4.out).1 (fun _ => ?_)
        try simp only [Act.put, List.setIfInBounds_toArray, List.set_cons_zero, List.set_cons_succ]
        clear hK K'
        refine wpAnyH_ready (rs := [11]) (by kernel_rfl) (by simp) (AllReadyH.cons rfl (fun K' hK => ?_) AllReadyH.nil)
        refine stepAppG (by rfl) _ _ (by rfl) Tryz.underlying22 (.string ByteArray.empty) 1 16 infoStr (by rfl) (by decide) (by decide) hi W3 v pre.length ((pre.map (pieceE l)).map S1) [S1 S] (by rfl) (by intro u hu; simp only [List.mem_singleton] at hu; subst hu; rfl) (by rfl) (own_below HO.out HB3.out) (by rfl) (by rfl) hkl (by have := HB3.out.size; omega) ?_
        intro v8 w8 hO8 hg8
        obtain ⟨e1, e2, e3, e4, e5⟩ := HEND.out W3 HB3.out v8 w8 hO8 hg8
        obtain ⟨g8, cap8, hv8⟩ := ownsRow_succ hO8
        subst hv8
        clear hO8 hg8
        refine hK.out _ _ e1 (fun _ => ?_)
        try simp only [Act.put, List.setIfInBounds_toArray, List.set_cons_zero, List.set_cons_succ]
        clear hK K'
        refine wpAnyH_ready (rs := [12]) (by kernel_rfl) (by simp) (AllReadyH.cons rfl (fun K' hK => ?_) AllReadyH.nil)
        go_simp
        refine hK.out _ _ e4 (fun _ => ?_)
        try simp only [Act.put, List.setIfInBounds_toArray, List.set_cons_zero, List.set_cons_succ]
        clear hK K'
        refine wpAnyH_done (by kernel_rfl) ?_ _
        have E5 := e5.out
        exact ⟨E5.1, E5.2.1, E5.2.2.1, _, E5.2.2.2.1, E5.2.2.2.2⟩
end Go.Proofs.YtnbihjocdlpplaaGreatDoor
/- The lines here, by the program. -/
namespace Go.Proofs.YtnbihjocdlpplaaGreatDoor
set_option linter.unusedVariables false
set_option linter.unusedSimpArgs false
open Go.RowKit
open Go.Lib
set_option maxHeartbeats 4000000 in
theorem splitC (w : World) (l : List UInt8) (hm : l.length ≤ 67108864) (hT : Tabs w) :
    Calls Tryz.prog 36 #[.string (bstr l)] w (SplitQ w l) := by
  have hA := splitAC w l hm hT
  obtain ⟨x, hx, hl⟩ := splitA_last l
  have hlen := splitA_len l
  obtain ⟨q, hq⟩ : ∃ q, (splitA l).length = q + 1 := ⟨(splitA l).length - 1, by omega⟩
  rw [hq] at hx hlen hA
  have HA := Lib.hid hA
  have HX := Lib.hid hx
  have HL := Lib.hid hl
  have HQ := Lib.hid hq
  have hq2 : q ≤ 67108865 := by omega
  clear hx hl hq hlen hT hA
  go_enter Tryz.func36, Tryz.ntmps36
  go_upto_region 2 with (go_at_call 47; refine (HA.out).mono ?_; rintro e w1 ⟨a1, n1, c1, rfl, hn1, hc1, hm1, hR1, hb1⟩)
  try subst hn1
  obtain ⟨b, off, y, rfl, hb, hy, hcell⟩ := hR1.at (k := q) (by omega)
  have hxy : y = x := by
    have := HX.out
    simp only [Nat.add_sub_cancel] at this
    rw [this] at hy
    exact (Option.some.inj hy).symm
  subst hxy
  have HR1 := Lib.hid hR1
  have HB1 := Lib.hid hb1
  have hcm : c1 ≤ 9223372036854775807 := by unfold maxLen at hm1; omega
  have HM1 := Lib.hid hm1
  have hqi : ((q : Int) + 1) - 1 = (q : Int) := by omega
  clear hb1 hR1 hm1 hy
  by_cases h0 : y = []
  · subst h0
    have HD := Lib.hid (splitD_take l (by rw [HL.out]))
    go_wp2
    go_ret
    refine ⟨_, _, _, rfl, ?_, by omega, HM1.out, ?_, HB1.out⟩
    · rw [HD.out, List.length_take, HQ.out]; omega
    · rw [HD.out, HQ.out]; exact HR1.out.take _ (by omega)
  · have HD := Lib.hid (splitD_all l (by rw [HL.out]; simpa using h0))
    have he : y.isEmpty = false := by cases y with | nil => exact absurd rfl h0 | cons _ _ => rfl
    clear h0
    go_wp2
    go_ret
    refine ⟨_, _, _, rfl, ?_, by omega, HM1.out, ?_, HB1.out⟩
    · rw [HD.out, HQ.out]
    · rw [HD.out]; exact HR1.out
end Go.Proofs.YtnbihjocdlpplaaGreatDoor
/- May a patch be, does it fit, what it makes, how many lines go and come: by the program. -/
namespace Go.Proofs.YtnbihjocdlpplaaGreatDoor
set_option linter.unusedVariables false
set_option linter.unusedSimpArgs false
open Go.RowKit
open Go.Lib
def Fit (X : List HkI) : Prop := X.length ≤ 16777216 ∧ linesK X ≤ 16777216 ∧ bytesK X ≤ 67108864
set_option maxHeartbeats 4000000 in
set_option maxRecDepth 100000 in
theorem wholeC (w : World) (a : Option Addr) (n c : Nat) (L : List (List UInt8)) (h : ReadsS w a n L) (hc : n ≤ c) (hcm : c ≤ maxLen) (hl : L.flatten.length ≤ 67108864) (hT : Tabs w) :
    Calls Tryz.prog 51 #[.slice a n c] w fun e w' => e = .returned (.bool (wholeB L)) ∧ Below w.heap.size w w' := by
  have HR := Lib.hid h
  have hlen := h.len
  have HN := Lib.hid hlen
  have HT := Lib.hid hT
  by_cases h5 : n ≤ 512
  · have h5' : (n : Int) ≤ 512 := by omega
    have HJ := Lib.hid (joinC w a n c L h hc (by omega) (by omega))
    have HS := Lib.hid (fun w1 => splitC w1 L.flatten hl)
    have HC := Lib.hid (⟨hc, hcm⟩ : n ≤ c ∧ c ≤ maxLen)
    have HW : Hid (wholeB L = (splitD L.flatten == L)) := Lib.hid (by unfold wholeB; rw [hlen, decide_eq_true h5]; rfl)
    clear h hT hlen hl
    go_enter Tryz.func51, Tryz.ntmps51
    go_wp2_with (first
      | (go_at_call 49; refine (HJ.out).mono ?_; rintro e w1 ⟨rfl, hb1⟩; have HB1 := Lib.hid hb1; have HT1 := Lib.hid (HT.out.next hb1); clear hb1)
      | (go_at_call 36; refine (HS.out w1 HT1.out).mono ?_; rintro e w2 ⟨a2, n2, c2, rfl, hn2, hc2, hm2, hR2, hb2⟩; have HB2 := Lib.hid hb2; have HR2 := Lib.hid hR2; have HN2 := Lib.hid hn2; have HM2 := Lib.hid hm2; clear hb2 hR2 hn2)
      | (go_at_call 78; refine (equalC w2 a2 a n2 n c2 c _ L HR2.out ((HR.out.keep HB1.out (Nat.le_refl _)).keep HB2.out (Nat.le_refl _)) (by have := HM2.out; unfold maxLen at this; omega) (by omega)).mono ?_; rintro e w3 ⟨rfl, q3, rfl⟩))
    go_ret
    refine ⟨by rw [HW.out]; rfl, ?_⟩
    exact below_drewN (HB1.out.trans (HB2.out.mono HB1.out.size)) q3
  · have h5' : ¬ (n : Int) ≤ 512 := by omega
    have HW : Hid (wholeB L = false) := Lib.hid (by unfold wholeB; rw [hlen, decide_eq_false h5]; rfl)
    clear h hT hlen hl
    go_enter Tryz.func51, Tryz.ntmps51
    go_wp2
    go_ret
    exact ⟨by rw [HW.out]; rfl, Below.refl _ _⟩
theorem splitD_len2 (l : List UInt8) : (splitD l).length ≤ l.length + 1 := by
  have h1 := (splitA_len l).2
  unfold splitD
  split
  · rw [List.length_dropLast]; omega
  · exact h1
theorem Tabs.to {w w' : World} (h : Tabs w) (b : Below w.heap.size w w') : Tabs w' := h.next b
theorem okB_drop {X : List HkI} {i : Nat} {x : HkI} {was : Int} (h : X[i]? = some x) : okB was (X.drop i) = (okAtB was x && okB x.1 (X.drop (i + 1))) := by
  obtain ⟨h1, h2⟩ := List.getElem?_eq_some_iff.1 h
  rw [List.drop_eq_getElem_cons h1, h2]
  rfl
set_option maxHeartbeats 8000000 in
set_option maxRecDepth 100000 in
theorem checkC (w : World) (a : Option Addr) (n c : Nat) (X : List HkI) (hX : ReadsK w a n X) (hF : Fit X) (hT : Tabs w) :
    Calls Tryz.prog 18 #[.slice a n c] w fun e w' => e = .returned (.int .i64 (errP (checkB X))) ∧ Below w.heap.size w w' := by
  have HX := Lib.hid hX
  have HN := Lib.hid hX.len
  have HF := Lib.hid hF
  have HT := Lib.hid hT
  have hn : n ≤ 16777216 := by rw [← hX.len]; exact hF.1
  clear hX hF hT
  go_enter Tryz.func18, Tryz.ntmps18
  go_wp2
  go_loopw [3, 8] (fun uw ui wr => ∃ (i : Nat) (was : Int), uw = .int .i64 was ∧ ui = .int .i64 (i : Int) ∧ i ≤ n ∧ Hid (okB 0 X = okB was (X.drop i) ∧ Below w.heap.size w wr)) (fun _ ui _ => n - (RowKit.intOf ui).toNat)
  case atStart => exact ⟨0, 0, rfl, rfl, Nat.zero_le _, Lib.hid ⟨rfl, Below.refl _ _⟩⟩
  case round =>
    obtain ⟨i, was, rfl, rfl, hi, HR⟩ := hrel
    have hwb := HR.out.2.size
    by_cases hlt : i < n
    · obtain ⟨b, off, x, ad, m, cm, rfl, hb, hx, hc0, hc1, hrs, hmc, hcm, hm⟩ := (HX.out.keep HR.out.2 (Nat.le_refl _)).at hlt
      have HO := Lib.hid (okB_drop (was := was) hx)
      have HA := Lib.hid (@okAtB_iff was x)
      obtain ⟨kd, hkd⟩ : ∃ kd, kd = x.1 := ⟨_, rfl⟩
      have hm0 : x.2 = [] ↔ m = 0 := by rw [← hm]; exact ⟨fun h => by rw [h]; rfl, List.eq_nil_of_length_eq_zero⟩
      have HM0 := Lib.hid hm0
      rw [← hkd] at hc0 HO HA
      have hit : (i : Int) < (n : Int) := by omega
      have hfalse : okAtB was x = false → errP (checkB X) = 310 := fun h => by
        unfold checkB
        rw [HR.out.1, HO.out, h]
        rfl
      have HFL := Lib.hid hfalse
      have hBA : Below w.heap.size w (wr.alloc (.cells #[.int .i64 kd, .slice ad m cm] 25)) := HR.out.2.alloc hwb _
      have HBA := Lib.hid hBA
      clear hx hrs hm hmc hcm hkd hm0 hfalse hBA
      by_cases h1 : kd < 1
      · have hR : Hid (errP (checkB X) = 310) := Lib.hid (HFL.out (by rw [Bool.eq_false_iff]; intro h; have := HA.out.1 h; omega))
        go_wp2
        go_ret
        exact ⟨by rw [hR.out]; rfl, HBA.out⟩
      have h1' : 1 ≤ kd := by omega
      by_cases h2 : 3 < kd
      · have hR : Hid (errP (checkB X) = 310) := Lib.hid (HFL.out (by rw [Bool.eq_false_iff]; intro h; have := HA.out.1 h; omega))
        go_wp2
        go_ret
        exact ⟨by rw [hR.out]; rfl, HBA.out⟩
      have h2' : kd ≤ 3 := by omega
      by_cases h3 : m = 0
      · have hR : Hid (errP (checkB X) = 310) := Lib.hid (HFL.out (by rw [Bool.eq_false_iff]; intro h; exact (HA.out.1 h).2.1 (HM0.out.2 h3)))
        subst h3
        go_wp2
        go_ret
        exact ⟨by rw [hR.out]; rfl, HBA.out⟩
      have h3' : ((m : Int) == 0) = false := by rw [beq_eq_false_iff_ne]; omega
      have h3'' : (m : Int) ≠ 0 := by omega
      by_cases h4 : kd = was
      · have hR : Hid (errP (checkB X) = 310) := Lib.hid (HFL.out (by rw [Bool.eq_false_iff]; intro h; exact (HA.out.1 h).2.2.1 h4))
        have h4' : (kd == was) = true := by rw [beq_iff_eq]; exact h4
        clear h4
        go_wp2
        go_ret
        exact ⟨by rw [hR.out]; rfl, HBA.out⟩
      have h4' : (kd == was) = false := by rw [beq_eq_false_iff_ne]; exact h4
      by_cases h5 : kd = 2 ∧ was = 3
      · have hR : Hid (errP (checkB X) = 310) := Lib.hid (HFL.out (by rw [Bool.eq_false_iff]; intro h; exact (HA.out.1 h).2.2.2 h5))
        obtain ⟨rfl, rfl⟩ := h5
        go_wp2
        go_ret
        exact ⟨by rw [hR.out]; rfl, HBA.out⟩
      have hok : okAtB was x = true := HA.out.2 ⟨⟨h1', h2'⟩, fun e => h3 (HM0.out.1 e), h4, h5⟩
      have HN2 : Hid (okB 0 X = okB kd (X.drop (i + 1))) := Lib.hid (by rw [HR.out.1, HO.out, hok]; rfl)
      have h6 : ((kd == 2) = true ∧ (was == 3) = false) ∨ (kd == 2) = false := by
        by_cases e : kd = 2
        · exact .inl ⟨by rw [e]; rfl, by rw [beq_eq_false_iff_ne]; exact fun e2 => h5 ⟨e, e2⟩⟩
        · exact .inr (by rw [beq_eq_false_iff_ne]; exact e)
      clear h4 h5 hok h1 h2 h3
      rcases h6 with ⟨q1, q2⟩ | q1
      all_goals
        go_wp2
        go_roundw
        case rel => exact ⟨i + 1, kd, rfl, by go_num, hlt, Lib.hid ⟨HN2.out, HBA.out⟩⟩
        case measure => simp [RowKit.intOf]; omega
    · obtain rfl : i = n := by omega
      have hd : X.drop i = [] := List.drop_of_length_le (by rw [HN.out]; exact Nat.le_refl _)
      have hck : checkB X = (wholeB (sideI 2 X) && wholeB (sideI 3 X)) := by
        unfold checkB
        rw [HR.out.1, hd]
        simp [okB]
      have HCK := Lib.hid hck
      have HXR : Hid (ReadsK wr a i X) := Lib.hid (HX.out.keep HR.out.2 (Nat.le_refl _))
      have HTR : Hid (Tabs wr) := Lib.hid (HT.out.next HR.out.2)
      clear hd hck
      by_cases g2 : wholeB (sideI 2 X) = true
      · by_cases g3 : wholeB (sideI 3 X) = true
        · rw [g2, g3] at HCK
          have HG2 := Lib.hid g2
          have HG3 := Lib.hid g3
          clear g2 g3
          go_wp2_with (first
            | (go_at_call_of 50 (Value.int .i64 2); refine (sideC wr a i c X 2 HXR.out (by omega) (by have := HF.out.2.1; omega)).mono ?_; rintro e w1 ⟨v1, rfl, hO1, hb1⟩; obtain ⟨a1, c1, rfl, hr1, hc1, hm1⟩ := readsS_own hO1; have HR1 := Lib.hid hr1; have HC1 := Lib.hid hc1; have HM1 := Lib.hid hm1; have HB1 := Lib.hid hb1; clear hO1 hb1 hr1 hc1 hm1; obtain ⟨n1, hn1⟩ : ∃ n1, n1 = (sideI 2 X).length := ⟨_, rfl⟩; rw [← hn1] at HR1 HC1 ⊢; clear hn1)
            | (go_at_call_of 51 (Value.slice a1 n1 c1); refine (wholeC w1 a1 n1 c1 _ HR1.out HC1.out HM1.out (Nat.le_trans (sideI_bytes _ _) HF.out.2.2) (HTR.out.next HB1.out)).mono ?_; rw [HG2.out]; rintro e w2 ⟨rfl, hb2⟩; have HB2 := Lib.hid (HB1.out.trans (hb2.mono HB1.out.size)); clear hb2)
            | (go_at_call_of 50 (Value.int .i64 3); refine (sideC w2 a i c X 3 (HXR.out.keep HB2.out (Nat.le_refl _)) (by omega) (by have := HF.out.2.1; omega)).mono ?_; rintro e w3 ⟨v3, rfl, hO3, hb3⟩; obtain ⟨a3, c3, rfl, hr3, hc3, hm3⟩ := readsS_own hO3; have HR3 := Lib.hid hr3; have HC3 := Lib.hid hc3; have HM3 := Lib.hid hm3; have HB3 := Lib.hid (HB2.out.trans (hb3.mono HB2.out.size)); clear hO3 hb3 hr3 hc3 hm3; obtain ⟨n3, hn3⟩ : ∃ n3, n3 = (sideI 3 X).length := ⟨_, rfl⟩; rw [← hn3] at HR3 HC3 ⊢; clear hn3)
            | (go_at_call 51; refine (wholeC w3 a3 n3 c3 _ HR3.out HC3.out HM3.out (Nat.le_trans (sideI_bytes _ _) HF.out.2.2) (HTR.out.next HB3.out)).mono ?_; rw [HG3.out]; rintro e w4 ⟨rfl, hb4⟩; have HB4 := Lib.hid (HB3.out.trans (hb4.mono HB3.out.size)); clear hb4))
          go_ret
          exact ⟨by rw [HCK.out]; rfl, HR.out.2.trans (HB4.out.mono hwb)⟩
        · rw [Bool.not_eq_true] at g3
          rw [g2, g3] at HCK
          have HG2 := Lib.hid g2
          have HG3 := Lib.hid g3
          clear g2 g3
          go_wp2_with (first
            | (go_at_call_of 50 (Value.int .i64 2); refine (sideC wr a i c X 2 HXR.out (by omega) (by have := HF.out.2.1; omega)).mono ?_; rintro e w1 ⟨v1, rfl, hO1, hb1⟩; obtain ⟨a1, c1, rfl, hr1, hc1, hm1⟩ := readsS_own hO1; have HR1 := Lib.hid hr1; have HC1 := Lib.hid hc1; have HM1 := Lib.hid hm1; have HB1 := Lib.hid hb1; clear hO1 hb1 hr1 hc1 hm1; obtain ⟨n1, hn1⟩ : ∃ n1, n1 = (sideI 2 X).length := ⟨_, rfl⟩; rw [← hn1] at HR1 HC1 ⊢; clear hn1)
            | (go_at_call_of 51 (Value.slice a1 n1 c1); refine (wholeC w1 a1 n1 c1 _ HR1.out HC1.out HM1.out (Nat.le_trans (sideI_bytes _ _) HF.out.2.2) (HTR.out.next HB1.out)).mono ?_; rw [HG2.out]; rintro e w2 ⟨rfl, hb2⟩; have HB2 := Lib.hid (HB1.out.trans (hb2.mono HB1.out.size)); clear hb2)
            | (go_at_call_of 50 (Value.int .i64 3); refine (sideC w2 a i c X 3 (HXR.out.keep HB2.out (Nat.le_refl _)) (by omega) (by have := HF.out.2.1; omega)).mono ?_; rintro e w3 ⟨v3, rfl, hO3, hb3⟩; obtain ⟨a3, c3, rfl, hr3, hc3, hm3⟩ := readsS_own hO3; have HR3 := Lib.hid hr3; have HC3 := Lib.hid hc3; have HM3 := Lib.hid hm3; have HB3 := Lib.hid (HB2.out.trans (hb3.mono HB2.out.size)); clear hO3 hb3 hr3 hc3 hm3; obtain ⟨n3, hn3⟩ : ∃ n3, n3 = (sideI 3 X).length := ⟨_, rfl⟩; rw [← hn3] at HR3 HC3 ⊢; clear hn3)
            | (go_at_call 51; refine (wholeC w3 a3 n3 c3 _ HR3.out HC3.out HM3.out (Nat.le_trans (sideI_bytes _ _) HF.out.2.2) (HTR.out.next HB3.out)).mono ?_; rw [HG3.out]; rintro e w4 ⟨rfl, hb4⟩; have HB4 := Lib.hid (HB3.out.trans (hb4.mono HB3.out.size)); clear hb4))
          go_ret
          exact ⟨by rw [HCK.out]; rfl, HR.out.2.trans (HB4.out.mono hwb)⟩
      · rw [Bool.not_eq_true] at g2
        rw [g2] at HCK
        have HG2 := Lib.hid g2
        clear g2
        go_wp2_with (first
          | (go_at_call_of 50 (Value.int .i64 2); refine (sideC wr a i c X 2 HXR.out (by omega) (by have := HF.out.2.1; omega)).mono ?_; rintro e w1 ⟨v1, rfl, hO1, hb1⟩; obtain ⟨a1, c1, rfl, hr1, hc1, hm1⟩ := readsS_own hO1; have HR1 := Lib.hid hr1; have HC1 := Lib.hid hc1; have HM1 := Lib.hid hm1; have HB1 := Lib.hid hb1; clear hO1 hb1 hr1 hc1 hm1; obtain ⟨n1, hn1⟩ : ∃ n1, n1 = (sideI 2 X).length := ⟨_, rfl⟩; rw [← hn1] at HR1 HC1 ⊢; clear hn1)
          | (go_at_call_of 51 (Value.slice a1 n1 c1); refine (wholeC w1 a1 n1 c1 _ HR1.out HC1.out HM1.out (Nat.le_trans (sideI_bytes _ _) HF.out.2.2) (HTR.out.next HB1.out)).mono ?_; rw [HG2.out]; rintro e w2 ⟨rfl, hb2⟩; have HB2 := Lib.hid (HB1.out.trans (hb2.mono HB1.out.size)); clear hb2))
        go_ret
        exact ⟨by rw [HCK.out]; rfl, HR.out.2.trans (HB2.out.mono hwb)⟩
end Go.Proofs.YtnbihjocdlpplaaGreatDoor
