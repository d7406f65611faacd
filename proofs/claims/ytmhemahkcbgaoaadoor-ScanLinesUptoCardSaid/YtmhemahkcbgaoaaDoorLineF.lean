/- rows: what a walk over a script's lines tells, so many at most. -/
import Derived.Test.YtmhemahkcbgaoaaDoorLineE
namespace Go.Proofs.YtmhemahkcbgaoaaDoor
set_option linter.unusedVariables false
set_option linter.unusedSimpArgs false
open Go.RowKit Go.Shelf
open Go.Lib hiding intOf
attribute [local go_sem] Oper.semAt_some
theorem own_abides2 {lo hi : Nat} {A A' : World} {row : Option Nat} {e : TypeId} {size : Nat} {v : Value} {n : Nat} {xs : List Value} (h : A.ownsRow hi e size v n xs) (hg : A.grownBy A' row) (ht : MayTurn lo hi A row) : A'.ownsRow hi e size v n xs := by
  refine h.kept hg ?_
  rcases h.2 with ⟨rfl, _⟩ | ⟨g, cap, cur, rfl, hb, hgr, _⟩
  · exact .inl rfl
  · refine .inr fun e' => ?_
    have e' : some g = row := e'
    obtain ⟨h1, h2 | ⟨o, ho, hc⟩⟩ := ht g e'.symm
    · omega
    · rw [hgr] at ho; cases ho; cases hc
theorem prefix_take7 {α : Type} {a b : List α} {n : Nat} (h : a <+: b) (hn : a.length = n) : b.take n = a := by
  obtain ⟨r, rfl⟩ := h
  rw [← hn]; exact List.take_left
theorem row_mid {s hi : Nat} {W w1 : World} {e : TypeId} {size : Nat} {v : Value} {k : Nat} {xs : List Value} {o : Obj} (hown : W.ownsRow hi e size v k xs) (hg : (W.alloc o).grownBy w1 v.ownBlock) (hhi : s + 3 ≤ hi) (hW : hi ≤ W.heap.size) {b : Nat} (hb : b < s + 3) : w1.heap[b]? = W.heap[b]? := by
  refine (hg.block b (by simp; omega) (fun e => ?_)).trans (Below.heap_alloc W o b (by omega))
  have := (hown.lt b e.symm).1
  omega
theorem row_step7 {s hi : Nat} {W w1 : World} {e : TypeId} {size : Nat} {v v' : Value} {k : Nat} {xs ys : List Value} {o : Obj} (hown : W.ownsRow hi e size v k xs) (hg : (W.alloc o).grownBy w1 v.ownBlock) (hown' : w1.ownsRow hi e size v' (k + 1) ys)
    (hhi : s + 3 ≤ hi) (hW : hi ≤ W.heap.size) :
    KeepsC (fun r => r < s ∨ r = s + 2) (s + 3) hi W (w1.setCell ⟨s + 1, 0, none⟩ v') ∧ (w1.setCell ⟨s + 1, 0, none⟩ v').ownsRow hi e size v' (k + 1) ys ∧ (∀ w, Below s w W → Below s w (w1.setCell ⟨s + 1, 0, none⟩ v')) := by
  have hK : ∀ r, (r < s ∨ r = s + 2) → r < s + 3 ∧ r ≠ s + 1 := fun r h => by omega
  have g1 : KeepsC (fun r => r < s ∨ r = s + 2) (s + 3) hi W (W.alloc o) := KeepsC.grown (World.grownBy_alloc W o none) (fun r hr => by have := hK r hr; omega) hW (fun r e => by cases e)
  have g2 : KeepsC (fun r => r < s ∨ r = s + 2) (s + 3) hi (W.alloc o) w1 := by
    refine KeepsC.grown hg (fun r hr => by have := hK r hr; simp; omega) (by simp; omega) (fun r e => ?_)
    have hl := hown.lt r e
    refine ⟨fun h => by have := hK r h; omega, .inr ⟨hl.1, fun o' ho => ?_⟩⟩
    rw [Below.heap_alloc W o r hl.2] at ho
    rcases hown.2 with ⟨rfl, _⟩ | ⟨g, cap, cur, rfl, _, hgr, _⟩
    · cases e
    · cases e; rw [hgr] at ho; cases ho; rfl
  have z1 := g1.size
  have z2 := g2.size
  have g3 : KeepsC (fun r => r < s ∨ r = s + 2) (s + 3) hi w1 (w1.setCell ⟨s + 1, 0, none⟩ v') := KeepsC.grown (grownBy_setCell' w1 (s + 1) v') (fun r hr => by have := hK r hr; omega) (by omega) (fun r e => by cases e; exact ⟨fun h => by have := hK _ h; omega, .inl (by omega)⟩)
  refine ⟨(g1.trans g2).trans g3, ownsRow_setCell_below hown' (by simp; omega) v', fun w hb => ?_⟩
  exact ((hb.alloc (by omega) o).grown hg (by simp; omega) (fun r e => by have := (hown.lt r e).1; omega)).setCell (by simp) _
theorem seq_nil7 (gf : Nat) (lb : Array Value) (w : World) : (binOp .eql 90 (.func (.func gf) #[] lb) .nilFunc).run Tryd.prog w = .ok (.bool false) w := by kernel_rfl
theorem new_cells (w : World) (cs : List Value) (t : TypeId) : ∀ j u, cs[j]? = some u → (w.alloc (.cells cs.toArray t)).cell? ((⟨w.heap.size, 0, none⟩ : Addr).add j) = some u := by
  intro j u hj
  have hr : Row (w.alloc (.cells cs.toArray t)) w.heap.size t cs := alloc_last _ _
  have := Row.cell hr j
  rw [hj] at this
  rw [cell_add, Nat.zero_add]
  exact this
set_option maxHeartbeats 4000000 in
set_option maxRecDepth 100000 in
theorem rowsC (w : World) (l : List UInt8) (hl : l.length ≤ 1048700) (hT : Tabs w) (most : Nat) (h1 : 1 ≤ most) (h2 : most ≤ 2000000) :
    Calls Tryd.prog 25 #[.string (bstr l), .int .i64 most] w fun e w' => ∃ v, e = .returned v ∧ OwnRw w.heap.size v ((rowsL l).take most) w' ∧ Below w.heap.size w w' := by
  obtain ⟨i0, hi_, hz0, hz1, hz2⟩ := info_parts infoRow
  have hB7 := hT.size
  have HT := Lib.hid hT
  have hgf := enters_of Tryd.func64 (by kernel_rfl) rfl
  have HE := Lib.hid hgf
  clear hT hgf
  refine (callsIn_wide (n := 20)).1 ?_
  refine callsIn_of_wp_marks Tryd.func25 rfl trivial ?_ rfl
  simp only [Tryd.ntmps25, List.size_toArray, List.length_cons, List.length_nil, Nat.reduceAdd, Nat.reduceSub, Array.replicate_succ, Array.replicate_zero, List.push_toArray, List.append_toArray, List.nil_append, List.cons_append]
  have hnil := fun lb w => seq_nil7 64 lb w
  gi_wp2_with (refine ⟨trivial, ?_⟩; gi_at_call 50; refine (callsIn_wide.2 (linesC7 _ _)).mono ?_; rintro e w' ⟨rfl, hw'⟩)
  clear hnil
  obtain ⟨s, hs⟩ : ∃ s, s = w.heap.size := ⟨_, rfl⟩
  obtain ⟨wk, hwk⟩ : ∃ wk, wk = (w.alloc (.cells #[.int .i64 most] 3)).alloc (.cells #[.slice none 0 0] 47) := ⟨_, rfl⟩
  rw [← hwk] at hw'
  have zk : wk.heap.size = s + 2 := by rw [hwk, hs]; simp
  have bk : Below w.heap.size w wk := by rw [hwk]; exact ((Below.refl _ w).alloc (Nat.le_refl _) _).alloc (by simp) _
  have x1 : Boxed wk s 3 (.int .i64 most) := by rw [hwk, hs]; exact (Boxed.new w _ _).alloc _
  have x2 : Boxed wk (s + 1) 47 (.slice none 0 0) := by
    rw [hwk, hs]
    have := Boxed.new (w.alloc (.cells #[.int .i64 most] 3)) 47 (.slice none 0 0)
    rwa [World.size_alloc] at this
  have x3 := Boxed.new wk 9 (.string (bstr l))
  rw [zk] at x3
  obtain ⟨wl, hwl⟩ : ∃ wl, wl = wk.alloc (.cells #[.string (bstr l)] 9) := ⟨_, rfl⟩
  have zl : wl.heap.size = s + 3 := by rw [hwl]; simp [zk]
  have bl : Below w.heap.size w wl := by rw [hwl]; exact bk.alloc (by rw [zk, ← hs]; omega) _
  have y1 : Boxed wl s 3 (.int .i64 most) := by rw [hwl]; exact x1.alloc _
  have y2 : Boxed wl (s + 1) 47 (.slice none 0 0) := by rw [hwl]; exact x2.alloc _
  have y3 : Boxed wl (s + 2) 9 (.string (bstr l)) := by rw [hwl]; exact x3
  rw [← hwl] at hw'
  subst hw'
  have HTL : Hid (Tabs wl) := Lib.hid (HT.out.next bl)
  rw [← hs] at bl hB7 ⊢
  have HSS := Lib.hid hs
  clear hs hwl hwk zk bk x1 x2 x3
  have hseq := fun m hm => rows1 m hm s (s + 2) wl l y3 hl HTL.out hB7 (by omega)
  have HSQ := Lib.hid hseq
  clear hseq
  refine wpIn_rangeFunc_C rfl (by decide) (gf := 64) (lb := #[.pointer (some ⟨s + 2, 0, none⟩)]) rfl trivial HE.out (HSQ.out 19 (by decide)) (fun r hr => ⟨by have hr : r < s ∨ r = s + 2 := hr; omega, rfl⟩) (Nat.le_refl _) (fun _ => rfl)
    (fun hi pre W => pre.length < most ∧ Boxed W s 3 (.int .i64 most) ∧ Below s w W ∧ ∃ v, Boxed W (s + 1) 47 v ∧ W.ownsRow hi 51 2 v pre.length (pre.flatMap rowCells))
    (fun c hi pre W => c = .exit 0 ∧ pre.length = most ∧ Below s w W ∧ ∃ v, Boxed W (s + 1) 47 v ∧ W.ownsRow hi 51 2 v pre.length (pre.flatMap rowCells)) ?hI ?hIx ?h0
    (fun x => { tmps := #[.string (bstr l), .int .i64 most, undef, .pointer (some ⟨s, 0, none⟩), .slice none 0 0, .pointer (some ⟨s + 1, 0, none⟩), .func (.func 64) #[] #[.pointer (some ⟨s + 2, 0, none⟩)], .int .i64 (x.1 : Int), .string (bstr x.2), .string (bstr l), .func (.func 64) #[] #[.pointer (some ⟨s + 2, 0, none⟩)], .func (.func 64) #[] #[.pointer (some ⟨s + 2, 0, none⟩)], .bool false, undef, .func (.func 64) #[] #[.pointer (some ⟨s + 2, 0, none⟩)], .int .i64 (x.1 : Int), .string (bstr x.2), undef, undef, undef, undef, undef, undef, undef, undef, undef, undef, undef], defers := [] }) ?assign ?body ?done ?stop
  case assign =>
    intro l' x Wx K hK
    obtain ⟨xn, xs⟩ := x
    unfold rowV7
    gi_wp2
    exact hK
  case hI =>
    rintro hi pre A A' row ⟨h1, h2, h3, v, h4, h5⟩ hg ht
    have ne : ∀ k, k < s + 3 → some k ≠ row := fun k hk e => by have := (ht k e.symm).1; omega
    exact ⟨h1, h2.kept hg (ne _ (by omega)), h3.grown hg (by have := h2.lt; omega) (fun r e => by have := (ht r e).1; omega), v, h4.kept hg (ne _ (by omega)), own_abides2 h5 hg (fun r e => ⟨(ht r e).1, (ht r e).2⟩)⟩
  case hIx =>
    rintro c hi pre A A' row ⟨h1, h2, h3, v, h4, h5⟩ hg ht
    have ne : ∀ k, k < s + 3 → some k ≠ row := fun k hk e => by have := (ht k e.symm).1; omega
    exact ⟨h1, h2, h3.grown hg (by have := h4.lt; omega) (fun r e => by have := (ht r e).1; omega), v, h4.kept hg (ne _ (by omega)), own_abides2 h5 hg (fun r e => ⟨(ht r e).1, (ht r e).2⟩)⟩
  case h0 =>
    intro hi hh
    exact ⟨h1, y1, bl, _, y2, World.ownsRow_nil _ _ _ _⟩
  case done =>
    rintro D hi xs Wx hD hDh rfl ⟨q1, q2, q3, v, q4, q5⟩ hd
    have c4 := q4.cell
    obtain ⟨a2, c2, rfl⟩ := slice_own q5
    gi_wp2
    refine ⟨by simp, .inl ⟨_, _, rfl, run_takeDeferred hd, ?_⟩⟩
    have hlt := (Array.getElem?_eq_some_iff.1 hd).1
    refine ⟨_, results_tmp rfl _ _ _, _, rfl, ?_, ?_⟩
    · unfold OwnRw
      rw [List.take_of_length_le (by omega), ← HSS.out]
      exact own_mono (b := hi) (ownsRow_putObj q5 _ hd rfl) (by omega)
    · rw [← HSS.out]
      exact q3.grown (grownBy_putObj' Wx D _) (by omega) (fun r e => by cases e; omega)
  case stop =>
    rintro D hi c pre Wx hD hDh hpre ⟨rfl, q1, q3, v, q4, q5⟩ hd
    have c4 := q4.cell
    have HQ := Lib.hid q1
    clear q1
    obtain ⟨a2, c2, rfl⟩ := slice_own q5
    gi_wp2
    refine ⟨by simp, .inl ⟨_, _, rfl, run_takeDeferred hd, ?_⟩⟩
    have hlt := (Array.getElem?_eq_some_iff.1 hd).1
    refine ⟨_, results_tmp rfl _ _ _, _, rfl, ?_, ?_⟩
    · unfold OwnRw
      rw [prefix_take7 hpre HQ.out, ← HSS.out]
      exact own_mono (b := hi) (ownsRow_putObj q5 _ hd rfl) (by omega)
    · rw [← HSS.out]
      exact q3.grown (grownBy_putObj' Wx D _) (by omega) (fun r e => by cases e; omega)
  case body =>
    rintro l' hi pre x Wx hhi1 hhi2 hpx ⟨q1, q2, q3, v, q4, q5⟩
    have c2 := q2.cell
    have c4 := q4.cell
    have f4 := q4.frozen
    rw [zl] at hhi1
    obtain ⟨xn, xt⟩ := x
    obtain ⟨kl, hkl⟩ : ∃ kl, kl = pre.length := ⟨_, rfl⟩
    rw [← hkl] at q1 q5
    have hlen : (pre ++ [(xn, xt)]).length = kl + 1 := by simp [hkl]
    have HLN := Lib.hid hlen
    have HX : Hid (pre.flatMap rowCells ++ [Value.int .i64 (xn : Int), .string (bstr xt)] = (pre ++ [(xn, xt)]).flatMap rowCells) := Lib.hid (by simp [rowCells])
    clear hkl hlen hpx
    have key : ∀ v' w1, w1.ownsRow hi 51 2 v' (kl + 1) (pre.flatMap rowCells ++ [Value.int .i64 (xn : Int), .string (bstr xt)]) → (Wx.alloc (.cells #[.int .i64 (xn : Int), .string (bstr xt)] 51)).grownBy w1 v.ownBlock →
        w1.cell? ⟨s, 0, none⟩ = some (.int .i64 most) ∧ w1.cell? ⟨s + 1, 0, none⟩ = some v ∧ w1.frozen? ⟨s + 1, 0, none⟩ = false ∧
        Hid (KeepsC (fun r => r < s ∨ r = s + 2) wl.heap.size hi Wx (w1.setCell ⟨s + 1, 0, none⟩ v') ∧ Boxed (w1.setCell ⟨s + 1, 0, none⟩ v') s 3 (.int .i64 most) ∧ Boxed (w1.setCell ⟨s + 1, 0, none⟩ v') (s + 1) 47 v' ∧ (w1.setCell ⟨s + 1, 0, none⟩ v').ownsRow hi 51 2 v' (kl + 1) ((pre ++ [(xn, xt)]).flatMap rowCells) ∧ Below s w (w1.setCell ⟨s + 1, 0, none⟩ v')) := by
      intro v' w1 ho hg
      have b1 : Boxed w1 s 3 (.int .i64 most) := (row_mid (s := s) (b := s) q5 hg (by omega) hhi2 (by omega)).trans q2
      have b2 : Boxed w1 (s + 1) 47 v := (row_mid (s := s) (b := s + 1) q5 hg (by omega) hhi2 (by omega)).trans q4
      rw [HX.out] at ho
      obtain ⟨k1, k2, k3⟩ := row_step7 (s := s) q5 hg ho (by omega) hhi2
      exact ⟨b1.cell, b2.cell, b2.frozen, Lib.hid ⟨by rw [zl]; exact k1, b1.other (by omega) _, b2.set _, k2, k3 w q3⟩⟩
    have HKEY := Lib.hid key
    clear key
    have hsz : hi ≤ Wx.heap.size := hhi2
    gi_wp2_with (gi_at_builtin; refine wpListIn_append_own _ rfl _ _ 47 rfl hi 51 i0 (.agg #[.int .i64 0, .string ByteArray.empty]) 2 24 Tryd.underlying47 hi_ hz0 hz1 hz2 rfl (by decide) _ _ _ rfl (q5.alloc _) ⟨Wx.heap.size, 0, none⟩ 1 1 [.int .i64 (xn : Int), .string (bstr xt)] rfl rfl (new_cells _ _ _) (by simp [Value.oneCell']) (by unfold maxLen; omega) (by omega) (by simp; omega) ?_; intro v' w1 hown' hgrow _; obtain ⟨g', cap', hv'⟩ := ownsRow_succ hown'; obtain ⟨d1, d2, d3, d4⟩ := HKEY.out v' w1 hown' hgrow; subst hv'; clear hown' hgrow)
    · have hge : (most : Int) ≤ (kl : Int) + 1 := by assumption
      have D4 := (by assumption : Hid (KeepsC (fun r => r < s ∨ r = s + 2) wl.heap.size hi Wx _ ∧ _)).out
      have hl := HLN.out
      exact ⟨by have := D4.1; rw [zl] at this; exact this, rfl, by omega, D4.2.2.2.2, _, D4.2.2.1, by rw [hl]; exact D4.2.2.2.1⟩
    · have hlt2 : (kl : Int) + 1 < (most : Int) := by assumption
      have D4 := (by assumption : Hid (KeepsC (fun r => r < s ∨ r = s + 2) wl.heap.size hi Wx _ ∧ _)).out
      have hl := HLN.out
      exact ⟨by have := D4.1; rw [zl] at this; exact this, by omega, D4.2.1, D4.2.2.2.2, _, D4.2.2.1, by rw [hl]; exact D4.2.2.2.1⟩
end Go.Proofs.YtmhemahkcbgaoaaDoor
