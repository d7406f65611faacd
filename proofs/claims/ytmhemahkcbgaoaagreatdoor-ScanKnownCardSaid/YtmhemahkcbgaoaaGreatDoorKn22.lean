/- Texts joined, one behind the other (LineF, LScanLines, MayR). -/
import Derived.Test.YtmhemahkcbgaoaaGreatDoorKn21
/- rows: what a walk over a script's lines tells, so many at most. -/
namespace Go.Proofs.YtmhemahkcbgaoaaGreatDoor
set_option linter.unusedVariables false
set_option linter.unusedSimpArgs false
open Go.RowKit Go.Shelf
open Go.Lib hiding intOf
attribute [local go_sem] Oper.semAt_some
theorem own_abides2 {lo hi : Nat} {A A' : World} {row : Option Nat} {e : TypeId} {size : Nat} {v : Value} {n : Nat} {xs : List Value} (h : A.ownsRow hi e size v n xs) (hg : A.grownBy A' row) (ht : MayTurn lo hi A row) : A'.ownsRow hi e size v n xs := by
  refine h.kept hg ?_
  rcases h.2 with ⟨rfl, _⟩ | ⟨g, cap, cur, rfl, hb, hgr, _⟩
  · exact .inl rfl
  · refine .inr fun e' => ?_
    have e' : some g = row := e'
    obtain ⟨h1, h2 | ⟨o, ho, hc⟩⟩ := ht g e'.symm
    · omega
    · rw [hgr] at ho; cases ho; cases hc
theorem prefix_take7 {α : Type} {a b : List α} {n : Nat} (h : a <+: b) (hn : a.length = n) : b.take n = a := by
  obtain ⟨r, rfl⟩ := h
  rw [← hn]; exact List.take_left
theorem row_mid {s hi : Nat} {W w1 : World} {e : TypeId} {size : Nat} {v : Value} {k : Nat} {xs : List Value} {o : Obj} (hown : W.ownsRow hi e size v k xs) (hg : (W.alloc o).grownBy w1 v.ownBlock) (hhi : s + 3 ≤ hi) (hW : hi ≤ W.heap.size) {b : Nat} (hb : b < s + 3) : w1.heap[b]? = W.heap[b]? := by
  refine (hg.block b (by simp; omega) (fun e => ?_)).trans (Below.heap_alloc W o b (by omega))
  have := (hown.lt b e.symm).1
  omega
theorem row_step7 {s hi : Nat} {W w1 : World} {e : TypeId} {size : Nat} {v v' : Value} {k : Nat} {xs ys : List Value} {o : Obj} (hown : W.ownsRow hi e size v k xs) (hg : (W.alloc o).grownBy w1 v.ownBlock) (hown' : w1.ownsRow hi e size v' (k + 1) ys)
    (hhi : s + 3 ≤ hi) (hW : hi ≤ W.heap.size) :
    KeepsC (fun r => r < s ∨ r = s + 2) (s + 3) hi W (w1.setCell ⟨s + 1, 0, none⟩ v') ∧ (w1.setCell ⟨s + 1, 0, none⟩ v').ownsRow hi e size v' (k + 1) ys ∧ (∀ w, Below s w W → Below s w (w1.setCell ⟨s + 1, 0, none⟩ v')) := by
  have hK : ∀ r, (r < s ∨ r = s + 2) → r < s + 3 ∧ r ≠ s + 1 := fun r h => by omega
  have g1 : KeepsC (fun r => r < s ∨ r = s + 2) (s + 3) hi W (W.alloc o) := KeepsC.grown (World.grownBy_alloc W o none) (fun r hr => by have := hK r hr; omega) hW (fun r e => by cases e)
  have g2 : KeepsC (fun r => r < s ∨ r = s + 2) (s + 3) hi (W.alloc o) w1 := by
    refine KeepsC.grown hg (fun r hr => by have := hK r hr; simp; omega) (by simp; omega) (fun r e => ?_)
    have hl := hown.lt r e
    refine ⟨fun h => by have := hK r h; omega, .inr ⟨hl.1, fun o' ho => ?_⟩⟩
    rw [Below.heap_alloc W o r hl.2] at ho
    rcases hown.2 with ⟨rfl, _⟩ | ⟨g, cap, cur, rfl, _, hgr, _⟩
    · cases e
    · cases e; rw [hgr] at ho; cases ho; rfl
  have z1 := g1.size
  have z2 := g2.size
  have g3 : KeepsC (fun r => r < s ∨ r = s + 2) (s + 3) hi w1 (w1.setCell ⟨s + 1, 0, none⟩ v') := KeepsC.grown (grownBy_setCell' w1 (s + 1) v') (fun r hr => by have := hK r hr; omega) (by omega) (fun r e => by cases e; exact ⟨fun h => by have := hK _ h; omega, .inl (by omega)⟩)
  refine ⟨(g1.trans g2).trans g3, ownsRow_setCell_below hown' (by simp; omega) v', fun w hb => ?_⟩
  exact ((hb.alloc (by omega) o).grown hg (by simp; omega) (fun r e => by have := (hown.lt r e).1; omega)).setCell (by simp) _
theorem seq_nil7 (gf : Nat) (lb : Array Value) (w : World) : (binOp .eql 87 (.func (.func gf) #[] lb) .nilFunc).run Tryz.prog w = .ok (.bool false) w := by kernel_rfl
theorem new_cells (w : World) (cs : List Value) (t : TypeId) : ∀ j u, cs[j]? = some u → (w.alloc (.cells cs.toArray t)).cell? ((⟨w.heap.size, 0, none⟩ : Addr).add j) = some u := by
  intro j u hj
  have hr : Row (w.alloc (.cells cs.toArray t)) w.heap.size t cs := alloc_last _ _
  have := Row.cell hr j
  rw [hj] at this
  rw [cell_add, Nat.zero_add]
  exact this
set_option maxHeartbeats 4000000 in
set_option maxRecDepth 100000 in
theorem rowsC (w : World) (l : List UInt8) (hl : l.length ≤ 1048700) (hT : Tabs w) (most : Nat) (h1 : 1 ≤ most) (h2 : most ≤ 2000000) :
    Calls Tryz.prog 22 #[.string (bstr l), .int .i64 most] w fun e w' => ∃ v, e = .returned v ∧ OwnRw w.heap.size v ((rowsL l).take most) w' ∧ Below w.heap.size w w' := by
  obtain ⟨i0, hi_, hz0, hz1, hz2⟩ := info_parts infoRow
  have hB7 := hT.size
  have HT := Lib.hid hT
  have hgf := enters_of Tryz.func63 (by kernel_rfl) rfl
  have HE := Lib.hid hgf
  clear hT hgf
  refine (callsIn_wide (n := 20)).1 ?_
  refine callsIn_of_wp_marks Tryz.func22 rfl trivial ?_ rfl
  simp only [Tryz.ntmps22, List.size_toArray, List.length_cons, List.length_nil, Nat.reduceAdd, Nat.reduceSub, Array.replicate_succ, Array.replicate_zero, List.push_toArray, List.append_toArray, List.nil_append, List.cons_append]
  have hnil := fun lb w => seq_nil7 63 lb w
  gi_wp2_with (refine ⟨trivial, ?_⟩; gi_at_call 48; refine (callsIn_wide.2 (linesC7 _ _)).mono ?_; rintro e w' ⟨rfl, hw'⟩)
  clear hnil
  obtain ⟨s, hs⟩ : ∃ s, s = w.heap.size := ⟨_, rfl⟩
  obtain ⟨wk, hwk⟩ : ∃ wk, wk = (w.alloc (.cells #[.int .i64 most] 3)).alloc (.cells #[.slice none 0 0] 47) := ⟨_, rfl⟩
  rw [← hwk] at hw'
  have zk : wk.heap.size = s + 2 := by rw [hwk, hs]; simp
  have bk : Below w.heap.size w wk := by rw [hwk]; exact ((Below.refl _ w).alloc (Nat.le_refl _) _).alloc (by simp) _
  have x1 : Boxed wk s 3 (.int .i64 most) := by rw [hwk, hs]; exact (Boxed.new w _ _).alloc _
  have x2 : Boxed wk (s + 1) 47 (.slice none 0 0) := by
    rw [hwk, hs]
    have := Boxed.new (w.alloc (.cells #[.int .i64 most] 3)) 47 (.slice none 0 0)
    rwa [World.size_alloc] at this
  have x3 := Boxed.new wk 9 (.string (bstr l))
  rw [zk] at x3
  obtain ⟨wl, hwl⟩ : ∃ wl, wl = wk.alloc (.cells #[.string (bstr l)] 9) := ⟨_, rfl⟩
  have zl : wl.heap.size = s + 3 := by rw [hwl]; simp [zk]
  have bl : Below w.heap.size w wl := by rw [hwl]; exact bk.alloc (by rw [zk, ← hs]; omega) _
  have y1 : Boxed wl s 3 (.int .i64 most) := by rw [hwl]; exact x1.alloc _
  have y2 : Boxed wl (s + 1) 47 (.slice none 0 0) := by rw [hwl]; exact x2.alloc _
  have y3 : Boxed wl (s + 2) 9 (.string (bstr l)) := by rw [hwl]; exact x3
  rw [← hwl] at hw'
  subst hw'
  have HTL : Hid (Tabs wl) := Lib.hid (HT.out.next bl)
  rw [← hs] at bl hB7 ⊢
  have HSS := Lib.hid hs
  clear hs hwl hwk zk bk x1 x2 x3
  have hseq := fun m hm => rows1 m hm s (s + 2) wl l y3 hl HTL.out hB7 (by omega)
  have HSQ := Lib.hid hseq
  clear hseq
  refine wpIn_rangeFunc_C rfl (by decide) (gf := 63) (lb := #[.pointer (some ⟨s + 2, 0, none⟩)]) rfl trivial HE.out (HSQ.out 19 (by decide)) (fun r hr => ⟨by have hr : r < s ∨ r = s + 2 := hr; omega, rfl⟩) (Nat.le_refl _) (fun _ => rfl)
    (fun hi pre W => pre.length < most ∧ Boxed W s 3 (.int .i64 most) ∧ Below s w W ∧ ∃ v, Boxed W (s + 1) 47 v ∧ W.ownsRow hi 51 2 v pre.length (pre.flatMap rowCells))
    (fun c hi pre W => c = .exit 0 ∧ pre.length = most ∧ Below s w W ∧ ∃ v, Boxed W (s + 1) 47 v ∧ W.ownsRow hi 51 2 v pre.length (pre.flatMap rowCells)) ?hI ?hIx ?h0
    (fun x => { tmps := #[.string (bstr l), .int .i64 most, undef, .pointer (some ⟨s, 0, none⟩), .slice none 0 0, .pointer (some ⟨s + 1, 0, none⟩), .func (.func 63) #[] #[.pointer (some ⟨s + 2, 0, none⟩)], .int .i64 (x.1 : Int), .string (bstr x.2), .string (bstr l), .func (.func 63) #[] #[.pointer (some ⟨s + 2, 0, none⟩)], .func (.func 63) #[] #[.pointer (some ⟨s + 2, 0, none⟩)], .bool false, undef, .func (.func 63) #[] #[.pointer (some ⟨s + 2, 0, none⟩)], .int .i64 (x.1 : Int), .string (bstr x.2), undef, undef, undef, undef, undef, undef, undef, undef, undef, undef, undef], defers := [] }) ?assign ?body ?done ?stop
  case assign =>
    intro l' x Wx K hK
    obtain ⟨xn, xs⟩ := x
    unfold rowV7
    gi_wp2
    exact hK
  case hI =>
    rintro hi pre A A' row ⟨h1, h2, h3, v, h4, h5⟩ hg ht
    have ne : ∀ k, k < s + 3 → some k ≠ row := fun k hk e => by have := (ht k e.symm).1; omega
    exact ⟨h1, h2.kept hg (ne _ (by omega)), h3.grown hg (by have := h2.lt; omega) (fun r e => by have := (ht r e).1; omega), v, h4.kept hg (ne _ (by omega)), own_abides2 h5 hg (fun r e => ⟨(ht r e).1, (ht r e).2⟩)⟩
  case hIx =>
    rintro c hi pre A A' row ⟨h1, h2, h3, v, h4, h5⟩ hg ht
    have ne : ∀ k, k < s + 3 → some k ≠ row := fun k hk e => by have := (ht k e.symm).1; omega
    exact ⟨h1, h2, h3.grown hg (by have := h4.lt; omega) (fun r e => by have := (ht r e).1; omega), v, h4.kept hg (ne _ (by omega)), own_abides2 h5 hg (fun r e => ⟨(ht r e).1, (ht r e).2⟩)⟩
  case h0 =>
    intro hi hh
    exact ⟨h1, y1, bl, _, y2, World.ownsRow_nil _ _ _ _⟩
  case done =>
    rintro D hi xs Wx hD hDh rfl ⟨q1, q2, q3, v, q4, q5⟩ hd
    have c4 := q4.cell
    obtain ⟨a2, c2, rfl⟩ := slice_own q5
    gi_wp2
    refine ⟨by simp, .inl ⟨_, _, rfl, run_takeDeferred hd, ?_⟩⟩
    have hlt := (Array.getElem?_eq_some_iff.1 hd).1
    refine ⟨_, results_tmp rfl _ _ _, _, rfl, ?_, ?_⟩
    · unfold OwnRw
      rw [List.take_of_length_le (by omega), ← HSS.out]
      exact own_mono (b := hi) (ownsRow_putObj q5 _ hd rfl) (by omega)
    · rw [← HSS.out]
      exact q3.grown (grownBy_putObj' Wx D _) (by omega) (fun r e => by cases e; omega)
  case stop =>
    rintro D hi c pre Wx hD hDh hpre ⟨rfl, q1, q3, v, q4, q5⟩ hd
    have c4 := q4.cell
    have HQ := Lib.hid q1
    clear q1
    obtain ⟨a2, c2, rfl⟩ := slice_own q5
    gi_wp2
    refine ⟨by simp, .inl ⟨_, _, rfl, run_takeDeferred hd, ?_⟩⟩
    have hlt := (Array.getElem?_eq_some_iff.1 hd).1
    refine ⟨_, results_tmp rfl _ _ _, _, rfl, ?_, ?_⟩
    · unfold OwnRw
      rw [prefix_take7 hpre HQ.out, ← HSS.out]
      exact own_mono (b := hi) (ownsRow_putObj q5 _ hd rfl) (by omega)
    · rw [← HSS.out]
      exact q3.grown (grownBy_putObj' Wx D _) (by omega) (fun r e => by cases e; omega)
  case body =>
    rintro l' hi pre x Wx hhi1 hhi2 hpx ⟨q1, q2, q3, v, q4, q5⟩
    have c2 := q2.cell
    have c4 := q4.cell
    have f4 := q4.frozen
    rw [zl] at hhi1
    obtain ⟨xn, xt⟩ := x
    obtain ⟨kl, hkl⟩ : ∃ kl, kl = pre.length := ⟨_, rfl⟩
    rw [← hkl] at q1 q5
    have hlen : (pre ++ [(xn, xt)]).length = kl + 1 := by simp [hkl]
    have HLN := Lib.hid hlen
    have HX : Hid (pre.flatMap rowCells ++ [Value.int .i64 (xn : Int), .string (bstr xt)] = (pre ++ [(xn, xt)]).flatMap rowCells) := Lib.hid (by simp [rowCells])
    clear hkl hlen hpx
    have key : ∀ v' w1, w1.ownsRow hi 51 2 v' (kl + 1) (pre.flatMap rowCells ++ [Value.int .i64 (xn : Int), .string (bstr xt)]) → (Wx.alloc (.cells #[.int .i64 (xn : Int), .string (bstr xt)] 51)).grownBy w1 v.ownBlock →
        w1.cell? ⟨s, 0, none⟩ = some (.int .i64 most) ∧ w1.cell? ⟨s + 1, 0, none⟩ = some v ∧ w1.frozen? ⟨s + 1, 0, none⟩ = false ∧
        Hid (KeepsC (fun r => r < s ∨ r = s + 2) wl.heap.size hi Wx (w1.setCell ⟨s + 1, 0, none⟩ v') ∧ Boxed (w1.setCell ⟨s + 1, 0, none⟩ v') s 3 (.int .i64 most) ∧ Boxed (w1.setCell ⟨s + 1, 0, none⟩ v') (s + 1) 47 v' ∧ (w1.setCell ⟨s + 1, 0, none⟩ v').ownsRow hi 51 2 v' (kl + 1) ((pre ++ [(xn, xt)]).flatMap rowCells) ∧ Below s w (w1.setCell ⟨s + 1, 0, none⟩ v')) := by
      intro v' w1 ho hg
      have b1 : Boxed w1 s 3 (.int .i64 most) := (row_mid (s := s) (b := s) q5 hg (by omega) hhi2 (by omega)).trans q2
      have b2 : Boxed w1 (s + 1) 47 v := (row_mid (s := s) (b := s + 1) q5 hg (by omega) hhi2 (by omega)).trans q4
      rw [HX.out] at ho
      obtain ⟨k1, k2, k3⟩ := row_step7 (s := s) q5 hg ho (by omega) hhi2
      exact ⟨b1.cell, b2.cell, b2.frozen, Lib.hid ⟨by rw [zl]; exact k1, b1.other (by omega) _, b2.set _, k2, k3 w q3⟩⟩
    have HKEY := Lib.hid key
    clear key
    have hsz : hi ≤ Wx.heap.size := hhi2
    gi_wp2_with (gi_at_builtin; refine wpListIn_append_own _ rfl _ _ 47 rfl hi 51 i0 (.agg #[.int .i64 0, .string ByteArray.empty]) 2 24 Tryz.underlying47 hi_ hz0 hz1 hz2 rfl (by decide) _ _ _ rfl (q5.alloc _) ⟨Wx.heap.size, 0, none⟩ 1 1 [.int .i64 (xn : Int), .string (bstr xt)] rfl rfl (new_cells _ _ _) (by simp [Value.oneCell']) (by unfold maxLen; omega) (by omega) (by simp; omega) ?_; intro v' w1 hown' hgrow _; obtain ⟨g', cap', hv'⟩ := ownsRow_succ hown'; obtain ⟨d1, d2, d3, d4⟩ := HKEY.out v' w1 hown' hgrow; subst hv'; clear hown' hgrow)
    · have hge : (most : Int) ≤ (kl : Int) + 1 := by assumption
      have D4 := (by assumption : Hid (KeepsC (fun r => r < s ∨ r = s + 2) wl.heap.size hi Wx _ ∧ _)).out
      have hl := HLN.out
      exact ⟨by have := D4.1; rw [zl] at this; exact this, rfl, by omega, D4.2.2.2.2, _, D4.2.2.1, by rw [hl]; exact D4.2.2.2.1⟩
    · have hlt2 : (kl : Int) + 1 < (most : Int) := by assumption
      have D4 := (by assumption : Hid (KeepsC (fun r => r < s ∨ r = s + 2) wl.heap.size hi Wx _ ∧ _)).out
      have hl := HLN.out
      exact ⟨by have := D4.1; rw [zl] at this; exact this, by omega, D4.2.1, D4.2.2.2.2, _, D4.2.2.1, by rw [hl]; exact D4.2.2.2.1⟩
end Go.Proofs.YtmhemahkcbgaoaaGreatDoor
/- ScanLines: of every script its lines, gone through whole, and left early. -/
namespace Go.Proofs.YtmhemahkcbgaoaaGreatDoor
set_option linter.unusedVariables false
set_option linter.unusedSimpArgs false
open Go.RowKit
open Go.Lib hiding intOf
theorem wf_u8 {x : Int} (h : (Lit.int .u8 x).wf = true) : 0 ≤ x ∧ x ≤ 255 := by
  simp [Lit.wf, IntKind.min, IntKind.max, IntKind.signed, IntKind.bits] at h
  omega
theorem rowNeq (w : World) (n : Int) (t : List UInt8) : (binOp .neq 51 (.agg #[.int .i64 n, .string (bstr t)]) (.agg #[.int .i64 n, .string (bstr t)])).run Tryz.prog w = .ok (.bool false) w := by
  rw [run_neq_struct]
  go_simp
theorem own_rows {w : World} {B : Nat} {v : Value} {L : List (Nat × List UInt8)} (h : OwnRw B v L w) : ∃ a c, v = .slice a L.length c ∧ (0 < L.length → ∃ g, a = some ⟨g, 0, none⟩ ∧ g < w.heap.size ∧ ∀ (i : Nat) (x : Nat × List UInt8), L[i]? = some x → w.cell? ⟨g, i * 2, none⟩ = some (.int .i64 (x.1 : Int)) ∧ w.cell? ⟨g, i * 2 + 1, none⟩ = some (.string (bstr x.2))) := by
  have h' := h
  unfold OwnRw at h'
  obtain ⟨a, c, rfl⟩ := slice_own h'
  refine ⟨a, c, rfl, fun hn => ?_⟩
  obtain ⟨g, rfl, hg, hc⟩ := own_cell h' hn
  exact ⟨g, rfl, hg, fun i x hx => ⟨hc _ _ (flat_at (c := 2) (fun _ => rfl) hx (j := 0) rfl), hc _ _ (flat_at (c := 2) (fun _ => rfl) hx (j := 1) rfl)⟩⟩
set_option maxHeartbeats 8000000 in
set_option maxRecDepth 100000 in
theorem scanLines_walk (w : World) (l : List UInt8) (hl : l.length ≤ 1048576) (x : Int) (hx : (Lit.int .u8 x).wf = true) (hT : Tabs w) :
    Calls Tryz.prog 9 #[.string (bstr l), .int .u8 x] w fun e w' => e = .returned (.bool true) ∧ Below w.heap.size w w' := by
  obtain ⟨hx0, hx1⟩ := wf_u8 hx
  obtain ⟨few, rfl⟩ := Int.eq_ofNat_of_zero_le hx0
  clear hx
  have hfw : few ≤ 255 := by omega
  obtain ⟨m, hm⟩ : ∃ m, (rowsL l).length = m := ⟨_, rfl⟩
  have hml := rowsL_len l
  rw [hm] at hml
  have hA : (rowsL l).take (m + 9) = rowsL l := List.take_of_length_le (by omega)
  have HW := Lib.hid (fun w1 => rowsR w1 l (by omega))
  have hr1 := fun w1 (h : Tabs w1) => rowsC w1 l (by omega) h (m + 9) (by omega) (by omega)
  have hr2 := fun w1 (h : Tabs w1) => rowsC w1 l (by omega) h (1 + few) (by omega) (by omega)
  rw [hA, show ((m + 9 : Nat) : Int) = (m : Int) + 9 by omega] at hr1
  rw [show ((1 + few : Nat) : Int) = 1 + (few : Int) by omega] at hr2
  have HR1 := Lib.hid hr1
  have HR2 := Lib.hid hr2
  clear hr1 hr2
  obtain ⟨q, hq⟩ : ∃ q, ((rowsL l).take (1 + few)).length = q := ⟨_, rfl⟩
  have hqm : q = min (1 + few) m := by rw [← hq, List.length_take, hm]
  have HM := Lib.hid hm
  have HQ := Lib.hid hq
  have HT := Lib.hid hT
  have hq1 : q ≤ m := by omega
  have hmin : ((q : Int) != min (m : Int) (1 + (few : Int))) = false := by
    have : (q : Int) = min (m : Int) (1 + (few : Int)) := by omega
    rw [← this]; simp
  clear hm hq hT hA hx0 hx1 hqm
  go_enter Tryz.func9, Tryz.ntmps9
  go_upto_region 2 with (go_at_call 21; refine (HW.out _).mono ?_; rintro e w1 ⟨v1, rfl, hO1, hb1⟩)
  have HB1 := Lib.hid hb1
  have HO1 := Lib.hid hO1
  obtain ⟨a1, c1, hv1, _⟩ := own_rows hO1
  rw [HM.out] at hv1
  subst hv1
  clear hb1 hO1
  go_upto_region 3 with (first
    | (go_at_call 22; (with_reducible refine (HR1.out _ (HT.out.next HB1.out)).mono ?_); rintro e w2 ⟨v2, rfl, hO2, hb2⟩; have HB12 := Lib.hid hb2; have HB2 : Hid (Below w.heap.size w w2) := Lib.hid (HB1.out.trans (hb2.mono HB1.out.size)); have HO2 := Lib.hid hO2; obtain ⟨a2, c2, hv2, _⟩ := own_rows hO2; rw [HM.out] at hv2; subst hv2; clear hb2 hO2)
    | (go_at_call 22; (with_reducible refine (HR2.out _ (HT.out.next HB2.out)).mono ?_); rintro e w3 ⟨v3, rfl, hO3, hb3⟩; have HB23 := Lib.hid hb3; have HB3 : Hid (Below w.heap.size w w3) := Lib.hid (HB2.out.trans (hb3.mono HB2.out.size)); have HO3 := Lib.hid hO3; obtain ⟨a3, c3, hv3, _⟩ := own_rows hO3; rw [HQ.out] at hv3; subst hv3; clear hb3 hO3))
  have HR : Hid (∀ wr, Below w3.heap.size w3 wr → OwnRw w.heap.size (.slice a1 m c1) (rowsL l) wr ∧ OwnRw w1.heap.size (.slice a2 m c2) (rowsL l) wr ∧ OwnRw w2.heap.size (.slice a3 q c3) ((rowsL l).take (1 + few)) wr) := Lib.hid (fun wr hb =>
    ⟨((HO1.out.below HB12.out).below HB23.out).below hb, (HO2.out.below HB23.out).below hb, HO3.out.below hb⟩)
  go_wp2
  go_loopw [8] (fun kv wr => ∃ k : Nat, k ≤ m ∧ kv = .int .i64 (k : Int) ∧ Hid (Below w3.heap.size w3 wr)) (fun kv _ => m - (RowKit.intOf kv).toNat)
  case atStart => exact ⟨0, Nat.zero_le _, rfl, Lib.hid (Below.refl _ _)⟩
  case round =>
    obtain ⟨k, hkm, rfl, HH⟩ := hrel
    obtain ⟨o1, o2, o3⟩ := HR.out wr HH.out
    by_cases hlt : k < m
    · obtain ⟨x, hx⟩ : ∃ x, (rowsL l)[k]? = some x := ⟨_, List.getElem?_eq_getElem (by rw [HM.out]; exact hlt)⟩
      obtain ⟨_, _, hv1, hr1⟩ := own_rows o1
      obtain ⟨_, _, hv2, hr2⟩ := own_rows o2
      obtain ⟨_, _, hv3, hr3⟩ := own_rows o3
      rw [HM.out] at hv1 hv2
      rw [HQ.out] at hv3
      cases hv1
      cases hv2
      cases hv3
      obtain ⟨g1, rfl, _, d1⟩ := hr1 (by rw [HM.out]; omega)
      obtain ⟨g2, rfl, _, d2⟩ := hr2 (by rw [HM.out]; omega)
      obtain ⟨e0, e1⟩ := d1 k x hx
      obtain ⟨f0, f1⟩ := d2 k x hx
      obtain ⟨xn, xt⟩ := x
      simp only at e0 e1 f0 f1
      have hn := fun w => rowNeq w (xn : Int) xt
      by_cases hq : k < q
      · obtain ⟨g3, rfl, _, d3⟩ := hr3 (by rw [HQ.out]; omega)
        have hx3 : ((rowsL l).take (1 + few))[k]? = some (xn, xt) := by
          have h0 : k < ((rowsL l).take (1 + few)).length := by rw [HQ.out]; exact hq
          rw [List.length_take] at h0
          rw [List.getElem?_take, if_pos (by omega)]; exact hx
        obtain ⟨r0, r1⟩ := d3 k _ hx3
        simp only at r0 r1
        clear d1 d2 d3 hr1 hr2 hr3 o1 o2 o3 hx hx3
        go_wp2
        go_quiet (fail)
        go_wp2
        go_roundw
        case rel => exact ⟨k + 1, by omega, by go_num, Lib.hid (HH.out.trans (((Quiet.refl _).drewN _).below _))⟩
        case measure => simp [RowKit.intOf]; omega
      · clear d1 d2 hr1 hr2 hr3 o1 o2 o3 hx
        go_wp2
        go_quiet (fail)
        go_wp2
        go_roundw
        case rel => exact ⟨k + 1, by omega, by go_num, Lib.hid (HH.out.trans (((Quiet.refl _).drewN _).below _))⟩
        case measure => simp [RowKit.intOf]; omega
    · obtain rfl : k = m := by omega
      have HBf : Hid (Below w.heap.size w wr) := Lib.hid (HB3.out.trans (HH.out.mono HB3.out.size))
      have HWK := Lib.hid (worksC wr (HT.out.next HBf.out))
      clear o1 o2 o3
      go_wp2_with (go_at_call 11; refine (HWK.out).mono ?_; rintro e w9 ⟨rfl, hb9⟩)
      go_ret
      exact ⟨rfl, HBf.out.trans (hb9.mono HBf.out.size)⟩
end Go.Proofs.YtmhemahkcbgaoaaGreatDoor
/- The reference's May: may a token be? -/
namespace Go.Proofs.YtmhemahkcbgaoaaGreatDoor
set_option linter.unusedVariables false
set_option linter.unusedSimpArgs false
open Go.RowKit
open Go.Lib hiding intOf
def MayQ (w : World) (t : Tok) (e : Ending) (w' : World) : Prop := e = .returned (.bool (printed t).isSome) ∧ Below w.heap.size w w'
theorem may_one (a n : Int) (s : List UInt8) : (printed ⟨1, a, s, n⟩).isSome = (!decide (s = []) && (!badRun (numOf s).isSome s && decide (n = 0))) := by
  rw [printed_one a n s _ rfl]
  cases (!decide (s = []) && (!badRun (numOf s).isSome s && decide (n = 0))) <;> rfl
set_option maxHeartbeats 4000000 in
set_option maxRecDepth 100000 in
theorem may_word (w : World) (a n : Int) (s : List UInt8) (hs : s.length ≤ 1048576) :
    Calls Tryz.prog 49 #[.agg #[.int .i64 1, .int .i64 a, .string (bstr s), .int .i64 n]] w (MayQ w ⟨1, a, s, n⟩) := by
  obtain ⟨m, hm⟩ : ∃ m, m = s.length := ⟨_, rfl⟩
  have hsz : (bstr s).size = m := by rw [bstr_size, hm]
  have HN := Lib.hid hm
  have HNU := Lib.hid (fun w1 => numberR w1 s (by omega))
  have HM := Lib.hid (may_one a n s)
  rw [← hm] at hs
  clear hm
  go_enter Tryz.func49, Tryz.ntmps49
  go_upto_region 1 with fail
  obtain ⟨w1, hw1⟩ : ∃ w1, w1 = w.alloc (.cells #[.int .i64 1, .int .i64 a, .string (bstr s), .int .i64 n] 28) := ⟨_, rfl⟩
  have hR : Row w1 w.heap.size 28 [.int .i64 1, .int .i64 a, .string (bstr s), .int .i64 n] := by rw [hw1]; exact alloc_last _ _
  have hb1 : Below w.heap.size w w1 := by rw [hw1]; exact (Below.refl _ _).alloc (Nat.le_refl _) _
  rw [← hw1]
  clear hw1
  have c0 := Row.cell hR 0
  have c2 := Row.cell hR 2
  have c3 := Row.cell hR 3
  simp only [List.getElem?_cons_zero, List.getElem?_cons_succ] at c0 c2 c3
  go_wp2
  go_loopw [3] (fun kv w2 => ∃ k : Nat, k ≤ m ∧ kv = .int .i64 (k : Int) ∧ Hid (badRun false (s.take k) = false) ∧ w2 = w1) (fun kv _ => m - (RowKit.intOf kv).toNat)
  case atStart => exact ⟨0, Nat.zero_le _, rfl, Lib.hid (by simp [badRun]), rfl⟩
  case round =>
    obtain ⟨k, hkm, rfl, HB, rfl⟩ := hrel
    by_cases hlt : k < m
    · obtain ⟨x, hx⟩ := some_at (l := s) (k := k) (by rw [← HN.out]; exact hlt)
      have ik : k < (bstr s).size := by rw [hsz]; exact hlt
      have hxa : (bstr s)[k]'ik = x := bstr_at hx _
      have HX := Lib.hid hx
      have HNX := Lib.hid (badRun_next (b := false) hx)
      by_cases hr : RunN x.toNat
      · have HRN := Lib.hid (fun w1 => decide_eq_true hr ▸ runsR w1 x.toNat)
        have HR := Lib.hid (decide_eq_true hr)
        clear hx hr
        go_wp2_with (go_at_call 33; refine (HRN.out _).mono ?_; rintro e wq ⟨rfl, hwq⟩; obtain rfl := hwq.symm)
        go_roundw
        case rel => exact ⟨k + 1, by omega, by go_num, Lib.hid (by rw [HNX.out, HB.out, HR.out]; rfl), trivial⟩
        case measure => simp [RowKit.intOf]; omega
      · have HRN := Lib.hid (fun w1 => decide_eq_false hr ▸ runsR w1 x.toNat)
        have hbad : badRun (numOf s).isSome s = true := by
          unfold badRun
          rw [Bool.or_eq_true]
          exact .inr (List.any_eq_true.2 ⟨x, List.mem_of_getElem? hx, by simp [hr]⟩)
        have HBAD := Lib.hid hbad
        clear hx hr hbad
        go_wp2_with (go_at_call 33; refine (HRN.out _).mono ?_; rintro e wq ⟨rfl, hwq⟩; obtain rfl := hwq.symm)
        go_ret
        unfold MayQ
        rw [HM.out, HBAD.out]
        exact ⟨by simp, hb1⟩
    · obtain rfl : k = m := by omega
      have hall : s.take k = s := List.take_of_length_le (by rw [← HN.out]; exact Nat.le_refl _)
      have hbr := HB.out
      rw [hall] at hbr
      obtain ⟨b0, hb0⟩ : ∃ b0, (numOf s).isSome = b0 := ⟨_, rfl⟩
      have hbr2 : badRun (numOf s).isSome s = b0 := by
        unfold badRun at hbr ⊢
        rw [hb0]
        rw [Bool.false_or] at hbr
        rw [hbr, Bool.or_false]
      have HBR := Lib.hid hbr2
      have HNU2 : Hid (∀ w1, Calls Tryz.prog 34 #[.string (bstr s)] w1 fun e w' => ∃ z : Int, e = .returned (.tuple #[.int .i64 z, .bool b0]) ∧ Quiet w1 w') := Lib.hid fun w1 => (HNU.out w1).mono fun e w' ⟨z, he, _, hq⟩ => ⟨z, by rw [he, hb0], hq⟩
      clear hall hbr hb0 hbr2
      have hfin : ∀ b : Bool, b = (!decide (s = []) && (!b0 && decide (n = 0))) → ∀ w', Below w.heap.size w w' → MayQ w ⟨1, a, s, n⟩ (.returned (.bool b)) w' := by
        intro b hb w' hw
        unfold MayQ
        rw [HM.out, HBR.out, hb]
        exact ⟨rfl, hw⟩
      have HF := Lib.hid hfin
      clear hfin
      rcases Nat.eq_zero_or_pos k with h0 | h0
      · have hs0 : s = [] := List.eq_nil_of_length_eq_zero (by rw [← HN.out]; exact h0)
        have HS0 := Lib.hid hs0
        clear hs0
        subst h0
        go_wp2_with (go_at_call 34; refine (HNU2.out _).mono ?_; rintro e wq ⟨z, rfl, hq⟩; obtain ⟨nd, rfl⟩ := hq)
        go_ret
        exact HF.out _ (by rw [HS0.out]; simp) _ (bl_drewN hb1 _)
      · have HS0 : Hid (¬ s = []) := Lib.hid (by rintro rfl; have := HN.out; simp at this; omega)
        cases b0
        · by_cases hn : n = 0
          · subst hn
            go_wp2_with (go_at_call 34; refine (HNU2.out _).mono ?_; rintro e wq ⟨z, rfl, hq⟩; obtain ⟨nd, rfl⟩ := hq)
            go_ret
            exact HF.out _ (by simp [HS0.out]) _ (bl_drewN hb1 _)
          · have hnb : (n == 0) = false := by simpa using hn
            go_wp2_with (go_at_call 34; refine (HNU2.out _).mono ?_; rintro e wq ⟨z, rfl, hq⟩; obtain ⟨nd, rfl⟩ := hq)
            go_ret
            exact HF.out _ (by simp [hn]) _ (bl_drewN hb1 _)
        · go_wp2_with (go_at_call 34; refine (HNU2.out _).mono ?_; rintro e wq ⟨z, rfl, hq⟩; obtain ⟨nd, rfl⟩ := hq)
          go_ret
          exact HF.out _ (by simp) _ (bl_drewN hb1 _)
set_option maxHeartbeats 4000000 in
set_option maxRecDepth 100000 in
theorem mayR (w : World) (t : Tok) (h : TokOk t) : Calls Tryz.prog 49 #[tokV t] w (MayQ w t) := by
  obtain ⟨k, a, s, n⟩ := t
  obtain ⟨h0, h1, h2⟩ := h
  by_cases e1 : k = 1
  · subst e1; exact may_word w a n s h0
  have hp : ∀ b : Bool, b = (if k = 2 then decide (s = []) && decide (0 ≤ n) else if k = 3 then decide (n = 0) else false) → ∀ w', Below w.heap.size w w' → MayQ w ⟨k, a, s, n⟩ (.returned (.bool b)) w' := by
    intro b hb w' hw
    refine ⟨?_, hw⟩
    congr 2
    rw [hb]
    unfold printed
    simp only [e1, if_false]
    by_cases e2 : k = 2
    · subst e2
      simp only [if_true]
      by_cases hs : s = []
      · subst hs
        by_cases hn : n < 0
        · simp [hn]
        · simp [hn]; omega
      · have : ¬ s.length = 0 := fun h => hs (List.eq_nil_of_length_eq_zero h)
        simp [hs]
    simp only [e2, if_false]
    by_cases e3 : k = 3
    · by_cases hn : n = 0 <;> simp [e3, hn]
    · simp [e3]
  have HP := Lib.hid hp
  clear hp h0 h1 h2
  have k1 : (k == 1) = false := by simpa using e1
  have HW : Hid (Below w.heap.size w (w.alloc (.cells #[.int .i64 k, .int .i64 a, .string (bstr s), .int .i64 n] 28))) := Lib.hid ((Below.refl _ _).alloc (Nat.le_refl _) _)
  show Calls Tryz.prog 49 #[.agg #[.int .i64 k, .int .i64 a, .string (bstr s), .int .i64 n]] w (MayQ w ⟨k, a, s, n⟩)
  by_cases e2 : k = 2
  · subst e2
    by_cases hs : s = []
    · subst hs
      go_enter Tryz.func49, Tryz.ntmps49
      go_wp2
      go_ret
      exact HP.out _ (by simp) _ HW.out
    · obtain ⟨x, s', rfl⟩ := List.exists_cons_of_ne_nil hs
      go_enter Tryz.func49, Tryz.ntmps49
      go_wp2
      go_ret
      exact HP.out _ (by simp) _ HW.out
  have k2 : (k == 2) = false := by simpa using e2
  by_cases e3 : k = 3
  · subst e3
    go_enter Tryz.func49, Tryz.ntmps49
    go_wp2
    go_ret
    exact HP.out _ (by by_cases hn : n = 0 <;> simp [hn]) _ HW.out
  have k3 : (k == 3) = false := by simpa using e3
  go_enter Tryz.func49, Tryz.ntmps49
  go_wp2
  go_ret
  exact HP.out _ (by simp [e2, e3]) _ HW.out
end Go.Proofs.YtmhemahkcbgaoaaGreatDoor
