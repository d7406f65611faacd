/- gone: what a walk tells, so many at most. -/
import Derived.Test.YtgcgbpehedkckaaLines
import Derived.Test.YtgcgbpehedkckaaEqi
namespace Go.Proofs.Ytgcgbpehedkckaa
open Go.RowKit Go.Shelf
attribute [local go_sem] Oper.semAt_some
theorem Try.infoI64 : (Try.prog.info? 3).map (fun i => (i.zero, i.size, i.bytes)) = some (some (.int .i64 0), 1, 8) := by kernel_rfl
theorem own_abides {lo hi : Nat} {A A' : World} {row : Option Nat} {e : TypeId} {v : Value} {n : Nat} {xs : List Value} (h : A.ownsRow hi e 1 v n xs) (hg : A.grownBy A' row) (ht : MayTurn lo hi A row) : A'.ownsRow hi e 1 v n xs := by
  refine h.kept hg ?_
  rcases h.2 with ⟨rfl, _⟩ | ⟨g, cap, cur, rfl, hb, hgr, _⟩
  · exact .inl rfl
  · refine .inr fun e' => ?_
    have e' : some g = row := e'
    obtain ⟨h1, h2 | ⟨o, ho, hc⟩⟩ := ht g e'.symm
    · omega
    · rw [hgr] at ho; cases ho; cases hc
theorem prefix_take {α : Type} {a b : List α} {n : Nat} (h : a <+: b) (hn : a.length = n) : b.take n = a := by
  obtain ⟨r, rfl⟩ := h
  rw [← hn]; exact List.take_left
theorem gone_mid {s hi : Nat} {W w1 : World} {e : TypeId} {v : Value} {k : Nat} {xs : List Value} {o : Obj} (hown : W.ownsRow hi e 1 v k xs) (hg : (W.alloc o).grownBy w1 v.ownBlock) (hhi : s + 2 ≤ hi) (hW : hi ≤ W.heap.size) {b : Nat} (hb : b < s + 2) : w1.heap[b]? = W.heap[b]? := by
  refine (hg.block b (by simp; omega) (fun e => ?_)).trans (Below.heap_alloc W o b (by omega))
  have := (hown.lt b e.symm).1
  omega
theorem gone_step {K : Nat → Prop} {s hi : Nat} {W w1 : World} {e : TypeId} {v v' : Value} {k : Nat} {xs ys : List Value} {o : Obj} (hown : W.ownsRow hi e 1 v k xs) (hg : (W.alloc o).grownBy w1 v.ownBlock) (hown' : w1.ownsRow hi e 1 v' (k + 1) ys)
    (hK : ∀ r, K r → r < s) (hhi : s + 2 ≤ hi) (hW : hi ≤ W.heap.size) :
    KeepsC K (s + 2) hi W (w1.setCell ⟨s + 1, 0, none⟩ v') ∧ (w1.setCell ⟨s + 1, 0, none⟩ v').ownsRow hi e 1 v' (k + 1) ys ∧ (∀ w, Below s w W → Below s w (w1.setCell ⟨s + 1, 0, none⟩ v')) := by
  have g1 : KeepsC K (s + 2) hi W (W.alloc o) := KeepsC.grown (World.grownBy_alloc W o none) (fun r hr => by have := hK r hr; omega) hW (fun r e => by cases e)
  have g2 : KeepsC K (s + 2) hi (W.alloc o) w1 := by
    refine KeepsC.grown hg (fun r hr => by have := hK r hr; simp; omega) (by simp; omega) (fun r e => ?_)
    have hl := hown.lt r e
    refine ⟨fun h => by have := hK r h; omega, .inr ⟨hl.1, fun o' ho => ?_⟩⟩
    rw [Below.heap_alloc W o r hl.2] at ho
    rcases hown.2 with ⟨rfl, _⟩ | ⟨g, cap, cur, rfl, _, hgr, _⟩
    · cases e
    · cases e; rw [hgr] at ho; cases ho; rfl
  have z1 := g1.size
  have z2 := g2.size
  have g3 : KeepsC K (s + 2) hi w1 (w1.setCell ⟨s + 1, 0, none⟩ v') := KeepsC.grown (grownBy_setCell' w1 (s + 1) v') (fun r hr => by have := hK r hr; omega) (by omega) (fun r e => by cases e; exact ⟨fun h => by have := hK _ h; omega, .inl (by omega)⟩)
  refine ⟨(g1.trans g2).trans g3, ownsRow_setCell_below hown' (by simp; omega) v', fun w hb => ?_⟩
  exact ((hb.alloc (by omega) o).grown hg (by simp; omega) (fun r e => by have := (hown.lt r e).1; omega)).setCell (by simp) _
theorem seq_nil (gf : Nat) (lb : Array Value) (w : World) : (binOp .eql 48 (.func (.func gf) #[] lb) .nilFunc).run Try.prog w = .ok (.bool false) w := by kernel_rfl
set_option maxHeartbeats 1000000 in
theorem goneC (w : World) (gf : Nat) (lb : Array Value) (eg : ∀ args w, (callFunc gf args).run Try.prog w = .ok (.enter gf args) w) (K : Nat → Prop) (full : List Int) (hseq : ∀ m, 6 ≤ m → SeqC Fence.wide m Try.prog gf lb (fun x : Int => #[.int .i64 x]) K w (fun xs => xs = full) (fun pre => pre <+: full))
    (hK : ∀ r, K r → r < w.heap.size) (most : Nat) (h1 : 1 ≤ most) (h2 : most ≤ 1000000) :
    Calls Try.prog 38 #[.func (.func gf) #[] lb, .int .i64 most] w fun e w' => ∃ v, e = .returned v ∧ w'.ownsRow w.heap.size 3 1 v (full.take most).length ((full.take most).map I8) ∧ Below w.heap.size w w' := by
  obtain ⟨i0, hi_, hz0, hz1, hz2⟩ := info_parts Try.infoI64
  have HS := Lib.hid hseq
  have HKW := Lib.hid hK
  have HE := Lib.hid eg
  clear hseq hK eg
  refine (callsIn_wide (n := 20)).1 ?_
  refine callsIn_of_wp_marks Try.func38 rfl trivial ?_ rfl
  simp only [Try.ntmps38, List.size_toArray, List.length_cons, List.length_nil, Nat.reduceAdd, Nat.reduceSub, Array.replicate_succ, Array.replicate_zero, List.push_toArray, List.append_toArray, List.nil_append, List.cons_append]
  have hnil := fun w => seq_nil gf lb w
  gi_wp2
  clear hnil
  obtain ⟨s, hs⟩ : ∃ s, s = w.heap.size := ⟨_, rfl⟩
  obtain ⟨wl, hwl⟩ : ∃ wl, wl = (w.alloc (.cells #[.int .i64 most] 3)).alloc (.cells #[.slice none 0 0] 50) := ⟨_, rfl⟩
  have zl : wl.heap.size = s + 2 := by rw [hwl, hs]; simp
  have bl : Below w.heap.size w wl := by rw [hwl]; exact ((Below.refl _ w).alloc (Nat.le_refl _) _).alloc (by simp) _
  have y1 : Boxed wl s 3 (.int .i64 most) := by rw [hwl, hs]; exact (Boxed.new w _ _).alloc _
  have y2 : Boxed wl (s + 1) 50 (.slice none 0 0) := by
    rw [hwl, hs]
    have := Boxed.new (w.alloc (.cells #[.int .i64 most] 3)) 50 (.slice none 0 0)
    rwa [World.size_alloc] at this
  rw [← hwl, ← hs]
  rw [← hs] at bl HKW
  have HSS := Lib.hid hs
  clear hs hwl
  refine wpIn_rangeFunc_C rfl (by decide) (gf := gf) (lb := lb) rfl trivial HE.out (HS.out 19 (by decide)) (fun r hr => ⟨by rw [← HSS.out]; exact HKW.out r hr, bl.block r (HKW.out r hr)⟩) (by rw [zl, ← HSS.out]; omega) (fun _ => rfl)
    (fun hi pre W => pre.length < most ∧ Boxed W s 3 (.int .i64 most) ∧ Below s w W ∧ ∃ v, Boxed W (s + 1) 50 v ∧ W.ownsRow hi 3 1 v pre.length (pre.map I8))
    (fun c hi pre W => c = .exit 0 ∧ pre.length = most ∧ Below s w W ∧ ∃ v, Boxed W (s + 1) 50 v ∧ W.ownsRow hi 3 1 v pre.length (pre.map I8)) ?hI ?hIx ?h0
    (fun x => { tmps := #[.func (.func gf) #[] lb, .int .i64 most, undef, .pointer (some ⟨s, 0, none⟩), .slice none 0 0, .pointer (some ⟨s + 1, 0, none⟩), .int .i64 x, .func (.func gf) #[] lb, .bool false, undef, .func (.func gf) #[] lb, .int .i64 x, undef, undef, undef, undef, undef, undef, undef, undef, undef], defers := [] }) ?assign ?body ?done ?stop
  case assign =>
    intro l' x Wx K hK
    gi_wp2
    exact hK
  case hI =>
    rintro hi pre A A' row ⟨h1, h2, h3, v, h4, h5⟩ hg ht
    have ne : ∀ k, k < s + 2 → some k ≠ row := fun k hk e => by have := (ht k e.symm).1; omega
    exact ⟨h1, h2.kept hg (ne _ (by omega)), h3.grown hg (by have := h2.lt; omega) (fun r e => by have := (ht r e).1; omega), v, h4.kept hg (ne _ (by omega)), own_abides h5 hg (fun r e => ⟨by have := (ht r e).1; omega, (ht r e).2⟩)⟩
  case hIx =>
    rintro c hi pre A A' row ⟨h1, h2, h3, v, h4, h5⟩ hg ht
    have ne : ∀ k, k < s + 2 → some k ≠ row := fun k hk e => by have := (ht k e.symm).1; omega
    exact ⟨h1, h2, h3.grown hg (by have := h4.lt; omega) (fun r e => by have := (ht r e).1; omega), v, h4.kept hg (ne _ (by omega)), own_abides h5 hg (fun r e => ⟨by have := (ht r e).1; omega, (ht r e).2⟩)⟩
  case h0 =>
    intro hi hh
    exact ⟨h1, y1, bl, _, y2, World.ownsRow_nil _ _ _ _⟩
  case done =>
    rintro D hi xs Wx hD hDh rfl ⟨q1, q2, q3, v, q4, q5⟩ hd
    have c4 := q4.cell
    obtain ⟨a2, c2, rfl, hr, _, _⟩ := reads_of_own q5
    gi_wp2
    refine ⟨by simp, .inl ⟨_, _, rfl, run_takeDeferred hd, ?_⟩⟩
    have hlt := (Array.getElem?_eq_some_iff.1 hd).1
    refine ⟨_, results_tmp rfl _ _ _, _, rfl, ?_, ?_⟩
    · rw [List.take_of_length_le (by omega), ← HSS.out]
      exact own_mono (b := hi) (ownsRow_putObj q5 _ hd rfl) (by omega)
    · rw [← HSS.out]
      exact q3.grown (grownBy_putObj' Wx D _) (by omega) (fun r e => by cases e; omega)
  case stop =>
    rintro D hi c pre Wx hD hDh hpre ⟨rfl, q1, q3, v, q4, q5⟩ hd
    have c4 := q4.cell
    have HQ := Lib.hid q1
    clear q1
    obtain ⟨a2, c2, rfl, hr, _, _⟩ := reads_of_own q5
    gi_wp2
    refine ⟨by simp, .inl ⟨_, _, rfl, run_takeDeferred hd, ?_⟩⟩
    have hlt := (Array.getElem?_eq_some_iff.1 hd).1
    refine ⟨_, results_tmp rfl _ _ _, _, rfl, ?_, ?_⟩
    · rw [prefix_take hpre HQ.out, ← HSS.out]
      exact own_mono (b := hi) (ownsRow_putObj q5 _ hd rfl) (by omega)
    · rw [← HSS.out]
      exact q3.grown (grownBy_putObj' Wx D _) (by omega) (fun r e => by cases e; omega)
  case body =>
    rintro l' hi pre x Wx hhi1 hhi2 hpx ⟨q1, q2, q3, v, q4, q5⟩
    have c2 := q2.cell
    have c4 := q4.cell
    have f4 := q4.frozen
    rw [zl] at hhi1
    obtain ⟨kl, hkl⟩ : ∃ kl, kl = pre.length := ⟨_, rfl⟩
    rw [← hkl] at q1 q5
    have hlen : (pre ++ [x]).length = kl + 1 := by simp [hkl]
    have HLN := Lib.hid hlen
    have HX : Hid (pre.map I8 ++ [Value.int .i64 x] = (pre ++ [x]).map I8) := by show _ = _; simp
    clear hkl hlen hpx
    have key : ∀ v' w1, w1.ownsRow hi 3 1 v' (kl + 1) (pre.map I8 ++ [Value.int .i64 x]) → (Wx.alloc (.cells #[.int .i64 x] 3)).grownBy w1 v.ownBlock →
        w1.cell? ⟨s, 0, none⟩ = some (.int .i64 most) ∧ w1.cell? ⟨s + 1, 0, none⟩ = some v ∧ w1.frozen? ⟨s + 1, 0, none⟩ = false ∧
        Hid (KeepsC K wl.heap.size hi Wx (w1.setCell ⟨s + 1, 0, none⟩ v') ∧ Boxed (w1.setCell ⟨s + 1, 0, none⟩ v') s 3 (.int .i64 most) ∧ Boxed (w1.setCell ⟨s + 1, 0, none⟩ v') (s + 1) 50 v' ∧ (w1.setCell ⟨s + 1, 0, none⟩ v').ownsRow hi 3 1 v' (kl + 1) ((pre ++ [x]).map I8) ∧ Below s w (w1.setCell ⟨s + 1, 0, none⟩ v')) := by
      intro v' w1 ho hg
      have b1 : Boxed w1 s 3 (.int .i64 most) := (gone_mid (s := s) (b := s) q5 hg (by omega) hhi2 (by omega)).trans q2
      have b2 : Boxed w1 (s + 1) 50 v := (gone_mid (s := s) (b := s + 1) q5 hg (by omega) hhi2 (by omega)).trans q4
      rw [HX.out] at ho
      obtain ⟨k1, k2, k3⟩ := gone_step (K := K) (s := s) q5 hg ho (fun r hr => by have := HKW.out r hr; omega) (by omega) hhi2
      exact ⟨b1.cell, b2.cell, b2.frozen, by rw [zl]; exact k1, b1.other (by omega) _, b2.set _, k2, k3 w q3⟩
    have HKEY := Lib.hid key
    clear key
    have hsz : hi ≤ Wx.heap.size := hhi2
    gi_wp2_with (gi_at_builtin; refine wpListIn_append_own _ rfl _ _ 50 rfl hi 3 i0 (.int .i64 0) 1 8 Try.underlying50 hi_ hz0 hz1 hz2 rfl (by decide) _ _ _ rfl (q5.alloc _) ⟨Wx.heap.size, 0, none⟩ 1 1 [.int .i64 x] rfl rfl (cell_one_new _ _ _) (by simp [Value.oneCell']) (by unfold maxLen; omega) (by omega) (by simp; omega) ?_; intro v' w1 hown' hgrow _; obtain ⟨g', cap', hv'⟩ := ownsRow_succ hown'; obtain ⟨d1, d2, d3, d4⟩ := HKEY.out v' w1 hown' hgrow; subst hv'; clear hown' hgrow)
    · have hge : (most : Int) ≤ (kl : Int) + 1 := by assumption
      have D4 := (by assumption : Hid (KeepsC K wl.heap.size hi Wx _ ∧ _)).out
      have hl := HLN.out
      exact ⟨D4.1, rfl, by omega, D4.2.2.2.2, _, D4.2.2.1, by rw [hl]; exact D4.2.2.2.1⟩
    · have hlt2 : (kl : Int) + 1 < (most : Int) := by assumption
      have D4 := (by assumption : Hid (KeepsC K wl.heap.size hi Wx _ ∧ _)).out
      have hl := HLN.out
      exact ⟨D4.1, by omega, D4.2.1, D4.2.2.2.2, _, D4.2.2.1, by rw [hl]; exact D4.2.2.2.1⟩
end Go.Proofs.Ytgcgbpehedkckaa
