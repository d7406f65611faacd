/- What a script says, by the program's iterator. -/
import Derived.Test.YtmhemahkcbgaoaaDoorLineB
import Derived.Test.YtmhemahkcbgaoaaDoorLineD
import Derived.Test.YtmhemahkcbgaoaaDoorIterA
import Derived.Test.YtmhemahkcbgaoaaDoorTrim7
import Derived.Stop.RegionWithIn
namespace Go.Proofs.YtmhemahkcbgaoaaDoor
set_option linter.unusedVariables false
set_option linter.unusedSimpArgs false
open Go.RowKit Go.Shelf
open Go.Lib hiding intOf
attribute [local go_sem] Oper.semAt_some
def rowV7 (x : Nat × List UInt8) : Array Value := #[.int .i64 (x.1 : Int), .string (bstr x.2)]
theorem allC (w : World) (s : ByteArray) : Calls Tryd.prog 65 #[.string s] w fun e w' => e = .returned (.func (.func 82) #[] #[.pointer (some ⟨w.heap.size, 0, none⟩)]) ∧ w.alloc (.cells #[.string s] 9) = w' := by
  go_enter Tryd.func65, Tryd.ntmps65
  go_wp2
  go_ret
  exact ⟨rfl, rfl⟩
theorem linesC7 (w : World) (s : ByteArray) : Calls Tryd.prog 50 #[.string s] w fun e w' => e = .returned (.func (.func 64) #[] #[.pointer (some ⟨w.heap.size, 0, none⟩)]) ∧ w.alloc (.cells #[.string s] 9) = w' := by
  go_enter Tryd.func50, Tryd.ntmps50
  go_wp2
  go_ret
  exact ⟨rfl, rfl⟩
set_option maxHeartbeats 4000000 in
set_option maxRecDepth 100000 in
theorem rows1 (m : Nat) (hm : 8 ≤ m) (B0 b1 : Nat) (w0 : World) (l : List UInt8) (h1 : w0.heap[b1]? = some (.cells #[.string (bstr l)] 9 (0, 0))) (hl : l.length ≤ 1048700) (hT : Tabs w0) (hB0 : 7 ≤ B0) (hB1 : B0 ≤ w0.heap.size) :
    SeqC Fence.wide m Tryd.prog 64 #[.pointer (some ⟨b1, 0, none⟩)] rowV7 (fun r => r < B0 ∨ r = b1) w0 (fun xs => xs = rowsL l) (fun pre => pre <+: rowsL l) := by
  intro l0 J Jx W hW hn0 hJ hJx hY h0
  have k1 : Boxed W b1 9 (.string (bstr l)) := ((hW b1 (.inr rfl)).2).trans h1
  have hTW : Tabs W := hT.rows (fun r hr => (hW r (.inl (by omega))).2) hn0
  have l1 := k1.lt
  have hB2 : B0 ≤ W.heap.size := by omega
  clear hW h1 hT
  have c1 := k1.cell
  obtain ⟨lo, hlo⟩ : ∃ lo, lo = W.heap.size := ⟨_, rfl⟩
  have HTW := Lib.hid hTW
  have HJ := Lib.hid hJ
  have HJX := Lib.hid hJx
  have HY := Lib.hid hY
  have H0 := Lib.hid h0
  clear hJ hJx hY h0 hTW
  have hm1 : 1 ≤ m := by omega
  refine callsIn_of_wp_marks Tryd.func64 rfl trivial ?_ rfl
  simp only [Tryd.ntmps64, List.size_toArray, List.length_cons, List.length_nil, Nat.reduceAdd, Nat.reduceSub, Array.replicate_succ, Array.replicate_zero, List.push_toArray, List.append_toArray, List.nil_append, List.cons_append]
  gi_wp2_with (refine ⟨trivial, ?_⟩; gi_at_call 65; refine (callsIn_wide.2 (allC _ _)).mono ?_; rintro e w' ⟨rfl, hw'⟩)
  clear c1
  obtain ⟨Wa, hWa⟩ : ∃ Wa, Wa = (W.alloc (.cells #[.func (.yield l0) #[] #[]] 110)).alloc (.cells #[.int .i64 0] 3) := ⟨_, rfl⟩
  rw [← hWa] at hw'
  have za : Wa.heap.size = lo + 2 := by rw [hWa, hlo]; simp
  have ba : Below W.heap.size W Wa := by rw [hWa]; exact ((Below.refl _ W).alloc (Nat.le_refl _) _).alloc (by simp) _
  have y1 : Boxed Wa lo 110 (.func (.yield l0) #[] #[]) := by rw [hWa, hlo]; exact (Boxed.new W _ _).alloc _
  have y2 : Boxed Wa (lo + 1) 3 (.int .i64 0) := by
    rw [hWa, hlo]
    have := Boxed.new (W.alloc (.cells #[.func (.yield l0) #[] #[]] 110)) 3 (.int .i64 0)
    rwa [World.size_alloc] at this
  have hbox := Boxed.new Wa 9 (.string (bstr l))
  have zb : (Wa.alloc (.cells #[.string (bstr l)] 9)).heap.size = lo + 3 := by simp [za]
  have bb : Below W.heap.size W (Wa.alloc (.cells #[.string (bstr l)] 9)) := ba.alloc (by rw [za, ← hlo]; omega) _
  rw [za] at hbox
  have gb : W.grownBy (Wa.alloc (.cells #[.string (bstr l)] 9)) none := grown_below bb
  have y3 : Boxed (Wa.alloc (.cells #[.string (bstr l)] 9)) lo 110 (.func (.yield l0) #[] #[]) := y1.alloc _
  have y4 : Boxed (Wa.alloc (.cells #[.string (bstr l)] 9)) (lo + 1) 3 (.int .i64 0) := y2.alloc _
  have y5 : Boxed (Wa.alloc (.cells #[.string (bstr l)] 9)) b1 9 (.string (bstr l)) := (bb.block b1 l1).trans k1
  have hT5 : Tabs (Wa.alloc (.cells #[.string (bstr l)] 9)) := HTW.out.rows (fun r hr => bb.block r (by omega)) bb.size
  rw [hw'] at zb hbox gb y3 y4 y5 hT5
  rw [← hlo] at HJ HJX HY H0 l1 hB2 ⊢
  have HLO := Lib.hid hlo
  clear hlo hWa hw' bb
  clear y1 y2 ba za k1
  have HT5 := Lib.hid hT5
  clear hT5
  have hseq := all1 (m - 1) (by omega) B0 (lo + 2) w' l hbox hl HT5.out hB0 (by omega)
  refine wpIn_rangeFunc_A rfl hm1 (gf := 82) (lb := #[.pointer (some ⟨lo + 2, 0, none⟩)]) rfl trivial (enters_of Tryd.func82 (by kernel_rfl) rfl)
    hseq (fun r hr => ⟨by omega, rfl⟩) (Nat.le_refl _) (fun _ => rfl)
    (fun hi pre Wx => J hi (rowSt l pre).1 Wx ∧ Boxed Wx lo 110 (.func (.yield l0) #[] #[]) ∧ Boxed Wx (lo + 1) 3 (.int .i64 ((rowSt l pre).2 : Int)) ∧ Boxed Wx b1 9 (.string (bstr l)))
    (fun c hi pre Wx => c = .ret ∧ Jx hi (rowSt l pre).1 Wx) ?hI ?hIx ?h0 (fun x => .cells #[.int .i64 (x.1 : Int), .int .i64 (x.2.1 : Int)] 86 (0, 0))
    (fun x g => { tmps := #[.func (.yield l0) #[] #[], .pointer (some ⟨b1, 0, none⟩), .pointer (some ⟨lo, 0, none⟩), .pointer (some ⟨lo + 1, 0, none⟩), .pointer (some ⟨g, 0, none⟩), undef, undef, .string (bstr l), .func (.func 82) #[] #[.pointer (some ⟨lo + 2, 0, none⟩)], .agg #[.int .i64 (x.1 : Int), .int .i64 (x.2.1 : Int)], .int .i64 (x.2.2 : Int), undef, undef, undef, undef, undef, undef, undef, undef, undef, undef, undef, undef, undef, undef, undef, undef, undef, undef, undef, undef, undef, undef, undef], defers := [] }) ?assign ?body ?done ?stop
  case assign =>
    intro l' x Wx K hK
    obtain ⟨xa, xb, xe⟩ := x
    unfold pieceV
    gi_wp2
    exact hK
  case hI =>
    rintro hi pre A A' row ⟨h1, h2, h3, h4⟩ hg ht
    have ne : ∀ k, k < lo + 3 → some k ≠ row := fun k hk e => by have := (ht k e.symm).1; omega
    exact ⟨HJ.out hi _ A A' row h1 hg (fun r e => ⟨by have := (ht r e).1; omega, (ht r e).2⟩), h2.kept hg (ne _ (by omega)), h3.kept hg (ne _ (by omega)), h4.kept hg (ne _ (by omega))⟩
  case hIx =>
    rintro c hi pre A A' row ⟨h1, h2⟩ hg ht
    exact ⟨h1, HJX.out hi _ A A' row h2 hg (fun r e => ⟨by have := (ht r e).1; omega, (ht r e).2⟩)⟩
  case h0 =>
    intro hi hh
    exact ⟨HJ.out hi _ W _ none (H0.out hi (by omega)) gb (fun r e => by cases e), y3, y4, y5⟩
  case done =>
    rintro D hi xs Wx hD hDh rfl ⟨q1, q2, q3, q4⟩ hd
    gi_wp2
    refine ⟨by simp, .inl ⟨_, _, rfl, run_takeDeferred hd, ?_⟩⟩
    refine ⟨_, results_none rfl _ _ _, ⟨_, rfl⟩, hi, by have := HLO.out; omega, .inl ⟨_, rfl, ?_⟩⟩
    exact HJ.out hi _ Wx _ (some D) q1 (grownBy_putObj' Wx D _) (fun r e => by cases e; exact ⟨by omega, .inl hDh⟩)
  case stop =>
    rintro D hi c pre Wx hD hDh hpre ⟨rfl, q1⟩ hd
    gi_wp2
    refine ⟨by simp, .inl ⟨_, _, rfl, run_takeDeferred hd, ?_⟩⟩
    refine ⟨_, results_none rfl _ _ _, ⟨_, rfl⟩, hi, by have := HLO.out; omega, .inr ⟨_, ?_, HJX.out hi _ Wx _ (some D) q1 (grownBy_putObj' Wx D _) (fun r e => by cases e; exact ⟨by omega, .inl hDh⟩)⟩⟩
    obtain ⟨r, hr⟩ := hpre
    rw [rowsL, ← hr]
    exact rowSt_prefix l pre r
  case body =>
    rintro l' hi g pre x Wx hhi1 hhi2 hob hpx ⟨hj, y1, y2, y3⟩
    obtain ⟨xa, xb, xe⟩ := x
    have hpok := linesL_ok l (xa, xb, xe) (hpx.subset (List.mem_append_right _ (List.mem_singleton_self _)))
    have hpl := hpx.length_le
    have hll := linesL_len l
    rw [List.length_append, List.length_singleton] at hpl
    have hnum := rowSt_num l pre
    obtain ⟨k, hk⟩ : ∃ k, (rowSt l pre).2 = k := ⟨_, rfl⟩
    rw [hk] at hnum y2
    have hkl : k ≤ 1048701 := by omega
    obtain ⟨S, hS⟩ : ∃ S, pieceL l (xa, xb, xe) = S := ⟨_, rfl⟩
    have hex : (bstr l).extract xa xb = bstr S := by rw [← hS, bstr_extract]; rfl
    have hSl : S.length ≤ 1048700 := by rw [← hS, pieceL_len hpok]; omega
    have hnext : rowSt l (pre ++ [(xa, xb, xe)]) = if saysL S then ((rowSt l pre).1 ++ [(k + 1, S)], k + 1) else ((rowSt l pre).1, k + 1) := by rw [rowSt_next, rowStep, hS, hk]
    simp only at hpok
    obtain ⟨hab, hbl⟩ := hpok
    have i1 : (xa : Int) ≤ (xb : Int) := by omega
    have i2 : (xb : Int) ≤ (l.length : Int) := by omega
    have hsz := bstr_size l
    have hszS := bstr_size S
    have hgn : lo + 1 ≠ g := by omega
    have hbn : lo + 1 ≠ b1 := by omega
    have r0 : Row Wx g 86 [.int .i64 (xa : Int), .int .i64 (xb : Int)] := hob
    have z1 := y1.other (B' := lo + 1) (by omega) (.int .i64 ((k : Int) + 1))
    have z2 := y2.set (.int .i64 ((k : Int) + 1))
    have z3 := y3.other (B' := lo + 1) (by omega) (.int .i64 ((k : Int) + 1))
    have zr := r0.other (p := ⟨lo + 1, 0, none⟩) (by show lo + 1 ≠ g; omega) (.int .i64 ((k : Int) + 1))
    have g0 := zr.cell 0
    have g1 := zr.cell 1
    have c2 := y2.cell
    have f2 := y2.frozen
    have c3 := z3.cell
    simp only [List.getElem?_cons_zero, List.getElem?_cons_succ] at g0 g1
    have hlt := (Array.getElem?_eq_some_iff.1 hob).1
    have gW : Wx.grownBy (Wx.setCell ⟨lo + 1, 0, none⟩ (.int .i64 ((k : Int) + 1))) (some (lo + 1)) := grownBy_setCell' Wx (lo + 1) _
    have mt : MayTurn lo hi Wx (some (lo + 1)) := fun r e => by cases e; exact ⟨by omega, .inl (by omega)⟩
    have kW : KeepsC (fun r => r < B0 ∨ r = lo + 2) w'.heap.size hi Wx (Wx.setCell ⟨lo + 1, 0, none⟩ (.int .i64 ((k : Int) + 1))) :=
      KeepsC.grown gW (fun r hr => by have hr : r < B0 ∨ r = lo + 2 := hr; omega) (by have := (Array.getElem?_eq_some_iff.1 hob).1; omega) (fun r e => by cases e; exact ⟨fun h => by have h : lo + 1 < B0 ∨ lo + 1 = lo + 2 := h; omega, .inl (by omega)⟩)
    have KEY : Hid (∀ W2, Below (Wx.setCell ⟨lo + 1, 0, none⟩ (.int .i64 ((k : Int) + 1))).heap.size (Wx.setCell ⟨lo + 1, 0, none⟩ (.int .i64 ((k : Int) + 1))) W2 → J hi (rowSt l pre).1 W2 ∧ Boxed W2 lo 110 (.func (.yield l0) #[] #[]) ∧ Boxed W2 (lo + 1) 3 (.int .i64 ((k : Int) + 1)) ∧ Boxed W2 b1 9 (.string (bstr l)) ∧ KeepsC (fun r => r < B0 ∨ r = lo + 2) w'.heap.size hi Wx W2 ∧ hi ≤ W2.heap.size) := Lib.hid (fun W2 hb => by
      have g2 := grown_below hb
      have zs := hb.size
      have hs2 : hi ≤ (Wx.setCell ⟨lo + 1, 0, none⟩ (.int .i64 ((k : Int) + 1))).heap.size := by have := gW.size; omega
      refine ⟨HJ.out hi _ _ _ none (HJ.out hi _ Wx _ _ hj gW mt) g2 (fun r e => by cases e), z1.kept g2 (fun e => by cases e), z2.kept g2 (fun e => by cases e), z3.kept g2 (fun e => by cases e), kW.trans (KeepsC.grown g2 (fun r hr => by have hr : r < B0 ∨ r = lo + 2 := hr; omega) hs2 (fun r e => by cases e)), by omega⟩)
    have HNX := Lib.hid hnext
    have HPX := Lib.hid hpx
    obtain ⟨Wy, hWy⟩ : ∃ Wy, Wy = Wx.setCell ⟨lo + 1, 0, none⟩ (.int .i64 ((k : Int) + 1)) := ⟨_, rfl⟩
    clear z1 z2 z3 zr gW mt kW hnext hpx hnum hob r0 hj y1 y2 y3 hk hS hpl hll
    obtain ⟨T, hTd⟩ : ∃ T, S.dropWhile BlankB = T := ⟨_, rfl⟩
    have hTC := fun w1 => trimC w1 S
    rw [hTd] at hTC
    have HTC := Lib.hid hTC
    clear hTC
    rcases T with _ | ⟨c, T⟩
    · have HSY : Hid (saysL S = false) := Lib.hid (by unfold saysL; rw [hTd])
      clear hTd
      gi_wp2_with (refine ⟨trivial, fun h => (by cases h), ?_⟩; gi_at_call 66; refine (CallsIn.inRound l' (callsIn_wide.2 (HTC.out _))).mono ?_; rintro e W2 ⟨rfl, hb2⟩)
      obtain ⟨k1, k2, k3, k4, k5, k6⟩ := KEY.out W2 hb2
      refine ⟨k5, ?_⟩
      dsimp only
      rw [HNX.out, HSY.out]
      exact ⟨k1, k2, k3, k4⟩
    · have HSY : Hid (saysL S = (c != 35)) := Lib.hid (by unfold saysL; rw [hTd])
      clear hTd
      have hc0 : (bstr (c :: T))[0]'(by rw [bstr_size]; simp) = c := bstr_at (l := c :: T) (k := 0) rfl _
      by_cases hq : c = 35
      · have b36 : ((c.toNat : Int) == 35) = true := by rw [hq]; rfl
        gi_wp2_with (refine ⟨trivial, fun h => (by cases h), ?_⟩; gi_at_call 66; refine (CallsIn.inRound l' (callsIn_wide.2 (HTC.out _))).mono ?_; rintro e W2 ⟨rfl, hb2⟩)
        obtain ⟨k1, k2, k3, k4, k5, k6⟩ := KEY.out W2 hb2
        refine ⟨k5, ?_⟩
        dsimp only
        rw [HNX.out, HSY.out, hq]
        exact ⟨k1, k2, k3, k4⟩
      · have b36 : ((c.toNat : Int) == 35) = false := byte_ne (n := 35) (by decide) hq
        gi_wp2_with (refine ⟨trivial, fun h => (by cases h), ?_⟩; gi_at_call 66; refine (CallsIn.inRound l' (callsIn_wide.2 (HTC.out _))).mono ?_; rintro e W2 ⟨rfl, hb2⟩)
        obtain ⟨k1, k2, k3, k4, k5, k6⟩ := KEY.out W2 hb2
        have c2 := k2.cell
        have c4 := k3.cell
        have K2 : Hid (J hi (rowSt l pre).1 W2 ∧ Boxed W2 lo 110 (.func (.yield l0) #[] #[]) ∧ Boxed W2 (lo + 1) 3 (.int .i64 ((k : Int) + 1)) ∧ Boxed W2 b1 9 (.string (bstr l)) ∧ KeepsC (fun r => r < B0 ∨ r = lo + 2) w'.heap.size hi Wx W2 ∧ hi ≤ W2.heap.size) := Lib.hid ⟨k1, k2, k3, k4, k5, k6⟩
        clear k1 k2 k3 k4 k5 k6 hb2
        have hok : (rowSt l pre).1 ++ [(k + 1, S)] <+: rowsL l := by
          obtain ⟨r, hr⟩ := HPX.out
          have h := rowSt_prefix l (pre ++ [(xa, xb, xe)]) r
          rw [hr, HNX.out, HSY.out] at h
          have hq2 : (c != 35) = true := by simpa using hq
          rw [if_pos hq2] at h
          exact h
        have hrow : rowV7 (k + 1, S) = #[.int .i64 ((k : Int) + 1), .string (bstr S)] := by simp [rowV7]
        have HYY : Hid (∀ W3, Below W2.heap.size W2 W3 → (W3.cell? ⟨lo, 0, none⟩ = some (.func (.yield l0) #[] #[]) ∧ W3.cell? ⟨lo + 1, 0, none⟩ = some (.int .i64 ((k : Int) + 1))) ∧ ∃ (fn : Nat) (tmps : Array Value) (assign body : Code), (Instr.yield l0 #[.int .i64 ((k : Int) + 1), .string (bstr S)]).run Tryd.prog W3 = .ok (.round l0 fn tmps assign body) W3 ∧ RoundIn Fence.wide (m - 1) Tryd.prog l0 fn tmps assign body W3 fun e W' =>
          ∃ b : Bool, e = .returned (.bool b) ∧ KeepsC (fun r => r < B0 ∨ r = b1) lo hi W3 W' ∧ (b = true → J hi ((rowSt l pre).1 ++ [(k + 1, S)]) W') ∧ (b = false → Jx hi ((rowSt l pre).1 ++ [(k + 1, S)]) W')) := Lib.hid (fun W3 hb => by
          have hj3 := HJ.out hi _ W2 W3 none K2.out.1 (grown_below hb) (fun r e => by cases e)
          refine ⟨⟨(K2.out.2.1.kept (grown_below hb) (fun e => by cases e)).cell, (K2.out.2.2.1.kept (grown_below hb) (fun e => by cases e)).cell⟩, ?_⟩
          obtain ⟨fn, tmps, assign, body, hy, hR⟩ := HY.out hi _ (k + 1, S) W3 hj3 hok (by omega) (by have := K2.out.2.2.2.2.2; have := hb.size; omega)
          rw [hrow] at hy
          refine ⟨fn, tmps, assign, body, hy, hR.mono ?_⟩
          rintro e W' (⟨rfl, h1, h2⟩ | ⟨rfl, h1, h2⟩)
          · exact ⟨true, rfl, h2, fun _ => h1, fun h => (by cases h)⟩
          · exact ⟨false, rfl, h2, fun h => (by cases h), fun _ => h1⟩)
        clear hok hrow
        have HNY : Hid (rowSt l (pre ++ [(xa, xb, xe)]) = ((rowSt l pre).1 ++ [(k + 1, S)], k + 1)) := Lib.hid (by
          have hq2 : (c != 35) = true := by simpa using hq
          rw [HNX.out, HSY.out, if_pos hq2])
        have FIN : Hid (∀ W3 W4, Below W2.heap.size W2 W3 → KeepsC (fun r => r < B0 ∨ r = b1) lo hi W3 W4 → KeepsC (fun r => r < B0 ∨ r = lo + 2) (lo + 3) hi Wx W4 ∧ Boxed W4 lo 110 (.func (.yield l0) #[] #[]) ∧ Boxed W4 (lo + 1) 3 (.int .i64 ((k : Int) + 1)) ∧ Boxed W4 b1 9 (.string (bstr l))) := Lib.hid (fun W3 W4 hb hk4 => by
          have g3 := grown_below hb
          have q5 := K2.out.2.2.2.2.1
          rw [zb] at q5
          have q6 := K2.out.2.2.2.2.2
          refine ⟨(q5.trans (KeepsC.grown g3 (fun r hr => by have hr : r < B0 ∨ r = lo + 2 := hr; omega) q6 (fun r e => by cases e))).trans (hk4.sub2 (by omega) (fun r hr => ?_)), ?_, ?_, ?_⟩
          · rcases (show r < B0 ∨ r = lo + 2 from hr) with h | h
            · exact .inl (.inl h)
            · exact .inr ⟨by omega, by omega⟩
          · exact (hk4.rows lo (.inr ⟨Nat.le_refl _, by omega⟩)).trans (K2.out.2.1.kept g3 (fun e => by cases e))
          · exact (hk4.rows (lo + 1) (.inr ⟨by omega, by omega⟩)).trans (K2.out.2.2.1.kept g3 (fun e => by cases e))
          · exact (hk4.rows b1 (.inl (.inr rfl))).trans (K2.out.2.2.2.1.kept g3 (fun e => by cases e)))
        gi_region_with (first
          | (refine ⟨trivial, fun h => (by cases h), ?_⟩; gi_at_call 41; refine (CallsIn.inRound l' (callsIn_wide.2 (cloneC _ S (by omega)))).mono ?_; rintro e W3 ⟨rfl, hb3⟩; have hb3 : Below W2.heap.size W2 W3 := (((Quiet.refl W2).drewN 1).below W2.heap.size).trans hb3; obtain ⟨⟨d2, d4⟩, fn, tmps, assign, body, hy, hR⟩ := HYY.out W3 hb3; have HR := Lib.hid (RoundIn_any (l' := l') (m' := m - 1 - 1 - 1) rfl hR); have HB3 := Lib.hid hb3; clear hR hb3)
          | (refine ⟨fun h => (by first | omega | cases h), ?_⟩; refine HR.out.mono ?_; rintro e W4 ⟨b, rfl, hk4, ht4, hf4⟩; have H4 := Lib.hid (And.intro hk4 (And.intro ht4 hf4)); clear hk4 ht4 hf4))
        all_goals
          rcases b with _ | _
          all_goals gi_wp2
        all_goals
          obtain ⟨k4, t4, f4⟩ := H4.out
          obtain ⟨q1, q2, q3, q4⟩ := FIN.out _ _ HB3.out k4
          first
            | (refine ⟨q1, rfl, ?_⟩; try dsimp only
               rw [HNY.out]; exact f4 (by first | rfl | trivial))
            | (refine ⟨q1, ?_⟩; try dsimp only
               rw [HNY.out]; exact ⟨t4 (by first | rfl | trivial), q2, q3, q4⟩)
end Go.Proofs.YtmhemahkcbgaoaaDoor
