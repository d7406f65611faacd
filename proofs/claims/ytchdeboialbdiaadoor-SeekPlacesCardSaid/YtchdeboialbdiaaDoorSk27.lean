/- Texts joined, one behind the other (SAllC, SPlcP, SPlcQ). -/
import Derived.Test.YtchdeboialbdiaaDoorSk26
/- All pieces, by the program's iterator. -/
namespace Go.Proofs.YtchdeboialbdiaaDoor
set_option linter.unusedVariables false
set_option linter.unusedSimpArgs false
open Go.RowKit Go.Shelf
open Go.Lib hiding intOf
attribute [local go_sem] Oper.semAt_some
attribute [local go_sem] Exit.noGoto
/-- the program's All: a closure over two new boxes -/
theorem allPC (w : World) (p : Option Addr) (s : ByteArray) : Calls Tryd.prog 21 #[.pointer p, .string s] w fun e w' => e = .returned (.func (.func 43) #[] #[.pointer (some ⟨w.heap.size, 0, none⟩), .pointer (some ⟨w.heap.size + 1, 0, none⟩)]) ∧ (w.alloc (.cells #[.pointer p] 24)).alloc (.cells #[.string s] 9) = w' := by
  go_enter Tryd.func21, Tryd.ntmps21
  go_wp2
  go_ret
  exact ⟨rfl, rfl⟩
theorem foundC (w : World) (p : Option Addr) (tv : Value) (x y : Value) (h : tv = .agg #[x, y]) : Calls Tryd.prog 44 #[.pointer p, tv] w fun e w' => e = .returned (.func (.func 64) #[] #[.pointer (some ⟨w.heap.size + 1, 0, none⟩), .pointer (some ⟨w.heap.size, 0, none⟩)]) ∧ (w.alloc (.cells #[.pointer p] 24)).alloc (.cells #[x, y] 96) = w' := by
  subst h
  go_enter Tryd.func44, Tryd.ntmps44
  go_wp2
  go_ret
  exact ⟨rfl, rfl⟩
def pieceA (A : List Nat) (x : Nat × Nat) : Array Value := #[.agg #[.int .i64 ((A.getD x.1 0 : Nat) : Int), .int .i64 ((A.getD x.2 0 : Nat) : Int)]]
/-- what All's closure holds -/
def AlW (bp bs g : Nat) (lp : List UInt8) (fo : Bool) (its : List Itm) (l : List UInt8) (W : World) : Prop :=
  PatIs W g lp fo its ∧ Row W bp 24 [.pointer (some ⟨g, 0, none⟩)] ∧ Row W bs 9 [.string (bstr l)] ∧ Tabs W
theorem ReadsTok.rowsA {w W : World} {a : Option Addr} {n : Nat} {V : List Nat} (h : ReadsTok w a n V) (hr : ∀ ad, a = some ad → W.heap[ad.block]? = w.heap[ad.block]?) (hs : w.heap.size ≤ W.heap.size) : ReadsTok W a n V := by
  obtain ⟨hl, h⟩ := h
  refine ⟨hl, fun hn => ?_⟩
  obtain ⟨b, off, ha, hlt, hc⟩ := h hn
  have hb := hr _ ha
  refine ⟨b, off, ha, Nat.lt_of_lt_of_le hlt hs, fun i v hv => ?_⟩
  obtain ⟨h1, h2⟩ := hc i v hv
  exact ⟨(World.cell?_of_block (a := ⟨b, off + i * 2, none⟩) hb).trans h1, (World.cell?_of_block (a := ⟨b, off + i * 2 + 1, none⟩) hb).trans h2⟩
theorem ReadsTok.blk {w : World} {a : Option Addr} {n : Nat} {V : List Nat} (h : ReadsTok w a n V) (hn : 0 < n) {ad : Addr} (ha : a = some ad) : ad.block < w.heap.size := by
  obtain ⟨b, off, h1, h2, _⟩ := h.2 hn
  rw [ha] at h1
  cases h1
  exact h2
set_option maxHeartbeats 4000000 in
set_option maxRecDepth 100000 in
theorem allS1 (m : Nat) (hm : 8 ≤ m) (K : Nat → Prop) (w0 : World) (bp bs g : Nat) (lp l : List UInt8) (fo : Bool) (its : List Itm) (hK : Stays K w0 (AlW bp bs g lp fo its l)) (hlen : l.length ≤ 67108000) (hl : its.length ≤ 67108864) :
    SeqC Fence.wide m Tryd.prog 43 #[.pointer (some ⟨bp, 0, none⟩), .pointer (some ⟨bs, 0, none⟩)] (pieceA (atsL l)) K w0 (fun xs => xs = allP fo l its) (fun pre => pre <+: allP fo l its) := by
  intro l0 J Jx W hW hn0 hJ hJx hY h0
  have hal := ats_len l
  have hvl := vals_len l
  have hok := vals_ok l
  unfold allP at hY ⊢
  have hA0 := hK W (fun r hr => (hW r hr).2) hn0
  have hX := textOfF (W.alloc (.cells #[.func (.yield l0) #[] #[]] 102)) l (by omega) (hA0.2.2.2.below ((Below.refl _ W).alloc (Nat.le_refl _) _) hA0.2.2.2.size)
  unfold TextF at hX
  rw [World.size_alloc] at hX
  obtain ⟨V, hV⟩ : ∃ V, valsL l = V := ⟨_, rfl⟩
  obtain ⟨A, hA⟩ : ∃ A, atsL l = A := ⟨_, rfl⟩
  obtain ⟨n, hn⟩ : ∃ n, V.length = n := ⟨_, rfl⟩
  rw [hV] at hX hvl hok hal hY ⊢
  rw [hA] at hX hal hY
  rw [hn] at hX hvl hal hY ⊢
  have HN := Lib.hid hn
  have HAL := Lib.hid hal
  have HOK := Lib.hid hok
  obtain ⟨lo, hlo⟩ : ∃ lo, lo = W.heap.size := ⟨_, rfl⟩
  obtain ⟨vm, Lm, Bm, hrow, _⟩ := id hA0.1
  have p0 := hA0.2.1.cell 0
  have pl := hA0.2.1.lt
  have s0 := hA0.2.2.1.cell 0
  have sl := hA0.2.2.1.lt
  have g1 := hrow.cell 1
  have gl := hrow.lt
  have HKL : Hid (∀ r, K r → r < W.heap.size) := Lib.hid (fun r hr => by have := (hW r hr).1; omega)
  have HKW : Hid (∀ W', (∀ r, K r → W'.heap[r]? = W.heap[r]?) → W.heap.size ≤ W'.heap.size → AlW bp bs g lp fo its l W') := Lib.hid (fun W' h1 h2 => hK W' (fun r hr => (h1 r hr).trans (hW r hr).2) (Nat.le_trans hn0 h2))
  have HX := Lib.hid hX
  have HJ := Lib.hid hJ
  have HJX := Lib.hid hJx
  have HY := Lib.hid hY
  have H0 := Lib.hid h0
  have hnb : n ≤ 67108000 := by omega
  clear hJ hJx hY h0 hX hW hn0 hK hA0 hal hvl hok hn hV hA hrow
  have hm1 : 1 ≤ m := by omega
  refine callsIn_of_wp_marks Tryd.func43 rfl trivial ?_ rfl
  simp only [Tryd.ntmps43, List.size_toArray, List.length_cons, List.length_nil, Nat.reduceAdd, Nat.reduceSub, Array.replicate_succ, Array.replicate_zero, List.push_toArray, List.append_toArray, List.nil_append, List.cons_append]
  gi_wp2_with (first
    | (refine ⟨trivial, ?_⟩; gi_at_call 39; refine (callsIn_wide.2 HX.out).mono ?_; rintro e w2 ⟨a, c, a2, c2, rfl, hrt, hai, hb2, n1, n2⟩; have hbW : Below W.heap.size W w2 := ((Below.refl _ W).alloc (Nat.le_refl _) _).trans (hb2.mono (by simp)); have p2 : w2.cell? ⟨bp, 0, none⟩ = some (.pointer (some ⟨g, 0, none⟩)) := (World.cell?_of_block (a := ⟨bp, 0, none⟩) (hbW.block bp pl)).trans p0; have pl2 : bp < w2.heap.size := Nat.lt_of_lt_of_le pl hbW.size; have HBW := Lib.hid hbW; have HB2 := Lib.hid hb2; have HRT := Lib.hid hrt; have HAI := Lib.hid hai; have HNA := Lib.hid (And.intro n1 n2); clear hbW hb2 hrt hai n1 n2)
    | (refine ⟨trivial, ?_⟩; gi_at_call 44; refine (callsIn_wide.2 (foundC _ _ _ _ _ rfl)).mono ?_; rintro e w' ⟨rfl, hw'⟩))
  clear p0 s0 g1
  obtain ⟨z, hz⟩ : ∃ z, z = w2.heap.size := ⟨_, rfl⟩
  have hz1 : lo + 1 ≤ z := by have := HB2.out.size; rw [World.size_alloc] at this; omega
  have zw : w'.heap.size = z + 3 := by rw [← hw', hz]; simp
  have b3 : Below w2.heap.size w2 w' := by rw [← hw']; exact (((Below.refl _ w2).alloc (Nat.le_refl _) _).alloc (by simp) _).alloc (by simp; omega) _
  have yt : Row w' z 96 [.slice a n c, .slice a2 (n + 1) c2] := by rw [← hw', hz]; exact (Row.alloc (row_new w2 [.slice a n c, .slice a2 (n + 1) c2] _) _).alloc _
  have yp : Row w' (z + 1) 24 [.pointer (some ⟨g, 0, none⟩)] := by
    rw [← hw', hz]
    have := row_new (w2.alloc (.cells #[.slice a n c, .slice a2 (n + 1) c2] 96)) [.pointer (some ⟨g, 0, none⟩)] 24
    rw [World.size_alloc] at this
    exact this.alloc _
  have yt2 : Row w' (z + 2) 96 [.slice a n c, .slice a2 (n + 1) c2] := by
    rw [← hw', hz]
    have := row_new ((w2.alloc (.cells #[.slice a n c, .slice a2 (n + 1) c2] 96)).alloc (.cells #[.pointer (some ⟨g, 0, none⟩)] 24)) [.slice a n c, .slice a2 (n + 1) c2] 96
    rw [World.size_alloc, World.size_alloc] at this
    exact this
  have y0 : Row w2 lo 102 [.func (.yield l0) #[] #[]] := by
    rw [hlo]
    have h := row_new W [.func (.yield l0) #[] #[]] 102
    exact h.keep HB2.out (Nat.lt_succ_self _)
  have y1 : Row w' lo 102 [.func (.yield l0) #[] #[]] := y0.keep b3 y0.lt
  have hBW : Below W.heap.size W w' := HBW.out.trans (b3.mono HBW.out.size)
  have HRT' : Hid (ReadsTok w' a n V) := Lib.hid (HRT.out.keep b3 (Nat.le_refl _))
  obtain ⟨g2, rfl, g2l, hat⟩ := HAI.out.keep b3
  have hg2 : lo ≤ g2 := by have := HNA.out.2 _ rfl; rw [hlo]; simp at this; omega
  have hKw : Stays (fun r => K r ∨ (lo ≤ r ∧ r < z + 3)) w' (FoW (z + 2) (z + 1) g lp fo its a n c (some ⟨g2, 0, none⟩) c2 V) := fun W2 h1 h2 => by
    refine ⟨(HKW.out W2 (fun r hr => (h1 r (.inl hr)).trans (hBW.block r (HKL.out r hr))) (Nat.le_trans hBW.size h2)).1, row_rows yt2 (h1 _ (.inr ⟨by omega, by omega⟩)), ?_, row_rows yp (h1 _ (.inr ⟨by omega, by omega⟩))⟩
    rcases Nat.eq_zero_or_pos n with h0 | h0
    · exact ⟨HRT'.out.1, fun h => absurd h (by omega)⟩
    · exact HRT'.out.rowsA (fun ad h => h1 _ (.inr ⟨by have := HNA.out.1 ad h; omega, by have := HRT'.out.blk h0 h; omega⟩)) h2
  rw [← hlo] at HKL HJ HJX HY H0 hBW ⊢
  rw [← hz]
  have gW : W.grownBy w' none := below_other (hlo ▸ hBW)
  have HAT : Hid (∀ (k x : Nat), A[k]? = some x → w'.cell? ⟨g2, k, none⟩ = some (.int .i64 (x : Int))) := Lib.hid hat
  have HSQ := Lib.hid (found1 (m - 1) (by omega) (fun r => K r ∨ (lo ≤ r ∧ r < z + 3)) w' (z + 2) (z + 1) g lp fo its a (some ⟨g2, 0, none⟩) n c c2 V hKw HOK.out HN.out hnb hl)
  have HLO := Lib.hid hlo
  have HG2 : Hid (g2 < z + 3) := Lib.hid (by omega)
  clear hat hKw hw' b3 y0 hz p2 pl2 hlo yp yt2 hBW
  refine wpIn_rangeFunc_C rfl hm1 (gf := 64) (lb := #[.pointer (some ⟨z + 2, 0, none⟩), .pointer (some ⟨z + 1, 0, none⟩)]) rfl trivial (enters_of Tryd.func64 (by kernel_rfl) rfl)
    HSQ.out (fun r hr => ⟨(show K r ∨ (lo ≤ r ∧ r < z + 3) from hr).elim (fun h => (by have := HKL.out r h; omega)) (fun h => (by omega)), rfl⟩) (Nat.le_refl _) (fun _ => rfl)
    (fun hi pre Wx => J hi pre Wx ∧ Row Wx lo 102 [.func (.yield l0) #[] #[]] ∧ Row Wx z 96 [.slice a n c, .slice (some ⟨g2, 0, none⟩) (n + 1) c2] ∧ ∀ (k x : Nat), A[k]? = some x → Wx.cell? ⟨g2, k, none⟩ = some (.int .i64 (x : Int)))
    (fun c hi pre Wx => c = .ret ∧ Jx hi pre Wx) ?hI ?hIx ?h0
    (fun x => { tmps := #[.func (.yield l0) #[] #[], .pointer (some ⟨bp, 0, none⟩), .pointer (some ⟨bs, 0, none⟩), .pointer (some ⟨lo, 0, none⟩), .pointer (some ⟨z, 0, none⟩), .int .i64 (x.1 : Int), .int .i64 (x.2 : Int), .pointer (some ⟨g, 0, none⟩), .bool false, .bool false, .pointer (some ⟨g, 0, none⟩), .pointer (some ⟨g, 0, none⟩), .pointer (some ⟨g, 1, none⟩), .bool true, .bool false, .bool false, .string (bstr l), .agg #[.slice a n c, .slice (some ⟨g2, 0, none⟩) (n + 1) c2], .pointer (some ⟨g, 0, none⟩), .agg #[.slice a n c, .slice (some ⟨g2, 0, none⟩) (n + 1) c2], .func (.func 64) #[] #[.pointer (some ⟨z + 1 + 1, 0, none⟩), .pointer (some ⟨z + 1, 0, none⟩)], .int .i64 (x.1 : Int), .int .i64 (x.2 : Int), undef, undef, undef, undef, undef, undef, undef, undef, undef, undef, undef, undef, undef, undef], defers := [] }) ?assign ?body ?done ?stop
  case assign =>
    intro l' x Wx K hK
    obtain ⟨xa, xb⟩ := x
    unfold twoV
    gi_wp2
    exact hK
  case hI =>
    rintro hi pre B B' row ⟨h1, h2, h3, h4⟩ hg ht
    have ne : ∀ k, k < z + 3 → some k ≠ row := fun k hk e => by have := (ht k e.symm).1; omega
    exact ⟨HJ.out hi _ B B' row h1 hg (fun r e => ⟨by have := (ht r e).1; omega, (ht r e).2⟩), (hg.block _ h2.lt (ne _ (by omega))).trans h2, (hg.block _ h3.lt (ne _ (by omega))).trans h3, fun k x hx => hg.cell (h4 k x hx) (ne _ HG2.out)⟩
  case hIx =>
    rintro c hi pre B B' row ⟨h1, h2⟩ hg ht
    exact ⟨h1, HJX.out hi _ B B' row h2 hg (fun r e => ⟨by have := (ht r e).1; omega, (ht r e).2⟩)⟩
  case h0 =>
    intro hi hh
    exact ⟨HJ.out hi _ W _ none (H0.out hi (by omega)) gW (fun r e => by cases e), y1, yt, HAT.out⟩
  case done =>
    rintro D hi xs Wx hD hDh rfl ⟨q1, q2, q3, q4⟩ hd
    gi_wp2
    refine ⟨by simp, .inl ⟨_, _, rfl, run_takeDeferred hd, ?_⟩⟩
    refine ⟨_, results_none rfl _ _ _, ⟨_, rfl⟩, hi, by have := HLO.out; omega, .inl ⟨_, rfl, ?_⟩⟩
    exact HJ.out hi _ Wx _ (some D) q1 (grownBy_putObj' Wx D _) (fun r e => by cases e; exact ⟨by omega, .inl hDh⟩)
  case stop =>
    rintro D hi c pre Wx hD hDh hpre ⟨rfl, q1⟩ hd
    gi_wp2
    refine ⟨by simp, .inl ⟨_, _, rfl, run_takeDeferred hd, ?_⟩⟩
    exact ⟨_, results_none rfl _ _ _, ⟨_, rfl⟩, hi, by have := HLO.out; omega, .inr ⟨_, hpre, HJX.out hi _ Wx _ (some D) q1 (grownBy_putObj' Wx D _) (fun r e => by cases e; exact ⟨by omega, .inl hDh⟩)⟩⟩
  case body =>
    rintro l' hi pre x Wx hhi1 hhi2 hpx ⟨hj, y1, y2, y3⟩
    have hpx : pre ++ [x] <+: allGo fo V its n (n + 1) 0 := hpx
    obtain ⟨_, hxn, hxl⟩ := allGo_mem fo V its n _ _ x (hpx.subset (List.mem_append_right _ (List.mem_singleton_self _)))
    have hyn : x.2 ≤ n := by have := longest_le hxl; have := HN.out; omega
    obtain ⟨i, j⟩ := x
    simp only at hxn hyn
    have ci := y3 i _ (getD_at (by rw [HAL.out]; omega))
    have cj := y3 j _ (getD_at (by rw [HAL.out]; omega))
    obtain ⟨X, hX⟩ : ∃ X : Int, ((A.getD i 0 : Nat) : Int) = X := ⟨_, rfl⟩
    obtain ⟨Y, hY⟩ : ∃ Y : Int, ((A.getD j 0 : Nat) : Int) = Y := ⟨_, rfl⟩
    have hrow : pieceA A (i, j) = #[.agg #[.int .i64 X, .int .i64 Y]] := by unfold pieceA; rw [hX, hY]
    rw [hX] at ci
    rw [hY] at cj
    have i1 : (i : Int) < (n : Int) + 1 := by omega
    have j1 : (j : Int) < (n : Int) + 1 := by omega
    have hbd : Below Wx.heap.size Wx Wx.drew := (Below.refl _ Wx).drew
    have gd : Wx.grownBy Wx.drew none := below_other hbd
    obtain ⟨fn, tmps, assign, body, hy, hR⟩ := HY.out hi pre (i, j) Wx.drew (HJ.out hi _ Wx Wx.drew none hj gd (fun r e => by cases e)) hpx (by omega) hhi2
    rw [hrow] at hy
    have hR2 : RoundIn Fence.wide (m - 1) Tryd.prog l0 fn tmps assign body Wx.drew fun e W' => ∃ b : Bool, e = .returned (.bool b) ∧ KeepsC K lo hi Wx.drew W' ∧ (b = true → J hi (pre ++ [(i, j)]) W') ∧ (b = false → Jx hi (pre ++ [(i, j)]) W') := hR.mono (by
      rintro e W' (⟨rfl, h1, h2⟩ | ⟨rfl, h1, h2⟩)
      · exact ⟨true, rfl, h2, fun _ => h1, fun h => (by cases h)⟩
      · exact ⟨false, rfl, h2, fun h => (by cases h), fun _ => h1⟩)
    have HR := Lib.hid (RoundIn_any (l' := l') (m' := m - 1 - 1 - 1) rfl hR2)
    have c3 := y1.cell 0
    have c4 := y2.cell 1
    have FIN : Hid (∀ W4, KeepsC K lo hi Wx.drew W4 → KeepsC (fun r => K r ∨ (lo ≤ r ∧ r < z + 3)) (z + 3) hi Wx W4 ∧ Row W4 lo 102 [.func (.yield l0) #[] #[]] ∧ Row W4 z 96 [.slice a n c, .slice (some ⟨g2, 0, none⟩) (n + 1) c2] ∧ (∀ (k x : Nat), A[k]? = some x → (W4.cell? ⟨g2, k, none⟩ = some (.int .i64 (x : Int)))) ∧ W4.cell? ⟨g2, i, none⟩ = some (.int .i64 X) ∧ W4.cell? ⟨g2, j, none⟩ = some (.int .i64 Y)) := Lib.hid (fun W4 hk4 => by
      have hkd : KeepsC K lo hi Wx Wx.drew := KeepsC.grown gd (fun r hr => by have := HKL.out r hr; omega) hhi2 (fun r e => by cases e)
      have hk := hkd.trans hk4
      refine ⟨hk.sub2 (by omega) (fun r hr => ?_), (hk.rows lo (.inr ⟨Nat.le_refl _, by omega⟩)).trans y1, (hk.rows z (.inr ⟨by omega, by omega⟩)).trans y2, fun k x hx => ?_, (World.cell?_of_block (a := ⟨g2, i, none⟩) (hk.rows g2 (.inr ⟨hg2, by have := HG2.out; omega⟩))).trans ci, (World.cell?_of_block (a := ⟨g2, j, none⟩) (hk.rows g2 (.inr ⟨hg2, by have := HG2.out; omega⟩))).trans cj⟩
      · rcases (show K r ∨ (lo ≤ r ∧ r < z + 3) from hr) with h | h
        · exact .inl h
        · exact .inr ⟨by omega, by omega⟩
      · exact (World.cell?_of_block (a := ⟨g2, k, none⟩) (hk.rows g2 (.inr ⟨hg2, by have := HG2.out; omega⟩))).trans (y3 k x hx))
    clear hR hR2 hrow hX hY hxl hj y1 y2 y3 gd hbd yt
    gi_wp2
    -- region begins
    have hS0 : (fun W : World => W.cell? ⟨lo, 0, none⟩ = some (.func (.yield l0) #[] #[]) ∧ W.cell? ⟨z, 1, none⟩ = some (.slice (some ⟨g2, 0, none⟩) (n + 1) c2) ∧ W.cell? ⟨g2, i, none⟩ = some (.int .i64 X) ∧ W.cell? ⟨g2, j, none⟩ = some (.int .i64 Y)) Wx.drew := ⟨c3, c4, ci, cj⟩
    refine wpIn_round_heldI (S := (fun W : World => W.cell? ⟨lo, 0, none⟩ = some (.func (.yield l0) #[] #[]) ∧ W.cell? ⟨z, 1, none⟩ = some (.slice (some ⟨g2, 0, none⟩) (n + 1) c2) ∧ W.cell? ⟨g2, i, none⟩ = some (.int .i64 X) ∧ W.cell? ⟨g2, j, none⟩ = some (.int .i64 Y))) (by kernel_rfl) ?_
    refine tkI (i := 0) (oi := ⟨some 23, .load 102 (.tmp 3), 102, "seek.go:440", #[], none⟩) (v := ?v0) rfl ?y0 hS0 ?r0
    case y0 => (rintro w2_ ⟨s1, s2, s3, s4⟩; go_simp; try with_reducible rfl)
    try simp only [Act.put, pB, pC, pD]
    refine tkI (i := 1) (oi := ⟨some 24, .fieldAddr 96 (.tmp 4) 1, 0, "seek.go:440", #[], none⟩) (v := ?v1) rfl ?y1 hS0 ?r1
    case y1 => (rintro w2_ ⟨s1, s2, s3, s4⟩; go_simp; try with_reducible rfl)
    try simp only [Act.put, pB, pC, pD]
    refine tkI (i := 2) (oi := ⟨some 25, .load 72 (.tmp 24), 72, "seek.go:440", #[⟨1, .data⟩], none⟩) (v := ?v2) rfl ?y2 hS0 ?r2
    case y2 => (rintro w2_ ⟨s1, s2, s3, s4⟩; go_simp; try with_reducible rfl)
    try simp only [Act.put, pB, pC, pD]
    refine tkI (i := 3) (oi := ⟨some 26, .move (.tmp 5), 3, "seek.go:440", #[], none⟩) (v := ?v3) rfl ?y3 hS0 ?r3
    case y3 => (rintro w2_ ⟨s1, s2, s3, s4⟩; go_simp; try with_reducible rfl)
    try simp only [Act.put, pB, pC, pD]
    refine tkI (i := 4) (oi := ⟨some 27, .indexAddr 72 (.tmp 25) (.tmp 26), 0, "seek.go:440", #[⟨2, .data⟩, ⟨3, .data⟩], none⟩) (v := ?v4) rfl ?y4 hS0 ?r4
    case y4 => (rintro w2_ ⟨s1, s2, s3, s4⟩; have e1 := i1; go_simp; try with_reducible rfl)
    try simp only [Act.put, pB, pC, pD]
    refine tkI (i := 5) (oi := ⟨some 28, .load 3 (.tmp 27), 3, "seek.go:440", #[⟨4, .data⟩], none⟩) (v := ?v5) rfl ?y5 hS0 ?r5
    case y5 => (rintro w2_ ⟨s1, s2, s3, s4⟩; go_simp; try with_reducible rfl)
    try simp only [Act.put, pB, pC, pD]
    refine tkI (i := 6) (oi := ⟨some 29, .fieldAddr 96 (.tmp 4) 1, 0, "seek.go:440", #[], none⟩) (v := ?v6) rfl ?y6 hS0 ?r6
    case y6 => (rintro w2_ ⟨s1, s2, s3, s4⟩; go_simp; try with_reducible rfl)
    try simp only [Act.put, pB, pC, pD]
    refine tkI (i := 7) (oi := ⟨some 30, .load 72 (.tmp 29), 72, "seek.go:440", #[⟨6, .data⟩], none⟩) (v := ?v7) rfl ?y7 hS0 ?r7
    case y7 => (rintro w2_ ⟨s1, s2, s3, s4⟩; go_simp; try with_reducible rfl)
    try simp only [Act.put, pB, pC, pD]
    refine tkI (i := 8) (oi := ⟨some 31, .move (.tmp 6), 3, "seek.go:440", #[], none⟩) (v := ?v8) rfl ?y8 hS0 ?r8
    case y8 => (rintro w2_ ⟨s1, s2, s3, s4⟩; go_simp; try with_reducible rfl)
    try simp only [Act.put, pB, pC, pD]
    refine tkI (i := 9) (oi := ⟨some 32, .indexAddr 72 (.tmp 30) (.tmp 31), 0, "seek.go:440", #[⟨7, .data⟩, ⟨8, .data⟩], none⟩) (v := ?v9) rfl ?y9 hS0 ?r9
    case y9 => (rintro w2_ ⟨s1, s2, s3, s4⟩; have e1 := j1; go_simp; try with_reducible rfl)
    try simp only [Act.put, pB, pC, pD]
    refine tkI (i := 10) (oi := ⟨some 33, .load 3 (.tmp 32), 3, "seek.go:440", #[⟨9, .data⟩], none⟩) (v := ?v10) rfl ?y10 hS0 ?r10
    case y10 => (rintro w2_ ⟨s1, s2, s3, s4⟩; go_simp; try with_reducible rfl)
    try simp only [Act.put, pB, pC, pD]
    refine tkI (i := 11) (oi := ⟨some 34, .build 40 #[(0, .tmp 28), (1, .tmp 33)], 40, "seek.go:440", #[⟨5, .data⟩, ⟨10, .data⟩], none⟩) (v := ?v11) rfl ?y11 hS0 ?r11
    case y11 => (rintro w2_ ⟨s1, s2, s3, s4⟩; go_simp; try with_reducible rfl)
    try simp only [Act.put, pB, pC, pD]
    refine oneI (i := 12) (oi := ⟨some 35, .call { callee := Callee.value (.tmp 23), args := #[.tmp 34], argTypes := #[40] }, 4, "seek.go:440", #[⟨0, .data⟩, ⟨11, .data⟩], none⟩) (r := .ok (.round l0 fn tmps assign body) Wx.drew) rfl (by kernel_rfl) (by kernel_rfl) (by kernel_rfl) (by go_simp <;> exact hy) ?_
    refine ⟨fun h => (by cases h), HR.out.mono ?_⟩
    rintro e W4 ⟨b, rfl, hk4, ht4, hf4⟩
    obtain ⟨q1, q2, q3, q4, q5, q6⟩ := FIN.out _ hk4
    have hS4 : (fun W : World => W.cell? ⟨lo, 0, none⟩ = some (.func (.yield l0) #[] #[]) ∧ W.cell? ⟨z, 1, none⟩ = some (.slice (some ⟨g2, 0, none⟩) (n + 1) c2) ∧ W.cell? ⟨g2, i, none⟩ = some (.int .i64 X) ∧ W.cell? ⟨g2, j, none⟩ = some (.int .i64 Y)) W4 := ⟨q2.cell 0, q3.cell 1, q5, q6⟩
    have H4 := Lib.hid (And.intro hk4 (And.intro ht4 (And.intro hf4 (And.intro q1 (And.intro q2 (And.intro q3 q4))))))
    clear hk4 ht4 hf4 q1 q2 q3 q4 q5 q6
    refine ⟨hS4, ?_⟩
    try simp only [Act.put, pB, pC, pD]
    refine tkI (i := 13) (oi := ⟨some 36, .unOp UnOp.not 4 (.tmp 35), 4, "seek.go:440", #[⟨12, .data⟩], none⟩) (v := ?v13) rfl ?y13 hS4 ?r13
    case y13 => (rintro w2_ ⟨s1, s2, s3, s4⟩; go_simp; try with_reducible rfl)
    try simp only [Act.put, pB, pC, pD]
    refine doneI (by kernel_rfl) ?_ _
    -- region ends
    rcases b with _ | _
    all_goals gi_wp2
    all_goals
      obtain ⟨k4, t4, f4, q1, q2, q3, q4⟩ := H4.out
      first
        | exact ⟨(by first | exact q1 | (rw [zw]; exact q1)), rfl, f4 (by first | rfl | trivial)⟩
        | exact ⟨(by first | exact q1 | (rw [zw]; exact q1)), t4 (by first | rfl | trivial), q2, q3, q4⟩
end Go.Proofs.YtchdeboialbdiaaDoor
/- SeekPlaces: pieces rise and do not overlap: plain law. -/
namespace Go.Proofs.YtchdeboialbdiaaDoor
set_option linter.unusedVariables false
set_option linter.unusedSimpArgs false
open Go.Lib hiding intOf
theorem allGo_rise (fo : Bool) (V : List Nat) (its : List Itm) (n : Nat) : ∀ f i, (allGo fo V its n f i).Pairwise (fun a b => a.2 ≤ b.1 ∧ a.1 < b.1)
  | 0, i => List.Pairwise.nil
  | f + 1, i => by
    rw [allGo]
    split
    · exact List.Pairwise.nil
    · split
      · exact allGo_rise fo V its n f (i + 1)
      · rename_i j hj
        refine List.pairwise_cons.2 ⟨fun x hx => ?_, allGo_rise fo V its n f _⟩
        have := (allGo_mem fo V its n f _ x hx).1
        exact ⟨by dsimp only; omega, by dsimp only; omega⟩
/-- a piece that comes behind another begins where that one ends, or later -/
theorem all_next {fo : Bool} {V : List Nat} {its : List Itm} {n f i : Nat} {pre : List (Nat × Nat)} {y x : Nat × Nat} (h : (pre ++ [y]) ++ [x] <+: allGo fo V its n f i) : y.2 ≤ x.1 ∧ y.1 < x.1 := by
  have hp := (allGo_rise fo V its n f i).sublist h.sublist
  rw [List.append_assoc] at hp
  have := (List.pairwise_append.1 hp).2.1
  exact (List.pairwise_cons.1 this).1 x (List.mem_singleton_self _)
/-- the first piece -/
theorem all_head {fo : Bool} {V : List Nat} {its : List Itm} {n f i : Nat} {x : Nat × Nat} (h : [x] <+: allGo fo V its n f i) : ∀ k, i ≤ k → k < x.1 → longestP fo V its k = none := by
  obtain ⟨r, hr⟩ := h
  exact allGo_first fo V its n f i x r hr.symm
/-- from a place at which a piece begins: Find from any place up to it finds one that does not begin behind it -/
theorem find_upto {fo : Bool} {l : List UInt8} {its : List Itm} {k j : Nat} {fr : Int} (hk : k < (atsL l).length) (hl : longestP fo (valsL l) its k = some j) (hf : fr ≤ ((atsL l).getD k 0 : Int)) : ∃ a b, findP fo l its fr = some (a, b) ∧ a ≤ k ∧ fr ≤ ((atsL l).getD a 0 : Int) ∧ longestP fo (valsL l) its a = some b := by
  have hal := ats_len l
  have h := findGo_spec fo (valsL l) (atsL l) its fr ((valsL l).length + 1) 0
  unfold findP
  cases hg : findGo fo (valsL l) (atsL l) its fr ((valsL l).length + 1) 0 with
  | none =>
    rw [hg] at h
    have := h k (Nat.zero_le _) (by omega) hf
    rw [hl] at this
    cases this
  | some x =>
    obtain ⟨a, b⟩ := x
    rw [hg] at h
    obtain ⟨h1, h2, h3, h4, h5⟩ := h
    refine ⟨a, b, rfl, ?_, h3, h4⟩
    rcases Nat.lt_or_ge k a with hka | hka
    · have := h5 k (Nat.zero_le _) hka hf
      rw [hl] at this
      cases this
    · exact hka
/-- the first piece is what Find finds from the beginning -/
theorem find_first {fo : Bool} {l : List UInt8} {its : List Itm} {x : Nat × Nat} (h : [x] <+: allP fo l its) : findP fo l its 0 = some x := by
  have hal := ats_len l
  have hm := allGo_mem fo (valsL l) its (valsL l).length _ _ x (h.subset (List.mem_singleton_self _))
  obtain ⟨a, b, h1, h2, h3, h4⟩ := find_upto (fr := 0) (l := l) (by omega : x.1 < (atsL l).length) hm.2.2 (Int.natCast_nonneg _)
  have hh := all_head h
  have hax : a = x.1 := by
    rcases Nat.lt_or_ge a x.1 with hlt | hge
    · have := hh a (Nat.zero_le _) hlt
      rw [h4] at this
      cases this
    · omega
  subst hax
  rw [hm.2.2] at h4
  rw [h1]
  cases h4
  rfl
/-- no piece: the pattern matches nowhere -/
theorem all_none {fo : Bool} {l : List UInt8} {its : List Itm} (h : allP fo l its = []) : ∀ k, k ≤ (valsL l).length → longestP fo (valsL l) its k = none := by
  intro k hk
  cases hl : longestP fo (valsL l) its k with
  | none => rfl
  | some j =>
    obtain ⟨x, r, hx, _⟩ := allGo_ne fo (valsL l) its (valsL l).length ((valsL l).length + 1) 0 k j (by omega) (Nat.zero_le _) hk hl
    unfold allP at h
    rw [hx] at h
    cases h
theorem find_none {fo : Bool} {l : List UInt8} {its : List Itm} (h : allP fo l its = []) (fr : Int) : findP fo l its fr = none := by
  have hs := findGo_spec fo (valsL l) (atsL l) its fr ((valsL l).length + 1) 0
  unfold findP
  cases hg : findGo fo (valsL l) (atsL l) its fr ((valsL l).length + 1) 0 with
  | none => rfl
  | some x =>
    obtain ⟨a, b⟩ := x
    rw [hg] at hs
    have := all_none h a (by omega)
    rw [hs.2.2.2.1] at this
    cases this
theorem last_none {fo : Bool} {l : List UInt8} {its : List Itm} (h : allP fo l its = []) (tz : Int) : lastP fo l its tz = none := by
  have hs := lastGo_spec fo (valsL l) (atsL l) its tz ((valsL l).length + 1)
  unfold lastP
  cases hg : lastGo fo (valsL l) (atsL l) its tz ((valsL l).length + 1) with
  | none => rfl
  | some x =>
    obtain ⟨a, b⟩ := x
    rw [hg] at hs
    have := all_none h a (by omega)
    rw [hs.2.2.1] at this
    cases this
/-- the last place at which the pattern matches: none behind it -/
theorem last_some {fo : Bool} {l : List UInt8} {its : List Itm} {x : Nat × Nat} (h : [x] <+: allP fo l its) : ∃ a b, lastP fo l its (l.length : Int) = some (a, b) ∧ x.1 ≤ a ∧ a < (atsL l).length ∧ longestP fo (valsL l) its a = some b ∧ ∀ at_ : Int, ((atsL l).getD a 0 : Int) < at_ → matchP fo l its at_ = none := by
  have hal := ats_len l
  have hle : ∀ k, k < (atsL l).length → ((atsL l).getD k 0 : Int) ≤ (l.length : Int) := fun k hk => by
    have h1 : (atsL l).getD k 0 ∈ atsL l := by
      rw [List.getD_eq_getElem?_getD, List.getElem?_eq_getElem hk]
      exact List.getElem_mem _
    have := ats_le h1
    omega
  have hm := allGo_mem fo (valsL l) its (valsL l).length _ _ x (h.subset (List.mem_singleton_self _))
  have hs := lastGo_spec fo (valsL l) (atsL l) its (l.length : Int) ((valsL l).length + 1)
  unfold lastP
  cases hg : lastGo fo (valsL l) (atsL l) its (l.length : Int) ((valsL l).length + 1) with
  | none =>
    rw [hg] at hs
    have := hs x.1 (by omega) (hle _ (by omega))
    rw [hm.2.2] at this
    cases this
  | some y =>
    obtain ⟨a, b⟩ := y
    rw [hg] at hs
    obtain ⟨h1, h2, h3, h4⟩ := hs
    refine ⟨a, b, rfl, ?_, by omega, h3, fun at_ hat => ?_⟩
    · rcases Nat.lt_or_ge a x.1 with hlt | hge
      · have := h4 x.1 hlt (by omega) (hle _ (by omega))
        rw [hm.2.2] at this
        cases this
      · exact hge
    · cases hmt : matchP fo l its at_ with
      | none => rfl
      | some y =>
        unfold matchP at hmt
        obtain ⟨k, j, k1, k2, k3, k4, _⟩ := matchGo_mem hmt
        have hka : a < k := by
          rcases Nat.lt_or_ge a k with h5 | h5
          · exact h5
          · have := ats_mono (l := l) h5 (by omega)
            omega
        have := h4 k hka (by omega) (hle _ (by omega))
        rw [k4] at this
        cases this
end Go.Proofs.YtchdeboialbdiaaDoor
/- SeekPlaces: what is asked at each piece, and behind the last one: plain law. -/
namespace Go.Proofs.YtchdeboialbdiaaDoor
set_option linter.unusedVariables false
set_option linter.unusedSimpArgs false
open Go.Lib hiding intOf
theorem onRun_ge7 {fo : Bool} {V : List Nat} {it : Itm} {S : Nat → Bool} {i : Nat} (h : ∀ j, S j = true → i ≤ j) : ∀ j, onRun fo V it S j = true → i ≤ j
  | 0, hj => by cases hj
  | j + 1, hj => by
    unfold onRun at hj
    rw [Bool.and_eq_true, Bool.or_eq_true, Bool.and_eq_true] at hj
    rcases hj.1 with h1 | h1
    · have := h j h1; omega
    · have := onRun_ge7 h j h1.1; omega
theorem led_ge7 {fo : Bool} {V : List Nat} {it : Itm} {S : Nat → Bool} {i : Nat} (h : ∀ j, S j = true → i ≤ j) (j : Nat) (hj : ledP fo V it S j = true) : i ≤ j := by
  unfold ledP at hj
  split at hj
  · rw [Bool.and_eq_true] at hj; exact h j hj.1
  · rw [Bool.or_eq_true, Bool.and_eq_true] at hj
    rcases hj with h1 | h1
    · exact onRun_ge7 h j h1
    · exact h j h1.1
theorem reach_ge6 {fo : Bool} {V : List Nat} {i : Nat} : ∀ (its : List Itm) (S : Nat → Bool), (∀ j, S j = true → i ≤ j) → ∀ j, reachP fo V its S j = true → i ≤ j
  | [], S, h => h
  | it :: r, S, h => reach_ge6 r _ (fun j => led_ge7 h j)
theorem reach_ge7 {fo : Bool} {V : List Nat} {its : List Itm} {i j : Nat} (h : longestP fo V its i = some j) : i ≤ j := by
  have := lastTrue_spec (reachP fo V its fun j => decide (j = i)) V.length
  unfold longestP at h
  rw [h] at this
  exact reach_ge6 its _ (fun k hk => by have := of_decide_eq_true hk; omega) j this.2.1
/-- up to where the pieces go -/
def toP (A : List Nat) (pre : List (Nat × Nat)) : Nat := pre.getLast?.elim 0 fun x => A.getD x.2 0
theorem toP_snoc (A : List Nat) (pre : List (Nat × Nat)) (x : Nat × Nat) : toP A (pre ++ [x]) = A.getD x.2 0 := by
  unfold toP
  rw [List.getLast?_append]
  rfl
theorem ats_in {l : List UInt8} {i : Nat} (h : i < (atsL l).length) : (atsL l).getD i 0 ∈ atsL l := by
  rw [List.getD_eq_getElem?_getD, List.getElem?_eq_getElem h]
  exact List.getElem_mem h
theorem plc_step {fo : Bool} {l : List UInt8} {its : List Itm} {pre : List (Nat × Nat)} {x : Nat × Nat} (h : pre ++ [x] <+: allP fo l its) :
    matchP fo l its (((atsL l).getD x.1 0 : Nat) : Int) = some ((atsL l).getD x.2 0) ∧ toP (atsL l) pre ≤ (atsL l).getD x.1 0 ∧ (atsL l).getD x.1 0 ≤ (atsL l).getD x.2 0 ∧ (atsL l).getD x.1 0 ∈ atsL l ∧ (atsL l).getD x.2 0 ∈ atsL l ∧
    ∃ a b, findP fo l its ((toP (atsL l) pre : Nat) : Int) = some (a, b) ∧ (atsL l).getD a 0 ≤ (atsL l).getD x.1 0 ∧ (pre = [] → (a, b) = x) := by
  have hal := ats_len l
  have hm := allGo_mem fo (valsL l) its (valsL l).length _ _ x (h.subset (List.mem_append_right _ (List.mem_singleton_self _)))
  obtain ⟨_, h1, h2⟩ := hm
  have h3 := reach_ge7 h2
  have h4 := longest_le h2
  have hto : toP (atsL l) pre ≤ (atsL l).getD x.1 0 := by
    rcases List.eq_nil_or_concat pre with rfl | ⟨p, y, rfl⟩
    · exact Nat.zero_le _
    · rw [List.concat_eq_append, toP_snoc]
      rw [List.concat_eq_append] at h
      exact ats_mono (all_next h).1 (by omega)
  have hfr : ((toP (atsL l) pre : Nat) : Int) ≤ (((atsL l).getD x.1 0 : Nat) : Int) := by omega
  obtain ⟨a, b, h5, h6, h7, h8⟩ := find_upto (fr := ((toP (atsL l) pre : Nat) : Int)) (by omega : x.1 < (atsL l).length) h2 hfr
  refine ⟨by rw [match_at (by omega), h2]; rfl, hto, ats_mono h3 (by omega), ats_in (by omega), ats_in (by omega), a, b, h5, ats_mono h6 (by omega), fun hp => ?_⟩
  subst hp
  have h9 := find_first h
  have h10 : toP (atsL l) [] = 0 := rfl
  rw [h10] at h5
  exact Option.some.inj (h5.symm.trans h9)
theorem plc_none {fo : Bool} {l : List UInt8} {its : List Itm} (h : allP fo l its = []) : findP fo l its 0 = none ∧ lastP fo l its (l.length : Int) = none := ⟨find_none h 0, last_none h _⟩
theorem ats_le_len {l : List UInt8} {i : Nat} (h : i < (atsL l).length) : (atsL l).getD i 0 ≤ l.length := by
  have h1 := ats_in h
  exact ats_le h1
theorem plc_some {fo : Bool} {l : List UInt8} {its : List Itm} {x : Nat × Nat} {r : List (Nat × Nat)} (h : allP fo l its = x :: r) :
    findP fo l its 0 = some x ∧ ∃ a b, lastP fo l its (l.length : Int) = some (a, b) ∧ (atsL l).getD x.1 0 ≤ (atsL l).getD a 0 ∧ (atsL l).getD b 0 ≤ l.length ∧ (atsL l).getD a 0 ≤ l.length ∧ ∀ at_ : Int, (((atsL l).getD a 0 : Nat) : Int) < at_ → matchP fo l its at_ = none := by
  have hx : [x] <+: allP fo l its := by rw [h]; exact ⟨r, rfl⟩
  obtain ⟨a, b, h1, h2, h3, h4, h5⟩ := last_some hx
  have hal := ats_len l
  exact ⟨find_first hx, a, b, h1, ats_mono h2 h3, ats_le_len (by have := longest_le h4; omega), ats_le_len h3, h5⟩
end Go.Proofs.YtchdeboialbdiaaDoor
