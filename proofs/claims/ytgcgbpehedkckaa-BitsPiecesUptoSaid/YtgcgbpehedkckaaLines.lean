/- Lines: an iterator that goes through another and remembers the line that it was in. -/
import Derived.Test.YtgcgbpehedkckaaWords
namespace Go.Proofs.Ytgcgbpehedkckaa
open Go.RowKit Go.Shelf
attribute [local go_sem] Oper.semAt_some
/-- what has been told, and the last line, behind some words -/
def lineStep (s : List Int × Int) (x : Int) : List Int × Int := if x / 8 = s.2 then s else (s.1 ++ [x / 8], x / 8)
def lineSt (l : List Int) : List Int × Int := l.foldl lineStep ([], -1)
theorem lineSt_next (l : List Int) (x : Int) : lineSt (l ++ [x]) = lineStep (lineSt l) x := by simp [lineSt]
def linesOf (p n : Int) : List Int := (lineSt (unitsL p n 8)).1
theorem lineSt_prefix (a b : List Int) : (lineSt a).1 <+: (lineSt (a ++ b)).1 := by
  induction b generalizing a with
  | nil => simp
  | cons x b ih =>
    have h := ih (a ++ [x])
    rw [List.append_assoc, List.singleton_append] at h
    refine List.IsPrefix.trans ?_ h
    rw [lineSt_next, lineStep]
    split
    · exact List.prefix_refl _
    · exact List.prefix_append _ _
theorem unitsL_nonneg {p n : Int} {x : Int} (h : x ∈ unitsL p n 8) : 0 ≤ x ∧ x ≤ 9223372036854775807 := by
  unfold unitsL at h
  split at h
  · cases h
  · obtain ⟨i, hi, rfl⟩ := List.mem_map.1 h
    have := List.mem_range.1 hi
    omega
set_option maxHeartbeats 1000000 in
theorem lines1 (m : Nat) (hm : 6 ≤ m) (b1 b2 : Nat) (w0 : World) (p n : Int)
    (h1 : Boxed w0 b1 3 (.int .i64 p)) (h2 : Boxed w0 b2 3 (.int .i64 n)) (hp : p ≤ 9223372036854775807) (hp0 : -9223372036854775808 ≤ p) (hn : n ≤ 9223372036854775807) :
    SeqC Fence.wide m Try.prog 52 #[.pointer (some ⟨b1, 0, none⟩), .pointer (some ⟨b2, 0, none⟩)] (fun x : Int => #[.int .i64 x]) (fun r => r = b1 ∨ r = b2) w0 (fun xs => xs = linesOf p n) (fun pre => pre <+: linesOf p n) := by
  intro l J Jx W hW hn0 hJ hJx hY h0
  have k1 : Boxed W b1 3 (.int .i64 p) := ((hW b1 (.inl rfl)).2).trans h1
  have k2 : Boxed W b2 3 (.int .i64 n) := ((hW b2 (.inr rfl)).2).trans h2
  have l1 := k1.lt
  have l2 := k2.lt
  clear hW h1 h2
  have c1 := k1.cell
  have c2 := k2.cell
  obtain ⟨lo, hlo⟩ : ∃ lo, lo = W.heap.size := ⟨_, rfl⟩
  have HJ := Lib.hid hJ
  have HJX := Lib.hid hJx
  have HY := Lib.hid hY
  have H0 := Lib.hid h0
  clear hJ hJx hY h0
  have hm1 : 1 ≤ m := by omega
  refine callsIn_of_wp_marks Try.func52 rfl trivial ?_ rfl
  simp only [Try.ntmps52, List.size_toArray, List.length_cons, List.length_nil, Nat.reduceAdd, Nat.reduceSub, Array.replicate_succ, Array.replicate_zero, List.push_toArray, List.append_toArray, List.nil_append, List.cons_append]
  gi_wp2_with (refine ⟨trivial, ?_⟩; gi_at_call 35; refine (callsIn_wide.2 (wordsC _ _ _)).mono ?_; rintro e w' ⟨rfl, hw'⟩)
  clear c1 c2
  obtain ⟨Wa, hWa⟩ : ∃ Wa, Wa = (W.alloc (.cells #[.func (.yield l) #[] #[]] 76)).alloc (.cells #[.int .i64 (-1)] 3) := ⟨_, rfl⟩
  rw [← hWa] at hw'
  have za : Wa.heap.size = lo + 2 := by rw [hWa, hlo]; simp
  have ba : Below W.heap.size W Wa := by rw [hWa]; exact ((Below.refl _ W).alloc (Nat.le_refl _) _).alloc (by simp) _
  have y1 : Boxed Wa lo 76 (.func (.yield l) #[] #[]) := by rw [hWa, hlo]; exact (Boxed.new W _ _).alloc _
  have y2 : Boxed Wa (lo + 1) 3 (.int .i64 (-1)) := by
    rw [hWa, hlo]
    have := Boxed.new (W.alloc (.cells #[.func (.yield l) #[] #[]] 76)) 3 (.int .i64 (-1))
    rwa [World.size_alloc] at this
  have hbox := wordsW_box Wa p n
  have zb := wordsW_size Wa p n
  have bb := wordsW_below Wa p n
  rw [za] at zb hbox bb
  have gb : W.grownBy (wordsW Wa p n) none := grown_below (ba.trans (bb.mono (by omega)))
  have y3 : Boxed (wordsW Wa p n) lo 76 (.func (.yield l) #[] #[]) := (bb.block lo (by omega)).trans y1
  have y4 : Boxed (wordsW Wa p n) (lo + 1) 3 (.int .i64 (-1)) := (bb.block (lo + 1) (by omega)).trans y2
  rw [hw'] at zb hbox gb y3 y4
  rw [← hlo] at HJ HJX HY H0 ⊢
  have HLO := Lib.hid hlo
  clear hlo hWa hw'
  clear y1 y2 bb ba za
  refine wpIn_rangeFunc_C rfl hm1 (gf := 57) (lb := #[.pointer (some ⟨lo + 2, 0, none⟩), .pointer (some ⟨lo + 3, 0, none⟩), .pointer (some ⟨lo + 4, 0, none⟩)]) rfl trivial (enters_of Try.func57 (by kernel_rfl) rfl)
    (units1 Fence.wide (m - 1) trivial rfl (by omega) (lo + 2) (lo + 3) (lo + 4) w' p n hbox.1 hbox.2.1 hbox.2.2 hp hp0 hn) (fun r hr => ⟨by omega, rfl⟩) (Nat.le_refl _) (fun _ => rfl)
    (fun hi pre Wx => J hi (lineSt pre).1 Wx ∧ Boxed Wx lo 76 (.func (.yield l) #[] #[]) ∧ Boxed Wx (lo + 1) 3 (.int .i64 (lineSt pre).2))
    (fun c hi pre Wx => c = .ret ∧ Jx hi (lineSt pre).1 Wx) ?hI ?hIx ?h0 (fun x => { tmps := #[.func (.yield l) #[] #[], .pointer (some ⟨b1, 0, none⟩), .pointer (some ⟨b2, 0, none⟩), .pointer (some ⟨lo, 0, none⟩), .pointer (some ⟨lo + 1, 0, none⟩), .int .i64 x, undef, .int .i64 p, .int .i64 n, wordsV (lo + 1 + 1), .int .i64 x, undef, undef, undef, undef, undef, undef, undef, undef, undef, undef, undef, undef], defers := [] }) ?assign ?body ?done ?stop
  case assign =>
    intro l' x Wx K hK
    gi_wp2
    exact hK
  case hI =>
    intro hi pre A A' row hs hg ht
    have ne : ∀ k, k < lo + 5 → some k ≠ row := fun k hk e => by have := (ht k e.symm).1; omega
    exact ⟨HJ.out hi _ A A' row hs.1 hg (fun r e => ⟨by have := (ht r e).1; omega, (ht r e).2⟩), hs.2.1.kept hg (ne _ (by omega)), hs.2.2.kept hg (ne _ (by omega))⟩
  case hIx =>
    intro c hi pre A A' row hs hg ht
    exact ⟨hs.1, HJX.out hi _ A A' row hs.2 hg (fun r e => ⟨by have := (ht r e).1; omega, (ht r e).2⟩)⟩
  case h0 =>
    intro hi hh
    exact ⟨HJ.out hi _ W w' none (H0.out hi (by omega)) gb (fun r e => by cases e), y3, y4⟩
  case done =>
    rintro D hi xs Wx hD hDh rfl ⟨hj, _, _⟩ hd
    gi_wp2
    refine ⟨by simp, .inl ⟨_, _, rfl, run_takeDeferred hd, ?_⟩⟩
    refine ⟨_, results_none rfl _ _ _, ⟨_, rfl⟩, hi, by have := HLO.out; omega, .inl ⟨_, rfl, ?_⟩⟩
    exact HJ.out hi _ Wx _ (some D) hj (grownBy_putObj' Wx D _) (fun r e => by cases e; exact ⟨by omega, .inl hDh⟩)
  case stop =>
    rintro D hi c pre Wx hD hDh hpre ⟨rfl, hj⟩ hd
    gi_wp2
    refine ⟨by simp, .inl ⟨_, _, rfl, run_takeDeferred hd, ?_⟩⟩
    refine ⟨_, results_none rfl _ _ _, ⟨_, rfl⟩, hi, by have := HLO.out; omega, .inr ⟨_, ?_, HJX.out hi _ Wx _ (some D) hj (grownBy_putObj' Wx D _) (fun r e => by cases e; exact ⟨by omega, .inl hDh⟩)⟩⟩
    obtain ⟨r, hr⟩ := hpre
    rw [linesOf, ← hr]
    exact lineSt_prefix pre r
  case body =>
    rintro l' hi pre x Wx hhi1 hhi2 hpx ⟨hj, y1, y2⟩
    have c1 := y1.cell
    have c2 := y2.cell
    have f2 := y2.frozen
    have gs : ∀ (A : World) (v : Value), A.grownBy (A.setCell ⟨lo + 1, 0, none⟩ v) (some (lo + 1)) := fun A v => grownBy_setCell' A (lo + 1) v
    have ms : ∀ A : World, MayTurn lo hi A (some (lo + 1)) := fun A r e => by cases e; exact ⟨by omega, .inl (by omega)⟩
    have ks : ∀ (A : World) (v : Value), hi ≤ A.heap.size → KeepsC (fun r => r = lo + 2 ∨ r = lo + 3 ∨ r = lo + 4) w'.heap.size hi A (A.setCell ⟨lo + 1, 0, none⟩ v) := fun A v hA =>
      KeepsC.grown (gs A v) (fun r hr => by omega) hA (fun r e => by cases e; exact ⟨by omega, .inl (by omega)⟩)
    have HG : Hid ((∀ (A : World) (v : Value), A.grownBy (A.setCell ⟨lo + 1, 0, none⟩ v) (some (lo + 1))) ∧ (∀ A : World, MayTurn lo hi A (some (lo + 1))) ∧ (∀ (A : World) (v : Value), hi ≤ A.heap.size → KeepsC (fun r => r = lo + 2 ∨ r = lo + 3 ∨ r = lo + 4) w'.heap.size hi A (A.setCell ⟨lo + 1, 0, none⟩ v))) := ⟨gs, ms, ks⟩
    clear gs ms ks
    obtain ⟨st, hst⟩ : ∃ st, st = lineSt pre := ⟨_, rfl⟩
    rw [← hst] at hj y2 c2
    have hx := unitsL_nonneg (x := x) (hpx.subset (List.mem_append_right _ (List.mem_singleton_self x)))
    have hnext : lineSt (pre ++ [x]) = lineStep st x := by rw [lineSt_next, hst]
    by_cases hsame : x / 8 = st.2
    · have hb : (x / 8 != st.2) = false := by simpa using hsame
      have hlt : (lineStep st x) = st := by rw [lineStep, if_pos hsame]
      have HS : Hid (lineSt (pre ++ [x]) = st ∧ x / 8 = st.2) := ⟨hnext.trans hlt, hsame⟩
      clear hnext hlt hsame hpx hst
      gi_wp2
      refine ⟨fun _ h => (by cases h), ?_⟩
      gi_wp2
      refine ⟨HG.out.2.2 Wx _ hhi2, ?_, y1.other (by omega) _, ?_⟩
      · rw [HS.out.1]; exact HJ.out hi _ Wx _ _ hj (HG.out.1 Wx _) (HG.out.2.1 Wx)
      · rw [HS.out.1, ← HS.out.2]; exact y2.set _
    · have hb : (x / 8 != st.2) = true := by simpa using hsame
      have hlt : (lineStep st x) = (st.1 ++ [x / 8], x / 8) := by rw [lineStep, if_neg hsame]
      have HS : Hid (lineSt (pre ++ [x]) = (st.1 ++ [x / 8], x / 8)) := hnext.trans hlt
      have hok : st.1 ++ [x / 8] <+: linesOf p n := by
        obtain ⟨r, hr⟩ := hpx
        have h := lineSt_prefix (pre ++ [x]) r
        rw [hr, HS.out] at h
        exact h
      obtain ⟨fn, tmps, assign, body, hy, hR⟩ := HY.out hi _ (x / 8) Wx hj hok (by omega) hhi2
      have HR := Lib.hid (RoundIn_any (l' := l') (m' := m - 1 - 1 - 1) rfl hR)
      clear hnext hlt hsame hpx hst hR hok
      gi_wp2
      refine ⟨fun _ => by omega, ?_⟩
      refine HR.out.mono ?_
      rintro e W3 (⟨rfl, hj3, hk3⟩ | ⟨rfl, hj3, hk3⟩)
      · have z1 : Boxed W3 lo 76 (.func (.yield l) #[] #[]) := (hk3.rows lo (.inr ⟨Nat.le_refl _, by omega⟩)).trans y1
        have z2 : Boxed W3 (lo + 1) 3 (.int .i64 st.2) := (hk3.rows (lo + 1) (.inr ⟨by omega, by omega⟩)).trans y2
        have c1 := z1.cell
        have c2 := z2.cell
        have f2 := z2.frozen
        have hsz := hk3.size
        have HK : Hid (KeepsC (fun r => r = lo + 2 ∨ r = lo + 3 ∨ r = lo + 4) w'.heap.size hi Wx W3) := hk3.sub (by omega) (fun r hr => by omega)
        have HJ3 := Lib.hid hj3
        clear hk3 hj3 hy HR
        gi_wp2
        refine ⟨HK.out.trans (HG.out.2.2 W3 _ (by omega)), ?_, z1.other (by omega) _, ?_⟩
        · rw [HS.out]; exact HJ.out hi _ W3 _ _ HJ3.out (HG.out.1 W3 _) (HG.out.2.1 W3)
        · rw [HS.out]; exact z2.set _
      · have HK : Hid (KeepsC (fun r => r = lo + 2 ∨ r = lo + 3 ∨ r = lo + 4) w'.heap.size hi Wx W3) := hk3.sub (by omega) (fun r hr => by omega)
        have HJ3 := Lib.hid hj3
        clear hk3 hj3 hy HR
        gi_wp2
        refine ⟨HK.out, rfl, ?_⟩
        rw [HS.out]; exact HJ3.out
end Go.Proofs.Ytgcgbpehedkckaa
