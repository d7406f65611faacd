/- Texts joined, one behind the other (DUtf, DLineA, DiffP, DStr). -/
import Derived.Test.YtnbihjocdlpplaaDoorDp03
import Derived.Test.YtnbihjocdlpplaaDoorShelf
import Derived.Lib.QuoteLoop
/- The library's tables in the world; the first character of a text. -/
namespace Go.Proofs.YtnbihjocdlpplaaDoor
set_option linter.unusedVariables false
set_option linter.unusedSimpArgs false
open Go.RowKit Go.Lib
/-- the tables of the library that are read here -/
structure Tabs (w : World) : Prop where
  utf : Lib.Utf8Tabs 2 3 w
  size : 4 ≤ w.heap.size
theorem Tabs.below {B : Nat} {w w' : World} (h : Tabs w) (b : Below B w w') (hB : 4 ≤ B) : Tabs w' := by
  refine ⟨⟨fun c hc => ?_, fun i hi => ?_⟩, Nat.le_trans h.size b.size⟩
  · rw [b.cell (by simp; omega)]; exact h.utf.1 c hc
  · rw [b.cell (by simp; omega), b.cell (by simp; omega)]; exact h.utf.2 i hi
theorem Tabs.next {w w' : World} (h : Tabs w) (b : Below w.heap.size w w') : Tabs w' := h.below b h.size
theorem cell_rows {w w' : World} {p : Addr} (h : w'.heap[p.block]? = w.heap[p.block]?) : w'.cell? p = w.cell? p := by
  unfold World.cell?
  rw [h]
theorem Tabs.rows {w w' : World} (h : Tabs w) (hr : ∀ r, r < 4 → w'.heap[r]? = w.heap[r]?) (hs : w.heap.size ≤ w'.heap.size) : Tabs w' := by
  refine ⟨⟨fun c hc => ?_, fun i hi => ?_⟩, Nat.le_trans h.size hs⟩
  · rw [cell_rows (hr _ (by simp))]; exact h.utf.1 c hc
  · rw [cell_rows (hr _ (by simp)), cell_rows (hr _ (by simp))]; exact h.utf.2 i hi
theorem decodeGo_L {l : List UInt8} (hl : l ≠ []) : Lib.decodeGo (bstr l) = decodeL l := by
  have : (bstr l).size ≠ 0 := by rw [bstr_size]; exact fun e => hl (List.eq_nil_of_length_eq_zero e)
  simp only [Lib.decodeGo, if_neg this]
  rfl
set_option maxHeartbeats 400000 in
theorem wideC (w : World) (l : List UInt8) (hl : l ≠ []) (hT : Tabs w) :
    Calls Tryd.prog 100 #[.string (bstr l), .int .i32 ((decodeL l).1 : Int)] w fun e w' => e = .returned (.int .i64 ((decodeL l).2 : Int)) ∧ Below w.heap.size w w' := by
  have hlen := runeLen_decode l
  have hgo := decodeGo_L hl
  have hR := dec_rune_le (l := l)
  obtain ⟨R, hRe⟩ : ∃ R, (decodeL l).1 = R := ⟨_, rfl⟩
  obtain ⟨K, hKe⟩ : ∃ K, (decodeL l).2 = K := ⟨_, rfl⟩
  rw [hRe] at hlen hR ⊢
  rw [hKe] at hlen ⊢
  by_cases h : R = 65533
  · have c := Tryd.utf8_DecodeRuneInString (bstr l) w hT.utf
    rw [hgo, hRe, hKe] at c
    subst h
    clear hgo hlen hR hRe hKe
    have C := Lib.hid c
    clear c
    go_enter Tryd.func100, Tryd.ntmps100
    go_wp2_with (go_at_call 102; refine (C.out).mono ?_; rintro e w' ⟨rfl, hb⟩)
    go_ret
    exact ⟨rfl, hb⟩
  · have hh : ((R : Int) != 65533) = true := by simp; omega
    have HL := Lib.hid (hlen h)
    clear hgo hlen hRe hKe
    go_enter Tryd.func100, Tryd.ntmps100
    go_wp2_with (go_at_call 101; refine (Tryd.utf8_RuneLen _ _).mono ?_; rintro e w' ⟨rfl, rfl⟩)
    go_ret
    rw [HL.out]
    exact ⟨rfl, Below.refl _ _⟩
theorem iter_below (w : World) (s : ByteArray) (p : Nat) : Below w.heap.size w (w.iter s p) := (Below.refl _ w).alloc (Nat.le_refl _) _
theorem iter_size (w : World) (s : ByteArray) (p : Nat) : (w.iter s p).heap.size = w.heap.size + 1 := by simp [World.iter]
theorem next_first (w : World) (l : List UInt8) (hl : l ≠ []) (ty : TypeId) :
    (Instr.next (.pointer (some ⟨w.heap.size, 0, none⟩)) true ty).run Tryd.prog (w.iter (bstr l) 0) = .ok (.tuple #[.bool true, .int .i64 0, .int .i32 ((decodeL l).1 : Int)]) (w.iter (bstr l) (decodeL l).2) := by
  have hpos : 0 < (bstr l).size := by rw [bstr_size]; exact List.length_pos_iff.2 hl
  have := run_next_any (P := Tryd.prog) w (bstr l) 0 ty hpos
  have hd : Utf8.decode (bstr l) 0 = decodeL l := rfl
  rw [hd] at this
  simpa using this
theorem right_bool (l : List UInt8) : decide (RightD (decodeL l)) = (((decodeL l).1 : Int) != 65533 || decide ((1 : Int) < ((decodeL l).2 : Int))) := by
  rw [Bool.eq_iff_iff]
  simp only [decide_eq_true_eq, Bool.or_eq_true, bne_iff_ne, ne_eq]
  unfold RightD
  omega
set_option maxHeartbeats 400000 in
/-- the first character -/
theorem firstC (w : World) (l : List UInt8) (hl : l ≠ []) (hT : Tabs w) :
    Calls Tryd.prog 99 #[.string (bstr l)] w fun e w' => e = .returned (.tuple #[.int .i32 ((decodeL l).1 : Int), .int .i64 ((decodeL l).2 : Int), .bool (decide (RightD (decodeL l)))]) ∧ Below w.heap.size w w' := by
  have hnx := next_first w l hl
  have hw := wideC (w.iter (bstr l) (decodeL l).2) l hl (hT.next (iter_below _ _ _))
  have hr := right_bool l
  have hb0 := iter_below w (bstr l) (decodeL l).2
  rw [iter_size] at hw
  obtain ⟨R, hRe⟩ : ∃ R, (decodeL l).1 = R := ⟨_, rfl⟩
  obtain ⟨K, hKe⟩ : ∃ K, (decodeL l).2 = K := ⟨_, rfl⟩
  rw [hr]
  rw [hRe, hKe] at hnx hw ⊢
  rw [hKe] at hb0
  clear hRe hKe hr
  have HW := Lib.hid hw
  have HB := Lib.hid hb0
  clear hw hb0
  go_enter Tryd.func99, Tryd.ntmps99
  go_wp2
  refine wp_loop_rounds 1 ?_
  rw [rounds_succ]
  go_wp2_with fail
  refine (HW.out).mono ?_
  rintro e w' ⟨rfl, hb⟩
  go_wp2
  all_goals go_ret3
  all_goals first
    | exact ⟨rfl, HB.out.trans (hb.mono (by omega))⟩
    | (refine ⟨?_, HB.out.trans (hb.mono (by omega))⟩; simp_all)
@[go_sem, simp] theorem bstr_toList (l : List UInt8) : (bstr l).toList = l := by
  rw [Lib.toList_data]; rfl
theorem bstr_get (l : List UInt8) (k : Nat) (h : k < (bstr l).size) : (bstr l)[k] = l[k]'(by simpa using h) := rfl
theorem bstr_at {l : List UInt8} {k : Nat} {x : UInt8} (hx : l[k]? = some x) (h : k < (bstr l).size) : (bstr l)[k] = x := by
  rw [bstr_get]
  rw [List.getElem?_eq_some_iff] at hx
  exact hx.2
theorem some_at {l : List UInt8} {k : Nat} (h : k < l.length) : ∃ x, l[k]? = some x := ⟨l[k], List.getElem?_eq_getElem h⟩
theorem byte_ne {x : UInt8} {n : Nat} (hn : n < 256) (h : x ≠ UInt8.ofNat n) : ((x.toNat : Int) == (n : Int)) = false := by
  rw [beq_eq_false_iff_ne]
  intro e
  apply h
  apply UInt8.toNat_inj.1
  rw [UInt8.toNat_ofNat_of_lt' (by simpa using hn)]
  omega
theorem nat_ne {a : Nat} {b : Nat} (h : a ≠ b) : ((a : Int) == (b : Int)) = false := by rw [beq_eq_false_iff_ne]; omega
end Go.Proofs.YtnbihjocdlpplaaDoor
/- Where a line ends, by both. -/
namespace Go.Proofs.YtnbihjocdlpplaaDoor
set_option linter.unusedVariables false
set_option linter.unusedSimpArgs false
open Go.RowKit
open Go.Lib hiding intOf
def EndQ (w : World) (l : List UInt8) (i : Nat) (e : Ending) (w' : World) : Prop := ∃ n : Int, e = .returned (.tuple #[.int .i64 n, .bool (endL l i != 0)]) ∧ Below w.heap.size w w' ∧ (endL l i ≠ 0 → n = (endL l i : Int))
theorem endQ_of {w w' : World} {l : List UInt8} {i k : Nat} {b : Bool} {n : Int} (h : endL l i = k) (hb : (k != 0) = b) (hn : k ≠ 0 → n = (k : Int)) (hw : Below w.heap.size w w') : EndQ w l i (.returned (.tuple #[.int .i64 n, .bool b])) w' := by
  subst h hb
  exact ⟨n, rfl, hw, hn⟩
theorem endL_nl {l : List UInt8} {i : Nat} (hi : i < l.length) (h : (l.getD i 0).toNat = 10) : endL l i = if 0 < i ∧ (l.getD (i - 1) 0).toNat = 13 then 0 else 1 := by
  unfold endL; rw [if_neg (by omega), if_pos h]
theorem endL_cr {l : List UInt8} {i : Nat} (hi : i < l.length) (h : (l.getD i 0).toNat = 13) : endL l i = if i + 1 < l.length ∧ (l.getD (i + 1) 0).toNat = 10 then 2 else 1 := by
  unfold endL; rw [if_neg (by omega), if_neg (by omega), if_pos h]
theorem endL_ch {l : List UInt8} {i : Nat} (hi : i < l.length) (h : (l.getD i 0).toNat ≠ 10) (h2 : (l.getD i 0).toNat ≠ 13) : endL l i = if (decodeL (l.drop i)).1 = 133 ∨ (decodeL (l.drop i)).1 = 8232 ∨ (decodeL (l.drop i)).1 = 8233 then (decodeL (l.drop i)).2 else 0 := by
  unfold endL; rw [if_neg (by omega), if_neg h, if_neg h2]
theorem getD_some {l : List UInt8} {i : Nat} {x : UInt8} (h : l[i]? = some x) : l.getD i 0 = x := by rw [List.getD_eq_getElem?_getD, h]; rfl
set_option maxHeartbeats 4000000 in
theorem endC (w : World) (l : List UInt8) (i : Nat) (hi : i < l.length) (hm : l.length ≤ 140737488355328) (hT : Tabs w) :
    Calls Tryd.prog 94 #[.string (bstr l), .int .i64 (i : Int)] w (EndQ w l i) := by
  obtain ⟨x, hx⟩ := some_at (l := l) (k := i) hi
  have hg := getD_some hx
  have i0 : i < (bstr l).size := by rw [bstr_size]; exact hi
  have ha : (bstr l)[i]'i0 = x := bstr_at hx i0
  have hsz := bstr_size l
  by_cases h10 : x.toNat = 10
  · have hE := endL_nl hi (by rw [hg]; exact h10)
    by_cases hp : 0 < i
    · obtain ⟨y, hy⟩ := some_at (l := l) (k := i - 1) (by omega)
      have i1 : i - 1 < (bstr l).size := by omega
      have hya : (bstr l)[i - 1]'i1 = y := bstr_at hy i1
      rw [getD_some hy] at hE
      by_cases h13 : y.toNat = 13
      · rw [if_pos ⟨hp, h13⟩] at hE
        have HE := Lib.hid hE
        have t1 : ((x.toNat : Int) == 10) = true := by rw [h10]; rfl
        have t2 : ((y.toNat : Int) == 13) = true := by rw [h13]; rfl
        clear hE hx hg hy hT h10 h13
        go_enter Tryd.func94, Tryd.ntmps94
        go_wp2
        go_ret2
        exact endQ_of HE.out rfl (by simp) (Below.refl _ _)
      · rw [if_neg (fun h => h13 h.2)] at hE
        have HE := Lib.hid hE
        have t1 : ((x.toNat : Int) == 10) = true := by rw [h10]; rfl
        have t2 : ((y.toNat : Int) == 13) = false := nat_ne (b := 13) h13
        clear hE hx hg hy hT h10 h13
        go_enter Tryd.func94, Tryd.ntmps94
        go_wp2
        go_ret2
        exact endQ_of HE.out rfl (by simp) (Below.refl _ _)
    · obtain rfl : i = 0 := by omega
      rw [if_neg (fun h => hp h.1)] at hE
      have HE := Lib.hid hE
      have t1 : ((x.toNat : Int) == 10) = true := by rw [h10]; rfl
      have hl0 : ¬ l = [] := List.length_pos_iff.1 hi
      clear hE hx hg hT h10 hp
      go_enter Tryd.func94, Tryd.ntmps94
      go_wp2
      go_ret2
      exact endQ_of HE.out rfl (by simp) (Below.refl _ _)
  have t1 : ((x.toNat : Int) == 10) = false := nat_ne (b := 10) h10
  by_cases h13 : x.toNat = 13
  · have hE := endL_cr hi (by rw [hg]; exact h13)
    have t2 : ((x.toNat : Int) == 13) = true := by rw [h13]; rfl
    by_cases hp : i + 1 < l.length
    · obtain ⟨y, hy⟩ := some_at (l := l) (k := i + 1) hp
      have i1 : i + 1 < (bstr l).size := by omega
      have hya : (bstr l)[i + 1]'i1 = y := bstr_at hy i1
      rw [getD_some hy] at hE
      by_cases hy10 : y.toNat = 10
      · rw [if_pos ⟨hp, hy10⟩] at hE
        have HE := Lib.hid hE
        have t3 : ((y.toNat : Int) == 10) = true := by rw [hy10]; rfl
        clear hE hx hg hy hT h10 h13 hy10
        go_enter Tryd.func94, Tryd.ntmps94
        go_wp2
        go_ret2
        exact endQ_of HE.out rfl (by simp) (Below.refl _ _)
      · rw [if_neg (fun h => hy10 h.2)] at hE
        have HE := Lib.hid hE
        have t3 : ((y.toNat : Int) == 10) = false := nat_ne (b := 10) hy10
        clear hE hx hg hy hT h10 h13 hy10
        go_enter Tryd.func94, Tryd.ntmps94
        go_wp2
        go_ret2
        exact endQ_of HE.out rfl (by simp) (Below.refl _ _)
    · rw [if_neg (fun h => hp h.1)] at hE
      have HE := Lib.hid hE
      clear hE hx hg hT h10 h13
      go_enter Tryd.func94, Tryd.ntmps94
      go_wp2
      go_ret2
      exact endQ_of HE.out rfl (by simp) (Below.refl _ _)
  · have hE := endL_ch hi (by rw [hg]; exact h10) (by rw [hg]; exact h13)
    have t2 : ((x.toNat : Int) == 13) = false := nat_ne (b := 13) h13
    have hd : l.drop i ≠ [] := drop_ne (by omega)
    obtain ⟨D, hD⟩ : ∃ D, l.drop i = D := ⟨_, rfl⟩
    rw [hD] at hE hd
    have hF := firstC w D hd hT
    have hr : (decodeL D).1 = 133 ∨ (decodeL D).1 = 8232 ∨ (decodeL D).1 = 8233 → RightD (decodeL D) := fun h => .inl (by omega)
    have hw1 := dec_width_one (l := D)
    have htk : D.take (l.length - i) = D := List.take_of_length_le (by rw [← hD, List.length_drop]; exact Nat.le_refl _)
    obtain ⟨R, hR⟩ : ∃ R, (decodeL D).1 = R := ⟨_, rfl⟩
    obtain ⟨K, hK⟩ : ∃ K, (decodeL D).2 = K := ⟨_, rfl⟩
    by_cases hc : R = 133 ∨ R = 8232 ∨ R = 8233
    · rw [decide_eq_true (hr (by rw [hR]; exact hc))] at hF
      rw [hR, hK, if_pos hc] at hE
      rw [hR, hK] at hF
      rw [hK] at hw1
      have HF := Lib.hid hF
      have HE := Lib.hid hE
      clear hF hE hr hR hK hT hx hg hd h10 h13
      rcases hc with rfl | rfl | rfl
      all_goals
        go_enter Tryd.func94, Tryd.ntmps94
        go_wp2_with (go_at_call 99; refine (HF.out).mono ?_; rintro e w1 ⟨rfl, hb1⟩)
        go_ret2
        exact endQ_of HE.out (by rw [bne_iff_ne]; omega) (fun _ => rfl) hb1
    · rw [hR, hK, if_neg hc] at hE
      rw [hR, hK] at hF
      have HF := Lib.hid hF
      have HE := Lib.hid hE
      have s1 : ((R : Int) == 133) = false := nat_ne (b := 133) (by omega)
      have s2 : ((R : Int) == 8232) = false := nat_ne (b := 8232) (by omega)
      have s3 : ((R : Int) == 8233) = false := nat_ne (b := 8233) (by omega)
      clear hF hE hr hR hK hT hx hg hd h10 h13 hc
      go_enter Tryd.func94, Tryd.ntmps94
      go_wp2_with (go_at_call 99; refine (HF.out).mono ?_; rintro e w1 ⟨rfl, hb1⟩)
      go_ret2
      exact endQ_of HE.out rfl (by simp) hb1
set_option maxHeartbeats 8000000 in
theorem endR (w : World) (l : List UInt8) (i : Nat) (hi : i < l.length) (hm : l.length ≤ 140737488355328) :
    Calls Tryd.prog 97 #[.string (bstr l), .int .i64 (i : Int)] w (EndQ w l i) := by
  obtain ⟨D, hD⟩ : ∃ D, l.drop i = D := ⟨_, rfl⟩
  have hDl : D.length = l.length - i := by rw [← hD, List.length_drop]
  have hgD : ∀ j, D.getD j 0 = l.getD (i + j) 0 := fun j => by rw [← hD, getD_drop]
  obtain ⟨x, hx⟩ := some_at (l := D) (k := 0) (by omega)
  have hgx := getD_some hx
  have htk : D.take (l.length - i) = D := List.take_of_length_le (by omega)
  have hsz := bstr_size l
  have hsD := bstr_size D
  have i0 : 0 < (bstr D).size := by omega
  have ha : (bstr D)[0]'i0 = x := bstr_at hx i0
  have hg : l.getD i 0 = x := by rw [← hgx, hgD]; rfl
  have hi' : (i : Int) < (l.length : Int) := by omega
  by_cases h10 : x.toNat = 10
  · have hE := endL_nl hi (by rw [hg]; exact h10)
    have t1 : ((x.toNat : Int) == 10) = true := by rw [h10]; rfl
    have t2 : ((x.toNat : Int) == 13) = false := nat_ne (b := 13) (by omega)
    by_cases hp : 0 < i
    · obtain ⟨y, hy⟩ := some_at (l := l) (k := i - 1) (by omega)
      have i1 : i - 1 < (bstr l).size := by omega
      have hya : (bstr l)[i - 1]'i1 = y := bstr_at hy i1
      have hi0 : ¬ i = 0 := by omega
      have hi2 : ((i : Int) == 0) = false := nat_ne (b := 0) hi0
      rw [getD_some hy] at hE
      by_cases h13 : y.toNat = 13
      · rw [if_pos ⟨hp, h13⟩] at hE
        have HE := Lib.hid hE
        have t3 : ((y.toNat : Int) != 13) = false := by rw [h13]; rfl
        clear hE hx hg hy h10 h13 hgD hgx
        by_cases h1 : 1 < D.length
        all_goals
          go_enter Tryd.func97, Tryd.ntmps97
          go_wp2
          go_quiet (fail)
          go_wp2
          go_ret2
          exact endQ_of HE.out rfl (by simp) (((Quiet.refl w).drewN _).below _)
      · rw [if_neg (fun h => h13 h.2)] at hE
        have HE := Lib.hid hE
        have t3 : ((y.toNat : Int) != 13) = true := by rw [bne_iff_ne]; omega
        clear hE hx hg hy h10 h13 hgD hgx
        by_cases h1 : 1 < D.length
        all_goals
          go_enter Tryd.func97, Tryd.ntmps97
          go_wp2
          go_quiet (fail)
          go_wp2
          go_ret2
          exact endQ_of HE.out rfl (by simp) (((Quiet.refl w).drewN _).below _)
    · obtain rfl : i = 0 := by omega
      rw [if_neg (fun h => hp h.1)] at hE
      have HE := Lib.hid hE
      have hl0 : ¬ l = [] := List.length_pos_iff.1 hi
      obtain rfl : l = D := hD
      have htk2 : l.take l.length = l := List.take_of_length_le (Nat.le_refl _)
      clear hE hx hg h10 hp hgD hgx htk hDl hsD hi'
      by_cases h1 : 1 < l.length
      all_goals
        go_enter Tryd.func97, Tryd.ntmps97
        go_wp2
        go_quiet (fail)
        go_wp2
        go_ret2
        exact endQ_of HE.out rfl (by simp) (((Quiet.refl w).drewN _).below _)
  have t1 : ((x.toNat : Int) == 10) = false := nat_ne (b := 10) h10
  by_cases h13 : x.toNat = 13
  · have hE := endL_cr hi (by rw [hg]; exact h13)
    have t2 : ((x.toNat : Int) == 13) = true := by rw [h13]; rfl
    by_cases hp : 1 < D.length
    · obtain ⟨y, hy⟩ := some_at (l := D) (k := 1) hp
      have i1 : 1 < (bstr D).size := by omega
      have hya : (bstr D)[1]'i1 = y := bstr_at hy i1
      rw [← hgD 1, getD_some hy] at hE
      by_cases hy10 : y.toNat = 10
      · rw [if_pos ⟨by omega, hy10⟩] at hE
        have HE := Lib.hid hE
        have t3 : ((y.toNat : Int) == 10) = true := by rw [hy10]; rfl
        clear hE hx hg hy h10 h13 hgD hgx hy10
        go_enter Tryd.func97, Tryd.ntmps97
        go_wp2
        go_ret2
        exact endQ_of HE.out rfl (by simp) (Below.refl _ _)
      · rw [if_neg (fun h => hy10 h.2)] at hE
        have HE := Lib.hid hE
        have t3 : ((y.toNat : Int) == 10) = false := nat_ne (b := 10) hy10
        clear hE hx hg hy h10 h13 hgD hgx hy10
        go_enter Tryd.func97, Tryd.ntmps97
        go_wp2
        go_ret2
        exact endQ_of HE.out rfl (by simp) (Below.refl _ _)
    · rw [if_neg (fun h => hp (by omega))] at hE
      have HE := Lib.hid hE
      clear hE hx hg h10 h13 hgD hgx
      go_enter Tryd.func97, Tryd.ntmps97
      go_wp2
      go_ret2
      exact endQ_of HE.out rfl (by simp) (Below.refl _ _)
  · have hE := endL_ch hi (by rw [hg]; exact h10) (by rw [hg]; exact h13)
    have t2 : ((x.toNat : Int) == 13) = false := nat_ne (b := 13) h13
    have hS := dec_sep (D := D)
    rw [hD] at hE
    rw [hgx] at hS
    rcases hS with ⟨e1, e2, h1, hx194, hy133⟩ | ⟨e1, e2, h2, hx226, hy128, hz⟩ | ⟨hn, hn1, hn2⟩
    · rw [if_pos (.inl e1), e2] at hE
      obtain ⟨y, hy⟩ := some_at (l := D) (k := 1) h1
      have i1 : 1 < (bstr D).size := by omega
      have hya : (bstr D)[1]'i1 = y := bstr_at hy i1
      rw [getD_some hy] at hy133
      have HE := Lib.hid hE
      have t3 : ((x.toNat : Int) == 194) = true := by rw [hx194]; rfl
      have t4 : ((y.toNat : Int) == 133) = true := by rw [hy133]; rfl
      clear hE hx hg hy h10 h13 hgD hgx e1 e2 hx194 hy133
      go_enter Tryd.func97, Tryd.ntmps97
      go_wp2
      go_ret2
      exact endQ_of HE.out rfl (by simp) (Below.refl _ _)
    · rw [if_pos (.inr e1), e2] at hE
      obtain ⟨y, hy⟩ := some_at (l := D) (k := 1) (by omega)
      obtain ⟨z, hz'⟩ := some_at (l := D) (k := 2) h2
      have i1 : 1 < (bstr D).size := by omega
      have i2 : 2 < (bstr D).size := by omega
      have hya : (bstr D)[1]'i1 = y := bstr_at hy i1
      have hza : (bstr D)[2]'i2 = z := bstr_at hz' i2
      rw [getD_some hy] at hy128
      rw [getD_some hz'] at hz
      have HE := Lib.hid hE
      have h1 : 1 < D.length := by omega
      have t3 : ((x.toNat : Int) == 194) = false := by rw [hx226]; rfl
      have t5 : ((x.toNat : Int) == 226) = true := by rw [hx226]; rfl
      have t4 : ((y.toNat : Int) == 128) = true := by rw [hy128]; rfl
      rcases hz with hz | hz
      · have t6 : ((z.toNat : Int) == 168) = true := by rw [hz]; rfl
        clear hE hx hg hy h10 h13 hgD hgx e1 e2 hx226 hy128 hz hz'
        go_enter Tryd.func97, Tryd.ntmps97
        go_wp2
        go_ret2
        exact endQ_of HE.out rfl (by simp) (Below.refl _ _)
      · have t6 : ((z.toNat : Int) == 168) = false := by rw [hz]; rfl
        have t7 : ((z.toNat : Int) == 169) = true := by rw [hz]; rfl
        clear hE hx hg hy h10 h13 hgD hgx e1 e2 hx226 hy128 hz hz'
        go_enter Tryd.func97, Tryd.ntmps97
        go_wp2
        go_ret2
        exact endQ_of HE.out rfl (by simp) (Below.refl _ _)
    · rw [if_neg hn] at hE
      have HE := Lib.hid hE
      by_cases h1 : 1 < D.length
      · obtain ⟨y, hy⟩ := some_at (l := D) (k := 1) h1
        have i1 : 1 < (bstr D).size := by omega
        have hya : (bstr D)[1]'i1 = y := bstr_at hy i1
        rw [getD_some hy] at hn1 hn2
        by_cases hx194 : x.toNat = 194
        · have t3 : ((x.toNat : Int) == 194) = true := by rw [hx194]; rfl
          have t5 : ((x.toNat : Int) == 226) = false := by rw [hx194]; rfl
          have t4 : ((y.toNat : Int) == 133) = false := nat_ne (b := 133) (fun h => hn1 ⟨h1, hx194, h⟩)
          clear hE hx hg hy h10 h13 hgD hgx hx194 hn hn1 hn2
          by_cases h2 : 2 < D.length
          all_goals
            go_enter Tryd.func97, Tryd.ntmps97
            go_wp2
            go_ret2
            exact endQ_of HE.out rfl (by simp) (Below.refl _ _)
        · have t3 : ((x.toNat : Int) == 194) = false := nat_ne (b := 194) hx194
          by_cases h2 : 2 < D.length
          · obtain ⟨z, hz'⟩ := some_at (l := D) (k := 2) h2
            have i2 : 2 < (bstr D).size := by omega
            have hza : (bstr D)[2]'i2 = z := bstr_at hz' i2
            rw [getD_some hz'] at hn2
            have hcase : ((x.toNat : Int) == 226) = false ∨ (((x.toNat : Int) == 226) = true ∧ ((y.toNat : Int) == 128) = false) ∨ (((x.toNat : Int) == 226) = true ∧ ((y.toNat : Int) == 128) = true ∧ ((z.toNat : Int) == 168) = false ∧ ((z.toNat : Int) == 169) = false) := by
              by_cases a1 : x.toNat = 226
              · by_cases a2 : y.toNat = 128
                · exact .inr (.inr ⟨by rw [a1]; rfl, by rw [a2]; rfl, nat_ne (b := 168) (fun h => hn2 ⟨h2, a1, a2, .inl h⟩), nat_ne (b := 169) (fun h => hn2 ⟨h2, a1, a2, .inr h⟩)⟩)
                · exact .inr (.inl ⟨by rw [a1]; rfl, nat_ne (b := 128) a2⟩)
              · exact .inl (nat_ne (b := 226) a1)
            clear hE hx hg hy h10 h13 hgD hgx hx194 hn hn1 hn2 hz'
            rcases hcase with t5 | ⟨t5, t6⟩ | ⟨t5, t6, t7, t8⟩
            all_goals
              go_enter Tryd.func97, Tryd.ntmps97
              go_wp2
              go_ret2
              exact endQ_of HE.out rfl (by simp) (Below.refl _ _)
          · clear hE hx hg hy h10 h13 hgD hgx hx194 hn hn1 hn2
            go_enter Tryd.func97, Tryd.ntmps97
            go_wp2
            go_ret2
            exact endQ_of HE.out rfl (by simp) (Below.refl _ _)
      · have h2 : ¬ 2 < D.length := by omega
        clear hE hx hg h10 h13 hgD hgx hn hn1 hn2
        go_enter Tryd.func97, Tryd.ntmps97
        go_wp2
        go_ret2
        exact endQ_of HE.out rfl (by simp) (Below.refl _ _)
end Go.Proofs.YtnbihjocdlpplaaDoor
/- The plain law of patches: the lines of a text, the least numbers, the script, the hunks. -/
namespace Go.Proofs.YtnbihjocdlpplaaDoor
set_option linter.unusedVariables false
set_option linter.unusedSimpArgs false
/-- a line with its end -/
def pieceE (l : List UInt8) (x : Nat × Nat × Nat) : List UInt8 := (l.drop x.1).take (x.2.1 + x.2.2 - x.1)
def splitA (l : List UInt8) : List (List UInt8) := (linesL l).map (pieceE l)
def splitD (l : List UInt8) : List (List UInt8) := if (splitA l).getLast? = some [] then (splitA l).dropLast else splitA l
/-- the least number of lines that go and come -/
def dist : List (List UInt8) → List (List UInt8) → Nat
  | [], b => b.length
  | _ :: a, [] => a.length + 1
  | x :: a, y :: b => if x = y then dist a b else 1 + min (dist a (y :: b)) (dist (x :: a) b)
termination_by a b => a.length + b.length
inductive Op7 where
  | same (s : List UInt8)
  | gone (s : List UInt8)
  | come (s : List UInt8)
def script : List (List UInt8) → List (List UInt8) → List Op7
  | [], [] => []
  | [], y :: b => .come y :: script [] b
  | x :: a, [] => .gone x :: script a []
  | x :: a, y :: b => if x = y then .same x :: script a b else if dist a (y :: b) ≤ dist (x :: a) b then .gone x :: script a (y :: b) else .come y :: script (x :: a) b
termination_by a b => a.length + b.length
/-- a hunk: its kind, its lines -/
abbrev Hk := Nat × List (List UInt8)
structure St7 where
  out : List Hk
  same : List (List UInt8)
  gone : List (List UInt8)
  come : List (List UInt8)
def putK (k : Nat) (l : List (List UInt8)) (out : List Hk) : List Hk := if l = [] then out else out ++ [(k, l)]
def stepW (st : St7) : Op7 → St7
  | .same s => ⟨putK 3 st.come (putK 2 st.gone st.out), st.same ++ [s], [], []⟩
  | .gone s => ⟨putK 1 st.same st.out, [], st.gone ++ [s], st.come⟩
  | .come s => ⟨putK 1 st.same st.out, [], st.gone, st.come ++ [s]⟩
def doneW (st : St7) : List Hk := putK 3 st.come (putK 2 st.gone (putK 1 st.same st.out))
def patchOf (ops : List Op7) : List Hk := doneW (ops.foldl stepW ⟨[], [], [], []⟩)
def patchL (a b : List (List UInt8)) : List Hk := patchOf (script a b)
/-- either the same lines wait, or those that go and come -/
def OneW (st : St7) : Prop := st.same = [] ∨ (st.gone = [] ∧ st.come = [])
theorem oneW_step (st : St7) (o : Op7) : OneW (stepW st o) := by
  cases o
  · exact .inr ⟨rfl, rfl⟩
  · exact .inl rfl
  · exact .inl rfl
theorem doneW_ref {st : St7} (h : OneW st) : putK 1 st.same (putK 3 st.come (putK 2 st.gone st.out)) = doneW st := by
  unfold doneW
  rcases h with h | ⟨h1, h2⟩
  · rw [h]; rfl
  · rw [h1, h2]; rfl
theorem dist_nil (a : List (List UInt8)) : dist a [] = a.length := by
  cases a <;> simp [dist]
theorem dist_le (a b : List (List UInt8)) : dist a b ≤ a.length + b.length := by
  induction a generalizing b with
  | nil => simp [dist]
  | cons x a ih =>
    induction b with
    | nil => simp [dist]
    | cons y b ih2 =>
      rw [dist]
      have h1 := ih b
      have h2 := ih (y :: b)
      split
      · simp; omega
      · simp at *; omega
theorem pieceE_last (l : List UInt8) (x : Nat × Nat × Nat) (h : x.1 ≤ x.2.1) : pieceE l x = pieceL l x ++ ((l.drop x.2.1).take x.2.2) := by
  unfold pieceE pieceL
  rw [show x.2.1 + x.2.2 - x.1 = (x.2.1 - x.1) + x.2.2 by omega, List.take_add, List.drop_drop, show x.1 + (x.2.1 - x.1) = x.2.1 by omega]
/-- all lines with their ends are the text -/
theorem linesGo_flat (l : List UInt8) : ∀ f a i, a ≤ i → i ≤ l.length → l.length < i + f → ((linesGo l f a i).map (pieceE l)).flatten = l.drop a
  | 0, a, i, hai, hil, hf => by omega
  | f + 1, a, i, hai, hil, hf => by
    rw [linesGo]
    by_cases h1 : l.length ≤ i
    · rw [if_pos h1]
      simp only [List.map_cons, List.map_nil, List.flatten_cons, List.flatten_nil, List.append_nil]
      unfold pieceE
      exact List.take_of_length_le (by rw [List.length_drop]; dsimp only; omega)
    · rw [if_neg h1]
      by_cases h2 : endL l i = 0
      · rw [if_pos h2]
        exact linesGo_flat l f a (i + 1) (by omega) (by omega) (by omega)
      · rw [if_neg h2]
        have h3 := (endL_le l i).resolve_left h2
        rw [List.map_cons, List.flatten_cons, linesGo_flat l f _ _ (Nat.le_refl _) h3 (by omega)]
        unfold pieceE
        dsimp only
        rw [show l.drop (i + endL l i) = (l.drop a).drop (i + endL l i - a) by rw [List.drop_drop]; congr 1; omega]
        exact List.take_append_drop _ _
theorem splitA_flat (l : List UInt8) : (splitA l).flatten = l := by
  have := linesGo_flat l (l.length + 1) 0 0 (Nat.le_refl _) (Nat.zero_le _) (by omega)
  rw [List.drop_zero] at this
  exact this
theorem splitA_ne (l : List UInt8) : splitA l ≠ [] := by
  unfold splitA linesL
  suffices h : ∀ f a i, l.length < i + f → i ≤ l.length → linesGo l f a i ≠ [] by
    intro e
    exact h (l.length + 1) 0 0 (by omega) (Nat.zero_le _) (by simpa using e)
  intro f
  induction f with
  | zero => intro a i h1 h2; omega
  | succ f ih =>
    intro a i h1 h2
    rw [linesGo]
    split
    · simp
    · split
      · exact ih a (i + 1) (by omega) (by omega)
      · simp
theorem splitD_flat (l : List UInt8) : (splitD l).flatten = l := by
  unfold splitD
  split
  · rename_i h
    have h1 := splitA_flat l
    have h2 := List.dropLast_concat_getLast (splitA_ne l)
    rw [← h2, List.flatten_append] at h1
    have h3 : (splitA l).getLast (splitA_ne l) = [] := by
      rw [List.getLast?_eq_some_getLast (splitA_ne l)] at h
      exact Option.some.inj h
    rw [h3] at h1
    simpa using h1
  · exact splitA_flat l
end Go.Proofs.YtnbihjocdlpplaaDoor
/- Rows of strings; the lines of a text by the reference. -/
namespace Go.Proofs.YtnbihjocdlpplaaDoor
set_option linter.unusedVariables false
set_option linter.unusedSimpArgs false
open Go.RowKit
open Go.Lib
def lineCells (x : Nat × Nat × Nat) : List Value := [.int .i64 (x.1 : Int), .int .i64 (x.2.1 : Int), .int .i64 (x.2.2 : Int)]
theorem lines_len (L : List (Nat × Nat × Nat)) : (L.flatMap lineCells).length = L.length * 3 := by
  induction L with
  | nil => rfl
  | cons t L ih => rw [List.flatMap_cons, List.length_append, ih, List.length_cons]; show 3 + _ = _; omega
theorem infoLine : (Tryd.prog.info? 142).map (fun i => (i.zero, i.size, i.bytes)) = some (some (.agg #[.int .i64 0, .int .i64 0, .int .i64 0]), 3, 24) := by kernel_rfl
def OwnLn (B : Nat) (v : Value) (L : List (Nat × Nat × Nat)) (w : World) : Prop := w.ownsRow B 142 3 v L.length (L.flatMap lineCells)
theorem OwnLn.below {B : Nat} {v : Value} {L : List (Nat × Nat × Nat)} {w w' : World} (h : OwnLn B v L w) (b : Below w.heap.size w w') : OwnLn B v L w' := own_below h b
theorem OwnLn.push {B : Nat} {v : Value} {L : List (Nat × Nat × Nat)} {x : Nat × Nat × Nat} {w : World} (h : w.ownsRow B 142 3 v (L.length + 1) (L.flatMap lineCells ++ lineCells x)) : OwnLn B v (L ++ [x]) w := by
  unfold OwnLn
  rw [List.length_append, List.flatMap_append]
  simpa using h
theorem lineCells_one (x : Nat × Nat × Nat) : ∀ u ∈ lineCells x, u.oneCell' = true := by
  intro u hu
  simp only [lineCells, List.mem_cons, List.not_mem_nil, or_false] at hu
  rcases hu with rfl | rfl | rfl <;> rfl
theorem prefix_len {L M : List (Nat × Nat × Nat)} {l : List UInt8} (h : L ++ M = linesL l) : L.length ≤ l.length + 1 := by
  have h1 := linesL_len l
  rw [← h, List.length_append] at h1
  omega
set_option maxHeartbeats 4000000 in
set_option maxRecDepth 100000 in
theorem allR (w : World) (l : List UInt8) (hm : l.length ≤ 67108864) :
    Calls Tryd.prog 88 #[.string (bstr l)] w fun e w' => ∃ v, e = .returned v ∧ OwnLn w.heap.size v (linesL l) w' ∧ Below w.heap.size w w' := by
  obtain ⟨n, hn⟩ : ∃ n, n = l.length := ⟨_, rfl⟩
  have hsz : (bstr l).size = n := by rw [bstr_size, hn]
  rw [← hn] at hm
  have HN := Lib.hid hn
  have H0 : Hid (OwnLn w.heap.size (.slice none 0 0) [] w) := Lib.hid (World.ownsRow_nil _ _ _ _)
  clear hn
  go_enter Tryd.func88, Tryd.ntmps88
  go_wp2
  go_loopw [3, 4, 5] (fun vv ua ui wr => ∃ a i f : Nat, ∃ acc : List (Nat × Nat × Nat), ua = .int .i64 (a : Int) ∧ ui = .int .i64 (i : Int) ∧ a ≤ i ∧ i ≤ n ∧ Hid (n < i + f ∧ acc ++ linesGo l f a i = linesL l ∧ OwnLn w.heap.size vv acc wr ∧ Below w.heap.size w wr)) (fun _ _ ui _ => n + 1 - (RowKit.intOf ui).toNat)
  case atStart => exact ⟨0, 0, l.length + 1, [], rfl, rfl, Nat.le_refl _, Nat.zero_le _, Lib.hid ⟨by rw [HN.out]; omega, rfl, H0.out, Below.refl _ _⟩⟩
  case round =>
    obtain ⟨a, i, f, acc, rfl, rfl, hai, hil, HR⟩ := hrel
    obtain ⟨vv, rfl⟩ : ∃ v : Value, v = u3 := ⟨_, rfl⟩
    obtain ⟨f, rfl⟩ : ∃ g, f = g + 1 := ⟨f - 1, by have := HR.out.1; omega⟩
    have hacc := prefix_len HR.out.2.1
    rw [← HN.out] at hacc
    by_cases hlt : i < n
    · have HE := Lib.hid (endR wr l i (by rw [← HN.out]; exact hlt) (by rw [← HN.out]; omega))
      by_cases h0 : endL l i = 0
      · have hz : (endL l i != 0) = false := by rw [h0]; rfl
        have hq : EndQ wr l i = fun e w' => ∃ n : Int, e = .returned (.tuple #[.int .i64 n, .bool (endL l i != 0)]) ∧ Below wr.heap.size wr w' ∧ (endL l i ≠ 0 → n = (endL l i : Int)) := rfl
        rw [hq, hz] at HE
        have HGO : Hid (linesGo l (f + 1) a i = linesGo l f a (i + 1)) := Lib.hid (by rw [linesGo, if_neg (by rw [← HN.out]; omega), if_pos h0])
        clear hz hq h0
        go_wp2_with (go_at_call 97; refine (HE.out).mono ?_; rintro e w' ⟨n0, rfl, hb, hn0⟩)
        have HNX : Hid (n < i + 1 + f ∧ acc ++ linesGo l f a (i + 1) = linesL l ∧ OwnLn w.heap.size vv acc w' ∧ Below w.heap.size w w') := Lib.hid ⟨by have := HR.out.1; omega, HGO.out ▸ HR.out.2.1, HR.out.2.2.1.below hb, HR.out.2.2.2.trans (hb.mono HR.out.2.2.2.size)⟩
        go_roundw
        case rel => exact ⟨a, i + 1, f, acc, rfl, by go_num, by omega, by omega, HNX⟩
        case measure => simp [RowKit.intOf]; omega
      · have hz : (endL l i != 0) = true := by rw [bne_iff_ne]; exact h0
        have hle := (endL_le l i).resolve_left h0
        rw [← HN.out] at hle
        obtain ⟨n0, hn0⟩ : ∃ n0, endL l i = n0 := ⟨_, rfl⟩
        have HGO : Hid (linesGo l (f + 1) a i = (a, i, n0) :: linesGo l f (i + n0) (i + n0)) := Lib.hid (by rw [linesGo, if_neg (by rw [← HN.out]; omega), if_neg h0, hn0])
        have hq : EndQ wr l i = fun e w' => ∃ n : Int, e = .returned (.tuple #[.int .i64 n, .bool (endL l i != 0)]) ∧ Below wr.heap.size wr w' ∧ (endL l i ≠ 0 → n = (endL l i : Int)) := rfl
        rw [hq, hz] at HE
        rw [hn0] at HE h0 hle
        clear hz hq hn0
        have hacc2 : acc.length ≤ 1073741824 := by omega
        go_wp2_with (first
          | (go_at_call 97; refine (HE.out).mono ?_; rintro e w' ⟨n1, rfl, hb, hn1⟩; obtain rfl := hn1 h0; have HB := Lib.hid hb; have hbs := HB.out.size; have HBB : Hid (Below w.heap.size w w') := Lib.hid (HR.out.2.2.2.trans (hb.mono HR.out.2.2.2.size)); have hbw := HBB.out.size; clear hb hn1)
          | (at_builtin; refine appNew rfl _ _ rfl Tryd.underlying125 (.agg #[.int .i64 0, .int .i64 0, .int .i64 0]) 3 24 infoLine rfl (by decide) (by decide) w.heap.size w.heap.size w w' vv acc.length (acc.flatMap lineCells) (lineCells (a, i, n0)) rfl (lineCells_one _) rfl (HR.out.2.2.1.below HB.out) rfl rfl hacc2 HBB.out (Nat.le_refl _) hbw ?_; intro v8 w8 hO8 hb8 hs8))
        have HNX : Hid (n < i + n0 + f ∧ (acc ++ [(a, i, n0)]) ++ linesGo l f (i + n0) (i + n0) = linesL l ∧ OwnLn w.heap.size v8 (acc ++ [(a, i, n0)]) w8 ∧ Below w.heap.size w w8) := Lib.hid ⟨by have := HR.out.1; omega, by rw [← HR.out.2.1, HGO.out]; simp, OwnLn.push hO8, hb8⟩
        clear hO8 hb8 hs8
        go_roundw
        case rel => exact ⟨i + n0, i + n0, f, acc ++ [(a, i, n0)], by go_num, by go_num, Nat.le_refl _, hle, HNX⟩
        case measure => simp [RowKit.intOf]; omega
    · obtain rfl : i = n := by omega
      have hgo : linesGo l (f + 1) a i = [(a, i, 0)] := by rw [linesGo, if_pos (by rw [HN.out]; exact Nat.le_refl _), ← HN.out]
      have HGO : Hid (acc ++ [(a, i, 0)] = linesL l) := Lib.hid (by rw [← HR.out.2.1, hgo])
      have hacc2 : acc.length ≤ 1073741824 := by omega
      have hbw := HR.out.2.2.2.size
      clear hgo
      go_wp2_with (at_builtin; refine appNew rfl _ _ rfl Tryd.underlying125 (.agg #[.int .i64 0, .int .i64 0, .int .i64 0]) 3 24 infoLine rfl (by decide) (by decide) w.heap.size w.heap.size w wr vv acc.length (acc.flatMap lineCells) (lineCells (a, i, 0)) rfl (lineCells_one _) rfl HR.out.2.2.1 rfl rfl hacc2 HR.out.2.2.2 (Nat.le_refl _) hbw ?_; intro v8 w8 hO8 hb8 hs8)
      go_ret
      exact ⟨_, rfl, by rw [← HGO.out]; exact OwnLn.push hO8, hb8⟩
def S1 (l : List UInt8) : Value := .string (bstr l)
theorem infoStr : (Tryd.prog.info? 9).map (fun i => (i.zero, i.size, i.bytes)) = some (some (.string ByteArray.empty), 1, 16) := by kernel_rfl
def StrOwn (B : Nat) (v : Value) (L : List (List UInt8)) (w : World) : Prop := w.ownsRow B 9 1 v L.length (L.map S1)
theorem StrOwn.below {B : Nat} {v : Value} {L : List (List UInt8)} {w w' : World} (h : StrOwn B v L w) (b : Below w.heap.size w w') : StrOwn B v L w' := own_below h b
theorem StrOwn.push {B : Nat} {v : Value} {L : List (List UInt8)} {x : List UInt8} {w : World} (h : w.ownsRow B 9 1 v (L.length + 1) (L.map S1 ++ [S1 x])) : StrOwn B v (L ++ [x]) w := by
  unfold StrOwn
  rw [List.length_append, List.map_append]
  simpa using h
/-- what a slice of strings reads as -/
def ReadsS (w : World) (a : Option Addr) (n : Nat) (L : List (List UInt8)) : Prop := Reads w a n (L.map S1)
theorem readsS_own {B : Nat} {v : Value} {L : List (List UInt8)} {w : World} (h : StrOwn B v L w) : ∃ a c, v = .slice a L.length c ∧ ReadsS w a L.length L ∧ L.length ≤ c ∧ c ≤ maxLen := reads_of_own h
theorem ReadsS.len {w : World} {a : Option Addr} {n : Nat} {L : List (List UInt8)} (h : ReadsS w a n L) : L.length = n := by have := Reads.len h; rwa [List.length_map] at this
theorem ReadsS.keep {B : Nat} {w w' : World} {a : Option Addr} {n : Nat} {L : List (List UInt8)} (h : ReadsS w a n L) (hb : Below B w w') (hB : w.heap.size ≤ B) : ReadsS w' a n L := Reads.keep h hb hB
theorem ReadsS.at {w : World} {a : Option Addr} {n : Nat} {L : List (List UInt8)} (h : ReadsS w a n L) {k : Nat} (hk : k < n) :
    ∃ b off x, a = some ⟨b, off, none⟩ ∧ b < w.heap.size ∧ L[k]? = some x ∧ w.cell? ⟨b, off + k, none⟩ = some (.string (bstr x)) := by
  obtain ⟨b, off, x, ha, hb, hx, hc⟩ := Reads.at h hk
  rw [List.getElem?_map] at hx
  cases hl : L[k]? with
  | none => rw [hl] at hx; cases hx
  | some y => rw [hl] at hx; cases hx; exact ⟨b, off, y, ha, hb, rfl, hc⟩
theorem cloneC (w : World) (s : List UInt8) (hs : s.length ≤ 1099511627776) : Calls Tryd.prog 64 #[.string (bstr s)] w fun e w' => e = .returned (.string (bstr s)) ∧ Below w.heap.size w w' := by
  have hc := Tryd.stringslite_Clone (bstr s) w (by rw [bstr_size]; omega)
  have HC := Lib.hid hc
  clear hc
  go_enter Tryd.func64, Tryd.ntmps64
  go_wp2_with (go_at_call 85; refine (HC.out).mono ?_; rintro e w' ⟨rfl, hb⟩)
  go_ret
  exact ⟨rfl, hb⟩
end Go.Proofs.YtnbihjocdlpplaaDoor
