/- The library's tables in the world; the first character of a text, by the program and by the reference; a run's number. -/
import Derived.Test.YtmhemahkcbgaoaaDoorScanA
import Derived.Test.YtmhemahkcbgaoaaDoorShelf
import Derived.Lib.OthersKept
import Derived.Lib.QuoteLoop
import Derived.OwnWalk
namespace Go.Proofs.YtmhemahkcbgaoaaDoor
set_option linter.unusedVariables false
set_option linter.unusedSimpArgs false
open Go.RowKit Go.Lib
/-- the tables of the library that the scan reads -/
structure Tabs (w : World) : Prop where
  utf : Lib.Utf8Tabs 2 3 w
  pow : Lib.TabIs Tryd.prog w "internal/strconv.uint64pow10" .u64 Lib.pow10Tab
  lsb : w.cell? ⟨6, 15, none⟩ = some (.int .u8 4)
  size : 7 ≤ w.heap.size
theorem globalPow : Tryd.prog.globalNamed "internal/strconv.uint64pow10" = some 1 := by kernel_rfl
theorem Tabs.below {B : Nat} {w w' : World} (h : Tabs w) (b : Below B w w') (hB : 7 ≤ B) : Tabs w' := by
  refine ⟨⟨fun c hc => ?_, fun i hi => ?_⟩, ?_, ?_, Nat.le_trans h.size b.size⟩
  · rw [b.cell (by simp; omega)]; exact h.utf.1 c hc
  · rw [b.cell (by simp; omega), b.cell (by simp; omega)]; exact h.utf.2 i hi
  · have := h.pow
    unfold Lib.TabIs World.var? at this ⊢
    rw [globalPow] at this ⊢
    simp only [Option.bind_some] at this ⊢
    rw [b.block _ (by omega)]
    exact this
  · rw [b.cell (by simp; omega)]; exact h.lsb
theorem Tabs.next {w w' : World} (h : Tabs w) (b : Below w.heap.size w w') : Tabs w' := h.below b h.size
theorem decodeGo_L {l : List UInt8} (hl : l ≠ []) : Lib.decodeGo (bstr l) = decodeL l := by
  have : (bstr l).size ≠ 0 := by rw [bstr_size]; exact fun e => hl (List.eq_nil_of_length_eq_zero e)
  simp only [Lib.decodeGo, if_neg this]
  rfl
set_option maxHeartbeats 400000 in
theorem wideC (w : World) (l : List UInt8) (hl : l ≠ []) (hT : Tabs w) :
    Calls Tryd.prog 52 #[.string (bstr l), .int .i32 ((decodeL l).1 : Int)] w fun e w' => e = .returned (.int .i64 ((decodeL l).2 : Int)) ∧ Below w.heap.size w w' := by
  have hlen := runeLen_decode l
  have hgo := decodeGo_L hl
  have hR := dec_rune_le (l := l)
  obtain ⟨R, hRe⟩ : ∃ R, (decodeL l).1 = R := ⟨_, rfl⟩
  obtain ⟨K, hKe⟩ : ∃ K, (decodeL l).2 = K := ⟨_, rfl⟩
  rw [hRe] at hlen hR ⊢
  rw [hKe] at hlen ⊢
  by_cases h : R = 65533
  · have c := Tryd.utf8_DecodeRuneInString (bstr l) w hT.utf
    rw [hgo, hRe, hKe] at c
    subst h
    clear hgo hlen hR hRe hKe
    have C := Lib.hid c
    clear c
    go_enter Tryd.func52, Tryd.ntmps52
    go_wp2_with (go_at_call 69; refine (C.out).mono ?_; rintro e w' ⟨rfl, hb⟩)
    go_ret
    exact ⟨rfl, hb⟩
  · have hh : ((R : Int) != 65533) = true := by simp; omega
    have HL := Lib.hid (hlen h)
    clear hgo hlen hRe hKe
    go_enter Tryd.func52, Tryd.ntmps52
    go_wp2_with (go_at_call 68; refine (Tryd.utf8_RuneLen _ _).mono ?_; rintro e w' ⟨rfl, rfl⟩)
    go_ret
    rw [HL.out]
    exact ⟨rfl, Below.refl _ _⟩
theorem iter_below (w : World) (s : ByteArray) (p : Nat) : Below w.heap.size w (w.iter s p) := (Below.refl _ w).alloc (Nat.le_refl _) _
theorem iter_size (w : World) (s : ByteArray) (p : Nat) : (w.iter s p).heap.size = w.heap.size + 1 := by simp [World.iter]
theorem next_first (w : World) (l : List UInt8) (hl : l ≠ []) (ty : TypeId) :
    (Instr.next (.pointer (some ⟨w.heap.size, 0, none⟩)) true ty).run Tryd.prog (w.iter (bstr l) 0) = .ok (.tuple #[.bool true, .int .i64 0, .int .i32 ((decodeL l).1 : Int)]) (w.iter (bstr l) (decodeL l).2) := by
  have hpos : 0 < (bstr l).size := by rw [bstr_size]; exact List.length_pos_iff.2 hl
  have := run_next_any (P := Tryd.prog) w (bstr l) 0 ty hpos
  have hd : Utf8.decode (bstr l) 0 = decodeL l := rfl
  rw [hd] at this
  simpa using this
theorem right_bool (l : List UInt8) : decide (RightD (decodeL l)) = (((decodeL l).1 : Int) != 65533 || decide ((1 : Int) < ((decodeL l).2 : Int))) := by
  rw [Bool.eq_iff_iff]
  simp only [decide_eq_true_eq, Bool.or_eq_true, bne_iff_ne, ne_eq]
  unfold RightD
  omega
set_option maxHeartbeats 400000 in
/-- the first character -/
theorem firstC (w : World) (l : List UInt8) (hl : l ≠ []) (hT : Tabs w) :
    Calls Tryd.prog 27 #[.string (bstr l)] w fun e w' => e = .returned (.tuple #[.int .i32 ((decodeL l).1 : Int), .int .i64 ((decodeL l).2 : Int), .bool (decide (RightD (decodeL l)))]) ∧ Below w.heap.size w w' := by
  have hnx := next_first w l hl
  have hw := wideC (w.iter (bstr l) (decodeL l).2) l hl (hT.next (iter_below _ _ _))
  have hr := right_bool l
  have hb0 := iter_below w (bstr l) (decodeL l).2
  rw [iter_size] at hw
  obtain ⟨R, hRe⟩ : ∃ R, (decodeL l).1 = R := ⟨_, rfl⟩
  obtain ⟨K, hKe⟩ : ∃ K, (decodeL l).2 = K := ⟨_, rfl⟩
  rw [hr]
  rw [hRe, hKe] at hnx hw ⊢
  rw [hKe] at hb0
  clear hRe hKe hr
  have HW := Lib.hid hw
  have HB := Lib.hid hb0
  clear hw hb0
  go_enter Tryd.func27, Tryd.ntmps27
  go_wp2
  refine wp_loop_rounds 1 ?_
  rw [rounds_succ]
  go_wp2_with fail
  refine (HW.out).mono ?_
  rintro e w' ⟨rfl, hb⟩
  go_wp2
  all_goals go_ret3
  all_goals first
    | exact ⟨rfl, HB.out.trans (hb.mono (by omega))⟩
    | (refine ⟨?_, HB.out.trans (hb.mono (by omega))⟩; simp_all)
theorem next_second (w : World) (l : List UInt8) (p : Nat) (hp : p < l.length) (ty : TypeId) :
    ∃ (r : Nat) (q : Nat), (Instr.next (.pointer (some ⟨w.heap.size, 0, none⟩)) true ty).run Tryd.prog (w.iter (bstr l) p) = .ok (.tuple #[.bool true, .int .i64 p, .int .i32 (r : Int)]) (w.iter (bstr l) q) :=
  ⟨_, _, run_next_any (P := Tryd.prog) w (bstr l) p ty (by rw [bstr_size]; exact hp)⟩
theorem next_end (w : World) (l : List UInt8) (p : Nat) (hp : ¬ p < l.length) (ty : TypeId) :
    (Instr.next (.pointer (some ⟨w.heap.size, 0, none⟩)) true ty).run Tryd.prog (w.iter (bstr l) p) = .ok (.tuple #[.bool false]) (w.iter (bstr l) p) :=
  run_next_end (P := Tryd.prog) w (bstr l) p ty (by rw [bstr_size]; exact hp)
theorem right_bool3 (l : List UInt8) : decide (RightD (decodeL l)) = (((decodeL l).1 : Int) != 65533 || ((decodeL l).2 : Int) == 3) := by
  rw [Bool.eq_iff_iff]
  simp only [decide_eq_true_eq, Bool.or_eq_true, bne_iff_ne, ne_eq, beq_iff_eq, dec_right_iff]
  omega
set_option maxHeartbeats 1000000 in
/-- the first character, by the reference -/
theorem charR (w : World) (l : List UInt8) (hl : l ≠ []) (hm : l.length ≤ 140737488355328) :
    Calls Tryd.prog 32 #[.string (bstr l)] w fun e w' => e = .returned (.tuple #[.int .i32 ((decodeL l).1 : Int), .int .i64 ((decodeL l).2 : Int), .bool (decide (RightD (decodeL l)))]) ∧ Below w.heap.size w w' := by
  have hN := fun w1 => next_first w1 l hl
  have hle := dec_width hl
  have hw1 := dec_width_one (l := l)
  rw [right_bool3]
  obtain ⟨R, hRe⟩ : ∃ R, (decodeL l).1 = R := ⟨_, rfl⟩
  obtain ⟨K, hKe⟩ : ∃ K, (decodeL l).2 = K := ⟨_, rfl⟩
  rw [hRe, hKe] at hN ⊢
  rw [hKe] at hle hw1
  clear hRe hKe
  have hKp : (0 : Int) < (K : Int) := by omega
  have hb1 := fun p q => (iter_below w (bstr l) p).trans ((iter_below (w.iter (bstr l) p) (bstr l) q).mono (by rw [iter_size]; omega))
  have hnx := hN w
  by_cases hlt : K < l.length
  · obtain ⟨r, q, h2⟩ : ∃ r q : Nat, ∀ ty, (Instr.next (.pointer (some ⟨w.heap.size, 0, none⟩)) true ty).run Tryd.prog (w.iter (bstr l) K) = .ok (.tuple #[.bool true, .int .i64 K, .int .i32 (r : Int)]) (w.iter (bstr l) q) :=
      ⟨_, _, fun ty => run_next_any (P := Tryd.prog) w (bstr l) K ty (by rw [bstr_size]; exact hlt)⟩
    have hny := hN (w.iter (bstr l) q)
    obtain ⟨r', q', h3⟩ : ∃ r q' : Nat, ∀ ty, (Instr.next (.pointer (some ⟨(w.iter (bstr l) q).heap.size, 0, none⟩)) true ty).run Tryd.prog ((w.iter (bstr l) q).iter (bstr l) K) = .ok (.tuple #[.bool true, .int .i64 K, .int .i32 (r : Int)]) ((w.iter (bstr l) q).iter (bstr l) q') := 
      ⟨_, _, fun ty => run_next_any (P := Tryd.prog) (w.iter (bstr l) q) (bstr l) K ty (by rw [bstr_size]; exact hlt)⟩
    have HB := Lib.hid (hb1 q q')
    clear hb1 hN hlt
    go_enter Tryd.func32, Tryd.ntmps32
    go_wp2
    refine wp_loop_rounds 2 ?_
    rw [rounds_succ]
    go_wp2
    rw [rounds_succ]
    go_wp2
    refine wp_loop_rounds 2 ?_
    rw [rounds_succ]
    go_wp2
    rw [rounds_succ]
    go_wp2
    all_goals go_ret3
    all_goals first
    | exact ⟨rfl, HB.out⟩
    | (refine ⟨?_, HB.out⟩; simp_all)
  · obtain rfl : K = l.length := by omega
    have hnz := next_end w l l.length (by omega)
    have hny := hN (w.iter (bstr l) l.length)
    have hnq := next_end (w.iter (bstr l) l.length) l l.length (by omega)
    have HB := Lib.hid (hb1 l.length l.length)
    clear hb1 hN hlt
    have hsz := bstr_size l
    go_enter Tryd.func32, Tryd.ntmps32
    go_wp2
    refine wp_loop_rounds 2 ?_
    rw [rounds_succ]
    go_wp2
    rw [rounds_succ]
    go_wp2
    refine wp_loop_rounds 2 ?_
    rw [rounds_succ]
    go_wp2
    rw [rounds_succ]
    go_wp2
    all_goals go_ret3
    all_goals first
    | exact ⟨rfl, HB.out⟩
    | (refine ⟨?_, HB.out⟩; simp_all)
end Go.Proofs.YtmhemahkcbgaoaaDoor
