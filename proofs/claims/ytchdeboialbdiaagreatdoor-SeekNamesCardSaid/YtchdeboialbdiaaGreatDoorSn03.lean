/- Texts joined, one behind the other (ScanQ, LineP, DUtf). -/
import Derived.Test.YtchdeboialbdiaaGreatDoorSn02
import Derived.Test.YtchdeboialbdiaaGreatDoorShelf
import Derived.Lib.QuoteLoop
namespace Go.Proofs.YtchdeboialbdiaaGreatDoor
set_option linter.unusedVariables false
set_option linter.unusedSimpArgs false
set_option maxHeartbeats 8000000
set_option maxRecDepth 100000
open Go.Lib
theorem getD_drop (l : List UInt8) (i j : Nat) : (l.drop i).getD j 0 = l.getD (i + j) 0:=by
 rw [List.getD_eq_getElem?_getD,List.getD_eq_getElem?_getD,List.getElem?_drop]
end Go.Proofs.YtchdeboialbdiaaGreatDoor
namespace Go.Proofs.YtchdeboialbdiaaGreatDoor
set_option linter.unusedVariables false
set_option linter.unusedSimpArgs false
set_option maxHeartbeats 8000000
set_option maxRecDepth 100000
open Go.RowKit Go.Lib
structure Tabs (w : World) : Prop where
 utf : Lib.Utf8Tabs 2 3 w
 size : 4 ≤ w.heap.size
theorem Tabs.below {B : Nat} {w w' : World} (h : Tabs w) (b : Below B w w') (hB : 4 ≤ B) : Tabs w':=by
 refine ⟨⟨fun c hc => ?_,fun i hi => ?_⟩,Nat.le_trans h.size b.size⟩
 ·rw [b.cell (by simp; omega)]; exact h.utf.1 c hc
 ·rw [b.cell (by simp; omega),b.cell (by simp; omega)]; exact h.utf.2 i hi
theorem Tabs.next {w w' : World} (h : Tabs w) (b : Below w.heap.size w w') : Tabs w':=h.below b h.size
theorem cell_rows {w w' : World} {p : Addr} (h : w'.heap[p.block]? = w.heap[p.block]?) : w'.cell? p = w.cell? p:=by
 unfold World.cell?
 rw [h]
theorem Tabs.rows {w w' : World} (h : Tabs w) (hr : ∀ r,r < 4 → w'.heap[r]? = w.heap[r]?) (hs : w.heap.size ≤ w'.heap.size) : Tabs w':=by
 refine ⟨⟨fun c hc => ?_,fun i hi => ?_⟩,Nat.le_trans h.size hs⟩
 ·rw [cell_rows (hr _ (by simp))]; exact h.utf.1 c hc
 ·rw [cell_rows (hr _ (by simp)),cell_rows (hr _ (by simp))]; exact h.utf.2 i hi
theorem decodeGo_L {l : List UInt8} (hl : l ≠ []) : Lib.decodeGo (bstr l) = decodeL l:=by
 have : (bstr l).size ≠ 0:=by rw [bstr_size]; exact fun e => hl (List.eq_nil_of_length_eq_zero e)
 simp only [Lib.decodeGo,if_neg this]
 rfl
theorem wideC (w : World) (l : List UInt8) (hl : l ≠ []) (hT : Tabs w) :
  Calls Tryz.prog 67 #[.string (bstr l),.int .i32 ((decodeL l).1 : Int)] w fun e w' => e = .returned (.int .i64 ((decodeL l).2 : Int)) ∧ Below w.heap.size w w':=by
 have hlen:=runeLen_decode l
 have hgo:=decodeGo_L hl
 have hR:=dec_rune_le (l:=l)
 obtain ⟨R,hRe⟩ : ∃ R,(decodeL l).1 = R:=⟨_,rfl⟩
 obtain ⟨K,hKe⟩ : ∃ K,(decodeL l).2 = K:=⟨_,rfl⟩
 rw [hRe] at hlen hR ⊢
 rw [hKe] at hlen ⊢
 by_cases h : R = 65533
 ·have c:=Tryz.utf8_DecodeRuneInString (bstr l) w hT.utf
  rw [hgo,hRe,hKe] at c
  subst h
  clear hgo hlen hR hRe hKe
  have C:=Lib.hid c
  clear c
  go_enter Tryz.func67, Tryz.ntmps67
  go_wp2_with (go_at_call 91; refine (C.out).mono ?_; rintro e w' ⟨rfl,hb⟩)
  go_ret
  exact ⟨rfl,hb⟩
 ·have hh : ((R : Int) != 65533) = true:=by simp; omega
  have HL:=Lib.hid (hlen h)
  clear hgo hlen hRe hKe
  go_enter Tryz.func67, Tryz.ntmps67
  go_wp2_with (go_at_call 90; refine (Tryz.utf8_RuneLen _ _).mono ?_; rintro e w' ⟨rfl,rfl⟩)
  go_ret
  rw [HL.out]
  exact ⟨rfl,Below.refl _ _⟩
theorem iter_below (w : World) (s : ByteArray) (p : Nat) : Below w.heap.size w (w.iter s p):=(Below.refl _ w).alloc (Nat.le_refl _) _
theorem iter_size (w : World) (s : ByteArray) (p : Nat) : (w.iter s p).heap.size = w.heap.size + 1:=by simp [World.iter]
theorem next_first (w : World) (l : List UInt8) (hl : l ≠ []) (ty : TypeId) :
  (Instr.next (.pointer (some ⟨w.heap.size,0,none⟩)) true ty).run Tryz.prog (w.iter (bstr l) 0) = .ok (.tuple #[.bool true,.int .i64 0,.int .i32 ((decodeL l).1 : Int)]) (w.iter (bstr l) (decodeL l).2):=by
 have hpos : 0 < (bstr l).size:=by rw [bstr_size]; exact List.length_pos_iff.2 hl
 have:=run_next_any (P:=Tryz.prog) w (bstr l) 0 ty hpos
 have hd : Utf8.decode (bstr l) 0 = decodeL l:=rfl
 rw [hd] at this
 simpa using this
theorem right_bool (l : List UInt8) : decide (RightD (decodeL l)) = (((decodeL l).1 : Int) != 65533 || decide ((1 : Int) < ((decodeL l).2 : Int))):=by
 rw [Bool.eq_iff_iff]
 simp only [decide_eq_true_eq,Bool.or_eq_true,bne_iff_ne,ne_eq]
 unfold RightD
 omega
theorem firstC (w : World) (l : List UInt8) (hl : l ≠ []) (hT : Tabs w) :
  Calls Tryz.prog 45 #[.string (bstr l)] w fun e w' => e = .returned (.tuple #[.int .i32 ((decodeL l).1 : Int),.int .i64 ((decodeL l).2 : Int),.bool (decide (RightD (decodeL l)))]) ∧ Below w.heap.size w w':=by
 have hnx:=next_first w l hl
 have hw:=wideC (w.iter (bstr l) (decodeL l).2) l hl (hT.next (iter_below _ _ _))
 have hr:=right_bool l
 have hb0:=iter_below w (bstr l) (decodeL l).2
 rw [iter_size] at hw
 obtain ⟨R,hRe⟩ : ∃ R,(decodeL l).1 = R:=⟨_,rfl⟩
 obtain ⟨K,hKe⟩ : ∃ K,(decodeL l).2 = K:=⟨_,rfl⟩
 rw [hr]
 rw [hRe,hKe] at hnx hw ⊢
 rw [hKe] at hb0
 clear hRe hKe hr
 have HW:=Lib.hid hw
 have HB:=Lib.hid hb0
 clear hw hb0
 go_enter Tryz.func45, Tryz.ntmps45
 go_wp2
 refine wp_loop_rounds 1 ?_
 rw [rounds_succ]
 go_wp2_with fail
 refine (HW.out).mono ?_
 rintro e w' ⟨rfl,hb⟩
 go_wp2
 all_goals go_ret3
 all_goals first
  | exact ⟨rfl,HB.out.trans (hb.mono (by omega))⟩
  | (refine ⟨?_,HB.out.trans (hb.mono (by omega))⟩; simp_all)
@[go_sem,simp] theorem bstr_toList (l : List UInt8) : (bstr l).toList = l:=by
 rw [Lib.toList_data]; rfl
theorem bstr_get (l : List UInt8) (k : Nat) (h : k < (bstr l).size) : (bstr l)[k] = l[k]'(by simpa using h):=rfl
theorem bstr_at {l : List UInt8} {k : Nat} {x : UInt8} (hx : l[k]? = some x) (h : k < (bstr l).size) : (bstr l)[k] = x:=by
 rw [bstr_get]
 rw [List.getElem?_eq_some_iff] at hx
 exact hx.2
theorem some_at {l : List UInt8} {k : Nat} (h : k < l.length) : ∃ x,l[k]? = some x:=⟨l[k],List.getElem?_eq_getElem h⟩
end Go.Proofs.YtchdeboialbdiaaGreatDoor
