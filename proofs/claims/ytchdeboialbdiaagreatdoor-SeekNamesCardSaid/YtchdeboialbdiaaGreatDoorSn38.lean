/- Texts joined, one behind the other (LSeekMatches, SPcOwn, SRefX). -/
import Derived.Test.YtchdeboialbdiaaGreatDoorSqy
import Derived.Test.YtchdeboialbdiaaGreatDoorSn37
import Derived.LaidEql
import Derived.Stop.Asserts
import Derived.RowKitTokens
import Derived.Deep.RegionHeld3
namespace Go.Proofs.YtchdeboialbdiaaGreatDoor
set_option linter.unusedVariables false
set_option linter.unusedSimpArgs false
set_option maxHeartbeats 8000000
set_option maxRecDepth 100000
open Go.RowKit
open Go.Lib hiding intOf
theorem place_two (o : Option Nat) : ∃ (y : Int) (b : Bool),placeV o = .tuple #[.int .i64 y,.bool b]:=by
 cases o with
 | none => exact ⟨0,false,rfl⟩
 | some y => exact ⟨_,true,rfl⟩
theorem piece_two (A : List Nat) (o : Option (Nat × Nat)) : ∃ (x y : Int) (b : Bool),pieceV A o = .tuple #[.agg #[.int .i64 x,.int .i64 y],.bool b]:=by
 rcases o with _ | ⟨i,j⟩
 ·exact ⟨0,0,false,rfl⟩
 ·exact ⟨_,_,true,rfl⟩
theorem matches_bad (w : World) (l s : List UInt8) (i1 i2 i3 c q : Int) (hc0 : (c == 0) = false) (hT : Tabs w)
  (h1 : ∀ W,Below w.heap.size w W → Calls Tryz.prog 14 #[.string (bstr l)] W fun e w' => ∃ g,e = .returned (.tuple #[.pointer none,.iface 82 (.pointer (some ⟨g,0,none⟩))]) ∧ Below W.heap.size W w')
  (h2 : ∀ W,Calls Tryz.prog 15 #[.string (bstr l)] W fun e w' => e = .returned (.tuple #[.agg #[.string { data:=#[] },.bool false,.slice none 0 0],.int .i64 q,.int .i64 c]) ∧ Below W.heap.size W w') :
  Calls Tryz.prog 5 #[.agg #[.string (bstr l),.string (bstr s),.int .i64 i1,.int .i64 i2,.int .i64 i3]] w fun e w' => e = .returned (.bool true) ∧ Below w.heap.size w w':=by
 have hb0 : Below w.heap.size w (w.alloc (.cells #[.string (bstr l),.string (bstr s),.int .i64 i1,.int .i64 i2,.int .i64 i3] 26)):=(Below.refl _ w).alloc (Nat.le_refl _) _
 have hrow : Row (w.alloc (.cells #[.string (bstr l),.string (bstr s),.int .i64 i1,.int .i64 i2,.int .i64 i3] 26)) w.heap.size 26 [.string (bstr l),.string (bstr s),.int .i64 i1,.int .i64 i2,.int .i64 i3]:=row_new w [.string (bstr l),.string (bstr s),.int .i64 i1,.int .i64 i2,.int .i64 i3] _
 obtain ⟨W0,hW0⟩ : ∃ W,W = w.alloc (.cells #[.string (bstr l),.string (bstr s),.int .i64 i1,.int .i64 i2,.int .i64 i3] 26):=⟨_,rfl⟩
 rw [← hW0] at hb0 hrow
 have r0:=hrow.cell 0
 have rl:=hrow.lt
 have H1:=Lib.hid (h1 W0 hb0)
 have H2:=Lib.hid h2
 have HT:=Lib.hid hT
 have HB0:=Lib.hid hb0
 have HROW:=Lib.hid hrow
 have HW0:=Lib.hid hW0
 have hc1 : (c != 0) = true:=by simp only [bne,hc0]; rfl
 clear h1 h2 hT hb0 hrow hW0
 go_enter Tryz.func5, Tryz.ntmps5
 go_upto_region 1 with fail
 rw [← HW0.out]
 go_wp2_with (first
  | (go_at_call 14; refine (H1.out).mono ?_; rintro e w1 ⟨g,rfl,hb1⟩; have s0:=(HROW.out.keep hb1 HROW.out.lt).cell 0; have sl:=(HROW.out.keep hb1 HROW.out.lt).lt; have HB1:=Lib.hid (HB0.out.trans (hb1.mono HB0.out.size)); clear hb1)
  | (go_at_call 15; refine (H2.out _).mono ?_; rintro e w2 ⟨rfl,hb2⟩; have HB2 : Hid (Below w.heap.size w (w2.alloc (.cells #[.string { data:=#[] },.bool false,.slice none 0 0] 54))):=Lib.hid (HB1.out.trans ((hb2.alloc hb2.size _).mono HB1.out.size)); clear hb2)
  | (go_at_call 13; refine (worksC _ (HT.out.next HB2.out)).mono ?_; rintro e w4 ⟨rfl,hb4⟩; have HB4:=Lib.hid (HB2.out.trans (hb4.mono HB2.out.size)); clear hb4))
 go_ret
 exact ⟨rfl,HB4.out⟩
theorem matches_good (w : World) (l s : List UInt8) (i1 i2 i3 : Int) (fo : Bool) (its : List Itm) (hT : Tabs w) (hok : ∀ it ∈ its,OkI it) (hil : its.length ≤ 1000000)
  (h1 : ∀ W,Below w.heap.size w W → Calls Tryz.prog 14 #[.string (bstr l)] W fun e w' => ∃ g,e = .returned (.tuple #[.pointer (some ⟨g,0,none⟩),.nilIface]) ∧ PatFrom W.heap.size w' g l fo its ∧ Below W.heap.size W w')
  (h2 : ∀ W,Calls Tryz.prog 15 #[.string (bstr l)] W fun e w' => ∃ a m c,e = .returned (.tuple #[.agg #[.string (bstr l),.bool fo,.slice a m c],.int .i64 0,.int .i64 0]) ∧ ItRd w' (.slice a m c) its ∧ Below W.heap.size W w') :
  Calls Tryz.prog 5 #[.agg #[.string (bstr l),.string (bstr s),.int .i64 i1,.int .i64 i2,.int .i64 i3]] w fun e w' => e = .returned (.bool true) ∧ Below w.heap.size w w':=by
 have hb0 : Below w.heap.size w (w.alloc (.cells #[.string (bstr l),.string (bstr s),.int .i64 i1,.int .i64 i2,.int .i64 i3] 26)):=(Below.refl _ w).alloc (Nat.le_refl _) _
 have hrow : Row (w.alloc (.cells #[.string (bstr l),.string (bstr s),.int .i64 i1,.int .i64 i2,.int .i64 i3] 26)) w.heap.size 26 [.string (bstr l),.string (bstr s),.int .i64 i1,.int .i64 i2,.int .i64 i3]:=row_new w [.string (bstr l),.string (bstr s),.int .i64 i1,.int .i64 i2,.int .i64 i3] _
 have hsz : (w.alloc (.cells #[.string (bstr l),.string (bstr s),.int .i64 i1,.int .i64 i2,.int .i64 i3] 26)).heap.size = w.heap.size + 1:=by simp
 obtain ⟨W0,hW0⟩ : ∃ W,W = w.alloc (.cells #[.string (bstr l),.string (bstr s),.int .i64 i1,.int .i64 i2,.int .i64 i3] 26):=⟨_,rfl⟩
 rw [← hW0] at hb0 hrow hsz
 have r0:=hrow.cell 0
 have rl:=hrow.lt
 have hp0:=h1 W0 hb0
 rw [hsz] at hp0
 have H1:=Lib.hid hp0
 have H2:=Lib.hid h2
 have HT:=Lib.hid hT
 have HB0:=Lib.hid hb0
 have HROW:=Lib.hid hrow
 have HW0:=Lib.hid hW0
 have HOK:=Lib.hid hok
 have HSZ:=Lib.hid hsz
 clear h1 h2 hT hb0 hrow hW0 hp0 hok hsz
 go_enter Tryz.func5, Tryz.ntmps5
 go_upto_region 1 with fail
 rw [← HW0.out]
 go_wp2_with (first
  | (go_at_call 14; refine (H1.out).mono ?_; rintro e w1 ⟨g,rfl,hp1,hb1⟩; rw [← HSZ.out] at hb1; have s0:=(HROW.out.keep hb1 HROW.out.lt).cell 0; have s1:=(HROW.out.keep hb1 HROW.out.lt).cell 1; have sl:=(HROW.out.keep hb1 HROW.out.lt).lt; have HP1:=Lib.hid hp1; have HL1:=Lib.hid (HROW.out.keep hb1 HROW.out.lt); have HB1:=Lib.hid (HB0.out.trans (hb1.mono HB0.out.size)); clear hb1 hp1)
  | (go_at_call 15; refine (H2.out _).mono ?_; rintro e w2 ⟨a,m,c,rfl,hi2,hb2⟩; have HB2:=Lib.hid hb2; have HI2:=Lib.hid hi2; have x1:=(HL1.out.keep hb2 HL1.out.lt).cell 1; have xl:=(HL1.out.keep hb2 HL1.out.lt).lt; have xf:=(HL1.out.keep hb2 HL1.out.lt).frozen 1; clear hb2 hi2)
  | (go_at_call 17; refine (cutC _ s 300 (by decide)).mono ?_; rintro e w3 ⟨rfl,rfl⟩))
 have hsm : ∀ W,W = (w2.setCell ⟨w.heap.size,1,none⟩ (.string (bstr (s.take 300)))).alloc (.cells #[.string (bstr l),.bool fo,.slice a m c] 54) → SmW w W w2.heap.size [.string (bstr l),.string (bstr (s.take 300)),.int .i64 i1,.int .i64 i2,.int .i64 i3] [.string (bstr l),.bool fo,.slice a m c] g l fo its (.slice a m c):=by
  rintro W rfl
  have hal : Below w2.heap.size w2 (w2.alloc (.cells #[.string (bstr l),.bool fo,.slice a m c] 54)):=(Below.refl _ w2).alloc (Nat.le_refl _) _
  have hb:=HB2.out.trans (hal.mono HB2.out.size)
  have h0 : SmW w (w2.alloc (.cells #[.string (bstr l),.bool fo,.slice a m c] 54)) w2.heap.size [.string (bstr l),.string (bstr s),.int .i64 i1,.int .i64 i2,.int .i64 i3] [.string (bstr l),.bool fo,.slice a m c] g l fo its (.slice a m c) :=
   ⟨HL1.out.keep hb HL1.out.lt,row_new w2 [.string (bstr l),.bool fo,.slice a m c] _,HP1.out.keep hb,HI2.out.below hal,HB1.out.trans (hb.mono HB1.out.size)⟩
  have he : (w2.alloc (.cells #[.string (bstr l),.bool fo,.slice a m c] 54)).setCell ⟨w.heap.size,1,none⟩ (.string (bstr (s.take 300))) = (w2.setCell ⟨w.heap.size,1,none⟩ (.string (bstr (s.take 300)))).alloc (.cells #[.string (bstr l),.bool fo,.slice a m c] 54):=World.setCell_alloc_past _ _ _ _ xl
  rw [← he]
  exact h0.put 1 _
 have HSM:=Lib.hid hsm
 clear hsm
 obtain ⟨S,hS⟩ : ∃ S,s.take 300 = S:=⟨_,rfl⟩
 have hSl : S.length ≤ 300:=by rw [← hS,List.length_take]; omega
 rw [hS] at HSM
 rw [hS]
 clear hS
 go_loopw [8] (fun uk wr => ∃ z : Int,uk = .int .i64 z ∧ -1 ≤ z ∧ z ≤ (S.length : Int) + 2 ∧ Hid (SmW w wr w2.heap.size [.string (bstr l),.string (bstr S),.int .i64 i1,.int .i64 i2,.int .i64 i3] [.string (bstr l),.bool fo,.slice a m c] g l fo its (.slice a m c))) (fun uk _ => ((S.length : Int) + 3 - RowKit.intOf uk).toNat)
 case atStart => exact ⟨-1,rfl,by omega,by omega,Lib.hid (HSM.out _ rfl)⟩
 case round =>
  obtain ⟨z,rfl,hz0,hz1,HR⟩:=hrel
  have q1:=HR.out.look.cell 1
  have ql:=HR.out.look.lt
  have u0:=HR.out.pat.cell 0
  have u1:=HR.out.pat.cell 1
  have u2:=HR.out.pat.cell 2
  have ul:=HR.out.pat.lt
  by_cases hlt : z ≤ (S.length : Int) + 1
  ·obtain ⟨y,b,hpl⟩:=place_two (matchP fo S its z)
   have hA:=matchPC wr g l S fo its z HR.out.frm.is (by omega) (by omega) (HT.out.next HR.out.below)
   have hB:=fun W (h : SmW w W w2.heap.size [.string (bstr l),.string (bstr S),.int .i64 i1,.int .i64 i2,.int .i64 i3] [.string (bstr l),.bool fo,.slice a m c] g l fo its (.slice a m c)) => matchR6 W l S fo its a m c z h.it HOK.out (by have:=it_len h.it; omega) (by omega)
   rw [hpl] at hA hB
   have HA:=Lib.hid hA
   have HB:=Lib.hid hB
   have hyy : (y != y) = false:=by simp
   have hbb : (b != b) = false:=by simp
   clear hA hB hpl
   go_wp2_with (first
    | (go_at_call 8; refine (HA.out).mono ?_; rintro e w5 ⟨rfl,hb5⟩; have h5:=HR.out.next hb5; have v0:=h5.pat.cell 0; have v1:=h5.pat.cell 1; have v2:=h5.pat.cell 2; have vl:=h5.pat.lt; have v3:=h5.look.cell 1; have v4:=h5.look.lt; have H5:=Lib.hid h5; clear hb5 h5)
    | (go_at_call 18; refine (HB.out w5 H5.out).mono ?_; rintro e w6 ⟨rfl,hb6⟩; have H6:=Lib.hid (H5.out.next hb6); clear hb6))
   go_roundw
   case rel => exact ⟨z + 1,by go_num,by omega,by omega,H6⟩
   case measure => simp [RowKit.intOf]; omega
  ·have hgt : ¬ z ≤ (S.length : Int) + 1:=hlt
   have q2:=HR.out.look.cell 2
   have q3:=HR.out.look.cell 3
   have q4:=HR.out.look.cell 4
   obtain ⟨y1,b1,hp1⟩:=place_two (matchP fo S its i1)
   obtain ⟨x2,y2,b2,hp2⟩:=piece_two (atsL S) (findP fo S its i2)
   obtain ⟨x3,y3,b3,hp3⟩:=piece_two (atsL S) (lastP fo S its i3)
   have hA:=fun W (h : SmW w W w2.heap.size [.string (bstr l),.string (bstr S),.int .i64 i1,.int .i64 i2,.int .i64 i3] [.string (bstr l),.bool fo,.slice a m c] g l fo its (.slice a m c)) => matchPC W g l S fo its i1 h.frm.is (by omega) (by omega) (HT.out.next h.below)
   have hB:=fun W (h : SmW w W w2.heap.size [.string (bstr l),.string (bstr S),.int .i64 i1,.int .i64 i2,.int .i64 i3] [.string (bstr l),.bool fo,.slice a m c] g l fo its (.slice a m c)) => matchR6 W l S fo its a m c i1 h.it HOK.out (by have:=it_len h.it; omega) (by omega)
   have hC:=fun W (h : SmW w W w2.heap.size [.string (bstr l),.string (bstr S),.int .i64 i1,.int .i64 i2,.int .i64 i3] [.string (bstr l),.bool fo,.slice a m c] g l fo its (.slice a m c)) => findC W g l S fo its i2 h.frm.is (by omega) (by omega) (HT.out.next h.below)
   have hD:=fun W (h : SmW w W w2.heap.size [.string (bstr l),.string (bstr S),.int .i64 i1,.int .i64 i2,.int .i64 i3] [.string (bstr l),.bool fo,.slice a m c] g l fo its (.slice a m c)) => findR6 W l S fo its a m c i2 h.it HOK.out (by have:=it_len h.it; omega) (by omega)
   have hE:=fun W (h : SmW w W w2.heap.size [.string (bstr l),.string (bstr S),.int .i64 i1,.int .i64 i2,.int .i64 i3] [.string (bstr l),.bool fo,.slice a m c] g l fo its (.slice a m c)) => lastC W g l S fo its i3 h.frm.is (by omega) (by omega) (HT.out.next h.below)
   have hF:=fun W (h : SmW w W w2.heap.size [.string (bstr l),.string (bstr S),.int .i64 i1,.int .i64 i2,.int .i64 i3] [.string (bstr l),.bool fo,.slice a m c] g l fo its (.slice a m c)) => lastR6 W l S fo its a m c i3 h.it HOK.out (by have:=it_len h.it; omega) (by omega)
   rw [hp1] at hA hB
   rw [hp2] at hC hD
   rw [hp3] at hE hF
   have HA:=Lib.hid hA
   have HB:=Lib.hid hB
   have HC:=Lib.hid hC
   have HD:=Lib.hid hD
   have HE:=Lib.hid hE
   have HF:=Lib.hid hF
   clear hA hB hC hD hE hF hp1 hp2 hp3
   have e1 : (y1 == y1) = true:=by simp
   have e2 : (b1 == b1) = true:=by simp
   have e3 : (b2 == b2) = true:=by simp
   have e4 : (b3 == b3) = true:=by simp
   have e5 : (x2 == x2) = true:=by simp
   have e6 : (y2 == y2) = true:=by simp
   have e7 : (x3 == x3) = true:=by simp
   have e8 : (y3 == y3) = true:=by simp
   go_wp2_with (first
    | (go_at_call 8; refine (HA.out wr HR.out).mono ?_; rintro e w5 ⟨rfl,hb⟩; have h:=HR.out.next hb; have v0:=h.pat.cell 0; have v1:=h.pat.cell 1; have v2:=h.pat.cell 2; have vl:=h.pat.lt; have v3:=h.look.cell 1; have v4:=h.look.lt; have v5:=h.look.cell 2; have v6:=h.look.cell 3; have v7:=h.look.cell 4; have H5:=Lib.hid h; clear h hb)
    | (go_at_call 18; refine (HB.out w5 H5.out).mono ?_; rintro e w6 ⟨rfl,hb⟩; have h:=H5.out.next hb; have v0:=h.pat.cell 0; have v1:=h.pat.cell 1; have v2:=h.pat.cell 2; have vl:=h.pat.lt; have v3:=h.look.cell 1; have v4:=h.look.lt; have v5:=h.look.cell 2; have v6:=h.look.cell 3; have v7:=h.look.cell 4; have H6:=Lib.hid h; clear h hb)
    | (go_at_call 9; refine (HC.out w6 H6.out).mono ?_; rintro e w7 ⟨rfl,hb⟩; have h:=H6.out.next hb; have ha : Below w7.heap.size w7 (w7.alloc (.cells #[.int .i64 x2,.int .i64 y2] 40)):=(Below.refl _ w7).alloc (Nat.le_refl _) _; have h':=h.next ha; have Rw7:=Lib.hid (show Row (w7.alloc (.cells #[.int .i64 x2,.int .i64 y2] 40)) w7.heap.size 40 [.int .i64 x2,.int .i64 y2] from row_new w7 [.int .i64 x2,.int .i64 y2] _); have v0:=h'.pat.cell 0; have v1:=h'.pat.cell 1; have v2:=h'.pat.cell 2; have vl:=h'.pat.lt; have v3:=h'.look.cell 1; have v4:=h'.look.lt; have v5:=h'.look.cell 2; have v6:=h'.look.cell 3; have v7:=h'.look.cell 4; have H7:=Lib.hid h'; clear ha h' h hb)
    | (go_at_call 19; refine (HD.out (w7.alloc (.cells #[.int .i64 x2,.int .i64 y2] 40)) H7.out).mono ?_; rintro e w8 ⟨rfl,hb⟩; have h:=H7.out.next hb; have Rw7:=Lib.hid (Rw7.out.keep hb Rw7.out.lt); have ha : Below w8.heap.size w8 (w8.alloc (.cells #[.int .i64 x2,.int .i64 y2] 40)):=(Below.refl _ w8).alloc (Nat.le_refl _) _; have h':=h.next ha; have Rw7:=Lib.hid (Rw7.out.keep ha Rw7.out.lt); have Rw8:=Lib.hid (show Row (w8.alloc (.cells #[.int .i64 x2,.int .i64 y2] 40)) w8.heap.size 40 [.int .i64 x2,.int .i64 y2] from row_new w8 [.int .i64 x2,.int .i64 y2] _); have v0:=h'.pat.cell 0; have v1:=h'.pat.cell 1; have v2:=h'.pat.cell 2; have vl:=h'.pat.lt; have v3:=h'.look.cell 1; have v4:=h'.look.lt; have v5:=h'.look.cell 2; have v6:=h'.look.cell 3; have v7:=h'.look.cell 4; have H8:=Lib.hid h'; clear ha h' h hb)
    | (go_at_call 10; refine (HE.out (w8.alloc (.cells #[.int .i64 x2,.int .i64 y2] 40)) H8.out).mono ?_; rintro e w9 ⟨rfl,hb⟩; have h:=H8.out.next hb; have Rw7:=Lib.hid (Rw7.out.keep hb Rw7.out.lt); have Rw8:=Lib.hid (Rw8.out.keep hb Rw8.out.lt); have ha : Below w9.heap.size w9 (w9.alloc (.cells #[.int .i64 x3,.int .i64 y3] 40)):=(Below.refl _ w9).alloc (Nat.le_refl _) _; have h':=h.next ha; have Rw7:=Lib.hid (Rw7.out.keep ha Rw7.out.lt); have Rw8:=Lib.hid (Rw8.out.keep ha Rw8.out.lt); have Rw9:=Lib.hid (show Row (w9.alloc (.cells #[.int .i64 x3,.int .i64 y3] 40)) w9.heap.size 40 [.int .i64 x3,.int .i64 y3] from row_new w9 [.int .i64 x3,.int .i64 y3] _); have v0:=h'.pat.cell 0; have v1:=h'.pat.cell 1; have v2:=h'.pat.cell 2; have vl:=h'.pat.lt; have v3:=h'.look.cell 1; have v4:=h'.look.lt; have v5:=h'.look.cell 2; have v6:=h'.look.cell 3; have v7:=h'.look.cell 4; have H9:=Lib.hid h'; clear ha h' h hb)
    | (go_at_call 20; refine (HF.out (w9.alloc (.cells #[.int .i64 x3,.int .i64 y3] 40)) H9.out).mono ?_; rintro e w10 ⟨rfl,hb⟩; have h:=H9.out.next hb; have Rw7:=Lib.hid (Rw7.out.keep hb Rw7.out.lt); have Rw8:=Lib.hid (Rw8.out.keep hb Rw8.out.lt); have Rw9:=Lib.hid (Rw9.out.keep hb Rw9.out.lt); have ha : Below w10.heap.size w10 (w10.alloc (.cells #[.int .i64 x3,.int .i64 y3] 40)):=(Below.refl _ w10).alloc (Nat.le_refl _) _; have h':=h.next ha; have Rw7:=Lib.hid (Rw7.out.keep ha Rw7.out.lt); have Rw8:=Lib.hid (Rw8.out.keep ha Rw8.out.lt); have Rw9:=Lib.hid (Rw9.out.keep ha Rw9.out.lt); have Rw10:=Lib.hid (show Row (w10.alloc (.cells #[.int .i64 x3,.int .i64 y3] 40)) w10.heap.size 40 [.int .i64 x3,.int .i64 y3] from row_new w10 [.int .i64 x3,.int .i64 y3] _); have v0:=h'.pat.cell 0; have v1:=h'.pat.cell 1; have v2:=h'.pat.cell 2; have vl:=h'.pat.lt; have v3:=h'.look.cell 1; have v4:=h'.look.lt; have v5:=h'.look.cell 2; have v6:=h'.look.cell 3; have v7:=h'.look.cell 4; have H10:=Lib.hid h'; clear ha h' h hb; have aw70:=Rw7.out.cell 0; have aw71:=Rw7.out.cell 1; have aw7l:=Rw7.out.lt; have aw80:=Rw8.out.cell 0; have aw81:=Rw8.out.cell 1; have aw8l:=Rw8.out.lt; have aw90:=Rw9.out.cell 0; have aw91:=Rw9.out.cell 1; have aw9l:=Rw9.out.lt; have aw100:=Rw10.out.cell 0; have aw101:=Rw10.out.cell 1; have aw10l:=Rw10.out.lt)
    | (go_at_call 13; refine (worksC _ (HT.out.next H10.out.below)).mono ?_; rintro e w11 ⟨rfl,hb11⟩; have HBE:=Lib.hid (H10.out.below.trans (hb11.mono H10.out.below.size)); clear hb11))
   go_ret
   exact ⟨rfl,HBE.out⟩
theorem items_len : ∀ (V : List Nat) (f i : Nat) (acc its : List Itm),itemsGo V f i acc = .inr its → its.length ≤ acc.length + f
 | V,0,i,acc,its,h => by
  rw [itemsGo] at h
  simp only [Sum.inr.injEq] at h
  rw [← h]; exact Nat.le_refl _
 | V,f + 1,i,acc,its,h => by
  rw [itemsGo] at h
  split at h
  ·simp only [Sum.inr.injEq] at h
   rw [← h]; omega
  ·split at h
   ·cases h
   ·have:=items_len V f _ _ _ h
    rw [List.length_append,List.length_singleton] at this
    omega
theorem seekMatches_walk (w : World) (l s : List UInt8) (i1 i2 i3 : Int) (hm : l.length ≤ 140737488351232) (hT : Tabs w) :
  Calls Tryz.prog 5 #[.agg #[.string (bstr l),.string (bstr s),.int .i64 i1,.int .i64 i2,.int .i64 i3]] w fun e w' => e = .returned (.bool true) ∧ Below w.heap.size w w':=by
 have hC:=fun W (h : Below w.heap.size w W) => compileF W l (by omega) (hT.next h)
 have hR:=fun W => compR6 W l (by omega)
 unfold CompF at hC
 unfold RComp at hR
 by_cases hbig : 256 < l.length
 ·simp only [if_pos hbig] at hC hR
  refine matches_bad w l s i1 i2 i3 4 0 rfl hT (fun W h => (hC W h).mono ?_) (fun W => (hR W).mono ?_)
  ·rintro e w' ⟨hb,g,rfl,_,hr⟩
   exact ⟨g,rfl,hb⟩
  ·rintro e w' ⟨hb,rfl⟩
   exact ⟨rfl,hb⟩
 ·simp only [if_neg hbig] at hC hR
  cases hI : itemsP (valsL l) with
  | inl b =>
   simp only [hI] at hC hR
   refine matches_bad w l s i1 i2 i3 60 ((atsL l).getD b 0 : Int) rfl hT (fun W h => (hC W h).mono ?_) (fun W => (hR W).mono ?_)
   ·rintro e w' ⟨hb,g,rfl,_,hr⟩
    exact ⟨g,rfl,hb⟩
   ·rintro e w' ⟨hb,rfl⟩
    exact ⟨rfl,hb⟩
  | inr its =>
   simp only [hI] at hC hR
   have hvl:=vals_len l
   have hil:=items_len _ _ _ _ _ hI
   rw [List.length_nil] at hil
   refine matches_good w l s i1 i2 i3 (foldedP (valsL l)) its hT (items_ok (vals_ok l) (by omega) hI) (by omega) (fun W h => (hC W h).mono ?_) (fun W => (hR W).mono ?_)
   ·rintro e w' ⟨hb,g,rfl,_,hp⟩
    exact ⟨g,rfl,hp,hb⟩
   ·rintro e w' ⟨hb,a,m,c,rfl,hi⟩
    exact ⟨a,m,c,rfl,hi,hb⟩
end Go.Proofs.YtchdeboialbdiaaGreatDoor
namespace Go.Proofs.YtchdeboialbdiaaGreatDoor
set_option linter.unusedVariables false
set_option linter.unusedSimpArgs false
set_option maxHeartbeats 8000000
set_option maxRecDepth 100000
open Go.RowKit
def pcCells (A : List Nat) (x : Nat × Nat) : List Value:=[.int .i64 ((A.getD x.1 0 : Nat) : Int),.int .i64 ((A.getD x.2 0 : Nat) : Int)]
theorem infoPc : (Tryz.prog.info? 40).map (fun i => (i.zero,i.size,i.bytes)) = some (some (.agg #[.int .i64 0,.int .i64 0]),2,16):=by kernel_rfl
def PcOwn (B : Nat) (v : Value) (A : List Nat) (L : List (Nat × Nat)) (w : World) : Prop:=w.ownsRow B 40 2 v L.length (L.flatMap (pcCells A))
theorem own_slice6 {w : World} {B : Nat} {e : TypeId} {size : Nat} {v : Value} {n : Nat} {xs : List Value} (h : w.ownsRow B e size v n xs) : ∃ a c,v = .slice a n c:=by
 rcases h.2 with ⟨rfl,rfl⟩ | ⟨g,cap,cur,rfl,_⟩
 ·exact ⟨_,_,rfl⟩
 ·exact ⟨_,_,rfl⟩
end Go.Proofs.YtchdeboialbdiaaGreatDoor
namespace Go.Proofs.YtchdeboialbdiaaGreatDoor
set_option linter.unusedVariables false
set_option linter.unusedSimpArgs false
set_option maxHeartbeats 8000000
set_option maxRecDepth 100000
open Go.RowKit
open Go.Lib hiding intOf
theorem TxW.low {w w2 W W' : World} {pv tv : List Value} (h : TxW w w2 W pv tv) (hb : Below (w2.heap.size + 1) W W') (hs : w.heap.size ≤ w2.heap.size) : TxW w w2 W' pv tv :=
 ⟨h.pat.keep hb (by omega),h.txt.keep hb (by omega),h.b0.trans (hb.mono (by omega)),h.b2.trans (hb.mono (by omega))⟩
theorem onRun_ge {fo : Bool} {V : List Nat} {it : Itm} {S : Nat → Bool} {i : Nat} (h : ∀ j,S j = true → i ≤ j) : ∀ j,onRun fo V it S j = true → i ≤ j
 | 0,hj => by cases hj
 | j + 1,hj => by
  unfold onRun at hj
  rw [Bool.and_eq_true,Bool.or_eq_true,Bool.and_eq_true] at hj
  rcases hj.1 with h1 | h1
  ·have:=h j h1; omega
  ·have:=onRun_ge h j h1.1; omega
theorem led_ge {fo : Bool} {V : List Nat} {it : Itm} {S : Nat → Bool} {i : Nat} (h : ∀ j,S j = true → i ≤ j) (j : Nat) (hj : ledP fo V it S j = true) : i ≤ j:=by
 unfold ledP at hj
 split at hj
 ·rw [Bool.and_eq_true] at hj; exact h j hj.1
 ·rw [Bool.or_eq_true,Bool.and_eq_true] at hj
  rcases hj with h1 | h1
  ·exact onRun_ge h j h1
  ·exact h j h1.1
theorem reach_ge {fo : Bool} {V : List Nat} {i : Nat} : ∀ (its : List Itm) (S : Nat → Bool),(∀ j,S j = true → i ≤ j) → ∀ j,reachP fo V its S j = true → i ≤ j
 | [],S,h => h
 | it :: r,S,h => reach_ge r _ (fun j => led_ge h j)
theorem longest_ge {fo : Bool} {V : List Nat} {its : List Itm} {i j : Nat} (h : longestP fo V its i = some j) : i ≤ j:=by
 have:=lastTrue_spec (reachP fo V its fun j => decide (j = i)) V.length
 unfold longestP at h
 rw [h] at this
 exact reach_ge its _ (fun k hk => by have:=of_decide_eq_true hk; omega) j this.2.1
theorem allR6 (w : World) (lp l : List UInt8) (fo : Bool) (its : List Itm) (aI : Option Addr) (mI cI : Nat)  (hr : ItRd w (.slice aI mI cI) its) (hok : ∀ it ∈ its,OkI it) (hm : mI ≤ 1000000) (hlen : l.length ≤ 67108000) :
  Calls Tryz.prog 21 #[.agg #[.string (bstr lp),.bool fo,.slice aI mI cI],.string (bstr l)] w fun e w' => ∃ v,e = .returned v ∧ PcOwn w.heap.size v (atsL l) (allP fo l its) w' ∧ Below w.heap.size w w':=by
 have hb0 : Below w.heap.size w (w.alloc (.cells #[.string (bstr lp),.bool fo,.slice aI mI cI] 54)):=(Below.refl _ w).alloc (Nat.le_refl _) _
 have hrow0 : Row (w.alloc (.cells #[.string (bstr lp),.bool fo,.slice aI mI cI] 54)) w.heap.size 54 [.string (bstr lp),.bool fo,.slice aI mI cI]:=row_new w [.string (bstr lp),.bool fo,.slice aI mI cI] _
 obtain ⟨W0,hW0⟩ : ∃ W,W = w.alloc (.cells #[.string (bstr lp),.bool fo,.slice aI mI cI] 54):=⟨_,rfl⟩
 rw [← hW0] at hb0 hrow0
 have hX:=textR6 W0 l (by omega)
 have hal:=ats_len l
 have hvl:=vals_lenR l
 have hok2:=vals_ok l
 unfold allP
 obtain ⟨V,hV⟩ : ∃ V,valsL l = V:=⟨_,rfl⟩
 obtain ⟨A,hA⟩ : ∃ A,atsL l = A:=⟨_,rfl⟩
 obtain ⟨n,hn⟩ : ∃ n,V.length = n:=⟨_,rfl⟩
 rw [hV] at hX hvl hok2 hal ⊢
 rw [hA] at hX hal ⊢
 rw [hn] at hX hvl hal ⊢
 have HN:=Lib.hid hn
 have HAL:=Lib.hid hal
 have HOK:=Lib.hid hok2
 have HX:=Lib.hid hX
 have HW0:=Lib.hid hW0
 have HB0:=Lib.hid hb0
 have HR0:=Lib.hid hrow0
 have HIT:=Lib.hid hr
 have HOI:=Lib.hid hok
 obtain ⟨T,hT0⟩ : ∃ T,allGo fo V its n (n + 1) 0 = T:=⟨_,rfl⟩
 rw [hT0]
 have HT0:=Lib.hid hT0
 have hnb : n ≤ 67108000:=by omega
 clear hX hal hvl hok hok2 hV hA hn hr hT0 hlen hb0 hrow0 hW0
 go_enter Tryz.func21, Tryz.ntmps21
 go_upto_region 1 with fail
 rw [← HW0.out]
 go_wp2_with (go_at_call 38; refine (HX.out).mono ?_; rintro e w2 ⟨g1,c1,g2,c2,rfl,hi1,hi2,hb2⟩; have HI1:=Lib.hid hi1; have HI2:=Lib.hid hi2; have HB2:=Lib.hid hb2; clear hi1 hi2 hb2)
 have hw3 : ∀ W,W = w2.alloc (.cells #[.slice (some ⟨g1,0,none⟩) n c1,.slice (some ⟨g2,0,none⟩) (n + 1) c2] 106) → TxW w w2 W [.string (bstr lp),.bool fo,.slice aI mI cI] [.slice (some ⟨g1,0,none⟩) n c1,.slice (some ⟨g2,0,none⟩) (n + 1) c2]:=by
  rintro W rfl
  have hs:=HB0.out.size
  have h1:=HR0.out.keep HB2.out HR0.out.lt
  exact ⟨h1.alloc _,row_new w2 [.slice (some ⟨g1,0,none⟩) n c1,.slice (some ⟨g2,0,none⟩) (n + 1) c2] _,(HB0.out.trans (HB2.out.mono hs)).alloc (Nat.le_trans hs HB2.out.size) _,(Below.refl _ w2).alloc (Nat.le_refl _) _⟩
 have HW3:=Lib.hid hw3
 clear hw3
 have hT5 : T.length ≤ n + 1:=by rw [← HT0.out]; exact allGo_len fo V its n (n + 1) 0
 have hw2s : w.heap.size < w2.heap.size:=by
  have h1:=HB2.out.size
  have h2:=HR0.out.lt
  omega
 go_loopw [5,7] (fun uv uk wr => ∃ (k f : Nat) (acc : List (Nat × Nat)) (av : Option Addr) (mv cv : Nat),uv = .slice av mv cv ∧ uk = .int .i64 (k : Int) ∧ k ≤ n + 1 ∧ n < k + f ∧ mv = acc.length ∧ Hid (TxW w w2 wr [.string (bstr lp),.bool fo,.slice aI mI cI] [.slice (some ⟨g1,0,none⟩) n c1,.slice (some ⟨g2,0,none⟩) (n + 1) c2] ∧ PcOwn (w2.heap.size + 1) (.slice av mv cv) A acc wr ∧ acc ++ allGo fo V its n f k = T)) (fun _ uk _ => n + 1 - (RowKit.intOf uk).toNat)
 case atStart => exact ⟨0,n + 1,[],none,0,0,rfl,rfl,Nat.zero_le _,by omega,rfl,Lib.hid ⟨HW3.out _ rfl,World.ownsRow_nil _ _ _ _,HT0.out⟩⟩
 case round =>
  obtain ⟨k,f,acc,av,mv,cv,rfl,rfl,hk,hkf,hmv,HR⟩:=hrel
  subst hmv
  have p0:=HR.out.1.pat.cell 0
  have p1:=HR.out.1.pat.cell 1
  have p2:=HR.out.1.pat.cell 2
  have p3:=HR.out.1.pat.lt
  have t0:=HR.out.1.txt.cell 0
  have t1:=HR.out.1.txt.cell 1
  have t2:=HR.out.1.txt.lt
  by_cases hlt : k < n + 1
  ·obtain ⟨f,rfl⟩ : ∃ f',f = f' + 1:=⟨f - 1,by omega⟩
   have hki : (k : Int) < ((n + 1 : Nat) : Int):=by omega
   have hki1 : (k : Int) < (n : Int) + 1:=by omega
   have hM:=longestR6 wr lp fo aI mI cI g1 c1 g2 c2 n V its k HN.out (HI1.out.keep HR.out.1.b2 (Nat.le_refl _)) HOK.out (HIT.out.below HR.out.1.b0) HOI.out hm hnb (by omega)
   unfold txV at hM
   have hT1:=HR.out.2.2
   cases hlo : longestP fo V its k with
   | none =>
    rw [hlo] at hM
    rw [allGo_none (by omega) hlo] at hT1
    have HM : Hid (Calls Tryz.prog 39 #[.agg #[.string (bstr lp),.bool fo,.slice aI mI cI],.agg #[.slice (some ⟨g1,0,none⟩) n c1,.slice (some ⟨g2,0,none⟩) (n + 1) c2],.int .i64 (k : Int)] wr fun e w' => e = .returned (.int .i64 (-1)) ∧ Below wr.heap.size wr w'):=Lib.hid hM
    have HT1:=Lib.hid hT1
    clear hM hT1 hlo
    go_wp2_with (go_at_call 39; refine (HM.out).mono ?_; rintro e w5 ⟨rfl,hb5⟩; have HB5:=Lib.hid hb5; clear hb5)
    go_roundw
    case rel => exact ⟨k + 1,f,acc,av,acc.length,cv,rfl,by go_num,by omega,by omega,rfl,Lib.hid ⟨HR.out.1.next HB5.out,own_below HR.out.2.1 HB5.out,HT1.out⟩⟩
    case measure => simp [RowKit.intOf]; omega
   | some j =>
    rw [hlo] at hM
    rw [allGo_some (by omega) hlo] at hT1
    have hjn : j ≤ n:=longest_n HN.out hlo
    have hkj : k ≤ j:=longest_ge hlo
    have HM : Hid (Calls Tryz.prog 39 #[.agg #[.string (bstr lp),.bool fo,.slice aI mI cI],.agg #[.slice (some ⟨g1,0,none⟩) n c1,.slice (some ⟨g2,0,none⟩) (n + 1) c2],.int .i64 (k : Int)] wr fun e w' => e = .returned (.int .i64 (j : Int)) ∧ Below wr.heap.size wr w'):=Lib.hid hM
    have hjl2 : (j : Int) < (n : Int) + 1:=by omega
    have hj0 : ¬ (j : Int) < 0:=by omega
    obtain ⟨x,hx⟩ : ∃ x : Int,((A.getD k 0 : Nat) : Int) = x:=⟨_,rfl⟩
    obtain ⟨y,hy⟩ : ∃ y : Int,((A.getD j 0 : Nat) : Int) = y:=⟨_,rfl⟩
    have HPC : Hid (pcCells A (k,j) = [.int .i64 x,.int .i64 y]):=Lib.hid (by unfold pcCells; rw [hx,hy])
    have HXX:=Lib.hid (fun W (h : TxW w w2 W [.string (bstr lp),.bool fo,.slice aI mI cI] [.slice (some ⟨g1,0,none⟩) n c1,.slice (some ⟨g2,0,none⟩) (n + 1) c2]) => hx ▸ ints_at h HI2.out (k:=k) (by rw [HAL.out]; exact hlt))
    have HYY:=Lib.hid (fun W (h : TxW w w2 W [.string (bstr lp),.bool fo,.slice aI mI cI] [.slice (some ⟨g1,0,none⟩) n c1,.slice (some ⟨g2,0,none⟩) (n + 1) c2]) => hy ▸ ints_at h HI2.out (k:=j) (by rw [HAL.out]; omega))
    have HAB : Hid (acc.length ≤ 1073741824):=Lib.hid (by
     have:=congrArg List.length hT1
     rw [List.length_append] at this
     omega)
    have HT1:=Lib.hid hT1
    clear hM hT1 hlo hx hy
    go_upto_region 5 with fail
    go_wp2_with (go_at_call 39; refine (HM.out).mono ?_; rintro e w5 ⟨rfl,hb5⟩; have HB5:=Lib.hid hb5; clear hb5)
    have h5:=HR.out.1.next HB5.out
    have HSt : Hid (∀ W,Below (w2.heap.size + 1) w5 W → W.cell? ⟨w2.heap.size,1,none⟩ = some (.slice (some ⟨g2,0,none⟩) (n + 1) c2)):=Lib.hid (fun W hb => (h5.low hb (by omega)).txt.cell 1)
    have HSx : Hid (∀ W,Below (w2.heap.size + 1) w5 W → W.cell? ⟨g2,k,none⟩ = some (.int .i64 x)):=Lib.hid (fun W hb => HXX.out W (h5.low hb (by omega)))
    have HSy : Hid (∀ W,Below (w2.heap.size + 1) w5 W → W.cell? ⟨g2,j,none⟩ = some (.int .i64 y)):=Lib.hid (fun W hb => HYY.out W (h5.low hb (by omega)))
    have HS5 : Hid (w2.heap.size + 1 ≤ w5.drew.heap.size):=Lib.hid (by have:=h5.txt.lt; exact this)
    have HO5 : Hid (w5.drew.ownsRow (w2.heap.size + 1) 40 2 (.slice av acc.length cv) acc.length (acc.flatMap (pcCells A))):=Lib.hid (own_below (own_below HR.out.2.1 HB5.out) (Below.refl _ _).drew)
    have H5:=Lib.hid h5
    clear h5
    refine wp_region_held_drew (S:=(fun W => Below (w2.heap.size + 1) w5 W)) (by kernel_rfl) (Below.refl (w2.heap.size + 1) w5).drew (fun hS0 => ?_)
    refine tE 0 ⟨some 24,.move (.tmp 5), 61,_,#[],none⟩ rfl hS0 ?_
    refine tE 1 ⟨some 25,.fieldAddr 106 (.tmp 6) 1,0,_,#[],none⟩ rfl hS0 ?_
    refine tC 2 ⟨some 26,.load 73 (.tmp 25), 73,_,#[⟨1,.data⟩],none⟩ ?_ rfl ?_ hS0 ?_; rotate_left; focus (rintro w2_ s1; have e0:=HSt.out w2_ s1; go_simp; try with_reducible rfl)
    try simp only [Act.put,pB,pC,pD]
    refine tE 3 ⟨some 27,.move (.tmp 7), 3,_,#[],none⟩ rfl hS0 ?_
    refine tC 4 ⟨some 28,.indexAddr 73 (.tmp 26) (.tmp 27),0,_,#[⟨2,.data⟩,⟨3,.data⟩],none⟩ ?_ rfl ?_ hS0 ?_; rotate_left; focus (rintro w2_ s1; have e0:=hki1; go_simp; try with_reducible rfl)
    refine tC 5 ⟨some 29,.load 3 (.tmp 28), 3,_,#[⟨4,.data⟩],none⟩ ?_ rfl ?_ hS0 ?_; rotate_left; focus (rintro w2_ s1; have e0:=HSx.out w2_ s1; go_simp; try with_reducible rfl)
    try simp only [Act.put,pB,pC,pD]
    refine tE 6 ⟨some 30,.fieldAddr 106 (.tmp 6) 1,0,_,#[],none⟩ rfl hS0 ?_
    refine tC 7 ⟨some 31,.load 73 (.tmp 30), 73,_,#[⟨6,.data⟩],none⟩ ?_ rfl ?_ hS0 ?_; rotate_left; focus (rintro w2_ s1; have e0:=HSt.out w2_ s1; go_simp; try with_reducible rfl)
    refine tE 8 ⟨some 32,.move (.tmp 8), 3,_,#[],none⟩ rfl hS0 ?_
    try simp only [Act.put,pB,pC,pD]
    refine tC 9 ⟨some 33,.indexAddr 73 (.tmp 31) (.tmp 32),0,_,#[⟨7,.data⟩,⟨8,.data⟩],none⟩ ?_ rfl ?_ hS0 ?_; rotate_left; focus (rintro w2_ s1; have e0:=hjl2; go_simp; try with_reducible rfl)
    refine tC 10 ⟨some 34,.load 3 (.tmp 33), 3,_,#[⟨9,.data⟩],none⟩ ?_ rfl ?_ hS0 ?_; rotate_left; focus (rintro w2_ s1; have e0:=HSy.out w2_ s1; go_simp; try with_reducible rfl)
    refine tE 11 ⟨some 35,.build 40 #[(0,.tmp 29),(1,.tmp 34)], 40,_,#[⟨5,.data⟩,⟨10,.data⟩],none⟩ rfl hS0 ?_
    try simp only [Act.put,pB,pC,pD]
    refine wpAnyH_ready (rs:=[12]) (by kernel_rfl) (by simp) (AllReadyH.cons (o:=⟨some 36,.buildSlice 61 1 #[(0,.tmp 35)], 61, "ref.go:406",#[⟨11,.data⟩],none⟩) rfl (fun K' hK => ?_) AllReadyH.nil)
    go_simp
    refine hK.out _ _ (((Below.refl (w2.heap.size + 1) w5).drew).alloc HS5.out _) (fun hSn => ?_)
    try simp only [Act.put,pB,pC,pD]
    clear hK K'
    refine wpAnyH_ready (rs:=[13]) (by kernel_rfl) (by simp) (AllReadyH.cons (o:=⟨some 37,.call { callee:=Callee.builtin Builtin.append,args:=#[.tmp 24,.tmp 36],argTypes:=#[61, 61] }, 61, "ref.go:406",#[⟨0,.data⟩,⟨12,.data⟩],none⟩) rfl (fun K' hK => ?_) AllReadyH.nil)
    refine stepSep (by rfl) _ _ (by rfl) Tryz.underlying61 (.agg #[.int .i64 0,.int .i64 0]) 2 16 infoPc (by rfl) (by decide) (by decide) (w2.heap.size + 1) w5.drew (.slice av acc.length cv) acc.length (acc.flatMap (pcCells A)) [.int .i64 x,.int .i64 y] (by rfl) (by intro u hu; simp only [List.mem_cons,List.not_mem_nil,or_false] at hu; rcases hu with rfl | rfl <;> rfl) (by rfl) HO5.out (by rfl) (by rfl) HAB.out HS5.out ?_
    intro v8 w8 hp8
    obtain ⟨a8,c8,rfl⟩:=own_slice6 hp8.1
    have H8:=Lib.hid (((Below.refl (w2.heap.size + 1) w5).drew).trans (hp8.below HO5.out HS5.out))
    have HP8:=Lib.hid hp8
    clear hp8
    refine hK.out _ _ H8.out (fun hSn => ?_)
    try simp only [Act.put,pB,pC,pD]
    clear hK K'
    refine tE 14 ⟨some 5,.assign (.tmp 37), 61,_,pa [⟨13,.data⟩,⟨13,.chain⟩] 14,none⟩ rfl H8.out ?_
    try simp only [Act.put,pB,pC,pD]
    refine wpAnyH_done (by kernel_rfl) ?_ _
    have HOW : Hid (PcOwn (w2.heap.size + 1) (.slice a8 (acc.length + 1) c8) A (acc ++ [(k,j)]) w8):=Lib.hid (by
     have h1:=HP8.out.1
     rw [← HPC.out] at h1
     unfold PcOwn
     rw [List.length_append,List.flatMap_append]
     simpa using h1)
    have HTX : Hid (TxW w w2 w8 [.string (bstr lp),.bool fo,.slice aI mI cI] [.slice (some ⟨g1,0,none⟩) n c1,.slice (some ⟨g2,0,none⟩) (n + 1) c2]):=Lib.hid (H5.out.low H8.out (by omega))
    by_cases hjk : j = k
    ·have q1 : ((j : Int) == (k : Int)) = true:=by rw [beq_iff_eq]; omega
     go_wp2_with fail
     go_roundw
     case rel => exact ⟨k + 1,f,acc ++ [(k,j)],a8,acc.length + 1,c8,rfl,by go_num,by omega,by omega,by rw [List.length_append,List.length_singleton],Lib.hid ⟨HTX.out,HOW.out,by rw [← HT1.out,List.append_assoc,show max (k + 1) j = k + 1 by omega]; rfl⟩⟩
     case measure => simp [RowKit.intOf]; omega
    ·have q1 : ((j : Int) == (k : Int)) = false:=by rw [beq_eq_false_iff_ne]; omega
     go_wp2_with fail
     go_roundw
     case rel => exact ⟨j,f,acc ++ [(k,j)],a8,acc.length + 1,c8,rfl,by go_num,by omega,by omega,by rw [List.length_append,List.length_singleton],Lib.hid ⟨HTX.out,HOW.out,by rw [← HT1.out,List.append_assoc,show max (k + 1) j = j by omega]; rfl⟩⟩
     case measure => simp [RowKit.intOf]; omega
  ·obtain rfl : k = n + 1:=by omega
   have hki : ¬ ((n + 1 : Nat) : Int) < ((n + 1 : Nat) : Int):=by omega
   have hT1:=HR.out.2.2
   rw [allGo_end (by omega),List.append_nil] at hT1
   subst hT1
   go_wp2_with fail
   go_ret
   exact ⟨_,rfl,own_mono (b:=w2.heap.size + 1) HR.out.2.1 (by omega),HR.out.1.b0⟩
end Go.Proofs.YtchdeboialbdiaaGreatDoor
