/- Texts joined, one behind the other (SRefV, SRefW, SItmP, SLast, SSm, SCut). -/
import Derived.Test.YtchdeboialbdiaaGreatDoorSn36
import Derived.BigRegion
namespace Go.Proofs.YtchdeboialbdiaaGreatDoor
set_option linter.unusedVariables false
set_option linter.unusedSimpArgs false
set_option maxHeartbeats 8000000
set_option maxRecDepth 100000
open Go.RowKit
open Go.Lib hiding intOf
structure FxW (w w2 W : World) (pv tv : List Value) : Prop where
 tx : TxW w w2 W pv tv
 res : Row W (w.heap.size + 1) 40 [.int .i64 0,.int .i64 0]
theorem FxW.next {w w2 W W' : World} {pv tv : List Value} (h : FxW w w2 W pv tv) (hb : Below W.heap.size W W') : FxW w w2 W' pv tv :=
 ⟨h.tx.next hb,h.res.keep hb h.res.lt⟩
theorem findR6 (w : World) (lp l : List UInt8) (fo : Bool) (its : List Itm) (aI : Option Addr) (mI cI : Nat) (p : Int) (hr : ItRd w (.slice aI mI cI) its) (hok : ∀ it ∈ its,OkI it) (hm : mI ≤ 1000000) (hlen : l.length ≤ 67108000) :
  Calls Tryz.prog 19 #[.agg #[.string (bstr lp),.bool fo,.slice aI mI cI],.string (bstr l),.int .i64 p] w fun e w' => e = .returned (pieceV (atsL l) (findP fo l its p)) ∧ Below w.heap.size w w':=by
 have hb0 : Below w.heap.size w ((w.alloc (.cells #[.string (bstr lp),.bool fo,.slice aI mI cI] 54)).alloc (.cells #[.int .i64 0,.int .i64 0] 40)):=((Below.refl _ w).alloc (Nat.le_refl _) _).alloc (by simp) _
 have hrow0 : Row ((w.alloc (.cells #[.string (bstr lp),.bool fo,.slice aI mI cI] 54)).alloc (.cells #[.int .i64 0,.int .i64 0] 40)) w.heap.size 54 [.string (bstr lp),.bool fo,.slice aI mI cI]:=Row.alloc (row_new w [.string (bstr lp),.bool fo,.slice aI mI cI] _) _
 have hrow1 : Row ((w.alloc (.cells #[.string (bstr lp),.bool fo,.slice aI mI cI] 54)).alloc (.cells #[.int .i64 0,.int .i64 0] 40)) (w.heap.size + 1) 40 [.int .i64 0,.int .i64 0]:=by
  have:=row_new (w.alloc (.cells #[.string (bstr lp),.bool fo,.slice aI mI cI] 54)) [.int .i64 0,.int .i64 0] 40
  rwa [World.size_alloc] at this
 obtain ⟨W0,hW0⟩ : ∃ W,W = (w.alloc (.cells #[.string (bstr lp),.bool fo,.slice aI mI cI] 54)).alloc (.cells #[.int .i64 0,.int .i64 0] 40):=⟨_,rfl⟩
 rw [← hW0] at hb0 hrow0 hrow1
 have hX:=textR6 W0 l (by omega)
 have hal:=ats_len l
 have hvl:=vals_lenR l
 have hok2:=vals_ok l
 unfold findP
 obtain ⟨V,hV⟩ : ∃ V,valsL l = V:=⟨_,rfl⟩
 obtain ⟨A,hA⟩ : ∃ A,atsL l = A:=⟨_,rfl⟩
 obtain ⟨n,hn⟩ : ∃ n,V.length = n:=⟨_,rfl⟩
 rw [hV] at hX hvl hok2 hal ⊢
 rw [hA] at hX hal ⊢
 rw [hn] at hX hvl hal ⊢
 have HN:=Lib.hid hn
 have HAL:=Lib.hid hal
 have HOK:=Lib.hid hok2
 have HX:=Lib.hid hX
 have HW0:=Lib.hid hW0
 have HB0:=Lib.hid hb0
 have HR0:=Lib.hid hrow0
 have HR1:=Lib.hid hrow1
 have HIT:=Lib.hid hr
 have HOI:=Lib.hid hok
 obtain ⟨T,hT0⟩ : ∃ T,findGo fo V A its p (n + 1) 0 = T:=⟨_,rfl⟩
 rw [hT0]
 have HT0:=Lib.hid hT0
 have hnb : n ≤ 67108000:=by omega
 clear hX hal hvl hok hok2 hV hA hn hr hT0 hlen hb0 hrow0 hrow1 hW0
 go_enter Tryz.func19, Tryz.ntmps19
 go_upto_region 1 with fail
 rw [← HW0.out]
 go_wp2_with (go_at_call 38; refine (HX.out).mono ?_; rintro e w2 ⟨g1,c1,g2,c2,rfl,hi1,hi2,hb2⟩; have HI1:=Lib.hid hi1; have HI2:=Lib.hid hi2; have HB2:=Lib.hid hb2; clear hi1 hi2 hb2)
 have hw3 : ∀ W,W = w2.alloc (.cells #[.slice (some ⟨g1,0,none⟩) n c1,.slice (some ⟨g2,0,none⟩) (n + 1) c2] 106) → FxW w w2 W [.string (bstr lp),.bool fo,.slice aI mI cI] [.slice (some ⟨g1,0,none⟩) n c1,.slice (some ⟨g2,0,none⟩) (n + 1) c2]:=by
  rintro W rfl
  have hs:=HB0.out.size
  have h1:=HR0.out.keep HB2.out HR0.out.lt
  exact ⟨⟨h1.alloc _,row_new w2 [.slice (some ⟨g1,0,none⟩) n c1,.slice (some ⟨g2,0,none⟩) (n + 1) c2] _,(HB0.out.trans (HB2.out.mono hs)).alloc (Nat.le_trans hs HB2.out.size) _,(Below.refl _ w2).alloc (Nat.le_refl _) _⟩,(HR1.out.keep HB2.out HR1.out.lt).alloc _⟩
 have HW3:=Lib.hid hw3
 clear hw3
 go_loopw [9] (fun uk wr => ∃ k : Nat,uk = .int .i64 (k : Int) ∧ k ≤ n + 1 ∧ Hid (FxW w w2 wr [.string (bstr lp),.bool fo,.slice aI mI cI] [.slice (some ⟨g1,0,none⟩) n c1,.slice (some ⟨g2,0,none⟩) (n + 1) c2] ∧ findGo fo V A its p (n + 1 - k) k = T)) (fun uk _ => n + 1 - (RowKit.intOf uk).toNat)
 case atStart => exact ⟨0,rfl,Nat.zero_le _,Lib.hid ⟨HW3.out _ rfl,HT0.out⟩⟩
 case round =>
  obtain ⟨k,rfl,hk,HR⟩:=hrel
  have p0:=HR.out.1.tx.pat.cell 0
  have p1:=HR.out.1.tx.pat.cell 1
  have p2:=HR.out.1.tx.pat.cell 2
  have p3:=HR.out.1.tx.pat.lt
  have t0:=HR.out.1.tx.txt.cell 0
  have t1:=HR.out.1.tx.txt.cell 1
  have t2:=HR.out.1.tx.txt.lt
  by_cases hlt : k < n + 1
  ·have x0:=ints_at HR.out.1.tx HI2.out (k:=k) (by rw [HAL.out]; exact hlt)
   have hT1:=HR.out.2
   rw [show n + 1 - k = (n - k) + 1 by omega,findGo] at hT1
   obtain ⟨x,hx⟩ : ∃ x : Int,((A.getD k 0 : Nat) : Int) = x:=⟨_,rfl⟩
   rw [hx] at x0 hT1
   have HXE:=Lib.hid hx
   clear hx
   have hlk : (k : Int) < ((n + 1 : Nat) : Int):=by omega
   have hlk2 : (k : Int) < (n : Int) + 1:=by omega
   by_cases hfr : p ≤ x
   ·rw [if_pos hfr] at hT1
    have hfr2 : ¬ x < p:=by omega
    have hM:=longestR6 wr lp fo aI mI cI g1 c1 g2 c2 n V its k HN.out (HI1.out.keep HR.out.1.tx.b2 (Nat.le_refl _)) HOK.out (HIT.out.below HR.out.1.tx.b0) HOI.out hm hnb (by omega)
    unfold txV at hM
    cases hlo : longestP fo V its k with
    | none =>
     rw [hlo] at hM hT1
     dsimp only at hT1
     have HM : Hid (Calls Tryz.prog 39 #[.agg #[.string (bstr lp),.bool fo,.slice aI mI cI],.agg #[.slice (some ⟨g1,0,none⟩) n c1,.slice (some ⟨g2,0,none⟩) (n + 1) c2],.int .i64 (k : Int)] wr fun e w' => e = .returned (.int .i64 (-1)) ∧ Below wr.heap.size wr w'):=Lib.hid hM
     have HT1:=Lib.hid hT1
     clear hM hlo hT1
     go_wp2_with (go_at_call 39; refine (HM.out).mono ?_; rintro e w5 ⟨rfl,hb5⟩; have HB5:=Lib.hid hb5; clear hb5)
     go_roundw
     case rel => exact ⟨k + 1,by go_num,by omega,Lib.hid ⟨HR.out.1.next HB5.out,by rw [show n + 1 - (k + 1) = n - k by omega]; exact HT1.out⟩⟩
     case measure => simp [RowKit.intOf]; omega
    | some j =>
     rw [hlo] at hM hT1
     dsimp only at hT1
     have hjn : j ≤ n:=longest_n HN.out hlo
     have HX1:=Lib.hid (fun W (h : TxW w w2 W [.string (bstr lp),.bool fo,.slice aI mI cI] [.slice (some ⟨g1,0,none⟩) n c1,.slice (some ⟨g2,0,none⟩) (n + 1) c2]) => ints_at h HI2.out (k:=j) (by rw [HAL.out]; omega))
     have HM : Hid (Calls Tryz.prog 39 #[.agg #[.string (bstr lp),.bool fo,.slice aI mI cI],.agg #[.slice (some ⟨g1,0,none⟩) n c1,.slice (some ⟨g2,0,none⟩) (n + 1) c2],.int .i64 (k : Int)] wr fun e w' => e = .returned (.int .i64 (j : Int)) ∧ Below wr.heap.size wr w'):=Lib.hid hM
     have hjl : (j : Int) < ((n + 1 : Nat) : Int):=by omega
     have hjl2 : (j : Int) < (n : Int) + 1:=by omega
     have hj0 : 0 ≤ (j : Int):=by omega
     obtain ⟨y,hy⟩ : ∃ y : Int,((A.getD j 0 : Nat) : Int) = y:=⟨_,rfl⟩
     rw [hy] at HX1
     have x9:=HX1.out
     have HXY : Hid (pieceV A T = .tuple #[.agg #[.int .i64 x,.int .i64 y],.bool true]):=Lib.hid (by rw [← hT1]; unfold pieceV; dsimp only; rw [HXE.out,hy])
     clear x9 hy
     clear hM hlo hT1
     go_wp2_with (go_at_call 39; refine (HM.out).mono ?_; rintro e w5 ⟨rfl,hb5⟩; have h5:=HR.out.1.next hb5; have y0:=HX1.out w5 h5.tx; have z0:=ints_at h5.tx HI2.out (k:=k) (by rw [HAL.out]; omega); rw [HXE.out] at z0; have k1:=h5.tx.txt.cell 1; have k2:=h5.tx.txt.lt; have r0:=h5.res.cell 0; have r1:=h5.res.cell 1; have r2:=h5.res.lt; have r3:=h5.res.frozen 0; have r4:=h5.res.frozen 1; have H5:=Lib.hid h5; clear hb5 h5)
     go_region
     all_goals go_wp2
     have hR:=(H5.out.res.set 0 (.int .i64 x)).set 1 (.int .i64 y)
     refine bodyPost_ret (results_row_one rfl _ _ (w.heap.size + 1) 40 #[.int .i64 x,.int .i64 y] (0,0) _ _ rfl rfl hR Tryz.underlying40 rfl (by kernel_rfl)) rfl ?_
     refine ⟨by rw [HXY.out]; rfl,?_⟩
     exact ((H5.out.tx.b0.setCell (p:=⟨w.heap.size + 1,0,none⟩) (by show w.heap.size ≤ w.heap.size + 1; omega) _).setCell (p:=⟨w.heap.size + 1,1,none⟩) (by show w.heap.size ≤ w.heap.size + 1; omega) _).drew
   ·rw [if_neg hfr] at hT1
    have HT1:=Lib.hid hT1
    have hfr2 : x < p:=by omega
    clear hT1
    go_wp2_with fail
    go_roundw
    case rel => exact ⟨k + 1,by go_num,by omega,Lib.hid ⟨HR.out.1,by rw [show n + 1 - (k + 1) = n - k by omega]; exact HT1.out⟩⟩
    case measure => simp [RowKit.intOf]; omega
  ·obtain rfl : k = n + 1:=by omega
   have hnl : ¬ ((n + 1 : Nat) : Int) < ((n + 1 : Nat) : Int):=by omega
   have hT1:=HR.out.2
   rw [Nat.sub_self] at hT1
   change none = T at hT1
   subst hT1
   have r0:=HR.out.1.res.cell 0
   have r1:=HR.out.1.res.cell 1
   have r2:=HR.out.1.res.lt
   have r3:=HR.out.1.res.frozen 0
   have r4:=HR.out.1.res.frozen 1
   go_wp2_with fail
   have hR:=(HR.out.1.res.set 0 (.int .i64 0)).set 1 (.int .i64 0)
   refine bodyPost_ret (results_row_one rfl _ _ (w.heap.size + 1) 40 #[.int .i64 0,.int .i64 0] (0,0) _ _ rfl rfl hR Tryz.underlying40 rfl (by kernel_rfl)) rfl ?_
   exact ⟨rfl,(HR.out.1.tx.b0.setCell (p:=⟨w.heap.size + 1,0,none⟩) (by show w.heap.size ≤ w.heap.size + 1; omega) _).setCell (p:=⟨w.heap.size + 1,1,none⟩) (by show w.heap.size ≤ w.heap.size + 1; omega) _⟩
theorem lastR6 (w : World) (lp l : List UInt8) (fo : Bool) (its : List Itm) (aI : Option Addr) (mI cI : Nat) (p : Int) (hr : ItRd w (.slice aI mI cI) its) (hok : ∀ it ∈ its,OkI it) (hm : mI ≤ 1000000) (hlen : l.length ≤ 67108000) :
  Calls Tryz.prog 20 #[.agg #[.string (bstr lp),.bool fo,.slice aI mI cI],.string (bstr l),.int .i64 p] w fun e w' => e = .returned (pieceV (atsL l) (lastP fo l its p)) ∧ Below w.heap.size w w':=by
 have hb0 : Below w.heap.size w ((w.alloc (.cells #[.string (bstr lp),.bool fo,.slice aI mI cI] 54)).alloc (.cells #[.int .i64 0,.int .i64 0] 40)):=((Below.refl _ w).alloc (Nat.le_refl _) _).alloc (by simp) _
 have hrow0 : Row ((w.alloc (.cells #[.string (bstr lp),.bool fo,.slice aI mI cI] 54)).alloc (.cells #[.int .i64 0,.int .i64 0] 40)) w.heap.size 54 [.string (bstr lp),.bool fo,.slice aI mI cI]:=Row.alloc (row_new w [.string (bstr lp),.bool fo,.slice aI mI cI] _) _
 have hrow1 : Row ((w.alloc (.cells #[.string (bstr lp),.bool fo,.slice aI mI cI] 54)).alloc (.cells #[.int .i64 0,.int .i64 0] 40)) (w.heap.size + 1) 40 [.int .i64 0,.int .i64 0]:=by
  have:=row_new (w.alloc (.cells #[.string (bstr lp),.bool fo,.slice aI mI cI] 54)) [.int .i64 0,.int .i64 0] 40
  rwa [World.size_alloc] at this
 obtain ⟨W0,hW0⟩ : ∃ W,W = (w.alloc (.cells #[.string (bstr lp),.bool fo,.slice aI mI cI] 54)).alloc (.cells #[.int .i64 0,.int .i64 0] 40):=⟨_,rfl⟩
 rw [← hW0] at hb0 hrow0 hrow1
 have hX:=textR6 W0 l (by omega)
 have hal:=ats_len l
 have hvl:=vals_lenR l
 have hok2:=vals_ok l
 unfold lastP
 obtain ⟨V,hV⟩ : ∃ V,valsL l = V:=⟨_,rfl⟩
 obtain ⟨A,hA⟩ : ∃ A,atsL l = A:=⟨_,rfl⟩
 obtain ⟨n,hn⟩ : ∃ n,V.length = n:=⟨_,rfl⟩
 rw [hV] at hX hvl hok2 hal ⊢
 rw [hA] at hX hal ⊢
 rw [hn] at hX hvl hal ⊢
 have HN:=Lib.hid hn
 have HAL:=Lib.hid hal
 have HOK:=Lib.hid hok2
 have HX:=Lib.hid hX
 have HW0:=Lib.hid hW0
 have HB0:=Lib.hid hb0
 have HR0:=Lib.hid hrow0
 have HR1:=Lib.hid hrow1
 have HIT:=Lib.hid hr
 have HOI:=Lib.hid hok
 obtain ⟨T,hT0⟩ : ∃ T,lastGo fo V A its p (n + 1) = T:=⟨_,rfl⟩
 rw [hT0]
 have HT0:=Lib.hid hT0
 have hnb : n ≤ 67108000:=by omega
 clear hX hal hvl hok hok2 hV hA hn hr hT0 hlen hb0 hrow0 hrow1 hW0
 go_enter Tryz.func20, Tryz.ntmps20
 go_upto_region 1 with fail
 rw [← HW0.out]
 go_wp2_with (go_at_call 38; refine (HX.out).mono ?_; rintro e w2 ⟨g1,c1,g2,c2,rfl,hi1,hi2,hb2⟩; have HI1:=Lib.hid hi1; have HI2:=Lib.hid hi2; have HB2:=Lib.hid hb2; clear hi1 hi2 hb2)
 have hw3 : ∀ W,W = w2.alloc (.cells #[.slice (some ⟨g1,0,none⟩) n c1,.slice (some ⟨g2,0,none⟩) (n + 1) c2] 106) → FxW w w2 W [.string (bstr lp),.bool fo,.slice aI mI cI] [.slice (some ⟨g1,0,none⟩) n c1,.slice (some ⟨g2,0,none⟩) (n + 1) c2]:=by
  rintro W rfl
  have hs:=HB0.out.size
  have h1:=HR0.out.keep HB2.out HR0.out.lt
  exact ⟨⟨h1.alloc _,row_new w2 [.slice (some ⟨g1,0,none⟩) n c1,.slice (some ⟨g2,0,none⟩) (n + 1) c2] _,(HB0.out.trans (HB2.out.mono hs)).alloc (Nat.le_trans hs HB2.out.size) _,(Below.refl _ w2).alloc (Nat.le_refl _) _⟩,(HR1.out.keep HB2.out HR1.out.lt).alloc _⟩
 have HW3:=Lib.hid hw3
 clear hw3
 go_loopw [9] (fun uk wr => ∃ (zk : Int) (k : Nat),uk = .int .i64 zk ∧ k ≤ n + 1 ∧ Hid (zk = (k : Int) - 1) ∧ Hid (FxW w w2 wr [.string (bstr lp),.bool fo,.slice aI mI cI] [.slice (some ⟨g1,0,none⟩) n c1,.slice (some ⟨g2,0,none⟩) (n + 1) c2] ∧ lastGo fo V A its p k = T)) (fun uk _ => (RowKit.intOf uk + 1).toNat)
 case atStart => exact ⟨(n : Int),n + 1,by first | rfl | go_num,Nat.le_refl _,Lib.hid (by omega),Lib.hid ⟨HW3.out _ rfl,HT0.out⟩⟩
 case round =>
  obtain ⟨zk,k1_,rfl,hk,HZ,HR⟩:=hrel
  have p0:=HR.out.1.tx.pat.cell 0
  have p1:=HR.out.1.tx.pat.cell 1
  have p2:=HR.out.1.tx.pat.cell 2
  have p3:=HR.out.1.tx.pat.lt
  have t0:=HR.out.1.tx.txt.cell 0
  have t1:=HR.out.1.tx.txt.cell 1
  have t2:=HR.out.1.tx.txt.lt
  rcases k1_ with _ | k
  case succ =>
   obtain rfl : zk = (k : Int):=by have:=HZ.out; omega
   have hlt : k < n + 1:=by omega
   have hk0 : (0 : Int) ≤ (k : Int):=by omega
   have x0:=ints_at HR.out.1.tx HI2.out (k:=k) (by rw [HAL.out]; exact hlt)
   have hT1:=HR.out.2
   rw [lastGo] at hT1
   obtain ⟨x,hx⟩ : ∃ x : Int,((A.getD k 0 : Nat) : Int) = x:=⟨_,rfl⟩
   rw [hx] at x0 hT1
   have HXE:=Lib.hid hx
   clear hx
   have hlk : (k : Int) < ((n + 1 : Nat) : Int):=by omega
   have hlk2 : (k : Int) < (n : Int) + 1:=by omega
   by_cases hfr : x ≤ p
   ·rw [if_pos hfr] at hT1
    have hfr2 : ¬ p < x:=by omega
    have hM:=longestR6 wr lp fo aI mI cI g1 c1 g2 c2 n V its k HN.out (HI1.out.keep HR.out.1.tx.b2 (Nat.le_refl _)) HOK.out (HIT.out.below HR.out.1.tx.b0) HOI.out hm hnb (by omega)
    unfold txV at hM
    cases hlo : longestP fo V its k with
    | none =>
     rw [hlo] at hM hT1
     dsimp only at hT1
     have HM : Hid (Calls Tryz.prog 39 #[.agg #[.string (bstr lp),.bool fo,.slice aI mI cI],.agg #[.slice (some ⟨g1,0,none⟩) n c1,.slice (some ⟨g2,0,none⟩) (n + 1) c2],.int .i64 (k : Int)] wr fun e w' => e = .returned (.int .i64 (-1)) ∧ Below wr.heap.size wr w'):=Lib.hid hM
     have HT1:=Lib.hid hT1
     clear hM hlo hT1
     go_wp2_with (go_at_call 39; refine (HM.out).mono ?_; rintro e w5 ⟨rfl,hb5⟩; have HB5:=Lib.hid hb5; clear hb5)
     go_roundw
     case rel => exact ⟨(k : Int) - 1,k,by go_num,by omega,Lib.hid rfl,Lib.hid ⟨HR.out.1.next HB5.out,HT1.out⟩⟩
     case measure => first | (simp [RowKit.intOf]; done) | (simp [RowKit.intOf]; omega)
    | some j =>
     rw [hlo] at hM hT1
     dsimp only at hT1
     have hjn : j ≤ n:=longest_n HN.out hlo
     have HX1:=Lib.hid (fun W (h : TxW w w2 W [.string (bstr lp),.bool fo,.slice aI mI cI] [.slice (some ⟨g1,0,none⟩) n c1,.slice (some ⟨g2,0,none⟩) (n + 1) c2]) => ints_at h HI2.out (k:=j) (by rw [HAL.out]; omega))
     have HM : Hid (Calls Tryz.prog 39 #[.agg #[.string (bstr lp),.bool fo,.slice aI mI cI],.agg #[.slice (some ⟨g1,0,none⟩) n c1,.slice (some ⟨g2,0,none⟩) (n + 1) c2],.int .i64 (k : Int)] wr fun e w' => e = .returned (.int .i64 (j : Int)) ∧ Below wr.heap.size wr w'):=Lib.hid hM
     have hjl : (j : Int) < ((n + 1 : Nat) : Int):=by omega
     have hjl2 : (j : Int) < (n : Int) + 1:=by omega
     have hj0 : 0 ≤ (j : Int):=by omega
     obtain ⟨y,hy⟩ : ∃ y : Int,((A.getD j 0 : Nat) : Int) = y:=⟨_,rfl⟩
     rw [hy] at HX1
     have x9:=HX1.out
     have HXY : Hid (pieceV A T = .tuple #[.agg #[.int .i64 x,.int .i64 y],.bool true]):=Lib.hid (by rw [← hT1]; unfold pieceV; dsimp only; rw [HXE.out,hy])
     clear x9 hy
     clear hM hlo hT1
     go_wp2_with (go_at_call 39; refine (HM.out).mono ?_; rintro e w5 ⟨rfl,hb5⟩; have h5:=HR.out.1.next hb5; have y0:=HX1.out w5 h5.tx; have z0:=ints_at h5.tx HI2.out (k:=k) (by rw [HAL.out]; omega); rw [HXE.out] at z0; have k1:=h5.tx.txt.cell 1; have k2:=h5.tx.txt.lt; have r0:=h5.res.cell 0; have r1:=h5.res.cell 1; have r2:=h5.res.lt; have r3:=h5.res.frozen 0; have r4:=h5.res.frozen 1; have H5:=Lib.hid h5; clear hb5 h5)
     go_region
     all_goals go_wp2
     have hR:=(H5.out.res.set 0 (.int .i64 x)).set 1 (.int .i64 y)
     refine bodyPost_ret (results_row_one rfl _ _ (w.heap.size + 1) 40 #[.int .i64 x,.int .i64 y] (0,0) _ _ rfl rfl hR Tryz.underlying40 rfl (by kernel_rfl)) rfl ?_
     refine ⟨by rw [HXY.out]; rfl,?_⟩
     exact ((H5.out.tx.b0.setCell (p:=⟨w.heap.size + 1,0,none⟩) (by show w.heap.size ≤ w.heap.size + 1; omega) _).setCell (p:=⟨w.heap.size + 1,1,none⟩) (by show w.heap.size ≤ w.heap.size + 1; omega) _).drew
   ·rw [if_neg hfr] at hT1
    have HT1:=Lib.hid hT1
    have hfr2 : p < x:=by omega
    clear hT1
    go_wp2_with fail
    go_roundw
    case rel => exact ⟨(k : Int) - 1,k,by go_num,by omega,Lib.hid rfl,Lib.hid ⟨HR.out.1,HT1.out⟩⟩
    case measure => first | (simp [RowKit.intOf]; done) | (simp [RowKit.intOf]; omega)
  case zero =>
   obtain rfl : zk = -1:=by have:=HZ.out; omega
   have hT1:=HR.out.2
   change none = T at hT1
   subst hT1
   have r0:=HR.out.1.res.cell 0
   have r1:=HR.out.1.res.cell 1
   have r2:=HR.out.1.res.lt
   have r3:=HR.out.1.res.frozen 0
   have r4:=HR.out.1.res.frozen 1
   go_wp2_with fail
   have hR:=(HR.out.1.res.set 0 (.int .i64 0)).set 1 (.int .i64 0)
   refine bodyPost_ret (results_row_one rfl _ _ (w.heap.size + 1) 40 #[.int .i64 0,.int .i64 0] (0,0) _ _ rfl rfl hR Tryz.underlying40 rfl (by kernel_rfl)) rfl ?_
   exact ⟨rfl,(HR.out.1.tx.b0.setCell (p:=⟨w.heap.size + 1,0,none⟩) (by show w.heap.size ≤ w.heap.size + 1; omega) _).setCell (p:=⟨w.heap.size + 1,1,none⟩) (by show w.heap.size ≤ w.heap.size + 1; omega) _⟩
theorem okc_small {v : Nat} (h : OkC v) : v < 2000000:=by
 unfold OkC wrongN at h
 omega
theorem hex_kind {V : List Nat} {i k v j : Nat} (h : hexP V i = .inr (k,v,j)) : k = 0:=by
 unfold hexP at h
 split at h
 ·cases h
 ·split at h
  ·cases h
  ·simp only [Sum.inr.injEq,Prod.mk.injEq] at h; exact h.1.symm
theorem rune_kind {V : List Nat} {i k v j : Nat} (h : runeP V i = .inr (k,v,j)) : k = 0:=by
 unfold runeP at h
 split at h
 ·dsimp only at h
  split at h
  ·cases h
  ·simp only [Sum.inr.injEq,Prod.mk.injEq] at h; exact h.1.symm
 ·cases h
theorem one_kinds {V : List Nat} {i k v j : Nat} (h : oneP V i = .inr (k,v,j)) : k = 0 ∨ k = 119 ∨ k = 87 ∨ k = 115 ∨ k = 83:=by
 unfold oneP at h
 split at h
 ·cases h
 ·split at h
  ·split at h
   ·cases h
   ·split at h
    ·simp only [Sum.inr.injEq,Prod.mk.injEq] at h; exact .inl h.1.symm
    ·split at h
     ·simp only [Sum.inr.injEq,Prod.mk.injEq] at h; exact .inl h.1.symm
     ·split at h
      ·simp only [Sum.inr.injEq,Prod.mk.injEq] at h; exact .inl h.1.symm
      ·split at h
       ·simp only [Sum.inr.injEq,Prod.mk.injEq] at h; exact .inl h.1.symm
       ·split at h
        ·rename_i hv
         simp only [Sum.inr.injEq,Prod.mk.injEq] at h
         omega
        ·split at h
         ·exact .inl (hex_kind h)
         ·split at h
          ·exact .inl (rune_kind h)
          ·cases h
  ·simp only [Sum.inr.injEq,Prod.mk.injEq] at h; exact .inl h.1.symm
theorem one_el {V : List Nat} (hV : OkV V) {i k v j : Nat} (hi : i ≤ V.length) (h : oneP V i = .inr (k,v,j)) : OkEl (if k = 0 then .rng v v else .kind k) ∧ (k = 0 → OkEl (.rng v v)) ∧ (k ≠ 0 → OkEl (.kind k)):=by
 have hl:=oneP_le V hV i hi
 rw [h] at hl
 have h1 : k = 0 → OkEl (.rng v v):=fun hk => ⟨okc_small (hl.2.2 hk),okc_small (hl.2.2 hk)⟩
 have h2 : k ≠ 0 → OkEl (.kind k):=fun hk => (one_kinds h).resolve_left hk
 refine ⟨?_,h1,h2⟩
 by_cases hk : k = 0
 ·rw [if_pos hk]; exact h1 hk
 ·rw [if_neg hk]; exact h2 hk
theorem els_push {els : List El} {x : El} (h : ∀ y ∈ els,OkEl y) (hx : OkEl x) : ∀ y ∈ els ++ [x],OkEl y:=by
 intro y hy
 rcases List.mem_append.1 hy with h1 | h1
 ·exact h y h1
 ·rw [List.mem_singleton] at h1; rw [h1]; exact hx
theorem set_els {V : List Nat} (hV : OkV V) : ∀ (f i : Nat) (els e : List El) (j : Nat),i ≤ V.length → (∀ x ∈ els,OkEl x) → setGo V f i els = .inr (e,j) → (∀ x ∈ e,OkEl x) ∧ e.length ≤ els.length + f
 | 0,i,els,e,j,hi,ho,h => by rw [setGo] at h; cases h
 | f + 1,i,els,e,j,hi,ho,h => by
  rw [setGo] at h
  split at h
  ·cases h
  ·split at h
   ·split at h
    ·cases h
    ·simp only [Sum.inr.injEq,Prod.mk.injEq] at h
     obtain ⟨rfl,_⟩:=h
     exact ⟨ho,by omega⟩
   ·split at h
    ·cases h
    ·rename_i k v j1 hone
     have hle:=oneP_le V hV i hi
     rw [hone] at hle
     have hel:=one_el hV hi hone
     split at h
     ·rename_i hk
      split at h
      ·rename_i h45
       split at h
       ·cases h
       ·rename_i hv j2 hhi
        have hlt:=highP_le V hV (j1 + 1) v (by have:=lt_of_some h45; omega)
        rw [hhi] at hlt
        have:=set_els hV f j2 _ e j hlt.2.1 (els_push ho (show OkEl (.rng v hv) from ⟨okc_small (hle.2.2 hk),by have:=hlt.2.2.2.1; unfold wrongN at this; omega⟩)) h
        rw [List.length_append,List.length_singleton] at this
        exact ⟨this.1,by omega⟩
      ·have:=set_els hV f j1 _ e j hle.2.1 (els_push ho (hel.2.1 hk)) h
       rw [List.length_append,List.length_singleton] at this
       exact ⟨this.1,by omega⟩
     ·rename_i hk
      have:=set_els hV f j1 _ e j hle.2.1 (els_push ho (hel.2.2 hk)) h
      rw [List.length_append,List.length_singleton] at this
      exact ⟨this.1,by omega⟩
theorem count_one (V : List Nat) (i : Nat) : (countP V i).1 ≤ 1:=by
 unfold countP
 split
 ·exact Nat.zero_le _
 ·split
  ·exact Nat.le_refl _
  ·split
   ·exact Nat.zero_le _
   ·exact Nat.le_refl _
theorem setP_els {V : List Nat} (hV : OkV V) {i j : Nat} {neg : Bool} {e : List El} (hi : i ≤ V.length) (h : setP V i = .inr (neg,e,j)) : (∀ x ∈ e,OkEl x) ∧ e.length ≤ V.length:=by
 unfold setP at h
 split at h
 ·rename_i h94
  split at h
  ·cases h
  ·rename_i e2 j2 hs
   simp only [Sum.inr.injEq,Prod.mk.injEq] at h
   obtain ⟨_,rfl,_⟩:=h
   have:=set_els hV V.length (i + 1) [] _ _ (by have:=lt_of_some h94; omega) (by intro x hx; cases hx) hs
   exact ⟨this.1,by have:=this.2; rw [List.length_nil] at this; omega⟩
 ·split at h
  ·cases h
  ·rename_i e2 j2 hs
   simp only [Sum.inr.injEq,Prod.mk.injEq] at h
   obtain ⟨_,rfl,_⟩:=h
   have:=set_els hV V.length i [] _ _ hi (by intro x hx; cases hx) hs
   exact ⟨this.1,by have:=this.2; rw [List.length_nil] at this; omega⟩
theorem withC_ok {V : List Nat} {what : Nat} {neg : Bool} {els : List El} {i : Nat} (hw : what = 46 ∨ what = 91 ∨ (what = 99 ∧ ∃ x,els = [x])) (he : ∀ x ∈ els,OkEl x) (hl : els.length ≤ 1000000) : OkI (withCount V what neg els i).1 :=
 ⟨.inr (.inr ⟨hw,he⟩),count_one V i,hl⟩
theorem item_ok {V : List Nat} (hV : OkV V) (hn : V.length ≤ 1000000) {i j : Nat} {it : Itm} (hi : i ≤ V.length) (h : itemP V i = .inr (it,j)) : OkI it:=by
 unfold itemP at h
 split at h
 ·cases h
 ·rename_i c hc
  split at h
  ·cases h
  ·split at h
   ·rename_i he
    simp only [Sum.inr.injEq,Prod.mk.injEq] at h
    obtain ⟨rfl,_⟩:=h
    refine ⟨?_,Nat.le_refl _,Nat.zero_le _⟩
    rcases he with h1 | h1
    ·exact .inl h1
    ·exact .inr (.inl h1)
   ·split at h
    ·simp only [Sum.inr.injEq] at h
     have:=withC_ok (V:=V) (what:=46) (neg:=false) (els:=[]) (i:=i + 1) (.inl rfl) (by intro x hx; cases hx) (Nat.zero_le _)
     rw [h] at this
     exact this
    ·split at h
     ·split at h
      ·cases h
      ·rename_i ng e j2 hs
       simp only [Sum.inr.injEq] at h
       have he:=setP_els hV (by have:=lt_of_some hc; omega) hs
       have:=withC_ok (V:=V) (what:=91) (neg:=ng) (els:=e) (i:=j2) (.inr (.inl rfl)) he.1 (by have:=he.2; omega)
       rw [h] at this
       exact this
     ·split at h
      ·cases h
      ·rename_i k v j2 hs
       simp only [Sum.inr.injEq] at h
       have he:=one_el hV hi hs
       have:=withC_ok (V:=V) (what:=99) (neg:=false) (els:=[if k = 0 then .rng v v else .kind k]) (i:=j2) (.inr (.inr ⟨rfl,_,rfl⟩)) (by intro x hx; rw [List.mem_singleton] at hx; rw [hx]; exact he.1) (by rw [List.length_singleton]; omega)
       rw [h] at this
       exact this
theorem itemsGo_ok {V : List Nat} (hV : OkV V) (hn : V.length ≤ 1000000) : ∀ (f i : Nat) (acc its : List Itm),i ≤ V.length → (∀ it ∈ acc,OkI it) → itemsGo V f i acc = .inr its → ∀ it ∈ its,OkI it
 | 0,i,acc,its,hi,ha,h => by
  rw [itemsGo] at h
  simp only [Sum.inr.injEq] at h
  rw [← h]; exact ha
 | f + 1,i,acc,its,hi,ha,h => by
  rw [itemsGo] at h
  split at h
  ·simp only [Sum.inr.injEq] at h
   rw [← h]; exact ha
  ·split at h
   ·cases h
   ·rename_i it j hs
    have hle:=itemP_le V hV i hi
    rw [hs] at hle
    refine itemsGo_ok hV hn f j _ its hle.2 (fun x hx => ?_) h
    rcases List.mem_append.1 hx with h1 | h1
    ·exact ha x h1
    ·rw [List.mem_singleton] at h1; rw [h1]; exact item_ok hV hn hi hs
theorem items_ok {V : List Nat} (hV : OkV V) (hn : V.length ≤ 1000000) {its : List Itm} (h : itemsP V = .inr its) : ∀ it ∈ its,OkI it:=by
 unfold itemsP at h
 refine itemsGo_ok hV hn _ _ [] its ?_ (by intro x hx; cases hx) h
 split
 ·rename_i hf
  unfold foldedP at hf
  have:=of_decide_eq_true hf
  have:=lt_of_some this.2
  omega
 ·exact Nat.zero_le _
theorem lastC (w : World) (g : Nat) (lp l : List UInt8) (fo : Bool) (its : List Itm) (fr : Int) (hP : PatIs w g lp fo its) (hm : l.length ≤ 67108000) (hl : its.length ≤ 67108864) (hT : Tabs w) :
  Calls Tryz.prog 10 #[.pointer (some ⟨g,0,none⟩),.string (bstr l),.int .i64 fr] w fun e w' => e = .returned (pieceV (atsL l) (lastP fo l its fr)) ∧ Below w.heap.size w w':=by
 have hb0 : Below w.heap.size w (w.alloc (.cells #[.int .i64 0,.int .i64 0] 40)):=(Below.refl _ w).alloc (Nat.le_refl _) _
 have hX:=textOfC (w.alloc (.cells #[.int .i64 0,.int .i64 0] 40)) l (by omega) (hT.below hb0 hT.size)
 have hal:=ats_len l
 have hvl:=vals_len l
 have hok:=vals_ok l
 have hrow0 : Row (w.alloc (.cells #[.int .i64 0,.int .i64 0] 40)) w.heap.size 40 [.int .i64 0,.int .i64 0]:=row_new w [.int .i64 0,.int .i64 0] _
 obtain ⟨vm,Lm,Bm,hrow,hrest⟩:=id hP
 have p1 : w.cell? ⟨g,1,none⟩ = some (.bool true):=hrow.cell 1
 have p2:=hrow.lt
 unfold lastP
 unfold TextP at hX
 obtain ⟨V,hV⟩ : ∃ V,valsL l = V:=⟨_,rfl⟩
 obtain ⟨A,hA⟩ : ∃ A,atsL l = A:=⟨_,rfl⟩
 obtain ⟨n,hn⟩ : ∃ n,V.length = n:=⟨_,rfl⟩
 rw [hV] at hX hvl hok hal ⊢
 rw [hA] at hX hal ⊢
 rw [hn] at hX hvl hal ⊢
 have HN:=Lib.hid hn
 have HAL:=Lib.hid hal
 have HOK:=Lib.hid hok
 have HX:=Lib.hid hX
 have HP:=Lib.hid hP
 have HB0:=Lib.hid hb0
 have HR0:=Lib.hid hrow0
 obtain ⟨T,hT0⟩ : ∃ T,lastGo fo V A its fr (n + 1) = T:=⟨_,rfl⟩
 rw [hT0]
 have HT0:=Lib.hid hT0
 have hnb : n ≤ 67108000:=by omega
 clear hX hb0 hrow0 hal hvl hok hV hA hn hP hrow hrest hT hT0 hm
 go_enter Tryz.func10, Tryz.ntmps10
 go_wp2_with (go_at_call 29; refine (HX.out).mono ?_; rintro e w2 ⟨a,c,a2,c2,rfl,hrt,hai,hb2⟩; have hsz2:=hb2.size; have HRT:=Lib.hid hrt; have HAI:=Lib.hid hai; have HB2:=Lib.hid hb2; clear hrt hai hb2)
 have hw3 : ∀ W,W = w2.alloc (.cells #[.slice a n c,.slice a2 (n + 1) c2] 75) → Below w.heap.size w W ∧ Row W w.heap.size 40 [.int .i64 0,.int .i64 0] ∧ Row W w2.heap.size 75 [.slice a n c,.slice a2 (n + 1) c2]:=by
  rintro W rfl
  have hs:=HB0.out.size
  have h1:=HR0.out.keep HB2.out HR0.out.lt
  exact ⟨(HB0.out.trans (HB2.out.mono hs)).alloc (Nat.le_trans hs HB2.out.size) _,h1.alloc _,row_new w2 [.slice a n c,.slice a2 (n + 1) c2] _⟩
 have HW3:=Lib.hid hw3
 clear hw3
 have hws : w.heap.size < w2.heap.size:=by rw [World.size_alloc] at hsz2; omega
 go_loopw [9] (fun uk wr => ∃ (zk : Int) (k : Nat),uk = .int .i64 zk ∧ k ≤ n + 1 ∧ Hid (zk = (k : Int) - 1) ∧ Hid (Below w.heap.size w wr ∧ Below w2.heap.size w2 wr ∧ Row wr w.heap.size 40 [.int .i64 0,.int .i64 0] ∧ Row wr w2.heap.size 75 [.slice a n c,.slice a2 (n + 1) c2] ∧ lastGo fo V A its fr k = T)) (fun uk _ => (RowKit.intOf uk + 1).toNat)
 case atStart =>
  obtain ⟨h1,h2,h3⟩:=HW3.out _ rfl
  exact ⟨(n : Int),n + 1,by first | rfl | go_num,Nat.le_refl _,Lib.hid (by omega),Lib.hid ⟨h1,(Below.refl _ w2).alloc (Nat.le_refl _) _,h2,h3,HT0.out⟩⟩
 case round =>
  obtain ⟨zk,k1_,rfl,hk,HZ,HR⟩:=hrel
  have t0:=HR.out.2.2.2.1.cell 0
  have t1:=HR.out.2.2.2.1.cell 1
  have t2:=HR.out.2.2.2.1.lt
  have s0:=HR.out.2.2.1.frozen 0
  have s1:=HR.out.2.2.1.frozen 1
  have s2:=HR.out.2.2.1.lt
  have s3:=HR.out.2.2.1.cell 0
  have s4:=HR.out.2.2.1.cell 1
  rcases k1_ with _ | k
  case succ =>
   obtain rfl : zk = (k : Int):=by have:=HZ.out; omega
   have hlt : k < n + 1:=by omega
   have hk0 : (0 : Int) ≤ (k : Int):=by omega
   obtain ⟨ga,rfl,hga,hac⟩:=HAI.out
   have x0 : wr.cell? ⟨ga,k,none⟩ = some (.int .i64 ((A.getD k 0 : Nat) : Int)):=by
    rw [World.cell?_of_block (a:=⟨ga,k,none⟩) (HR.out.2.1.block ga hga)]
    exact hac _ _ (getD_at (by rw [HAL.out]; exact hlt))
   have hT1:=HR.out.2.2.2.2
   rw [lastGo] at hT1
   obtain ⟨x,hx⟩ : ∃ x,A.getD k 0 = x:=⟨_,rfl⟩
   rw [hx] at x0 hT1
   have HXE:=Lib.hid hx
   clear hx
   have hlk : (k : Int) < ((n + 1 : Nat) : Int):=by omega
   have hlk2 : (k : Int) < (n : Int) + 1:=by omega
   by_cases hfr : (x : Int) ≤ fr
   ·rw [if_pos hfr] at hT1
    have hfr2 : ¬ fr < (x : Int):=by omega
    have hM:=matchC wr g lp fo its a (some ⟨ga,0,none⟩) n c (n + 1) c2 V k (HP.out.keep HR.out.1) (HRT.out.keep HR.out.2.1 (Nat.le_refl _)) HOK.out (by omega) (by omega) hl
    cases hlo : longestP fo V its k with
    | none =>
     rw [hlo] at hM hT1
     dsimp only at hT1
     have HM:=Lib.hid hM
     have HT1:=Lib.hid hT1
     clear hM hT1 hlo hac
     have HM2 : Hid (Calls Tryz.prog 30 #[.pointer (some ⟨g,0,none⟩),.agg #[.slice a n c,.slice (some ⟨ga,0,none⟩) (n + 1) c2],.int .i64 (k : Int)] wr fun e w' => e = .returned (.int .i64 (-1)) ∧ Below wr.heap.size wr w'):=Lib.hid HM.out
     go_wp2_with (go_at_call 30; refine (HM2.out).mono ?_; rintro e w5 ⟨rfl,hb5⟩; have HB5:=Lib.hid hb5; clear hb5)
     go_roundw
     case rel => exact ⟨(k : Int) - 1,k,by go_num,by omega,Lib.hid rfl,Lib.hid ⟨HR.out.1.trans (HB5.out.mono HR.out.1.size),HR.out.2.1.trans (HB5.out.mono HR.out.2.1.size),HR.out.2.2.1.keep HB5.out HR.out.2.2.1.lt,HR.out.2.2.2.1.keep HB5.out HR.out.2.2.2.1.lt,HT1.out⟩⟩
     case measure => first | (simp [RowKit.intOf]; done) | (simp [RowKit.intOf]; omega)
    | some j =>
     rw [hlo] at hM hT1
     dsimp only at hT1
     have hjn : j ≤ n:=by have:=longest_le hlo; have:=HN.out; omega
     have x1 : ∀ W,Below w2.heap.size w2 W → W.cell? ⟨ga,j,none⟩ = some (.int .i64 ((A.getD j 0 : Nat) : Int)):=fun W hW => by
      rw [World.cell?_of_block (a:=⟨ga,j,none⟩) (hW.block ga hga)]
      exact hac _ _ (getD_at (by rw [HAL.out]; omega))
     obtain ⟨y,hy⟩ : ∃ y,A.getD j 0 = y:=⟨_,rfl⟩
     rw [hy] at x1
     have HYE:=Lib.hid hy
     have HX1:=Lib.hid x1
     have HM : Hid (Calls Tryz.prog 30 #[.pointer (some ⟨g,0,none⟩),.agg #[.slice a n c,.slice (some ⟨ga,0,none⟩) (n + 1) c2],.int .i64 (k : Int)] wr fun e w' => e = .returned (.int .i64 (j : Int)) ∧ Below wr.heap.size wr w'):=Lib.hid hM
     have HT1:=Lib.hid hT1
     have hjl : (j : Int) < ((n + 1 : Nat) : Int):=by omega
     have hjl2 : (j : Int) < (n : Int) + 1:=by omega
     have hj0 : 0 ≤ (j : Int):=by omega
     have HX0 : Hid (∀ W,Below w2.heap.size w2 W → W.cell? ⟨ga,k,none⟩ = some (.int .i64 (x : Int))):=Lib.hid (fun W hW => by
      rw [World.cell?_of_block (a:=⟨ga,k,none⟩) (hW.block ga hga),← HXE.out]
      exact hac _ _ (getD_at (by rw [HAL.out]; exact hlt)))
     clear hM hT1 hlo hac hy x1
     go_wp2_with (go_at_call 30; refine (HM.out).mono ?_; rintro e w5 ⟨rfl,hb5⟩; have y0:=HX1.out w5 (HR.out.2.1.trans (hb5.mono HR.out.2.1.size)); have z0:=HX0.out w5 (HR.out.2.1.trans (hb5.mono HR.out.2.1.size)); have k0:=(HR.out.2.2.2.1.keep hb5 HR.out.2.2.2.1.lt).lt; have k1:=HR.out.2.2.2.1.keep hb5 HR.out.2.2.2.1.lt; have k2:=k1.cell 1; have k3:=HR.out.2.2.1.keep hb5 HR.out.2.2.1.lt; have k4:=k3.frozen 0; have k5:=k3.frozen 1; have k6:=k3.cell 0; have k7:=k3.cell 1; have k8:=k3.lt; have K3:=Lib.hid k3; have HB5:=Lib.hid hb5; clear hb5 k1 k3)
     go_region
     all_goals go_wp2
     have hR:=(K3.out.set 0 (.int .i64 (x : Int))).set 1 (.int .i64 (y : Int))
     refine bodyPost_ret (results_row_one rfl _ _ w.heap.size 40 #[.int .i64 (x : Int),.int .i64 (y : Int)] (0,0) _ _ rfl rfl hR Tryz.underlying40 rfl (by kernel_rfl)) rfl ?_
     refine ⟨?_,(((HR.out.1.trans (HB5.out.mono HR.out.1.size)).setCell (p:=⟨w.heap.size,0,none⟩) (Nat.le_refl _) _).setCell (p:=⟨w.heap.size,1,none⟩) (Nat.le_refl _) _).drew⟩
     rw [← HT1.out]
     unfold pieceV
     dsimp only
     rw [HXE.out,HYE.out]
     rfl
   ·rw [if_neg hfr] at hT1
    have hfr2 : fr < (x : Int):=by omega
    have HT1:=Lib.hid hT1
    clear hT1 hac
    go_wp2_with fail
    go_roundw
    case rel => exact ⟨(k : Int) - 1,k,by go_num,by omega,Lib.hid rfl,Lib.hid ⟨HR.out.1,HR.out.2.1,HR.out.2.2.1,HR.out.2.2.2.1,HT1.out⟩⟩
    case measure => first | (simp [RowKit.intOf]; done) | (simp [RowKit.intOf]; omega)
  case zero =>
   obtain rfl : zk = -1:=by have:=HZ.out; omega
   have hT1:=HR.out.2.2.2.2
   change none = T at hT1
   have HT1:=Lib.hid hT1
   clear hT1
   go_wp2_with fail
   have hR:=(HR.out.2.2.1.set 0 (.int .i64 0)).set 1 (.int .i64 0)
   refine bodyPost_ret (results_row_one rfl _ _ w.heap.size 40 #[.int .i64 0,.int .i64 0] (0,0) _ _ rfl rfl hR Tryz.underlying40 rfl (by kernel_rfl)) rfl ?_
   refine ⟨?_,(HR.out.1.setCell (p:=⟨w.heap.size,0,none⟩) (Nat.le_refl _) _).setCell (p:=⟨w.heap.size,1,none⟩) (Nat.le_refl _) _⟩
   rw [← HT1.out]
   rfl
theorem ItRd.grown {w w' : World} {v : Value} {its : List Itm} (h : ItRd w v its) {p t : Nat} {xs : List Value} (hg : w.grownBy w' (some p)) (hr : Row w p t xs) (h1 : t ≠ 99) (h2 : t ≠ 129) : ItRd w' v its:=by
 obtain ⟨L,hL,⟨a,c,hv,hc⟩,he⟩:=h
 refine ⟨L,hL,⟨a,c,hv,fun hn => ?_⟩,fun q hq => (he q hq).grown hg (fun b hb => by cases hb; exact ⟨_,_,hr,h2⟩)⟩
 obtain ⟨g,cur,h5,h6,h7⟩:=hc hn
 refine ⟨g,cur,h5,(hg.block g (Array.getElem?_eq_some_iff.1 h6).1 (fun e => ?_)).trans h6,h7⟩
 simp only [Option.some.injEq] at e
 subst e
 have:=hr.out.symm.trans h6
 simp only [Option.some.injEq,Obj.cells.injEq] at this
 exact h1 this.2.1
structure SmW (w W : World) (b2 : Nat) (lk pv : List Value) (g : Nat) (l : List UInt8) (fo : Bool) (its : List Itm) (v : Value) : Prop where
 look : Row W w.heap.size 26 lk
 pat : Row W b2 54 pv
 frm : PatFrom (w.heap.size + 1) W g l fo its
 it : ItRd W v its
 below : Below w.heap.size w W
theorem PatFrom.keep {B0 : Nat} {w w' : World} {g : Nat} {l : List UInt8} {fo : Bool} {its : List Itm} (h : PatFrom B0 w g l fo its) (hb : Below w.heap.size w w') : PatFrom B0 w' g l fo its:=by
 obtain ⟨v,L,B,h0,h1,h2,h3⟩:=h
 refine ⟨v,L,B,h0,h1.keep hb h1.lt,h2,own_below h3.1 hb,fun q hq => ?_⟩
 rcases h3.2 q hq with h | ⟨h,K,hk,ha,hF⟩
 ·exact .inl h
 ·exact .inr ⟨h,K,hk,ha,hF.below hb (Nat.le_refl _)⟩
theorem SmW.next {w W W' : World} {b2 : Nat} {lk pv : List Value} {g : Nat} {l : List UInt8} {fo : Bool} {its : List Itm} {v : Value} (h : SmW w W b2 lk pv g l fo its v) (hb : Below W.heap.size W W') : SmW w W' b2 lk pv g l fo its v :=
 ⟨h.look.keep hb h.look.lt,h.pat.keep hb h.pat.lt,h.frm.keep hb,h.it.below hb,h.below.trans (hb.mono h.below.size)⟩
theorem row_ne {W : World} {g g' t t' : Nat} {xs ys : List Value} (h : Row W g t xs) (h' : Row W g' t' ys) (ht : t ≠ t') : g ≠ g':=by
 intro e
 subst e
 have:=h.out.symm.trans h'.out
 simp only [Option.some.injEq,Obj.cells.injEq] at this
 exact ht this.2.1
theorem SmW.put {w W : World} {b2 : Nat} {lk pv : List Value} {g : Nat} {l : List UInt8} {fo : Bool} {its : List Itm} {v : Value} (h : SmW w W b2 lk pv g l fo its v) (i : Nat) (u : Value) : SmW w (W.setCell ⟨w.heap.size,i,none⟩ u) b2 (lk.set i u) pv g l fo its v:=by
 have hf:=h.frm
 obtain ⟨_,_,_,_,hrow,_⟩:=id hf
 exact ⟨h.look.set i u,h.pat.other (p:=⟨w.heap.size,i,none⟩) (row_ne h.look h.pat (by decide)) u,hf.grown i u (by omega) (row_ne h.look hrow (by decide)),h.it.grown (grownBy_set W w.heap.size i u) h.look (by decide) (by decide),h.below.setCell (p:=⟨w.heap.size,i,none⟩) (Nat.le_refl _) u⟩
theorem cutC (w : World) (l : List UInt8) (k : Nat) (hk : k ≤ 1048576) : Calls Tryz.prog 17 #[.string (bstr l),.int .i64 (k : Int)] w fun e w' => e = .returned (.string (bstr (l.take k))) ∧ w' = w:=by
 by_cases h : k < l.length
 ·have h1 : (k : Int) < (l.length : Int):=by omega
  have h2 : ¬ (l.length : Int) ≤ (k : Int):=by omega
  have h3 : (k : Int) ≤ (l.length : Int):=by omega
  obtain ⟨T,hT⟩ : ∃ T,l.take k = T:=⟨_,rfl⟩
  rw [hT]
  have hT2 : (l.drop 0).take (k - 0) = T:=by rw [List.drop_zero,Nat.sub_zero]; exact hT
  go_enter Tryz.func17, Tryz.ntmps17
  go_wp2_with fail
  go_ret
  exact ⟨by first | rfl | (rw [← hT]; rfl),rfl⟩
 ·have h1 : ¬ (k : Int) < (l.length : Int):=by omega
  have h2 : (l.length : Int) ≤ (k : Int):=by omega
  rw [List.take_of_length_le (by omega)]
  go_enter Tryz.func17, Tryz.ntmps17
  go_wp2_with fail
  go_ret
  exact ⟨rfl,rfl⟩
end Go.Proofs.YtchdeboialbdiaaGreatDoor
