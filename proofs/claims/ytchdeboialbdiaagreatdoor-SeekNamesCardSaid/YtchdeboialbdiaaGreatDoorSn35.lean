/- Texts joined, one behind the other (SRefS). -/
import Derived.Test.YtchdeboialbdiaaGreatDoorSqy
import Derived.Test.YtchdeboialbdiaaGreatDoorSn34
namespace Go.Proofs.YtchdeboialbdiaaGreatDoor
set_option linter.unusedVariables false
set_option linter.unusedSimpArgs false
set_option maxHeartbeats 8000000
set_option maxRecDepth 100000
open Go.RowKit
open Go.Lib hiding intOf
theorem infoBool : (Tryz.prog.info? 4).map (fun i => (i.zero,i.size,i.bytes)) = some (some (.bool false),1,1):=by kernel_rfl
def boolsV (n : Nat) (T : Nat → Bool) : List Value:=(List.range (n + 1)).map fun j => .bool (T j)
theorem bools_at {n : Nat} {T : Nat → Bool} {i : Nat} (h : i ≤ n) : (boolsV n T)[i]? = some (.bool (T i)):=by
 unfold boolsV
 rw [List.getElem?_map,List.getElem?_range (by omega)]
 rfl
theorem bools_len (n : Nat) (T : Nat → Bool) : (boolsV n T).length = n + 1:=by unfold boolsV; rw [List.length_map,List.length_range]
def partB (T : Nat → Bool) (i j : Nat) : Bool:=decide (j < i) && T j
theorem part_set {n : Nat} {T : Nat → Bool} {i : Nat} (h : i ≤ n) : (boolsV n (partB T i)).set i (.bool (T i)) = boolsV n (partB T (i + 1)):=by
 refine List.ext_getElem? fun j => ?_
 rw [List.getElem?_set]
 by_cases hj : j ≤ n
 ·rw [bools_at hj,bools_at hj,bools_len]
  unfold partB
  by_cases hij : i = j
  ·subst hij
   rw [if_pos rfl,if_pos (by omega),decide_eq_true (by omega),Bool.true_and]
  ·rw [if_neg hij]
   by_cases h2 : j < i
   ·rw [decide_eq_true h2,decide_eq_true (by omega)]
   ·rw [decide_eq_false h2,decide_eq_false (by omega)]
 ·rw [if_neg (by omega),List.getElem?_eq_none (by rw [bools_len]; omega),List.getElem?_eq_none (by rw [bools_len]; omega)]
theorem part_all {n : Nat} {T : Nat → Bool} : boolsV n (partB T (n + 1)) = boolsV n T:=by
 unfold boolsV
 refine List.map_congr_left fun j hj => ?_
 have:=List.mem_range.1 hj
 unfold partB
 rw [decide_eq_true this,Bool.true_and]
theorem part_none {n : Nat} {T : Nat → Bool} : boolsV n (partB T 0) = List.replicate (n + 1) (.bool false):=by
 unfold boolsV
 refine List.ext_getElem? fun j => ?_
 rw [List.getElem?_map,List.getElem?_replicate]
 by_cases hj : j < n + 1
 ·rw [List.getElem?_range hj,if_pos hj]
  show some (Value.bool (decide (j < 0) && T j)) = _
  rw [decide_eq_false (by omega),Bool.false_and]
 ·rw [if_neg hj,List.getElem?_eq_none (by rw [List.length_range]; omega)]
  rfl
theorem made_bools (m : Nat) (hm : 0 < m) (z : Value) (N : Nat) : (madeCells (List.replicate m z).toArray N).toList = List.replicate N z:=by
 apply List.ext_getElem?
 intro j
 by_cases hj : j < N
 ·have h1 : j % m < m:=Nat.mod_lt _ hm
  simp [madeCells,hj,h1]
 ·simp [madeCells,hj]
theorem makeBools (w : World) (n : Nat) (hn : n ≤ 67108864) :
  ∃ wm,(Instr.makeSlice 115 (.int .i64 ((n : Int) + 1)) (.int .i64 ((n : Int) + 1))).run Tryz.prog w = .ok (.slice (some ⟨w.heap.size,0,none⟩) (n + 1) (n + 1)) wm ∧ Row wm w.heap.size 4 (List.replicate (n + 1) (.bool false)) ∧ Below w.heap.size w wm:=by
 obtain ⟨i0,hi,hz0,hz1,hz2⟩:=info_parts infoBool
 have hr:=run_make (P:=Tryz.prog) w 115 4 i0 (.bool false) Tryz.underlying115 hi hz0 .i64 .i64 ((n : Int) + 1) ((n : Int) + 1) (by omega) (Int.le_refl _) (by rw [hz2]; omega) (by omega)
 rw [hz1] at hr
 have e1 : ((n : Int) + 1).toNat = n + 1:=by omega
 rw [e1,show (Value.bool false).cells = #[.bool false] from rfl,Nat.mul_one] at hr
 refine ⟨_,hr,?_,(Below.refl _ w).alloc (Nat.le_refl _) _⟩
 have h1:=heap_alloc_new w (.cells (madeCells #[.bool false] (n + 1)) 4)
 unfold Row
 rw [show List.replicate (n + 1) (Value.bool false) = (madeCells #[.bool false] (n + 1)).toList from (made_bools 1 (by decide) (.bool false) (n + 1)).symm]
 simpa using h1
structure LdW (w W : World) (pv tv iv xs : List Value) : Prop where
 pat : Row W w.heap.size 54 pv
 txt : Row W (w.heap.size + 1) 106 tv
 itm : Row W (w.heap.size + 2) 99 iv
 to_ : Row W (w.heap.size + 3) 4 xs
 below : Below w.heap.size w W
theorem LdW.next {w W W' : World} {pv tv iv xs : List Value} (h : LdW w W pv tv iv xs) (hb : Below W.heap.size W W') : LdW w W' pv tv iv xs :=
 ⟨h.pat.keep hb h.pat.lt,h.txt.keep hb h.txt.lt,h.itm.keep hb h.itm.lt,h.to_.keep hb h.to_.lt,h.below.trans (hb.mono h.below.size)⟩
theorem LdW.put {w W : World} {pv tv iv xs : List Value} (h : LdW w W pv tv iv xs) (i : Nat) (v : Value) : LdW w (W.setCell ⟨w.heap.size + 3,i,none⟩ v) pv tv iv (xs.set i v) :=
 ⟨h.pat.other (p:=⟨w.heap.size + 3,i,none⟩) (by show w.heap.size + 3 ≠ w.heap.size; omega) v,h.txt.other (p:=⟨w.heap.size + 3,i,none⟩) (by show w.heap.size + 3 ≠ w.heap.size + 1; omega) v,h.itm.other (p:=⟨w.heap.size + 3,i,none⟩) (by show w.heap.size + 3 ≠ w.heap.size + 2; omega) v,h.to_.set i v,h.below.setCell (p:=⟨w.heap.size + 3,i,none⟩) (by show w.heap.size ≤ w.heap.size + 3; omega) v⟩
theorem ld_heads (w : World) (pv tv iv : List Value) : Row (((w.alloc (.cells pv.toArray 54)).alloc (.cells tv.toArray 106)).alloc (.cells iv.toArray 99)) w.heap.size 54 pv ∧ Row (((w.alloc (.cells pv.toArray 54)).alloc (.cells tv.toArray 106)).alloc (.cells iv.toArray 99)) (w.heap.size + 1) 106 tv ∧ Row (((w.alloc (.cells pv.toArray 54)).alloc (.cells tv.toArray 106)).alloc (.cells iv.toArray 99)) (w.heap.size + 2) 99 iv ∧ (((w.alloc (.cells pv.toArray 54)).alloc (.cells tv.toArray 106)).alloc (.cells iv.toArray 99)).heap.size = w.heap.size + 3 ∧ Below w.heap.size w (((w.alloc (.cells pv.toArray 54)).alloc (.cells tv.toArray 106)).alloc (.cells iv.toArray 99)):=by
 have r1 : Row (w.alloc (.cells pv.toArray 54)) w.heap.size 54 pv:=row_new w pv _
 have r2:=row_new (w.alloc (.cells pv.toArray 54)) tv 106
 rw [World.size_alloc] at r2
 have r3:=row_new ((w.alloc (.cells pv.toArray 54)).alloc (.cells tv.toArray 106)) iv 99
 rw [World.size_alloc,World.size_alloc] at r3
 exact ⟨(r1.alloc _).alloc _,r2.alloc _,r3,by simp,(((Below.refl _ w).alloc (Nat.le_refl _) _).alloc (by simp) _).alloc (by simp; omega) _⟩
def OkIt (it : Itm) : Prop:=it.what = 94 ∨ it.what = 36 ∨ OkAt it
theorem on_out {fo : Bool} {V : List Nat} {it : Itm} {S : Nat → Bool} {k : Nat} (h : V.length ≤ k) : onRun fo V it S (k + 1) = false:=by
 have hv : V[k]? = none:=List.getElem?_eq_none h
 rw [onRun,hv,Bool.and_false]
theorem on_in {fo : Bool} {V : List Nat} {it : Itm} {S : Nat → Bool} {k v : Nat} (h : V[k]? = some v) : onRun fo V it S (k + 1) = ((S k || (onRun fo V it S k && it.many)) && atomIs fo it v):=by
 rw [onRun,h]
theorem okv_c {V : List Nat} (hV : OkV V) (v : Nat) (hv : v ∈ V) : OkC v:=by
 rcases hV v hv with ⟨h,_⟩ | h
 ·exact Or.inl h
 ·exact Or.inr h
theorem ledR6 (w : World) (lp : List UInt8) (fo : Bool) (aI : Option Addr) (mI cI g1 c1 g2 c2 n : Nat) (V : List Nat) (it : Itm) (a : Option Addr) (m c : Nat) (af : Option Addr) (S : Nat → Bool) (cf : Nat) (hn : V.length = n) (hI : IntsAt w g1 (toZ V ++ [-1])) (hV : OkV V) (hr : ElRd w (.slice a m c) it.els) (hok : OkIt it) (hm : m ≤ 1000000) (hnb : n ≤ 67108000) (hf : Reads w af (n + 1) (boolsV n S)) (hle : it.least ≤ 1) :
  Calls Tryz.prog 60 #[.agg #[.string (bstr lp),.bool fo,.slice aI mI cI],.agg #[.slice (some ⟨g1,0,none⟩) n c1,.slice (some ⟨g2,0,none⟩) (n + 1) c2],itV (it,.slice a m c),.slice af (n + 1) cf] w fun e w' => ∃ g,e = .returned (.slice (some ⟨g,0,none⟩) (n + 1) (n + 1)) ∧ w.heap.size ≤ g ∧ Row w' g 4 (boolsV n (ledP fo V it S)) ∧ Below w.heap.size w w':=by
 obtain ⟨wh,hwh⟩ : ∃ z : Int,(it.what : Int) = z:=⟨_,rfl⟩
 obtain ⟨ls,hls⟩ : ∃ z : Int,(it.least : Int) = z:=⟨_,rfl⟩
 obtain ⟨ng,hng⟩ : ∃ b,it.neg = b:=⟨_,rfl⟩
 obtain ⟨mn,hmn⟩ : ∃ b,it.many = b:=⟨_,rfl⟩
 obtain ⟨mb,hmb⟩ : ∃ b,maybeB it = b:=⟨_,rfl⟩
 have hIV : itV (it,.slice a m c) = .agg #[.int .i64 wh,.bool ng,.slice a m c,.int .i64 ls,.bool mn,.bool mb]:=by
  rw [← hwh,← hls,← hng,← hmn,← hmb]
  rfl
 obtain ⟨q1,q2,q3,q4,q5⟩:=ld_heads w [.string (bstr lp),.bool fo,.slice aI mI cI] [.slice (some ⟨g1,0,none⟩) n c1,.slice (some ⟨g2,0,none⟩) (n + 1) c2] [.int .i64 wh,.bool ng,.slice a m c,.int .i64 ls,.bool mn,.bool mb]
 obtain ⟨W0,hW0⟩ : ∃ W,W = ((w.alloc (.cells #[.string (bstr lp),.bool fo,.slice aI mI cI] 54)).alloc (.cells #[.slice (some ⟨g1,0,none⟩) n c1,.slice (some ⟨g2,0,none⟩) (n + 1) c2] 106)).alloc (.cells #[.int .i64 wh,.bool ng,.slice a m c,.int .i64 ls,.bool mn,.bool mb] 99):=⟨_,rfl⟩
 have hq1 : Row W0 w.heap.size 54 [.string (bstr lp),.bool fo,.slice aI mI cI]:=by rw [hW0]; exact q1
 have hq2 : Row W0 (w.heap.size + 1) 106 [.slice (some ⟨g1,0,none⟩) n c1,.slice (some ⟨g2,0,none⟩) (n + 1) c2]:=by rw [hW0]; exact q2
 have hq3 : Row W0 (w.heap.size + 2) 99 [.int .i64 wh,.bool ng,.slice a m c,.int .i64 ls,.bool mn,.bool mb]:=by rw [hW0]; exact q3
 have hq4 : W0.heap.size = w.heap.size + 3:=by rw [hW0]; exact q4
 have hq5 : Below w.heap.size w W0:=by rw [hW0]; exact q5
 clear q1 q2 q3 q4 q5
 obtain ⟨wm,hmk,hrow,hbm⟩:=makeBools W0 n (by omega)
 rw [hq4] at hmk hrow
 have hst : LdW w wm [.string (bstr lp),.bool fo,.slice aI mI cI] [.slice (some ⟨g1,0,none⟩) n c1,.slice (some ⟨g2,0,none⟩) (n + 1) c2] [.int .i64 wh,.bool ng,.slice a m c,.int .i64 ls,.bool mn,.bool mb] (List.replicate (n + 1) (.bool false)):=⟨hq1.keep hbm hq1.lt,hq2.keep hbm hq2.lt,hq3.keep hbm hq3.lt,hrow,hq5.trans (hbm.mono hq5.size)⟩
 have HST:=Lib.hid hst
 have HMK:=Lib.hid hmk
 have HW0:=Lib.hid hW0
 have t0 : W0.cell? ⟨w.heap.size + 1,0,none⟩ = some (.slice (some ⟨g1,0,none⟩) n c1):=hq2.cell 0
 have tl:=hq2.lt
 have i0 : wm.cell? ⟨w.heap.size + 2,0,none⟩ = some (.int .i64 wh):=hst.itm.cell 0
 have il:=hst.itm.lt
 have HHO:=Lib.hid (fun W (hb : Below w.heap.size w W) (i what : Nat) (hi : i ≤ n) (hwt : what = 94 ∨ what = 36) => holdsR6 W g1 c1 g2 c2 n V what i hn (hI.keep hb (Nat.le_refl _)) hV hi (by omega) hwt)
 have HF:=Lib.hid (fun W (hb : Below w.heap.size w W) => hf.keep hb (Nat.le_refl _))
 have HIN:=Lib.hid (fun W (hb : Below w.heap.size w W) => hI.keep hb (Nat.le_refl _))
 have HN:=Lib.hid hn
 have HV:=Lib.hid hV
 rw [hIV]
 by_cases hed : it.what = 94 ∨ it.what = 36
 ·have hT : ∀ i,ledP fo V it S i = (S i && holdsP V it.what i):=fun i => by unfold ledP; rw [if_pos hed]
  obtain ⟨what,hwt⟩ : ∃ x,it.what = x:=⟨_,rfl⟩
  rw [hwt] at hed hwh
  simp only [hwt] at hT
  have HT:=Lib.hid hT
  have HED:=Lib.hid hed
  have HWH:=Lib.hid hwh
  have hcd : (wh == 94 || wh == 36) = true:=by rcases hed with h | h <;> (subst h; subst hwh; rfl)
  have hLT : ledP fo V it S = fun i => S i && holdsP V what i:=funext hT
  rw [hLT]
  clear hn hI hV hr hok hf hwt hed hwh hIV hls hng hmn hmb hT hLT hq1 hq2 hq3 hq5 hst hrow hbm hW0
  by_cases h94 : wh = 94
  ·subst h94
   clear hcd
   go_enter Tryz.func60, Tryz.ntmps60
   go_upto_region 1 with fail
   rw [← HW0.out]
   go_wp2_with fail
   go_loopw [11] (fun ui wr => ∃ k : Nat,ui = .int .i64 (k : Int) ∧ k ≤ n + 1 ∧ Hid (LdW w wr [.string (bstr lp),.bool fo,.slice aI mI cI] [.slice (some ⟨g1,0,none⟩) n c1,.slice (some ⟨g2,0,none⟩) (n + 1) c2] [.int .i64 (94 : Int),.bool ng,.slice a m c,.int .i64 ls,.bool mn,.bool mb] (boolsV n (partB (fun i => S i && holdsP V what i) k)))) (fun ui _ => n + 2 - (RowKit.intOf ui).toNat)
   case atStart => exact ⟨0,rfl,Nat.zero_le _,Lib.hid (by rw [part_none]; exact HST.out)⟩
   case round =>
    obtain ⟨k,rfl,hk,HL⟩:=hrel
    have x0 : wr.cell? ⟨w.heap.size + 1,0,none⟩ = some (.slice (some ⟨g1,0,none⟩) n c1):=HL.out.txt.cell 0
    have x1 : wr.cell? ⟨w.heap.size + 1,1,none⟩ = some (.slice (some ⟨g2,0,none⟩) (n + 1) c2):=HL.out.txt.cell 1
    have xl:=HL.out.txt.lt
    have y0 : wr.cell? ⟨w.heap.size + 2,0,none⟩ = some (.int .i64 94):=HL.out.itm.cell 0
    have yl:=HL.out.itm.lt
    by_cases hlt : k ≤ n
    ·have hki : (k : Int) ≤ (n : Int):=by omega
     have z0 : wr.cell? ⟨w.heap.size + 3,k,none⟩ = some (.bool (partB (fun i => S i && holdsP V what i) k k)):=(HL.out.to_.cell k).trans (bools_at hlt)
     have zl:=HL.out.to_.lt
     have zf:=HL.out.to_.frozen k
     obtain ⟨ad,had,hsrc⟩:=(HF.out wr HL.out.below).src (Nat.succ_pos n)
     subst had
     have f0:=hsrc k _ (bools_at hlt)
     have hc:=HHO.out wr HL.out.below k what hlt HED.out
     unfold txV at hc
     rw [HWH.out] at hc
     obtain ⟨sb,hsb⟩ : ∃ b,S k = b:=⟨_,rfl⟩
     rw [hsb] at f0
     obtain ⟨hb,hhb⟩ : ∃ b,holdsP V what k = b:=⟨_,rfl⟩
     rw [hhb] at hc
     have HC:=Lib.hid hc
     have HV1 : Hid ((S k && holdsP V what k) = (sb && hb)):=Lib.hid (by rw [hsb,hhb])
     clear hc hsb hhb hsrc
     cases sb with
     | false =>
      go_wp2_with fail
      go_roundw
      case rel => exact ⟨k + 1,by go_num,by omega,Lib.hid (by
       have:=HL.out.put k (.bool (S k && holdsP V what k))
       rw [part_set hlt,HV1.out,Bool.false_and] at this
       exact this)⟩
      case measure => simp [RowKit.intOf]; omega
     | true =>
      go_wp2_with (go_at_call 86; refine (HC.out).mono ?_; rintro e w1 ⟨rfl,hb1⟩; have HB1:=Lib.hid hb1; have z1 : w1.cell? ⟨w.heap.size + 3,k,none⟩ = some (.bool (partB (fun i => S i && holdsP V what i) k k)):=((HL.out.next hb1).to_.cell k).trans (bools_at hlt); have zl1:=(HL.out.next hb1).to_.lt; have zf1:=(HL.out.next hb1).to_.frozen k; clear hb1)
      go_roundw
      case rel => exact ⟨k + 1,by go_num,by omega,Lib.hid (by
       have:=(HL.out.next HB1.out).put k (.bool (S k && holdsP V what k))
       rw [part_set hlt,HV1.out,Bool.true_and] at this
       exact this)⟩
      case measure => simp [RowKit.intOf]; omega
    ·obtain rfl : k = n + 1:=by omega
     have hki : ¬ ((n : Int) + 1) ≤ (n : Int):=by omega
     go_wp2_with fail
     go_ret
     exact ⟨_,rfl,by omega,by have:=HL.out.to_; rw [part_all] at this; exact this,HL.out.below⟩
  ·have q94 : (wh == 94) = false:=by rw [beq_eq_false_iff_ne]; exact h94
   have h36 : wh = 36:=by
    have:=HED.out
    have:=HWH.out
    omega
   subst h36
   clear hcd h94
   go_enter Tryz.func60, Tryz.ntmps60
   go_upto_region 1 with fail
   rw [← HW0.out]
   go_wp2_with fail
   go_loopw [11] (fun ui wr => ∃ k : Nat,ui = .int .i64 (k : Int) ∧ k ≤ n + 1 ∧ Hid (LdW w wr [.string (bstr lp),.bool fo,.slice aI mI cI] [.slice (some ⟨g1,0,none⟩) n c1,.slice (some ⟨g2,0,none⟩) (n + 1) c2] [.int .i64 (36 : Int),.bool ng,.slice a m c,.int .i64 ls,.bool mn,.bool mb] (boolsV n (partB (fun i => S i && holdsP V what i) k)))) (fun ui _ => n + 2 - (RowKit.intOf ui).toNat)
   case atStart => exact ⟨0,rfl,Nat.zero_le _,Lib.hid (by rw [part_none]; exact HST.out)⟩
   case round =>
    obtain ⟨k,rfl,hk,HL⟩:=hrel
    have x0 : wr.cell? ⟨w.heap.size + 1,0,none⟩ = some (.slice (some ⟨g1,0,none⟩) n c1):=HL.out.txt.cell 0
    have x1 : wr.cell? ⟨w.heap.size + 1,1,none⟩ = some (.slice (some ⟨g2,0,none⟩) (n + 1) c2):=HL.out.txt.cell 1
    have xl:=HL.out.txt.lt
    have y0 : wr.cell? ⟨w.heap.size + 2,0,none⟩ = some (.int .i64 36):=HL.out.itm.cell 0
    have yl:=HL.out.itm.lt
    by_cases hlt : k ≤ n
    ·have hki : (k : Int) ≤ (n : Int):=by omega
     have z0 : wr.cell? ⟨w.heap.size + 3,k,none⟩ = some (.bool (partB (fun i => S i && holdsP V what i) k k)):=(HL.out.to_.cell k).trans (bools_at hlt)
     have zl:=HL.out.to_.lt
     have zf:=HL.out.to_.frozen k
     obtain ⟨ad,had,hsrc⟩:=(HF.out wr HL.out.below).src (Nat.succ_pos n)
     subst had
     have f0:=hsrc k _ (bools_at hlt)
     have hc:=HHO.out wr HL.out.below k what hlt HED.out
     unfold txV at hc
     rw [HWH.out] at hc
     obtain ⟨sb,hsb⟩ : ∃ b,S k = b:=⟨_,rfl⟩
     rw [hsb] at f0
     obtain ⟨hb,hhb⟩ : ∃ b,holdsP V what k = b:=⟨_,rfl⟩
     rw [hhb] at hc
     have HC:=Lib.hid hc
     have HV1 : Hid ((S k && holdsP V what k) = (sb && hb)):=Lib.hid (by rw [hsb,hhb])
     clear hc hsb hhb hsrc
     cases sb with
     | false =>
      go_wp2_with fail
      go_roundw
      case rel => exact ⟨k + 1,by go_num,by omega,Lib.hid (by
       have:=HL.out.put k (.bool (S k && holdsP V what k))
       rw [part_set hlt,HV1.out,Bool.false_and] at this
       exact this)⟩
      case measure => simp [RowKit.intOf]; omega
     | true =>
      go_wp2_with (go_at_call 86; refine (HC.out).mono ?_; rintro e w1 ⟨rfl,hb1⟩; have HB1:=Lib.hid hb1; have z1 : w1.cell? ⟨w.heap.size + 3,k,none⟩ = some (.bool (partB (fun i => S i && holdsP V what i) k k)):=((HL.out.next hb1).to_.cell k).trans (bools_at hlt); have zl1:=(HL.out.next hb1).to_.lt; have zf1:=(HL.out.next hb1).to_.frozen k; clear hb1)
      go_roundw
      case rel => exact ⟨k + 1,by go_num,by omega,Lib.hid (by
       have:=(HL.out.next HB1.out).put k (.bool (S k && holdsP V what k))
       rw [part_set hlt,HV1.out,Bool.true_and] at this
       exact this)⟩
      case measure => simp [RowKit.intOf]; omega
    ·obtain rfl : k = n + 1:=by omega
     have hki : ¬ ((n : Int) + 1) ≤ (n : Int):=by omega
     go_wp2_with fail
     go_ret
     exact ⟨_,rfl,by omega,by have:=HL.out.to_; rw [part_all] at this; exact this,HL.out.below⟩
 ·have hT : ∀ i,ledP fo V it S i = (onRun fo V it S i || (S i && decide (it.least = 0))):=fun i => by unfold ledP; rw [if_neg hed]
  have q94 : (wh == 94) = false:=by rw [beq_eq_false_iff_ne]; omega
  have q36 : (wh == 36) = false:=by rw [beq_eq_false_iff_ne]; omega
  obtain ⟨lb,hlb⟩ : ∃ b,(ls == 0) = b:=⟨_,rfl⟩
  have hLB : decide (it.least = 0) = lb:=by rw [← hlb,Bool.eq_iff_iff,decide_eq_true_iff,beq_iff_eq]; omega
  have hat : OkAt it:=hok.elim (fun h => absurd (Or.inl h) hed) (fun h => h.elim (fun h => absurd (Or.inr h) hed) id)
  have HIS0 : Hid (∀ W,Below w.heap.size w W → ∀ v,OkC v → Calls Tryz.prog 87 #[.agg #[.string (bstr lp),.bool fo,.slice aI mI cI],.agg #[.int .i64 wh,.bool ng,.slice a m c,.int .i64 ls,.bool mn,.bool mb],.int .i64 (v : Int)] W fun e w' => e = .returned (.bool (atomIs fo it v)) ∧ Below W.heap.size W w'):=Lib.hid (fun W hb v hv => by
   have:=isR6 W lp fo aI mI cI it a m c v (hr.below hb) hat hm hv
   rw [hIV] at this
   exact this)
  have HT:=Lib.hid hT
  have HLB:=Lib.hid hLB
  have HMN:=Lib.hid hmn
  clear HHO hn hI hV hr hok hf hed hwh hIV hls hng hmn hmb hT hLB hq1 hq2 hq3 hq5 hst hrow hbm hW0 hat
  go_enter Tryz.func60, Tryz.ntmps60
  go_upto_region 1 with fail
  rw [← HW0.out]
  go_wp2_with fail
  go_loopw [12,13] (fun uo ui wr => ∃ (on : Bool) (k : Nat),uo = .bool on ∧ ui = .int .i64 (k : Int) ∧ k ≤ n + 1 ∧ Hid (LdW w wr [.string (bstr lp),.bool fo,.slice aI mI cI] [.slice (some ⟨g1,0,none⟩) n c1,.slice (some ⟨g2,0,none⟩) (n + 1) c2] [.int .i64 wh,.bool ng,.slice a m c,.int .i64 ls,.bool mn,.bool mb] (boolsV n (partB (ledP fo V it S) k)) ∧ onRun fo V it S k = on)) (fun uo ui _ => n + 2 - (RowKit.intOf ui).toNat)
  case atStart => exact ⟨false,0,rfl,rfl,Nat.zero_le _,Lib.hid ⟨by rw [part_none]; exact HST.out,rfl⟩⟩
  case round =>
   obtain ⟨on,k,rfl,rfl,hk,HL⟩:=hrel
   have xl:=HL.out.1.txt.lt
   have yl:=HL.out.1.itm.lt
   have zl:=HL.out.1.to_.lt
   have pl:=HL.out.1.pat.lt
   by_cases hlt : k ≤ n
   ·have hki : (k : Int) ≤ (n : Int):=by omega
    have HLT:=Lib.hid hlt
    have x0 : wr.cell? ⟨w.heap.size + 1,0,none⟩ = some (.slice (some ⟨g1,0,none⟩) n c1):=HL.out.1.txt.cell 0
    have y3 : wr.cell? ⟨w.heap.size + 2,3,none⟩ = some (.int .i64 ls):=HL.out.1.itm.cell 3
    have z0 : wr.cell? ⟨w.heap.size + 3,k,none⟩ = some (.bool (partB (ledP fo V it S) k k)):=(HL.out.1.to_.cell k).trans (bools_at hlt)
    have zf:=HL.out.1.to_.frozen k
    obtain ⟨ad,had,hsrc⟩:=(HF.out wr HL.out.1.below).src (Nat.succ_pos n)
    subst had
    have f0:=hsrc k _ (bools_at hlt)
    obtain ⟨sb,hsb⟩ : ∃ b,S k = b:=⟨_,rfl⟩
    rw [hsb] at f0
    have HSB:=Lib.hid hsb
    have HFC : Hid (∀ W,Below w.heap.size w W → W.cell? (ad.add k) = some (.bool sb)):=Lib.hid (fun W hb => by
     obtain ⟨ad2,had2,hsrc2⟩:=(HF.out W hb).src (Nat.succ_pos n)
     cases had2
     have:=hsrc2 k _ (bools_at (HLT.out))
     rw [HSB.out] at this
     exact this)
    clear hsrc hsb
    by_cases hin : k < n
    ·obtain ⟨v,hv⟩ : ∃ v,V[k]? = some v:=⟨_,List.getElem?_eq_getElem (by rw [HN.out]; exact hin)⟩
     have HVK:=Lib.hid hv
     obtain ⟨z,hz⟩ : ∃ z : Int,(v : Int) = z:=⟨_,rfl⟩
     have HVC : Hid (∀ W,Below w.heap.size w W → W.cell? ⟨g1,k,none⟩ = some (.int .i64 z)):=Lib.hid (fun W hb => by
      have:=(HIN.out W hb).v (i:=k) (by rw [HN.out]; exact (HLT.out))
      rw [vI_some HVK.out,hz] at this
      exact this)
     have hvo:=okv_c HV.out v (List.mem_of_getElem? hv)
     obtain ⟨bq,hbq⟩ : ∃ b,atomIs fo it v = b:=⟨_,rfl⟩
     have HAT:=Lib.hid hbq
     have HIS:=Lib.hid (fun W hb => hbq ▸ hz ▸ HIS0.out W hb v hvo)
     have hkn : (k : Int) < (n : Int):=by omega
     clear hv hz hvo hbq hin
     have hcs : ((on = true ∧ sb = true) ∨ (on = false ∧ sb = true ∧ lb = true) ∨ (on = false ∧ sb = true ∧ lb = false)) ∨ (on = true ∧ sb = false ∧ mn = true) ∨ (on = true ∧ sb = false ∧ mn = false) ∨ (on = false ∧ sb = false):=by cases on <;> cases sb <;> cases lb <;> cases mn <;> simp
     rcases hcs with hcs | ⟨rfl,rfl,rfl⟩ | ⟨rfl,rfl,rfl⟩ | ⟨rfl,rfl⟩
     ·rcases hcs with ⟨rfl,rfl⟩ | ⟨rfl,rfl,rfl⟩ | ⟨rfl,rfl,rfl⟩
      have HV1 : Hid (ledP fo V it S k = true):=Lib.hid (by rw [HT.out k,HL.out.2,HSB.out,HLB.out]; rfl); have HON : Hid (onRun fo V it S (k + 1) = bq):=Lib.hid (by rw [on_in HVK.out,HL.out.2,HSB.out,HMN.out,HAT.out]; simp); rotate_left
      have HV1 : Hid (ledP fo V it S k = true):=Lib.hid (by rw [HT.out k,HL.out.2,HSB.out,HLB.out]; rfl); have HON : Hid (onRun fo V it S (k + 1) = bq):=Lib.hid (by rw [on_in HVK.out,HL.out.2,HSB.out,HMN.out,HAT.out]; simp); rotate_left
      have HV1 : Hid (ledP fo V it S k = false):=Lib.hid (by rw [HT.out k,HL.out.2,HSB.out,HLB.out]; rfl); have HON : Hid (onRun fo V it S (k + 1) = bq):=Lib.hid (by rw [on_in HVK.out,HL.out.2,HSB.out,HMN.out,HAT.out]; simp); rotate_left
      all_goals
       go_upto_region 14 with fail
       obtain ⟨W1,hW1⟩ : ∃ W,W = wr.setCell ⟨w.heap.size + 3,k,none⟩ (.bool (ledP fo V it S k)):=⟨_,rfl⟩
       rw [HV1.out] at hW1
       rw [← hW1]
       have hl1 : LdW w W1 [.string (bstr lp),.bool fo,.slice aI mI cI] [.slice (some ⟨g1,0,none⟩) n c1,.slice (some ⟨g2,0,none⟩) (n + 1) c2] [.int .i64 wh,.bool ng,.slice a m c,.int .i64 ls,.bool mn,.bool mb] (boolsV n (partB (ledP fo V it S) (k + 1))):=by
        have:=HL.out.1.put k (.bool (ledP fo V it S k))
        rw [part_set hlt,HV1.out,← hW1] at this
        exact this
       have HL1:=Lib.hid hl1
       have HBW : Hid (∀ W,Below W1.heap.size W1 W → Below w.heap.size w W):=Lib.hid (fun W hb => HL1.out.below.trans (hb.mono HL1.out.below.size))
       have HSf:=Lib.hid (fun (W : World) (hb : Below W1.heap.size W1 W) => HFC.out W (HBW.out W hb))
       have HSv : Hid (∀ W,Below W1.heap.size W1 W → W.cell? ⟨g1,k,none⟩ = some (.int .i64 z)):=Lib.hid (fun W hb => HVC.out W (HBW.out W hb))
       have HSt : Hid (∀ W,Below W1.heap.size W1 W → W.cell? ⟨w.heap.size + 1,0,none⟩ = some (.slice (some ⟨g1,0,none⟩) n c1)):=Lib.hid (fun W hb => (HL1.out.next hb).txt.cell 0)
       have HSp : Hid (∀ W,Below W1.heap.size W1 W → W.cell? ⟨w.heap.size,0,none⟩ = some (.string (bstr lp)) ∧ W.cell? ⟨w.heap.size,1,none⟩ = some (.bool fo) ∧ W.cell? ⟨w.heap.size,2,none⟩ = some (.slice aI mI cI)):=Lib.hid (fun W hb => ⟨(HL1.out.next hb).pat.cell 0,(HL1.out.next hb).pat.cell 1,(HL1.out.next hb).pat.cell 2⟩)
       have HSi : Hid (∀ W,Below W1.heap.size W1 W → W.cell? ⟨w.heap.size + 2,0,none⟩ = some (.int .i64 wh) ∧ W.cell? ⟨w.heap.size + 2,1,none⟩ = some (.bool ng) ∧ W.cell? ⟨w.heap.size + 2,2,none⟩ = some (.slice a m c) ∧ W.cell? ⟨w.heap.size + 2,3,none⟩ = some (.int .i64 ls) ∧ W.cell? ⟨w.heap.size + 2,4,none⟩ = some (.bool mn) ∧ W.cell? ⟨w.heap.size + 2,5,none⟩ = some (.bool mb)):=Lib.hid (fun W hb => ⟨(HL1.out.next hb).itm.cell 0,(HL1.out.next hb).itm.cell 1,(HL1.out.next hb).itm.cell 2,(HL1.out.next hb).itm.cell 3,(HL1.out.next hb).itm.cell 4,(HL1.out.next hb).itm.cell 5⟩)
       have HIC : Hid (∀ W,Below W1.heap.size W1 W → Calls Tryz.prog 87 #[.agg #[.string (bstr lp),.bool fo,.slice aI mI cI],.agg #[.int .i64 wh,.bool ng,.slice a m c,.int .i64 ls,.bool mn,.bool mb],.int .i64 z] W fun e w' => e = .returned (.bool bq) ∧ Below W.heap.size W w'):=Lib.hid (fun W hb => HIS.out W (HBW.out W hb))
       clear hl1 hW1 x0 y3 z0 zf f0
       refine wp_region_held_drew (S:=(fun W => Below W1.heap.size W1 W)) (by kernel_rfl) ((Below.refl W1.heap.size W1).drew) (fun hS0 => ?_)
       refine tE 0 ⟨some 68,.move (.tmp 13), 3,_,#[],none⟩ rfl hS0 ?_
       refine tE 1 ⟨some 69,.move (.tmp 9), 3,_,#[],none⟩ rfl hS0 ?_
       refine tE 2 ⟨some 70,.binOp BinOp.lss 3 (.tmp 68) (.tmp 69) 3, 4,_,#[⟨0,.data⟩,⟨1,.data⟩],none⟩ rfl hS0 ?_
       try simp only [Act.put,pB,pC,pD]
       refine tE 3 ⟨some 71,.move (.tmp 70), 4,_,#[⟨2,.data⟩],none⟩ rfl hS0 ?_
       refine tE 4 ⟨some 72,.move (.tmp 3), 115,_,#[⟨3,.guard⟩],some (3,true)⟩ rfl hS0 ?_
       refine tE 5 ⟨some 73,.move (.tmp 13), 3,_,#[⟨3,.guard⟩],some (3,true)⟩ rfl hS0 ?_
       try simp only [Act.put,pB,pC,pD]
       refine tC 6 ⟨some 74,.indexAddr 115 (.tmp 72) (.tmp 73),0,_,#[⟨4,.data⟩,⟨5,.data⟩,⟨3,.guard⟩],some (3,true)⟩ ?_ rfl ?_ hS0 ?_; rotate_left; focus (rintro w2 s1; have e0 : (k : Int) < (n : Int) + 1:=(by omega); go_simp; try with_reducible rfl)
       refine tC 7 ⟨some 75,.load 4 (.tmp 74), 4,_,#[⟨6,.data⟩,⟨3,.guard⟩],some (3,true)⟩ ?_ rfl ?_ hS0 ?_; rotate_left; focus (rintro w2 s1; have e0:=HSf.out w2 s1; go_simp; try with_reducible rfl)
       refine tE 8 ⟨some 76,.move (.tmp 75), 4,_,#[⟨7,.data⟩,⟨3,.chain⟩,⟨3,.guard⟩],some (3,true)⟩ rfl hS0 ?_
       try simp only [Act.put,pB,pC,pD]
       refine tD 9 ⟨some 77,.move (.tmp 12), 4,_,#[⟨8,.guard⟩],some (8,false)⟩ rfl hS0 ?_
       refine tD 10 ⟨some 78,.move (.tmp 77), 4,_,#[⟨9,.data⟩,⟨8,.chain⟩,⟨8,.guard⟩],some (8,false)⟩ rfl hS0 ?_
       refine tD 11 ⟨some 79,.fieldAddr 99 (.tmp 6) 4,0,_,#[⟨10,.guard⟩],some (10,true)⟩ rfl hS0 ?_
       try simp only [Act.put,pB,pC,pD]
       refine tD 12 ⟨some 80,.load 4 (.tmp 79), 4,_,#[⟨11,.data⟩,⟨10,.guard⟩],some (10,true)⟩ rfl hS0 ?_
       refine tD 13 ⟨some 81,.pick (.tmp 78) (.tmp 80) (Operand.const (Value.bool false)), 4,_,#[⟨10,.data⟩,⟨12,.data⟩,⟨8,.guard⟩],some (8,false)⟩ rfl hS0 ?_
       refine tE 14 ⟨some 82,.pick (.tmp 76) (Operand.const (Value.bool true)) (.tmp 81), 4,_,#[⟨8,.data⟩,⟨13,.data⟩,⟨3,.guard⟩],some (3,true)⟩ rfl hS0 ?_
       try simp only [Act.put,pB,pC,pD]
       refine tE 15 ⟨some 83,.pick (.tmp 71) (.tmp 82) (Operand.const (Value.bool false)), 4,_,#[⟨3,.data⟩,⟨14,.data⟩],none⟩ rfl hS0 ?_
       refine tE 16 ⟨some 84,.move (.tmp 83), 4,_,#[⟨15,.data⟩,⟨10,.chain⟩],none⟩ rfl hS0 ?_
       refine tC 17 ⟨some 85,.load 54 (.tmp 4), 54,_,#[⟨16,.guard⟩],some (16,true)⟩ ?_ rfl ?_ hS0 ?_; rotate_left; focus (rintro w2 s1; obtain ⟨e0,e1,e2⟩:=HSp.out w2 s1; go_simp; try with_reducible rfl)
       try simp only [Act.put,pB,pC,pD]
       refine tC 18 ⟨some 86,.load 99 (.tmp 6), 99,_,#[⟨16,.guard⟩],some (16,true)⟩ ?_ rfl ?_ hS0 ?_; rotate_left; focus (rintro w2 s1; obtain ⟨e0,e1,e2,e3,e4,e5⟩:=HSi.out w2 s1; go_simp; try with_reducible rfl)
       refine tE 19 ⟨some 87,.fieldAddr 106 (.tmp 5) 0,0,_,#[⟨16,.guard⟩],some (16,true)⟩ rfl hS0 ?_
       refine tC 20 ⟨some 88,.load 73 (.tmp 87), 73,_,#[⟨19,.data⟩,⟨16,.guard⟩],some (16,true)⟩ ?_ rfl ?_ hS0 ?_; rotate_left; focus (rintro w2 s1; have e0:=HSt.out w2 s1; go_simp; try with_reducible rfl)
       try simp only [Act.put,pB,pC,pD]
       refine tE 21 ⟨some 89,.move (.tmp 13), 3,_,#[⟨16,.guard⟩],some (16,true)⟩ rfl hS0 ?_
       refine tE 22 ⟨some 90,.indexAddr 73 (.tmp 88) (.tmp 89),0,_,#[⟨20,.data⟩,⟨21,.data⟩,⟨16,.guard⟩],some (16,true)⟩ rfl hS0 ?_
       refine tC 23 ⟨some 91,.load 3 (.tmp 90), 3,_,#[⟨22,.data⟩,⟨16,.guard⟩],some (16,true)⟩ ?_ rfl ?_ hS0 ?_; rotate_left; focus (rintro w2 s1; have e0:=HSv.out w2 s1; go_simp; try with_reducible rfl)
       try simp only [Act.put,pB,pC,pD]
       refine wpAnyH_ready (rs:=[24]) (by kernel_rfl) (by simp) (AllReadyH.cons (o:=⟨some 92,.call { callee:=Callee.value (Operand.func 87),args:=#[.tmp 85,.tmp 86,.tmp 91],argTypes:=#[54, 99, 3] }, 4, "ref.go:331",#[⟨17,.data⟩,⟨18,.data⟩,⟨23,.data⟩,⟨16,.chain⟩,⟨16,.guard⟩],some (16,true)⟩) rfl (fun K' hK => ?_) AllReadyH.nil)
       go_simp
       with_reducible refine (HIC.out _ ((Below.refl W1.heap.size W1).drew)).mono ?_
       rintro e wa ⟨rfl,hbwa⟩
       have Bwa:=Lib.hid (((Below.refl W1.heap.size W1).drew).trans (hbwa.mono ((Below.refl W1.heap.size W1).drew).size))
       clear hbwa
       show K' _ _
       refine hK.out _ _ Bwa.out (fun hSn => ?_)
       try simp only [Act.put,pB,pC,pD]
       clear hK K'
       refine tE 25 ⟨some 93,.pick (.tmp 84) (.tmp 92) (Operand.const (Value.bool false)), 4,_,#[⟨16,.data⟩,⟨24,.data⟩],none⟩ rfl Bwa.out ?_
       try simp only [Act.put,pB,pC,pD]
       refine tE 26 ⟨some 12,.assign (.tmp 93), 4,_,pa [⟨25,.data⟩,⟨24,.chain⟩] 26,none⟩ rfl Bwa.out ?_
       try simp only [Act.put,pB,pC,pD]
       refine wpAnyH_done (by kernel_rfl) ?_ _
       go_wp2_with fail
       go_roundw
       case rel => exact ⟨bq,k + 1,rfl,by go_num,by omega,Lib.hid ⟨HL1.out.next Bwa.out,HON.out⟩⟩
       case measure => simp [RowKit.intOf]; omega
     ·have HV1 : Hid (ledP fo V it S k = true):=Lib.hid (by rw [HT.out k,HL.out.2,HSB.out,HLB.out]; rfl)
      have HON : Hid (onRun fo V it S (k + 1) = bq):=Lib.hid (by rw [on_in HVK.out,HL.out.2,HSB.out,HMN.out,HAT.out]; simp)
      go_upto_region 14 with fail
      obtain ⟨W1,hW1⟩ : ∃ W,W = wr.setCell ⟨w.heap.size + 3,k,none⟩ (.bool (ledP fo V it S k)):=⟨_,rfl⟩
      rw [HV1.out] at hW1
      rw [← hW1]
      have hl1 : LdW w W1 [.string (bstr lp),.bool fo,.slice aI mI cI] [.slice (some ⟨g1,0,none⟩) n c1,.slice (some ⟨g2,0,none⟩) (n + 1) c2] [.int .i64 wh,.bool ng,.slice a m c,.int .i64 ls,.bool true,.bool mb] (boolsV n (partB (ledP fo V it S) (k + 1))):=by
       have:=HL.out.1.put k (.bool (ledP fo V it S k))
       rw [part_set hlt,HV1.out,← hW1] at this
       exact this
      have HL1:=Lib.hid hl1
      have HBW : Hid (∀ W,Below W1.heap.size W1 W → Below w.heap.size w W):=Lib.hid (fun W hb => HL1.out.below.trans (hb.mono HL1.out.below.size))
      have HSf:=Lib.hid (fun (W : World) (hb : Below W1.heap.size W1 W) => HFC.out W (HBW.out W hb))
      have HSm : Hid (∀ W,Below W1.heap.size W1 W → W.cell? ⟨w.heap.size + 2,4,none⟩ = some (.bool true)):=Lib.hid (fun W hb => (HL1.out.next hb).itm.cell 4)
      have HSv : Hid (∀ W,Below W1.heap.size W1 W → W.cell? ⟨g1,k,none⟩ = some (.int .i64 z)):=Lib.hid (fun W hb => HVC.out W (HBW.out W hb))
      have HSt : Hid (∀ W,Below W1.heap.size W1 W → W.cell? ⟨w.heap.size + 1,0,none⟩ = some (.slice (some ⟨g1,0,none⟩) n c1)):=Lib.hid (fun W hb => (HL1.out.next hb).txt.cell 0)
      have HSp : Hid (∀ W,Below W1.heap.size W1 W → W.cell? ⟨w.heap.size,0,none⟩ = some (.string (bstr lp)) ∧ W.cell? ⟨w.heap.size,1,none⟩ = some (.bool fo) ∧ W.cell? ⟨w.heap.size,2,none⟩ = some (.slice aI mI cI)):=Lib.hid (fun W hb => ⟨(HL1.out.next hb).pat.cell 0,(HL1.out.next hb).pat.cell 1,(HL1.out.next hb).pat.cell 2⟩)
      have HSi : Hid (∀ W,Below W1.heap.size W1 W → W.cell? ⟨w.heap.size + 2,0,none⟩ = some (.int .i64 wh) ∧ W.cell? ⟨w.heap.size + 2,1,none⟩ = some (.bool ng) ∧ W.cell? ⟨w.heap.size + 2,2,none⟩ = some (.slice a m c) ∧ W.cell? ⟨w.heap.size + 2,3,none⟩ = some (.int .i64 ls) ∧ W.cell? ⟨w.heap.size + 2,4,none⟩ = some (.bool true) ∧ W.cell? ⟨w.heap.size + 2,5,none⟩ = some (.bool mb)):=Lib.hid (fun W hb => ⟨(HL1.out.next hb).itm.cell 0,(HL1.out.next hb).itm.cell 1,(HL1.out.next hb).itm.cell 2,(HL1.out.next hb).itm.cell 3,(HL1.out.next hb).itm.cell 4,(HL1.out.next hb).itm.cell 5⟩)
      have HIC : Hid (∀ W,Below W1.heap.size W1 W → Calls Tryz.prog 87 #[.agg #[.string (bstr lp),.bool fo,.slice aI mI cI],.agg #[.int .i64 wh,.bool ng,.slice a m c,.int .i64 ls,.bool true,.bool mb],.int .i64 z] W fun e w' => e = .returned (.bool bq) ∧ Below W.heap.size W w'):=Lib.hid (fun W hb => HIS.out W (HBW.out W hb))
      clear hl1 hW1 x0 y3 z0 zf f0
      refine wp_region_held_drew (S:=(fun W => Below W1.heap.size W1 W)) (by kernel_rfl) ((Below.refl W1.heap.size W1).drew) (fun hS0 => ?_)
      refine tE 0 ⟨some 68,.move (.tmp 13), 3,_,#[],none⟩ rfl hS0 ?_
      refine tE 1 ⟨some 69,.move (.tmp 9), 3,_,#[],none⟩ rfl hS0 ?_
      refine tE 2 ⟨some 70,.binOp BinOp.lss 3 (.tmp 68) (.tmp 69) 3, 4,_,#[⟨0,.data⟩,⟨1,.data⟩],none⟩ rfl hS0 ?_
      try simp only [Act.put,pB,pC,pD]
      refine tE 3 ⟨some 71,.move (.tmp 70), 4,_,#[⟨2,.data⟩],none⟩ rfl hS0 ?_
      refine tE 4 ⟨some 72,.move (.tmp 3), 115,_,#[⟨3,.guard⟩],some (3,true)⟩ rfl hS0 ?_
      refine tE 5 ⟨some 73,.move (.tmp 13), 3,_,#[⟨3,.guard⟩],some (3,true)⟩ rfl hS0 ?_
      try simp only [Act.put,pB,pC,pD]
      refine tC 6 ⟨some 74,.indexAddr 115 (.tmp 72) (.tmp 73),0,_,#[⟨4,.data⟩,⟨5,.data⟩,⟨3,.guard⟩],some (3,true)⟩ ?_ rfl ?_ hS0 ?_; rotate_left; focus (rintro w2 s1; have e0 : (k : Int) < (n : Int) + 1:=(by omega); go_simp; try with_reducible rfl)
      refine tC 7 ⟨some 75,.load 4 (.tmp 74), 4,_,#[⟨6,.data⟩,⟨3,.guard⟩],some (3,true)⟩ ?_ rfl ?_ hS0 ?_; rotate_left; focus (rintro w2 s1; have e0:=HSf.out w2 s1; go_simp; try with_reducible rfl)
      refine tE 8 ⟨some 76,.move (.tmp 75), 4,_,#[⟨7,.data⟩,⟨3,.chain⟩,⟨3,.guard⟩],some (3,true)⟩ rfl hS0 ?_
      try simp only [Act.put,pB,pC,pD]
      refine tE 9 ⟨some 77,.move (.tmp 12), 4,_,#[⟨8,.guard⟩],some (8,false)⟩ rfl hS0 ?_
      refine tE 10 ⟨some 78,.move (.tmp 77), 4,_,#[⟨9,.data⟩,⟨8,.chain⟩,⟨8,.guard⟩],some (8,false)⟩ rfl hS0 ?_
      refine tE 11 ⟨some 79,.fieldAddr 99 (.tmp 6) 4,0,_,#[⟨10,.guard⟩],some (10,true)⟩ rfl hS0 ?_
      try simp only [Act.put,pB,pC,pD]
      refine tC 12 ⟨some 80,.load 4 (.tmp 79), 4,_,#[⟨11,.data⟩,⟨10,.guard⟩],some (10,true)⟩ ?_ rfl ?_ hS0 ?_; rotate_left; focus (rintro w2 s1; have e0:=HSm.out w2 s1; go_simp; try with_reducible rfl)
      refine tE 13 ⟨some 81,.pick (.tmp 78) (.tmp 80) (Operand.const (Value.bool false)), 4,_,#[⟨10,.data⟩,⟨12,.data⟩,⟨8,.guard⟩],some (8,false)⟩ rfl hS0 ?_
      refine tE 14 ⟨some 82,.pick (.tmp 76) (Operand.const (Value.bool true)) (.tmp 81), 4,_,#[⟨8,.data⟩,⟨13,.data⟩,⟨3,.guard⟩],some (3,true)⟩ rfl hS0 ?_
      try simp only [Act.put,pB,pC,pD]
      refine tE 15 ⟨some 83,.pick (.tmp 71) (.tmp 82) (Operand.const (Value.bool false)), 4,_,#[⟨3,.data⟩,⟨14,.data⟩],none⟩ rfl hS0 ?_
      refine tE 16 ⟨some 84,.move (.tmp 83), 4,_,#[⟨15,.data⟩,⟨10,.chain⟩],none⟩ rfl hS0 ?_
      refine tC 17 ⟨some 85,.load 54 (.tmp 4), 54,_,#[⟨16,.guard⟩],some (16,true)⟩ ?_ rfl ?_ hS0 ?_; rotate_left; focus (rintro w2 s1; obtain ⟨e0,e1,e2⟩:=HSp.out w2 s1; go_simp; try with_reducible rfl)
      try simp only [Act.put,pB,pC,pD]
      refine tC 18 ⟨some 86,.load 99 (.tmp 6), 99,_,#[⟨16,.guard⟩],some (16,true)⟩ ?_ rfl ?_ hS0 ?_; rotate_left; focus (rintro w2 s1; obtain ⟨e0,e1,e2,e3,e4,e5⟩:=HSi.out w2 s1; go_simp; try with_reducible rfl)
      refine tE 19 ⟨some 87,.fieldAddr 106 (.tmp 5) 0,0,_,#[⟨16,.guard⟩],some (16,true)⟩ rfl hS0 ?_
      refine tC 20 ⟨some 88,.load 73 (.tmp 87), 73,_,#[⟨19,.data⟩,⟨16,.guard⟩],some (16,true)⟩ ?_ rfl ?_ hS0 ?_; rotate_left; focus (rintro w2 s1; have e0:=HSt.out w2 s1; go_simp; try with_reducible rfl)
      try simp only [Act.put,pB,pC,pD]
      refine tE 21 ⟨some 89,.move (.tmp 13), 3,_,#[⟨16,.guard⟩],some (16,true)⟩ rfl hS0 ?_
      refine tE 22 ⟨some 90,.indexAddr 73 (.tmp 88) (.tmp 89),0,_,#[⟨20,.data⟩,⟨21,.data⟩,⟨16,.guard⟩],some (16,true)⟩ rfl hS0 ?_
      refine tC 23 ⟨some 91,.load 3 (.tmp 90), 3,_,#[⟨22,.data⟩,⟨16,.guard⟩],some (16,true)⟩ ?_ rfl ?_ hS0 ?_; rotate_left; focus (rintro w2 s1; have e0:=HSv.out w2 s1; go_simp; try with_reducible rfl)
      try simp only [Act.put,pB,pC,pD]
      refine wpAnyH_ready (rs:=[24]) (by kernel_rfl) (by simp) (AllReadyH.cons (o:=⟨some 92,.call { callee:=Callee.value (Operand.func 87),args:=#[.tmp 85,.tmp 86,.tmp 91],argTypes:=#[54, 99, 3] }, 4, "ref.go:331",#[⟨17,.data⟩,⟨18,.data⟩,⟨23,.data⟩,⟨16,.chain⟩,⟨16,.guard⟩],some (16,true)⟩) rfl (fun K' hK => ?_) AllReadyH.nil)
      go_simp
      with_reducible refine (HIC.out _ ((Below.refl W1.heap.size W1).drew)).mono ?_
      rintro e wa ⟨rfl,hbwa⟩
      have Bwa:=Lib.hid (((Below.refl W1.heap.size W1).drew).trans (hbwa.mono ((Below.refl W1.heap.size W1).drew).size))
      clear hbwa
      show K' _ _
      refine hK.out _ _ Bwa.out (fun hSn => ?_)
      try simp only [Act.put,pB,pC,pD]
      clear hK K'
      refine tE 25 ⟨some 93,.pick (.tmp 84) (.tmp 92) (Operand.const (Value.bool false)), 4,_,#[⟨16,.data⟩,⟨24,.data⟩],none⟩ rfl Bwa.out ?_
      try simp only [Act.put,pB,pC,pD]
      refine tE 26 ⟨some 12,.assign (.tmp 93), 4,_,pa [⟨25,.data⟩,⟨24,.chain⟩] 26,none⟩ rfl Bwa.out ?_
      try simp only [Act.put,pB,pC,pD]
      refine wpAnyH_done (by kernel_rfl) ?_ _
      go_wp2_with fail
      go_roundw
      case rel => exact ⟨bq,k + 1,rfl,by go_num,by omega,Lib.hid ⟨HL1.out.next Bwa.out,HON.out⟩⟩
      case measure => simp [RowKit.intOf]; omega
     ·have HV1 : Hid (ledP fo V it S k = true):=Lib.hid (by rw [HT.out k,HL.out.2,HSB.out,HLB.out]; rfl)
      have HON : Hid (onRun fo V it S (k + 1) = false):=Lib.hid (by rw [on_in HVK.out,HL.out.2,HSB.out,HMN.out,HAT.out]; rfl)
      go_upto_region 14 with fail
      obtain ⟨W1,hW1⟩ : ∃ W,W = wr.setCell ⟨w.heap.size + 3,k,none⟩ (.bool (ledP fo V it S k)):=⟨_,rfl⟩
      rw [HV1.out] at hW1
      rw [← hW1]
      have hl1 : LdW w W1 [.string (bstr lp),.bool fo,.slice aI mI cI] [.slice (some ⟨g1,0,none⟩) n c1,.slice (some ⟨g2,0,none⟩) (n + 1) c2] [.int .i64 wh,.bool ng,.slice a m c,.int .i64 ls,.bool false,.bool mb] (boolsV n (partB (ledP fo V it S) (k + 1))):=by
       have:=HL.out.1.put k (.bool (ledP fo V it S k))
       rw [part_set hlt,HV1.out,← hW1] at this
       exact this
      have HL1:=Lib.hid hl1
      have HBW : Hid (∀ W,Below W1.heap.size W1 W → Below w.heap.size w W):=Lib.hid (fun W hb => HL1.out.below.trans (hb.mono HL1.out.below.size))
      have HSf:=Lib.hid (fun (W : World) (hb : Below W1.heap.size W1 W) => HFC.out W (HBW.out W hb))
      have HSm : Hid (∀ W,Below W1.heap.size W1 W → W.cell? ⟨w.heap.size + 2,4,none⟩ = some (.bool false)):=Lib.hid (fun W hb => (HL1.out.next hb).itm.cell 4)
      clear hl1 hW1 x0 y3 z0 zf f0
      refine wp_region_held_drew (S:=(fun W => Below W1.heap.size W1 W)) (by kernel_rfl) ((Below.refl W1.heap.size W1).drew) (fun hS0 => ?_)
      refine tE 0 ⟨some 68,.move (.tmp 13), 3,_,#[],none⟩ rfl hS0 ?_
      refine tE 1 ⟨some 69,.move (.tmp 9), 3,_,#[],none⟩ rfl hS0 ?_
      refine tE 2 ⟨some 70,.binOp BinOp.lss 3 (.tmp 68) (.tmp 69) 3, 4,_,#[⟨0,.data⟩,⟨1,.data⟩],none⟩ rfl hS0 ?_
      try simp only [Act.put,pB,pC,pD]
      refine tE 3 ⟨some 71,.move (.tmp 70), 4,_,#[⟨2,.data⟩],none⟩ rfl hS0 ?_
      refine tE 4 ⟨some 72,.move (.tmp 3), 115,_,#[⟨3,.guard⟩],some (3,true)⟩ rfl hS0 ?_
      refine tE 5 ⟨some 73,.move (.tmp 13), 3,_,#[⟨3,.guard⟩],some (3,true)⟩ rfl hS0 ?_
      try simp only [Act.put,pB,pC,pD]
      refine tC 6 ⟨some 74,.indexAddr 115 (.tmp 72) (.tmp 73),0,_,#[⟨4,.data⟩,⟨5,.data⟩,⟨3,.guard⟩],some (3,true)⟩ ?_ rfl ?_ hS0 ?_; rotate_left; focus (rintro w2 s1; have e0 : (k : Int) < (n : Int) + 1:=(by omega); go_simp; try with_reducible rfl)
      refine tC 7 ⟨some 75,.load 4 (.tmp 74), 4,_,#[⟨6,.data⟩,⟨3,.guard⟩],some (3,true)⟩ ?_ rfl ?_ hS0 ?_; rotate_left; focus (rintro w2 s1; have e0:=HSf.out w2 s1; go_simp; try with_reducible rfl)
      refine tE 8 ⟨some 76,.move (.tmp 75), 4,_,#[⟨7,.data⟩,⟨3,.chain⟩,⟨3,.guard⟩],some (3,true)⟩ rfl hS0 ?_
      try simp only [Act.put,pB,pC,pD]
      refine tE 9 ⟨some 77,.move (.tmp 12), 4,_,#[⟨8,.guard⟩],some (8,false)⟩ rfl hS0 ?_
      refine tE 10 ⟨some 78,.move (.tmp 77), 4,_,#[⟨9,.data⟩,⟨8,.chain⟩,⟨8,.guard⟩],some (8,false)⟩ rfl hS0 ?_
      refine tE 11 ⟨some 79,.fieldAddr 99 (.tmp 6) 4,0,_,#[⟨10,.guard⟩],some (10,true)⟩ rfl hS0 ?_
      try simp only [Act.put,pB,pC,pD]
      refine tC 12 ⟨some 80,.load 4 (.tmp 79), 4,_,#[⟨11,.data⟩,⟨10,.guard⟩],some (10,true)⟩ ?_ rfl ?_ hS0 ?_; rotate_left; focus (rintro w2 s1; have e0:=HSm.out w2 s1; go_simp; try with_reducible rfl)
      refine tE 13 ⟨some 81,.pick (.tmp 78) (.tmp 80) (Operand.const (Value.bool false)), 4,_,#[⟨10,.data⟩,⟨12,.data⟩,⟨8,.guard⟩],some (8,false)⟩ rfl hS0 ?_
      refine tE 14 ⟨some 82,.pick (.tmp 76) (Operand.const (Value.bool true)) (.tmp 81), 4,_,#[⟨8,.data⟩,⟨13,.data⟩,⟨3,.guard⟩],some (3,true)⟩ rfl hS0 ?_
      try simp only [Act.put,pB,pC,pD]
      refine tE 15 ⟨some 83,.pick (.tmp 71) (.tmp 82) (Operand.const (Value.bool false)), 4,_,#[⟨3,.data⟩,⟨14,.data⟩],none⟩ rfl hS0 ?_
      refine tE 16 ⟨some 84,.move (.tmp 83), 4,_,#[⟨15,.data⟩,⟨10,.chain⟩],none⟩ rfl hS0 ?_
      refine tD 17 ⟨some 85,.load 54 (.tmp 4), 54,_,#[⟨16,.guard⟩],some (16,true)⟩ rfl hS0 ?_
      try simp only [Act.put,pB,pC,pD]
      refine tD 18 ⟨some 86,.load 99 (.tmp 6), 99,_,#[⟨16,.guard⟩],some (16,true)⟩ rfl hS0 ?_
      refine tD 19 ⟨some 87,.fieldAddr 106 (.tmp 5) 0,0,_,#[⟨16,.guard⟩],some (16,true)⟩ rfl hS0 ?_
      refine tD 20 ⟨some 88,.load 73 (.tmp 87), 73,_,#[⟨19,.data⟩,⟨16,.guard⟩],some (16,true)⟩ rfl hS0 ?_
      try simp only [Act.put,pB,pC,pD]
      refine tD 21 ⟨some 89,.move (.tmp 13), 3,_,#[⟨16,.guard⟩],some (16,true)⟩ rfl hS0 ?_
      refine tD 22 ⟨some 90,.indexAddr 73 (.tmp 88) (.tmp 89),0,_,#[⟨20,.data⟩,⟨21,.data⟩,⟨16,.guard⟩],some (16,true)⟩ rfl hS0 ?_
      refine tD 23 ⟨some 91,.load 3 (.tmp 90), 3,_,#[⟨22,.data⟩,⟨16,.guard⟩],some (16,true)⟩ rfl hS0 ?_
      try simp only [Act.put,pB,pC,pD]
      refine tD 24 ⟨some 92,.call { callee:=Callee.value (Operand.func 87),args:=#[.tmp 85,.tmp 86,.tmp 91],argTypes:=#[54, 99, 3] }, 4,_,#[⟨17,.data⟩,⟨18,.data⟩,⟨23,.data⟩,⟨16,.chain⟩,⟨16,.guard⟩],some (16,true)⟩ rfl hS0 ?_
      refine tE 25 ⟨some 93,.pick (.tmp 84) (.tmp 92) (Operand.const (Value.bool false)), 4,_,#[⟨16,.data⟩,⟨24,.data⟩],none⟩ rfl hS0 ?_
      refine tE 26 ⟨some 12,.assign (.tmp 93), 4,_,pa [⟨25,.data⟩,⟨24,.chain⟩] 26,none⟩ rfl hS0 ?_
      try simp only [Act.put,pB,pC,pD]
      refine wpAnyH_done (by kernel_rfl) ?_ _
      go_wp2_with fail
      go_roundw
      case rel => exact ⟨false,k + 1,rfl,by go_num,by omega,Lib.hid ⟨HL1.out.next ((Below.refl W1.heap.size W1).drew),HON.out⟩⟩
      case measure => simp [RowKit.intOf]; omega
     ·have HV1 : Hid (ledP fo V it S k = false):=Lib.hid (by rw [HT.out k,HL.out.2,HSB.out,HLB.out]; rfl)
      have HON : Hid (onRun fo V it S (k + 1) = false):=Lib.hid (by rw [on_in HVK.out,HL.out.2,HSB.out,HMN.out,HAT.out]; rfl)
      go_upto_region 14 with fail
      obtain ⟨W1,hW1⟩ : ∃ W,W = wr.setCell ⟨w.heap.size + 3,k,none⟩ (.bool (ledP fo V it S k)):=⟨_,rfl⟩
      rw [HV1.out] at hW1
      rw [← hW1]
      have hl1 : LdW w W1 [.string (bstr lp),.bool fo,.slice aI mI cI] [.slice (some ⟨g1,0,none⟩) n c1,.slice (some ⟨g2,0,none⟩) (n + 1) c2] [.int .i64 wh,.bool ng,.slice a m c,.int .i64 ls,.bool mn,.bool mb] (boolsV n (partB (ledP fo V it S) (k + 1))):=by
       have:=HL.out.1.put k (.bool (ledP fo V it S k))
       rw [part_set hlt,HV1.out,← hW1] at this
       exact this
      have HL1:=Lib.hid hl1
      have HBW : Hid (∀ W,Below W1.heap.size W1 W → Below w.heap.size w W):=Lib.hid (fun W hb => HL1.out.below.trans (hb.mono HL1.out.below.size))
      have HSf:=Lib.hid (fun (W : World) (hb : Below W1.heap.size W1 W) => HFC.out W (HBW.out W hb))
      clear hl1 hW1 x0 y3 z0 zf f0
      refine wp_region_held_drew (S:=(fun W => Below W1.heap.size W1 W)) (by kernel_rfl) ((Below.refl W1.heap.size W1).drew) (fun hS0 => ?_)
      refine tE 0 ⟨some 68,.move (.tmp 13), 3,_,#[],none⟩ rfl hS0 ?_
      try simp only [Act.put,pB,pC,pD]
      refine tE 1 ⟨some 69,.move (.tmp 9), 3,_,#[],none⟩ rfl hS0 ?_
      refine tE 2 ⟨some 70,.binOp BinOp.lss 3 (.tmp 68) (.tmp 69) 3, 4,_,#[⟨0,.data⟩,⟨1,.data⟩],none⟩ rfl hS0 ?_
      refine tE 3 ⟨some 71,.move (.tmp 70), 4,_,#[⟨2,.data⟩],none⟩ rfl hS0 ?_
      try simp only [Act.put,pB,pC,pD]
      refine tE 4 ⟨some 72,.move (.tmp 3), 115,_,#[⟨3,.guard⟩],some (3,true)⟩ rfl hS0 ?_
      refine tE 5 ⟨some 73,.move (.tmp 13), 3,_,#[⟨3,.guard⟩],some (3,true)⟩ rfl hS0 ?_
      refine tC 6 ⟨some 74,.indexAddr 115 (.tmp 72) (.tmp 73),0,_,#[⟨4,.data⟩,⟨5,.data⟩,⟨3,.guard⟩],some (3,true)⟩ ?_ rfl ?_ hS0 ?_; rotate_left; focus (rintro w2 s1; have e0 : (k : Int) < (n : Int) + 1:=(by omega); go_simp; try with_reducible rfl)
      try simp only [Act.put,pB,pC,pD]
      refine tC 7 ⟨some 75,.load 4 (.tmp 74), 4,_,#[⟨6,.data⟩,⟨3,.guard⟩],some (3,true)⟩ ?_ rfl ?_ hS0 ?_; rotate_left; focus (rintro w2 s1; have e0:=HSf.out w2 s1; go_simp; try with_reducible rfl)
      refine tE 8 ⟨some 76,.move (.tmp 75), 4,_,#[⟨7,.data⟩,⟨3,.chain⟩,⟨3,.guard⟩],some (3,true)⟩ rfl hS0 ?_
      refine tE 9 ⟨some 77,.move (.tmp 12), 4,_,#[⟨8,.guard⟩],some (8,false)⟩ rfl hS0 ?_
      try simp only [Act.put,pB,pC,pD]
      refine tE 10 ⟨some 78,.move (.tmp 77), 4,_,#[⟨9,.data⟩,⟨8,.chain⟩,⟨8,.guard⟩],some (8,false)⟩ rfl hS0 ?_
      refine tD 11 ⟨some 79,.fieldAddr 99 (.tmp 6) 4,0,_,#[⟨10,.guard⟩],some (10,true)⟩ rfl hS0 ?_
      refine tD 12 ⟨some 80,.load 4 (.tmp 79), 4,_,#[⟨11,.data⟩,⟨10,.guard⟩],some (10,true)⟩ rfl hS0 ?_
      try simp only [Act.put,pB,pC,pD]
      refine tE 13 ⟨some 81,.pick (.tmp 78) (.tmp 80) (Operand.const (Value.bool false)), 4,_,#[⟨10,.data⟩,⟨12,.data⟩,⟨8,.guard⟩],some (8,false)⟩ rfl hS0 ?_
      refine tE 14 ⟨some 82,.pick (.tmp 76) (Operand.const (Value.bool true)) (.tmp 81), 4,_,#[⟨8,.data⟩,⟨13,.data⟩,⟨3,.guard⟩],some (3,true)⟩ rfl hS0 ?_
      refine tE 15 ⟨some 83,.pick (.tmp 71) (.tmp 82) (Operand.const (Value.bool false)), 4,_,#[⟨3,.data⟩,⟨14,.data⟩],none⟩ rfl hS0 ?_
      try simp only [Act.put,pB,pC,pD]
      refine tE 16 ⟨some 84,.move (.tmp 83), 4,_,#[⟨15,.data⟩,⟨10,.chain⟩],none⟩ rfl hS0 ?_
      refine tD 17 ⟨some 85,.load 54 (.tmp 4), 54,_,#[⟨16,.guard⟩],some (16,true)⟩ rfl hS0 ?_
      refine tD 18 ⟨some 86,.load 99 (.tmp 6), 99,_,#[⟨16,.guard⟩],some (16,true)⟩ rfl hS0 ?_
      try simp only [Act.put,pB,pC,pD]
      refine tD 19 ⟨some 87,.fieldAddr 106 (.tmp 5) 0,0,_,#[⟨16,.guard⟩],some (16,true)⟩ rfl hS0 ?_
      refine tD 20 ⟨some 88,.load 73 (.tmp 87), 73,_,#[⟨19,.data⟩,⟨16,.guard⟩],some (16,true)⟩ rfl hS0 ?_
      refine tD 21 ⟨some 89,.move (.tmp 13), 3,_,#[⟨16,.guard⟩],some (16,true)⟩ rfl hS0 ?_
      try simp only [Act.put,pB,pC,pD]
      refine tD 22 ⟨some 90,.indexAddr 73 (.tmp 88) (.tmp 89),0,_,#[⟨20,.data⟩,⟨21,.data⟩,⟨16,.guard⟩],some (16,true)⟩ rfl hS0 ?_
      refine tD 23 ⟨some 91,.load 3 (.tmp 90), 3,_,#[⟨22,.data⟩,⟨16,.guard⟩],some (16,true)⟩ rfl hS0 ?_
      refine tD 24 ⟨some 92,.call { callee:=Callee.value (Operand.func 87),args:=#[.tmp 85,.tmp 86,.tmp 91],argTypes:=#[54, 99, 3] }, 4,_,#[⟨17,.data⟩,⟨18,.data⟩,⟨23,.data⟩,⟨16,.chain⟩,⟨16,.guard⟩],some (16,true)⟩ rfl hS0 ?_
      try simp only [Act.put,pB,pC,pD]
      refine tE 25 ⟨some 93,.pick (.tmp 84) (.tmp 92) (Operand.const (Value.bool false)), 4,_,#[⟨16,.data⟩,⟨24,.data⟩],none⟩ rfl hS0 ?_
      refine tE 26 ⟨some 12,.assign (.tmp 93), 4,_,pa [⟨25,.data⟩,⟨24,.chain⟩] 26,none⟩ rfl hS0 ?_
      try simp only [Act.put,pB,pC,pD]
      refine wpAnyH_done (by kernel_rfl) ?_ _
      go_wp2_with fail
      go_roundw
      case rel => exact ⟨false,k + 1,rfl,by go_num,by omega,Lib.hid ⟨HL1.out.next ((Below.refl W1.heap.size W1).drew),HON.out⟩⟩
      case measure => simp [RowKit.intOf]; omega
    ·have hkn : ¬ (k : Int) < (n : Int):=by omega
     have HNK : Hid (n ≤ k):=Lib.hid (by omega)
     clear hin
     have hcs : (on = true) ∨ (on = false ∧ sb = false) ∨ (on = false ∧ sb = true ∧ lb = true) ∨ (on = false ∧ sb = true ∧ lb = false):=by cases on <;> cases sb <;> cases lb <;> simp
     rcases hcs with rfl | ⟨rfl,rfl⟩ | ⟨rfl,rfl,rfl⟩ | ⟨rfl,rfl,rfl⟩
     have HV1 : Hid (ledP fo V it S k = true):=Lib.hid (by rw [HT.out k,HL.out.2,HSB.out,HLB.out]; rfl); have HON : Hid (onRun fo V it S (k + 1) = false):=Lib.hid (by rw [on_out (by rw [HN.out]; exact HNK.out)]); rotate_left
     have HV1 : Hid (ledP fo V it S k = false):=Lib.hid (by rw [HT.out k,HL.out.2,HSB.out,HLB.out]; rfl); have HON : Hid (onRun fo V it S (k + 1) = false):=Lib.hid (by rw [on_out (by rw [HN.out]; exact HNK.out)]); rotate_left
     have HV1 : Hid (ledP fo V it S k = true):=Lib.hid (by rw [HT.out k,HL.out.2,HSB.out,HLB.out]; rfl); have HON : Hid (onRun fo V it S (k + 1) = false):=Lib.hid (by rw [on_out (by rw [HN.out]; exact HNK.out)]); rotate_left
     have HV1 : Hid (ledP fo V it S k = false):=Lib.hid (by rw [HT.out k,HL.out.2,HSB.out,HLB.out]; rfl); have HON : Hid (onRun fo V it S (k + 1) = false):=Lib.hid (by rw [on_out (by rw [HN.out]; exact HNK.out)]); rotate_left
     all_goals
      go_upto_region 14 with fail
      obtain ⟨W1,hW1⟩ : ∃ W,W = wr.setCell ⟨w.heap.size + 3,k,none⟩ (.bool (ledP fo V it S k)):=⟨_,rfl⟩
      rw [HV1.out] at hW1
      rw [← hW1]
      have hl1 : LdW w W1 [.string (bstr lp),.bool fo,.slice aI mI cI] [.slice (some ⟨g1,0,none⟩) n c1,.slice (some ⟨g2,0,none⟩) (n + 1) c2] [.int .i64 wh,.bool ng,.slice a m c,.int .i64 ls,.bool mn,.bool mb] (boolsV n (partB (ledP fo V it S) (k + 1))):=by
       have:=HL.out.1.put k (.bool (ledP fo V it S k))
       rw [part_set hlt,HV1.out,← hW1] at this
       exact this
      have HL1:=Lib.hid hl1
      have HBW : Hid (∀ W,Below W1.heap.size W1 W → Below w.heap.size w W):=Lib.hid (fun W hb => HL1.out.below.trans (hb.mono HL1.out.below.size))
      clear hl1 hW1 x0 y3 z0 zf f0
      refine wp_region_held_drew (S:=(fun W => Below W1.heap.size W1 W)) (by kernel_rfl) ((Below.refl W1.heap.size W1).drew) (fun hS0 => ?_)
      refine tE 0 ⟨some 68,.move (.tmp 13), 3,_,#[],none⟩ rfl hS0 ?_
      refine tE 1 ⟨some 69,.move (.tmp 9), 3,_,#[],none⟩ rfl hS0 ?_
      try simp only [Act.put,pB,pC,pD]
      refine tE 2 ⟨some 70,.binOp BinOp.lss 3 (.tmp 68) (.tmp 69) 3, 4,_,#[⟨0,.data⟩,⟨1,.data⟩],none⟩ rfl hS0 ?_
      refine tE 3 ⟨some 71,.move (.tmp 70), 4,_,#[⟨2,.data⟩],none⟩ rfl hS0 ?_
      refine tD 4 ⟨some 72,.move (.tmp 3), 115,_,#[⟨3,.guard⟩],some (3,true)⟩ rfl hS0 ?_
      try simp only [Act.put,pB,pC,pD]
      refine tD 5 ⟨some 73,.move (.tmp 13), 3,_,#[⟨3,.guard⟩],some (3,true)⟩ rfl hS0 ?_
      refine tD 6 ⟨some 74,.indexAddr 115 (.tmp 72) (.tmp 73),0,_,#[⟨4,.data⟩,⟨5,.data⟩,⟨3,.guard⟩],some (3,true)⟩ rfl hS0 ?_
      refine tD 7 ⟨some 75,.load 4 (.tmp 74), 4,_,#[⟨6,.data⟩,⟨3,.guard⟩],some (3,true)⟩ rfl hS0 ?_
      try simp only [Act.put,pB,pC,pD]
      refine tD 8 ⟨some 76,.move (.tmp 75), 4,_,#[⟨7,.data⟩,⟨3,.chain⟩,⟨3,.guard⟩],some (3,true)⟩ rfl hS0 ?_
      refine tD 9 ⟨some 77,.move (.tmp 12), 4,_,#[⟨8,.guard⟩],some (8,false)⟩ rfl hS0 ?_
      refine tD 10 ⟨some 78,.move (.tmp 77), 4,_,#[⟨9,.data⟩,⟨8,.chain⟩,⟨8,.guard⟩],some (8,false)⟩ rfl hS0 ?_
      try simp only [Act.put,pB,pC,pD]
      refine tD 11 ⟨some 79,.fieldAddr 99 (.tmp 6) 4,0,_,#[⟨10,.guard⟩],some (10,true)⟩ rfl hS0 ?_
      refine tD 12 ⟨some 80,.load 4 (.tmp 79), 4,_,#[⟨11,.data⟩,⟨10,.guard⟩],some (10,true)⟩ rfl hS0 ?_
      refine tD 13 ⟨some 81,.pick (.tmp 78) (.tmp 80) (Operand.const (Value.bool false)), 4,_,#[⟨10,.data⟩,⟨12,.data⟩,⟨8,.guard⟩],some (8,false)⟩ rfl hS0 ?_
      try simp only [Act.put,pB,pC,pD]
      refine tD 14 ⟨some 82,.pick (.tmp 76) (Operand.const (Value.bool true)) (.tmp 81), 4,_,#[⟨8,.data⟩,⟨13,.data⟩,⟨3,.guard⟩],some (3,true)⟩ rfl hS0 ?_
      refine tE 15 ⟨some 83,.pick (.tmp 71) (.tmp 82) (Operand.const (Value.bool false)), 4,_,#[⟨3,.data⟩,⟨14,.data⟩],none⟩ rfl hS0 ?_
      refine tE 16 ⟨some 84,.move (.tmp 83), 4,_,#[⟨15,.data⟩,⟨10,.chain⟩],none⟩ rfl hS0 ?_
      try simp only [Act.put,pB,pC,pD]
      refine tD 17 ⟨some 85,.load 54 (.tmp 4), 54,_,#[⟨16,.guard⟩],some (16,true)⟩ rfl hS0 ?_
      refine tD 18 ⟨some 86,.load 99 (.tmp 6), 99,_,#[⟨16,.guard⟩],some (16,true)⟩ rfl hS0 ?_
      refine tD 19 ⟨some 87,.fieldAddr 106 (.tmp 5) 0,0,_,#[⟨16,.guard⟩],some (16,true)⟩ rfl hS0 ?_
      try simp only [Act.put,pB,pC,pD]
      refine tD 20 ⟨some 88,.load 73 (.tmp 87), 73,_,#[⟨19,.data⟩,⟨16,.guard⟩],some (16,true)⟩ rfl hS0 ?_
      refine tD 21 ⟨some 89,.move (.tmp 13), 3,_,#[⟨16,.guard⟩],some (16,true)⟩ rfl hS0 ?_
      refine tD 22 ⟨some 90,.indexAddr 73 (.tmp 88) (.tmp 89),0,_,#[⟨20,.data⟩,⟨21,.data⟩,⟨16,.guard⟩],some (16,true)⟩ rfl hS0 ?_
      try simp only [Act.put,pB,pC,pD]
      refine tD 23 ⟨some 91,.load 3 (.tmp 90), 3,_,#[⟨22,.data⟩,⟨16,.guard⟩],some (16,true)⟩ rfl hS0 ?_
      refine tD 24 ⟨some 92,.call { callee:=Callee.value (Operand.func 87),args:=#[.tmp 85,.tmp 86,.tmp 91],argTypes:=#[54, 99, 3] }, 4,_,#[⟨17,.data⟩,⟨18,.data⟩,⟨23,.data⟩,⟨16,.chain⟩,⟨16,.guard⟩],some (16,true)⟩ rfl hS0 ?_
      refine tE 25 ⟨some 93,.pick (.tmp 84) (.tmp 92) (Operand.const (Value.bool false)), 4,_,#[⟨16,.data⟩,⟨24,.data⟩],none⟩ rfl hS0 ?_
      try simp only [Act.put,pB,pC,pD]
      refine tE 26 ⟨some 12,.assign (.tmp 93), 4,_,pa [⟨25,.data⟩,⟨24,.chain⟩] 26,none⟩ rfl hS0 ?_
      try simp only [Act.put,pB,pC,pD]
      refine wpAnyH_done (by kernel_rfl) ?_ _
      go_wp2_with fail
      go_roundw
      case rel => exact ⟨false,k + 1,rfl,by go_num,by omega,Lib.hid ⟨HL1.out.next ((Below.refl W1.heap.size W1).drew),HON.out⟩⟩
      case measure => simp [RowKit.intOf]; omega
   ·obtain rfl : k = n + 1:=by omega
    have hki : ¬ ((n : Int) + 1) ≤ (n : Int):=by omega
    go_wp2_with fail
    go_ret
    exact ⟨_,rfl,by omega,by have:=HL.out.1.to_; rw [part_all] at this; exact this,HL.out.1.below⟩
end Go.Proofs.YtchdeboialbdiaaGreatDoor
