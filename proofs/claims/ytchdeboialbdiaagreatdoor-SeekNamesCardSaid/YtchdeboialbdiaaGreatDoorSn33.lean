/- Texts joined, one behind the other (SRefP). -/
import Derived.Test.YtchdeboialbdiaaGreatDoorSqy
import Derived.Test.YtchdeboialbdiaaGreatDoorSn32
import Derived.Deep.RegionHeld3
namespace Go.Proofs.YtchdeboialbdiaaGreatDoor
set_option linter.unusedVariables false
set_option linter.unusedSimpArgs false
set_option maxHeartbeats 8000000
set_option maxRecDepth 100000
open Go.RowKit
open Go.Lib hiding intOf
def OkAt (it : Itm) : Prop:=(it.what = 46 ∨ it.what = 91 ∨ (it.what = 99 ∧ ∃ x,it.els = [x])) ∧ ∀ x ∈ it.els,OkEl x
theorem is_dot {fo : Bool} {it : Itm} {v : Nat} (h : it.what = 46) : atomIs fo it v = !(decide (v < wrongN) && endsB v):=by unfold atomIs; rw [if_pos h]
theorem is_set {fo : Bool} {it : Itm} {v : Nat} (h : it.what = 91) : atomIs fo it v = ((hasV it.els v || (fo && decide (v < wrongN) && hasV it.els (foldN v))) != it.neg):=by unfold atomIs; rw [if_neg (by omega),if_pos h]
theorem is_one {fo : Bool} {it : Itm} {v : Nat} {x : El} (h : it.what = 99) (hx : it.els = [x]) (hn : ∀ lo hi,x = .rng lo hi → ¬ (fo = true ∧ lo < wrongN)) : atomIs fo it v = elHas x v:=by
 unfold atomIs
 rw [if_neg (by omega),if_neg (by omega),hx]
 cases x with
 | kind k => rfl
 | rng lo hi => exact if_neg (hn lo hi rfl)
theorem is_fold {fo : Bool} {it : Itm} {v lo hi : Nat} (h : it.what = 99) (hx : it.els = [.rng lo hi]) (hn : fo = true ∧ lo < wrongN) : atomIs fo it v = (decide (v < wrongN) && decide (foldN v = foldN lo)):=by
 unfold atomIs
 rw [if_neg (by omega),if_neg (by omega),hx]
 exact if_pos hn
structure IsW (w W : World) (pv iv : List Value) : Prop where
 pat : Row W w.heap.size 54 pv
 it : Row W (w.heap.size + 1) 99 iv
 below : Below w.heap.size w W
theorem IsW.next {w W W' : World} {pv iv : List Value} (h : IsW w W pv iv) (hb : Below W.heap.size W W') : IsW w W' pv iv :=
 ⟨h.pat.keep hb h.pat.lt,h.it.keep hb h.it.lt,h.below.trans (hb.mono h.below.size)⟩
theorem is_start (w : World) (pv iv : List Value) : IsW w ((w.alloc (.cells pv.toArray 54)).alloc (.cells iv.toArray 99)) pv iv:=by
 refine ⟨?_,?_,((Below.refl _ w).alloc (Nat.le_refl _) _).alloc (by simp) _⟩
 ·have hr : Row (w.alloc (.cells pv.toArray 54)) w.heap.size 54 pv:=row_new w pv _
  exact hr.alloc _
 ·have:=row_new (w.alloc (.cells pv.toArray 54)) iv 99
  rwa [World.size_alloc] at this
theorem is_dotR (w : World) (lp : List UInt8) (fo : Bool) (aI : Option Addr) (mI cI : Nat) (it : Itm) (a : Option Addr) (m c : Nat) (v : Nat) (hr : ElRd w (.slice a m c) it.els) (hok : OkAt it) (hm : m ≤ 1000000) (hv : OkC v) (hw : it.what = 46) : Calls Tryz.prog 87 #[.agg #[.string (bstr lp),.bool fo,.slice aI mI cI],itV (it,.slice a m c),.int .i64 (v : Int)] w fun e w' => e = .returned (.bool (atomIs fo it v)) ∧ Below w.heap.size w w':=by
 obtain ⟨wh,hwh⟩ : ∃ z : Int,(it.what : Int) = z:=⟨_,rfl⟩
 obtain ⟨ls,hls⟩ : ∃ z : Int,(it.least : Int) = z:=⟨_,rfl⟩
 obtain ⟨ng,hng⟩ : ∃ b,it.neg = b:=⟨_,rfl⟩
 obtain ⟨mn,hmn⟩ : ∃ b,it.many = b:=⟨_,rfl⟩
 obtain ⟨mb,hmb⟩ : ∃ b,maybeB it = b:=⟨_,rfl⟩
 have hIV : itV (it,.slice a m c) = .agg #[.int .i64 wh,.bool ng,.slice a m c,.int .i64 ls,.bool mn,.bool mb]:=by
  rw [← hwh,← hls,← hng,← hmn,← hmb]
  rfl
 obtain ⟨z,hz⟩ : ∃ z : Int,(v : Int) = z:=⟨_,rfl⟩
 have hvb : v < 2000000:=by unfold OkC wrongN at hv; omega
 rw [hIV,is_dot hw,hz]
 obtain rfl : wh = 46:=by omega
 have hst:=is_start w [.string (bstr lp),.bool fo,.slice aI mI cI] [.int .i64 46,.bool ng,.slice a m c,.int .i64 ls,.bool mn,.bool mb]
 obtain ⟨W0,hW0⟩ : ∃ W,W = (w.alloc (.cells #[.string (bstr lp),.bool fo,.slice aI mI cI] 54)).alloc (.cells #[.int .i64 46,.bool ng,.slice a m c,.int .i64 ls,.bool mn,.bool mb] 99):=⟨_,rfl⟩
 have hst2 : IsW w W0 [.string (bstr lp),.bool fo,.slice aI mI cI] [.int .i64 46,.bool ng,.slice a m c,.int .i64 ls,.bool mn,.bool mb]:=by rw [hW0]; exact hst
 have HST:=Lib.hid hst2
 have HW0:=Lib.hid hW0
 have p1 : W0.cell? ⟨w.heap.size,1,none⟩ = some (.bool fo):=hst2.pat.cell 1
 have pl:=hst2.pat.lt
 have i0 : W0.cell? ⟨w.heap.size + 1,0,none⟩ = some (.int .i64 46):=hst2.it.cell 0
 have i1 : W0.cell? ⟨w.heap.size + 1,1,none⟩ = some (.bool ng):=hst2.it.cell 1
 have i2 : W0.cell? ⟨w.heap.size + 1,2,none⟩ = some (.slice a m c):=hst2.it.cell 2
 have i3 : W0.cell? ⟨w.heap.size + 1,3,none⟩ = some (.int .i64 ls):=hst2.it.cell 3
 have i4 : W0.cell? ⟨w.heap.size + 1,4,none⟩ = some (.bool mn):=hst2.it.cell 4
 have i5 : W0.cell? ⟨w.heap.size + 1,5,none⟩ = some (.bool mb):=hst2.it.cell 5
 have il:=hst2.it.lt
 clear hst hst2 hW0
 have hz0 : 0 ≤ z ∧ z < 2000000:=by omega
 obtain ⟨hz0,hz1⟩:=hz0
 have HE:=Lib.hid (fun W => hz ▸ endsR6 W v)
 obtain ⟨be,hbe⟩ : ∃ b,endsB v = b:=⟨_,rfl⟩
 rw [hbe] at HE ⊢
 by_cases hr : z < 1114112
 ·rw [decide_eq_true (show v < wrongN by unfold wrongN; omega),Bool.true_and]
  by_cases h10 : z = 10
  ·have hb : be = true:=by rw [← hbe,show v = 10 by omega]; rfl
   subst h10 hb
   clear hz hbe hIV hls hng hmn hmb hwh
   go_enter Tryz.func87, Tryz.ntmps87
   go_upto_region 1 with fail
   rw [← HW0.out]
   go_wp2_with fail
   go_ret
   exact ⟨rfl,HST.out.below⟩
  ·have q10 : (z != 10) = true:=by simp [h10]
   by_cases h13 : z = 13
   ·have hb : be = true:=by rw [← hbe,show v = 13 by omega]; rfl
    subst h13 hb
    clear hz hbe hIV hls hng hmn hmb hwh
    go_enter Tryz.func87, Tryz.ntmps87
    go_upto_region 1 with fail
    rw [← HW0.out]
    go_wp2_with fail
    go_ret
    exact ⟨rfl,HST.out.below⟩
   ·have q13 : (z != 13) = true:=by simp [h13]
    clear hz hbe hIV hls hng hmn hmb hwh h10 h13
    go_enter Tryz.func87, Tryz.ntmps87
    go_upto_region 1 with fail
    rw [← HW0.out]
    go_wp2_with (go_at_call 102; refine (HE.out _).mono ?_; rintro e w1 ⟨rfl,rfl⟩)
    go_ret
    exact ⟨rfl,HST.out.below⟩
 ·rw [decide_eq_false (show ¬ v < wrongN by unfold wrongN; omega),Bool.false_and]
  clear hz hbe hIV hls hng hmn hmb hwh
  go_enter Tryz.func87, Tryz.ntmps87
  go_upto_region 1 with fail
  rw [← HW0.out]
  go_wp2_with fail
  go_ret
  exact ⟨rfl,HST.out.below⟩
theorem is_setR (w : World) (lp : List UInt8) (fo : Bool) (aI : Option Addr) (mI cI : Nat) (it : Itm) (a : Option Addr) (m c : Nat) (v : Nat) (hr : ElRd w (.slice a m c) it.els) (hok : OkAt it) (hm : m ≤ 1000000) (hv : OkC v) (hw : it.what = 91) : Calls Tryz.prog 87 #[.agg #[.string (bstr lp),.bool fo,.slice aI mI cI],itV (it,.slice a m c),.int .i64 (v : Int)] w fun e w' => e = .returned (.bool (atomIs fo it v)) ∧ Below w.heap.size w w':=by
 obtain ⟨wh,hwh⟩ : ∃ z : Int,(it.what : Int) = z:=⟨_,rfl⟩
 obtain ⟨ls,hls⟩ : ∃ z : Int,(it.least : Int) = z:=⟨_,rfl⟩
 obtain ⟨ng,hng⟩ : ∃ b,it.neg = b:=⟨_,rfl⟩
 obtain ⟨mn,hmn⟩ : ∃ b,it.many = b:=⟨_,rfl⟩
 obtain ⟨mb,hmb⟩ : ∃ b,maybeB it = b:=⟨_,rfl⟩
 have hIV : itV (it,.slice a m c) = .agg #[.int .i64 wh,.bool ng,.slice a m c,.int .i64 ls,.bool mn,.bool mb]:=by
  rw [← hwh,← hls,← hng,← hmn,← hmb]
  rfl
 obtain ⟨z,hz⟩ : ∃ z : Int,(v : Int) = z:=⟨_,rfl⟩
 have hvb : v < 2000000:=by unfold OkC wrongN at hv; omega
 have hH:=fun W (hb : Below w.heap.size w W) => hasR6 W it a m c v (hr.below hb) hok.2 hm hvb
 have hH2:=fun W (hb : Below w.heap.size w W) (hf : foldN v < 2000000) => hasR6 W it a m c (foldN v) (hr.below hb) hok.2 hm hf
 rw [hIV] at hH
 simp only [hIV] at hH2
 rw [hIV,is_set hw,hng,hz]
 simp only [hz] at hH
 obtain rfl : wh = 91:=by omega
 have hst:=is_start w [.string (bstr lp),.bool fo,.slice aI mI cI] [.int .i64 91,.bool ng,.slice a m c,.int .i64 ls,.bool mn,.bool mb]
 obtain ⟨W0,hW0⟩ : ∃ W,W = (w.alloc (.cells #[.string (bstr lp),.bool fo,.slice aI mI cI] 54)).alloc (.cells #[.int .i64 91,.bool ng,.slice a m c,.int .i64 ls,.bool mn,.bool mb] 99):=⟨_,rfl⟩
 have hst2 : IsW w W0 [.string (bstr lp),.bool fo,.slice aI mI cI] [.int .i64 91,.bool ng,.slice a m c,.int .i64 ls,.bool mn,.bool mb]:=by rw [hW0]; exact hst
 have HST:=Lib.hid hst2
 have HW0:=Lib.hid hW0
 have p1 : W0.cell? ⟨w.heap.size,1,none⟩ = some (.bool fo):=hst2.pat.cell 1
 have pl:=hst2.pat.lt
 have i0 : W0.cell? ⟨w.heap.size + 1,0,none⟩ = some (.int .i64 91):=hst2.it.cell 0
 have i1 : W0.cell? ⟨w.heap.size + 1,1,none⟩ = some (.bool ng):=hst2.it.cell 1
 have i2 : W0.cell? ⟨w.heap.size + 1,2,none⟩ = some (.slice a m c):=hst2.it.cell 2
 have i3 : W0.cell? ⟨w.heap.size + 1,3,none⟩ = some (.int .i64 ls):=hst2.it.cell 3
 have i4 : W0.cell? ⟨w.heap.size + 1,4,none⟩ = some (.bool mn):=hst2.it.cell 4
 have i5 : W0.cell? ⟨w.heap.size + 1,5,none⟩ = some (.bool mb):=hst2.it.cell 5
 have il:=hst2.it.lt
 clear hst hst2 hW0
 have HS : Hid (∀ W,Below W0.heap.size W0 W → (W.cell? ⟨w.heap.size,1,none⟩ = some (.bool fo) ∧ W.cell? ⟨w.heap.size + 1,0,none⟩ = some (.int .i64 91) ∧ W.cell? ⟨w.heap.size + 1,1,none⟩ = some (.bool ng) ∧ W.cell? ⟨w.heap.size + 1,2,none⟩ = some (.slice a m c) ∧ W.cell? ⟨w.heap.size + 1,3,none⟩ = some (.int .i64 ls) ∧ W.cell? ⟨w.heap.size + 1,4,none⟩ = some (.bool mn) ∧ W.cell? ⟨w.heap.size + 1,5,none⟩ = some (.bool mb))):=Lib.hid (fun W hW => ⟨(HST.out.next hW).pat.cell 1,(HST.out.next hW).it.cell 0,(HST.out.next hW).it.cell 1,(HST.out.next hW).it.cell 2,(HST.out.next hW).it.cell 3,(HST.out.next hW).it.cell 4,(HST.out.next hW).it.cell 5⟩)
 have hz0 : 0 ≤ z ∧ z < 2000000:=by omega
 obtain ⟨hz0,hz1⟩:=hz0
 obtain ⟨b1,hb1⟩ : ∃ b,hasV it.els v = b:=⟨_,rfl⟩
 rw [hb1] at hH ⊢
 have HH : Hid (∀ W,Below W0.heap.size W0 W → Calls Tryz.prog 103 #[.agg #[.int .i64 91,.bool ng,.slice a m c,.int .i64 ls,.bool mn,.bool mb],.int .i64 z] W fun e w' => e = .returned (.bool b1) ∧ Below W.heap.size W w'):=Lib.hid (fun W hW => hH W (HST.out.next hW).below)
 clear hH hb1
 cases b1 with
 | true =>
  rw [Bool.true_or]
  clear hH2 hz hIV hls hng hmn hmb hwh
  by_cases c1 : z < 1114112
  ·go_enter Tryz.func87, Tryz.ntmps87
   go_upto_region 6 with fail
   rw [← HW0.out]
   refine wp_region_held_drew (S:=(fun w' : World => w'.cell? ⟨w.heap.size,1,none⟩ = some (.bool fo) ∧ w'.cell? ⟨w.heap.size + 1,0,none⟩ = some (.int .i64 91) ∧ w'.cell? ⟨w.heap.size + 1,1,none⟩ = some (.bool ng) ∧ w'.cell? ⟨w.heap.size + 1,2,none⟩ = some (.slice a m c) ∧ w'.cell? ⟨w.heap.size + 1,3,none⟩ = some (.int .i64 ls) ∧ w'.cell? ⟨w.heap.size + 1,4,none⟩ = some (.bool mn) ∧ w'.cell? ⟨w.heap.size + 1,5,none⟩ = some (.bool mb))) (by kernel_rfl) (HS.out _ (Below.refl _ W0).drew) (fun hS0 => ?_)
   refine tG 0 ⟨some 34,.load 99 (.tmp 4), 99,_,#[],none⟩ rfl hS0 ?_
   refine tG 1 ⟨some 35,.move (.tmp 2), 3,_,#[],none⟩ rfl hS0 ?_
   try simp only [Act.put,pB,pC,pD]
   refine wpAnyH_ready (rs:=[2]) (by kernel_rfl) (by simp) (AllReadyH.cons (o:=⟨some 36,.call { callee:=Callee.value (Operand.func 103),args:=#[.tmp 34,.tmp 35],argTypes:=#[99, 3] }, 4, "ref.go:278",#[⟨0,.data⟩,⟨1,.data⟩],none⟩) rfl (fun K' hK => ?_) AllReadyH.nil)
   go_simp
   with_reducible refine (HH.out _ (Below.refl _ W0).drew).mono ?_
   rintro e w3 ⟨rfl,hb3⟩
   have HB3:=Lib.hid ((Below.refl W0.heap.size W0).drew.trans (hb3.mono (Nat.le_refl _)))
   clear hb3
   show K' _ _
   refine hK.out _ _ (HS.out _ HB3.out) (fun hSn => ?_)
   try simp only [Act.put,pB,pC,pD]
   clear hK K'
   refine tC 3 ⟨some 37,.move (.tmp 36), 4,_,#[⟨2,.data⟩,⟨2,.chain⟩],none⟩ ?v3 rfl ?y3 (HS.out _ HB3.out) ?r3; (case y3 => rintro w2 ⟨s1,s2,s3,s4,s5,s6,s7⟩; go_simp; try with_reducible rfl)
   refine tD 4 ⟨some 38,.fieldAddr 54 (.tmp 3) 1,0,_,#[⟨3,.guard⟩],some (3,false)⟩ rfl (HS.out _ HB3.out) ?_
   try simp only [Act.put,pB,pC,pD]
   refine tD 5 ⟨some 39,.load 4 (.tmp 38), 4,_,#[⟨4,.data⟩,⟨3,.guard⟩],some (3,false)⟩ rfl (HS.out _ HB3.out) ?_
   refine tD 6 ⟨some 40,.move (.tmp 39), 4,_,#[⟨5,.data⟩,⟨3,.chain⟩,⟨3,.guard⟩],some (3,false)⟩ rfl (HS.out _ HB3.out) ?_
   refine tD 7 ⟨some 41,.move (.tmp 7), 4,_,#[⟨6,.guard⟩],some (6,true)⟩ rfl (HS.out _ HB3.out) ?_
   try simp only [Act.put,pB,pC,pD]
   refine tD 8 ⟨some 42,.pick (.tmp 40) (.tmp 41) (Operand.const (Value.bool false)), 4,_,#[⟨6,.data⟩,⟨7,.data⟩,⟨3,.guard⟩],some (3,false)⟩ rfl (HS.out _ HB3.out) ?_
   refine tD 9 ⟨some 43,.move (.tmp 42), 4,_,#[⟨8,.data⟩,⟨6,.chain⟩,⟨3,.guard⟩],some (3,false)⟩ rfl (HS.out _ HB3.out) ?_
   refine tD 10 ⟨some 44,.load 99 (.tmp 4), 99,_,#[⟨9,.guard⟩],some (9,true)⟩ rfl (HS.out _ HB3.out) ?_
   try simp only [Act.put,pB,pC,pD]
   refine tD 11 ⟨some 45,.move (.tmp 2), 3,_,#[⟨9,.guard⟩],some (9,true)⟩ rfl (HS.out _ HB3.out) ?_
   refine tD 12 ⟨some 46,.convert 3 21 (.tmp 45), 21,_,#[⟨11,.data⟩,⟨9,.guard⟩],some (9,true)⟩ rfl (HS.out _ HB3.out) ?_
   refine tD 13 ⟨some 47,.call { callee:=Callee.value (Operand.func 104),args:=#[.tmp 46],argTypes:=#[21] }, 21,_,#[⟨12,.data⟩,⟨9,.chain⟩,⟨9,.guard⟩],some (9,true)⟩ rfl (HS.out _ HB3.out) ?_
   try simp only [Act.put,pB,pC,pD]
   refine tD 14 ⟨some 48,.convert 21 3 (.tmp 47), 3,_,#[⟨13,.data⟩,⟨9,.guard⟩],some (9,true)⟩ rfl (HS.out _ HB3.out) ?_
   refine tD 15 ⟨some 49,.call { callee:=Callee.value (Operand.func 103),args:=#[.tmp 44,.tmp 48],argTypes:=#[99, 3] }, 4,_,#[⟨10,.data⟩,⟨14,.data⟩,⟨13,.chain⟩,⟨9,.guard⟩],some (9,true)⟩ rfl (HS.out _ HB3.out) ?_
   refine tD 16 ⟨some 50,.pick (.tmp 43) (.tmp 49) (Operand.const (Value.bool false)), 4,_,#[⟨9,.data⟩,⟨15,.data⟩,⟨3,.guard⟩],some (3,false)⟩ rfl (HS.out _ HB3.out) ?_
   try simp only [Act.put,pB,pC,pD]
   refine tC 17 ⟨some 51,.pick (.tmp 37) (Operand.const (Value.bool true)) (.tmp 50), 4,_,#[⟨3,.data⟩,⟨16,.data⟩],none⟩ ?v17 rfl ?y17 (HS.out _ HB3.out) ?r17; (case y17 => rintro w2 ⟨s1,s2,s3,s4,s5,s6,s7⟩; go_simp; try with_reducible rfl)
   refine tC 18 ⟨some 8,.assign (.tmp 51), 4,_,pa [⟨17,.data⟩,⟨15,.chain⟩] 18,none⟩ ?v18 rfl ?y18 (HS.out _ HB3.out) ?r18; (case y18 => rintro w2 ⟨s1,s2,s3,s4,s5,s6,s7⟩; go_simp; try with_reducible rfl)
   try simp only [Act.put,pB,pC,pD]
   refine wpAnyH_done (by kernel_rfl) ?_ _
   have n1:=(HST.out.next HB3.out).it.cell 1
   have n2:=(HST.out.next HB3.out).it.lt
   have HBE:=Lib.hid (HST.out.next HB3.out).below
   go_wp2_with fail
   go_ret
   exact ⟨by first | rfl | (cases ng <;> rfl) | (cases b2 <;> cases ng <;> rfl),HBE.out⟩
  ·go_enter Tryz.func87, Tryz.ntmps87
   go_upto_region 6 with fail
   rw [← HW0.out]
   refine wp_region_held_drew (S:=(fun w' : World => w'.cell? ⟨w.heap.size,1,none⟩ = some (.bool fo) ∧ w'.cell? ⟨w.heap.size + 1,0,none⟩ = some (.int .i64 91) ∧ w'.cell? ⟨w.heap.size + 1,1,none⟩ = some (.bool ng) ∧ w'.cell? ⟨w.heap.size + 1,2,none⟩ = some (.slice a m c) ∧ w'.cell? ⟨w.heap.size + 1,3,none⟩ = some (.int .i64 ls) ∧ w'.cell? ⟨w.heap.size + 1,4,none⟩ = some (.bool mn) ∧ w'.cell? ⟨w.heap.size + 1,5,none⟩ = some (.bool mb))) (by kernel_rfl) (HS.out _ (Below.refl _ W0).drew) (fun hS0 => ?_)
   refine tG 0 ⟨some 34,.load 99 (.tmp 4), 99,_,#[],none⟩ rfl hS0 ?_
   refine tG 1 ⟨some 35,.move (.tmp 2), 3,_,#[],none⟩ rfl hS0 ?_
   try simp only [Act.put,pB,pC,pD]
   refine wpAnyH_ready (rs:=[2]) (by kernel_rfl) (by simp) (AllReadyH.cons (o:=⟨some 36,.call { callee:=Callee.value (Operand.func 103),args:=#[.tmp 34,.tmp 35],argTypes:=#[99, 3] }, 4, "ref.go:278",#[⟨0,.data⟩,⟨1,.data⟩],none⟩) rfl (fun K' hK => ?_) AllReadyH.nil)
   go_simp
   with_reducible refine (HH.out _ (Below.refl _ W0).drew).mono ?_
   rintro e w3 ⟨rfl,hb3⟩
   have HB3:=Lib.hid ((Below.refl W0.heap.size W0).drew.trans (hb3.mono (Nat.le_refl _)))
   clear hb3
   show K' _ _
   refine hK.out _ _ (HS.out _ HB3.out) (fun hSn => ?_)
   try simp only [Act.put,pB,pC,pD]
   clear hK K'
   refine tC 3 ⟨some 37,.move (.tmp 36), 4,_,#[⟨2,.data⟩,⟨2,.chain⟩],none⟩ ?v21 rfl ?y21 (HS.out _ HB3.out) ?r21; (case y21 => rintro w2 ⟨s1,s2,s3,s4,s5,s6,s7⟩; go_simp; try with_reducible rfl)
   try simp only [Act.put,pB,pC,pD]
   refine tD 4 ⟨some 38,.fieldAddr 54 (.tmp 3) 1,0,_,#[⟨3,.guard⟩],some (3,false)⟩ rfl (HS.out _ HB3.out) ?_
   refine tD 5 ⟨some 39,.load 4 (.tmp 38), 4,_,#[⟨4,.data⟩,⟨3,.guard⟩],some (3,false)⟩ rfl (HS.out _ HB3.out) ?_
   refine tD 6 ⟨some 40,.move (.tmp 39), 4,_,#[⟨5,.data⟩,⟨3,.chain⟩,⟨3,.guard⟩],some (3,false)⟩ rfl (HS.out _ HB3.out) ?_
   try simp only [Act.put,pB,pC,pD]
   refine tD 7 ⟨some 41,.move (.tmp 7), 4,_,#[⟨6,.guard⟩],some (6,true)⟩ rfl (HS.out _ HB3.out) ?_
   refine tD 8 ⟨some 42,.pick (.tmp 40) (.tmp 41) (Operand.const (Value.bool false)), 4,_,#[⟨6,.data⟩,⟨7,.data⟩,⟨3,.guard⟩],some (3,false)⟩ rfl (HS.out _ HB3.out) ?_
   refine tD 9 ⟨some 43,.move (.tmp 42), 4,_,#[⟨8,.data⟩,⟨6,.chain⟩,⟨3,.guard⟩],some (3,false)⟩ rfl (HS.out _ HB3.out) ?_
   try simp only [Act.put,pB,pC,pD]
   refine tD 10 ⟨some 44,.load 99 (.tmp 4), 99,_,#[⟨9,.guard⟩],some (9,true)⟩ rfl (HS.out _ HB3.out) ?_
   refine tD 11 ⟨some 45,.move (.tmp 2), 3,_,#[⟨9,.guard⟩],some (9,true)⟩ rfl (HS.out _ HB3.out) ?_
   refine tD 12 ⟨some 46,.convert 3 21 (.tmp 45), 21,_,#[⟨11,.data⟩,⟨9,.guard⟩],some (9,true)⟩ rfl (HS.out _ HB3.out) ?_
   try simp only [Act.put,pB,pC,pD]
   refine tD 13 ⟨some 47,.call { callee:=Callee.value (Operand.func 104),args:=#[.tmp 46],argTypes:=#[21] }, 21,_,#[⟨12,.data⟩,⟨9,.chain⟩,⟨9,.guard⟩],some (9,true)⟩ rfl (HS.out _ HB3.out) ?_
   refine tD 14 ⟨some 48,.convert 21 3 (.tmp 47), 3,_,#[⟨13,.data⟩,⟨9,.guard⟩],some (9,true)⟩ rfl (HS.out _ HB3.out) ?_
   refine tD 15 ⟨some 49,.call { callee:=Callee.value (Operand.func 103),args:=#[.tmp 44,.tmp 48],argTypes:=#[99, 3] }, 4,_,#[⟨10,.data⟩,⟨14,.data⟩,⟨13,.chain⟩,⟨9,.guard⟩],some (9,true)⟩ rfl (HS.out _ HB3.out) ?_
   try simp only [Act.put,pB,pC,pD]
   refine tD 16 ⟨some 50,.pick (.tmp 43) (.tmp 49) (Operand.const (Value.bool false)), 4,_,#[⟨9,.data⟩,⟨15,.data⟩,⟨3,.guard⟩],some (3,false)⟩ rfl (HS.out _ HB3.out) ?_
   refine tC 17 ⟨some 51,.pick (.tmp 37) (Operand.const (Value.bool true)) (.tmp 50), 4,_,#[⟨3,.data⟩,⟨16,.data⟩],none⟩ ?v35 rfl ?y35 (HS.out _ HB3.out) ?r35; (case y35 => rintro w2 ⟨s1,s2,s3,s4,s5,s6,s7⟩; go_simp; try with_reducible rfl)
   refine tC 18 ⟨some 8,.assign (.tmp 51), 4,_,pa [⟨17,.data⟩,⟨15,.chain⟩] 18,none⟩ ?v36 rfl ?y36 (HS.out _ HB3.out) ?r36; (case y36 => rintro w2 ⟨s1,s2,s3,s4,s5,s6,s7⟩; go_simp; try with_reducible rfl)
   try simp only [Act.put,pB,pC,pD]
   refine wpAnyH_done (by kernel_rfl) ?_ _
   have n1:=(HST.out.next HB3.out).it.cell 1
   have n2:=(HST.out.next HB3.out).it.lt
   have HBE:=Lib.hid (HST.out.next HB3.out).below
   go_wp2_with fail
   go_ret
   exact ⟨by first | rfl | (cases ng <;> rfl) | (cases b2 <;> cases ng <;> rfl),HBE.out⟩
 | false =>
  rw [Bool.false_or]
  cases fo with
  | false =>
   rw [Bool.false_and,Bool.false_and]
   clear hH2 hz hIV hls hng hmn hmb hwh
   by_cases c1 : z < 1114112
   ·go_enter Tryz.func87, Tryz.ntmps87
    go_upto_region 6 with fail
    rw [← HW0.out]
    refine wp_region_held_drew (S:=(fun w' : World => w'.cell? ⟨w.heap.size,1,none⟩ = some (.bool false) ∧ w'.cell? ⟨w.heap.size + 1,0,none⟩ = some (.int .i64 91) ∧ w'.cell? ⟨w.heap.size + 1,1,none⟩ = some (.bool ng) ∧ w'.cell? ⟨w.heap.size + 1,2,none⟩ = some (.slice a m c) ∧ w'.cell? ⟨w.heap.size + 1,3,none⟩ = some (.int .i64 ls) ∧ w'.cell? ⟨w.heap.size + 1,4,none⟩ = some (.bool mn) ∧ w'.cell? ⟨w.heap.size + 1,5,none⟩ = some (.bool mb))) (by kernel_rfl) (HS.out _ (Below.refl _ W0).drew) (fun hS0 => ?_)
    refine tG 0 ⟨some 34,.load 99 (.tmp 4), 99,_,#[],none⟩ rfl hS0 ?_
    try simp only [Act.put,pB,pC,pD]
    refine tG 1 ⟨some 35,.move (.tmp 2), 3,_,#[],none⟩ rfl hS0 ?_
    try simp only [Act.put,pB,pC,pD]
    refine wpAnyH_ready (rs:=[2]) (by kernel_rfl) (by simp) (AllReadyH.cons (o:=⟨some 36,.call { callee:=Callee.value (Operand.func 103),args:=#[.tmp 34,.tmp 35],argTypes:=#[99, 3] }, 4, "ref.go:278",#[⟨0,.data⟩,⟨1,.data⟩],none⟩) rfl (fun K' hK => ?_) AllReadyH.nil)
    go_simp
    with_reducible refine (HH.out _ (Below.refl _ W0).drew).mono ?_
    rintro e w3 ⟨rfl,hb3⟩
    have HB3:=Lib.hid ((Below.refl W0.heap.size W0).drew.trans (hb3.mono (Nat.le_refl _)))
    clear hb3
    show K' _ _
    refine hK.out _ _ (HS.out _ HB3.out) (fun hSn => ?_)
    try simp only [Act.put,pB,pC,pD]
    clear hK K'
    refine tC 3 ⟨some 37,.move (.tmp 36), 4,_,#[⟨2,.data⟩,⟨2,.chain⟩],none⟩ ?v39 rfl ?y39 (HS.out _ HB3.out) ?r39; (case y39 => rintro w2 ⟨s1,s2,s3,s4,s5,s6,s7⟩; go_simp; try with_reducible rfl)
    refine tC 4 ⟨some 38,.fieldAddr 54 (.tmp 3) 1,0,_,#[⟨3,.guard⟩],some (3,false)⟩ ?v40 rfl ?y40 (HS.out _ HB3.out) ?r40; (case y40 => rintro w2 ⟨s1,s2,s3,s4,s5,s6,s7⟩; go_simp; try with_reducible rfl)
    refine tC 5 ⟨some 39,.load 4 (.tmp 38), 4,_,#[⟨4,.data⟩,⟨3,.guard⟩],some (3,false)⟩ ?v41 rfl ?y41 (HS.out _ HB3.out) ?r41; (case y41 => rintro w2 ⟨s1,s2,s3,s4,s5,s6,s7⟩; go_simp; try with_reducible rfl)
    try simp only [Act.put,pB,pC,pD]
    refine tC 6 ⟨some 40,.move (.tmp 39), 4,_,#[⟨5,.data⟩,⟨3,.chain⟩,⟨3,.guard⟩],some (3,false)⟩ ?v42 rfl ?y42 (HS.out _ HB3.out) ?r42; (case y42 => rintro w2 ⟨s1,s2,s3,s4,s5,s6,s7⟩; go_simp; try with_reducible rfl)
    refine tD 7 ⟨some 41,.move (.tmp 7), 4,_,#[⟨6,.guard⟩],some (6,true)⟩ rfl (HS.out _ HB3.out) ?_
    refine tC 8 ⟨some 42,.pick (.tmp 40) (.tmp 41) (Operand.const (Value.bool false)), 4,_,#[⟨6,.data⟩,⟨7,.data⟩,⟨3,.guard⟩],some (3,false)⟩ ?v44 rfl ?y44 (HS.out _ HB3.out) ?r44; (case y44 => rintro w2 ⟨s1,s2,s3,s4,s5,s6,s7⟩; go_simp; try with_reducible rfl)
    try simp only [Act.put,pB,pC,pD]
    refine tC 9 ⟨some 43,.move (.tmp 42), 4,_,#[⟨8,.data⟩,⟨6,.chain⟩,⟨3,.guard⟩],some (3,false)⟩ ?v45 rfl ?y45 (HS.out _ HB3.out) ?r45; (case y45 => rintro w2 ⟨s1,s2,s3,s4,s5,s6,s7⟩; go_simp; try with_reducible rfl)
    refine tD 10 ⟨some 44,.load 99 (.tmp 4), 99,_,#[⟨9,.guard⟩],some (9,true)⟩ rfl (HS.out _ HB3.out) ?_
    refine tD 11 ⟨some 45,.move (.tmp 2), 3,_,#[⟨9,.guard⟩],some (9,true)⟩ rfl (HS.out _ HB3.out) ?_
    try simp only [Act.put,pB,pC,pD]
    refine tD 12 ⟨some 46,.convert 3 21 (.tmp 45), 21,_,#[⟨11,.data⟩,⟨9,.guard⟩],some (9,true)⟩ rfl (HS.out _ HB3.out) ?_
    refine tD 13 ⟨some 47,.call { callee:=Callee.value (Operand.func 104),args:=#[.tmp 46],argTypes:=#[21] }, 21,_,#[⟨12,.data⟩,⟨9,.chain⟩,⟨9,.guard⟩],some (9,true)⟩ rfl (HS.out _ HB3.out) ?_
    refine tD 14 ⟨some 48,.convert 21 3 (.tmp 47), 3,_,#[⟨13,.data⟩,⟨9,.guard⟩],some (9,true)⟩ rfl (HS.out _ HB3.out) ?_
    try simp only [Act.put,pB,pC,pD]
    refine tD 15 ⟨some 49,.call { callee:=Callee.value (Operand.func 103),args:=#[.tmp 44,.tmp 48],argTypes:=#[99, 3] }, 4,_,#[⟨10,.data⟩,⟨14,.data⟩,⟨13,.chain⟩,⟨9,.guard⟩],some (9,true)⟩ rfl (HS.out _ HB3.out) ?_
    refine tC 16 ⟨some 50,.pick (.tmp 43) (.tmp 49) (Operand.const (Value.bool false)), 4,_,#[⟨9,.data⟩,⟨15,.data⟩,⟨3,.guard⟩],some (3,false)⟩ ?v52 rfl ?y52 (HS.out _ HB3.out) ?r52; (case y52 => rintro w2 ⟨s1,s2,s3,s4,s5,s6,s7⟩; go_simp; try with_reducible rfl)
    refine tC 17 ⟨some 51,.pick (.tmp 37) (Operand.const (Value.bool true)) (.tmp 50), 4,_,#[⟨3,.data⟩,⟨16,.data⟩],none⟩ ?v53 rfl ?y53 (HS.out _ HB3.out) ?r53; (case y53 => rintro w2 ⟨s1,s2,s3,s4,s5,s6,s7⟩; go_simp; try with_reducible rfl)
    try simp only [Act.put,pB,pC,pD]
    refine tC 18 ⟨some 8,.assign (.tmp 51), 4,_,pa [⟨17,.data⟩,⟨15,.chain⟩] 18,none⟩ ?v54 rfl ?y54 (HS.out _ HB3.out) ?r54; (case y54 => rintro w2 ⟨s1,s2,s3,s4,s5,s6,s7⟩; go_simp; try with_reducible rfl)
    try simp only [Act.put,pB,pC,pD]
    refine wpAnyH_done (by kernel_rfl) ?_ _
    have n1:=(HST.out.next HB3.out).it.cell 1
    have n2:=(HST.out.next HB3.out).it.lt
    have HBE:=Lib.hid (HST.out.next HB3.out).below
    go_wp2_with fail
    go_ret
    exact ⟨by first | rfl | (cases ng <;> rfl) | (cases b2 <;> cases ng <;> rfl),HBE.out⟩
   ·go_enter Tryz.func87, Tryz.ntmps87
    go_upto_region 6 with fail
    rw [← HW0.out]
    refine wp_region_held_drew (S:=(fun w' : World => w'.cell? ⟨w.heap.size,1,none⟩ = some (.bool false) ∧ w'.cell? ⟨w.heap.size + 1,0,none⟩ = some (.int .i64 91) ∧ w'.cell? ⟨w.heap.size + 1,1,none⟩ = some (.bool ng) ∧ w'.cell? ⟨w.heap.size + 1,2,none⟩ = some (.slice a m c) ∧ w'.cell? ⟨w.heap.size + 1,3,none⟩ = some (.int .i64 ls) ∧ w'.cell? ⟨w.heap.size + 1,4,none⟩ = some (.bool mn) ∧ w'.cell? ⟨w.heap.size + 1,5,none⟩ = some (.bool mb))) (by kernel_rfl) (HS.out _ (Below.refl _ W0).drew) (fun hS0 => ?_)
    refine tG 0 ⟨some 34,.load 99 (.tmp 4), 99,_,#[],none⟩ rfl hS0 ?_
    refine tG 1 ⟨some 35,.move (.tmp 2), 3,_,#[],none⟩ rfl hS0 ?_
    try simp only [Act.put,pB,pC,pD]
    refine wpAnyH_ready (rs:=[2]) (by kernel_rfl) (by simp) (AllReadyH.cons (o:=⟨some 36,.call { callee:=Callee.value (Operand.func 103),args:=#[.tmp 34,.tmp 35],argTypes:=#[99, 3] }, 4, "ref.go:278",#[⟨0,.data⟩,⟨1,.data⟩],none⟩) rfl (fun K' hK => ?_) AllReadyH.nil)
    go_simp
    with_reducible refine (HH.out _ (Below.refl _ W0).drew).mono ?_
    rintro e w3 ⟨rfl,hb3⟩
    have HB3:=Lib.hid ((Below.refl W0.heap.size W0).drew.trans (hb3.mono (Nat.le_refl _)))
    clear hb3
    show K' _ _
    refine hK.out _ _ (HS.out _ HB3.out) (fun hSn => ?_)
    try simp only [Act.put,pB,pC,pD]
    clear hK K'
    refine tC 3 ⟨some 37,.move (.tmp 36), 4,_,#[⟨2,.data⟩,⟨2,.chain⟩],none⟩ ?v57 rfl ?y57 (HS.out _ HB3.out) ?r57; (case y57 => rintro w2 ⟨s1,s2,s3,s4,s5,s6,s7⟩; go_simp; try with_reducible rfl)
    refine tC 4 ⟨some 38,.fieldAddr 54 (.tmp 3) 1,0,_,#[⟨3,.guard⟩],some (3,false)⟩ ?v58 rfl ?y58 (HS.out _ HB3.out) ?r58; (case y58 => rintro w2 ⟨s1,s2,s3,s4,s5,s6,s7⟩; go_simp; try with_reducible rfl)
    try simp only [Act.put,pB,pC,pD]
    refine tC 5 ⟨some 39,.load 4 (.tmp 38), 4,_,#[⟨4,.data⟩,⟨3,.guard⟩],some (3,false)⟩ ?v59 rfl ?y59 (HS.out _ HB3.out) ?r59; (case y59 => rintro w2 ⟨s1,s2,s3,s4,s5,s6,s7⟩; go_simp; try with_reducible rfl)
    refine tC 6 ⟨some 40,.move (.tmp 39), 4,_,#[⟨5,.data⟩,⟨3,.chain⟩,⟨3,.guard⟩],some (3,false)⟩ ?v60 rfl ?y60 (HS.out _ HB3.out) ?r60; (case y60 => rintro w2 ⟨s1,s2,s3,s4,s5,s6,s7⟩; go_simp; try with_reducible rfl)
    refine tD 7 ⟨some 41,.move (.tmp 7), 4,_,#[⟨6,.guard⟩],some (6,true)⟩ rfl (HS.out _ HB3.out) ?_
    try simp only [Act.put,pB,pC,pD]
    refine tC 8 ⟨some 42,.pick (.tmp 40) (.tmp 41) (Operand.const (Value.bool false)), 4,_,#[⟨6,.data⟩,⟨7,.data⟩,⟨3,.guard⟩],some (3,false)⟩ ?v62 rfl ?y62 (HS.out _ HB3.out) ?r62; (case y62 => rintro w2 ⟨s1,s2,s3,s4,s5,s6,s7⟩; go_simp; try with_reducible rfl)
    refine tC 9 ⟨some 43,.move (.tmp 42), 4,_,#[⟨8,.data⟩,⟨6,.chain⟩,⟨3,.guard⟩],some (3,false)⟩ ?v63 rfl ?y63 (HS.out _ HB3.out) ?r63; (case y63 => rintro w2 ⟨s1,s2,s3,s4,s5,s6,s7⟩; go_simp; try with_reducible rfl)
    refine tD 10 ⟨some 44,.load 99 (.tmp 4), 99,_,#[⟨9,.guard⟩],some (9,true)⟩ rfl (HS.out _ HB3.out) ?_
    try simp only [Act.put,pB,pC,pD]
    refine tD 11 ⟨some 45,.move (.tmp 2), 3,_,#[⟨9,.guard⟩],some (9,true)⟩ rfl (HS.out _ HB3.out) ?_
    refine tD 12 ⟨some 46,.convert 3 21 (.tmp 45), 21,_,#[⟨11,.data⟩,⟨9,.guard⟩],some (9,true)⟩ rfl (HS.out _ HB3.out) ?_
    refine tD 13 ⟨some 47,.call { callee:=Callee.value (Operand.func 104),args:=#[.tmp 46],argTypes:=#[21] }, 21,_,#[⟨12,.data⟩,⟨9,.chain⟩,⟨9,.guard⟩],some (9,true)⟩ rfl (HS.out _ HB3.out) ?_
    try simp only [Act.put,pB,pC,pD]
    refine tD 14 ⟨some 48,.convert 21 3 (.tmp 47), 3,_,#[⟨13,.data⟩,⟨9,.guard⟩],some (9,true)⟩ rfl (HS.out _ HB3.out) ?_
    refine tD 15 ⟨some 49,.call { callee:=Callee.value (Operand.func 103),args:=#[.tmp 44,.tmp 48],argTypes:=#[99, 3] }, 4,_,#[⟨10,.data⟩,⟨14,.data⟩,⟨13,.chain⟩,⟨9,.guard⟩],some (9,true)⟩ rfl (HS.out _ HB3.out) ?_
    refine tC 16 ⟨some 50,.pick (.tmp 43) (.tmp 49) (Operand.const (Value.bool false)), 4,_,#[⟨9,.data⟩,⟨15,.data⟩,⟨3,.guard⟩],some (3,false)⟩ ?v70 rfl ?y70 (HS.out _ HB3.out) ?r70; (case y70 => rintro w2 ⟨s1,s2,s3,s4,s5,s6,s7⟩; go_simp; try with_reducible rfl)
    try simp only [Act.put,pB,pC,pD]
    refine tC 17 ⟨some 51,.pick (.tmp 37) (Operand.const (Value.bool true)) (.tmp 50), 4,_,#[⟨3,.data⟩,⟨16,.data⟩],none⟩ ?v71 rfl ?y71 (HS.out _ HB3.out) ?r71; (case y71 => rintro w2 ⟨s1,s2,s3,s4,s5,s6,s7⟩; go_simp; try with_reducible rfl)
    refine tC 18 ⟨some 8,.assign (.tmp 51), 4,_,pa [⟨17,.data⟩,⟨15,.chain⟩] 18,none⟩ ?v72 rfl ?y72 (HS.out _ HB3.out) ?r72; (case y72 => rintro w2 ⟨s1,s2,s3,s4,s5,s6,s7⟩; go_simp; try with_reducible rfl)
    try simp only [Act.put,pB,pC,pD]
    refine wpAnyH_done (by kernel_rfl) ?_ _
    have n1:=(HST.out.next HB3.out).it.cell 1
    have n2:=(HST.out.next HB3.out).it.lt
    have HBE:=Lib.hid (HST.out.next HB3.out).below
    go_wp2_with fail
    go_ret
    exact ⟨by first | rfl | (cases ng <;> rfl) | (cases b2 <;> cases ng <;> rfl),HBE.out⟩
  | true =>
   rw [Bool.true_and]
   by_cases c1 : z < 1114112
   ·have hvw : v < wrongN:=by unfold wrongN; omega
    rw [decide_eq_true hvw,Bool.true_and]
    have hfl:=foldN_lt hvw
    have hfb : foldN v < 2000000:=by unfold wrongN at hfl; omega
    have HFO:=Lib.hid (fun W => hz ▸ foldR6 W v (by unfold wrongN at hvw; omega))
    obtain ⟨fz,hfz⟩ : ∃ z : Int,(foldN v : Int) = z:=⟨_,rfl⟩
    obtain ⟨b2,hb2⟩ : ∃ b,hasV it.els (foldN v) = b:=⟨_,rfl⟩
    have HH2 : Hid (∀ W,Below W0.heap.size W0 W → Calls Tryz.prog 103 #[.agg #[.int .i64 91,.bool ng,.slice a m c,.int .i64 ls,.bool mn,.bool mb],.int .i64 fz] W fun e w' => e = .returned (.bool b2) ∧ Below W.heap.size W w'):=Lib.hid (fun W hW => by
     have:=hH2 W (HST.out.next hW).below hfb
     rw [hfz,hb2] at this
     exact this)
    rw [hb2]
    rw [hfz] at HFO
    have hfz0 : 0 ≤ fz ∧ fz < 2000000:=by omega
    obtain ⟨hfz0,hfz1⟩:=hfz0
    have hw32 : IntKind.i32.wrap z = z:=IntWalk.i32_in _ (by omega)
    have hw64 : IntKind.i64.wrap fz = fz:=IntWalk.i64_in _ (by omega)
    clear hH2 hz hIV hls hng hmn hmb hwh hfl hfb hfz hb2 hvw
    go_enter Tryz.func87, Tryz.ntmps87
    go_upto_region 6 with fail
    rw [← HW0.out]
    refine wp_region_held_drew (S:=(fun w' : World => w'.cell? ⟨w.heap.size,1,none⟩ = some (.bool true) ∧ w'.cell? ⟨w.heap.size + 1,0,none⟩ = some (.int .i64 91) ∧ w'.cell? ⟨w.heap.size + 1,1,none⟩ = some (.bool ng) ∧ w'.cell? ⟨w.heap.size + 1,2,none⟩ = some (.slice a m c) ∧ w'.cell? ⟨w.heap.size + 1,3,none⟩ = some (.int .i64 ls) ∧ w'.cell? ⟨w.heap.size + 1,4,none⟩ = some (.bool mn) ∧ w'.cell? ⟨w.heap.size + 1,5,none⟩ = some (.bool mb))) (by kernel_rfl) (HS.out _ (Below.refl _ W0).drew) (fun hS0 => ?_)
    refine tG 0 ⟨some 34,.load 99 (.tmp 4), 99,_,#[],none⟩ rfl hS0 ?_
    refine tG 1 ⟨some 35,.move (.tmp 2), 3,_,#[],none⟩ rfl hS0 ?_
    try simp only [Act.put,pB,pC,pD]
    refine wpAnyH_ready (rs:=[2]) (by kernel_rfl) (by simp) (AllReadyH.cons (o:=⟨some 36,.call { callee:=Callee.value (Operand.func 103),args:=#[.tmp 34,.tmp 35],argTypes:=#[99, 3] }, 4, "ref.go:278",#[⟨0,.data⟩,⟨1,.data⟩],none⟩) rfl (fun K' hK => ?_) AllReadyH.nil)
    go_simp
    with_reducible refine (HH.out _ (Below.refl _ W0).drew).mono ?_
    rintro e w3 ⟨rfl,hb3⟩
    have HB3:=Lib.hid ((Below.refl W0.heap.size W0).drew.trans (hb3.mono (Nat.le_refl _)))
    clear hb3
    show K' _ _
    refine hK.out _ _ (HS.out _ HB3.out) (fun hSn => ?_)
    try simp only [Act.put,pB,pC,pD]
    clear hK K'
    refine tC 3 ⟨some 37,.move (.tmp 36), 4,_,#[⟨2,.data⟩,⟨2,.chain⟩],none⟩ ?v75 rfl ?y75 (HS.out _ HB3.out) ?r75; (case y75 => rintro w2 ⟨s1,s2,s3,s4,s5,s6,s7⟩; go_simp; try with_reducible rfl)
    try simp only [Act.put,pB,pC,pD]
    refine tC 4 ⟨some 38,.fieldAddr 54 (.tmp 3) 1,0,_,#[⟨3,.guard⟩],some (3,false)⟩ ?v76 rfl ?y76 (HS.out _ HB3.out) ?r76; (case y76 => rintro w2 ⟨s1,s2,s3,s4,s5,s6,s7⟩; go_simp; try with_reducible rfl)
    refine tC 5 ⟨some 39,.load 4 (.tmp 38), 4,_,#[⟨4,.data⟩,⟨3,.guard⟩],some (3,false)⟩ ?v77 rfl ?y77 (HS.out _ HB3.out) ?r77; (case y77 => rintro w2 ⟨s1,s2,s3,s4,s5,s6,s7⟩; go_simp; try with_reducible rfl)
    refine tC 6 ⟨some 40,.move (.tmp 39), 4,_,#[⟨5,.data⟩,⟨3,.chain⟩,⟨3,.guard⟩],some (3,false)⟩ ?v78 rfl ?y78 (HS.out _ HB3.out) ?r78; (case y78 => rintro w2 ⟨s1,s2,s3,s4,s5,s6,s7⟩; go_simp; try with_reducible rfl)
    try simp only [Act.put,pB,pC,pD]
    refine tC 7 ⟨some 41,.move (.tmp 7), 4,_,#[⟨6,.guard⟩],some (6,true)⟩ ?v79 rfl ?y79 (HS.out _ HB3.out) ?r79; (case y79 => rintro w2 ⟨s1,s2,s3,s4,s5,s6,s7⟩; go_simp; try with_reducible rfl)
    refine tC 8 ⟨some 42,.pick (.tmp 40) (.tmp 41) (Operand.const (Value.bool false)), 4,_,#[⟨6,.data⟩,⟨7,.data⟩,⟨3,.guard⟩],some (3,false)⟩ ?v80 rfl ?y80 (HS.out _ HB3.out) ?r80; (case y80 => rintro w2 ⟨s1,s2,s3,s4,s5,s6,s7⟩; go_simp; try with_reducible rfl)
    refine tC 9 ⟨some 43,.move (.tmp 42), 4,_,#[⟨8,.data⟩,⟨6,.chain⟩,⟨3,.guard⟩],some (3,false)⟩ ?v81 rfl ?y81 (HS.out _ HB3.out) ?r81; (case y81 => rintro w2 ⟨s1,s2,s3,s4,s5,s6,s7⟩; go_simp; try with_reducible rfl)
    try simp only [Act.put,pB,pC,pD]
    refine tC 10 ⟨some 44,.load 99 (.tmp 4), 99,_,#[⟨9,.guard⟩],some (9,true)⟩ ?v82 rfl ?y82 (HS.out _ HB3.out) ?r82; (case y82 => rintro w2 ⟨s1,s2,s3,s4,s5,s6,s7⟩; go_simp; try with_reducible rfl)
    refine tC 11 ⟨some 45,.move (.tmp 2), 3,_,#[⟨9,.guard⟩],some (9,true)⟩ ?v83 rfl ?y83 (HS.out _ HB3.out) ?r83; (case y83 => rintro w2 ⟨s1,s2,s3,s4,s5,s6,s7⟩; go_simp; try with_reducible rfl)
    refine tC 12 ⟨some 46,.convert 3 21 (.tmp 45), 21,_,#[⟨11,.data⟩,⟨9,.guard⟩],some (9,true)⟩ ?v84 rfl ?y84 (HS.out _ HB3.out) ?r84; (case y84 => rintro w2 ⟨s1,s2,s3,s4,s5,s6,s7⟩; go_simp; try with_reducible rfl)
    try simp only [Act.put,pB,pC,pD]
    refine wpAnyH_ready (rs:=[13]) (by kernel_rfl) (by simp) (AllReadyH.cons (o:=⟨some 47,.call { callee:=Callee.value (Operand.func 104),args:=#[.tmp 46],argTypes:=#[21] }, 21, "ref.go:278",#[⟨12,.data⟩,⟨9,.chain⟩,⟨9,.guard⟩],some (9,true)⟩) rfl (fun K' hK => ?_) AllReadyH.nil)
    go_simp
    with_reducible refine (HFO.out _).mono ?_
    rintro e w4 ⟨rfl,hb4⟩
    have HB4:=Lib.hid (HB3.out.trans (hb4.mono HB3.out.size))
    clear hb4
    show K' _ _
    refine hK.out _ _ (HS.out _ HB4.out) (fun hSn => ?_)
    try simp only [Act.put,pB,pC,pD]
    clear hK K'
    refine tC 14 ⟨some 48,.convert 21 3 (.tmp 47), 3,_,#[⟨13,.data⟩,⟨9,.guard⟩],some (9,true)⟩ ?v85 rfl ?y85 (HS.out _ HB4.out) ?r85; (case y85 => rintro w2 ⟨s1,s2,s3,s4,s5,s6,s7⟩; go_simp; try with_reducible rfl)
    try simp only [Act.put,pB,pC,pD]
    refine wpAnyH_ready (rs:=[15]) (by kernel_rfl) (by simp) (AllReadyH.cons (o:=⟨some 49,.call { callee:=Callee.value (Operand.func 103),args:=#[.tmp 44,.tmp 48],argTypes:=#[99, 3] }, 4, "ref.go:278",#[⟨10,.data⟩,⟨14,.data⟩,⟨13,.chain⟩,⟨9,.guard⟩],some (9,true)⟩) rfl (fun K' hK => ?_) AllReadyH.nil)
    go_simp
    with_reducible refine (HH2.out _ HB4.out).mono ?_
    rintro e w5 ⟨rfl,hb5⟩
    have HB5:=Lib.hid (HB4.out.trans (hb5.mono HB4.out.size))
    clear hb5
    show K' _ _
    refine hK.out _ _ (HS.out _ HB5.out) (fun hSn => ?_)
    try simp only [Act.put,pB,pC,pD]
    clear hK K'
    refine tC 16 ⟨some 50,.pick (.tmp 43) (.tmp 49) (Operand.const (Value.bool false)), 4,_,#[⟨9,.data⟩,⟨15,.data⟩,⟨3,.guard⟩],some (3,false)⟩ ?v86 rfl ?y86 (HS.out _ HB5.out) ?r86; (case y86 => rintro w2 ⟨s1,s2,s3,s4,s5,s6,s7⟩; go_simp; try with_reducible rfl)
    try simp only [Act.put,pB,pC,pD]
    refine tC 17 ⟨some 51,.pick (.tmp 37) (Operand.const (Value.bool true)) (.tmp 50), 4,_,#[⟨3,.data⟩,⟨16,.data⟩],none⟩ ?v87 rfl ?y87 (HS.out _ HB5.out) ?r87; (case y87 => rintro w2 ⟨s1,s2,s3,s4,s5,s6,s7⟩; go_simp; try with_reducible rfl)
    refine tC 18 ⟨some 8,.assign (.tmp 51), 4,_,pa [⟨17,.data⟩,⟨15,.chain⟩] 18,none⟩ ?v88 rfl ?y88 (HS.out _ HB5.out) ?r88; (case y88 => rintro w2 ⟨s1,s2,s3,s4,s5,s6,s7⟩; go_simp; try with_reducible rfl)
    try simp only [Act.put,pB,pC,pD]
    refine wpAnyH_done (by kernel_rfl) ?_ _
    have n1:=(HST.out.next HB5.out).it.cell 1
    have n2:=(HST.out.next HB5.out).it.lt
    have HBE:=Lib.hid (HST.out.next HB5.out).below
    go_wp2_with fail
    go_ret
    exact ⟨by first | rfl | (cases ng <;> rfl) | (cases b2 <;> cases ng <;> rfl),HBE.out⟩
   ·rw [decide_eq_false (show ¬ v < wrongN by unfold wrongN; omega),Bool.false_and]
    clear hH2 hz hIV hls hng hmn hmb hwh
    go_enter Tryz.func87, Tryz.ntmps87
    go_upto_region 6 with fail
    rw [← HW0.out]
    refine wp_region_held_drew (S:=(fun w' : World => w'.cell? ⟨w.heap.size,1,none⟩ = some (.bool true) ∧ w'.cell? ⟨w.heap.size + 1,0,none⟩ = some (.int .i64 91) ∧ w'.cell? ⟨w.heap.size + 1,1,none⟩ = some (.bool ng) ∧ w'.cell? ⟨w.heap.size + 1,2,none⟩ = some (.slice a m c) ∧ w'.cell? ⟨w.heap.size + 1,3,none⟩ = some (.int .i64 ls) ∧ w'.cell? ⟨w.heap.size + 1,4,none⟩ = some (.bool mn) ∧ w'.cell? ⟨w.heap.size + 1,5,none⟩ = some (.bool mb))) (by kernel_rfl) (HS.out _ (Below.refl _ W0).drew) (fun hS0 => ?_)
    refine tG 0 ⟨some 34,.load 99 (.tmp 4), 99,_,#[],none⟩ rfl hS0 ?_
    refine tG 1 ⟨some 35,.move (.tmp 2), 3,_,#[],none⟩ rfl hS0 ?_
    try simp only [Act.put,pB,pC,pD]
    refine wpAnyH_ready (rs:=[2]) (by kernel_rfl) (by simp) (AllReadyH.cons (o:=⟨some 36,.call { callee:=Callee.value (Operand.func 103),args:=#[.tmp 34,.tmp 35],argTypes:=#[99, 3] }, 4, "ref.go:278",#[⟨0,.data⟩,⟨1,.data⟩],none⟩) rfl (fun K' hK => ?_) AllReadyH.nil)
    go_simp
    with_reducible refine (HH.out _ (Below.refl _ W0).drew).mono ?_
    rintro e w3 ⟨rfl,hb3⟩
    have HB3:=Lib.hid ((Below.refl W0.heap.size W0).drew.trans (hb3.mono (Nat.le_refl _)))
    clear hb3
    show K' _ _
    refine hK.out _ _ (HS.out _ HB3.out) (fun hSn => ?_)
    try simp only [Act.put,pB,pC,pD]
    clear hK K'
    refine tC 3 ⟨some 37,.move (.tmp 36), 4,_,#[⟨2,.data⟩,⟨2,.chain⟩],none⟩ ?v91 rfl ?y91 (HS.out _ HB3.out) ?r91; (case y91 => rintro w2 ⟨s1,s2,s3,s4,s5,s6,s7⟩; go_simp; try with_reducible rfl)
    try simp only [Act.put,pB,pC,pD]
    refine tC 4 ⟨some 38,.fieldAddr 54 (.tmp 3) 1,0,_,#[⟨3,.guard⟩],some (3,false)⟩ ?v92 rfl ?y92 (HS.out _ HB3.out) ?r92; (case y92 => rintro w2 ⟨s1,s2,s3,s4,s5,s6,s7⟩; go_simp; try with_reducible rfl)
    refine tC 5 ⟨some 39,.load 4 (.tmp 38), 4,_,#[⟨4,.data⟩,⟨3,.guard⟩],some (3,false)⟩ ?v93 rfl ?y93 (HS.out _ HB3.out) ?r93; (case y93 => rintro w2 ⟨s1,s2,s3,s4,s5,s6,s7⟩; go_simp; try with_reducible rfl)
    refine tC 6 ⟨some 40,.move (.tmp 39), 4,_,#[⟨5,.data⟩,⟨3,.chain⟩,⟨3,.guard⟩],some (3,false)⟩ ?v94 rfl ?y94 (HS.out _ HB3.out) ?r94; (case y94 => rintro w2 ⟨s1,s2,s3,s4,s5,s6,s7⟩; go_simp; try with_reducible rfl)
    try simp only [Act.put,pB,pC,pD]
    refine tC 7 ⟨some 41,.move (.tmp 7), 4,_,#[⟨6,.guard⟩],some (6,true)⟩ ?v95 rfl ?y95 (HS.out _ HB3.out) ?r95; (case y95 => rintro w2 ⟨s1,s2,s3,s4,s5,s6,s7⟩; go_simp; try with_reducible rfl)
    refine tC 8 ⟨some 42,.pick (.tmp 40) (.tmp 41) (Operand.const (Value.bool false)), 4,_,#[⟨6,.data⟩,⟨7,.data⟩,⟨3,.guard⟩],some (3,false)⟩ ?v96 rfl ?y96 (HS.out _ HB3.out) ?r96; (case y96 => rintro w2 ⟨s1,s2,s3,s4,s5,s6,s7⟩; go_simp; try with_reducible rfl)
    refine tC 9 ⟨some 43,.move (.tmp 42), 4,_,#[⟨8,.data⟩,⟨6,.chain⟩,⟨3,.guard⟩],some (3,false)⟩ ?v97 rfl ?y97 (HS.out _ HB3.out) ?r97; (case y97 => rintro w2 ⟨s1,s2,s3,s4,s5,s6,s7⟩; go_simp; try with_reducible rfl)
    try simp only [Act.put,pB,pC,pD]
    refine tD 10 ⟨some 44,.load 99 (.tmp 4), 99,_,#[⟨9,.guard⟩],some (9,true)⟩ rfl (HS.out _ HB3.out) ?_
    refine tD 11 ⟨some 45,.move (.tmp 2), 3,_,#[⟨9,.guard⟩],some (9,true)⟩ rfl (HS.out _ HB3.out) ?_
    refine tD 12 ⟨some 46,.convert 3 21 (.tmp 45), 21,_,#[⟨11,.data⟩,⟨9,.guard⟩],some (9,true)⟩ rfl (HS.out _ HB3.out) ?_
    try simp only [Act.put,pB,pC,pD]
    refine tD 13 ⟨some 47,.call { callee:=Callee.value (Operand.func 104),args:=#[.tmp 46],argTypes:=#[21] }, 21,_,#[⟨12,.data⟩,⟨9,.chain⟩,⟨9,.guard⟩],some (9,true)⟩ rfl (HS.out _ HB3.out) ?_
    refine tD 14 ⟨some 48,.convert 21 3 (.tmp 47), 3,_,#[⟨13,.data⟩,⟨9,.guard⟩],some (9,true)⟩ rfl (HS.out _ HB3.out) ?_
    refine tD 15 ⟨some 49,.call { callee:=Callee.value (Operand.func 103),args:=#[.tmp 44,.tmp 48],argTypes:=#[99, 3] }, 4,_,#[⟨10,.data⟩,⟨14,.data⟩,⟨13,.chain⟩,⟨9,.guard⟩],some (9,true)⟩ rfl (HS.out _ HB3.out) ?_
    try simp only [Act.put,pB,pC,pD]
    refine tC 16 ⟨some 50,.pick (.tmp 43) (.tmp 49) (Operand.const (Value.bool false)), 4,_,#[⟨9,.data⟩,⟨15,.data⟩,⟨3,.guard⟩],some (3,false)⟩ ?v104 rfl ?y104 (HS.out _ HB3.out) ?r104; (case y104 => rintro w2 ⟨s1,s2,s3,s4,s5,s6,s7⟩; go_simp; try with_reducible rfl)
    refine tC 17 ⟨some 51,.pick (.tmp 37) (Operand.const (Value.bool true)) (.tmp 50), 4,_,#[⟨3,.data⟩,⟨16,.data⟩],none⟩ ?v105 rfl ?y105 (HS.out _ HB3.out) ?r105; (case y105 => rintro w2 ⟨s1,s2,s3,s4,s5,s6,s7⟩; go_simp; try with_reducible rfl)
    refine tC 18 ⟨some 8,.assign (.tmp 51), 4,_,pa [⟨17,.data⟩,⟨15,.chain⟩] 18,none⟩ ?v106 rfl ?y106 (HS.out _ HB3.out) ?r106; (case y106 => rintro w2 ⟨s1,s2,s3,s4,s5,s6,s7⟩; go_simp; try with_reducible rfl)
    try simp only [Act.put,pB,pC,pD]
    refine wpAnyH_done (by kernel_rfl) ?_ _
    have n1:=(HST.out.next HB3.out).it.cell 1
    have n2:=(HST.out.next HB3.out).it.lt
    have HBE:=Lib.hid (HST.out.next HB3.out).below
    go_wp2_with fail
    go_ret
    exact ⟨by first | rfl | (cases ng <;> rfl) | (cases b2 <;> cases ng <;> rfl),HBE.out⟩
end Go.Proofs.YtchdeboialbdiaaGreatDoor
