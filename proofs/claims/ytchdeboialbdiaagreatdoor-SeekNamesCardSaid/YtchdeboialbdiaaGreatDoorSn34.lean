/- Texts joined, one behind the other (SRefQ, SRefR). -/
import Derived.Test.YtchdeboialbdiaaGreatDoorSqy
import Derived.Test.YtchdeboialbdiaaGreatDoorSn33
namespace Go.Proofs.YtchdeboialbdiaaGreatDoor
set_option linter.unusedVariables false
set_option linter.unusedSimpArgs false
set_option maxHeartbeats 8000000
set_option maxRecDepth 100000
open Go.RowKit
open Go.Lib hiding intOf
theorem is_oneR (w : World) (lp : List UInt8) (fo : Bool) (aI : Option Addr) (mI cI : Nat) (it : Itm) (a : Option Addr) (m c : Nat) (v : Nat) (hr : ElRd w (.slice a m c) it.els) (hok : OkAt it) (hm : m ≤ 1000000) (hv : OkC v) (hw : it.what = 99) (x : El) (hx : it.els = [x]) : Calls Tryz.prog 87 #[.agg #[.string (bstr lp),.bool fo,.slice aI mI cI],itV (it,.slice a m c),.int .i64 (v : Int)] w fun e w' => e = .returned (.bool (atomIs fo it v)) ∧ Below w.heap.size w w':=by
 obtain ⟨wh,hwh⟩ : ∃ z : Int,(it.what : Int) = z:=⟨_,rfl⟩
 obtain ⟨ls,hls⟩ : ∃ z : Int,(it.least : Int) = z:=⟨_,rfl⟩
 obtain ⟨ng,hng⟩ : ∃ b,it.neg = b:=⟨_,rfl⟩
 obtain ⟨mn,hmn⟩ : ∃ b,it.many = b:=⟨_,rfl⟩
 obtain ⟨mb,hmb⟩ : ∃ b,maybeB it = b:=⟨_,rfl⟩
 have hIV : itV (it,.slice a m c) = .agg #[.int .i64 wh,.bool ng,.slice a m c,.int .i64 ls,.bool mn,.bool mb]:=by
  rw [← hwh,← hls,← hng,← hmn,← hmb]
  rfl
 obtain ⟨z,hz⟩ : ∃ z : Int,(v : Int) = z:=⟨_,rfl⟩
 have hvb : v < 2000000:=by unfold OkC wrongN at hv; omega
 have hml:=hr.len
 rw [hx] at hml
 obtain ⟨g,rfl,hg,hc⟩:=hr.at (i:=0) (x:=x) (by rw [hx]; rfl)
 have hxo : OkEl x:=hok.2 x (by rw [hx]; exact List.mem_singleton.2 rfl)
 have hin:=fun W => inR6 W x v hxo hvb
 simp only [hz] at hin
 rw [hIV,hz]
 obtain rfl : wh = 99:=by omega
 have hm1 : m = 1:=hml
 subst hm1
 obtain ⟨T,hT⟩ : ∃ T,atomIs fo it v = T:=⟨_,rfl⟩
 rw [hT]
 have hst:=is_start w [.string (bstr lp),.bool fo,.slice aI mI cI] [.int .i64 99,.bool ng,.slice (some ⟨g,0,none⟩) 1 c,.int .i64 ls,.bool mn,.bool mb]
 obtain ⟨W0,hW0⟩ : ∃ W,W = (w.alloc (.cells #[.string (bstr lp),.bool fo,.slice aI mI cI] 54)).alloc (.cells #[.int .i64 99,.bool ng,.slice (some ⟨g,0,none⟩) 1 c,.int .i64 ls,.bool mn,.bool mb] 99):=⟨_,rfl⟩
 have hst2 : IsW w W0 [.string (bstr lp),.bool fo,.slice aI mI cI] [.int .i64 99,.bool ng,.slice (some ⟨g,0,none⟩) 1 c,.int .i64 ls,.bool mn,.bool mb]:=by rw [hW0]; exact hst
 have HST:=Lib.hid hst2
 have HW0:=Lib.hid hW0
 have p1 : W0.cell? ⟨w.heap.size,1,none⟩ = some (.bool fo):=hst2.pat.cell 1
 have pl:=hst2.pat.lt
 have i0 : W0.cell? ⟨w.heap.size + 1,0,none⟩ = some (.int .i64 99):=hst2.it.cell 0
 have i1 : W0.cell? ⟨w.heap.size + 1,1,none⟩ = some (.bool ng):=hst2.it.cell 1
 have i2 : W0.cell? ⟨w.heap.size + 1,2,none⟩ = some (.slice (some ⟨g,0,none⟩) 1 c):=hst2.it.cell 2
 have i3 : W0.cell? ⟨w.heap.size + 1,3,none⟩ = some (.int .i64 ls):=hst2.it.cell 3
 have i4 : W0.cell? ⟨w.heap.size + 1,4,none⟩ = some (.bool mn):=hst2.it.cell 4
 have i5 : W0.cell? ⟨w.heap.size + 1,5,none⟩ = some (.bool mb):=hst2.it.cell 5
 have il:=hst2.it.lt
 clear hst hst2 hW0
 have hz0 : 0 ≤ z ∧ z < 2000000:=by omega
 obtain ⟨hz0,hz1⟩:=hz0
 have hgl : g < W0.heap.size:=Nat.lt_of_lt_of_le hg HST.out.below.size
 have hce : ∀ (k : Nat) (u : Value),(elCells x)[k]? = some u → W0.cell? ⟨g,k,none⟩ = some u:=fun k u hu => by
  rw [HST.out.below.cell (p:=⟨g,k,none⟩) hg]
  have:=hc k u hu
  rwa [Nat.zero_mul,Nat.zero_add] at this
 clear hr hok hg hc hml
 cases x with
 | kind k =>
  rw [is_one hw hx (fun lo hi e => by cases e)] at hT
  have e0 : W0.cell? ⟨g,0,none⟩ = some (.int .i64 (k : Int)):=hce 0 _ rfl
  have e1 : W0.cell? ⟨g,1,none⟩ = some (.int .i64 0):=hce 1 _ rfl
  have e2 : W0.cell? ⟨g,2,none⟩ = some (.int .i64 0):=hce 2 _ rfl
  rw [hT] at hin
  have hk0 : ((k : Int) == 0) = false:=by rw [beq_eq_false_iff_ne]; rcases hxo with h | h | h | h <;> omega
  have HIN : Hid (∀ W,Calls Tryz.prog 105 #[.agg #[.int .i64 (k : Int),.int .i64 0,.int .i64 0],.int .i64 z] W fun e w' => e = .returned (.bool T) ∧ Below W.heap.size W w'):=Lib.hid hin
  have HB1 : Hid (Below w.heap.size w (W0.alloc (.cells #[.int .i64 (k : Int),.int .i64 0,.int .i64 0] 129))):=Lib.hid (HST.out.below.alloc HST.out.below.size _)
  clear hin
  clear hxo hce hT hx hw hz hIV hls hng hmn hmb hwh
  cases fo with
  | false =>
   by_cases c1 : z < 1114112
   ·go_enter Tryz.func87, Tryz.ntmps87
    go_upto_region 1 with fail
    rw [← HW0.out]
    go_wp2_with (go_at_call 105; refine (HIN.out _).mono ?_; rintro e w1 ⟨rfl,hb1⟩; have HB2:=Lib.hid (HB1.out.trans (hb1.mono HB1.out.size)); clear hb1)
    go_ret
    exact ⟨rfl,HB2.out⟩
   ·go_enter Tryz.func87, Tryz.ntmps87
    go_upto_region 1 with fail
    rw [← HW0.out]
    go_wp2_with (go_at_call 105; refine (HIN.out _).mono ?_; rintro e w1 ⟨rfl,hb1⟩; have HB2:=Lib.hid (HB1.out.trans (hb1.mono HB1.out.size)); clear hb1)
    go_ret
    exact ⟨rfl,HB2.out⟩
  | true =>
   by_cases c1 : z < 1114112
   ·go_enter Tryz.func87, Tryz.ntmps87
    go_upto_region 1 with fail
    rw [← HW0.out]
    go_wp2_with (go_at_call 105; refine (HIN.out _).mono ?_; rintro e w1 ⟨rfl,hb1⟩; have HB2:=Lib.hid (HB1.out.trans (hb1.mono HB1.out.size)); clear hb1)
    go_ret
    exact ⟨rfl,HB2.out⟩
   ·go_enter Tryz.func87, Tryz.ntmps87
    go_upto_region 1 with fail
    rw [← HW0.out]
    go_wp2_with (go_at_call 105; refine (HIN.out _).mono ?_; rintro e w1 ⟨rfl,hb1⟩; have HB2:=Lib.hid (HB1.out.trans (hb1.mono HB1.out.size)); clear hb1)
    go_ret
    exact ⟨rfl,HB2.out⟩
 | rng lo hi =>
  obtain ⟨lz,hlz⟩ : ∃ z : Int,(lo : Int) = z:=⟨_,rfl⟩
  obtain ⟨uz,huz⟩ : ∃ z : Int,(hi : Int) = z:=⟨_,rfl⟩
  have e0 : W0.cell? ⟨g,0,none⟩ = some (.int .i64 0):=hce 0 _ rfl
  have e1 : W0.cell? ⟨g,1,none⟩ = some (.int .i64 (lo : Int)):=hce 1 _ rfl
  have e2 : W0.cell? ⟨g,2,none⟩ = some (.int .i64 (hi : Int)):=hce 2 _ rfl
  rw [hlz] at e1
  rw [huz] at e2
  have hxl:=hxo.1
  have hlz0 : 0 ≤ lz ∧ lz < 2000000:=by omega
  obtain ⟨hlz0,hlz1⟩:=hlz0
  by_cases hcond : fo = true ∧ lo < wrongN
  ·obtain ⟨rfl,hlw⟩:=hcond
   rw [is_fold hw hx ⟨rfl,hlw⟩] at hT
   have hl2 : lz < 1114112:=by unfold wrongN at hlw; omega
   have HF2:=Lib.hid (fun W => hlz ▸ foldR6 W lo (by unfold wrongN at hlw; omega))
   obtain ⟨W1,hW1⟩ : ∃ W,W = W0.alloc (.cells #[.int .i64 0,.int .i64 lz,.int .i64 uz] 129):=⟨_,rfl⟩
   have hb1 : Below w.heap.size w W1:=by rw [hW1]; exact HST.out.below.alloc HST.out.below.size _
   have hr1 : Row W1 W0.heap.size 129 [.int .i64 0,.int .i64 lz,.int .i64 uz]:=by rw [hW1]; exact row_new W0 [.int .i64 0,.int .i64 lz,.int .i64 uz] _
   have HS : Hid (∀ W,Below W1.heap.size W1 W → W.cell? ⟨W0.heap.size,1,none⟩ = some (.int .i64 lz)):=Lib.hid (fun W hW => (hr1.keep hW hr1.lt).cell 1)
   have HB1:=Lib.hid hb1
   have HW1:=Lib.hid hW1
   have hw32l : IntKind.i32.wrap lz = lz:=IntWalk.i32_in _ (by omega)
   have hw32 : IntKind.i32.wrap z = z:=IntWalk.i32_in _ (by omega)
   obtain ⟨fl,hfl⟩ : ∃ z : Int,(foldN lo : Int) = z:=⟨_,rfl⟩
   rw [hfl] at HF2
   clear hb1 hr1 hW1 hxo hxl hce hx hw hIV hls hng hmn hmb hwh hin
   by_cases c1 : z < 1114112
   ·have hvw : v < wrongN:=by unfold wrongN; omega
    have HF1:=Lib.hid (fun W => hz ▸ foldR6 W v (by unfold wrongN at hvw; omega))
    obtain ⟨fv,hfv⟩ : ∃ z : Int,(foldN v : Int) = z:=⟨_,rfl⟩
    rw [hfv] at HF1
    rw [decide_eq_true hvw,Bool.true_and] at hT
    obtain ⟨bq,hbq⟩ : ∃ b,(fv == fl) = b:=⟨_,rfl⟩
    have HQ : Hid (T = bq):=Lib.hid (by
     rw [← hT,← hbq,Bool.eq_iff_iff,decide_eq_true_iff,beq_iff_eq]
     omega)
    clear hT hz hlz huz hlw hvw hfl hfv
    go_enter Tryz.func87, Tryz.ntmps87
    go_upto_region 1 with fail
    rw [← HW0.out]
    go_upto_region 10 with fail
    rw [← HW1.out]
    refine wp_region_held_drew (S:=(fun w' : World => w'.cell? ⟨W0.heap.size,1,none⟩ = some (.int .i64 lz))) (by kernel_rfl) (HS.out _ (Below.refl _ W1).drew) (fun hS0 => ?_)
    refine tE 0 ⟨some 72,.move (.tmp 7), 4,_,#[],none⟩ rfl hS0 ?_
    refine tE 1 ⟨some 73,.move (.tmp 72), 4,_,#[⟨0,.data⟩],none⟩ rfl hS0 ?_
    refine tE 2 ⟨some 74,.move (.tmp 2), 3,_,#[⟨1,.guard⟩],some (1,true)⟩ rfl hS0 ?_
    try simp only [Act.put,pB,pC,pD]
    refine tE 3 ⟨some 75,.convert 3 21 (.tmp 74), 21,_,#[⟨2,.data⟩,⟨1,.guard⟩],some (1,true)⟩ rfl hS0 ?_
    refine tE 5 ⟨some 77,.fieldAddr 129 (.tmp 9) 1,0,_,#[⟨1,.guard⟩],some (1,true)⟩ rfl hS0 ?_
    refine tE 6 ⟨some 78,.load 3 (.tmp 77), 3,_,#[⟨5,.data⟩,⟨1,.guard⟩],some (1,true)⟩ rfl hS0 ?_
    try simp only [Act.put,pB,pC,pD]
    refine tE 7 ⟨some 79,.convert 3 21 (.tmp 78), 21,_,#[⟨6,.data⟩,⟨1,.guard⟩],some (1,true)⟩ rfl hS0 ?_
    try simp only [Act.put,pB,pC,pD]
    refine wpAnyH_ready (rs:=[4]) (by kernel_rfl) (by simp) (AllReadyH.cons (o:=⟨some 76,.call { callee:=Callee.value (Operand.func 104),args:=#[.tmp 75],argTypes:=#[21] }, 21, "ref.go:283",#[⟨3,.data⟩,⟨1,.chain⟩,⟨1,.guard⟩],some (1,true)⟩) rfl (fun K' hK => ?_) AllReadyH.nil)
    go_simp
    with_reducible refine (HF1.out _).mono ?_
    rintro e wa ⟨rfl,hbwa⟩
    have Bwa:=Lib.hid (((Below.refl W1.heap.size W1).drew).trans (hbwa.mono (((Below.refl W1.heap.size W1).drew)).size))
    clear hbwa
    show K' _ _
    refine hK.out _ _ (HS.out _ Bwa.out) (fun hSn => ?_)
    try simp only [Act.put,pB,pC,pD]
    clear hK K'
    refine wpAnyH_ready (rs:=[8]) (by kernel_rfl) (by simp) (AllReadyH.cons (o:=⟨some 80,.call { callee:=Callee.value (Operand.func 104),args:=#[.tmp 79],argTypes:=#[21] }, 21, "ref.go:283",#[⟨7,.data⟩,⟨4,.chain⟩,⟨1,.guard⟩],some (1,true)⟩) rfl (fun K' hK => ?_) AllReadyH.nil)
    go_simp
    with_reducible refine (HF2.out _).mono ?_
    rintro e wb ⟨rfl,hbwb⟩
    have Bwb:=Lib.hid (Bwa.out.trans (hbwb.mono (Bwa.out).size))
    clear hbwb
    show K' _ _
    refine hK.out _ _ (HS.out _ Bwb.out) (fun hSn => ?_)
    try simp only [Act.put,pB,pC,pD]
    clear hK K'
    refine tC 9 ⟨some 81,.binOp BinOp.eql 21 (.tmp 76) (.tmp 80) 21, 4,_,#[⟨4,.data⟩,⟨8,.data⟩,⟨1,.guard⟩],some (1,true)⟩ ?v8 rfl ?y8 (HS.out _ Bwb.out) ?r8; (case y8 => rintro w2 s1; go_simp; try with_reducible rfl)
    refine tC 10 ⟨some 82,.pick (.tmp 73) (.tmp 81) (Operand.const (Value.bool false)), 4,_,#[⟨1,.data⟩,⟨9,.data⟩],none⟩ ?v9 rfl ?y9 (HS.out _ Bwb.out) ?r9; (case y9 => rintro w2 s1; go_simp; try with_reducible rfl)
    refine tC 11 ⟨some 6,.assign (.tmp 82), 4,_,pa [⟨10,.data⟩,⟨8,.chain⟩] 11,none⟩ ?v10 rfl ?y10 (HS.out _ Bwb.out) ?r10; (case y10 => rintro w2 s1; go_simp; try with_reducible rfl)
    try simp only [Act.put,pB,pC,pD]
    refine wpAnyH_done (by kernel_rfl) ?_ _
    go_wp2_with fail
    go_ret
    exact ⟨by rw [HQ.out]; first | rfl | (cases bq <;> rfl),HB1.out.trans (Bwb.out.mono HB1.out.size)⟩
   ·have hvw : ¬ v < wrongN:=by unfold wrongN; omega
    rw [decide_eq_false hvw,Bool.false_and] at hT
    subst hT
    clear hz hlz huz hlw hvw hfl
    go_enter Tryz.func87, Tryz.ntmps87
    go_upto_region 1 with fail
    rw [← HW0.out]
    go_upto_region 10 with fail
    rw [← HW1.out]
    refine wp_region_held_drew (S:=(fun w' : World => w'.cell? ⟨W0.heap.size,1,none⟩ = some (.int .i64 lz))) (by kernel_rfl) (HS.out _ (Below.refl _ W1).drew) (fun hS0 => ?_)
    refine tE 0 ⟨some 72,.move (.tmp 7), 4,_,#[],none⟩ rfl hS0 ?_
    try simp only [Act.put,pB,pC,pD]
    refine tE 1 ⟨some 73,.move (.tmp 72), 4,_,#[⟨0,.data⟩],none⟩ rfl hS0 ?_
    refine tD 2 ⟨some 74,.move (.tmp 2), 3,_,#[⟨1,.guard⟩],some (1,true)⟩ rfl hS0 ?_
    refine tD 3 ⟨some 75,.convert 3 21 (.tmp 74), 21,_,#[⟨2,.data⟩,⟨1,.guard⟩],some (1,true)⟩ rfl hS0 ?_
    try simp only [Act.put,pB,pC,pD]
    refine tD 4 ⟨some 76,.call { callee:=Callee.value (Operand.func 104),args:=#[.tmp 75],argTypes:=#[21] }, 21,_,#[⟨3,.data⟩,⟨1,.chain⟩,⟨1,.guard⟩],some (1,true)⟩ rfl hS0 ?_
    refine tD 5 ⟨some 77,.fieldAddr 129 (.tmp 9) 1,0,_,#[⟨1,.guard⟩],some (1,true)⟩ rfl hS0 ?_
    refine tD 6 ⟨some 78,.load 3 (.tmp 77), 3,_,#[⟨5,.data⟩,⟨1,.guard⟩],some (1,true)⟩ rfl hS0 ?_
    try simp only [Act.put,pB,pC,pD]
    refine tD 7 ⟨some 79,.convert 3 21 (.tmp 78), 21,_,#[⟨6,.data⟩,⟨1,.guard⟩],some (1,true)⟩ rfl hS0 ?_
    refine tD 8 ⟨some 80,.call { callee:=Callee.value (Operand.func 104),args:=#[.tmp 79],argTypes:=#[21] }, 21,_,#[⟨7,.data⟩,⟨4,.chain⟩,⟨1,.guard⟩],some (1,true)⟩ rfl hS0 ?_
    refine tD 9 ⟨some 81,.binOp BinOp.eql 21 (.tmp 76) (.tmp 80) 21, 4,_,#[⟨4,.data⟩,⟨8,.data⟩,⟨1,.guard⟩],some (1,true)⟩ rfl hS0 ?_
    try simp only [Act.put,pB,pC,pD]
    refine tE 10 ⟨some 82,.pick (.tmp 73) (.tmp 81) (Operand.const (Value.bool false)), 4,_,#[⟨1,.data⟩,⟨9,.data⟩],none⟩ rfl hS0 ?_
    refine tE 11 ⟨some 6,.assign (.tmp 82), 4,_,pa [⟨10,.data⟩,⟨8,.chain⟩] 11,none⟩ rfl hS0 ?_
    try simp only [Act.put,pB,pC,pD]
    refine wpAnyH_done (by kernel_rfl) ?_ _
    go_wp2_with fail
    go_ret
    exact ⟨rfl,(HB1.out).drew⟩
  ·rw [is_one hw hx (fun lo2 hi2 e => by cases e; exact hcond)] at hT
   rw [hT] at hin
   have hin2 : ∀ W,Calls Tryz.prog 105 #[.agg #[.int .i64 0,.int .i64 lz,.int .i64 uz],.int .i64 z] W fun e w' => e = .returned (.bool T) ∧ Below W.heap.size W w':=fun W => by
    have:=hin W
    simp only [elCells,hlz,huz] at this
    exact this
   clear hin
   have hin:=hin2
   clear hin2
   have HIN : Hid (∀ W,Calls Tryz.prog 105 #[.agg #[.int .i64 0,.int .i64 lz,.int .i64 uz],.int .i64 z] W fun e w' => e = .returned (.bool T) ∧ Below W.heap.size W w'):=Lib.hid hin
   have HB1 : Hid (Below w.heap.size w (W0.alloc (.cells #[.int .i64 0,.int .i64 lz,.int .i64 uz] 129))):=Lib.hid (HST.out.below.alloc HST.out.below.size _)
   clear hin
   cases fo with
   | false =>
    clear hcond hT hxo hxl hce hx hw hz hIV hls hng hmn hmb hwh hlz huz
    by_cases c1 : z < 1114112
    ·go_enter Tryz.func87, Tryz.ntmps87
     go_upto_region 1 with fail
     rw [← HW0.out]
     go_wp2_with (go_at_call 105; refine (HIN.out _).mono ?_; rintro e w1 ⟨rfl,hb1⟩; have HB2:=Lib.hid (HB1.out.trans (hb1.mono HB1.out.size)); clear hb1)
     go_ret
     exact ⟨rfl,HB2.out⟩
    ·go_enter Tryz.func87, Tryz.ntmps87
     go_upto_region 1 with fail
     rw [← HW0.out]
     go_wp2_with (go_at_call 105; refine (HIN.out _).mono ?_; rintro e w1 ⟨rfl,hb1⟩; have HB2:=Lib.hid (HB1.out.trans (hb1.mono HB1.out.size)); clear hb1)
     go_ret
     exact ⟨rfl,HB2.out⟩
   | true =>
    have hl2 : ¬ lz < 1114112:=by
     intro h
     exact hcond ⟨rfl,by unfold wrongN; omega⟩
    clear hcond hT hxo hxl hce hx hw hz hIV hls hng hmn hmb hwh hlz huz
    by_cases c1 : z < 1114112
    ·go_enter Tryz.func87, Tryz.ntmps87
     go_upto_region 1 with fail
     rw [← HW0.out]
     go_wp2_with (go_at_call 105; refine (HIN.out _).mono ?_; rintro e w1 ⟨rfl,hb1⟩; have HB2:=Lib.hid (HB1.out.trans (hb1.mono HB1.out.size)); clear hb1)
     go_ret
     exact ⟨rfl,HB2.out⟩
    ·go_enter Tryz.func87, Tryz.ntmps87
     go_upto_region 1 with fail
     rw [← HW0.out]
     go_wp2_with (go_at_call 105; refine (HIN.out _).mono ?_; rintro e w1 ⟨rfl,hb1⟩; have HB2:=Lib.hid (HB1.out.trans (hb1.mono HB1.out.size)); clear hb1)
     go_ret
     exact ⟨rfl,HB2.out⟩
theorem isR6 (w : World) (lp : List UInt8) (fo : Bool) (aI : Option Addr) (mI cI : Nat) (it : Itm) (a : Option Addr) (m c : Nat) (v : Nat) (hr : ElRd w (.slice a m c) it.els) (hok : OkAt it) (hm : m ≤ 1000000) (hv : OkC v) : Calls Tryz.prog 87 #[.agg #[.string (bstr lp),.bool fo,.slice aI mI cI],itV (it,.slice a m c),.int .i64 (v : Int)] w fun e w' => e = .returned (.bool (atomIs fo it v)) ∧ Below w.heap.size w w':=by
 rcases hok.1 with h | h | ⟨h,x,hx⟩
 ·exact is_dotR w lp fo aI mI cI it a m c v hr hok hm hv h
 ·exact is_setR w lp fo aI mI cI it a m c v hr hok hm hv h
 ·exact is_oneR w lp fo aI mI cI it a m c v hr hok hm hv h x hx
def txV (g1 c1 g2 c2 n : Nat) : Value:=.agg #[.slice (some ⟨g1,0,none⟩) n c1,.slice (some ⟨g2,0,none⟩) (n + 1) c2]
def endsE (V : List Nat) (i : Nat) : Bool:=endsAt V i && !(decide (V[i]? = some 10) && decide (0 < i) && decide (V[i - 1]? = some 13))
theorem endsE_ten {V : List Nat} {i : Nat} (h : V[i]? = some 10) : endsE V i = !(decide (0 < i) && decide (V[i - 1]? = some 13)):=by
 unfold endsE
 rw [endsAt_some h,decide_eq_true h,Bool.true_and]
 rfl
theorem endsE_else {V : List Nat} {i v : Nat} (h : V[i]? = some v) (hv : v ≠ 10) : endsE V i = (decide (v < wrongN) && endsB v):=by
 unfold endsE
 rw [endsAt_some h,decide_eq_false (show ¬ V[i]? = some 10 by rw [h]; intro e; exact hv (Option.some.inj e)),Bool.false_and,Bool.false_and,Bool.not_false,Bool.and_true]
theorem endsTR6 (w : World) (g1 c1 g2 c2 n : Nat) (V : List Nat) (i : Nat) (hn : V.length = n) (hI : IntsAt w g1 (toZ V ++ [-1])) (hV : OkV V) (hi : i < n) (hnb : n ≤ 67108864) :
  Calls Tryz.prog 101 #[txV g1 c1 g2 c2 n,.int .i64 (i : Int)] w fun e w' => e = .returned (.bool (endsE V i)) ∧ Below w.heap.size w w':=by
 unfold txV
 obtain ⟨v,hv⟩ : ∃ v,V[i]? = some v:=⟨_,List.getElem?_eq_getElem (by rw [hn]; exact hi)⟩
 have hb0 : Below w.heap.size w (w.alloc (.cells #[.slice (some ⟨g1,0,none⟩) n c1,.slice (some ⟨g2,0,none⟩) (n + 1) c2] 106)):=(Below.refl _ w).alloc (Nat.le_refl _) _
 have hrow : Row (w.alloc (.cells #[.slice (some ⟨g1,0,none⟩) n c1,.slice (some ⟨g2,0,none⟩) (n + 1) c2] 106)) w.heap.size 106 [.slice (some ⟨g1,0,none⟩) n c1,.slice (some ⟨g2,0,none⟩) (n + 1) c2]:=row_new w [.slice (some ⟨g1,0,none⟩) n c1,.slice (some ⟨g2,0,none⟩) (n + 1) c2] _
 obtain ⟨W0,hW0⟩ : ∃ W,W = w.alloc (.cells #[.slice (some ⟨g1,0,none⟩) n c1,.slice (some ⟨g2,0,none⟩) (n + 1) c2] 106):=⟨_,rfl⟩
 rw [← hW0] at hb0 hrow
 have hI0:=hI.keep hb0 (Nat.le_refl _)
 have hcell:=hI0.v (i:=i) (by omega)
 rw [vI_some hv] at hcell
 have b0:=hrow.cell 0
 have bl:=hrow.lt
 have hvo:=hV v (List.mem_of_getElem? hv)
 obtain ⟨z,hz⟩ : ∃ z : Int,(v : Int) = z:=⟨_,rfl⟩
 rw [hz] at hcell
 have hzb : 0 ≤ z ∧ z < 2000000:=by unfold wrongN at hvo; omega
 obtain ⟨hz0,hz1⟩:=hzb
 have hii : (i : Int) < (n : Int):=by omega
 have HB0:=Lib.hid hb0
 have HW0:=Lib.hid hW0
 have HI0:=Lib.hid hI0
 have HV:=Lib.hid hV
 have HN:=Lib.hid hn
 clear hI hV hn hb0 hrow hW0 hI0 hvo
 by_cases h10 : z = 10
 ·obtain rfl : v = 10:=by omega
  rw [endsE_ten hv]
  subst h10
  clear hz
  by_cases hi0 : i = 0
  ·subst hi0
   clear hv
   go_enter Tryz.func101, Tryz.ntmps101
   go_upto_region 1 with fail
   rw [← HW0.out]
   go_wp2_with fail
   go_ret
   exact ⟨rfl,HB0.out⟩
  ·obtain ⟨j,rfl⟩ : ∃ j,i = j + 1:=⟨i - 1,by omega⟩
   rw [decide_eq_true (Nat.succ_pos j),Bool.true_and,Nat.add_sub_cancel]
   have hc2:=HI0.out.v (i:=j) (by rw [HN.out]; omega)
   obtain ⟨z2,hz2⟩ : ∃ z,vI V j = z:=⟨_,rfl⟩
   rw [hz2] at hc2
   have hjj : (j : Int) < (n : Int):=by omega
   have hj0 : (((j + 1 : Nat) : Int) == 0) = false:=by rw [beq_eq_false_iff_ne]; omega
   have hj1 : ((j + 1 : Nat) : Int) - 1 = (j : Int):=by omega
   by_cases h13 : z2 = 13
   ·rw [decide_eq_true (vI_eq (hz2.trans h13))]
    have q : (z2 != 13) = false:=by simp [h13]
    clear hz2 h13 hv hi0
    go_enter Tryz.func101, Tryz.ntmps101
    go_upto_region 1 with fail
    rw [← HW0.out]
    go_wp2_with fail
    go_ret
    exact ⟨rfl,HB0.out⟩
   ·rw [decide_eq_false (fun h => h13 (hz2.symm.trans (vI_some h)))]
    have q : (z2 != 13) = true:=by simp [h13]
    clear hz2 h13 hv hi0
    go_enter Tryz.func101, Tryz.ntmps101
    go_upto_region 1 with fail
    rw [← HW0.out]
    go_wp2_with fail
    go_ret
    exact ⟨rfl,HB0.out⟩
 ·rw [endsE_else hv (by omega)]
  have q10 : (z == 10) = false:=by rw [beq_eq_false_iff_ne]; exact h10
  have q10' : (z != 10) = true:=by simp [h10]
  by_cases h13 : z = 13
  ·obtain rfl : v = 13:=by omega
   subst h13
   clear hv hz h10
   go_enter Tryz.func101, Tryz.ntmps101
   go_upto_region 1 with fail
   rw [← HW0.out]
   go_wp2_with fail
   go_ret
   exact ⟨rfl,HB0.out⟩
  ·have q13 : (z == 13) = false:=by rw [beq_eq_false_iff_ne]; exact h13
   have HE:=Lib.hid (fun W => hz ▸ endsR6 W v)
   obtain ⟨be,hbe⟩ : ∃ b,endsB v = b:=⟨_,rfl⟩
   rw [hbe] at HE ⊢
   by_cases hlt : z < 1114112
   ·rw [decide_eq_true (show v < wrongN by unfold wrongN; omega),Bool.true_and]
    clear hv hz hbe h10 h13
    go_enter Tryz.func101, Tryz.ntmps101
    go_upto_region 1 with fail
    rw [← HW0.out]
    go_wp2_with (go_at_call 102; refine (HE.out _).mono ?_; rintro e w1 ⟨rfl,rfl⟩)
    go_ret
    exact ⟨rfl,HB0.out⟩
   ·rw [decide_eq_false (show ¬ v < wrongN by unfold wrongN; omega),Bool.false_and]
    clear hv hz hbe h10 h13
    go_enter Tryz.func101, Tryz.ntmps101
    go_upto_region 1 with fail
    rw [← HW0.out]
    go_wp2_with fail
    go_ret
    exact ⟨rfl,HB0.out⟩
theorem holds_dollar (V : List Nat) (i : Nat) : holdsP V 36 i = (decide (V.length ≤ i) || endsE V i):=rfl
theorem holds_hat (V : List Nat) (i : Nat) : holdsP V 94 i = (decide (i = 0) || (endsAt V (i - 1) && !(decide (V[i - 1]? = some 13) && decide (V[i]? = some 10)))):=rfl
theorem holdsR6 (w : World) (g1 c1 g2 c2 n : Nat) (V : List Nat) (what i : Nat) (hn : V.length = n) (hI : IntsAt w g1 (toZ V ++ [-1])) (hV : OkV V) (hi : i ≤ n) (hnb : n ≤ 67108864) (hwh : what = 94 ∨ what = 36) :
  Calls Tryz.prog 86 #[txV g1 c1 g2 c2 n,.int .i64 (what : Int),.int .i64 (i : Int)] w fun e w' => e = .returned (.bool (holdsP V what i)) ∧ Below w.heap.size w w':=by
 have hEn:=fun W (h : IntsAt W g1 (toZ V ++ [-1])) (hl : i < n) => endsTR6 W g1 c1 g2 c2 n V i hn h hV hl hnb
 unfold txV at hEn ⊢
 have hb0 : Below w.heap.size w (w.alloc (.cells #[.slice (some ⟨g1,0,none⟩) n c1,.slice (some ⟨g2,0,none⟩) (n + 1) c2] 106)):=(Below.refl _ w).alloc (Nat.le_refl _) _
 have hrow : Row (w.alloc (.cells #[.slice (some ⟨g1,0,none⟩) n c1,.slice (some ⟨g2,0,none⟩) (n + 1) c2] 106)) w.heap.size 106 [.slice (some ⟨g1,0,none⟩) n c1,.slice (some ⟨g2,0,none⟩) (n + 1) c2]:=row_new w [.slice (some ⟨g1,0,none⟩) n c1,.slice (some ⟨g2,0,none⟩) (n + 1) c2] _
 obtain ⟨W0,hW0⟩ : ∃ W,W = w.alloc (.cells #[.slice (some ⟨g1,0,none⟩) n c1,.slice (some ⟨g2,0,none⟩) (n + 1) c2] 106):=⟨_,rfl⟩
 rw [← hW0] at hb0 hrow
 have hI0:=hI.keep hb0 (Nat.le_refl _)
 have b0:=hrow.cell 0
 have b1:=hrow.cell 1
 have bl:=hrow.lt
 have HB0:=Lib.hid hb0
 have HW0:=Lib.hid hW0
 have HI0:=Lib.hid hI0
 have HV:=Lib.hid hV
 have HN:=Lib.hid hn
 have HEn:=Lib.hid hEn
 clear hI hV hn hb0 hrow hW0 hI0 hEn
 rcases hwh with rfl | rfl
 ·rw [holds_hat]
  by_cases hi0 : i = 0
  ·subst hi0
   go_enter Tryz.func86, Tryz.ntmps86
   go_upto_region 1 with fail
   rw [← HW0.out]
   go_wp2_with fail
   go_ret
   exact ⟨rfl,HB0.out⟩
  obtain ⟨j,rfl⟩ : ∃ j,i = j + 1:=⟨i - 1,by omega⟩
  rw [decide_eq_false hi0,Bool.false_or,Nat.add_sub_cancel]
  obtain ⟨v,hv⟩ : ∃ v,V[j]? = some v:=⟨_,List.getElem?_eq_getElem (by rw [HN.out]; omega)⟩
  rw [endsAt_some hv]
  have hcell:=HI0.out.v (i:=j) (by rw [HN.out]; omega)
  rw [vI_some hv] at hcell
  have hvo:=HV.out v (List.mem_of_getElem? hv)
  obtain ⟨z,hz⟩ : ∃ z : Int,(v : Int) = z:=⟨_,rfl⟩
  rw [hz] at hcell
  have hzb : 0 ≤ z ∧ z < 2000000:=by unfold wrongN at hvo; omega
  obtain ⟨hz0,hz1⟩:=hzb
  have hjj : (j : Int) < (n : Int):=by omega
  have hj0 : (((j + 1 : Nat) : Int) == 0) = false:=by rw [beq_eq_false_iff_ne]; omega
  have hj1 : ((j + 1 : Nat) : Int) - 1 = (j : Int):=by omega
  clear hi0 hvo
  by_cases h10 : z = 10
  ·obtain rfl : v = 10:=by omega
   rw [decide_eq_false (show ¬ V[j]? = some 13 by rw [hv]; intro e; cases e),Bool.false_and]
   subst h10
   clear hv hz
   go_enter Tryz.func86, Tryz.ntmps86
   go_upto_region 1 with fail
   rw [← HW0.out]
   go_wp2_with fail
   go_ret
   exact ⟨rfl,HB0.out⟩
  have q10 : (z == 10) = false:=by rw [beq_eq_false_iff_ne]; exact h10
  by_cases h13 : z = 13
  ·obtain rfl : v = 13:=by omega
   rw [decide_eq_true hv,Bool.true_and]
   subst h13
   have hc2:=HI0.out.v (i:=j + 1) (by rw [HN.out]; omega)
   obtain ⟨z2,hz2⟩ : ∃ z,vI V (j + 1) = z:=⟨_,rfl⟩
   rw [hz2] at hc2
   by_cases hend : j + 1 = n
   ·have hq : ((j : Int) + 1 == (n : Int)) = true:=by rw [beq_iff_eq]; omega
    rw [decide_eq_false (show ¬ V[j + 1]? = some 10 by rw [List.getElem?_eq_none (by rw [HN.out]; omega)]; intro e; cases e)]
    clear hv hz hz2 h10 hend
    go_enter Tryz.func86, Tryz.ntmps86
    go_upto_region 1 with fail
    rw [← HW0.out]
    go_wp2_with fail
    go_ret
    exact ⟨rfl,HB0.out⟩
   ·have hq : ((j : Int) + 1 == (n : Int)) = false:=by rw [beq_eq_false_iff_ne]; omega
    have hjj2 : ((j + 1 : Nat) : Int) < (n : Int):=by omega
    have hjj3 : (j : Int) + 1 < (n : Int):=by omega
    by_cases h2 : z2 = 10
    ·rw [decide_eq_true (vI_eq (hz2.trans h2))]
     have q : (z2 != 10) = false:=by simp [h2]
     clear hv hz hz2 h10 hend h2
     go_enter Tryz.func86, Tryz.ntmps86
     go_upto_region 1 with fail
     rw [← HW0.out]
     go_wp2_with fail
     go_ret
     exact ⟨rfl,HB0.out⟩
    ·rw [decide_eq_false (fun h => h2 (hz2.symm.trans (vI_some h)))]
     have q : (z2 != 10) = true:=by simp [h2]
     clear hv hz hz2 h10 hend h2
     go_enter Tryz.func86, Tryz.ntmps86
     go_upto_region 1 with fail
     rw [← HW0.out]
     go_wp2_with fail
     go_ret
     exact ⟨rfl,HB0.out⟩
  have q13 : (z == 13) = false:=by rw [beq_eq_false_iff_ne]; exact h13
  have q13' : (z != 13) = true:=by simp [h13]
  rw [decide_eq_false (show ¬ V[j]? = some 13 by rw [hv]; intro e; have:=Option.some.inj e; omega),Bool.false_and,Bool.not_false,Bool.and_true]
  have HE:=Lib.hid (fun W => hz ▸ endsR6 W v)
  obtain ⟨be,hbe⟩ : ∃ b,endsB v = b:=⟨_,rfl⟩
  rw [hbe] at HE ⊢
  by_cases hlt : z < 1114112
  ·rw [decide_eq_true (show v < wrongN by unfold wrongN; omega),Bool.true_and]
   clear hv hz hbe h10 h13
   go_enter Tryz.func86, Tryz.ntmps86
   go_upto_region 1 with fail
   rw [← HW0.out]
   go_wp2_with (go_at_call 102; refine (HE.out _).mono ?_; rintro e w1 ⟨rfl,rfl⟩)
   go_ret
   exact ⟨rfl,HB0.out⟩
  ·rw [decide_eq_false (show ¬ v < wrongN by unfold wrongN; omega),Bool.false_and]
   clear hv hz hbe h10 h13
   go_enter Tryz.func86, Tryz.ntmps86
   go_upto_region 1 with fail
   rw [← HW0.out]
   go_wp2_with fail
   go_ret
   exact ⟨rfl,HB0.out⟩
 ·rw [holds_dollar,HN.out]
  by_cases hend : i = n
  ·rw [decide_eq_true (by omega),Bool.true_or]
   have hq : ((i : Int) == (n : Int)) = true:=by rw [beq_iff_eq]; omega
   clear hend
   go_enter Tryz.func86, Tryz.ntmps86
   go_upto_region 1 with fail
   rw [← HW0.out]
   go_wp2_with fail
   go_ret
   exact ⟨rfl,HB0.out⟩
  ·rw [decide_eq_false (by omega),Bool.false_or]
   have hq : ((i : Int) == (n : Int)) = false:=by rw [beq_eq_false_iff_ne]; omega
   have HC:=Lib.hid (HEn.out W0 HI0.out (by omega))
   obtain ⟨b,hb⟩ : ∃ b,endsE V i = b:=⟨_,rfl⟩
   rw [hb] at HC ⊢
   clear hend hb
   go_enter Tryz.func86, Tryz.ntmps86
   go_upto_region 1 with fail
   rw [← HW0.out]
   go_wp2_with (go_at_call 101; refine (HC.out).mono ?_; rintro e w1 ⟨rfl,hb1⟩; have HB1:=Lib.hid (HB0.out.trans (hb1.mono HB0.out.size)); clear hb1)
   go_ret
   exact ⟨rfl,HB1.out⟩
end Go.Proofs.YtchdeboialbdiaaGreatDoor
