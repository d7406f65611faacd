/- Texts joined, one behind the other (SSetB). -/
import Derived.Test.YtchdeboialbdiaaGreatDoorSqy
import Derived.Test.YtchdeboialbdiaaGreatDoorSn11
import Derived.Deep.RegionHeld3
namespace Go.Proofs.YtchdeboialbdiaaGreatDoor
set_option linter.unusedVariables false
set_option linter.unusedSimpArgs false
set_option maxHeartbeats 8000000
set_option maxRecDepth 100000
open Go.RowKit
open Go.Lib hiding intOf
def setHas (fo neg : Bool) (P : Nat → Bool) (v : Nat) : Bool:=(P v || (fo && decide (v < wrongN) && P (foldN v))) != neg
theorem set3C (w : World) (K : Nat → Prop) (g1 g2 g3 : Nat) (f : Value) (fo neg : Bool) (P : Nat → Bool) (h1 : Row w g1 118 [f]) (h2 : Row w g2 4 [.bool fo]) (h3 : Row w g3 4 [.bool neg]) (hf : FunAt K w f P) (v : Nat) (hv : OkC v) : Calls Tryz.prog 75 #[tokV v,.pointer (some ⟨g1,0,none⟩),.pointer (some ⟨g2,0,none⟩),.pointer (some ⟨g3,0,none⟩)] w fun e w' => e = .returned (.bool (setHas fo neg P v)) ∧ Below w.heap.size w w':=by
 obtain ⟨gf,cs,rfl⟩:=hf.shape
 obtain ⟨x,y,htv,hx,hy⟩ : ∃ x y : Int,tokV v = .agg #[.int .i32 x,.int .i64 y] ∧ (tokR v : Int) = x ∧ (tokW v : Int) = y:=⟨_,_,rfl,rfl,rfl⟩
 rw [htv]
 obtain ⟨_,g',cs',hshape,hent,hcall⟩:=hf
 obtain ⟨rfl,rfl⟩ : g' = gf ∧ cs' = cs:=by
  simp only [Value.func.injEq,Fn.func.injEq] at hshape
  exact ⟨hshape.1.symm,hshape.2.2.symm⟩
 obtain ⟨w1,hw1⟩ : ∃ w1,w1 = w.alloc (.cells #[.int .i32 x,.int .i64 y] 91):=⟨_,rfl⟩
 have hb1 : Below w.heap.size w w1:=by rw [hw1]; exact (Below.refl _ w).alloc (Nat.le_refl _) _
 have hbox : Row w1 w.heap.size 91 [.int .i32 x,.int .i64 y]:=by rw [hw1]; exact row_new w [.int .i32 x,.int .i64 y] 91
 have hS : ∀ W,Below w1.heap.size w1 W → W.cell? ⟨g1,0,none⟩ = some (.func (.func g') #[] cs') ∧ W.cell? ⟨g2,0,none⟩ = some (.bool fo) ∧ W.cell? ⟨w.heap.size,0,none⟩ = some (.int .i32 x) ∧ W.cell? ⟨w.heap.size,1,none⟩ = some (.int .i64 y):=fun W hW => by
  have hl:=hb1.size
  have r1:=(h1.keep hb1 h1.lt).keep hW (Nat.lt_of_lt_of_le h1.lt hl)
  have r2:=(h2.keep hb1 h2.lt).keep hW (Nat.lt_of_lt_of_le h2.lt hl)
  have r3:=hbox.keep hW hbox.lt
  exact ⟨r1.cell 0,r2.cell 0,r3.cell 0,r3.cell 1⟩
 have hC : ∀ W,Below w1.heap.size w1 W → ∀ u,OkC u → Calls Tryz.prog g' (#[tokV u] ++ cs') W fun e w' => e = .returned (.bool (P u)) ∧ Below W.heap.size W w':=fun W hW u hu => by
  have hl:=hb1.size
  exact hcall W (fun k hk => by
   have hkl:=‹∀ k,K k → k < w.heap.size› k hk
   rw [hW.block k (Nat.lt_of_lt_of_le hkl hl),hb1.block k hkl]) (Nat.le_trans hl hW.size) u hu
 have hq0 : Below w1.heap.size w1 w1.drew:=Quiet.below ⟨1,rfl⟩ _
 have hneg : ∀ W,Below w1.heap.size w1 W → W.cell? ⟨g3,0,none⟩ = some (.bool neg) ∧ Below w.heap.size w W:=fun W hW => by
  have hl:=hb1.size
  exact ⟨((h3.keep hb1 h3.lt).keep hW (Nat.lt_of_lt_of_le h3.lt hl)).cell 0,hb1.trans (hW.mono hl)⟩
 have HS:=Lib.hid hS
 have HC:=Lib.hid hC
 have HN:=Lib.hid hneg
 clear hcall hS hC hneg h1 h2 h3 hshape hbox
 unfold setHas
 obtain ⟨b1,hP1⟩ : ∃ b,P v = b:=⟨_,rfl⟩
 rw [hP1]
 have HC1 : Hid (∀ W,Below w1.heap.size w1 W → Calls Tryz.prog g' (#[.agg #[.int .i32 x,.int .i64 y]] ++ cs') W fun e w' => e = .returned (.bool b1) ∧ Below W.heap.size W w'):=Lib.hid (fun W hW => by
  have:=HC.out W hW v hv
  rwa [hP1,htv] at this)
 have hs0:=HS.out _ hq0
 have HW1:=Lib.hid hw1
 clear hw1
 cases b1 with
 | true =>
  clear hv hx hy hP1 htv
  go_enter Tryz.func75, Tryz.ntmps75
  go_wp2_with fail
  rw [← HW1.out]
  refine wp_region_held_drew (S:=(fun w' : World => w'.cell? ⟨g1,0,none⟩ = some (.func (.func g') #[] cs') ∧ w'.cell? ⟨g2,0,none⟩ = some (.bool fo) ∧ w'.cell? ⟨w.heap.size,0,none⟩ = some (.int .i32 x) ∧ w'.cell? ⟨w.heap.size,1,none⟩ = some (.int .i64 y))) (by kernel_rfl) hs0 (fun hS0 => ?_)
  refine tF 0 ⟨some 7,.load 118 (.tmp 1), 118,_,#[],none⟩ rfl hS0 ?_
  refine tF 1 ⟨some 8,.load 91 (.tmp 4), 91,_,#[],none⟩ rfl hS0 ?_
  try simp only [Act.put,pB,pC,pD]
  refine wpAnyH_ready (rs:=[2]) (by kernel_rfl) (by simp) (AllReadyH.cons rfl (fun K' hK => ?_) AllReadyH.nil)
  go_simp
  refine (HC1.out _ hq0).mono ?_
  rintro e w9 ⟨rfl,hb9⟩
  show K' _ _
  refine hK.out _ _ (HS.out _ (below_next hq0 (Nat.le_refl _) hb9)) (fun hSn => ?_)
  try simp only [Act.put,pB,pC,pD]
  clear hK K'
  have hq9:=below_next hq0 (Nat.le_refl _) hb9
  clear hb9
  refine tC 3 ⟨some 10,.move (.tmp 9), 4,_,#[⟨2,.data⟩,⟨2,.chain⟩],none⟩ ?v3 rfl ?y3 (HS.out _ hq9) ?r3; (case y3 => rintro w2 ⟨s1,s2,s3,s4⟩; go_simp; try with_reducible rfl)
  refine tD 4 ⟨some 11,.load 4 (.tmp 2), 4,_,#[⟨3,.guard⟩],some (3,false)⟩ rfl (HS.out _ hq9) ?_
  try simp only [Act.put,pB,pC,pD]
  refine tD 5 ⟨some 12,.move (.tmp 11), 4,_,#[⟨4,.data⟩,⟨3,.chain⟩,⟨3,.guard⟩],some (3,false)⟩ rfl (HS.out _ hq9) ?_
  refine tD 6 ⟨some 13,.fieldAddr 91 (.tmp 4) 1,0,_,#[⟨5,.guard⟩],some (5,true)⟩ rfl (HS.out _ hq9) ?_
  refine tD 7 ⟨some 14,.load 3 (.tmp 13), 3,_,#[⟨6,.data⟩,⟨5,.guard⟩],some (5,true)⟩ rfl (HS.out _ hq9) ?_
  try simp only [Act.put,pB,pC,pD]
  refine tD 8 ⟨some 15,.binOp BinOp.eql 3 (.tmp 14) (Operand.const (Value.int IntKind.i64 0)) 3, 4,_,#[⟨7,.data⟩,⟨5,.guard⟩],some (5,true)⟩ rfl (HS.out _ hq9) ?_
  refine tD 9 ⟨some 16,.pick (.tmp 12) (.tmp 15) (Operand.const (Value.bool false)), 4,_,#[⟨5,.data⟩,⟨8,.data⟩,⟨3,.guard⟩],some (3,false)⟩ rfl (HS.out _ hq9) ?_
  refine tD 10 ⟨some 17,.move (.tmp 16), 4,_,#[⟨9,.data⟩,⟨5,.chain⟩,⟨3,.guard⟩],some (3,false)⟩ rfl (HS.out _ hq9) ?_
  try simp only [Act.put,pB,pC,pD]
  refine tD 11 ⟨some 18,.load 118 (.tmp 1), 118,_,#[⟨10,.guard⟩],some (10,true)⟩ rfl (HS.out _ hq9) ?_
  refine tD 12 ⟨some 19,.fieldAddr 91 (.tmp 4) 0,0,_,#[⟨10,.guard⟩],some (10,true)⟩ rfl (HS.out _ hq9) ?_
  refine tD 13 ⟨some 20,.load 21 (.tmp 19), 21,_,#[⟨12,.data⟩,⟨10,.guard⟩],some (10,true)⟩ rfl (HS.out _ hq9) ?_
  try simp only [Act.put,pB,pC,pD]
  refine tD 14 ⟨some 21,.call { callee:=Callee.value (Operand.func 76),args:=#[.tmp 20],argTypes:=#[21] }, 21,_,#[⟨13,.data⟩,⟨10,.chain⟩,⟨10,.guard⟩],some (10,true)⟩ rfl (HS.out _ hq9) ?_
  refine tD 15 ⟨some 22,.build 91 #[(0,.tmp 21)], 91,_,#[⟨14,.data⟩,⟨10,.guard⟩],some (10,true)⟩ rfl (HS.out _ hq9) ?_
  refine tD 16 ⟨some 23,.call { callee:=Callee.value (.tmp 18),args:=#[.tmp 22],argTypes:=#[91] }, 4,_,#[⟨11,.data⟩,⟨15,.data⟩,⟨14,.chain⟩,⟨10,.guard⟩],some (10,true)⟩ rfl (HS.out _ hq9) ?_
  try simp only [Act.put,pB,pC,pD]
  refine tD 17 ⟨some 24,.pick (.tmp 17) (.tmp 23) (Operand.const (Value.bool false)), 4,_,#[⟨10,.data⟩,⟨16,.data⟩,⟨3,.guard⟩],some (3,false)⟩ rfl (HS.out _ hq9) ?_
  refine tC 18 ⟨some 25,.pick (.tmp 10) (Operand.const (Value.bool true)) (.tmp 24), 4,_,#[⟨3,.data⟩,⟨17,.data⟩],none⟩ ?v18 rfl ?y18 (HS.out _ hq9) ?r18; (case y18 => rintro w2 ⟨s1,s2,s3,s4⟩; go_simp; try with_reducible rfl)
  refine tC 19 ⟨some 6,.assign (.tmp 25), 4,_,pa [⟨18,.data⟩,⟨16,.chain⟩] 19,none⟩ ?v19 rfl ?y19 (HS.out _ hq9) ?r19; (case y19 => rintro w2 ⟨s1,s2,s3,s4⟩; go_simp; try with_reducible rfl)
  try simp only [Act.put,pB,pC,pD]
  refine wpAnyH_done (by kernel_rfl) ?_ _
  obtain ⟨hng,hbe⟩:=HN.out _ hq9
  have HBE:=Lib.hid hbe
  clear hbe
  go_wp2_with fail
  go_ret
  refine ⟨?_,HBE.out⟩
  cases neg <;> (first | rfl | (cases b2 <;> rfl) | (cases fo <;> rfl))
 | false =>
  cases fo with
  | false =>
   clear hv hx hy hP1 htv
   go_enter Tryz.func75, Tryz.ntmps75
   go_wp2_with fail
   rw [← HW1.out]
   refine wp_region_held_drew (S:=(fun w' : World => w'.cell? ⟨g1,0,none⟩ = some (.func (.func g') #[] cs') ∧ w'.cell? ⟨g2,0,none⟩ = some (.bool false) ∧ w'.cell? ⟨w.heap.size,0,none⟩ = some (.int .i32 x) ∧ w'.cell? ⟨w.heap.size,1,none⟩ = some (.int .i64 y))) (by kernel_rfl) hs0 (fun hS0 => ?_)
   refine tF 0 ⟨some 7,.load 118 (.tmp 1), 118,_,#[],none⟩ rfl hS0 ?_
   try simp only [Act.put,pB,pC,pD]
   refine tF 1 ⟨some 8,.load 91 (.tmp 4), 91,_,#[],none⟩ rfl hS0 ?_
   try simp only [Act.put,pB,pC,pD]
   refine wpAnyH_ready (rs:=[2]) (by kernel_rfl) (by simp) (AllReadyH.cons rfl (fun K' hK => ?_) AllReadyH.nil)
   go_simp
   refine (HC1.out _ hq0).mono ?_
   rintro e w9 ⟨rfl,hb9⟩
   show K' _ _
   refine hK.out _ _ (HS.out _ (below_next hq0 (Nat.le_refl _) hb9)) (fun hSn => ?_)
   try simp only [Act.put,pB,pC,pD]
   clear hK K'
   have hq9:=below_next hq0 (Nat.le_refl _) hb9
   clear hb9
   refine tC 3 ⟨some 10,.move (.tmp 9), 4,_,#[⟨2,.data⟩,⟨2,.chain⟩],none⟩ ?v22 rfl ?y22 (HS.out _ hq9) ?r22; (case y22 => rintro w2 ⟨s1,s2,s3,s4⟩; go_simp; try with_reducible rfl)
   refine tC 4 ⟨some 11,.load 4 (.tmp 2), 4,_,#[⟨3,.guard⟩],some (3,false)⟩ ?v23 rfl ?y23 (HS.out _ hq9) ?r23; (case y23 => rintro w2 ⟨s1,s2,s3,s4⟩; go_simp; try with_reducible rfl)
   refine tC 5 ⟨some 12,.move (.tmp 11), 4,_,#[⟨4,.data⟩,⟨3,.chain⟩,⟨3,.guard⟩],some (3,false)⟩ ?v24 rfl ?y24 (HS.out _ hq9) ?r24; (case y24 => rintro w2 ⟨s1,s2,s3,s4⟩; go_simp; try with_reducible rfl)
   try simp only [Act.put,pB,pC,pD]
   refine tD 6 ⟨some 13,.fieldAddr 91 (.tmp 4) 1,0,_,#[⟨5,.guard⟩],some (5,true)⟩ rfl (HS.out _ hq9) ?_
   refine tD 7 ⟨some 14,.load 3 (.tmp 13), 3,_,#[⟨6,.data⟩,⟨5,.guard⟩],some (5,true)⟩ rfl (HS.out _ hq9) ?_
   refine tD 8 ⟨some 15,.binOp BinOp.eql 3 (.tmp 14) (Operand.const (Value.int IntKind.i64 0)) 3, 4,_,#[⟨7,.data⟩,⟨5,.guard⟩],some (5,true)⟩ rfl (HS.out _ hq9) ?_
   try simp only [Act.put,pB,pC,pD]
   refine tC 9 ⟨some 16,.pick (.tmp 12) (.tmp 15) (Operand.const (Value.bool false)), 4,_,#[⟨5,.data⟩,⟨8,.data⟩,⟨3,.guard⟩],some (3,false)⟩ ?v28 rfl ?y28 (HS.out _ hq9) ?r28; (case y28 => rintro w2 ⟨s1,s2,s3,s4⟩; go_simp; try with_reducible rfl)
   refine tC 10 ⟨some 17,.move (.tmp 16), 4,_,#[⟨9,.data⟩,⟨5,.chain⟩,⟨3,.guard⟩],some (3,false)⟩ ?v29 rfl ?y29 (HS.out _ hq9) ?r29; (case y29 => rintro w2 ⟨s1,s2,s3,s4⟩; go_simp; try with_reducible rfl)
   refine tD 11 ⟨some 18,.load 118 (.tmp 1), 118,_,#[⟨10,.guard⟩],some (10,true)⟩ rfl (HS.out _ hq9) ?_
   try simp only [Act.put,pB,pC,pD]
   refine tD 12 ⟨some 19,.fieldAddr 91 (.tmp 4) 0,0,_,#[⟨10,.guard⟩],some (10,true)⟩ rfl (HS.out _ hq9) ?_
   refine tD 13 ⟨some 20,.load 21 (.tmp 19), 21,_,#[⟨12,.data⟩,⟨10,.guard⟩],some (10,true)⟩ rfl (HS.out _ hq9) ?_
   refine tD 14 ⟨some 21,.call { callee:=Callee.value (Operand.func 76),args:=#[.tmp 20],argTypes:=#[21] }, 21,_,#[⟨13,.data⟩,⟨10,.chain⟩,⟨10,.guard⟩],some (10,true)⟩ rfl (HS.out _ hq9) ?_
   try simp only [Act.put,pB,pC,pD]
   refine tD 15 ⟨some 22,.build 91 #[(0,.tmp 21)], 91,_,#[⟨14,.data⟩,⟨10,.guard⟩],some (10,true)⟩ rfl (HS.out _ hq9) ?_
   refine tD 16 ⟨some 23,.call { callee:=Callee.value (.tmp 18),args:=#[.tmp 22],argTypes:=#[91] }, 4,_,#[⟨11,.data⟩,⟨15,.data⟩,⟨14,.chain⟩,⟨10,.guard⟩],some (10,true)⟩ rfl (HS.out _ hq9) ?_
   refine tC 17 ⟨some 24,.pick (.tmp 17) (.tmp 23) (Operand.const (Value.bool false)), 4,_,#[⟨10,.data⟩,⟨16,.data⟩,⟨3,.guard⟩],some (3,false)⟩ ?v36 rfl ?y36 (HS.out _ hq9) ?r36; (case y36 => rintro w2 ⟨s1,s2,s3,s4⟩; go_simp; try with_reducible rfl)
   try simp only [Act.put,pB,pC,pD]
   refine tC 18 ⟨some 25,.pick (.tmp 10) (Operand.const (Value.bool true)) (.tmp 24), 4,_,#[⟨3,.data⟩,⟨17,.data⟩],none⟩ ?v37 rfl ?y37 (HS.out _ hq9) ?r37; (case y37 => rintro w2 ⟨s1,s2,s3,s4⟩; go_simp; try with_reducible rfl)
   refine tC 19 ⟨some 6,.assign (.tmp 25), 4,_,pa [⟨18,.data⟩,⟨16,.chain⟩] 19,none⟩ ?v38 rfl ?y38 (HS.out _ hq9) ?r38; (case y38 => rintro w2 ⟨s1,s2,s3,s4⟩; go_simp; try with_reducible rfl)
   try simp only [Act.put,pB,pC,pD]
   refine wpAnyH_done (by kernel_rfl) ?_ _
   obtain ⟨hng,hbe⟩:=HN.out _ hq9
   have HBE:=Lib.hid hbe
   clear hbe
   go_wp2_with fail
   go_ret
   refine ⟨?_,HBE.out⟩
   cases neg <;> (first | rfl | (cases b2 <;> rfl) | (cases fo <;> rfl))
  | true =>
   by_cases hw : v < wrongN
   ·have hy0 : y = 0:=by rw [← hy]; unfold tokW; rw [if_pos hw]; rfl
    have hx0 : x = (v : Int):=by rw [← hx]; unfold tokR; rw [if_pos hw]
    have HF:=Lib.hid (fun w => foldC w v (by unfold wrongN at hw; omega))
    have hlt:=foldN_lt hw
    rw [decide_eq_true hw]
    obtain ⟨R,hR⟩ : ∃ R,foldN v = R:=⟨_,rfl⟩
    rw [hR] at hlt HF ⊢
    obtain ⟨b2,hP2⟩ : ∃ b,P R = b:=⟨_,rfl⟩
    rw [hP2]
    have HC2 : Hid (∀ W,Below w1.heap.size w1 W → Calls Tryz.prog g' (#[.agg #[.int .i32 (R : Int),.int .i64 0]] ++ cs') W fun e w' => e = .returned (.bool b2) ∧ Below W.heap.size W w'):=Lib.hid (fun W hW => by
     have:=HC.out W hW R (.inl hlt)
     rwa [hP2,tokV_right hlt] at this)
    subst hy0
    rw [← hx0] at HF
    clear hv hx hy hP1 htv hx0 hw hlt hR hP2
    go_enter Tryz.func75, Tryz.ntmps75
    go_wp2_with fail
    rw [← HW1.out]
    refine wp_region_held_drew (S:=(fun w' : World => w'.cell? ⟨g1,0,none⟩ = some (.func (.func g') #[] cs') ∧ w'.cell? ⟨g2,0,none⟩ = some (.bool true) ∧ w'.cell? ⟨w.heap.size,0,none⟩ = some (.int .i32 x) ∧ w'.cell? ⟨w.heap.size,1,none⟩ = some (.int .i64 0))) (by kernel_rfl) hs0 (fun hS0 => ?_)
    refine tF 0 ⟨some 7,.load 118 (.tmp 1), 118,_,#[],none⟩ rfl hS0 ?_
    refine tF 1 ⟨some 8,.load 91 (.tmp 4), 91,_,#[],none⟩ rfl hS0 ?_
    try simp only [Act.put,pB,pC,pD]
    refine wpAnyH_ready (rs:=[2]) (by kernel_rfl) (by simp) (AllReadyH.cons rfl (fun K' hK => ?_) AllReadyH.nil)
    go_simp
    refine (HC1.out _ hq0).mono ?_
    rintro e w9 ⟨rfl,hb9⟩
    show K' _ _
    refine hK.out _ _ (HS.out _ (below_next hq0 (Nat.le_refl _) hb9)) (fun hSn => ?_)
    try simp only [Act.put,pB,pC,pD]
    clear hK K'
    have hq9:=below_next hq0 (Nat.le_refl _) hb9
    clear hb9
    refine tC 3 ⟨some 10,.move (.tmp 9), 4,_,#[⟨2,.data⟩,⟨2,.chain⟩],none⟩ ?v41 rfl ?y41 (HS.out _ hq9) ?r41; (case y41 => rintro w2 ⟨s1,s2,s3,s4⟩; go_simp; try with_reducible rfl)
    try simp only [Act.put,pB,pC,pD]
    refine tC 4 ⟨some 11,.load 4 (.tmp 2), 4,_,#[⟨3,.guard⟩],some (3,false)⟩ ?v42 rfl ?y42 (HS.out _ hq9) ?r42; (case y42 => rintro w2 ⟨s1,s2,s3,s4⟩; go_simp; try with_reducible rfl)
    refine tC 5 ⟨some 12,.move (.tmp 11), 4,_,#[⟨4,.data⟩,⟨3,.chain⟩,⟨3,.guard⟩],some (3,false)⟩ ?v43 rfl ?y43 (HS.out _ hq9) ?r43; (case y43 => rintro w2 ⟨s1,s2,s3,s4⟩; go_simp; try with_reducible rfl)
    refine tC 6 ⟨some 13,.fieldAddr 91 (.tmp 4) 1,0,_,#[⟨5,.guard⟩],some (5,true)⟩ ?v44 rfl ?y44 (HS.out _ hq9) ?r44; (case y44 => rintro w2 ⟨s1,s2,s3,s4⟩; go_simp; try with_reducible rfl)
    try simp only [Act.put,pB,pC,pD]
    refine tC 7 ⟨some 14,.load 3 (.tmp 13), 3,_,#[⟨6,.data⟩,⟨5,.guard⟩],some (5,true)⟩ ?v45 rfl ?y45 (HS.out _ hq9) ?r45; (case y45 => rintro w2 ⟨s1,s2,s3,s4⟩; go_simp; try with_reducible rfl)
    refine tC 8 ⟨some 15,.binOp BinOp.eql 3 (.tmp 14) (Operand.const (Value.int IntKind.i64 0)) 3, 4,_,#[⟨7,.data⟩,⟨5,.guard⟩],some (5,true)⟩ ?v46 rfl ?y46 (HS.out _ hq9) ?r46; (case y46 => rintro w2 ⟨s1,s2,s3,s4⟩; go_simp; try with_reducible rfl)
    refine tC 9 ⟨some 16,.pick (.tmp 12) (.tmp 15) (Operand.const (Value.bool false)), 4,_,#[⟨5,.data⟩,⟨8,.data⟩,⟨3,.guard⟩],some (3,false)⟩ ?v47 rfl ?y47 (HS.out _ hq9) ?r47; (case y47 => rintro w2 ⟨s1,s2,s3,s4⟩; go_simp; try with_reducible rfl)
    try simp only [Act.put,pB,pC,pD]
    refine tC 10 ⟨some 17,.move (.tmp 16), 4,_,#[⟨9,.data⟩,⟨5,.chain⟩,⟨3,.guard⟩],some (3,false)⟩ ?v48 rfl ?y48 (HS.out _ hq9) ?r48; (case y48 => rintro w2 ⟨s1,s2,s3,s4⟩; go_simp; try with_reducible rfl)
    refine tC 11 ⟨some 18,.load 118 (.tmp 1), 118,_,#[⟨10,.guard⟩],some (10,true)⟩ ?v49 rfl ?y49 (HS.out _ hq9) ?r49; (case y49 => rintro w2 ⟨s1,s2,s3,s4⟩; go_simp; try with_reducible rfl)
    refine tC 12 ⟨some 19,.fieldAddr 91 (.tmp 4) 0,0,_,#[⟨10,.guard⟩],some (10,true)⟩ ?v50 rfl ?y50 (HS.out _ hq9) ?r50; (case y50 => rintro w2 ⟨s1,s2,s3,s4⟩; go_simp; try with_reducible rfl)
    try simp only [Act.put,pB,pC,pD]
    refine tC 13 ⟨some 20,.load 21 (.tmp 19), 21,_,#[⟨12,.data⟩,⟨10,.guard⟩],some (10,true)⟩ ?v51 rfl ?y51 (HS.out _ hq9) ?r51; (case y51 => rintro w2 ⟨s1,s2,s3,s4⟩; go_simp; try with_reducible rfl)
    try simp only [Act.put,pB,pC,pD]
    refine wpAnyH_ready (rs:=[14]) (by kernel_rfl) (by simp) (AllReadyH.cons rfl (fun K' hK => ?_) AllReadyH.nil)
    go_simp
    refine (HF.out _).mono ?_
    rintro e w8 ⟨rfl,rfl⟩
    show K' _ _
    refine hK.out _ _ (HS.out _ hq9) (fun hSn => ?_)
    try simp only [Act.put,pB,pC,pD]
    clear hK K'
    refine tC 15 ⟨some 22,.build 91 #[(0,.tmp 21)], 91,_,#[⟨14,.data⟩,⟨10,.guard⟩],some (10,true)⟩ ?v52 rfl ?y52 (HS.out _ hq9) ?r52; (case y52 => rintro w2 ⟨s1,s2,s3,s4⟩; go_simp; try with_reducible rfl)
    try simp only [Act.put,pB,pC,pD]
    refine wpAnyH_ready (rs:=[16]) (by kernel_rfl) (by simp) (AllReadyH.cons rfl (fun K' hK => ?_) AllReadyH.nil)
    go_simp
    refine (HC2.out _ hq9).mono ?_
    rintro e w9 ⟨rfl,hb9⟩
    show K' _ _
    refine hK.out _ _ (HS.out _ (below_next hq9 (Nat.le_refl _) hb9)) (fun hSn => ?_)
    try simp only [Act.put,pB,pC,pD]
    clear hK K'
    have hq9:=below_next hq9 (Nat.le_refl _) hb9
    clear hb9
    refine tC 17 ⟨some 24,.pick (.tmp 17) (.tmp 23) (Operand.const (Value.bool false)), 4,_,#[⟨10,.data⟩,⟨16,.data⟩,⟨3,.guard⟩],some (3,false)⟩ ?v53 rfl ?y53 (HS.out _ hq9) ?r53; (case y53 => rintro w2 ⟨s1,s2,s3,s4⟩; go_simp; try with_reducible rfl)
    refine tC 18 ⟨some 25,.pick (.tmp 10) (Operand.const (Value.bool true)) (.tmp 24), 4,_,#[⟨3,.data⟩,⟨17,.data⟩],none⟩ ?v54 rfl ?y54 (HS.out _ hq9) ?r54; (case y54 => rintro w2 ⟨s1,s2,s3,s4⟩; go_simp; try with_reducible rfl)
    refine tC 19 ⟨some 6,.assign (.tmp 25), 4,_,pa [⟨18,.data⟩,⟨16,.chain⟩] 19,none⟩ ?v55 rfl ?y55 (HS.out _ hq9) ?r55; (case y55 => rintro w2 ⟨s1,s2,s3,s4⟩; go_simp; try with_reducible rfl)
    try simp only [Act.put,pB,pC,pD]
    refine wpAnyH_done (by kernel_rfl) ?_ _
    obtain ⟨hng,hbe⟩:=HN.out _ hq9
    have HBE:=Lib.hid hbe
    clear hbe
    go_wp2_with fail
    go_ret
    refine ⟨?_,HBE.out⟩
    cases neg <;> (first | rfl | (cases b2 <;> rfl) | (cases fo <;> rfl))
   ·have hy0 : (y == 0) = false:=by
     rw [← hy,beq_eq_false_iff_ne]
     unfold OkC at hv
     unfold tokW
     rw [if_neg hw]
     omega
    rw [decide_eq_false hw]
    clear hv hx hy hP1 htv hw
    go_enter Tryz.func75, Tryz.ntmps75
    go_wp2_with fail
    rw [← HW1.out]
    refine wp_region_held_drew (S:=(fun w' : World => w'.cell? ⟨g1,0,none⟩ = some (.func (.func g') #[] cs') ∧ w'.cell? ⟨g2,0,none⟩ = some (.bool true) ∧ w'.cell? ⟨w.heap.size,0,none⟩ = some (.int .i32 x) ∧ w'.cell? ⟨w.heap.size,1,none⟩ = some (.int .i64 y))) (by kernel_rfl) hs0 (fun hS0 => ?_)
    refine tF 0 ⟨some 7,.load 118 (.tmp 1), 118,_,#[],none⟩ rfl hS0 ?_
    try simp only [Act.put,pB,pC,pD]
    refine tF 1 ⟨some 8,.load 91 (.tmp 4), 91,_,#[],none⟩ rfl hS0 ?_
    try simp only [Act.put,pB,pC,pD]
    refine wpAnyH_ready (rs:=[2]) (by kernel_rfl) (by simp) (AllReadyH.cons rfl (fun K' hK => ?_) AllReadyH.nil)
    go_simp
    refine (HC1.out _ hq0).mono ?_
    rintro e w9 ⟨rfl,hb9⟩
    show K' _ _
    refine hK.out _ _ (HS.out _ (below_next hq0 (Nat.le_refl _) hb9)) (fun hSn => ?_)
    try simp only [Act.put,pB,pC,pD]
    clear hK K'
    have hq9:=below_next hq0 (Nat.le_refl _) hb9
    clear hb9
    refine tC 3 ⟨some 10,.move (.tmp 9), 4,_,#[⟨2,.data⟩,⟨2,.chain⟩],none⟩ ?v58 rfl ?y58 (HS.out _ hq9) ?r58; (case y58 => rintro w2 ⟨s1,s2,s3,s4⟩; go_simp; try with_reducible rfl)
    refine tC 4 ⟨some 11,.load 4 (.tmp 2), 4,_,#[⟨3,.guard⟩],some (3,false)⟩ ?v59 rfl ?y59 (HS.out _ hq9) ?r59; (case y59 => rintro w2 ⟨s1,s2,s3,s4⟩; go_simp; try with_reducible rfl)
    refine tC 5 ⟨some 12,.move (.tmp 11), 4,_,#[⟨4,.data⟩,⟨3,.chain⟩,⟨3,.guard⟩],some (3,false)⟩ ?v60 rfl ?y60 (HS.out _ hq9) ?r60; (case y60 => rintro w2 ⟨s1,s2,s3,s4⟩; go_simp; try with_reducible rfl)
    try simp only [Act.put,pB,pC,pD]
    refine tC 6 ⟨some 13,.fieldAddr 91 (.tmp 4) 1,0,_,#[⟨5,.guard⟩],some (5,true)⟩ ?v61 rfl ?y61 (HS.out _ hq9) ?r61; (case y61 => rintro w2 ⟨s1,s2,s3,s4⟩; go_simp; try with_reducible rfl)
    refine tC 7 ⟨some 14,.load 3 (.tmp 13), 3,_,#[⟨6,.data⟩,⟨5,.guard⟩],some (5,true)⟩ ?v62 rfl ?y62 (HS.out _ hq9) ?r62; (case y62 => rintro w2 ⟨s1,s2,s3,s4⟩; go_simp; try with_reducible rfl)
    refine tC 8 ⟨some 15,.binOp BinOp.eql 3 (.tmp 14) (Operand.const (Value.int IntKind.i64 0)) 3, 4,_,#[⟨7,.data⟩,⟨5,.guard⟩],some (5,true)⟩ ?v63 rfl ?y63 (HS.out _ hq9) ?r63; (case y63 => rintro w2 ⟨s1,s2,s3,s4⟩; go_simp; try with_reducible rfl)
    try simp only [Act.put,pB,pC,pD]
    refine tC 9 ⟨some 16,.pick (.tmp 12) (.tmp 15) (Operand.const (Value.bool false)), 4,_,#[⟨5,.data⟩,⟨8,.data⟩,⟨3,.guard⟩],some (3,false)⟩ ?v64 rfl ?y64 (HS.out _ hq9) ?r64; (case y64 => rintro w2 ⟨s1,s2,s3,s4⟩; go_simp; try with_reducible rfl)
    refine tC 10 ⟨some 17,.move (.tmp 16), 4,_,#[⟨9,.data⟩,⟨5,.chain⟩,⟨3,.guard⟩],some (3,false)⟩ ?v65 rfl ?y65 (HS.out _ hq9) ?r65; (case y65 => rintro w2 ⟨s1,s2,s3,s4⟩; go_simp; try with_reducible rfl)
    refine tD 11 ⟨some 18,.load 118 (.tmp 1), 118,_,#[⟨10,.guard⟩],some (10,true)⟩ rfl (HS.out _ hq9) ?_
    try simp only [Act.put,pB,pC,pD]
    refine tD 12 ⟨some 19,.fieldAddr 91 (.tmp 4) 0,0,_,#[⟨10,.guard⟩],some (10,true)⟩ rfl (HS.out _ hq9) ?_
    refine tD 13 ⟨some 20,.load 21 (.tmp 19), 21,_,#[⟨12,.data⟩,⟨10,.guard⟩],some (10,true)⟩ rfl (HS.out _ hq9) ?_
    refine tD 14 ⟨some 21,.call { callee:=Callee.value (Operand.func 76),args:=#[.tmp 20],argTypes:=#[21] }, 21,_,#[⟨13,.data⟩,⟨10,.chain⟩,⟨10,.guard⟩],some (10,true)⟩ rfl (HS.out _ hq9) ?_
    try simp only [Act.put,pB,pC,pD]
    refine tD 15 ⟨some 22,.build 91 #[(0,.tmp 21)], 91,_,#[⟨14,.data⟩,⟨10,.guard⟩],some (10,true)⟩ rfl (HS.out _ hq9) ?_
    refine tD 16 ⟨some 23,.call { callee:=Callee.value (.tmp 18),args:=#[.tmp 22],argTypes:=#[91] }, 4,_,#[⟨11,.data⟩,⟨15,.data⟩,⟨14,.chain⟩,⟨10,.guard⟩],some (10,true)⟩ rfl (HS.out _ hq9) ?_
    refine tC 17 ⟨some 24,.pick (.tmp 17) (.tmp 23) (Operand.const (Value.bool false)), 4,_,#[⟨10,.data⟩,⟨16,.data⟩,⟨3,.guard⟩],some (3,false)⟩ ?v72 rfl ?y72 (HS.out _ hq9) ?r72; (case y72 => rintro w2 ⟨s1,s2,s3,s4⟩; go_simp; try with_reducible rfl)
    try simp only [Act.put,pB,pC,pD]
    refine tC 18 ⟨some 25,.pick (.tmp 10) (Operand.const (Value.bool true)) (.tmp 24), 4,_,#[⟨3,.data⟩,⟨17,.data⟩],none⟩ ?v73 rfl ?y73 (HS.out _ hq9) ?r73; (case y73 => rintro w2 ⟨s1,s2,s3,s4⟩; go_simp; try with_reducible rfl)
    refine tC 19 ⟨some 6,.assign (.tmp 25), 4,_,pa [⟨18,.data⟩,⟨16,.chain⟩] 19,none⟩ ?v74 rfl ?y74 (HS.out _ hq9) ?r74; (case y74 => rintro w2 ⟨s1,s2,s3,s4⟩; go_simp; try with_reducible rfl)
    try simp only [Act.put,pB,pC,pD]
    refine wpAnyH_done (by kernel_rfl) ?_ _
    obtain ⟨hng,hbe⟩:=HN.out _ hq9
    have HBE:=Lib.hid hbe
    clear hbe
    go_wp2_with fail
    go_ret
    refine ⟨?_,HBE.out⟩
    cases neg <;> (first | rfl | (cases b2 <;> rfl) | (cases fo <;> rfl))
end Go.Proofs.YtchdeboialbdiaaGreatDoor
