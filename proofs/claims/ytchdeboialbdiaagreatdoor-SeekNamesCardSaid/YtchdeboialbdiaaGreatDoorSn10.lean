/- Texts joined, one behind the other (SFold). -/
import Derived.Test.YtchdeboialbdiaaGreatDoorSn09
namespace Go.Proofs.YtchdeboialbdiaaGreatDoor
set_option linter.unusedVariables false
set_option linter.unusedSimpArgs false
set_option maxHeartbeats 8000000
set_option maxRecDepth 100000
open Go.RowKit
open Go.Lib hiding intOf
theorem rangeT_two (id d t : Nat) (lo hi z : Int) (p : String) (e1 e2 e3 e4 e5 e6 e7 : Array Edge) (n : Nat) (a : Act) (w : World) (Q : Exit → Act → World → Prop) (hd : 4 ≤ d) (ht : 0 < t) (htn : t < n) (hn : d + 5 < n) (hf : Fr n z a)
  (h : ∀ a',Fr n z a' → a'.eval (.tmp t) = .bool (decide (lo ≤ z) && decide (z ≤ hi)) → Q .normal a' w) :
  (Code.region id #[⟨some d,.move (.tmp 0), 21,p,e1,none⟩,⟨some (d + 1),.binOp .geq 21 (.tmp d) (.const (.int .i32 lo)) 21, 4,p,e2,none⟩,⟨some (d + 2),.move (.tmp (d + 1)), 4,p,e3,none⟩,⟨some (d + 3),.move (.tmp 0), 21,p,e4,some (2,true)⟩,⟨some (d + 4),.binOp .leq 21 (.tmp (d + 3)) (.const (.int .i32 hi)) 21, 4,p,e5,some (2,true)⟩,⟨some (d + 5),.pick (.tmp (d + 2)) (.tmp (d + 4)) (.const (.bool false)), 4,p,e6,none⟩,⟨some t,.assign (.tmp (d + 5)), 4,p,e7,none⟩] false).wp Tryz.prog Q a w:=by
 apply wp_region_lit
 have f1:=hf.put (d:=d) (by omega) (by omega) (.int .i32 z)
 have v1 : (a.put (some d) (.int .i32 z)).eval (.tmp d) = .int .i32 z:=by rw [eval_put (by rw [hf.1]; omega),if_pos rfl]
 refine wpList_pure rfl (run_move w a d 0 _ _ _ _) ?_
 rw [hf.2.1]
 generalize a.put (some d) (.int .i32 z) = a1 at *
 refine wpList_pure rfl (run_geq w a1 (d + 1) d z lo _ _ _ _ v1) ?_
 obtain ⟨b,hb⟩ : ∃ b,decide (lo ≤ z) = b:=⟨_,rfl⟩
 rw [hb]
 have f2:=f1.put (d:=d + 1) (by omega) (by omega) (.bool b)
 have v2 : (a1.put (some (d + 1)) (.bool b)).eval (.tmp (d + 1)) = .bool b:=by rw [eval_put (by rw [f1.1]; omega),if_pos rfl]
 show wpList _ _ _ _ (a1.put (some (d + 1)) (.bool b)) _
 generalize a1.put (some (d + 1)) (.bool b) = a2 at *
 refine wpList_pure rfl (run_move w a2 (d + 2) (d + 1) _ _ _ _) ?_
 rw [v2]
 have f3:=f2.put (d:=d + 2) (by omega) (by omega) (.bool b)
 have v3 : (a2.put (some (d + 2)) (.bool b)).eval (.tmp (d + 2)) = .bool b:=by rw [eval_put (by rw [f2.1]; omega),if_pos rfl]
 have y3 : (a2.put (some (d + 2)) (.bool b)).tmps[d + 2]? = some (.bool b):=by rw [at_put (by rw [f2.1]; omega),if_pos rfl]
 show wpList _ _ _ _ (a2.put (some (d + 2)) (.bool b)) _
 generalize a2.put (some (d + 2)) (.bool b) = a3 at *
 cases b with
 | true =>
  refine wpList_pure (by simp [Region.wanted,yielded,y3]) (run_move w a3 (d + 3) 0 _ _ _ _) ?_
  rw [f3.2.1]
  have f4:=f3.put (d:=d + 3) (by omega) (by omega) (.int .i32 z)
  have v4 : (a3.put (some (d + 3)) (.int .i32 z)).eval (.tmp (d + 3)) = .int .i32 z:=by rw [eval_put (by rw [f3.1]; omega),if_pos rfl]
  have v4' : (a3.put (some (d + 3)) (.int .i32 z)).eval (.tmp (d + 2)) = .bool true:=by rw [eval_put (by rw [f3.1]; omega),if_neg (by omega)]; exact v3
  have y4 : (a3.put (some (d + 3)) (.int .i32 z)).tmps[d + 2]? = some (.bool true):=by rw [at_put (by rw [f3.1]; omega),if_neg (by omega)]; exact y3
  show wpList _ _ _ _ (a3.put (some (d + 3)) (.int .i32 z)) _
  generalize a3.put (some (d + 3)) (.int .i32 z) = a4 at *
  refine wpList_pure (by simp [Region.wanted,yielded,y4]) (run_leq w a4 (d + 4) (d + 3) z hi _ _ _ _ v4) ?_
  obtain ⟨c,hc⟩ : ∃ c,decide (z ≤ hi) = c:=⟨_,rfl⟩
  rw [hc]
  have f5:=f4.put (d:=d + 4) (by omega) (by omega) (.bool c)
  have v5 : (a4.put (some (d + 4)) (.bool c)).eval (.tmp (d + 4)) = .bool c:=by rw [eval_put (by rw [f4.1]; omega),if_pos rfl]
  have v5' : (a4.put (some (d + 4)) (.bool c)).eval (.tmp (d + 2)) = .bool true:=by rw [eval_put (by rw [f4.1]; omega),if_neg (by omega)]; exact v4'
  show wpList _ _ _ _ (a4.put (some (d + 4)) (.bool c)) _
  generalize a4.put (some (d + 4)) (.bool c) = a5 at *
  refine wpList_pure rfl (run_pick w a5 (d + 5) (d + 2) (d + 4) true c undef _ _ _ _ v5' (fun _ => v5)) ?_
  have f6:=f5.put (d:=d + 5) (by omega) (by omega) (.bool (true && c))
  have v6 : (a5.put (some (d + 5)) (.bool (true && c))).eval (.tmp (d + 5)) = .bool (true && c):=by rw [eval_put (by rw [f5.1]; omega),if_pos rfl]
  show wpList _ _ _ _ (a5.put (some (d + 5)) (.bool (true && c))) _
  generalize a5.put (some (d + 5)) (.bool (true && c)) = a6 at *
  refine wpList_pure rfl (run_assign w a6 t (d + 5) _ _ _ _) ?_
  rw [v6]
  refine wpList_nil (h _ (f6.put (by omega) (by omega) _) ?_)
  rw [eval_put (by rw [f6.1]; omega),if_pos rfl,hb,hc]
 | false =>
  refine wpList_not (by simp [Region.wanted,yielded,y3]) ?_
  have f4:=f3.put (d:=d + 3) (by omega) (by omega) undef
  have v4' : (a3.put (some (d + 3)) undef).eval (.tmp (d + 2)) = .bool false:=by rw [eval_put (by rw [f3.1]; omega),if_neg (by omega)]; exact v3
  have y4 : (a3.put (some (d + 3)) undef).tmps[d + 2]? = some (.bool false):=by rw [at_put (by rw [f3.1]; omega),if_neg (by omega)]; exact y3
  show wpList _ _ _ _ (a3.put (some (d + 3)) undef) _
  generalize a3.put (some (d + 3)) undef = a4 at *
  refine wpList_not (by simp [Region.wanted,yielded,y4]) ?_
  have f5:=f4.put (d:=d + 4) (by omega) (by omega) undef
  have v5' : (a4.put (some (d + 4)) undef).eval (.tmp (d + 2)) = .bool false:=by rw [eval_put (by rw [f4.1]; omega),if_neg (by omega)]; exact v4'
  show wpList _ _ _ _ (a4.put (some (d + 4)) undef) _
  generalize a4.put (some (d + 4)) undef = a5 at *
  refine wpList_pure rfl (run_pick w a5 (d + 5) (d + 2) (d + 4) false false undef _ _ _ _ v5' (fun e => by cases e)) ?_
  have f6:=f5.put (d:=d + 5) (by omega) (by omega) (.bool (false && false))
  have v6 : (a5.put (some (d + 5)) (.bool (false && false))).eval (.tmp (d + 5)) = .bool (false && false):=by rw [eval_put (by rw [f5.1]; omega),if_pos rfl]
  show wpList _ _ _ _ (a5.put (some (d + 5)) (.bool (false && false))) _
  generalize a5.put (some (d + 5)) (.bool (false && false)) = a6 at *
  refine wpList_pure rfl (run_assign w a6 t (d + 5) _ _ _ _) ?_
  rw [v6]
  refine wpList_nil (h _ (f6.put (by omega) (by omega) _) ?_)
  rw [eval_put (by rw [f6.1]; omega),if_pos rfl,hb]
  rfl
theorem rangeT_one (id d t : Nat) (k z : Int) (p : String) (e1 e2 e3 : Array Edge) (n : Nat) (a : Act) (w : World) (Q : Exit → Act → World → Prop) (hd : 4 ≤ d) (ht : 0 < t) (htn : t < n) (hn : d + 1 < n) (hf : Fr n z a)
  (h : ∀ a',Fr n z a' → a'.eval (.tmp t) = .bool (decide (k ≤ z) && decide (z ≤ k)) → Q .normal a' w) :
  (Code.region id #[⟨some d,.move (.tmp 0), 21,p,e1,none⟩,⟨some (d + 1),.binOp .eql 21 (.tmp d) (.const (.int .i32 k)) 21, 4,p,e2,none⟩,⟨some t,.assign (.tmp (d + 1)), 4,p,e3,none⟩] false).wp Tryz.prog Q a w:=by
 apply wp_region_lit
 have f1:=hf.put (d:=d) (by omega) (by omega) (.int .i32 z)
 have v1 : (a.put (some d) (.int .i32 z)).eval (.tmp d) = .int .i32 z:=by rw [eval_put (by rw [hf.1]; omega),if_pos rfl]
 refine wpList_pure rfl (run_move w a d 0 _ _ _ _) ?_
 rw [hf.2.1]
 generalize a.put (some d) (.int .i32 z) = a1 at *
 refine wpList_pure rfl (run_eql w a1 (d + 1) d z k _ _ _ _ v1) ?_
 have hk : (z == k) = (decide (k ≤ z) && decide (z ≤ k)):=by
  rw [Bool.eq_iff_iff,beq_iff_eq,Bool.and_eq_true,decide_eq_true_iff,decide_eq_true_iff]
  omega
 rw [hk]
 generalize (decide (k ≤ z) && decide (z ≤ k)) = b at *
 have f2:=f1.put (d:=d + 1) (by omega) (by omega) (.bool b)
 have v2 : (a1.put (some (d + 1)) (.bool b)).eval (.tmp (d + 1)) = .bool b:=by rw [eval_put (by rw [f1.1]; omega),if_pos rfl]
 show wpList _ _ _ _ (a1.put (some (d + 1)) (.bool b)) _
 generalize a1.put (some (d + 1)) (.bool b) = a2 at *
 refine wpList_pure rfl (run_assign w a2 t (d + 1) _ _ _ _) ?_
 rw [v2]
 refine wpList_nil (h _ (f2.put (by omega) (by omega) _) ?_)
 rw [eval_put (by rw [f2.1]; omega),if_pos rfl]
def seconds (z lo hi : Int) : Bool:=decide (lo ≤ z) && decide (z ≤ hi) && decide ((z - lo) % 2 = 0)
theorem secondC (w : World) (z lo hi : Int) (h0 : 0 ≤ z) (h1 : z ≤ 1114111) (h2 : 0 ≤ lo) (h3 : lo ≤ 1114111) (h4 : 0 ≤ hi) (h5 : hi ≤ 1114111) : Calls Tryz.prog 110 #[.int .i32 z,.int .i32 lo,.int .i32 hi] w fun e w' => e = .returned (.bool (seconds z lo hi)) ∧ w' = w:=by
 unfold seconds
 by_cases a : lo ≤ z
 ·by_cases b : z ≤ hi
  ·have hm : (z - lo).tmod 2 = (z - lo) % 2:=Int.tmod_eq_emod_of_nonneg (by omega)
   obtain ⟨y,hy⟩ : ∃ y,z - lo = y:=⟨_,rfl⟩
   rw [hy] at hm ⊢
   rw [decide_eq_true a,decide_eq_true b]
   obtain ⟨x,hx⟩ : ∃ x,y % 2 = x:=⟨_,rfl⟩
   rw [hx] at hm ⊢
   have hd : (x == 0) = decide (x = 0):=by rw [Bool.eq_iff_iff,beq_iff_eq,decide_eq_true_iff]
   rw [← hd]
   have HY:=Lib.hid hy
   have hyr : 0 ≤ y ∧ y ≤ 1114111:=by omega
   obtain ⟨hy0,hy1⟩:=hyr
   clear hx hd
   go_enter Tryz.func110, Tryz.ntmps110
   go_wp2_with fail
   go_ret
   exact ⟨rfl,rfl⟩
  ·have b' : hi < z:=by omega
   rw [decide_eq_true a,decide_eq_false b]
   go_enter Tryz.func110, Tryz.ntmps110
   go_wp2_with fail
   go_ret
   exact ⟨rfl,rfl⟩
 ·have a' : z < lo:=by omega
  rw [decide_eq_false a]
  go_enter Tryz.func110, Tryz.ntmps110
  go_wp2_with fail
  go_ret
  exact ⟨rfl,rfl⟩
theorem wpList_call {P : Program} {ops : Array Oper} {Q : Exit → Act → World → Prop} {a : Act} {w : World} {rest : List Oper} {o : Oper} {f : FuncId} {args : Array Value} (hw : Region.wanted o (yielded ops a.tmps) = true) (hx : (execOp a.eval o).run P w = .ok (.enter f args) w) (h : Calls P f args w fun e w' => ∃ v,e = .returned v ∧ wpList P ops Q rest (a.put o.dst v) w') : wpList P ops Q (o :: rest) a w:=by
 unfold wpList
 rw [if_pos hw]
 left
 unfold Oper.wp
 rw [hx,Oper.upon_enter]
 refine h.mono ?_
 rintro e w' ⟨v,rfl,hv⟩
 exact hv
theorem run_second (w : World) (a : Act) (d t : Nat) (z lo hi : Int) (ty : TypeId) (p : String) (e : Array Edge) (g : Option (Nat × Bool)) (h : a.eval (.tmp t) = .int .i32 z) : (execOp a.eval ⟨some d,.call ⟨.value (.func 110),#[.tmp t,.const (.int .i32 lo),.const (.int .i32 hi)],#[21, 21, 21]⟩,ty,p,e,g⟩).run Tryz.prog w = .ok (.enter 110 #[.int .i32 z,.int .i32 lo,.int .i32 hi]) w:=by
 have h2 : a.tmps[t]?.getD undef = .int .i32 z:=by
  rw [← h]
  show _ = a.tmps.getD t undef
  rw [Array.getD_eq_getD_getElem?]
 simp only [execOp]
 go_simp
theorem run_add (w : World) (a : Act) (d t : Nat) (z k : Int) (ty : TypeId) (p : String) (e : Array Edge) (g : Option (Nat × Bool)) (h : a.eval (.tmp t) = .int .i32 z) (h1 : -1000000000 ≤ z + k) (h3 : z + k ≤ 1000000000) : (execOp a.eval ⟨some d,.binOp .add 21 (.tmp t) (.const (.int .i32 k)) 21,ty,p,e,g⟩).run Tryz.prog w = .ok (.value (.int .i32 (z + k))) w:=by
 have hw : IntKind.i32.wrap (z + k) = z + k:=by
  exact IntWalk.i32_in _ (by omega)
 simp only [execOp,h]
 go_simp
theorem run_sub (w : World) (a : Act) (d t : Nat) (z k : Int) (ty : TypeId) (p : String) (e : Array Edge) (g : Option (Nat × Bool)) (h : a.eval (.tmp t) = .int .i32 z) (h1 : -1000000000 ≤ z - k) (h3 : z - k ≤ 1000000000) : (execOp a.eval ⟨some d,.binOp .sub 21 (.tmp t) (.const (.int .i32 k)) 21,ty,p,e,g⟩).run Tryz.prog w = .ok (.value (.int .i32 (z - k))) w:=by
 have hw : IntKind.i32.wrap (z - k) = z - k:=by
  exact IntWalk.i32_in _ (by omega)
 simp only [execOp,h]
 go_simp
theorem range_second (id d t : Nat) (lo hi z : Int) (p : String) (e1 e2 e3 : Array Edge) (n : Nat) (a : Act) (w : World) (Q : Exit → Act → World → Prop) (hd : 3 ≤ d) (ht : 0 < t) (htn : t < n) (hn : d + 1 < n) (hz0 : 0 ≤ z) (hz1 : z ≤ 1114111) (hl0 : 0 ≤ lo) (hl1 : lo ≤ 1114111) (hh0 : 0 ≤ hi) (hh1 : hi ≤ 1114111) (hf : Fr n z a)
  (h : ∀ a',Fr n z a' → a'.eval (.tmp t) = .bool (seconds z lo hi) → Q .normal a' w) :
  (Code.region id #[⟨some d,.move (.tmp 0), 21,p,e1,none⟩,⟨some (d + 1),.call ⟨.value (.func 110),#[.tmp d,.const (.int .i32 lo),.const (.int .i32 hi)],#[21, 21, 21]⟩, 4,p,e2,none⟩,⟨some t,.assign (.tmp (d + 1)), 4,p,e3,none⟩] false).wp Tryz.prog Q a w:=by
 apply wp_region_lit
 have f1:=hf.put (d:=d) (by omega) (by omega) (.int .i32 z)
 have v1 : (a.put (some d) (.int .i32 z)).eval (.tmp d) = .int .i32 z:=by rw [eval_put (by rw [hf.1]; omega),if_pos rfl]
 refine wpList_pure rfl (run_move w a d 0 _ _ _ _) ?_
 rw [hf.2.1]
 generalize a.put (some d) (.int .i32 z) = a1 at *
 refine wpList_call rfl (run_second w a1 (d + 1) d z lo hi _ _ _ _ v1) ((secondC w z lo hi hz0 hz1 hl0 hl1 hh0 hh1).mono ?_)
 rintro e w' ⟨rfl,rfl⟩
 refine ⟨_,rfl,?_⟩
 generalize seconds z lo hi = b at *
 have f2:=f1.put (d:=d + 1) (by omega) (by omega) (.bool b)
 have v2 : (a1.put (some (d + 1)) (.bool b)).eval (.tmp (d + 1)) = .bool b:=by rw [eval_put (by rw [f1.1]; omega),if_pos rfl]
 show wpList _ _ _ _ (a1.put (some (d + 1)) (.bool b)) _
 generalize a1.put (some (d + 1)) (.bool b) = a2 at *
 refine wpList_pure rfl (run_assign w' a2 t (d + 1) _ _ _ _) ?_
 rw [v2]
 refine wpList_nil (h _ (f2.put (by omega) (by omega) _) ?_)
 rw [eval_put (by rw [f2.1]; omega),if_pos rfl]
theorem range_add (id d : Nat) (z k : Int) (p : String) (e1 e2 e3 : Array Edge) (n : Nat) (a : Act) (w : World) (Q : Exit → Act → World → Prop) (hd : 3 ≤ d) (hn : d + 1 < n) (h1 : -1000000000 ≤ z + k) (h3 : z + k ≤ 1000000000) (hf : Fr n z a)
  (h : ∀ a',Fr n z a' → a'.eval (.tmp 2) = .int .i32 (z + k) → Q .normal a' w) :
  (Code.region id #[⟨some d,.move (.tmp 0), 21,p,e1,none⟩,⟨some (d + 1),.binOp .add 21 (.tmp d) (.const (.int .i32 k)) 21, 21,p,e2,none⟩,⟨some 2,.assign (.tmp (d + 1)), 21,p,e3,none⟩] false).wp Tryz.prog Q a w:=by
 apply wp_region_lit
 have f1:=hf.put (d:=d) (by omega) (by omega) (.int .i32 z)
 have v1 : (a.put (some d) (.int .i32 z)).eval (.tmp d) = .int .i32 z:=by rw [eval_put (by rw [hf.1]; omega),if_pos rfl]
 refine wpList_pure rfl (run_move w a d 0 _ _ _ _) ?_
 rw [hf.2.1]
 generalize a.put (some d) (.int .i32 z) = a1 at *
 refine wpList_pure rfl (run_add w a1 (d + 1) d z k _ _ _ _ v1 h1 h3) ?_
 generalize z + k = b at *
 have f2:=f1.put (d:=d + 1) (by omega) (by omega) (.int .i32 b)
 have v2 : (a1.put (some (d + 1)) (.int .i32 b)).eval (.tmp (d + 1)) = .int .i32 b:=by rw [eval_put (by rw [f1.1]; omega),if_pos rfl]
 show wpList _ _ _ _ (a1.put (some (d + 1)) (.int .i32 b)) _
 generalize a1.put (some (d + 1)) (.int .i32 b) = a2 at *
 refine wpList_pure rfl (run_assign w a2 2 (d + 1) _ _ _ _) ?_
 rw [v2]
 refine wpList_nil (h _ (f2.put (by omega) (by omega) _) ?_)
 rw [eval_put (by rw [f2.1]; omega),if_pos rfl]
theorem range_sub (id d : Nat) (z k : Int) (p : String) (e1 e2 e3 : Array Edge) (n : Nat) (a : Act) (w : World) (Q : Exit → Act → World → Prop) (hd : 3 ≤ d) (hn : d + 1 < n) (h1 : -1000000000 ≤ z - k) (h3 : z - k ≤ 1000000000) (hf : Fr n z a)
  (h : ∀ a',Fr n z a' → a'.eval (.tmp 2) = .int .i32 (z - k) → Q .normal a' w) :
  (Code.region id #[⟨some d,.move (.tmp 0), 21,p,e1,none⟩,⟨some (d + 1),.binOp .sub 21 (.tmp d) (.const (.int .i32 k)) 21, 21,p,e2,none⟩,⟨some 2,.assign (.tmp (d + 1)), 21,p,e3,none⟩] false).wp Tryz.prog Q a w:=by
 apply wp_region_lit
 have f1:=hf.put (d:=d) (by omega) (by omega) (.int .i32 z)
 have v1 : (a.put (some d) (.int .i32 z)).eval (.tmp d) = .int .i32 z:=by rw [eval_put (by rw [hf.1]; omega),if_pos rfl]
 refine wpList_pure rfl (run_move w a d 0 _ _ _ _) ?_
 rw [hf.2.1]
 generalize a.put (some d) (.int .i32 z) = a1 at *
 refine wpList_pure rfl (run_sub w a1 (d + 1) d z k _ _ _ _ v1 h1 h3) ?_
 generalize z - k = b at *
 have f2:=f1.put (d:=d + 1) (by omega) (by omega) (.int .i32 b)
 have v2 : (a1.put (some (d + 1)) (.int .i32 b)).eval (.tmp (d + 1)) = .int .i32 b:=by rw [eval_put (by rw [f1.1]; omega),if_pos rfl]
 show wpList _ _ _ _ (a1.put (some (d + 1)) (.int .i32 b)) _
 generalize a1.put (some (d + 1)) (.int .i32 b) = a2 at *
 refine wpList_pure rfl (run_assign w a2 2 (d + 1) _ _ _ _) ?_
 rw [v2]
 refine wpList_nil (h _ (f2.put (by omega) (by omega) _) ?_)
 rw [eval_put (by rw [f2.1]; omega),if_pos rfl]
theorem range_same (id d : Nat) (z : Int) (p : String) (e1 e2 : Array Edge) (n : Nat) (a : Act) (w : World) (Q : Exit → Act → World → Prop) (hd : 3 ≤ d) (hn : d < n) (hf : Fr n z a)
  (h : ∀ a',Fr n z a' → a'.eval (.tmp 2) = .int .i32 z → Q .normal a' w) :
  (Code.region id #[⟨some d,.move (.tmp 0), 21,p,e1,none⟩,⟨some 2,.assign (.tmp d), 21,p,e2,none⟩] false).wp Tryz.prog Q a w:=by
 apply wp_region_lit
 have f1:=hf.put (d:=d) (by omega) (by omega) (.int .i32 z)
 have v1 : (a.put (some d) (.int .i32 z)).eval (.tmp d) = .int .i32 z:=by rw [eval_put (by rw [hf.1]; omega),if_pos rfl]
 refine wpList_pure rfl (run_move w a d 0 _ _ _ _) ?_
 rw [hf.2.1]
 generalize a.put (some d) (.int .i32 z) = a1 at *
 refine wpList_pure rfl (run_assign w a1 2 d _ _ _ _) ?_
 rw [v1]
 refine wpList_nil (h _ (f1.put (by omega) (by omega) _) ?_)
 rw [eval_put (by rw [f1.1]; omega),if_pos rfl]
theorem fold_skip (r : Nat) : ∀ (l l2 : List (Nat × Nat × Nat × Int)),(∀ p ∈ l,¬ (p.1 ≤ r ∧ r ≤ p.2.1)) → foldGo r (l ++ l2) = foldGo r l2
 | [],l2,_ => rfl
 | (a,b,m,d) :: l,l2,h => by
  rw [List.cons_append,foldGo,if_neg (fun hh => h (a,b,m,d) List.mem_cons_self ⟨hh.1,hh.2.1⟩)]
  exact fold_skip r l l2 (fun p hp => h p (List.mem_cons_of_mem _ hp))
theorem fold_next {r a b m : Nat} {d : Int} {l : List (Nat × Nat × Nat × Int)} {z : Int} (hz : (r : Int) = z) (hm : m = 1 ∨ m = 2) :
  ((foldGo r ((a,b,m,d) :: l) : Nat) : Int) = if (if m = 1 then decide ((a : Int) ≤ z) && decide (z ≤ (b : Int)) else seconds z a b) = true then ((((r : Int) + d).toNat : Nat) : Int) else ((foldGo r l : Nat) : Int):=by
 rw [foldGo]
 subst hz
 have hc : (a ≤ r ∧ r ≤ b ∧ (r - a) % m = 0) ↔ (if m = 1 then decide ((a : Int) ≤ (r : Int)) && decide ((r : Int) ≤ (b : Int)) else seconds (r : Int) a b) = true:=by
  rcases hm with rfl | rfl
  ·rw [if_pos rfl,Bool.and_eq_true,decide_eq_true_iff,decide_eq_true_iff]
   omega
  ·rw [if_neg (by decide)]
   unfold seconds
   rw [Bool.and_eq_true,Bool.and_eq_true,decide_eq_true_iff,decide_eq_true_iff,decide_eq_true_iff]
   omega
 by_cases h : a ≤ r ∧ r ≤ b ∧ (r - a) % m = 0
 ·rw [if_pos h,if_pos (hc.1 h)]
 ·rw [if_neg h,if_neg (fun hh => h (hc.2 hh))]
theorem fold_keep (r : Nat) : ∀ (l l2 : List (Nat × Nat × Nat × Int)),foldGo r l2 = r → foldGo r (l ++ l2) = foldGo r l
 | [],l2,h => h
 | (a,b,m,d) :: l,l2,h => by rw [List.cons_append,foldGo,foldGo,fold_keep r l l2 h]
theorem fold_low {r : Nat} (h : r < 1024) : foldN r = foldGo r (foldsR.take 18):=by
 have h2:=fold_skip r (foldsR.drop 18) [] (by
  intro p hp
  have : ∀ p ∈ foldsR.drop 18,1024 ≤ p.1:=by decide
  have:=this p hp
  omega)
 rw [List.append_nil] at h2
 have h3:=fold_keep r (foldsR.take 18) (foldsR.drop 18) h2
 rw [List.take_append_drop] at h3
 exact h3
theorem fold_high {r : Nat} (h : 1024 ≤ r) : foldN r = foldGo r (foldsR.drop 18):=by
 have h2:=fold_skip r (foldsR.take 18) (foldsR.drop 18) (by
  intro p hp
  have : ∀ p ∈ foldsR.take 18,p.2.1 < 1024:=by decide
  have:=this p hp
  omega)
 rw [List.take_append_drop] at h2
 exact h2
theorem chain_two {c : Code} {P : Program} {Q : Exit → Act → World → Prop} {a : Act} {w : World} (G H : Act → Prop) (hret : ∀ a1,G a1 → Q .ret a1 w) (hend : ∀ a1,H a1 → Q .normal a1 w) (h : ∀ Q' : Exit → Act → World → Prop,(∀ a1,G a1 → Q' .ret a1 w) → (∀ a1,H a1 → Q' .normal a1 w) → c.wp P Q' a w) : c.wp P Q a w:=h Q hret hend
theorem klowC (w : World) (r : Nat) (hc : r < 1024) (hr : r ≤ 1114111) : Calls Tryz.prog 98 #[.int .i32 (r : Int)] w fun e w' => e = .returned (.int .i32 (foldN r : Int)) ∧ w' = w:=by
 have hE:=congrArg (fun x : Nat => (x : Int)) (fold_low hc)
 change ((foldN r : Nat) : Int) = _ at hE
 obtain ⟨R,hR⟩ : ∃ R : Int,((foldN r : Nat) : Int) = R:=⟨_,rfl⟩
 rw [hR] at hE ⊢
 obtain ⟨z,hz⟩ : ∃ z : Int,(r : Int) = z:=⟨_,rfl⟩
 rw [hz]
 have hz0 : 0 ≤ z:=by omega
 have hz1 : z ≤ 1114111:=by omega
 clear hR
 refine calls_of_wp Tryz.func98 rfl ?_
 refine wp_seq (wp_region_lit (wpList_pure rfl (run_assign_const w _ 2 _ _ _ _ _) (wpList_nil ?_)))
 show (Code.seq _ _).wp _ _ _ _
 refine wp_seq (wp_block ?_)
 generalize hA : Act.put _ _ _ = a0
 have hf : Fr 122 z a0:=by
  rw [← hA]
  exact ⟨by kernel_rfl,by kernel_rfl,rfl⟩
 clear hA
 refine chain_two (fun a1 => Fr 122 z a1 ∧ a1.eval (.tmp 2) = .int .i32 R) (fun a1 => Fr 122 z a1 ∧ R = z) ?_ ?_ ?_
 ·rintro a1 ⟨hg,ht⟩
  try simp only [Exit.inBlock,Exit.then]
  refine bodyPost_ret (v:=.int .i32 R) ?_ hg.2.2 ?_
  ·rw [results_tmp rfl]
   exact congrArg (fun v => Result.ok v w) ht
  ·exact ⟨rfl,rfl⟩
 ·rintro a1 ⟨hg,ht⟩
  show Code.wp _ (Code.seq _ _) _ _ _
  refine wp_seq (range_same 37 121 z _ _ _ 122 _ w _ (by decide) (by decide) hg ?_)
  intro a2 hg2 h2
  show Code.wp _ Code.ret _ _ _
  refine wp_ret ?_
  refine bodyPost_ret (v:=.int .i32 R) ?_ hg2.2.2 ?_
  ·rw [results_tmp rfl]
   refine congrArg (fun v => Result.ok v w) ?_
   rw [ht]
   exact h2
  ·exact ⟨rfl,rfl⟩
 intro Q hret hend
 rw [show foldsR.take 18 = (65,90,1,32) :: (foldsR.take 18).tail from rfl] at hE
 rw [fold_next hz (by decide)] at hE
 change R = if (decide ((65 : Int) ≤ z) && decide (z ≤ (90 : Int))) = true then _ else _ at hE
 refine wp_seq (rangeT_two 1 4 3 65 90 z _ _ _ _ _ _ _ _ 122 _ w _ (by decide) (by decide) (by decide) (by decide) hf ?_)
 clear hf
 intro a0 hf ht
 refine wp_cond_split ht (fun h => ?_) (fun h => ?_)
 ·rw [if_pos h] at hE
  have hlo : 65 ≤ z:=by
   skip
   simp only [Bool.and_eq_true,decide_eq_true_iff] at h
   omega
  refine wp_seq (range_add 2 10 z 32 _ _ _ _ 122 _ w _ (by decide) (by decide) (by omega) (by omega) hf ?_)
  intro b hb hv
  show Code.wp _ Code.ret _ _ _
  refine wp_ret (hret b ⟨hb,hv.trans (congrArg (Value.int .i32) ?_)⟩)
  omega
 rw [h,if_neg (by decide)] at hE
 clear h ht
 change R = ((foldGo r ((192,214,1,32) :: _) : Nat) : Int) at hE
 rw [fold_next hz (by decide)] at hE
 change R = if (decide ((192 : Int) ≤ z) && decide (z ≤ (214 : Int))) = true then _ else _ at hE
 refine wp_seq (rangeT_two 3 13 12 192 214 z _ _ _ _ _ _ _ _ 122 _ w _ (by decide) (by decide) (by decide) (by decide) hf ?_)
 clear hf
 intro a1 hf ht
 refine wp_cond_split ht (fun h => ?_) (fun h => ?_)
 ·rw [if_pos h] at hE
  have hlo : 192 ≤ z:=by
   skip
   simp only [Bool.and_eq_true,decide_eq_true_iff] at h
   omega
  refine wp_seq (range_add 4 19 z 32 _ _ _ _ 122 _ w _ (by decide) (by decide) (by omega) (by omega) hf ?_)
  intro b hb hv
  show Code.wp _ Code.ret _ _ _
  refine wp_ret (hret b ⟨hb,hv.trans (congrArg (Value.int .i32) ?_)⟩)
  omega
 rw [h,if_neg (by decide)] at hE
 clear h ht
 change R = ((foldGo r ((216,222,1,32) :: _) : Nat) : Int) at hE
 rw [fold_next hz (by decide)] at hE
 change R = if (decide ((216 : Int) ≤ z) && decide (z ≤ (222 : Int))) = true then _ else _ at hE
 refine wp_seq (rangeT_two 5 22 21 216 222 z _ _ _ _ _ _ _ _ 122 _ w _ (by decide) (by decide) (by decide) (by decide) hf ?_)
 clear hf
 intro a2 hf ht
 refine wp_cond_split ht (fun h => ?_) (fun h => ?_)
 ·rw [if_pos h] at hE
  have hlo : 216 ≤ z:=by
   skip
   simp only [Bool.and_eq_true,decide_eq_true_iff] at h
   omega
  refine wp_seq (range_add 6 28 z 32 _ _ _ _ 122 _ w _ (by decide) (by decide) (by omega) (by omega) hf ?_)
  intro b hb hv
  show Code.wp _ Code.ret _ _ _
  refine wp_ret (hret b ⟨hb,hv.trans (congrArg (Value.int .i32) ?_)⟩)
  omega
 rw [h,if_neg (by decide)] at hE
 clear h ht
 change R = ((foldGo r ((256,302,2,1) :: _) : Nat) : Int) at hE
 rw [fold_next hz (by decide)] at hE
 change R = if (seconds z 256 302) = true then _ else _ at hE
 refine wp_seq (range_second 7 31 30 256 302 z _ _ _ _ 122 _ w _ (by decide) (by decide) (by decide) (by decide) hz0 hz1 (by decide) (by decide) (by decide) (by decide) hf ?_)
 clear hf
 intro a3 hf ht
 refine wp_cond_split ht (fun h => ?_) (fun h => ?_)
 ·rw [if_pos h] at hE
  have hlo : 256 ≤ z:=by
   unfold seconds at h
   simp only [Bool.and_eq_true,decide_eq_true_iff] at h
   omega
  refine wp_seq (range_add 8 33 z 1 _ _ _ _ 122 _ w _ (by decide) (by decide) (by omega) (by omega) hf ?_)
  intro b hb hv
  show Code.wp _ Code.ret _ _ _
  refine wp_ret (hret b ⟨hb,hv.trans (congrArg (Value.int .i32) ?_)⟩)
  omega
 rw [h,if_neg (by decide)] at hE
 clear h ht
 change R = ((foldGo r ((306,310,2,1) :: _) : Nat) : Int) at hE
 rw [fold_next hz (by decide)] at hE
 change R = if (seconds z 306 310) = true then _ else _ at hE
 refine wp_seq (range_second 9 36 35 306 310 z _ _ _ _ 122 _ w _ (by decide) (by decide) (by decide) (by decide) hz0 hz1 (by decide) (by decide) (by decide) (by decide) hf ?_)
 clear hf
 intro a4 hf ht
 refine wp_cond_split ht (fun h => ?_) (fun h => ?_)
 ·rw [if_pos h] at hE
  have hlo : 306 ≤ z:=by
   unfold seconds at h
   simp only [Bool.and_eq_true,decide_eq_true_iff] at h
   omega
  refine wp_seq (range_add 10 38 z 1 _ _ _ _ 122 _ w _ (by decide) (by decide) (by omega) (by omega) hf ?_)
  intro b hb hv
  show Code.wp _ Code.ret _ _ _
  refine wp_ret (hret b ⟨hb,hv.trans (congrArg (Value.int .i32) ?_)⟩)
  omega
 rw [h,if_neg (by decide)] at hE
 clear h ht
 change R = ((foldGo r ((313,327,2,1) :: _) : Nat) : Int) at hE
 rw [fold_next hz (by decide)] at hE
 change R = if (seconds z 313 327) = true then _ else _ at hE
 refine wp_seq (range_second 11 41 40 313 327 z _ _ _ _ 122 _ w _ (by decide) (by decide) (by decide) (by decide) hz0 hz1 (by decide) (by decide) (by decide) (by decide) hf ?_)
 clear hf
 intro a5 hf ht
 refine wp_cond_split ht (fun h => ?_) (fun h => ?_)
 ·rw [if_pos h] at hE
  have hlo : 313 ≤ z:=by
   unfold seconds at h
   simp only [Bool.and_eq_true,decide_eq_true_iff] at h
   omega
  refine wp_seq (range_add 12 43 z 1 _ _ _ _ 122 _ w _ (by decide) (by decide) (by omega) (by omega) hf ?_)
  intro b hb hv
  show Code.wp _ Code.ret _ _ _
  refine wp_ret (hret b ⟨hb,hv.trans (congrArg (Value.int .i32) ?_)⟩)
  omega
 rw [h,if_neg (by decide)] at hE
 clear h ht
 change R = ((foldGo r ((330,374,2,1) :: _) : Nat) : Int) at hE
 rw [fold_next hz (by decide)] at hE
 change R = if (seconds z 330 374) = true then _ else _ at hE
 refine wp_seq (range_second 13 46 45 330 374 z _ _ _ _ 122 _ w _ (by decide) (by decide) (by decide) (by decide) hz0 hz1 (by decide) (by decide) (by decide) (by decide) hf ?_)
 clear hf
 intro a6 hf ht
 refine wp_cond_split ht (fun h => ?_) (fun h => ?_)
 ·rw [if_pos h] at hE
  have hlo : 330 ≤ z:=by
   unfold seconds at h
   simp only [Bool.and_eq_true,decide_eq_true_iff] at h
   omega
  refine wp_seq (range_add 14 48 z 1 _ _ _ _ 122 _ w _ (by decide) (by decide) (by omega) (by omega) hf ?_)
  intro b hb hv
  show Code.wp _ Code.ret _ _ _
  refine wp_ret (hret b ⟨hb,hv.trans (congrArg (Value.int .i32) ?_)⟩)
  omega
 rw [h,if_neg (by decide)] at hE
 clear h ht
 change R = ((foldGo r ((376,376,1, -121) :: _) : Nat) : Int) at hE
 rw [fold_next hz (by decide)] at hE
 change R = if (decide ((376 : Int) ≤ z) && decide (z ≤ (376 : Int))) = true then _ else _ at hE
 refine wp_seq (rangeT_one 15 51 50 376 z _ _ _ _ 122 _ w _ (by decide) (by decide) (by decide) (by decide) hf ?_)
 clear hf
 intro a7 hf ht
 refine wp_cond_split ht (fun h => ?_) (fun h => ?_)
 ·rw [if_pos h] at hE
  have hlo : 376 ≤ z:=by
   skip
   simp only [Bool.and_eq_true,decide_eq_true_iff] at h
   omega
  refine wp_seq (range_sub 16 53 z 121 _ _ _ _ 122 _ w _ (by decide) (by decide) (by omega) (by omega) hf ?_)
  intro b hb hv
  show Code.wp _ Code.ret _ _ _
  refine wp_ret (hret b ⟨hb,hv.trans (congrArg (Value.int .i32) ?_)⟩)
  omega
 rw [h,if_neg (by decide)] at hE
 clear h ht
 change R = ((foldGo r ((377,381,2,1) :: _) : Nat) : Int) at hE
 rw [fold_next hz (by decide)] at hE
 change R = if (seconds z 377 381) = true then _ else _ at hE
 refine wp_seq (range_second 17 56 55 377 381 z _ _ _ _ 122 _ w _ (by decide) (by decide) (by decide) (by decide) hz0 hz1 (by decide) (by decide) (by decide) (by decide) hf ?_)
 clear hf
 intro a8 hf ht
 refine wp_cond_split ht (fun h => ?_) (fun h => ?_)
 ·rw [if_pos h] at hE
  have hlo : 377 ≤ z:=by
   unfold seconds at h
   simp only [Bool.and_eq_true,decide_eq_true_iff] at h
   omega
  refine wp_seq (range_add 18 58 z 1 _ _ _ _ 122 _ w _ (by decide) (by decide) (by omega) (by omega) hf ?_)
  intro b hb hv
  show Code.wp _ Code.ret _ _ _
  refine wp_ret (hret b ⟨hb,hv.trans (congrArg (Value.int .i32) ?_)⟩)
  omega
 rw [h,if_neg (by decide)] at hE
 clear h ht
 change R = ((foldGo r ((383,383,1, -268) :: _) : Nat) : Int) at hE
 rw [fold_next hz (by decide)] at hE
 change R = if (decide ((383 : Int) ≤ z) && decide (z ≤ (383 : Int))) = true then _ else _ at hE
 refine wp_seq (rangeT_one 19 61 60 383 z _ _ _ _ 122 _ w _ (by decide) (by decide) (by decide) (by decide) hf ?_)
 clear hf
 intro a9 hf ht
 refine wp_cond_split ht (fun h => ?_) (fun h => ?_)
 ·rw [if_pos h] at hE
  have hlo : 383 ≤ z:=by
   skip
   simp only [Bool.and_eq_true,decide_eq_true_iff] at h
   omega
  refine wp_seq (range_sub 20 63 z 268 _ _ _ _ 122 _ w _ (by decide) (by decide) (by omega) (by omega) hf ?_)
  intro b hb hv
  show Code.wp _ Code.ret _ _ _
  refine wp_ret (hret b ⟨hb,hv.trans (congrArg (Value.int .i32) ?_)⟩)
  omega
 rw [h,if_neg (by decide)] at hE
 clear h ht
 change R = ((foldGo r ((902,902,1,38) :: _) : Nat) : Int) at hE
 rw [fold_next hz (by decide)] at hE
 change R = if (decide ((902 : Int) ≤ z) && decide (z ≤ (902 : Int))) = true then _ else _ at hE
 refine wp_seq (rangeT_one 21 66 65 902 z _ _ _ _ 122 _ w _ (by decide) (by decide) (by decide) (by decide) hf ?_)
 clear hf
 intro a10 hf ht
 refine wp_cond_split ht (fun h => ?_) (fun h => ?_)
 ·rw [if_pos h] at hE
  have hlo : 902 ≤ z:=by
   skip
   simp only [Bool.and_eq_true,decide_eq_true_iff] at h
   omega
  refine wp_seq (range_add 22 68 z 38 _ _ _ _ 122 _ w _ (by decide) (by decide) (by omega) (by omega) hf ?_)
  intro b hb hv
  show Code.wp _ Code.ret _ _ _
  refine wp_ret (hret b ⟨hb,hv.trans (congrArg (Value.int .i32) ?_)⟩)
  omega
 rw [h,if_neg (by decide)] at hE
 clear h ht
 change R = ((foldGo r ((904,906,1,37) :: _) : Nat) : Int) at hE
 rw [fold_next hz (by decide)] at hE
 change R = if (decide ((904 : Int) ≤ z) && decide (z ≤ (906 : Int))) = true then _ else _ at hE
 refine wp_seq (rangeT_two 23 71 70 904 906 z _ _ _ _ _ _ _ _ 122 _ w _ (by decide) (by decide) (by decide) (by decide) hf ?_)
 clear hf
 intro a11 hf ht
 refine wp_cond_split ht (fun h => ?_) (fun h => ?_)
 ·rw [if_pos h] at hE
  have hlo : 904 ≤ z:=by
   skip
   simp only [Bool.and_eq_true,decide_eq_true_iff] at h
   omega
  refine wp_seq (range_add 24 77 z 37 _ _ _ _ 122 _ w _ (by decide) (by decide) (by omega) (by omega) hf ?_)
  intro b hb hv
  show Code.wp _ Code.ret _ _ _
  refine wp_ret (hret b ⟨hb,hv.trans (congrArg (Value.int .i32) ?_)⟩)
  omega
 rw [h,if_neg (by decide)] at hE
 clear h ht
 change R = ((foldGo r ((908,908,1,64) :: _) : Nat) : Int) at hE
 rw [fold_next hz (by decide)] at hE
 change R = if (decide ((908 : Int) ≤ z) && decide (z ≤ (908 : Int))) = true then _ else _ at hE
 refine wp_seq (rangeT_one 25 80 79 908 z _ _ _ _ 122 _ w _ (by decide) (by decide) (by decide) (by decide) hf ?_)
 clear hf
 intro a12 hf ht
 refine wp_cond_split ht (fun h => ?_) (fun h => ?_)
 ·rw [if_pos h] at hE
  have hlo : 908 ≤ z:=by
   skip
   simp only [Bool.and_eq_true,decide_eq_true_iff] at h
   omega
  refine wp_seq (range_add 26 82 z 64 _ _ _ _ 122 _ w _ (by decide) (by decide) (by omega) (by omega) hf ?_)
  intro b hb hv
  show Code.wp _ Code.ret _ _ _
  refine wp_ret (hret b ⟨hb,hv.trans (congrArg (Value.int .i32) ?_)⟩)
  omega
 rw [h,if_neg (by decide)] at hE
 clear h ht
 change R = ((foldGo r ((910,911,1,63) :: _) : Nat) : Int) at hE
 rw [fold_next hz (by decide)] at hE
 change R = if (decide ((910 : Int) ≤ z) && decide (z ≤ (911 : Int))) = true then _ else _ at hE
 refine wp_seq (rangeT_two 27 85 84 910 911 z _ _ _ _ _ _ _ _ 122 _ w _ (by decide) (by decide) (by decide) (by decide) hf ?_)
 clear hf
 intro a13 hf ht
 refine wp_cond_split ht (fun h => ?_) (fun h => ?_)
 ·rw [if_pos h] at hE
  have hlo : 910 ≤ z:=by
   skip
   simp only [Bool.and_eq_true,decide_eq_true_iff] at h
   omega
  refine wp_seq (range_add 28 91 z 63 _ _ _ _ 122 _ w _ (by decide) (by decide) (by omega) (by omega) hf ?_)
  intro b hb hv
  show Code.wp _ Code.ret _ _ _
  refine wp_ret (hret b ⟨hb,hv.trans (congrArg (Value.int .i32) ?_)⟩)
  omega
 rw [h,if_neg (by decide)] at hE
 clear h ht
 change R = ((foldGo r ((913,929,1,32) :: _) : Nat) : Int) at hE
 rw [fold_next hz (by decide)] at hE
 change R = if (decide ((913 : Int) ≤ z) && decide (z ≤ (929 : Int))) = true then _ else _ at hE
 refine wp_seq (rangeT_two 29 94 93 913 929 z _ _ _ _ _ _ _ _ 122 _ w _ (by decide) (by decide) (by decide) (by decide) hf ?_)
 clear hf
 intro a14 hf ht
 refine wp_cond_split ht (fun h => ?_) (fun h => ?_)
 ·rw [if_pos h] at hE
  have hlo : 913 ≤ z:=by
   skip
   simp only [Bool.and_eq_true,decide_eq_true_iff] at h
   omega
  refine wp_seq (range_add 30 100 z 32 _ _ _ _ 122 _ w _ (by decide) (by decide) (by omega) (by omega) hf ?_)
  intro b hb hv
  show Code.wp _ Code.ret _ _ _
  refine wp_ret (hret b ⟨hb,hv.trans (congrArg (Value.int .i32) ?_)⟩)
  omega
 rw [h,if_neg (by decide)] at hE
 clear h ht
 change R = ((foldGo r ((931,939,1,32) :: _) : Nat) : Int) at hE
 rw [fold_next hz (by decide)] at hE
 change R = if (decide ((931 : Int) ≤ z) && decide (z ≤ (939 : Int))) = true then _ else _ at hE
 refine wp_seq (rangeT_two 31 103 102 931 939 z _ _ _ _ _ _ _ _ 122 _ w _ (by decide) (by decide) (by decide) (by decide) hf ?_)
 clear hf
 intro a15 hf ht
 refine wp_cond_split ht (fun h => ?_) (fun h => ?_)
 ·rw [if_pos h] at hE
  have hlo : 931 ≤ z:=by
   skip
   simp only [Bool.and_eq_true,decide_eq_true_iff] at h
   omega
  refine wp_seq (range_add 32 109 z 32 _ _ _ _ 122 _ w _ (by decide) (by decide) (by omega) (by omega) hf ?_)
  intro b hb hv
  show Code.wp _ Code.ret _ _ _
  refine wp_ret (hret b ⟨hb,hv.trans (congrArg (Value.int .i32) ?_)⟩)
  omega
 rw [h,if_neg (by decide)] at hE
 clear h ht
 change R = ((foldGo r ((962,962,1,1) :: _) : Nat) : Int) at hE
 rw [fold_next hz (by decide)] at hE
 change R = if (decide ((962 : Int) ≤ z) && decide (z ≤ (962 : Int))) = true then _ else _ at hE
 refine wp_seq (rangeT_one 33 112 111 962 z _ _ _ _ 122 _ w _ (by decide) (by decide) (by decide) (by decide) hf ?_)
 clear hf
 intro a16 hf ht
 refine wp_cond_split ht (fun h => ?_) (fun h => ?_)
 ·rw [if_pos h] at hE
  have hlo : 962 ≤ z:=by
   skip
   simp only [Bool.and_eq_true,decide_eq_true_iff] at h
   omega
  refine wp_seq (range_add 34 114 z 1 _ _ _ _ 122 _ w _ (by decide) (by decide) (by omega) (by omega) hf ?_)
  intro b hb hv
  show Code.wp _ Code.ret _ _ _
  refine wp_ret (hret b ⟨hb,hv.trans (congrArg (Value.int .i32) ?_)⟩)
  omega
 rw [h,if_neg (by decide)] at hE
 clear h ht
 change R = ((foldGo r ((984,1006,2,1) :: _) : Nat) : Int) at hE
 rw [fold_next hz (by decide)] at hE
 change R = if (seconds z 984 1006) = true then _ else _ at hE
 refine wp_seq (range_second 35 117 116 984 1006 z _ _ _ _ 122 _ w _ (by decide) (by decide) (by decide) (by decide) hz0 hz1 (by decide) (by decide) (by decide) (by decide) hf ?_)
 clear hf
 intro a17 hf ht
 refine wp_cond_split ht (fun h => ?_) (fun h => ?_)
 ·rw [if_pos h] at hE
  have hlo : 984 ≤ z:=by
   unfold seconds at h
   simp only [Bool.and_eq_true,decide_eq_true_iff] at h
   omega
  refine wp_seq (range_add 36 119 z 1 _ _ _ _ 122 _ w _ (by decide) (by decide) (by omega) (by omega) hf ?_)
  intro b hb hv
  show Code.wp _ Code.ret _ _ _
  refine wp_ret (hret b ⟨hb,hv.trans (congrArg (Value.int .i32) ?_)⟩)
  omega
 rw [h,if_neg (by decide)] at hE
 clear h ht
 refine wp_skip (hend _ ⟨hf,?_⟩)
 rw [hE]
 exact hz
theorem khighC (w : World) (r : Nat) (hc : 1024 ≤ r) (hr : r ≤ 1114111) : Calls Tryz.prog 99 #[.int .i32 (r : Int)] w fun e w' => e = .returned (.int .i32 (foldN r : Int)) ∧ w' = w:=by
 have hE:=congrArg (fun x : Nat => (x : Int)) (fold_high hc)
 change ((foldN r : Nat) : Int) = _ at hE
 obtain ⟨R,hR⟩ : ∃ R : Int,((foldN r : Nat) : Int) = R:=⟨_,rfl⟩
 rw [hR] at hE ⊢
 obtain ⟨z,hz⟩ : ∃ z : Int,(r : Int) = z:=⟨_,rfl⟩
 rw [hz]
 have hz0 : 0 ≤ z:=by omega
 have hz1 : z ≤ 1114111:=by omega
 clear hR
 refine calls_of_wp Tryz.func99 rfl ?_
 refine wp_seq (wp_region_lit (wpList_pure rfl (run_assign_const w _ 2 _ _ _ _ _) (wpList_nil ?_)))
 show (Code.seq _ _).wp _ _ _ _
 refine wp_seq (wp_block ?_)
 generalize hA : Act.put _ _ _ = a0
 have hf : Fr 117 z a0:=by
  rw [← hA]
  exact ⟨by kernel_rfl,by kernel_rfl,rfl⟩
 clear hA
 refine chain_two (fun a1 => Fr 117 z a1 ∧ a1.eval (.tmp 2) = .int .i32 R) (fun a1 => Fr 117 z a1 ∧ R = z) ?_ ?_ ?_
 ·rintro a1 ⟨hg,ht⟩
  try simp only [Exit.inBlock,Exit.then]
  refine bodyPost_ret (v:=.int .i32 R) ?_ hg.2.2 ?_
  ·rw [results_tmp rfl]
   exact congrArg (fun v => Result.ok v w) ht
  ·exact ⟨rfl,rfl⟩
 ·rintro a1 ⟨hg,ht⟩
  show Code.wp _ (Code.seq _ _) _ _ _
  refine wp_seq (range_same 35 116 z _ _ _ 117 _ w _ (by decide) (by decide) hg ?_)
  intro a2 hg2 h2
  show Code.wp _ Code.ret _ _ _
  refine wp_ret ?_
  refine bodyPost_ret (v:=.int .i32 R) ?_ hg2.2.2 ?_
  ·rw [results_tmp rfl]
   refine congrArg (fun v => Result.ok v w) ?_
   rw [ht]
   exact h2
  ·exact ⟨rfl,rfl⟩
 intro Q hret hend
 rw [show foldsR.drop 18 = (1024,1039,1,80) :: (foldsR.drop 18).tail from rfl] at hE
 rw [fold_next hz (by decide)] at hE
 change R = if (decide ((1024 : Int) ≤ z) && decide (z ≤ (1039 : Int))) = true then _ else _ at hE
 refine wp_seq (rangeT_two 1 4 3 1024 1039 z _ _ _ _ _ _ _ _ 117 _ w _ (by decide) (by decide) (by decide) (by decide) hf ?_)
 clear hf
 intro a0 hf ht
 refine wp_cond_split ht (fun h => ?_) (fun h => ?_)
 ·rw [if_pos h] at hE
  have hlo : 1024 ≤ z:=by
   skip
   simp only [Bool.and_eq_true,decide_eq_true_iff] at h
   omega
  refine wp_seq (range_add 2 10 z 80 _ _ _ _ 117 _ w _ (by decide) (by decide) (by omega) (by omega) hf ?_)
  intro b hb hv
  show Code.wp _ Code.ret _ _ _
  refine wp_ret (hret b ⟨hb,hv.trans (congrArg (Value.int .i32) ?_)⟩)
  omega
 rw [h,if_neg (by decide)] at hE
 clear h ht
 change R = ((foldGo r ((1040,1071,1,32) :: _) : Nat) : Int) at hE
 rw [fold_next hz (by decide)] at hE
 change R = if (decide ((1040 : Int) ≤ z) && decide (z ≤ (1071 : Int))) = true then _ else _ at hE
 refine wp_seq (rangeT_two 3 13 12 1040 1071 z _ _ _ _ _ _ _ _ 117 _ w _ (by decide) (by decide) (by decide) (by decide) hf ?_)
 clear hf
 intro a1 hf ht
 refine wp_cond_split ht (fun h => ?_) (fun h => ?_)
 ·rw [if_pos h] at hE
  have hlo : 1040 ≤ z:=by
   skip
   simp only [Bool.and_eq_true,decide_eq_true_iff] at h
   omega
  refine wp_seq (range_add 4 19 z 32 _ _ _ _ 117 _ w _ (by decide) (by decide) (by omega) (by omega) hf ?_)
  intro b hb hv
  show Code.wp _ Code.ret _ _ _
  refine wp_ret (hret b ⟨hb,hv.trans (congrArg (Value.int .i32) ?_)⟩)
  omega
 rw [h,if_neg (by decide)] at hE
 clear h ht
 change R = ((foldGo r ((1120,1152,2,1) :: _) : Nat) : Int) at hE
 rw [fold_next hz (by decide)] at hE
 change R = if (seconds z 1120 1152) = true then _ else _ at hE
 refine wp_seq (range_second 5 22 21 1120 1152 z _ _ _ _ 117 _ w _ (by decide) (by decide) (by decide) (by decide) hz0 hz1 (by decide) (by decide) (by decide) (by decide) hf ?_)
 clear hf
 intro a2 hf ht
 refine wp_cond_split ht (fun h => ?_) (fun h => ?_)
 ·rw [if_pos h] at hE
  have hlo : 1120 ≤ z:=by
   unfold seconds at h
   simp only [Bool.and_eq_true,decide_eq_true_iff] at h
   omega
  refine wp_seq (range_add 6 24 z 1 _ _ _ _ 117 _ w _ (by decide) (by decide) (by omega) (by omega) hf ?_)
  intro b hb hv
  show Code.wp _ Code.ret _ _ _
  refine wp_ret (hret b ⟨hb,hv.trans (congrArg (Value.int .i32) ?_)⟩)
  omega
 rw [h,if_neg (by decide)] at hE
 clear h ht
 change R = ((foldGo r ((1162,1214,2,1) :: _) : Nat) : Int) at hE
 rw [fold_next hz (by decide)] at hE
 change R = if (seconds z 1162 1214) = true then _ else _ at hE
 refine wp_seq (range_second 7 27 26 1162 1214 z _ _ _ _ 117 _ w _ (by decide) (by decide) (by decide) (by decide) hz0 hz1 (by decide) (by decide) (by decide) (by decide) hf ?_)
 clear hf
 intro a3 hf ht
 refine wp_cond_split ht (fun h => ?_) (fun h => ?_)
 ·rw [if_pos h] at hE
  have hlo : 1162 ≤ z:=by
   unfold seconds at h
   simp only [Bool.and_eq_true,decide_eq_true_iff] at h
   omega
  refine wp_seq (range_add 8 29 z 1 _ _ _ _ 117 _ w _ (by decide) (by decide) (by omega) (by omega) hf ?_)
  intro b hb hv
  show Code.wp _ Code.ret _ _ _
  refine wp_ret (hret b ⟨hb,hv.trans (congrArg (Value.int .i32) ?_)⟩)
  omega
 rw [h,if_neg (by decide)] at hE
 clear h ht
 change R = ((foldGo r ((1217,1229,2,1) :: _) : Nat) : Int) at hE
 rw [fold_next hz (by decide)] at hE
 change R = if (seconds z 1217 1229) = true then _ else _ at hE
 refine wp_seq (range_second 9 32 31 1217 1229 z _ _ _ _ 117 _ w _ (by decide) (by decide) (by decide) (by decide) hz0 hz1 (by decide) (by decide) (by decide) (by decide) hf ?_)
 clear hf
 intro a4 hf ht
 refine wp_cond_split ht (fun h => ?_) (fun h => ?_)
 ·rw [if_pos h] at hE
  have hlo : 1217 ≤ z:=by
   unfold seconds at h
   simp only [Bool.and_eq_true,decide_eq_true_iff] at h
   omega
  refine wp_seq (range_add 10 34 z 1 _ _ _ _ 117 _ w _ (by decide) (by decide) (by omega) (by omega) hf ?_)
  intro b hb hv
  show Code.wp _ Code.ret _ _ _
  refine wp_ret (hret b ⟨hb,hv.trans (congrArg (Value.int .i32) ?_)⟩)
  omega
 rw [h,if_neg (by decide)] at hE
 clear h ht
 change R = ((foldGo r ((1232,1326,2,1) :: _) : Nat) : Int) at hE
 rw [fold_next hz (by decide)] at hE
 change R = if (seconds z 1232 1326) = true then _ else _ at hE
 refine wp_seq (range_second 11 37 36 1232 1326 z _ _ _ _ 117 _ w _ (by decide) (by decide) (by decide) (by decide) hz0 hz1 (by decide) (by decide) (by decide) (by decide) hf ?_)
 clear hf
 intro a5 hf ht
 refine wp_cond_split ht (fun h => ?_) (fun h => ?_)
 ·rw [if_pos h] at hE
  have hlo : 1232 ≤ z:=by
   unfold seconds at h
   simp only [Bool.and_eq_true,decide_eq_true_iff] at h
   omega
  refine wp_seq (range_add 12 39 z 1 _ _ _ _ 117 _ w _ (by decide) (by decide) (by omega) (by omega) hf ?_)
  intro b hb hv
  show Code.wp _ Code.ret _ _ _
  refine wp_ret (hret b ⟨hb,hv.trans (congrArg (Value.int .i32) ?_)⟩)
  omega
 rw [h,if_neg (by decide)] at hE
 clear h ht
 change R = ((foldGo r ((1329,1366,1,48) :: _) : Nat) : Int) at hE
 rw [fold_next hz (by decide)] at hE
 change R = if (decide ((1329 : Int) ≤ z) && decide (z ≤ (1366 : Int))) = true then _ else _ at hE
 refine wp_seq (rangeT_two 13 42 41 1329 1366 z _ _ _ _ _ _ _ _ 117 _ w _ (by decide) (by decide) (by decide) (by decide) hf ?_)
 clear hf
 intro a6 hf ht
 refine wp_cond_split ht (fun h => ?_) (fun h => ?_)
 ·rw [if_pos h] at hE
  have hlo : 1329 ≤ z:=by
   skip
   simp only [Bool.and_eq_true,decide_eq_true_iff] at h
   omega
  refine wp_seq (range_add 14 48 z 48 _ _ _ _ 117 _ w _ (by decide) (by decide) (by omega) (by omega) hf ?_)
  intro b hb hv
  show Code.wp _ Code.ret _ _ _
  refine wp_ret (hret b ⟨hb,hv.trans (congrArg (Value.int .i32) ?_)⟩)
  omega
 rw [h,if_neg (by decide)] at hE
 clear h ht
 change R = ((foldGo r ((7680,7828,2,1) :: _) : Nat) : Int) at hE
 rw [fold_next hz (by decide)] at hE
 change R = if (seconds z 7680 7828) = true then _ else _ at hE
 refine wp_seq (range_second 15 51 50 7680 7828 z _ _ _ _ 117 _ w _ (by decide) (by decide) (by decide) (by decide) hz0 hz1 (by decide) (by decide) (by decide) (by decide) hf ?_)
 clear hf
 intro a7 hf ht
 refine wp_cond_split ht (fun h => ?_) (fun h => ?_)
 ·rw [if_pos h] at hE
  have hlo : 7680 ≤ z:=by
   unfold seconds at h
   simp only [Bool.and_eq_true,decide_eq_true_iff] at h
   omega
  refine wp_seq (range_add 16 53 z 1 _ _ _ _ 117 _ w _ (by decide) (by decide) (by omega) (by omega) hf ?_)
  intro b hb hv
  show Code.wp _ Code.ret _ _ _
  refine wp_ret (hret b ⟨hb,hv.trans (congrArg (Value.int .i32) ?_)⟩)
  omega
 rw [h,if_neg (by decide)] at hE
 clear h ht
 change R = ((foldGo r ((7838,7838,1, -7615) :: _) : Nat) : Int) at hE
 rw [fold_next hz (by decide)] at hE
 change R = if (decide ((7838 : Int) ≤ z) && decide (z ≤ (7838 : Int))) = true then _ else _ at hE
 refine wp_seq (rangeT_one 17 56 55 7838 z _ _ _ _ 117 _ w _ (by decide) (by decide) (by decide) (by decide) hf ?_)
 clear hf
 intro a8 hf ht
 refine wp_cond_split ht (fun h => ?_) (fun h => ?_)
 ·rw [if_pos h] at hE
  have hlo : 7838 ≤ z:=by
   skip
   simp only [Bool.and_eq_true,decide_eq_true_iff] at h
   omega
  refine wp_seq (range_sub 18 58 z 7615 _ _ _ _ 117 _ w _ (by decide) (by decide) (by omega) (by omega) hf ?_)
  intro b hb hv
  show Code.wp _ Code.ret _ _ _
  refine wp_ret (hret b ⟨hb,hv.trans (congrArg (Value.int .i32) ?_)⟩)
  omega
 rw [h,if_neg (by decide)] at hE
 clear h ht
 change R = ((foldGo r ((7840,7934,2,1) :: _) : Nat) : Int) at hE
 rw [fold_next hz (by decide)] at hE
 change R = if (seconds z 7840 7934) = true then _ else _ at hE
 refine wp_seq (range_second 19 61 60 7840 7934 z _ _ _ _ 117 _ w _ (by decide) (by decide) (by decide) (by decide) hz0 hz1 (by decide) (by decide) (by decide) (by decide) hf ?_)
 clear hf
 intro a9 hf ht
 refine wp_cond_split ht (fun h => ?_) (fun h => ?_)
 ·rw [if_pos h] at hE
  have hlo : 7840 ≤ z:=by
   unfold seconds at h
   simp only [Bool.and_eq_true,decide_eq_true_iff] at h
   omega
  refine wp_seq (range_add 20 63 z 1 _ _ _ _ 117 _ w _ (by decide) (by decide) (by omega) (by omega) hf ?_)
  intro b hb hv
  show Code.wp _ Code.ret _ _ _
  refine wp_ret (hret b ⟨hb,hv.trans (congrArg (Value.int .i32) ?_)⟩)
  omega
 rw [h,if_neg (by decide)] at hE
 clear h ht
 change R = ((foldGo r ((8486,8486,1, -7517) :: _) : Nat) : Int) at hE
 rw [fold_next hz (by decide)] at hE
 change R = if (decide ((8486 : Int) ≤ z) && decide (z ≤ (8486 : Int))) = true then _ else _ at hE
 refine wp_seq (rangeT_one 21 66 65 8486 z _ _ _ _ 117 _ w _ (by decide) (by decide) (by decide) (by decide) hf ?_)
 clear hf
 intro a10 hf ht
 refine wp_cond_split ht (fun h => ?_) (fun h => ?_)
 ·rw [if_pos h] at hE
  have hlo : 8486 ≤ z:=by
   skip
   simp only [Bool.and_eq_true,decide_eq_true_iff] at h
   omega
  refine wp_seq (range_sub 22 68 z 7517 _ _ _ _ 117 _ w _ (by decide) (by decide) (by omega) (by omega) hf ?_)
  intro b hb hv
  show Code.wp _ Code.ret _ _ _
  refine wp_ret (hret b ⟨hb,hv.trans (congrArg (Value.int .i32) ?_)⟩)
  omega
 rw [h,if_neg (by decide)] at hE
 clear h ht
 change R = ((foldGo r ((8490,8490,1, -8383) :: _) : Nat) : Int) at hE
 rw [fold_next hz (by decide)] at hE
 change R = if (decide ((8490 : Int) ≤ z) && decide (z ≤ (8490 : Int))) = true then _ else _ at hE
 refine wp_seq (rangeT_one 23 71 70 8490 z _ _ _ _ 117 _ w _ (by decide) (by decide) (by decide) (by decide) hf ?_)
 clear hf
 intro a11 hf ht
 refine wp_cond_split ht (fun h => ?_) (fun h => ?_)
 ·rw [if_pos h] at hE
  have hlo : 8490 ≤ z:=by
   skip
   simp only [Bool.and_eq_true,decide_eq_true_iff] at h
   omega
  refine wp_seq (range_sub 24 73 z 8383 _ _ _ _ 117 _ w _ (by decide) (by decide) (by omega) (by omega) hf ?_)
  intro b hb hv
  show Code.wp _ Code.ret _ _ _
  refine wp_ret (hret b ⟨hb,hv.trans (congrArg (Value.int .i32) ?_)⟩)
  omega
 rw [h,if_neg (by decide)] at hE
 clear h ht
 change R = ((foldGo r ((8491,8491,1, -8262) :: _) : Nat) : Int) at hE
 rw [fold_next hz (by decide)] at hE
 change R = if (decide ((8491 : Int) ≤ z) && decide (z ≤ (8491 : Int))) = true then _ else _ at hE
 refine wp_seq (rangeT_one 25 76 75 8491 z _ _ _ _ 117 _ w _ (by decide) (by decide) (by decide) (by decide) hf ?_)
 clear hf
 intro a12 hf ht
 refine wp_cond_split ht (fun h => ?_) (fun h => ?_)
 ·rw [if_pos h] at hE
  have hlo : 8491 ≤ z:=by
   skip
   simp only [Bool.and_eq_true,decide_eq_true_iff] at h
   omega
  refine wp_seq (range_sub 26 78 z 8262 _ _ _ _ 117 _ w _ (by decide) (by decide) (by omega) (by omega) hf ?_)
  intro b hb hv
  show Code.wp _ Code.ret _ _ _
  refine wp_ret (hret b ⟨hb,hv.trans (congrArg (Value.int .i32) ?_)⟩)
  omega
 rw [h,if_neg (by decide)] at hE
 clear h ht
 change R = ((foldGo r ((8544,8559,1,16) :: _) : Nat) : Int) at hE
 rw [fold_next hz (by decide)] at hE
 change R = if (decide ((8544 : Int) ≤ z) && decide (z ≤ (8559 : Int))) = true then _ else _ at hE
 refine wp_seq (rangeT_two 27 81 80 8544 8559 z _ _ _ _ _ _ _ _ 117 _ w _ (by decide) (by decide) (by decide) (by decide) hf ?_)
 clear hf
 intro a13 hf ht
 refine wp_cond_split ht (fun h => ?_) (fun h => ?_)
 ·rw [if_pos h] at hE
  have hlo : 8544 ≤ z:=by
   skip
   simp only [Bool.and_eq_true,decide_eq_true_iff] at h
   omega
  refine wp_seq (range_add 28 87 z 16 _ _ _ _ 117 _ w _ (by decide) (by decide) (by omega) (by omega) hf ?_)
  intro b hb hv
  show Code.wp _ Code.ret _ _ _
  refine wp_ret (hret b ⟨hb,hv.trans (congrArg (Value.int .i32) ?_)⟩)
  omega
 rw [h,if_neg (by decide)] at hE
 clear h ht
 change R = ((foldGo r ((9398,9423,1,26) :: _) : Nat) : Int) at hE
 rw [fold_next hz (by decide)] at hE
 change R = if (decide ((9398 : Int) ≤ z) && decide (z ≤ (9423 : Int))) = true then _ else _ at hE
 refine wp_seq (rangeT_two 29 90 89 9398 9423 z _ _ _ _ _ _ _ _ 117 _ w _ (by decide) (by decide) (by decide) (by decide) hf ?_)
 clear hf
 intro a14 hf ht
 refine wp_cond_split ht (fun h => ?_) (fun h => ?_)
 ·rw [if_pos h] at hE
  have hlo : 9398 ≤ z:=by
   skip
   simp only [Bool.and_eq_true,decide_eq_true_iff] at h
   omega
  refine wp_seq (range_add 30 96 z 26 _ _ _ _ 117 _ w _ (by decide) (by decide) (by omega) (by omega) hf ?_)
  intro b hb hv
  show Code.wp _ Code.ret _ _ _
  refine wp_ret (hret b ⟨hb,hv.trans (congrArg (Value.int .i32) ?_)⟩)
  omega
 rw [h,if_neg (by decide)] at hE
 clear h ht
 change R = ((foldGo r ((65313,65338,1,32) :: _) : Nat) : Int) at hE
 rw [fold_next hz (by decide)] at hE
 change R = if (decide ((65313 : Int) ≤ z) && decide (z ≤ (65338 : Int))) = true then _ else _ at hE
 refine wp_seq (rangeT_two 31 99 98 65313 65338 z _ _ _ _ _ _ _ _ 117 _ w _ (by decide) (by decide) (by decide) (by decide) hf ?_)
 clear hf
 intro a15 hf ht
 refine wp_cond_split ht (fun h => ?_) (fun h => ?_)
 ·rw [if_pos h] at hE
  have hlo : 65313 ≤ z:=by
   skip
   simp only [Bool.and_eq_true,decide_eq_true_iff] at h
   omega
  refine wp_seq (range_add 32 105 z 32 _ _ _ _ 117 _ w _ (by decide) (by decide) (by omega) (by omega) hf ?_)
  intro b hb hv
  show Code.wp _ Code.ret _ _ _
  refine wp_ret (hret b ⟨hb,hv.trans (congrArg (Value.int .i32) ?_)⟩)
  omega
 rw [h,if_neg (by decide)] at hE
 clear h ht
 change R = ((foldGo r ((66560,66599,1,40) :: _) : Nat) : Int) at hE
 rw [fold_next hz (by decide)] at hE
 change R = if (decide ((66560 : Int) ≤ z) && decide (z ≤ (66599 : Int))) = true then _ else _ at hE
 refine wp_seq (rangeT_two 33 108 107 66560 66599 z _ _ _ _ _ _ _ _ 117 _ w _ (by decide) (by decide) (by decide) (by decide) hf ?_)
 clear hf
 intro a16 hf ht
 refine wp_cond_split ht (fun h => ?_) (fun h => ?_)
 ·rw [if_pos h] at hE
  have hlo : 66560 ≤ z:=by
   skip
   simp only [Bool.and_eq_true,decide_eq_true_iff] at h
   omega
  refine wp_seq (range_add 34 114 z 40 _ _ _ _ 117 _ w _ (by decide) (by decide) (by omega) (by omega) hf ?_)
  intro b hb hv
  show Code.wp _ Code.ret _ _ _
  refine wp_ret (hret b ⟨hb,hv.trans (congrArg (Value.int .i32) ?_)⟩)
  omega
 rw [h,if_neg (by decide)] at hE
 clear h ht
 refine wp_skip (hend _ ⟨hf,?_⟩)
 rw [hE]
 exact hz
theorem foldGo_lt (r : Nat) (hr : r < 1114112) : ∀ l : List (Nat × Nat × Nat × Int),(∀ p ∈ l,(0 : Int) ≤ (p.1 : Int) + p.2.2.2 ∧ (p.2.1 : Int) + p.2.2.2 < 1114112) → foldGo r l < 1114112
 | [],_ => hr
 | (a,b,m,d) :: l,h => by
  rw [foldGo]
  have h1:=h (a,b,m,d) List.mem_cons_self
  dsimp only at h1
  split
  ·omega
  ·exact foldGo_lt r hr l (fun p hp => h p (List.mem_cons_of_mem _ hp))
theorem foldN_lt {r : Nat} (hr : r < wrongN) : foldN r < wrongN:=foldGo_lt r hr foldsR (by decide)
theorem foldC (w : World) (r : Nat) (hr : r ≤ 1114111) : Calls Tryz.prog 76 #[.int .i32 (r : Int)] w fun e w' => e = .returned (.int .i32 (foldN r : Int)) ∧ w' = w:=by
 by_cases hc : r < 1024
 ·have HL:=Lib.hid (fun w => klowC w r hc hr)
  have hci : (r : Int) < 1024:=by omega
  generalize ((foldN r : Nat) : Int) = R at *
  go_enter Tryz.func76, Tryz.ntmps76
  go_wp2_with (go_at_call 98; refine (HL.out _).mono ?_; rintro e w' ⟨rfl,rfl⟩)
  go_ret
  exact ⟨rfl,rfl⟩
 ·have HL:=Lib.hid (fun w => khighC w r (by omega) hr)
  have hci : (1024 : Int) ≤ (r : Int):=by omega
  generalize ((foldN r : Nat) : Int) = R at *
  go_enter Tryz.func76, Tryz.ntmps76
  go_wp2_with (go_at_call 99; refine (HL.out _).mono ?_; rintro e w' ⟨rfl,rfl⟩)
  go_ret
  exact ⟨rfl,rfl⟩
end Go.Proofs.YtchdeboialbdiaaGreatDoor
