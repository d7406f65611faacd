/- Texts joined, one behind the other (SWord, SFun). -/
import Derived.Test.YtchdeboialbdiaaGreatDoorSn06
namespace Go.Proofs.YtchdeboialbdiaaGreatDoor
set_option linter.unusedVariables false
set_option linter.unusedSimpArgs false
set_option maxHeartbeats 8000000
set_option maxRecDepth 100000
open Go.RowKit
open Go.Lib hiding intOf
theorem word_hit {r lo hi : Nat} (h : (lo,hi) ∈ wordsR) {z : Int} (hz : (r : Int) = z) (h1 : (lo : Int) ≤ z) (h2 : z ≤ (hi : Int)) : wordB r = true:=by
 unfold wordB
 rw [inRanges_iff]
 exact ⟨_,h,by show lo ≤ r; omega,by show r ≤ hi; omega⟩
theorem word_miss {r : Nat} (h : ∀ p ∈ wordsR,¬ (((p.1 : Nat) : Int) ≤ (r : Int) ∧ (r : Int) ≤ ((p.2 : Nat) : Int))) : wordB r = false:=by
 rw [Bool.eq_false_iff]
 intro hc
 unfold wordB at hc
 rw [inRanges_iff] at hc
 obtain ⟨p,hp,h1,h2⟩:=hc
 exact h p hp ⟨by omega,by omega⟩
theorem wpList_pure {P : Program} {ops : Array Oper} {Q : Exit → Act → World → Prop} {a : Act} {w : World} {rest : List Oper} {o : Oper} {v : Value} (hw : Region.wanted o (yielded ops a.tmps) = true) (hx : (execOp a.eval o).run P w = .ok (.value v) w) (h : wpList P ops Q rest (a.put o.dst v) w) : wpList P ops Q (o :: rest) a w:=by
 unfold wpList
 rw [if_pos hw]
 left
 unfold Oper.wp
 rw [hx]
 exact h
theorem wpList_not {P : Program} {ops : Array Oper} {Q : Exit → Act → World → Prop} {a : Act} {w : World} {rest : List Oper} {o : Oper} (hw : Region.wanted o (yielded ops a.tmps) = false) (h : wpList P ops Q rest (a.put o.dst undef) w) : wpList P ops Q (o :: rest) a w:=by
 unfold wpList
 rw [if_neg (by rw [hw]; decide)]
 exact h
theorem chain_then {c : Code} {P : Program} {Q : Exit → Act → World → Prop} {a : Act} {w : World} (G : Act → Prop) (hfin : ∀ a1,G a1 → Q .normal a1 w) (h : ∀ Q' : Exit → Act → World → Prop,(∀ a1,G a1 → Q' .normal a1 w) → c.wp P Q' a w) : c.wp P Q a w:=h Q hfin
def Fr (n : Nat) (z : Int) (a : Act) : Prop:=a.tmps.size = n ∧ a.eval (.tmp 0) = .int .i32 z ∧ a.defers = []
theorem eval_put {a : Act} {d e : Nat} {v : Value} (hd : d < a.tmps.size) : (a.put (some d) v).eval (.tmp e) = if d = e then v else a.eval (.tmp e):=by
 show ((a.tmps.setIfInBounds d v).getD e undef) = if d = e then v else a.tmps.getD e undef
 simp only [Array.getD_eq_getD_getElem?,Array.getElem?_setIfInBounds]
 by_cases h : d = e
 ·rw [if_pos h,if_pos h,if_pos hd]; rfl
 ·rw [if_neg h,if_neg h]
theorem at_put {a : Act} {d e : Nat} {v : Value} (hd : d < a.tmps.size) : (a.put (some d) v).tmps[e]? = if d = e then some v else a.tmps[e]?:=by
 show ((a.tmps.setIfInBounds d v)[e]?) = _
 rw [Array.getElem?_setIfInBounds]
 by_cases h : d = e
 ·rw [if_pos h,if_pos h,if_pos hd]
 ·rw [if_neg h,if_neg h]
theorem Fr.put {n : Nat} {z : Int} {a : Act} (h : Fr n z a) {d : Nat} (h0 : 0 < d) (hd : d < n) (v : Value) : Fr n z (a.put (some d) v):=by
 obtain ⟨h1,h2,h3⟩:=h
 refine ⟨?_,?_,h3⟩
 ·show (a.tmps.setIfInBounds d v).size = n
  rw [Array.size_setIfInBounds]; exact h1
 ·rw [eval_put (by omega),if_neg (by omega)]; exact h2
section
variable (w : World) (a : Act)
theorem run_move (d t : Nat) (ty : TypeId) (p : String) (e : Array Edge) (g : Option (Nat × Bool)) : (execOp a.eval ⟨some d,.move (.tmp t),ty,p,e,g⟩).run Tryz.prog w = .ok (.value (a.eval (.tmp t))) w:=by go_simp
theorem run_assign (d t : Nat) (ty : TypeId) (p : String) (e : Array Edge) (g : Option (Nat × Bool)) : (execOp a.eval ⟨some d,.assign (.tmp t),ty,p,e,g⟩).run Tryz.prog w = .ok (.value (a.eval (.tmp t))) w:=by go_simp
theorem run_assign_const (d : Nat) (v : Value) (ty : TypeId) (p : String) (e : Array Edge) (g : Option (Nat × Bool)) : (execOp a.eval ⟨some d,.assign (.const v),ty,p,e,g⟩).run Tryz.prog w = .ok (.value v) w:=by go_simp
theorem run_geq (d t : Nat) (z k : Int) (ty : TypeId) (p : String) (e : Array Edge) (g : Option (Nat × Bool)) (h : a.eval (.tmp t) = .int .i32 z) : (execOp a.eval ⟨some d,.binOp .geq 21 (.tmp t) (.const (.int .i32 k)) 21,ty,p,e,g⟩).run Tryz.prog w = .ok (.value (.bool (decide (k ≤ z)))) w:=by
 simp only [execOp,h]
 go_simp
theorem run_leq (d t : Nat) (z k : Int) (ty : TypeId) (p : String) (e : Array Edge) (g : Option (Nat × Bool)) (h : a.eval (.tmp t) = .int .i32 z) : (execOp a.eval ⟨some d,.binOp .leq 21 (.tmp t) (.const (.int .i32 k)) 21,ty,p,e,g⟩).run Tryz.prog w = .ok (.value (.bool (decide (z ≤ k)))) w:=by
 simp only [execOp,h]
 go_simp
theorem run_eql (d t : Nat) (z k : Int) (ty : TypeId) (p : String) (e : Array Edge) (g : Option (Nat × Bool)) (h : a.eval (.tmp t) = .int .i32 z) : (execOp a.eval ⟨some d,.binOp .eql 21 (.tmp t) (.const (.int .i32 k)) 21,ty,p,e,g⟩).run Tryz.prog w = .ok (.value (.bool (z == k))) w:=by
 simp only [execOp,h]
 go_simp
theorem run_pick (d t u : Nat) (b c : Bool) (x : Value) (ty : TypeId) (p : String) (e : Array Edge) (g : Option (Nat × Bool)) (h : a.eval (.tmp t) = .bool b) (hu : b = true → a.eval (.tmp u) = .bool c) : (execOp a.eval ⟨some d,.pick (.tmp t) (.tmp u) (.const (.bool false)),ty,p,e,g⟩).run Tryz.prog w = .ok (.value (.bool (b && c))) w:=by
 cases b with
 | true => simp only [execOp,h]; rw [hu rfl]; go_simp
 | false => simp only [execOp,h]; go_simp
end
theorem range_two (id d : Nat) (lo hi z : Int) (p : String) (e1 e2 e3 e4 e5 e6 e7 : Array Edge) (n : Nat) (a : Act) (w : World) (Q : Exit → Act → World → Prop) (hd : 4 ≤ d) (hn : d + 5 < n) (hf : Fr n z a)
  (h : ∀ a',Fr n z a' → a'.eval (.tmp 3) = .bool (decide (lo ≤ z) && decide (z ≤ hi)) → Q .normal a' w) :
  (Code.region id #[⟨some d,.move (.tmp 0), 21,p,e1,none⟩,⟨some (d + 1),.binOp .geq 21 (.tmp d) (.const (.int .i32 lo)) 21, 4,p,e2,none⟩,⟨some (d + 2),.move (.tmp (d + 1)), 4,p,e3,none⟩,⟨some (d + 3),.move (.tmp 0), 21,p,e4,some (2,true)⟩,⟨some (d + 4),.binOp .leq 21 (.tmp (d + 3)) (.const (.int .i32 hi)) 21, 4,p,e5,some (2,true)⟩,⟨some (d + 5),.pick (.tmp (d + 2)) (.tmp (d + 4)) (.const (.bool false)), 4,p,e6,none⟩,⟨some 3,.assign (.tmp (d + 5)), 4,p,e7,none⟩] false).wp Tryz.prog Q a w:=by
 apply wp_region_lit
 have f1:=hf.put (d:=d) (by omega) (by omega) (.int .i32 z)
 have v1 : (a.put (some d) (.int .i32 z)).eval (.tmp d) = .int .i32 z:=by rw [eval_put (by rw [hf.1]; omega),if_pos rfl]
 refine wpList_pure rfl (run_move w a d 0 _ _ _ _) ?_
 rw [hf.2.1]
 generalize a.put (some d) (.int .i32 z) = a1 at *
 refine wpList_pure rfl (run_geq w a1 (d + 1) d z lo _ _ _ _ v1) ?_
 obtain ⟨b,hb⟩ : ∃ b,decide (lo ≤ z) = b:=⟨_,rfl⟩
 rw [hb]
 have f2:=f1.put (d:=d + 1) (by omega) (by omega) (.bool b)
 have v2 : (a1.put (some (d + 1)) (.bool b)).eval (.tmp (d + 1)) = .bool b:=by rw [eval_put (by rw [f1.1]; omega),if_pos rfl]
 show wpList _ _ _ _ (a1.put (some (d + 1)) (.bool b)) _
 generalize a1.put (some (d + 1)) (.bool b) = a2 at *
 refine wpList_pure rfl (run_move w a2 (d + 2) (d + 1) _ _ _ _) ?_
 rw [v2]
 have f3:=f2.put (d:=d + 2) (by omega) (by omega) (.bool b)
 have v3 : (a2.put (some (d + 2)) (.bool b)).eval (.tmp (d + 2)) = .bool b:=by rw [eval_put (by rw [f2.1]; omega),if_pos rfl]
 have y3 : (a2.put (some (d + 2)) (.bool b)).tmps[d + 2]? = some (.bool b):=by rw [at_put (by rw [f2.1]; omega),if_pos rfl]
 show wpList _ _ _ _ (a2.put (some (d + 2)) (.bool b)) _
 generalize a2.put (some (d + 2)) (.bool b) = a3 at *
 cases b with
 | true =>
  refine wpList_pure (by simp [Region.wanted,yielded,y3]) (run_move w a3 (d + 3) 0 _ _ _ _) ?_
  rw [f3.2.1]
  have f4:=f3.put (d:=d + 3) (by omega) (by omega) (.int .i32 z)
  have v4 : (a3.put (some (d + 3)) (.int .i32 z)).eval (.tmp (d + 3)) = .int .i32 z:=by rw [eval_put (by rw [f3.1]; omega),if_pos rfl]
  have v4' : (a3.put (some (d + 3)) (.int .i32 z)).eval (.tmp (d + 2)) = .bool true:=by rw [eval_put (by rw [f3.1]; omega),if_neg (by omega)]; exact v3
  have y4 : (a3.put (some (d + 3)) (.int .i32 z)).tmps[d + 2]? = some (.bool true):=by rw [at_put (by rw [f3.1]; omega),if_neg (by omega)]; exact y3
  show wpList _ _ _ _ (a3.put (some (d + 3)) (.int .i32 z)) _
  generalize a3.put (some (d + 3)) (.int .i32 z) = a4 at *
  refine wpList_pure (by simp [Region.wanted,yielded,y4]) (run_leq w a4 (d + 4) (d + 3) z hi _ _ _ _ v4) ?_
  obtain ⟨c,hc⟩ : ∃ c,decide (z ≤ hi) = c:=⟨_,rfl⟩
  rw [hc]
  have f5:=f4.put (d:=d + 4) (by omega) (by omega) (.bool c)
  have v5 : (a4.put (some (d + 4)) (.bool c)).eval (.tmp (d + 4)) = .bool c:=by rw [eval_put (by rw [f4.1]; omega),if_pos rfl]
  have v5' : (a4.put (some (d + 4)) (.bool c)).eval (.tmp (d + 2)) = .bool true:=by rw [eval_put (by rw [f4.1]; omega),if_neg (by omega)]; exact v4'
  show wpList _ _ _ _ (a4.put (some (d + 4)) (.bool c)) _
  generalize a4.put (some (d + 4)) (.bool c) = a5 at *
  refine wpList_pure rfl (run_pick w a5 (d + 5) (d + 2) (d + 4) true c undef _ _ _ _ v5' (fun _ => v5)) ?_
  have f6:=f5.put (d:=d + 5) (by omega) (by omega) (.bool (true && c))
  have v6 : (a5.put (some (d + 5)) (.bool (true && c))).eval (.tmp (d + 5)) = .bool (true && c):=by rw [eval_put (by rw [f5.1]; omega),if_pos rfl]
  show wpList _ _ _ _ (a5.put (some (d + 5)) (.bool (true && c))) _
  generalize a5.put (some (d + 5)) (.bool (true && c)) = a6 at *
  refine wpList_pure rfl (run_assign w a6 3 (d + 5) _ _ _ _) ?_
  rw [v6]
  refine wpList_nil (h _ (f6.put (by omega) (by omega) _) ?_)
  rw [eval_put (by rw [f6.1]; omega),if_pos rfl,hb,hc]
 | false =>
  refine wpList_not (by simp [Region.wanted,yielded,y3]) ?_
  have f4:=f3.put (d:=d + 3) (by omega) (by omega) undef
  have v4' : (a3.put (some (d + 3)) undef).eval (.tmp (d + 2)) = .bool false:=by rw [eval_put (by rw [f3.1]; omega),if_neg (by omega)]; exact v3
  have y4 : (a3.put (some (d + 3)) undef).tmps[d + 2]? = some (.bool false):=by rw [at_put (by rw [f3.1]; omega),if_neg (by omega)]; exact y3
  show wpList _ _ _ _ (a3.put (some (d + 3)) undef) _
  generalize a3.put (some (d + 3)) undef = a4 at *
  refine wpList_not (by simp [Region.wanted,yielded,y4]) ?_
  have f5:=f4.put (d:=d + 4) (by omega) (by omega) undef
  have v5' : (a4.put (some (d + 4)) undef).eval (.tmp (d + 2)) = .bool false:=by rw [eval_put (by rw [f4.1]; omega),if_neg (by omega)]; exact v4'
  show wpList _ _ _ _ (a4.put (some (d + 4)) undef) _
  generalize a4.put (some (d + 4)) undef = a5 at *
  refine wpList_pure rfl (run_pick w a5 (d + 5) (d + 2) (d + 4) false false undef _ _ _ _ v5' (fun e => by cases e)) ?_
  have f6:=f5.put (d:=d + 5) (by omega) (by omega) (.bool (false && false))
  have v6 : (a5.put (some (d + 5)) (.bool (false && false))).eval (.tmp (d + 5)) = .bool (false && false):=by rw [eval_put (by rw [f5.1]; omega),if_pos rfl]
  show wpList _ _ _ _ (a5.put (some (d + 5)) (.bool (false && false))) _
  generalize a5.put (some (d + 5)) (.bool (false && false)) = a6 at *
  refine wpList_pure rfl (run_assign w a6 3 (d + 5) _ _ _ _) ?_
  rw [v6]
  refine wpList_nil (h _ (f6.put (by omega) (by omega) _) ?_)
  rw [eval_put (by rw [f6.1]; omega),if_pos rfl,hb]
  rfl
theorem range_one (id d : Nat) (k z : Int) (p : String) (e1 e2 e3 : Array Edge) (n : Nat) (a : Act) (w : World) (Q : Exit → Act → World → Prop) (hd : 4 ≤ d) (hn : d + 1 < n) (hf : Fr n z a)
  (h : ∀ a',Fr n z a' → a'.eval (.tmp 3) = .bool (decide (k ≤ z) && decide (z ≤ k)) → Q .normal a' w) :
  (Code.region id #[⟨some d,.move (.tmp 0), 21,p,e1,none⟩,⟨some (d + 1),.binOp .eql 21 (.tmp d) (.const (.int .i32 k)) 21, 4,p,e2,none⟩,⟨some 3,.assign (.tmp (d + 1)), 4,p,e3,none⟩] false).wp Tryz.prog Q a w:=by
 apply wp_region_lit
 have f1:=hf.put (d:=d) (by omega) (by omega) (.int .i32 z)
 have v1 : (a.put (some d) (.int .i32 z)).eval (.tmp d) = .int .i32 z:=by rw [eval_put (by rw [hf.1]; omega),if_pos rfl]
 refine wpList_pure rfl (run_move w a d 0 _ _ _ _) ?_
 rw [hf.2.1]
 generalize a.put (some d) (.int .i32 z) = a1 at *
 refine wpList_pure rfl (run_eql w a1 (d + 1) d z k _ _ _ _ v1) ?_
 have hk : (z == k) = (decide (k ≤ z) && decide (z ≤ k)):=by
  rw [Bool.eq_iff_iff,beq_iff_eq,Bool.and_eq_true,decide_eq_true_iff,decide_eq_true_iff]
  omega
 rw [hk]
 generalize (decide (k ≤ z) && decide (z ≤ k)) = b at *
 have f2:=f1.put (d:=d + 1) (by omega) (by omega) (.bool b)
 have v2 : (a1.put (some (d + 1)) (.bool b)).eval (.tmp (d + 1)) = .bool b:=by rw [eval_put (by rw [f1.1]; omega),if_pos rfl]
 show wpList _ _ _ _ (a1.put (some (d + 1)) (.bool b)) _
 generalize a1.put (some (d + 1)) (.bool b) = a2 at *
 refine wpList_pure rfl (run_assign w a2 3 (d + 1) _ _ _ _) ?_
 rw [v2]
 refine wpList_nil (h _ (f2.put (by omega) (by omega) _) ?_)
 rw [eval_put (by rw [f2.1]; omega),if_pos rfl]
theorem wordC (w : World) (r : Nat) (hr : r ≤ 1114111) : Calls Tryz.prog 93 #[.int .i32 (r : Int)] w fun e w' => e = .returned (.bool (wordB r)) ∧ Quiet w w':=by
 obtain ⟨z,hz⟩ : ∃ z : Int,(r : Int) = z:=⟨_,rfl⟩
 rw [hz]
 obtain ⟨b,hb⟩ : ∃ b,wordB r = b:=⟨_,rfl⟩
 rw [hb]
 refine calls_of_wp Tryz.func93 rfl ?_
 refine wp_seq (wp_region_lit (wpList_pure rfl (run_assign_const w _ 2 _ _ _ _ _) (wpList_nil ?_)))
 show (Code.seq _ _).wp _ _ _ _
 refine wp_seq (wp_block (wp_seq ?_))
 generalize hA : Act.put _ _ _ = a0
 have hf : Fr 186 z a0:=by
  rw [← hA]
  exact ⟨by kernel_rfl,by kernel_rfl,rfl⟩
 clear hA
 refine chain_then (fun a1 => Fr 186 z a1 ∧ a1.eval (.tmp 3) = .bool b) ?_ ?_
 ·rintro a1 ⟨hg,ht⟩
  show Code.wp _ (Code.cond _ _ _) _ _ _
  have hfin : ∀ x : Bool,b = x → (results Tryz.f93 (a1.put (some 2) (.bool x)).tmps).run Tryz.prog w = .ok (.bool b) w:=fun x hx => by
   rw [results_tmp rfl,hx]
   have:=eval_put (a:=a1) (d:=2) (e:=2) (v:=.bool x) (by rw [hg.1]; decide)
   rw [if_pos rfl] at this
   exact congrArg (fun v => Result.ok v w) this
  refine wp_cond_split ht (fun h => ?_) (fun h => ?_)
  ·refine wp_seq (wp_region_lit (wpList_pure rfl (run_assign_const w _ 2 _ _ _ _ _) (wpList_nil ?_)))
   show Code.wp _ Code.ret _ _ _
   refine wp_ret ?_
   try simp only [Exit.inBlock,Exit.then]
   refine bodyPost_ret (hfin true h) hg.2.2 ?_
   exact ⟨rfl,Quiet.refl _⟩
  ·refine wp_skip ?_
   show Code.wp _ (Code.seq _ _) _ _ _
   refine wp_seq (wp_region_lit (wpList_pure rfl (run_assign_const w _ 2 _ _ _ _ _) (wpList_nil ?_)))
   show Code.wp _ Code.ret _ _ _
   refine wp_ret ?_
   try simp only [Exit.inBlock,Exit.then]
   refine bodyPost_ret (hfin false h) hg.2.2 ?_
   exact ⟨rfl,Quiet.refl _⟩
 intro Q hfin
 refine wp_seq (range_two 1 4 48 57 z _ _ _ _ _ _ _ _ 186 _ w _ (by decide) (by decide) hf ?_)
 clear hf
 intro a0 hf ht
 refine wp_cond_split ht (fun h => ?_) (fun h => ?_)
 ·rw [h] at ht
  exact wp_skip (hfin a0 ⟨hf,ht.trans (by rw [← hb]; exact congrArg Value.bool (word_hit (lo:=48) (hi:=57) (by decide) hz (by simp only [Bool.and_eq_true,decide_eq_true_iff] at h; exact h.1) (by simp only [Bool.and_eq_true,decide_eq_true_iff] at h; exact h.2)).symm)⟩)
 have N0 : ¬ ((48 : Int) ≤ z ∧ z ≤ (57 : Int)):=by
  intro hh
  rw [decide_eq_true hh.1,decide_eq_true hh.2] at h
  cases h
 clear h ht
 refine wp_seq (range_two 2 10 65 90 z _ _ _ _ _ _ _ _ 186 _ w _ (by decide) (by decide) hf ?_)
 clear hf
 intro a1 hf ht
 refine wp_cond_split ht (fun h => ?_) (fun h => ?_)
 ·rw [h] at ht
  exact wp_skip (hfin a1 ⟨hf,ht.trans (by rw [← hb]; exact congrArg Value.bool (word_hit (lo:=65) (hi:=90) (by decide) hz (by simp only [Bool.and_eq_true,decide_eq_true_iff] at h; exact h.1) (by simp only [Bool.and_eq_true,decide_eq_true_iff] at h; exact h.2)).symm)⟩)
 have N1 : ¬ ((65 : Int) ≤ z ∧ z ≤ (90 : Int)):=by
  intro hh
  rw [decide_eq_true hh.1,decide_eq_true hh.2] at h
  cases h
 clear h ht
 refine wp_seq (range_one 3 16 95 z _ _ _ _ 186 _ w _ (by decide) (by decide) hf ?_)
 clear hf
 intro a2 hf ht
 refine wp_cond_split ht (fun h => ?_) (fun h => ?_)
 ·rw [h] at ht
  exact wp_skip (hfin a2 ⟨hf,ht.trans (by rw [← hb]; exact congrArg Value.bool (word_hit (lo:=95) (hi:=95) (by decide) hz (by simp only [Bool.and_eq_true,decide_eq_true_iff] at h; exact h.1) (by simp only [Bool.and_eq_true,decide_eq_true_iff] at h; exact h.2)).symm)⟩)
 have N2 : ¬ ((95 : Int) ≤ z ∧ z ≤ (95 : Int)):=by
  intro hh
  rw [decide_eq_true hh.1,decide_eq_true hh.2] at h
  cases h
 clear h ht
 refine wp_seq (range_two 4 18 97 122 z _ _ _ _ _ _ _ _ 186 _ w _ (by decide) (by decide) hf ?_)
 clear hf
 intro a3 hf ht
 refine wp_cond_split ht (fun h => ?_) (fun h => ?_)
 ·rw [h] at ht
  exact wp_skip (hfin a3 ⟨hf,ht.trans (by rw [← hb]; exact congrArg Value.bool (word_hit (lo:=97) (hi:=122) (by decide) hz (by simp only [Bool.and_eq_true,decide_eq_true_iff] at h; exact h.1) (by simp only [Bool.and_eq_true,decide_eq_true_iff] at h; exact h.2)).symm)⟩)
 have N3 : ¬ ((97 : Int) ≤ z ∧ z ≤ (122 : Int)):=by
  intro hh
  rw [decide_eq_true hh.1,decide_eq_true hh.2] at h
  cases h
 clear h ht
 refine wp_seq (range_one 5 24 170 z _ _ _ _ 186 _ w _ (by decide) (by decide) hf ?_)
 clear hf
 intro a4 hf ht
 refine wp_cond_split ht (fun h => ?_) (fun h => ?_)
 ·rw [h] at ht
  exact wp_skip (hfin a4 ⟨hf,ht.trans (by rw [← hb]; exact congrArg Value.bool (word_hit (lo:=170) (hi:=170) (by decide) hz (by simp only [Bool.and_eq_true,decide_eq_true_iff] at h; exact h.1) (by simp only [Bool.and_eq_true,decide_eq_true_iff] at h; exact h.2)).symm)⟩)
 have N4 : ¬ ((170 : Int) ≤ z ∧ z ≤ (170 : Int)):=by
  intro hh
  rw [decide_eq_true hh.1,decide_eq_true hh.2] at h
  cases h
 clear h ht
 refine wp_seq (range_one 6 26 181 z _ _ _ _ 186 _ w _ (by decide) (by decide) hf ?_)
 clear hf
 intro a5 hf ht
 refine wp_cond_split ht (fun h => ?_) (fun h => ?_)
 ·rw [h] at ht
  exact wp_skip (hfin a5 ⟨hf,ht.trans (by rw [← hb]; exact congrArg Value.bool (word_hit (lo:=181) (hi:=181) (by decide) hz (by simp only [Bool.and_eq_true,decide_eq_true_iff] at h; exact h.1) (by simp only [Bool.and_eq_true,decide_eq_true_iff] at h; exact h.2)).symm)⟩)
 have N5 : ¬ ((181 : Int) ≤ z ∧ z ≤ (181 : Int)):=by
  intro hh
  rw [decide_eq_true hh.1,decide_eq_true hh.2] at h
  cases h
 clear h ht
 refine wp_seq (range_one 7 28 186 z _ _ _ _ 186 _ w _ (by decide) (by decide) hf ?_)
 clear hf
 intro a6 hf ht
 refine wp_cond_split ht (fun h => ?_) (fun h => ?_)
 ·rw [h] at ht
  exact wp_skip (hfin a6 ⟨hf,ht.trans (by rw [← hb]; exact congrArg Value.bool (word_hit (lo:=186) (hi:=186) (by decide) hz (by simp only [Bool.and_eq_true,decide_eq_true_iff] at h; exact h.1) (by simp only [Bool.and_eq_true,decide_eq_true_iff] at h; exact h.2)).symm)⟩)
 have N6 : ¬ ((186 : Int) ≤ z ∧ z ≤ (186 : Int)):=by
  intro hh
  rw [decide_eq_true hh.1,decide_eq_true hh.2] at h
  cases h
 clear h ht
 refine wp_seq (range_two 8 30 192 214 z _ _ _ _ _ _ _ _ 186 _ w _ (by decide) (by decide) hf ?_)
 clear hf
 intro a7 hf ht
 refine wp_cond_split ht (fun h => ?_) (fun h => ?_)
 ·rw [h] at ht
  exact wp_skip (hfin a7 ⟨hf,ht.trans (by rw [← hb]; exact congrArg Value.bool (word_hit (lo:=192) (hi:=214) (by decide) hz (by simp only [Bool.and_eq_true,decide_eq_true_iff] at h; exact h.1) (by simp only [Bool.and_eq_true,decide_eq_true_iff] at h; exact h.2)).symm)⟩)
 have N7 : ¬ ((192 : Int) ≤ z ∧ z ≤ (214 : Int)):=by
  intro hh
  rw [decide_eq_true hh.1,decide_eq_true hh.2] at h
  cases h
 clear h ht
 refine wp_seq (range_two 9 36 216 246 z _ _ _ _ _ _ _ _ 186 _ w _ (by decide) (by decide) hf ?_)
 clear hf
 intro a8 hf ht
 refine wp_cond_split ht (fun h => ?_) (fun h => ?_)
 ·rw [h] at ht
  exact wp_skip (hfin a8 ⟨hf,ht.trans (by rw [← hb]; exact congrArg Value.bool (word_hit (lo:=216) (hi:=246) (by decide) hz (by simp only [Bool.and_eq_true,decide_eq_true_iff] at h; exact h.1) (by simp only [Bool.and_eq_true,decide_eq_true_iff] at h; exact h.2)).symm)⟩)
 have N8 : ¬ ((216 : Int) ≤ z ∧ z ≤ (246 : Int)):=by
  intro hh
  rw [decide_eq_true hh.1,decide_eq_true hh.2] at h
  cases h
 clear h ht
 refine wp_seq (range_two 10 42 248 893 z _ _ _ _ _ _ _ _ 186 _ w _ (by decide) (by decide) hf ?_)
 clear hf
 intro a9 hf ht
 refine wp_cond_split ht (fun h => ?_) (fun h => ?_)
 ·rw [h] at ht
  exact wp_skip (hfin a9 ⟨hf,ht.trans (by rw [← hb]; exact congrArg Value.bool (word_hit (lo:=248) (hi:=893) (by decide) hz (by simp only [Bool.and_eq_true,decide_eq_true_iff] at h; exact h.1) (by simp only [Bool.and_eq_true,decide_eq_true_iff] at h; exact h.2)).symm)⟩)
 have N9 : ¬ ((248 : Int) ≤ z ∧ z ≤ (893 : Int)):=by
  intro hh
  rw [decide_eq_true hh.1,decide_eq_true hh.2] at h
  cases h
 clear h ht
 refine wp_seq (range_two 11 48 895 902 z _ _ _ _ _ _ _ _ 186 _ w _ (by decide) (by decide) hf ?_)
 clear hf
 intro a10 hf ht
 refine wp_cond_split ht (fun h => ?_) (fun h => ?_)
 ·rw [h] at ht
  exact wp_skip (hfin a10 ⟨hf,ht.trans (by rw [← hb]; exact congrArg Value.bool (word_hit (lo:=895) (hi:=902) (by decide) hz (by simp only [Bool.and_eq_true,decide_eq_true_iff] at h; exact h.1) (by simp only [Bool.and_eq_true,decide_eq_true_iff] at h; exact h.2)).symm)⟩)
 have N10 : ¬ ((895 : Int) ≤ z ∧ z ≤ (902 : Int)):=by
  intro hh
  rw [decide_eq_true hh.1,decide_eq_true hh.2] at h
  cases h
 clear h ht
 refine wp_seq (range_two 12 54 904 1327 z _ _ _ _ _ _ _ _ 186 _ w _ (by decide) (by decide) hf ?_)
 clear hf
 intro a11 hf ht
 refine wp_cond_split ht (fun h => ?_) (fun h => ?_)
 ·rw [h] at ht
  exact wp_skip (hfin a11 ⟨hf,ht.trans (by rw [← hb]; exact congrArg Value.bool (word_hit (lo:=904) (hi:=1327) (by decide) hz (by simp only [Bool.and_eq_true,decide_eq_true_iff] at h; exact h.1) (by simp only [Bool.and_eq_true,decide_eq_true_iff] at h; exact h.2)).symm)⟩)
 have N11 : ¬ ((904 : Int) ≤ z ∧ z ≤ (1327 : Int)):=by
  intro hh
  rw [decide_eq_true hh.1,decide_eq_true hh.2] at h
  cases h
 clear h ht
 refine wp_seq (range_two 13 60 1329 1366 z _ _ _ _ _ _ _ _ 186 _ w _ (by decide) (by decide) hf ?_)
 clear hf
 intro a12 hf ht
 refine wp_cond_split ht (fun h => ?_) (fun h => ?_)
 ·rw [h] at ht
  exact wp_skip (hfin a12 ⟨hf,ht.trans (by rw [← hb]; exact congrArg Value.bool (word_hit (lo:=1329) (hi:=1366) (by decide) hz (by simp only [Bool.and_eq_true,decide_eq_true_iff] at h; exact h.1) (by simp only [Bool.and_eq_true,decide_eq_true_iff] at h; exact h.2)).symm)⟩)
 have N12 : ¬ ((1329 : Int) ≤ z ∧ z ≤ (1366 : Int)):=by
  intro hh
  rw [decide_eq_true hh.1,decide_eq_true hh.2] at h
  cases h
 clear h ht
 refine wp_seq (range_two 14 66 1377 1415 z _ _ _ _ _ _ _ _ 186 _ w _ (by decide) (by decide) hf ?_)
 clear hf
 intro a13 hf ht
 refine wp_cond_split ht (fun h => ?_) (fun h => ?_)
 ·rw [h] at ht
  exact wp_skip (hfin a13 ⟨hf,ht.trans (by rw [← hb]; exact congrArg Value.bool (word_hit (lo:=1377) (hi:=1415) (by decide) hz (by simp only [Bool.and_eq_true,decide_eq_true_iff] at h; exact h.1) (by simp only [Bool.and_eq_true,decide_eq_true_iff] at h; exact h.2)).symm)⟩)
 have N13 : ¬ ((1377 : Int) ≤ z ∧ z ≤ (1415 : Int)):=by
  intro hh
  rw [decide_eq_true hh.1,decide_eq_true hh.2] at h
  cases h
 clear h ht
 refine wp_seq (range_two 15 72 1488 1514 z _ _ _ _ _ _ _ _ 186 _ w _ (by decide) (by decide) hf ?_)
 clear hf
 intro a14 hf ht
 refine wp_cond_split ht (fun h => ?_) (fun h => ?_)
 ·rw [h] at ht
  exact wp_skip (hfin a14 ⟨hf,ht.trans (by rw [← hb]; exact congrArg Value.bool (word_hit (lo:=1488) (hi:=1514) (by decide) hz (by simp only [Bool.and_eq_true,decide_eq_true_iff] at h; exact h.1) (by simp only [Bool.and_eq_true,decide_eq_true_iff] at h; exact h.2)).symm)⟩)
 have N14 : ¬ ((1488 : Int) ≤ z ∧ z ≤ (1514 : Int)):=by
  intro hh
  rw [decide_eq_true hh.1,decide_eq_true hh.2] at h
  cases h
 clear h ht
 refine wp_seq (range_two 16 78 1568 1641 z _ _ _ _ _ _ _ _ 186 _ w _ (by decide) (by decide) hf ?_)
 clear hf
 intro a15 hf ht
 refine wp_cond_split ht (fun h => ?_) (fun h => ?_)
 ·rw [h] at ht
  exact wp_skip (hfin a15 ⟨hf,ht.trans (by rw [← hb]; exact congrArg Value.bool (word_hit (lo:=1568) (hi:=1641) (by decide) hz (by simp only [Bool.and_eq_true,decide_eq_true_iff] at h; exact h.1) (by simp only [Bool.and_eq_true,decide_eq_true_iff] at h; exact h.2)).symm)⟩)
 have N15 : ¬ ((1568 : Int) ≤ z ∧ z ≤ (1641 : Int)):=by
  intro hh
  rw [decide_eq_true hh.1,decide_eq_true hh.2] at h
  cases h
 clear h ht
 refine wp_seq (range_two 17 84 2308 2361 z _ _ _ _ _ _ _ _ 186 _ w _ (by decide) (by decide) hf ?_)
 clear hf
 intro a16 hf ht
 refine wp_cond_split ht (fun h => ?_) (fun h => ?_)
 ·rw [h] at ht
  exact wp_skip (hfin a16 ⟨hf,ht.trans (by rw [← hb]; exact congrArg Value.bool (word_hit (lo:=2308) (hi:=2361) (by decide) hz (by simp only [Bool.and_eq_true,decide_eq_true_iff] at h; exact h.1) (by simp only [Bool.and_eq_true,decide_eq_true_iff] at h; exact h.2)).symm)⟩)
 have N16 : ¬ ((2308 : Int) ≤ z ∧ z ≤ (2361 : Int)):=by
  intro hh
  rw [decide_eq_true hh.1,decide_eq_true hh.2] at h
  cases h
 clear h ht
 refine wp_seq (range_two 18 90 3585 3632 z _ _ _ _ _ _ _ _ 186 _ w _ (by decide) (by decide) hf ?_)
 clear hf
 intro a17 hf ht
 refine wp_cond_split ht (fun h => ?_) (fun h => ?_)
 ·rw [h] at ht
  exact wp_skip (hfin a17 ⟨hf,ht.trans (by rw [← hb]; exact congrArg Value.bool (word_hit (lo:=3585) (hi:=3632) (by decide) hz (by simp only [Bool.and_eq_true,decide_eq_true_iff] at h; exact h.1) (by simp only [Bool.and_eq_true,decide_eq_true_iff] at h; exact h.2)).symm)⟩)
 have N17 : ¬ ((3585 : Int) ≤ z ∧ z ≤ (3632 : Int)):=by
  intro hh
  rw [decide_eq_true hh.1,decide_eq_true hh.2] at h
  cases h
 clear h ht
 refine wp_seq (range_two 19 96 4256 4351 z _ _ _ _ _ _ _ _ 186 _ w _ (by decide) (by decide) hf ?_)
 clear hf
 intro a18 hf ht
 refine wp_cond_split ht (fun h => ?_) (fun h => ?_)
 ·rw [h] at ht
  exact wp_skip (hfin a18 ⟨hf,ht.trans (by rw [← hb]; exact congrArg Value.bool (word_hit (lo:=4256) (hi:=4351) (by decide) hz (by simp only [Bool.and_eq_true,decide_eq_true_iff] at h; exact h.1) (by simp only [Bool.and_eq_true,decide_eq_true_iff] at h; exact h.2)).symm)⟩)
 have N18 : ¬ ((4256 : Int) ≤ z ∧ z ≤ (4351 : Int)):=by
  intro hh
  rw [decide_eq_true hh.1,decide_eq_true hh.2] at h
  cases h
 clear h ht
 refine wp_seq (range_two 20 102 7680 8191 z _ _ _ _ _ _ _ _ 186 _ w _ (by decide) (by decide) hf ?_)
 clear hf
 intro a19 hf ht
 refine wp_cond_split ht (fun h => ?_) (fun h => ?_)
 ·rw [h] at ht
  exact wp_skip (hfin a19 ⟨hf,ht.trans (by rw [← hb]; exact congrArg Value.bool (word_hit (lo:=7680) (hi:=8191) (by decide) hz (by simp only [Bool.and_eq_true,decide_eq_true_iff] at h; exact h.1) (by simp only [Bool.and_eq_true,decide_eq_true_iff] at h; exact h.2)).symm)⟩)
 have N19 : ¬ ((7680 : Int) ≤ z ∧ z ≤ (8191 : Int)):=by
  intro hh
  rw [decide_eq_true hh.1,decide_eq_true hh.2] at h
  cases h
 clear h ht
 refine wp_seq (range_two 21 108 12353 12438 z _ _ _ _ _ _ _ _ 186 _ w _ (by decide) (by decide) hf ?_)
 clear hf
 intro a20 hf ht
 refine wp_cond_split ht (fun h => ?_) (fun h => ?_)
 ·rw [h] at ht
  exact wp_skip (hfin a20 ⟨hf,ht.trans (by rw [← hb]; exact congrArg Value.bool (word_hit (lo:=12353) (hi:=12438) (by decide) hz (by simp only [Bool.and_eq_true,decide_eq_true_iff] at h; exact h.1) (by simp only [Bool.and_eq_true,decide_eq_true_iff] at h; exact h.2)).symm)⟩)
 have N20 : ¬ ((12353 : Int) ≤ z ∧ z ≤ (12438 : Int)):=by
  intro hh
  rw [decide_eq_true hh.1,decide_eq_true hh.2] at h
  cases h
 clear h ht
 refine wp_seq (range_two 22 114 12449 12538 z _ _ _ _ _ _ _ _ 186 _ w _ (by decide) (by decide) hf ?_)
 clear hf
 intro a21 hf ht
 refine wp_cond_split ht (fun h => ?_) (fun h => ?_)
 ·rw [h] at ht
  exact wp_skip (hfin a21 ⟨hf,ht.trans (by rw [← hb]; exact congrArg Value.bool (word_hit (lo:=12449) (hi:=12538) (by decide) hz (by simp only [Bool.and_eq_true,decide_eq_true_iff] at h; exact h.1) (by simp only [Bool.and_eq_true,decide_eq_true_iff] at h; exact h.2)).symm)⟩)
 have N21 : ¬ ((12449 : Int) ≤ z ∧ z ≤ (12538 : Int)):=by
  intro hh
  rw [decide_eq_true hh.1,decide_eq_true hh.2] at h
  cases h
 clear h ht
 refine wp_seq (range_two 23 120 13312 19903 z _ _ _ _ _ _ _ _ 186 _ w _ (by decide) (by decide) hf ?_)
 clear hf
 intro a22 hf ht
 refine wp_cond_split ht (fun h => ?_) (fun h => ?_)
 ·rw [h] at ht
  exact wp_skip (hfin a22 ⟨hf,ht.trans (by rw [← hb]; exact congrArg Value.bool (word_hit (lo:=13312) (hi:=19903) (by decide) hz (by simp only [Bool.and_eq_true,decide_eq_true_iff] at h; exact h.1) (by simp only [Bool.and_eq_true,decide_eq_true_iff] at h; exact h.2)).symm)⟩)
 have N22 : ¬ ((13312 : Int) ≤ z ∧ z ≤ (19903 : Int)):=by
  intro hh
  rw [decide_eq_true hh.1,decide_eq_true hh.2] at h
  cases h
 clear h ht
 refine wp_seq (range_two 24 126 19968 40959 z _ _ _ _ _ _ _ _ 186 _ w _ (by decide) (by decide) hf ?_)
 clear hf
 intro a23 hf ht
 refine wp_cond_split ht (fun h => ?_) (fun h => ?_)
 ·rw [h] at ht
  exact wp_skip (hfin a23 ⟨hf,ht.trans (by rw [← hb]; exact congrArg Value.bool (word_hit (lo:=19968) (hi:=40959) (by decide) hz (by simp only [Bool.and_eq_true,decide_eq_true_iff] at h; exact h.1) (by simp only [Bool.and_eq_true,decide_eq_true_iff] at h; exact h.2)).symm)⟩)
 have N23 : ¬ ((19968 : Int) ≤ z ∧ z ≤ (40959 : Int)):=by
  intro hh
  rw [decide_eq_true hh.1,decide_eq_true hh.2] at h
  cases h
 clear h ht
 refine wp_seq (range_two 25 132 44032 55203 z _ _ _ _ _ _ _ _ 186 _ w _ (by decide) (by decide) hf ?_)
 clear hf
 intro a24 hf ht
 refine wp_cond_split ht (fun h => ?_) (fun h => ?_)
 ·rw [h] at ht
  exact wp_skip (hfin a24 ⟨hf,ht.trans (by rw [← hb]; exact congrArg Value.bool (word_hit (lo:=44032) (hi:=55203) (by decide) hz (by simp only [Bool.and_eq_true,decide_eq_true_iff] at h; exact h.1) (by simp only [Bool.and_eq_true,decide_eq_true_iff] at h; exact h.2)).symm)⟩)
 have N24 : ¬ ((44032 : Int) ≤ z ∧ z ≤ (55203 : Int)):=by
  intro hh
  rw [decide_eq_true hh.1,decide_eq_true hh.2] at h
  cases h
 clear h ht
 refine wp_seq (range_two 26 138 63744 64255 z _ _ _ _ _ _ _ _ 186 _ w _ (by decide) (by decide) hf ?_)
 clear hf
 intro a25 hf ht
 refine wp_cond_split ht (fun h => ?_) (fun h => ?_)
 ·rw [h] at ht
  exact wp_skip (hfin a25 ⟨hf,ht.trans (by rw [← hb]; exact congrArg Value.bool (word_hit (lo:=63744) (hi:=64255) (by decide) hz (by simp only [Bool.and_eq_true,decide_eq_true_iff] at h; exact h.1) (by simp only [Bool.and_eq_true,decide_eq_true_iff] at h; exact h.2)).symm)⟩)
 have N25 : ¬ ((63744 : Int) ≤ z ∧ z ≤ (64255 : Int)):=by
  intro hh
  rw [decide_eq_true hh.1,decide_eq_true hh.2] at h
  cases h
 clear h ht
 refine wp_seq (range_two 27 144 65296 65305 z _ _ _ _ _ _ _ _ 186 _ w _ (by decide) (by decide) hf ?_)
 clear hf
 intro a26 hf ht
 refine wp_cond_split ht (fun h => ?_) (fun h => ?_)
 ·rw [h] at ht
  exact wp_skip (hfin a26 ⟨hf,ht.trans (by rw [← hb]; exact congrArg Value.bool (word_hit (lo:=65296) (hi:=65305) (by decide) hz (by simp only [Bool.and_eq_true,decide_eq_true_iff] at h; exact h.1) (by simp only [Bool.and_eq_true,decide_eq_true_iff] at h; exact h.2)).symm)⟩)
 have N26 : ¬ ((65296 : Int) ≤ z ∧ z ≤ (65305 : Int)):=by
  intro hh
  rw [decide_eq_true hh.1,decide_eq_true hh.2] at h
  cases h
 clear h ht
 refine wp_seq (range_two 28 150 65313 65338 z _ _ _ _ _ _ _ _ 186 _ w _ (by decide) (by decide) hf ?_)
 clear hf
 intro a27 hf ht
 refine wp_cond_split ht (fun h => ?_) (fun h => ?_)
 ·rw [h] at ht
  exact wp_skip (hfin a27 ⟨hf,ht.trans (by rw [← hb]; exact congrArg Value.bool (word_hit (lo:=65313) (hi:=65338) (by decide) hz (by simp only [Bool.and_eq_true,decide_eq_true_iff] at h; exact h.1) (by simp only [Bool.and_eq_true,decide_eq_true_iff] at h; exact h.2)).symm)⟩)
 have N27 : ¬ ((65313 : Int) ≤ z ∧ z ≤ (65338 : Int)):=by
  intro hh
  rw [decide_eq_true hh.1,decide_eq_true hh.2] at h
  cases h
 clear h ht
 refine wp_seq (range_two 29 156 65345 65370 z _ _ _ _ _ _ _ _ 186 _ w _ (by decide) (by decide) hf ?_)
 clear hf
 intro a28 hf ht
 refine wp_cond_split ht (fun h => ?_) (fun h => ?_)
 ·rw [h] at ht
  exact wp_skip (hfin a28 ⟨hf,ht.trans (by rw [← hb]; exact congrArg Value.bool (word_hit (lo:=65345) (hi:=65370) (by decide) hz (by simp only [Bool.and_eq_true,decide_eq_true_iff] at h; exact h.1) (by simp only [Bool.and_eq_true,decide_eq_true_iff] at h; exact h.2)).symm)⟩)
 have N28 : ¬ ((65345 : Int) ≤ z ∧ z ≤ (65370 : Int)):=by
  intro hh
  rw [decide_eq_true hh.1,decide_eq_true hh.2] at h
  cases h
 clear h ht
 refine wp_seq (range_two 30 162 65382 65437 z _ _ _ _ _ _ _ _ 186 _ w _ (by decide) (by decide) hf ?_)
 clear hf
 intro a29 hf ht
 refine wp_cond_split ht (fun h => ?_) (fun h => ?_)
 ·rw [h] at ht
  exact wp_skip (hfin a29 ⟨hf,ht.trans (by rw [← hb]; exact congrArg Value.bool (word_hit (lo:=65382) (hi:=65437) (by decide) hz (by simp only [Bool.and_eq_true,decide_eq_true_iff] at h; exact h.1) (by simp only [Bool.and_eq_true,decide_eq_true_iff] at h; exact h.2)).symm)⟩)
 have N29 : ¬ ((65382 : Int) ≤ z ∧ z ≤ (65437 : Int)):=by
  intro hh
  rw [decide_eq_true hh.1,decide_eq_true hh.2] at h
  cases h
 clear h ht
 refine wp_seq (range_two 31 168 66560 66639 z _ _ _ _ _ _ _ _ 186 _ w _ (by decide) (by decide) hf ?_)
 clear hf
 intro a30 hf ht
 refine wp_cond_split ht (fun h => ?_) (fun h => ?_)
 ·rw [h] at ht
  exact wp_skip (hfin a30 ⟨hf,ht.trans (by rw [← hb]; exact congrArg Value.bool (word_hit (lo:=66560) (hi:=66639) (by decide) hz (by simp only [Bool.and_eq_true,decide_eq_true_iff] at h; exact h.1) (by simp only [Bool.and_eq_true,decide_eq_true_iff] at h; exact h.2)).symm)⟩)
 have N30 : ¬ ((66560 : Int) ≤ z ∧ z ≤ (66639 : Int)):=by
  intro hh
  rw [decide_eq_true hh.1,decide_eq_true hh.2] at h
  cases h
 clear h ht
 refine wp_seq (range_two 32 174 119808 120831 z _ _ _ _ _ _ _ _ 186 _ w _ (by decide) (by decide) hf ?_)
 clear hf
 intro a31 hf ht
 refine wp_cond_split ht (fun h => ?_) (fun h => ?_)
 ·rw [h] at ht
  exact wp_skip (hfin a31 ⟨hf,ht.trans (by rw [← hb]; exact congrArg Value.bool (word_hit (lo:=119808) (hi:=120831) (by decide) hz (by simp only [Bool.and_eq_true,decide_eq_true_iff] at h; exact h.1) (by simp only [Bool.and_eq_true,decide_eq_true_iff] at h; exact h.2)).symm)⟩)
 have N31 : ¬ ((119808 : Int) ≤ z ∧ z ≤ (120831 : Int)):=by
  intro hh
  rw [decide_eq_true hh.1,decide_eq_true hh.2] at h
  cases h
 clear h ht
 refine range_two 33 180 131072 195103 z _ _ _ _ _ _ _ _ 186 _ w _ (by decide) (by decide) hf ?_
 clear hf
 intro a32 hf ht
 refine hfin a32 ⟨hf,ht.trans (congrArg Value.bool ?_)⟩
 rw [← hb]
 cases h : (decide ((131072 : Int) ≤ z) && decide (z ≤ (195103 : Int))) with
 | true => exact (word_hit (lo:=131072) (hi:=195103) (by decide) hz (by simp only [Bool.and_eq_true,decide_eq_true_iff] at h; exact h.1) (by simp only [Bool.and_eq_true,decide_eq_true_iff] at h; exact h.2)).symm
 | false =>
  have N32 : ¬ ((131072 : Int) ≤ z ∧ z ≤ (195103 : Int)):=by
   intro hh
   rw [decide_eq_true hh.1,decide_eq_true hh.2] at h
   cases h
  symm
  refine word_miss ?_
  rw [hz]
  simp only [wordsR,List.forall_mem_cons]
  exact ⟨N0,N1,N2,N3,N4,N5,N6,N7,N8,N9,N10,N11,N12,N13,N14,N15,N16,N17,N18,N19,N20,N21,N22,N23,N24,N25,N26,N27,N28,N29,N30,N31,N32,fun p hp => by cases hp⟩
end Go.Proofs.YtchdeboialbdiaaGreatDoor
namespace Go.Proofs.YtchdeboialbdiaaGreatDoor
set_option linter.unusedVariables false
set_option linter.unusedSimpArgs false
set_option maxHeartbeats 8000000
set_option maxRecDepth 100000
open Go.RowKit
open Go.Lib hiding intOf
def OkC (v : Nat) : Prop:=v < wrongN ∨ (wrongN + 128 ≤ v ∧ v < wrongN + 256)
def FunAt (K : Nat → Prop) (w : World) (f : Value) (P : Nat → Bool) : Prop :=
 (∀ k,K k → k < w.heap.size) ∧ ∃ g caps,f = .func (.func g) #[] caps ∧ (∀ args w',(callFunc g args).run Tryz.prog w' = .ok (.enter g args) w') ∧ ∀ w',(∀ k,K k → w'.heap[k]? = w.heap[k]?) → w.heap.size ≤ w'.heap.size → ∀ v,OkC v → Calls Tryz.prog g (#[tokV v] ++ caps) w' fun e w'' => e = .returned (.bool (P v)) ∧ Below w'.heap.size w' w''
theorem FunAt.keep {K : Nat → Prop} {w w1 : World} {f : Value} {P : Nat → Bool} (h : FunAt K w f P) (hk : ∀ k,K k → w1.heap[k]? = w.heap[k]?) (hs : w.heap.size ≤ w1.heap.size) : FunAt K w1 f P:=by
 obtain ⟨h1,g,caps,h2,h3,h4⟩:=h
 exact ⟨fun k hk' => Nat.lt_of_lt_of_le (h1 k hk') hs,g,caps,h2,h3,fun w' ha hb v hv => h4 w' (fun k hk' => (ha k hk').trans (hk k hk')) (Nat.le_trans hs hb) v hv⟩
theorem FunAt.below {K : Nat → Prop} {w w1 : World} {f : Value} {P : Nat → Bool} {B : Nat} (h : FunAt K w f P) (hb : Below B w w1) (hB : w.heap.size ≤ B) : FunAt K w1 f P :=
 h.keep (fun k hk => hb.block k (Nat.lt_of_lt_of_le (h.1 k hk) hB)) hb.size
theorem tokV_right {v : Nat} (h : v < wrongN) : tokV v = .agg #[.int .i32 (v : Int),.int .i64 0]:=by
 unfold tokV tokR tokW
 rw [if_pos h,if_pos h]
 rfl
theorem tokV_wrong {v : Nat} (h : ¬ v < wrongN) : tokV v = .agg #[.int .i32 65533,.int .i64 ((v - wrongN : Nat) : Int)]:=by
 unfold tokV tokR tokW
 rw [if_neg h,if_neg h]
 rfl
theorem el_w (v k : Nat) (hk : k = 119 ∨ k = 87) : elHas (.kind k) v = ((decide (v < wrongN) && wordB v) == decide (k = 119)):=by
 show (if k = 119 then decide (v < wrongN) && wordB v else if k = 87 then !(decide (v < wrongN) && wordB v) else if k = 115 then decide (v < wrongN) && blankB v else !(decide (v < wrongN) && blankB v)) = _
 rcases hk with rfl | rfl <;> cases (decide (v < wrongN) && wordB v) <;> rfl
theorem el_s (v k : Nat) (hk : k = 115 ∨ k = 83) : elHas (.kind k) v = ((decide (v < wrongN) && blankB v) == decide (k = 115)):=by
 show (if k = 119 then decide (v < wrongN) && wordB v else if k = 87 then !(decide (v < wrongN) && wordB v) else if k = 115 then decide (v < wrongN) && blankB v else !(decide (v < wrongN) && blankB v)) = _
 rcases hk with rfl | rfl <;> cases (decide (v < wrongN) && blankB v) <;> rfl
theorem below_box (w : World) (o : Obj) (m : Nat) : Below w.heap.size w ((w.alloc o).drewN m):=((Below.refl _ w).alloc (Nat.le_refl _) _).trans (Quiet.below ⟨m,rfl⟩ _)
theorem one1C (w : World) (g k : Nat) (hk : k = 119 ∨ k = 87) (hg : Row w g 21 [.int .i32 (k : Int)]) (v : Nat) (hv : OkC v) : Calls Tryz.prog 92 #[tokV v,.pointer (some ⟨g,0,none⟩)] w fun e w' => e = .returned (.bool (elHas (.kind k) v)) ∧ Below w.heap.size w w':=by
 have c0 : w.cell? ⟨g,0,none⟩ = some (.int .i32 (k : Int)):=hg.cell 0
 have hgl:=hg.lt
 have hkk : ((k : Int) == 119) = decide (k = 119):=by
  rw [Bool.eq_iff_iff,beq_iff_eq,decide_eq_true_iff]
  omega
 obtain ⟨z,hz⟩ : ∃ z : Int,(k : Int) = z:=⟨_,rfl⟩
 rw [hz] at c0 hkk
 rw [el_w v k hk]
 generalize decide (k = 119) = kb at *
 by_cases hw : v < wrongN
 ·have HW:=Lib.hid (fun w' => wordC w' v (by unfold wrongN at hw; omega))
  rw [decide_eq_true hw,tokV_right hw,Bool.true_and]
  clear hv hg hz hk
  generalize wordB v = b at *
  go_enter Tryz.func92, Tryz.ntmps92
  go_wp2
  go_quiet ((go_at_call 93; exact Calls.quiet_of (HW.out _)))
  go_wp2
  go_ret
  refine ⟨?_,below_box _ _ _⟩
  cases kb <;> rfl
 ·have hv0 : (((v - wrongN : Nat) : Int) == 0) = false:=by
   rw [beq_eq_false_iff_ne]
   unfold OkC at hv
   omega
  obtain ⟨x,hx⟩ : ∃ x : Int,((v - wrongN : Nat) : Int) = x:=⟨_,rfl⟩
  rw [decide_eq_false hw,tokV_wrong hw,Bool.false_and]
  rw [hx] at hv0 ⊢
  clear hv hg hz hk hx hw
  go_enter Tryz.func92, Tryz.ntmps92
  go_wp2
  go_quiet (fail)
  go_wp2
  go_ret
  refine ⟨?_,below_box _ _ _⟩
  cases kb <;> rfl
theorem one2C (w : World) (g k : Nat) (hk : k = 115 ∨ k = 83) (hg : Row w g 21 [.int .i32 (k : Int)]) (v : Nat) (hv : OkC v) : Calls Tryz.prog 94 #[tokV v,.pointer (some ⟨g,0,none⟩)] w fun e w' => e = .returned (.bool (elHas (.kind k) v)) ∧ Below w.heap.size w w':=by
 have c0 : w.cell? ⟨g,0,none⟩ = some (.int .i32 (k : Int)):=hg.cell 0
 have hgl:=hg.lt
 have hkk : ((k : Int) == 115) = decide (k = 115):=by
  rw [Bool.eq_iff_iff,beq_iff_eq,decide_eq_true_iff]
  omega
 obtain ⟨z,hz⟩ : ∃ z : Int,(k : Int) = z:=⟨_,rfl⟩
 rw [hz] at c0 hkk
 rw [el_s v k hk]
 generalize decide (k = 115) = kb at *
 by_cases hw : v < wrongN
 ·have HW:=Lib.hid (fun w' => blankC w' v (by unfold wrongN at hw; omega))
  rw [decide_eq_true hw,tokV_right hw,Bool.true_and]
  clear hv hg hz hk
  generalize blankB v = b at *
  go_enter Tryz.func94, Tryz.ntmps94
  go_wp2
  go_quiet ((go_at_call 95; exact Calls.quiet_of (HW.out _)))
  go_wp2
  go_ret
  refine ⟨?_,below_box _ _ _⟩
  cases kb <;> rfl
 ·have hv0 : (((v - wrongN : Nat) : Int) == 0) = false:=by
   rw [beq_eq_false_iff_ne]
   unfold OkC at hv
   omega
  obtain ⟨x,hx⟩ : ∃ x : Int,((v - wrongN : Nat) : Int) = x:=⟨_,rfl⟩
  rw [decide_eq_false hw,tokV_wrong hw,Bool.false_and]
  rw [hx] at hv0 ⊢
  clear hv hg hz hk hx hw
  go_enter Tryz.func94, Tryz.ntmps94
  go_wp2
  go_quiet (fail)
  go_wp2
  go_ret
  refine ⟨?_,below_box _ _ _⟩
  cases kb <;> rfl
end Go.Proofs.YtchdeboialbdiaaGreatDoor
