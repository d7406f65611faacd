/- Texts joined, one behind the other (SEq, Iter, IterA, SIterG). -/
import Derived.Test.YtchdeboialbdiaaGreatDoorSn38
import Derived.RangeFuncNested
import Derived.RangeFuncBound
import Derived.RangeFuncCalls
import Derived.RangeFuncLeaves
import Derived.Shelf.Abstract
import Derived.Shelf.RegionOpen
import Derived.OwnWalkIn
import Derived.TacticsInMore
import Derived.LoopNIn
import Derived.LoopIn
import Derived.Scope
namespace Go.Proofs.YtchdeboialbdiaaGreatDoor
set_option linter.unusedVariables false
set_option linter.unusedSimpArgs false
set_option maxHeartbeats 8000000
set_option maxRecDepth 100000
open Go.RowKit
open Go.Lib
theorem pc_at {A : List Nat} : ∀ {L : List (Nat × Nat)} {k : Nat} {x : Nat × Nat},L[k]? = some x → (L.flatMap (pcCells A))[k * 2]? = some (.int .i64 ((A.getD x.1 0 : Nat) : Int)) ∧ (L.flatMap (pcCells A))[k * 2 + 1]? = some (.int .i64 ((A.getD x.2 0 : Nat) : Int))
 | [],k,x,h => by simp at h
 | y :: r,0,x,h => by
  simp only [List.getElem?_cons_zero,Option.some.injEq] at h
  subst h
  exact ⟨rfl,rfl⟩
 | y :: r,k + 1,x,h => by
  rw [List.getElem?_cons_succ] at h
  obtain ⟨h1,h2⟩:=pc_at (A:=A) h
  rw [List.flatMap_cons,show (k + 1) * 2 = (pcCells A y).length + k * 2 from by simp [pcCells]; omega,show (pcCells A y).length + k * 2 + 1 = (pcCells A y).length + (k * 2 + 1) from by omega]
  rw [List.getElem?_append_right (by omega),List.getElem?_append_right (by omega)]
  rw [show (pcCells A y).length + k * 2 - (pcCells A y).length = k * 2 by omega,show (pcCells A y).length + (k * 2 + 1) - (pcCells A y).length = k * 2 + 1 by omega]
  exact ⟨h1,h2⟩
theorem PcOwn.at {B : Nat} {a : Option Addr} {n c : Nat} {A : List Nat} {L : List (Nat × Nat)} {w : World} (h : PcOwn B (.slice a n c) A L w) (hn : L.length = n) {k : Nat} (hk : k < n) :
  ∃ g x y,a = some ⟨g,0,none⟩ ∧ g < w.heap.size ∧ w.cell? ⟨g,k * 2,none⟩ = some (.int .i64 x) ∧ w.cell? ⟨g,k * 2 + 1,none⟩ = some (.int .i64 y) ∧ ∃ q,L[k]? = some q ∧ x = ((A.getD q.1 0 : Nat) : Int) ∧ y = ((A.getD q.2 0 : Nat) : Int):=by
 unfold PcOwn at h
 rw [hn] at h
 obtain ⟨g,h1,h2,h3⟩:=own_cell h (by omega)
 have hx : L[k]? = some L[k]:=List.getElem?_eq_getElem (by omega)
 obtain ⟨h4,h5⟩:=pc_at (A:=A) hx
 exact ⟨g,_,_,h1,h2,h3 _ _ h4,h3 _ _ h5,_,hx,rfl,rfl⟩
theorem PcOwn.quiet {B : Nat} {v : Value} {A : List Nat} {L : List (Nat × Nat)} {w w' : World} (h : PcOwn B v A L w) (hq : Quiet w w') : PcOwn B v A L w':=own_below h (hq.below w.heap.size)
theorem PcOwn.take {B : Nat} {a : Option Addr} {n c m : Nat} {A : List Nat} {L : List (Nat × Nat)} {w : World} (h : PcOwn B (.slice a n c) A L w) (hn : L.length = n) (hm : m ≤ n) : PcOwn B (.slice a m c) A (L.take m) w:=by
 have hl : (L.take m).length = m:=by rw [List.length_take]; omega
 have hf : ∀ (X : List (Nat × Nat)),(X.flatMap (pcCells A)).length = X.length * 2:=by
  intro X
  induction X with
  | nil => rfl
  | cons x r ih => rw [List.flatMap_cons,List.length_append,ih,List.length_cons,show (pcCells A x).length = 2 from rfl]; omega
 have hs : L.flatMap (pcCells A) = (L.take m).flatMap (pcCells A) ++ (L.drop m).flatMap (pcCells A):=by rw [← List.flatMap_append,List.take_append_drop]
 unfold PcOwn at h ⊢
 rw [hn] at h
 obtain ⟨h1,h2⟩:=h
 rw [hl]
 refine ⟨by rw [hf,hl],?_⟩
 rcases h2 with ⟨h3,h4⟩ | ⟨g,cap,cur,h3,h4,h5,h6,h7,h8,h9⟩
 ·left
  subst h4
  obtain rfl : m = 0:=by omega
  exact ⟨h3,rfl⟩
 ·cases h3
  refine .inr ⟨g,c,cur,rfl,h4,h5,by omega,h7,h8,?_⟩
  have h10:=congrArg (List.take (m * 2)) h9
  rw [List.take_take,hs,Nat.min_eq_left (by omega)] at h10
  rw [h10,List.take_append_of_le_length (by rw [hf,hl]; exact Nat.le_refl _),List.take_of_length_le (by rw [hf,hl]; exact Nat.le_refl _)]
theorem eqC (w : World) (A : List Nat) (L : List (Nat × Nat)) (B1 B2 : Nat) (a1 a2 : Option Addr) (n c1 c2 : Nat) (h1 : PcOwn B1 (.slice a1 n c1) A L w) (h2 : PcOwn B2 (.slice a2 n c2) A L w) (hn : L.length = n) (hb : n ≤ 1073741824) :
  Calls Tryz.prog 22 #[.slice a1 n c1,.slice a2 n c2] w fun e w' => e = .returned (.bool true) ∧ Quiet w w':=by
 have HA:=Lib.hid h1
 have HB:=Lib.hid h2
 have HN:=Lib.hid hn
 clear h1 h2 hn
 have hne : ((n : Int) != (n : Int)) = false:=by simp
 go_enter Tryz.func22, Tryz.ntmps22
 go_wp2
 go_loopw [5] (fun i wr => ∃ k : Nat,k ≤ n ∧ i = .int .i64 k ∧ Quiet w wr) (fun i _ => n - (RowKit.intOf i).toNat)
 case atStart => exact ⟨0,Nat.zero_le _,rfl,Quiet.refl _⟩
 case round =>
  obtain ⟨k,hk,rfl,hq⟩:=hrel
  by_cases hlt : k < n
  ·obtain ⟨g1,x,y,rfl,g1l,c11,c12,q,hq1,hx1,hy1⟩:=(HA.out.quiet hq).at HN.out hlt
   obtain ⟨g2,x2,y2,rfl,g2l,c21,c22,q2,hq2,hx2,hy2⟩:=(HB.out.quiet hq).at HN.out hlt
   obtain rfl : q = q2:=by rw [hq1] at hq2; exact Option.some.inj hq2
   obtain rfl : x2 = x:=by rw [hx1,hx2]
   obtain rfl : y2 = y:=by rw [hy1,hy2]
   have e1 : (x2 != x2) = false:=by simp
   have e2 : (y2 != y2) = false:=by simp
   have e3 : (x2 == x2) = true:=by simp
   have e4 : (y2 == y2) = true:=by simp
   clear hq1 hq2 hx1 hy1 hx2 hy2
   go_wp2
   go_quiet (fail)
   go_wp2
   go_roundw
   case rel => exact ⟨k + 1,by omega,by go_num,hq.drewN _⟩
   case measure => simp [RowKit.intOf]; omega
  ·obtain rfl : k = n:=by omega
   go_wp2
   go_ret
   exact ⟨rfl,hq⟩
theorem withinC (w : World) (x n : Int) (hn : 1 ≤ n) (hn2 : n ≤ 1073741824) :
  Calls Tryz.prog 23 #[.int .i64 x,.int .i64 n] w fun e w' => (∃ k : Nat,e = .returned (.int .i64 (k : Int)) ∧ (k : Int) < n) ∧ w' = w:=by
 have htl : (x.tmod n).natAbs < n.natAbs:=by rw [Int.natAbs_tmod]; exact Nat.mod_lt _ (by omega)
 obtain ⟨t,ht⟩ : ∃ t,x.tmod n = t:=⟨_,rfl⟩
 rw [ht] at htl
 have h1 : -n < t:=by omega
 have h2 : t < n:=by omega
 have hb0 : ¬ n = 0:=by omega
 by_cases h0 : t < 0
 ·go_enter Tryz.func23, Tryz.ntmps23
  go_wp2
  go_ret
  exact ⟨⟨(t + n).toNat,by rw [Int.toNat_of_nonneg (by omega)]; rfl,by omega⟩,rfl⟩
 ·go_enter Tryz.func23, Tryz.ntmps23
  go_wp2
  go_ret
  exact ⟨⟨t.toNat,by rw [Int.toNat_of_nonneg (by omega)]; rfl,by omega⟩,rfl⟩
end Go.Proofs.YtchdeboialbdiaaGreatDoor
namespace Go.Proofs.YtchdeboialbdiaaGreatDoor
set_option linter.unusedVariables false
set_option linter.unusedSimpArgs false
set_option maxHeartbeats 8000000
set_option maxRecDepth 100000
open Go.RowKit Go.Shelf
def MayTurn (lo hi : Nat) (A : World) (row : Option Nat) : Prop:=∀ r,row = some r → lo ≤ r ∧ (r < hi ∨ ∃ o : Obj,A.heap[r]? = some o ∧ o.isCells = false)
def AbidesC {β : Type} (lo hi : Nat) (J : β → World → Prop) : Prop:=∀ s A A' row,J s A → A.grownBy A' row → MayTurn lo hi A row → J s A'
structure KeepsC (K : Nat → Prop) (lo hi : Nat) (W W' : World) : Prop where
 size : W.heap.size ≤ W'.heap.size
 rows : ∀ r,K r ∨ (lo ≤ r ∧ r < hi) → W'.heap[r]? = W.heap[r]?
 others : ∀ r (o : Obj),lo ≤ r → W.heap[r]? = some o → o.isCells = false → W'.heap[r]? = some o
theorem KeepsC.refl (K : Nat → Prop) (lo hi : Nat) (W : World) : KeepsC K lo hi W W:=⟨Nat.le_refl _,fun _ _ => rfl,fun _ _ _ h _ => h⟩
theorem KeepsC.trans {K : Nat → Prop} {lo hi : Nat} {A B C : World} (h : KeepsC K lo hi A B) (k : KeepsC K lo hi B C) : KeepsC K lo hi A C :=
 ⟨Nat.le_trans h.size k.size,fun r hr => (k.rows r hr).trans (h.rows r hr),fun r o hr ho hc => k.others r o hr (h.others r o hr ho hc) hc⟩
theorem KeepsC.less {K : Nat → Prop} {lo lo' hi : Nat} {A B : World} (h : KeepsC K lo hi A B) (hl : lo ≤ lo') : KeepsC K lo' hi A B :=
 ⟨h.size,fun r hr => h.rows r (hr.imp id (fun h => ⟨by omega,h.2⟩)),fun r o hr ho hc => h.others r o (by omega) ho hc⟩
theorem KeepsC.putObj {K : Nat → Prop} {lo hi : Nat} (W : World) {l : Nat} (o : Obj) (h0 : ¬ K l) (hl : l < lo) : KeepsC K lo hi W (W.putObj l o) :=
 ⟨by simp,fun r hr => World.putObj_heap_other (fun e => by subst e; exact hr.elim h0 (fun h => by omega)),fun r o' hr ho _ => (World.putObj_heap_other (by omega)).trans ho⟩
theorem KeepsC.grown {K : Nat → Prop} {lo hi : Nat} {W W' : World} {row : Option Nat} (hg : W.grownBy W' row) (hn : ∀ r,K r → r < W.heap.size) (hh : hi ≤ W.heap.size) (hr : ∀ r,row = some r → ¬ K r ∧ (r < lo ∨ (hi ≤ r ∧ ∀ o : Obj,W.heap[r]? = some o → o.isCells = true))) : KeepsC K lo hi W W':=by
 refine ⟨hg.size,fun r h => ?_,fun r o hl ho hc => ?_⟩
 ·refine hg.block r (h.elim (hn r) (fun h => by omega)) (fun e => ?_)
  obtain ⟨h1,h2⟩:=hr r e.symm
  rcases h with h | h
  ·exact h1 h
  ·omega
 ·refine (hg.block r (Array.getElem?_eq_some_iff.1 ho).1 (fun e => ?_)).trans ho
  obtain ⟨_,h | ⟨_,h⟩⟩:=hr r e.symm
  ·omega
  ·rw [h o ho] at hc; cases hc
def SeqC {α : Type} (F : Fence) (n : Nat) (P : Program) (g : Nat) (lb : Array Value) (encs : α → Array Value) (K : Nat → Prop) (w0 : World) (S Sp : List α → Prop) : Prop :=
 ∀ (l : Nat) (J Jx : Nat → List α → World → Prop) (W : World),(∀ r,K r → r < w0.heap.size ∧ W.heap[r]? = w0.heap[r]?) → w0.heap.size ≤ W.heap.size →
  (∀ hi,AbidesC W.heap.size hi (J hi)) → (∀ hi,AbidesC W.heap.size hi (Jx hi)) →
  (∀ hi pre x W1,J hi pre W1 → Sp (pre ++ [x]) → W.heap.size ≤ hi → hi ≤ W1.heap.size → YieldAt F (n - 1) P l (encs x) W1 fun e W' =>
   (e = .returned (.bool true) ∧ J hi (pre ++ [x]) W' ∧ KeepsC K W.heap.size hi W1 W') ∨ (e = .returned (.bool false) ∧ Jx hi (pre ++ [x]) W' ∧ KeepsC K W.heap.size hi W1 W')) →
  (∀ hi,W.heap.size ≤ hi → J hi [] W) →
  CallsIn F n P g (#[.func (.yield l) #[] #[]] ++ lb) W fun e W' => (∃ v,e = .returned v) ∧ ∃ hi,W.heap.size ≤ hi ∧ ((∃ xs,S xs ∧ J hi xs W') ∨ (∃ pre,Sp pre ∧ Jx hi pre W'))
def postC {α : Type} (K : Nat → Prop) (lo hi : Nat) (I : Nat → List α → World → Prop) (Ix : Code → Nat → List α → World → Prop) (xs : List α) (W : World) : Exit → Act → World → Prop
 | .normal,_,W' => KeepsC K lo hi W W' ∧ I hi xs W'
 | .ret,_,W' => KeepsC K lo hi W W' ∧ Ix .ret hi xs W'
 | .exit id,_,W' => KeepsC K lo hi W W' ∧ Ix (.exit id) hi xs W'
 | .goto t,_,W' => KeepsC K lo hi W W' ∧ Ix (.goto t) hi xs W'
 | .panic _,_,_ => False
 | .outgrown,_,_ => False
theorem KeepsC.sub {K K' : Nat → Prop} {lo lo' hi : Nat} {A B : World} (h : KeepsC K lo hi A B) (hl : lo ≤ lo') (hK : ∀ r,K' r → lo ≤ r ∧ r < hi) : KeepsC K' lo' hi A B :=
 ⟨h.size,fun r hr => h.rows r (.inr (hr.elim (hK r) (fun h => ⟨by omega,h.2⟩))),fun r o hr ho hc => h.others r o (by omega) ho hc⟩
theorem RoundIn_any {F : Fence} (hd : F.depth = none) {m m' : Nat} {P : Program} {l l' : Nat} {f : FuncId} {tmps : Array Value} {assign body : Code} {w : World} {R : Ending → World → Prop} (h : RoundIn F m P l f tmps assign body w R) : RoundIn (F.inRound l') m' P l f tmps assign body w R :=
 ⟨h.1,fun c cs _ => h.2 c cs (fun d e => by rw [hd] at e; cases e)⟩
theorem grown_other {W W' : World} {row : Option Nat} {k : Nat} {o : Obj} (hg : W.grownBy W' row) (h : W.heap[k]? = some o) (hk : ∀ r,row = some r → r ≠ k) : W'.heap[k]? = some o :=
 (hg.block k (Array.getElem?_eq_some_iff.1 h).1 (fun e => hk k e.symm rfl)).trans h
variable {F : Fence} {n : Nat} {P : Program}
theorem wpIn_rangeFunc_C {α : Type} {g : Operand} {ps : Array Tmp} {assign body : Code} {Q : Exit → Act → World → Prop} {a : Act} {w : World}
  (hro : F.round = none) (h1 : 1 ≤ n) {gf : Nat} {lb : Array Value} (hg : a.eval g = .func (.func gf) #[] lb) (hFg : F.fn gf) (eg : ∀ args w,(callFunc gf args).run P w = .ok (.enter gf args) w)
  {encs : α → Array Value} {K : Nat → Prop} {w0 : World} {S Sp : List α → Prop} (hseq : SeqC F (n - 1) P gf lb encs K w0 S Sp)
  (hb0 : ∀ r,K r → r < w0.heap.size ∧ w.heap[r]? = w0.heap[r]?) (hn0 : w0.heap.size ≤ w.heap.size) (hps : ∀ x,(encs x).size = ps.size)
  (I : Nat → List α → World → Prop) (Ix : Code → Nat → List α → World → Prop)
  (hI : ∀ hi,AbidesC w.heap.size hi (I hi)) (hIx : ∀ c hi,AbidesC w.heap.size hi (Ix c hi))
  (h0 : ∀ hi,w.heap.size ≤ hi → I hi [] w) (a₁ : α → Act)
  (hassign : ∀ (l : Nat) (x : α) (W : World) (Kc : Act → World → Prop),Kc (a₁ x) W →
   assign.wpIn (F.inRound l) (n - 1 - 1) P (Exit.then Kc (fun _ _ _ => False)) { tmps:=(ps.zip (encs x)).foldl (fun t (p,v) => t.setIfInBounds p v) a.tmps,defers:=[] } W)
  (hbody : ∀ (l hi : Nat) (pre : List α) (x : α) (W : World),w.heap.size + 2 ≤ hi → hi ≤ W.heap.size → Sp (pre ++ [x]) → I hi pre W → body.wpIn (F.inRound l) (n - 1 - 1) P (postC K w.heap.size hi I Ix (pre ++ [x]) W) (a₁ x) W)
  (hdone : ∀ (D hi : Nat) (xs : List α) (W : World),w.heap.size ≤ D → D < hi → S xs → I hi xs W → W.heap[D]? = some (.deferred (some [])) → Q .normal { a with defers:={ target:=.collected D,args:=#[] } :: a.defers } W)
  (hstop : ∀ (D hi : Nat) (c : Code) (pre : List α) (W : World),w.heap.size ≤ D → D < hi → Sp pre → Ix c hi pre W → W.heap[D]? = some (.deferred (some [])) → c.wpIn F n P Q { a with defers:={ target:=.collected D,args:=#[] } :: a.defers } W) :
  (Code.rangeFunc g ps assign body).wpIn F n P Q a w:=by
 refine wpIn_rangeFunc ?_
 intro fn hfn
 rw [hro]
 obtain ⟨L,hL⟩ : ∃ L : LoopState → Option Code → Loop,L = fun st pe => { state:=st,pending:=pe,fn,tmps:=a.tmps,params:=ps,assign,body,defers:=w.heap.size }:=⟨_,rfl⟩
 obtain ⟨s,hs⟩ : ∃ s,s = w.heap.size:=⟨_,rfl⟩
 obtain ⟨W1,hW1⟩ : ∃ W1,W1 = (w.alloc (.deferred (some []))).alloc (.loop (L .ready none)):=⟨_,rfl⟩
 have z1 : W1.heap.size = s + 2:=by rw [hW1,hs]; simp
 have r1 : W1.heap[s + 1]? = some (.loop (L .ready none)):=by
  rw [hW1,hs]
  have:=World.alloc_heap_new (w.alloc (.deferred (some []))) (.loop (L .ready none))
  rwa [World.size_alloc] at this
 have d1 : W1.heap[s]? = some (.deferred (some [])):=by
  rw [hW1,hs]; exact (Below.heap_alloc _ _ _ (by simp)).trans (World.alloc_heap_new w _)
 have turn0 : ∀ (hi : Nat) (A : World),MayTurn w.heap.size hi A none:=fun _ _ r e => by cases e
 have i1 : ∀ hi,W1.heap.size ≤ hi → I hi [] W1:=by
  intro hi hh
  rw [hW1]
  exact hI hi _ _ _ none (hI hi _ _ _ none (h0 hi (by omega)) (World.grownBy_alloc w _ none) (turn0 _ _)) (World.grownBy_alloc _ _ none) (turn0 _ _)
 have hKw : ∀ r,K r → r < s:=fun r hr => by have:=(hb0 r hr).1; omega
 have b1 : ∀ r,K r → r < w0.heap.size ∧ W1.heap[r]? = w0.heap[r]?:=fun r hr => by
  refine ⟨(hb0 r hr).1,?_⟩
  rw [hW1,← (hb0 r hr).2]
  have:=hKw r hr
  exact (Below.heap_alloc _ _ _ (by simp; omega)).trans (Below.heap_alloc _ _ _ (by omega))
 have nK : ¬ K (s + 1):=fun h => by have:=hKw _ h; omega
 have step : ∀ {β : Type} {J : β → World → Prop} {hi : Nat},AbidesC w.heap.size hi J → ∀ s' (A A' : World) (row : Option Nat),J s' A → A.grownBy A' row → MayTurn W1.heap.size hi A row → J s' A' :=
  fun hJ s' A A' row hj hgr hm => hJ s' A A' row hj hgr (fun r e => ⟨by have:=(hm r e).1; omega,(hm r e).2⟩)
 have past : ∀ {hi : Nat} {A : World} {row : Option Nat},MayTurn W1.heap.size hi A row → ∀ k,k < s + 2 → ∀ r,row = some r → r ≠ k:=fun hm k hk r e => by have:=(hm r e).1; omega
 refine ⟨s + 1,[{ target:=.collected s,args:=#[] }],W1, { target:=.fn (.func gf) lb,args:=#[.func (.yield (s + 1)) #[] #[]] },W1,gf,
  #[.func (.yield (s + 1)) #[] #[]] ++ lb,W1,?_,?_,?_,?_,fun _ => h1,?_⟩
 ·rw [hW1,hL,hs]; exact run_enterLoop_outer _ _ _ _ _
 ·simp only [resolve,hg]
  simp [go_sem]
 ·intro f' hf'; simp [Target.leads] at hf'; subst hf'; exact hFg
 ·simp [invoke,go_sem,eg]
 ·refine (hseq (s + 1)
   (fun hi pre W => I hi pre W ∧ W.heap[s + 1]? = some (.loop (L .ready none)) ∧ W.heap[s]? = some (.deferred (some [])))
   (fun hi pre W => ∃ c,Ix c hi pre W ∧ W.heap[s + 1]? = some (.loop (L .done (some c))) ∧ W.heap[s]? = some (.deferred (some [])))
   W1 b1 (by omega)
   (fun hi p A A' row hj hgr hm => ⟨step (hI hi) p A A' row hj.1 hgr hm,grown_other hgr hj.2.1 (past hm _ (by omega)),grown_other hgr hj.2.2 (past hm _ (by omega))⟩)
   (fun hi p A A' row hj hgr hm => by
    obtain ⟨c,h1,h2,h3⟩:=hj
    exact ⟨c,step (hIx c hi) p A A' row h1 hgr hm,grown_other hgr h2 (past hm _ (by omega)),grown_other hgr h3 (past hm _ (by omega))⟩)
   ?_ (fun hi hh => ⟨i1 hi hh,r1,d1⟩)).mono ?_
  ·rintro hi pre x W ⟨hi0,hl,hk⟩ hsp hlo hhi
   have hlt : s + 1 < W.heap.size:=(Array.getElem?_eq_some_iff.1 hl).1
   have hy:=run_yield (P:=P) (args:=encs x) hl (by rw [hL]; exact hps x)
   rw [hL] at hy
   refine ⟨fn,_,assign,body,hy,roundIn_of_wpIn hfn (hassign _ x W _ ⟨_,run_beginRound hl (by rw [hL]),?_⟩)⟩
   obtain ⟨Wb,hWb⟩ : ∃ Wb,Wb = W.putObj (s + 1) (.loop { L .ready none with state:=.busy }):=⟨_,rfl⟩
   have hl2 : Wb.heap[s + 1]? = some (.loop { L .ready none with state:=.busy }):=by rw [hWb]; exact World.putObj_heap_same hlt
   have hk2 : Wb.heap[s]? = some (.deferred (some [])):=by rw [hWb]; exact (World.putObj_heap_other (by omega)).trans hk
   have zb : Wb.heap.size = W.heap.size:=by rw [hWb]; simp
   have turnL : ∀ (A : World) (o : Obj),A.heap[s + 1]? = some o → o.isCells = false → MayTurn w.heap.size hi A (some (s + 1)):=fun A o ho hc r e => by cases e; exact ⟨by omega,.inr ⟨o,ho,hc⟩⟩
   have hib : I hi pre Wb:=by rw [hWb]; exact hI hi _ _ _ _ hi0 (grownBy_putObj' W (s + 1) _) (turnL W _ hl rfl)
   have kb : KeepsC K W1.heap.size hi W Wb:=by rw [hWb]; exact KeepsC.putObj W _ nK (by omega)
   have hlo2 : w.heap.size + 2 ≤ hi:=by omega
   have hbd:=hbody (s + 1) hi pre x Wb hlo2 (by omega) hsp hib
   rw [hWb] at hbd
   refine wpIn_mono hbd ?_
   rw [← hWb]
   have fin : ∀ (jump : Option Code) (W3 : World),KeepsC K w.heap.size hi Wb W3 →
     (Instr.endRound (s + 1) jump).run P W3 = .ok (.bool jump.isNone) (W3.putObj (s + 1) (.loop (L (if jump.isNone then .ready else .done) jump))) ∧
     MayTurn w.heap.size hi W3 (some (s + 1)) ∧
     (W3.putObj (s + 1) (.loop (L (if jump.isNone then .ready else .done) jump))).heap[s + 1]? = some (.loop (L (if jump.isNone then .ready else .done) jump)) ∧
     (W3.putObj (s + 1) (.loop (L (if jump.isNone then .ready else .done) jump))).heap[s]? = some (.deferred (some [])) ∧
     KeepsC K W1.heap.size hi W3 (W3.putObj (s + 1) (.loop (L (if jump.isNone then .ready else .done) jump))):=fun jump W3 hk3 => by
    have hl3 : W3.heap[s + 1]? = some (.loop { L .ready none with state:=.busy }):=(hk3.rows _ (.inr ⟨by omega,by omega⟩)).trans hl2
    have hr:=run_endRound (P:=P) jump hl3
    have e1 : ({ { L .ready none with state:=.busy } with state:=if jump.isNone then .ready else .done,pending:=jump } : Loop) = L (if jump.isNone then .ready else .done) jump:=by rw [hL]
    rw [e1] at hr
    exact ⟨hr,turnL W3 _ hl3 rfl,World.putObj_heap_same (Array.getElem?_eq_some_iff.1 hl3).1,(World.putObj_heap_other (by omega)).trans ((hk3.rows _ (.inr ⟨by omega,by omega⟩)).trans hk2),KeepsC.putObj W3 _ nK (by omega)⟩
   rintro e a3 W3 hp
   cases e with
   | normal =>
    obtain ⟨hk3,hi3⟩:=hp
    obtain ⟨hr,ht,hl4,hk4,hk5⟩:=fin none W3 hk3
    exact ⟨_,_,hr,.inl ⟨rfl,⟨hI hi _ _ _ _ hi3 (grownBy_putObj' W3 (s + 1) _) ht,hl4,hk4⟩,kb.trans ((hk3.less (by omega)).trans hk5)⟩⟩
   | ret =>
    obtain ⟨hk3,hi3⟩:=hp
    obtain ⟨hr,ht,hl4,hk4,hk5⟩:=fin (some .ret) W3 hk3
    exact ⟨_,_,hr,.inr ⟨rfl,⟨.ret,hIx _ hi _ _ _ _ hi3 (grownBy_putObj' W3 (s + 1) _) ht,hl4,hk4⟩,kb.trans ((hk3.less (by omega)).trans hk5)⟩⟩
   | exit id =>
    obtain ⟨hk3,hi3⟩:=hp
    obtain ⟨hr,ht,hl4,hk4,hk5⟩:=fin (some (.exit id)) W3 hk3
    exact ⟨_,_,hr,.inr ⟨rfl,⟨.exit id,hIx _ hi _ _ _ _ hi3 (grownBy_putObj' W3 (s + 1) _) ht,hl4,hk4⟩,kb.trans ((hk3.less (by omega)).trans hk5)⟩⟩
   | goto t =>
    obtain ⟨hk3,hi3⟩:=hp
    obtain ⟨hr,ht,hl4,hk4,hk5⟩:=fin (some (.goto t)) W3 hk3
    exact ⟨_,_,hr,.inr ⟨rfl,⟨.goto t,hIx _ hi _ _ _ _ hi3 (grownBy_putObj' W3 (s + 1) _) ht,hl4,hk4⟩,kb.trans ((hk3.less (by omega)).trans hk5)⟩⟩
   | panic ch => exact hp.elim
   | outgrown => exact hp.elim
  ·rintro e W2 ⟨⟨v,rfl⟩,hi,hlo,(⟨xs,hS,hi2,hl,hk⟩ | ⟨pre,hSp,c,hi2,hl,hk⟩)⟩
   ·have ht : MayTurn w.heap.size hi W2 (some (s + 1)):=fun r e => by cases e; exact ⟨by omega,.inr ⟨_,hl,rfl⟩⟩
    have hr:=run_endLoop (P:=P) hl (by rw [hL]; simp)
    obtain ⟨o3,ho3⟩ : ∃ o3 : Obj,o3 = .loop { L .ready none with state:=.exhausted }:=⟨_,rfl⟩
    rw [← ho3] at hr
    have e2 : (L .ready none).pending = none:=by rw [hL]
    rw [e2] at hr
    refine ⟨none,_,hr,?_⟩
    have:=hdone s hi xs _ (by omega) (by omega) hS (hI hi _ _ _ _ hi2 (grownBy_putObj' W2 (s + 1) o3) ht) ((World.putObj_heap_other (by omega)).trans hk)
    exact this
   ·have ht : MayTurn w.heap.size hi W2 (some (s + 1)):=fun r e => by cases e; exact ⟨by omega,.inr ⟨_,hl,rfl⟩⟩
    have hr:=run_endLoop (P:=P) hl (by rw [hL]; simp)
    obtain ⟨o3,ho3⟩ : ∃ o3 : Obj,o3 = .loop { L .done (some c) with state:=.exhausted }:=⟨_,rfl⟩
    rw [← ho3] at hr
    have e2 : (L .done (some c)).pending = some c:=by rw [hL]
    rw [e2] at hr
    refine ⟨some c,_,hr,?_⟩
    exact hstop s hi c pre _ (by omega) (by omega) hSp (hIx c hi _ _ _ _ hi2 (grownBy_putObj' W2 (s + 1) o3) ht) ((World.putObj_heap_other (by omega)).trans hk)
end Go.Proofs.YtchdeboialbdiaaGreatDoor
namespace Go.Proofs.YtchdeboialbdiaaGreatDoor
set_option linter.unusedVariables false
set_option linter.unusedSimpArgs false
set_option maxHeartbeats 8000000
set_option maxRecDepth 100000
open Go.RowKit Go.Shelf
theorem KeepsC.sub2 {K K' : Nat → Prop} {lo lo' hi : Nat} {A B : World} (h : KeepsC K lo hi A B) (hl : lo ≤ lo') (hK : ∀ r,K' r → K r ∨ (lo ≤ r ∧ r < hi)) : KeepsC K' lo' hi A B :=
 ⟨h.size,fun r hr => h.rows r (hr.elim (hK r) (fun h => .inr ⟨by omega,h.2⟩)),fun r o hr ho hc => h.others r o (by omega) ho hc⟩
variable {F : Fence} {n : Nat} {P : Program}
theorem wpIn_rangeFunc_A {α : Type} {g : Operand} {ps : Array Tmp} {assign body : Code} {Q : Exit → Act → World → Prop} {a : Act} {w : World}
  (hro : F.round = none) (h1 : 1 ≤ n) {gf : Nat} {lb : Array Value} (hg : a.eval g = .func (.func gf) #[] lb) (hFg : F.fn gf) (eg : ∀ args w,(callFunc gf args).run P w = .ok (.enter gf args) w)
  {encs : α → Array Value} {K : Nat → Prop} {w0 : World} {S Sp : List α → Prop} (hseq : SeqC F (n - 1) P gf lb encs K w0 S Sp)
  (hb0 : ∀ r,K r → r < w0.heap.size ∧ w.heap[r]? = w0.heap[r]?) (hn0 : w0.heap.size ≤ w.heap.size) (hps : ∀ x,(encs x).size = ps.size)
  (I : Nat → List α → World → Prop) (Ix : Code → Nat → List α → World → Prop)
  (hI : ∀ hi,AbidesC w.heap.size hi (I hi)) (hIx : ∀ c hi,AbidesC w.heap.size hi (Ix c hi))
  (h0 : ∀ hi,w.heap.size ≤ hi → I hi [] w) (ob : α → Obj) (a₁ : α → Nat → Act)
  (hassign : ∀ (l : Nat) (x : α) (W : World) (Kc : Act → World → Prop),Kc (a₁ x W.heap.size) (W.alloc (ob x)) →
   assign.wpIn (F.inRound l) (n - 1 - 1) P (Exit.then Kc (fun _ _ _ => False)) { tmps:=(ps.zip (encs x)).foldl (fun t (p,v) => t.setIfInBounds p v) a.tmps,defers:=[] } W)
  (hbody : ∀ (l hi g : Nat) (pre : List α) (x : α) (W : World),w.heap.size + 2 ≤ hi → hi ≤ g → W.heap[g]? = some (ob x) → Sp (pre ++ [x]) → I hi pre W → body.wpIn (F.inRound l) (n - 1 - 1) P (postC K w.heap.size hi I Ix (pre ++ [x]) W) (a₁ x g) W)
  (hdone : ∀ (D hi : Nat) (xs : List α) (W : World),w.heap.size ≤ D → D < hi → S xs → I hi xs W → W.heap[D]? = some (.deferred (some [])) → Q .normal { a with defers:={ target:=.collected D,args:=#[] } :: a.defers } W)
  (hstop : ∀ (D hi : Nat) (c : Code) (pre : List α) (W : World),w.heap.size ≤ D → D < hi → Sp pre → Ix c hi pre W → W.heap[D]? = some (.deferred (some [])) → c.wpIn F n P Q { a with defers:={ target:=.collected D,args:=#[] } :: a.defers } W) :
  (Code.rangeFunc g ps assign body).wpIn F n P Q a w:=by
 refine wpIn_rangeFunc ?_
 intro fn hfn
 rw [hro]
 obtain ⟨L,hL⟩ : ∃ L : LoopState → Option Code → Loop,L = fun st pe => { state:=st,pending:=pe,fn,tmps:=a.tmps,params:=ps,assign,body,defers:=w.heap.size }:=⟨_,rfl⟩
 obtain ⟨s,hs⟩ : ∃ s,s = w.heap.size:=⟨_,rfl⟩
 obtain ⟨W1,hW1⟩ : ∃ W1,W1 = (w.alloc (.deferred (some []))).alloc (.loop (L .ready none)):=⟨_,rfl⟩
 have z1 : W1.heap.size = s + 2:=by rw [hW1,hs]; simp
 have r1 : W1.heap[s + 1]? = some (.loop (L .ready none)):=by
  rw [hW1,hs]
  have:=World.alloc_heap_new (w.alloc (.deferred (some []))) (.loop (L .ready none))
  rwa [World.size_alloc] at this
 have d1 : W1.heap[s]? = some (.deferred (some [])):=by
  rw [hW1,hs]; exact (Below.heap_alloc _ _ _ (by simp)).trans (World.alloc_heap_new w _)
 have turn0 : ∀ (hi : Nat) (A : World),MayTurn w.heap.size hi A none:=fun _ _ r e => by cases e
 have i1 : ∀ hi,W1.heap.size ≤ hi → I hi [] W1:=by
  intro hi hh
  rw [hW1]
  exact hI hi _ _ _ none (hI hi _ _ _ none (h0 hi (by omega)) (World.grownBy_alloc w _ none) (turn0 _ _)) (World.grownBy_alloc _ _ none) (turn0 _ _)
 have hKw : ∀ r,K r → r < s:=fun r hr => by have:=(hb0 r hr).1; omega
 have b1 : ∀ r,K r → r < w0.heap.size ∧ W1.heap[r]? = w0.heap[r]?:=fun r hr => by
  refine ⟨(hb0 r hr).1,?_⟩
  rw [hW1,← (hb0 r hr).2]
  have:=hKw r hr
  exact (Below.heap_alloc _ _ _ (by simp; omega)).trans (Below.heap_alloc _ _ _ (by omega))
 have nK : ¬ K (s + 1):=fun h => by have:=hKw _ h; omega
 have step : ∀ {β : Type} {J : β → World → Prop} {hi : Nat},AbidesC w.heap.size hi J → ∀ s' (A A' : World) (row : Option Nat),J s' A → A.grownBy A' row → MayTurn W1.heap.size hi A row → J s' A' :=
  fun hJ s' A A' row hj hgr hm => hJ s' A A' row hj hgr (fun r e => ⟨by have:=(hm r e).1; omega,(hm r e).2⟩)
 have past : ∀ {hi : Nat} {A : World} {row : Option Nat},MayTurn W1.heap.size hi A row → ∀ k,k < s + 2 → ∀ r,row = some r → r ≠ k:=fun hm k hk r e => by have:=(hm r e).1; omega
 refine ⟨s + 1,[{ target:=.collected s,args:=#[] }],W1, { target:=.fn (.func gf) lb,args:=#[.func (.yield (s + 1)) #[] #[]] },W1,gf,
  #[.func (.yield (s + 1)) #[] #[]] ++ lb,W1,?_,?_,?_,?_,fun _ => h1,?_⟩
 ·rw [hW1,hL,hs]; exact run_enterLoop_outer _ _ _ _ _
 ·simp only [resolve,hg]
  simp [go_sem]
 ·intro f' hf'; simp [Target.leads] at hf'; subst hf'; exact hFg
 ·simp [invoke,go_sem,eg]
 ·refine (hseq (s + 1)
   (fun hi pre W => I hi pre W ∧ W.heap[s + 1]? = some (.loop (L .ready none)) ∧ W.heap[s]? = some (.deferred (some [])))
   (fun hi pre W => ∃ c,Ix c hi pre W ∧ W.heap[s + 1]? = some (.loop (L .done (some c))) ∧ W.heap[s]? = some (.deferred (some [])))
   W1 b1 (by omega)
   (fun hi p A A' row hj hgr hm => ⟨step (hI hi) p A A' row hj.1 hgr hm,grown_other hgr hj.2.1 (past hm _ (by omega)),grown_other hgr hj.2.2 (past hm _ (by omega))⟩)
   (fun hi p A A' row hj hgr hm => by
    obtain ⟨c,h1,h2,h3⟩:=hj
    exact ⟨c,step (hIx c hi) p A A' row h1 hgr hm,grown_other hgr h2 (past hm _ (by omega)),grown_other hgr h3 (past hm _ (by omega))⟩)
   ?_ (fun hi hh => ⟨i1 hi hh,r1,d1⟩)).mono ?_
  ·rintro hi pre x W ⟨hi0,hl,hk⟩ hsp hlo hhi
   have hlt : s + 1 < W.heap.size:=(Array.getElem?_eq_some_iff.1 hl).1
   have hy:=run_yield (P:=P) (args:=encs x) hl (by rw [hL]; exact hps x)
   rw [hL] at hy
   have hg0 : W.grownBy (W.alloc (ob x)) none:=World.grownBy_alloc W _ none
   have hlA : (W.alloc (ob x)).heap[s + 1]? = some (.loop (L .ready none)):=grown_other hg0 hl (fun r e => by cases e)
   have hkA : (W.alloc (ob x)).heap[s]? = some (.deferred (some [])):=grown_other hg0 hk (fun r e => by cases e)
   have hiA : I hi pre (W.alloc (ob x)):=hI hi _ _ _ none hi0 hg0 (turn0 _ _)
   have hhiA : hi ≤ (W.alloc (ob x)).heap.size:=by simp; omega
   have hobA : (W.alloc (ob x)).heap[W.heap.size]? = some (ob x):=World.alloc_heap_new W _
   have kA : KeepsC K W1.heap.size hi W (W.alloc (ob x)):=KeepsC.grown hg0 (fun r hr => by have:=hKw r hr; omega) (by omega) (fun r e => by cases e)
   refine ⟨fn,_,assign,body,hy,roundIn_of_wpIn hfn (hassign _ x W _ ⟨_,run_beginRound hlA (by rw [hL]),?_⟩)⟩
   obtain ⟨WA,hWA⟩ : ∃ WA,WA = W.alloc (ob x):=⟨_,rfl⟩
   rw [← hWA] at hlA hkA hiA hhiA hobA kA ⊢
   have hltA : s + 1 < WA.heap.size:=(Array.getElem?_eq_some_iff.1 hlA).1
   obtain ⟨Wb,hWb⟩ : ∃ Wb,Wb = WA.putObj (s + 1) (.loop { L .ready none with state:=.busy }):=⟨_,rfl⟩
   have hl2 : Wb.heap[s + 1]? = some (.loop { L .ready none with state:=.busy }):=by rw [hWb]; exact World.putObj_heap_same hltA
   have hk2 : Wb.heap[s]? = some (.deferred (some [])):=by rw [hWb]; exact (World.putObj_heap_other (by omega)).trans hkA
   have hob2 : Wb.heap[W.heap.size]? = some (ob x):=by rw [hWb]; exact (World.putObj_heap_other (by omega)).trans hobA
   have turnL : ∀ (A : World) (o : Obj),A.heap[s + 1]? = some o → o.isCells = false → MayTurn w.heap.size hi A (some (s + 1)):=fun A o ho hc r e => by cases e; exact ⟨by omega,.inr ⟨o,ho,hc⟩⟩
   have hib : I hi pre Wb:=by rw [hWb]; exact hI hi _ _ _ _ hiA (grownBy_putObj' WA (s + 1) _) (turnL WA _ hlA rfl)
   have kb : KeepsC K W1.heap.size hi W Wb:=kA.trans (by rw [hWb]; exact KeepsC.putObj WA _ nK (by omega))
   have hlo2 : w.heap.size + 2 ≤ hi:=by omega
   have hbd:=hbody (s + 1) hi W.heap.size pre x Wb hlo2 hhi hob2 hsp hib
   rw [hWb] at hbd
   refine wpIn_mono hbd ?_
   rw [← hWb]
   have fin : ∀ (jump : Option Code) (W3 : World),KeepsC K w.heap.size hi Wb W3 →
     (Instr.endRound (s + 1) jump).run P W3 = .ok (.bool jump.isNone) (W3.putObj (s + 1) (.loop (L (if jump.isNone then .ready else .done) jump))) ∧
     MayTurn w.heap.size hi W3 (some (s + 1)) ∧
     (W3.putObj (s + 1) (.loop (L (if jump.isNone then .ready else .done) jump))).heap[s + 1]? = some (.loop (L (if jump.isNone then .ready else .done) jump)) ∧
     (W3.putObj (s + 1) (.loop (L (if jump.isNone then .ready else .done) jump))).heap[s]? = some (.deferred (some [])) ∧
     KeepsC K W1.heap.size hi W3 (W3.putObj (s + 1) (.loop (L (if jump.isNone then .ready else .done) jump))):=fun jump W3 hk3 => by
    have hl3 : W3.heap[s + 1]? = some (.loop { L .ready none with state:=.busy }):=(hk3.rows _ (.inr ⟨by omega,by omega⟩)).trans hl2
    have hr:=run_endRound (P:=P) jump hl3
    have e1 : ({ { L .ready none with state:=.busy } with state:=if jump.isNone then .ready else .done,pending:=jump } : Loop) = L (if jump.isNone then .ready else .done) jump:=by rw [hL]
    rw [e1] at hr
    exact ⟨hr,turnL W3 _ hl3 rfl,World.putObj_heap_same (Array.getElem?_eq_some_iff.1 hl3).1,(World.putObj_heap_other (by omega)).trans ((hk3.rows _ (.inr ⟨by omega,by omega⟩)).trans hk2),KeepsC.putObj W3 _ nK (by omega)⟩
   rintro e a3 W3 hp
   cases e with
   | normal =>
    obtain ⟨hk3,hi3⟩:=hp
    obtain ⟨hr,ht,hl4,hk4,hk5⟩:=fin none W3 hk3
    exact ⟨_,_,hr,.inl ⟨rfl,⟨hI hi _ _ _ _ hi3 (grownBy_putObj' W3 (s + 1) _) ht,hl4,hk4⟩,kb.trans ((hk3.less (by omega)).trans hk5)⟩⟩
   | ret =>
    obtain ⟨hk3,hi3⟩:=hp
    obtain ⟨hr,ht,hl4,hk4,hk5⟩:=fin (some .ret) W3 hk3
    exact ⟨_,_,hr,.inr ⟨rfl,⟨.ret,hIx _ hi _ _ _ _ hi3 (grownBy_putObj' W3 (s + 1) _) ht,hl4,hk4⟩,kb.trans ((hk3.less (by omega)).trans hk5)⟩⟩
   | exit id =>
    obtain ⟨hk3,hi3⟩:=hp
    obtain ⟨hr,ht,hl4,hk4,hk5⟩:=fin (some (.exit id)) W3 hk3
    exact ⟨_,_,hr,.inr ⟨rfl,⟨.exit id,hIx _ hi _ _ _ _ hi3 (grownBy_putObj' W3 (s + 1) _) ht,hl4,hk4⟩,kb.trans ((hk3.less (by omega)).trans hk5)⟩⟩
   | goto t =>
    obtain ⟨hk3,hi3⟩:=hp
    obtain ⟨hr,ht,hl4,hk4,hk5⟩:=fin (some (.goto t)) W3 hk3
    exact ⟨_,_,hr,.inr ⟨rfl,⟨.goto t,hIx _ hi _ _ _ _ hi3 (grownBy_putObj' W3 (s + 1) _) ht,hl4,hk4⟩,kb.trans ((hk3.less (by omega)).trans hk5)⟩⟩
   | panic ch => exact hp.elim
   | outgrown => exact hp.elim
  ·rintro e W2 ⟨⟨v,rfl⟩,hi,hlo,(⟨xs,hS,hi2,hl,hk⟩ | ⟨pre,hSp,c,hi2,hl,hk⟩)⟩
   ·have ht : MayTurn w.heap.size hi W2 (some (s + 1)):=fun r e => by cases e; exact ⟨by omega,.inr ⟨_,hl,rfl⟩⟩
    have hr:=run_endLoop (P:=P) hl (by rw [hL]; simp)
    obtain ⟨o3,ho3⟩ : ∃ o3 : Obj,o3 = .loop { L .ready none with state:=.exhausted }:=⟨_,rfl⟩
    rw [← ho3] at hr
    have e2 : (L .ready none).pending = none:=by rw [hL]
    rw [e2] at hr
    refine ⟨none,_,hr,?_⟩
    have:=hdone s hi xs _ (by omega) (by omega) hS (hI hi _ _ _ _ hi2 (grownBy_putObj' W2 (s + 1) o3) ht) ((World.putObj_heap_other (by omega)).trans hk)
    exact this
   ·have ht : MayTurn w.heap.size hi W2 (some (s + 1)):=fun r e => by cases e; exact ⟨by omega,.inr ⟨_,hl,rfl⟩⟩
    have hr:=run_endLoop (P:=P) hl (by rw [hL]; simp)
    obtain ⟨o3,ho3⟩ : ∃ o3 : Obj,o3 = .loop { L .done (some c) with state:=.exhausted }:=⟨_,rfl⟩
    rw [← ho3] at hr
    have e2 : (L .done (some c)).pending = some c:=by rw [hL]
    rw [e2] at hr
    refine ⟨some c,_,hr,?_⟩
    exact hstop s hi c pre _ (by omega) (by omega) hSp (hIx c hi _ _ _ _ hi2 (grownBy_putObj' W2 (s + 1) o3) ht) ((World.putObj_heap_other (by omega)).trans hk)
end Go.Proofs.YtchdeboialbdiaaGreatDoor
namespace Go.Proofs.YtchdeboialbdiaaGreatDoor
set_option linter.unusedVariables false
set_option linter.unusedSimpArgs false
set_option maxHeartbeats 8000000
set_option maxRecDepth 100000
open Go.RowKit Go.Shelf
open Go.Lib hiding intOf
attribute [local go_sem] Oper.semAt_some
section
variable {F : Fence} {n : Nat} {P : Program} {b : Frame} {a : Act} {k : List Item} {cs : List Frame} {w : World} {Q : Exit → Act → World → Prop}
end
theorem row_rows {b t : Nat} {xs : List Value} {W W' : World} (h : Row W b t xs) (hk : W'.heap[b]? = W.heap[b]?) : Row W' b t xs:=hk.trans h
theorem below_other {W W' : World} (h : Below W.heap.size W W') : W.grownBy W' none:=⟨h.os,h.tape,h.output,h.size,fun k hk _ => h.block k hk⟩
theorem KeepsC.below {K : Nat → Prop} {lo hi : Nat} {W W' : World} (h : Below W.heap.size W W') (hn : ∀ r,K r → r < W.heap.size) (hh : hi ≤ W.heap.size) : KeepsC K lo hi W W' :=
 KeepsC.grown (below_other h) hn hh (fun r e => by cases e)
def Stays (K : Nat → Prop) (w0 : World) (P : World → Prop) : Prop:=∀ W,(∀ r,K r → W.heap[r]? = w0.heap[r]?) → w0.heap.size ≤ W.heap.size → P W
theorem Stays.next {K : Nat → Prop} {w0 W W' : World} {P : World → Prop} (h : Stays K w0 P) {lo hi : Nat} (hW : ∀ r,K r → W.heap[r]? = w0.heap[r]?) (hs : w0.heap.size ≤ W.heap.size) (hk : KeepsC K lo hi W W') : P W' :=
 h W' (fun r hr => (hk.rows r (.inl hr)).trans (hW r hr)) (Nat.le_trans hs hk.size)
end Go.Proofs.YtchdeboialbdiaaGreatDoor
