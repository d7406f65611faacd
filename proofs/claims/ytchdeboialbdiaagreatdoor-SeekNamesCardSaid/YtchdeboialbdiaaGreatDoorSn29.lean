/- Texts joined, one behind the other (SRefL). -/
import Derived.Test.YtchdeboialbdiaaGreatDoorSn28
namespace Go.Proofs.YtchdeboialbdiaaGreatDoor
set_option linter.unusedVariables false
set_option linter.unusedSimpArgs false
set_option maxHeartbeats 8000000
set_option maxRecDepth 100000
open Go.RowKit
open Go.Lib hiding intOf
def ElRd (w : World) (ve : Value) (els : List El) : Prop :=
 ∃ a c,ve = .slice a els.length c ∧ (0 < els.length → ∃ g cur,a = some ⟨g,0,none⟩ ∧ w.heap[g]? = some (.cells cur 129 (0,0)) ∧ ∀ (i : Nat) (x : El) (k : Nat) (u : Value),els[i]? = some x → (elCells x)[k]? = some u → cur[i * 3 + k]? = some u)
theorem ElRd.keep {w w' : World} {ve : Value} {els : List El} (h : ElRd w ve els) (hk : ∀ (g : Nat) (cur : Array Value),w.heap[g]? = some (.cells cur 129 (0,0)) → w'.heap[g]? = w.heap[g]?) : ElRd w' ve els:=by
 obtain ⟨a,c,h1,h2⟩:=h
 refine ⟨a,c,h1,fun hn => ?_⟩
 obtain ⟨g,cur,h3,h4,h5⟩:=h2 hn
 exact ⟨g,cur,h3,(hk g cur h4).trans h4,h5⟩
theorem ElRd.below {w w' : World} {ve : Value} {els : List El} (h : ElRd w ve els) (hb : Below w.heap.size w w') : ElRd w' ve els :=
 h.keep fun g cur hg => hb.block g (Array.getElem?_eq_some_iff.1 hg).1
theorem ElRd.grown {w w' : World} {ve : Value} {els : List El} {r : Option Nat} (h : ElRd w ve els) (hg : w.grownBy w' r) (hr : ∀ b,r = some b → ∃ cur t,w.heap[b]? = some (.cells cur t (0,0)) ∧ t ≠ 129) : ElRd w' ve els :=
 h.keep fun g cur hgc => hg.block g (Array.getElem?_eq_some_iff.1 hgc).1 (fun e => by
  obtain ⟨cur2,t,h1,h2⟩:=hr g e.symm
  rw [hgc] at h1
  simp only [Option.some.injEq,Obj.cells.injEq] at h1
  exact h2 h1.2.1.symm)
theorem ElRd.shape {w : World} {ve : Value} {els : List El} (h : ElRd w ve els) : ∃ a c,ve = .slice a els.length c:=by
 obtain ⟨a,c,h1,_⟩:=h
 exact ⟨a,c,h1⟩
theorem ElOwn.rd {B : Nat} {ve : Value} {els : List El} {w : World} (h : ElOwn B ve els w) : ElRd w ve els:=by
 rcases h.2 with ⟨rfl,h0⟩ | ⟨g,cap,cur,rfl,hB,hg,hc1,hc2,hc3,hc4⟩
 ·exact ⟨none,0,by rw [h0],fun hn => by omega⟩
 ·refine ⟨_,_,rfl,fun hn => ⟨g,cur,rfl,hg,fun i x k u hx hu => ?_⟩⟩
  have hi : i < els.length:=(List.getElem?_eq_some_iff.1 hx).1
  have hk : k < 3:=by
   have:=(List.getElem?_eq_some_iff.1 hu).1
   rwa [elCells_len] at this
  have h1:=flatR_at elCells 3 elCells_len els i k x hx hk
  rw [hu,← hc4,List.getElem?_take,if_pos (by omega)] at h1
  simpa using h1
def atomP (V : List Nat) (i : Nat) : Nat ⊕ (Nat × Bool × List El × Nat) :=
 match V[i]? with
 | none => .inl i
 | some c =>
  if c = 42 ∨ c = 43 ∨ c = 63 then .inl i
  else if c = 94 ∨ c = 36 ∨ c = 46 then .inr (c,false,[],i + 1)
  else if c = 91 then (match setP V (i + 1) with | .inl b => .inl b | .inr (n,e,j) => .inr (91,n,e,j))
  else match oneP V i with
   | .inl b => .inl b
   | .inr (k,v,j) => .inr (99,false,[if k = 0 then .rng v v else .kind k],j)
theorem item_atom (V : List Nat) (i : Nat) : itemP V i = match atomP V i with
  | .inl b => .inl b
  | .inr (what,neg,els,j) => if what = 94 ∨ what = 36 then .inr (⟨what,neg,els,1,false⟩,j) else .inr (withCount V what neg els j):=by
 unfold itemP atomP
 cases hc : V[i]? with
 | none => rfl
 | some c =>
  dsimp only
  by_cases h1 : c = 42 ∨ c = 43 ∨ c = 63
  ·rw [if_pos h1,if_pos h1]
  ·rw [if_neg h1,if_neg h1]
   by_cases h2 : c = 94 ∨ c = 36
   ·rw [if_pos h2,if_pos (show c = 94 ∨ c = 36 ∨ c = 46 by omega)]
    dsimp only
    rw [if_pos h2]
   ·rw [if_neg h2]
    by_cases h3 : c = 46
    ·rw [if_pos h3,if_pos (show c = 94 ∨ c = 36 ∨ c = 46 by omega)]
     dsimp only
     rw [if_neg h2,h3]
    ·rw [if_neg h3,if_neg (show ¬ (c = 94 ∨ c = 36 ∨ c = 46) by omega)]
     by_cases h4 : c = 91
     ·rw [if_pos h4,if_pos h4]
      cases setP V (i + 1) with
      | inl b => rfl
      | inr t => obtain ⟨n,e,j⟩:=t; rfl
     ·rw [if_neg h4,if_neg h4]
      cases oneP V i with
      | inl b => rfl
      | inr t => obtain ⟨k,v,j⟩:=t; rfl
def AtomR (w : World) (S : Nat ⊕ (Nat × Bool × List El × Nat)) (e : Ending) (w' : World) : Prop :=
 ∃ (what : Nat) (neg : Bool) (ve : Value) (x y z u : Int),e = .returned (.tuple #[.agg #[.int .i64 (what : Int),.bool neg,ve,.int .i64 0,.bool false,.bool false],.agg #[.int .i64 x,.int .i64 y,.int .i64 z,.int .i64 u]]) ∧ Below w.heap.size w w' ∧ (∃ a m c,ve = .slice a m c) ∧ (match S with
  | .inl b => u = (b : Int)
  | .inr (what',neg',els,j) => u = -1 ∧ z = (j : Int) ∧ what = what' ∧ neg = neg' ∧ ElRd w' ve els)
structure AtW (w W : World) (rd : List Value) (g1 : Nat) (V : List Nat) : Prop where
 box : Row W w.heap.size 95 rd
 resI : Row W (w.heap.size + 1) 99 [.int .i64 0,.bool false,.slice none 0 0,.int .i64 0,.bool false,.bool false]
 resG : Row W (w.heap.size + 2) 101 [.int .i64 0,.int .i64 0,.int .i64 0,.int .i64 0]
 below : Below w.heap.size w W
 ints : IntsAt W g1 (toZ V ++ [-1])
 size : w.heap.size + 3 ≤ W.heap.size
theorem AtW.next {w W W' : World} {rd : List Value} {g1 : Nat} {V : List Nat} (h : AtW w W rd g1 V) (hb : Below W.heap.size W W') : AtW w W' rd g1 V :=
 ⟨h.box.keep hb h.box.lt,h.resI.keep hb h.resI.lt,h.resG.keep hb h.resG.lt,h.below.trans (hb.mono h.below.size),h.ints.keep hb (Nat.le_refl _),Nat.le_trans h.size hb.size⟩
theorem at_start {w : World} {rd : List Value} {g1 : Nat} {V : List Nat} (h : IntsAt w g1 (toZ V ++ [-1])) : AtW w (((w.alloc (.cells rd.toArray 95)).alloc (.cells #[.int .i64 0,.bool false,.slice none 0 0,.int .i64 0,.bool false,.bool false] 99)).alloc (.cells #[.int .i64 0,.int .i64 0,.int .i64 0,.int .i64 0] 101)) rd g1 V:=by
 obtain ⟨A1,hA1⟩ : ∃ X,X = w.alloc (.cells rd.toArray 95):=⟨_,rfl⟩
 have r1 : Row A1 w.heap.size 95 rd:=by rw [hA1]; exact row_new w rd _
 have s1 : A1.heap.size = w.heap.size + 1:=by rw [hA1]; simp
 have b1 : Below w.heap.size w A1:=by rw [hA1]; exact (Below.refl _ w).alloc (Nat.le_refl _) _
 rw [← hA1]
 obtain ⟨A2,hA2⟩ : ∃ X,X = A1.alloc (.cells #[.int .i64 0,.bool false,.slice none 0 0,.int .i64 0,.bool false,.bool false] 99):=⟨_,rfl⟩
 have r2 : Row A2 (w.heap.size + 1) 99 [.int .i64 0,.bool false,.slice none 0 0,.int .i64 0,.bool false,.bool false]:=by rw [hA2,← s1]; exact row_new A1 [.int .i64 0,.bool false,.slice none 0 0,.int .i64 0,.bool false,.bool false] _
 have s2 : A2.heap.size = w.heap.size + 2:=by rw [hA2]; simp [s1]
 have b2 : Below A1.heap.size A1 A2:=by rw [hA2]; exact (Below.refl _ A1).alloc (Nat.le_refl _) _
 rw [← hA2]
 obtain ⟨A3,hA3⟩ : ∃ X,X = A2.alloc (.cells #[.int .i64 0,.int .i64 0,.int .i64 0,.int .i64 0] 101):=⟨_,rfl⟩
 have r3 : Row A3 (w.heap.size + 2) 101 [.int .i64 0,.int .i64 0,.int .i64 0,.int .i64 0]:=by rw [hA3,← s2]; exact row_new A2 [.int .i64 0,.int .i64 0,.int .i64 0,.int .i64 0] _
 have s3 : A3.heap.size = w.heap.size + 3:=by rw [hA3]; simp [s2]
 have b3 : Below A2.heap.size A2 A3:=by rw [hA3]; exact (Below.refl _ A2).alloc (Nat.le_refl _) _
 rw [← hA3]
 have b23:=b2.trans (b3.mono b2.size)
 have b13:=b1.trans (b23.mono b1.size)
 exact ⟨r1.keep b23 r1.lt,r2.keep b3 r2.lt,r3,b13,h.keep b13 (Nat.le_refl _),by omega⟩
def AtEnd (w : World) (il gl : List Value) (W W' : World) : Prop :=
 Row W' (w.heap.size + 1) 99 il ∧ Row W' (w.heap.size + 2) 101 gl ∧ Below w.heap.size w W' ∧ ∀ ve els,ElRd W ve els → ElRd W' ve els
theorem AtEnd.drew {w W W' : World} {il gl : List Value} (h : AtEnd w il gl W W') : AtEnd w il gl W W'.drew :=
 ⟨h.1.keep ((Below.refl _ W').drew) h.1.lt,h.2.1.keep ((Below.refl _ W').drew) h.2.1.lt,h.2.2.1.drew,fun ve els he => (h.2.2.2 ve els he).below ((Below.refl _ W').drew)⟩
theorem AtW.end1 {w W : World} {rd : List Value} {g1 : Nat} {V : List Nat} (h : AtW w W rd g1 V) (a b c d e f p q r s : Value) : AtEnd w [a,b,c,d,e,f] [p,q,r,s] W (set4 (set6 W (w.heap.size + 1) a b c d e f) (w.heap.size + 2) p q r s):=by
 have h6:=set6_grown W (w.heap.size + 1) a b c d e f
 have r6:=set6_row h.resI a b c d e f
 obtain ⟨W6,hW6⟩ : ∃ X,X = set6 W (w.heap.size + 1) a b c d e f:=⟨_,rfl⟩
 rw [← hW6] at h6 r6 ⊢
 have h4:=set4_grown W6 (w.heap.size + 2) p q r s
 have rg : Row W6 (w.heap.size + 2) 101 [.int .i64 0,.int .i64 0,.int .i64 0,.int .i64 0]:=(h6.block _ h.resG.lt (by intro e; simp only [Option.some.injEq] at e; omega)).trans h.resG
 have r4:=set4_row rg p q r s
 refine ⟨(h4.block _ r6.lt (by intro e; simp only [Option.some.injEq] at e; omega)).trans r6,r4,?_,fun ve els he => ?_⟩
 ·exact (h.below.trans (below_grownBy h6 (by omega) (by have:=h.size; omega))).trans (below_grownBy h4 (by omega) (by have:=h.size; have:=h6.size; omega))
 ·exact (he.grown h6 (fun b hb => by cases hb; exact ⟨_,_,h.resI,by decide⟩)).grown h4 (fun b hb => by cases hb; exact ⟨_,_,rg,by decide⟩)
theorem AtW.end2 {w W : World} {rd : List Value} {g1 : Nat} {V : List Nat} (h : AtW w W rd g1 V) (a b c d e f p q r s : Value) : AtEnd w [a,b,c,d,e,f] [p,q,r,s] W (set6 (set4 W (w.heap.size + 2) p q r s) (w.heap.size + 1) a b c d e f):=by
 have h4:=set4_grown W (w.heap.size + 2) p q r s
 have r4:=set4_row h.resG p q r s
 obtain ⟨W4,hW4⟩ : ∃ X,X = set4 W (w.heap.size + 2) p q r s:=⟨_,rfl⟩
 rw [← hW4] at h4 r4 ⊢
 have h6:=set6_grown W4 (w.heap.size + 1) a b c d e f
 have ri : Row W4 (w.heap.size + 1) 99 [.int .i64 0,.bool false,.slice none 0 0,.int .i64 0,.bool false,.bool false]:=(h4.block _ h.resI.lt (by intro e; simp only [Option.some.injEq] at e; omega)).trans h.resI
 have r6:=set6_row ri a b c d e f
 refine ⟨r6,(h6.block _ r4.lt (by intro e; simp only [Option.some.injEq] at e; omega)).trans r4,?_,fun ve els he => ?_⟩
 ·exact (h.below.trans (below_grownBy h4 (by omega) (by have:=h.size; omega))).trans (below_grownBy h6 (by omega) (by have:=h.size; have:=h4.size; omega))
 ·exact (he.grown h4 (fun b hb => by cases hb; exact ⟨_,_,h.resG,by decide⟩)).grown h6 (fun b hb => by cases hb; exact ⟨_,_,ri,by decide⟩)
theorem el_new {w : World} {x : El} {g : Nat} (h : Row w g 129 (elCells x)) (c : Nat) : ElRd w (.slice (some ⟨g,0,none⟩) 1 c) [x]:=by
 refine ⟨_,c,rfl,fun _ => ⟨g,_,rfl,h,fun i y k u hy hu => ?_⟩⟩
 have hi : i = 0:=by have:=(List.getElem?_eq_some_iff.1 hy).1; simpa using this
 subst hi
 simp only [List.getElem?_cons_zero,Option.some.injEq] at hy
 subst hy
 rw [Nat.zero_mul,Nat.zero_add]
 simpa using hu
theorem atomR6 (w : World) (g1 c1 g2 c2 n : Nat) (V : List Nat) (i : Nat) (hn : V.length = n) (hI : IntsAt w g1 (toZ V ++ [-1])) (hV : OkV V) (hi : i < n) (hnb : n ≤ 67108800) :
  Calls Tryz.prog 36 #[rdV g1 c1 g2 c2 n,.int .i64 (i : Int)] w (AtomR w (atomP V i)):=by
 unfold rdV
 have hst:=at_start (w:=w) (rd:=[.slice (some ⟨g1,0,none⟩) (n + 1) c1,.slice (some ⟨g2,0,none⟩) (n + 1) c2]) hI
 obtain ⟨W0,hW0⟩ : ∃ W,W = ((w.alloc (.cells #[.slice (some ⟨g1,0,none⟩) (n + 1) c1,.slice (some ⟨g2,0,none⟩) (n + 1) c2] 95)).alloc (.cells #[.int .i64 0,.bool false,.slice none 0 0,.int .i64 0,.bool false,.bool false] 99)).alloc (.cells #[.int .i64 0,.int .i64 0,.int .i64 0,.int .i64 0] 101):=⟨_,rfl⟩
 have hst2 : AtW w W0 [.slice (some ⟨g1,0,none⟩) (n + 1) c1,.slice (some ⟨g2,0,none⟩) (n + 1) c2] g1 V:=by rw [hW0]; exact hst
 have HST:=Lib.hid hst2
 have HW0:=Lib.hid hW0
 have HN:=Lib.hid hn
 have HV:=Lib.hid hV
 have ab0:=hst2.box.cell 0
 have ab1:=hst2.box.cell 1
 have abl:=hst2.box.lt
 obtain ⟨c,hc⟩ : ∃ c,V[i]? = some c:=⟨_,List.getElem?_eq_getElem (by rw [hn]; exact hi)⟩
 have hcell0:=hst2.ints.v (i:=i) (by rw [hn]; omega)
 rw [vI_some hc] at hcell0
 have hi1 : (i : Int) < ((n + 1 : Nat) : Int):=by omega
 have hi2 : (i : Int) < (n : Int) + 1:=by omega
 have hcb:=hV c (List.mem_of_getElem? hc)
 have hcb2 : c < 2000000:=by unfold wrongN at hcb; omega
 obtain ⟨cz,hcz⟩ : ∃ z : Int,(c : Int) = z:=⟨_,rfl⟩
 rw [hcz] at hcell0
 have HCZ:=Lib.hid hcz
 obtain ⟨S,hS⟩ : ∃ S,atomP V i = S:=⟨_,rfl⟩
 have hS2:=hS
 unfold atomP at hS2
 rw [hc] at hS2
 dsimp only at hS2
 have HC:=Lib.hid hc
 clear hst hst2 hW0 hn hV hI hcb hc
 go_enter Tryz.func36, Tryz.ntmps36
 go_upto_region 1 with fail
 rw [← HW0.out]
 by_cases z42 : c = 42
 ·rw [if_pos (by omega)] at hS2
  have HS : Hid (atomP V i = .inl i):=Lib.hid (hS.trans hS2.symm)
  obtain rfl : cz = 42:=by omega
  have pi0:=HST.out.resI.cell 0
  have pif0:=HST.out.resI.frozen 0
  have pi1:=HST.out.resI.cell 1
  have pif1:=HST.out.resI.frozen 1
  have pi2:=HST.out.resI.cell 2
  have pif2:=HST.out.resI.frozen 2
  have pi3:=HST.out.resI.cell 3
  have pif3:=HST.out.resI.frozen 3
  have pi4:=HST.out.resI.cell 4
  have pif4:=HST.out.resI.frozen 4
  have pi5:=HST.out.resI.cell 5
  have pif5:=HST.out.resI.frozen 5
  have pg0:=HST.out.resG.cell 0
  have pgf0:=HST.out.resG.frozen 0
  have pg1:=HST.out.resG.cell 1
  have pgf1:=HST.out.resG.frozen 1
  have pg2:=HST.out.resG.cell 2
  have pgf2:=HST.out.resG.frozen 2
  have pg3:=HST.out.resG.cell 3
  have pgf3:=HST.out.resG.frozen 3
  have pil:=HST.out.resI.lt
  have pgl:=HST.out.resG.lt
  clear hS hS2 hcz z42
  go_wp2_with fail
  have hE:=(HST.out.end1 (.int .i64 0) (.bool false) (.slice none 0 0) (.int .i64 0) (.bool false) (.bool false) (.int .i64 0) (.int .i64 0) (.int .i64 0) (.int .i64 ((i : Int))))
  refine bodyPost_ret (results_row_row rfl _ _ (w.heap.size + 1) (w.heap.size + 2) 99 101 #[.int .i64 0,.bool false,.slice none 0 0,.int .i64 0,.bool false,.bool false] #[.int .i64 0,.int .i64 0,.int .i64 0,.int .i64 ((i : Int))] (0,0) (0,0) _ _ rfl rfl hE.1 hE.2.1 Tryz.underlying99 rfl (by kernel_rfl) Tryz.underlying101 rfl (by kernel_rfl)) rfl ?_
  rw [HS.out]
  exact ⟨0,false,_,0,0,0,_,rfl,hE.2.2.1,⟨_,_,_,rfl⟩,rfl⟩
 have q42 : (cz == 42) = false:=by rw [beq_eq_false_iff_ne]; omega
 by_cases z43 : c = 43
 ·rw [if_pos (by omega)] at hS2
  have HS : Hid (atomP V i = .inl i):=Lib.hid (hS.trans hS2.symm)
  obtain rfl : cz = 43:=by omega
  have pi0:=HST.out.resI.cell 0
  have pif0:=HST.out.resI.frozen 0
  have pi1:=HST.out.resI.cell 1
  have pif1:=HST.out.resI.frozen 1
  have pi2:=HST.out.resI.cell 2
  have pif2:=HST.out.resI.frozen 2
  have pi3:=HST.out.resI.cell 3
  have pif3:=HST.out.resI.frozen 3
  have pi4:=HST.out.resI.cell 4
  have pif4:=HST.out.resI.frozen 4
  have pi5:=HST.out.resI.cell 5
  have pif5:=HST.out.resI.frozen 5
  have pg0:=HST.out.resG.cell 0
  have pgf0:=HST.out.resG.frozen 0
  have pg1:=HST.out.resG.cell 1
  have pgf1:=HST.out.resG.frozen 1
  have pg2:=HST.out.resG.cell 2
  have pgf2:=HST.out.resG.frozen 2
  have pg3:=HST.out.resG.cell 3
  have pgf3:=HST.out.resG.frozen 3
  have pil:=HST.out.resI.lt
  have pgl:=HST.out.resG.lt
  clear hS hS2 hcz z43
  go_wp2_with fail
  have hE:=(HST.out.end1 (.int .i64 0) (.bool false) (.slice none 0 0) (.int .i64 0) (.bool false) (.bool false) (.int .i64 0) (.int .i64 0) (.int .i64 0) (.int .i64 ((i : Int))))
  refine bodyPost_ret (results_row_row rfl _ _ (w.heap.size + 1) (w.heap.size + 2) 99 101 #[.int .i64 0,.bool false,.slice none 0 0,.int .i64 0,.bool false,.bool false] #[.int .i64 0,.int .i64 0,.int .i64 0,.int .i64 ((i : Int))] (0,0) (0,0) _ _ rfl rfl hE.1 hE.2.1 Tryz.underlying99 rfl (by kernel_rfl) Tryz.underlying101 rfl (by kernel_rfl)) rfl ?_
  rw [HS.out]
  exact ⟨0,false,_,0,0,0,_,rfl,hE.2.2.1,⟨_,_,_,rfl⟩,rfl⟩
 have q43 : (cz == 43) = false:=by rw [beq_eq_false_iff_ne]; omega
 by_cases z63 : c = 63
 ·rw [if_pos (by omega)] at hS2
  have HS : Hid (atomP V i = .inl i):=Lib.hid (hS.trans hS2.symm)
  obtain rfl : cz = 63:=by omega
  have pi0:=HST.out.resI.cell 0
  have pif0:=HST.out.resI.frozen 0
  have pi1:=HST.out.resI.cell 1
  have pif1:=HST.out.resI.frozen 1
  have pi2:=HST.out.resI.cell 2
  have pif2:=HST.out.resI.frozen 2
  have pi3:=HST.out.resI.cell 3
  have pif3:=HST.out.resI.frozen 3
  have pi4:=HST.out.resI.cell 4
  have pif4:=HST.out.resI.frozen 4
  have pi5:=HST.out.resI.cell 5
  have pif5:=HST.out.resI.frozen 5
  have pg0:=HST.out.resG.cell 0
  have pgf0:=HST.out.resG.frozen 0
  have pg1:=HST.out.resG.cell 1
  have pgf1:=HST.out.resG.frozen 1
  have pg2:=HST.out.resG.cell 2
  have pgf2:=HST.out.resG.frozen 2
  have pg3:=HST.out.resG.cell 3
  have pgf3:=HST.out.resG.frozen 3
  have pil:=HST.out.resI.lt
  have pgl:=HST.out.resG.lt
  clear hS hS2 hcz z63
  go_wp2_with fail
  have hE:=(HST.out.end1 (.int .i64 0) (.bool false) (.slice none 0 0) (.int .i64 0) (.bool false) (.bool false) (.int .i64 0) (.int .i64 0) (.int .i64 0) (.int .i64 ((i : Int))))
  refine bodyPost_ret (results_row_row rfl _ _ (w.heap.size + 1) (w.heap.size + 2) 99 101 #[.int .i64 0,.bool false,.slice none 0 0,.int .i64 0,.bool false,.bool false] #[.int .i64 0,.int .i64 0,.int .i64 0,.int .i64 ((i : Int))] (0,0) (0,0) _ _ rfl rfl hE.1 hE.2.1 Tryz.underlying99 rfl (by kernel_rfl) Tryz.underlying101 rfl (by kernel_rfl)) rfl ?_
  rw [HS.out]
  exact ⟨0,false,_,0,0,0,_,rfl,hE.2.2.1,⟨_,_,_,rfl⟩,rfl⟩
 have q63 : (cz == 63) = false:=by rw [beq_eq_false_iff_ne]; omega
 rw [if_neg (by omega)] at hS2
 by_cases z94 : c = 94
 ·rw [if_pos (by omega)] at hS2
  have HS : Hid (atomP V i = .inr (94,false,[],i + 1)):=Lib.hid (by rw [hS,← hS2,z94])
  obtain rfl : cz = 94:=by omega
  have pi0:=HST.out.resI.cell 0
  have pif0:=HST.out.resI.frozen 0
  have pi1:=HST.out.resI.cell 1
  have pif1:=HST.out.resI.frozen 1
  have pi2:=HST.out.resI.cell 2
  have pif2:=HST.out.resI.frozen 2
  have pi3:=HST.out.resI.cell 3
  have pif3:=HST.out.resI.frozen 3
  have pi4:=HST.out.resI.cell 4
  have pif4:=HST.out.resI.frozen 4
  have pi5:=HST.out.resI.cell 5
  have pif5:=HST.out.resI.frozen 5
  have pg0:=HST.out.resG.cell 0
  have pgf0:=HST.out.resG.frozen 0
  have pg1:=HST.out.resG.cell 1
  have pgf1:=HST.out.resG.frozen 1
  have pg2:=HST.out.resG.cell 2
  have pgf2:=HST.out.resG.frozen 2
  have pg3:=HST.out.resG.cell 3
  have pgf3:=HST.out.resG.frozen 3
  have pil:=HST.out.resI.lt
  have pgl:=HST.out.resG.lt
  clear hS hS2 hcz z94 z42 z43 z63
  go_wp2_with fail
  have hE:=(HST.out.end1 (.int .i64 (94)) (.bool false) (.slice none 0 0) (.int .i64 0) (.bool false) (.bool false) (.int .i64 0) (.int .i64 0) (.int .i64 ((i : Int) + 1)) (.int .i64 (-1)))
  refine bodyPost_ret (results_row_row rfl _ _ (w.heap.size + 1) (w.heap.size + 2) 99 101 #[.int .i64 (94),.bool false,.slice none 0 0,.int .i64 0,.bool false,.bool false] #[.int .i64 0,.int .i64 0,.int .i64 ((i : Int) + 1),.int .i64 (-1)] (0,0) (0,0) _ _ rfl rfl hE.1 hE.2.1 Tryz.underlying99 rfl (by kernel_rfl) Tryz.underlying101 rfl (by kernel_rfl)) rfl ?_
  rw [HS.out]
  exact ⟨94,false,_,0,0,_,_,rfl,hE.2.2.1,⟨_,_,_,rfl⟩,⟨rfl,by omega,rfl,rfl,⟨none,0,rfl,fun h => by cases h⟩⟩⟩
 have q94 : (cz == 94) = false:=by rw [beq_eq_false_iff_ne]; omega
 by_cases z36 : c = 36
 ·rw [if_pos (by omega)] at hS2
  have HS : Hid (atomP V i = .inr (36,false,[],i + 1)):=Lib.hid (by rw [hS,← hS2,z36])
  obtain rfl : cz = 36:=by omega
  have pi0:=HST.out.resI.cell 0
  have pif0:=HST.out.resI.frozen 0
  have pi1:=HST.out.resI.cell 1
  have pif1:=HST.out.resI.frozen 1
  have pi2:=HST.out.resI.cell 2
  have pif2:=HST.out.resI.frozen 2
  have pi3:=HST.out.resI.cell 3
  have pif3:=HST.out.resI.frozen 3
  have pi4:=HST.out.resI.cell 4
  have pif4:=HST.out.resI.frozen 4
  have pi5:=HST.out.resI.cell 5
  have pif5:=HST.out.resI.frozen 5
  have pg0:=HST.out.resG.cell 0
  have pgf0:=HST.out.resG.frozen 0
  have pg1:=HST.out.resG.cell 1
  have pgf1:=HST.out.resG.frozen 1
  have pg2:=HST.out.resG.cell 2
  have pgf2:=HST.out.resG.frozen 2
  have pg3:=HST.out.resG.cell 3
  have pgf3:=HST.out.resG.frozen 3
  have pil:=HST.out.resI.lt
  have pgl:=HST.out.resG.lt
  clear hS hS2 hcz z36 z42 z43 z63
  go_wp2_with fail
  have hE:=(HST.out.end1 (.int .i64 (36)) (.bool false) (.slice none 0 0) (.int .i64 0) (.bool false) (.bool false) (.int .i64 0) (.int .i64 0) (.int .i64 ((i : Int) + 1)) (.int .i64 (-1)))
  refine bodyPost_ret (results_row_row rfl _ _ (w.heap.size + 1) (w.heap.size + 2) 99 101 #[.int .i64 (36),.bool false,.slice none 0 0,.int .i64 0,.bool false,.bool false] #[.int .i64 0,.int .i64 0,.int .i64 ((i : Int) + 1),.int .i64 (-1)] (0,0) (0,0) _ _ rfl rfl hE.1 hE.2.1 Tryz.underlying99 rfl (by kernel_rfl) Tryz.underlying101 rfl (by kernel_rfl)) rfl ?_
  rw [HS.out]
  exact ⟨36,false,_,0,0,_,_,rfl,hE.2.2.1,⟨_,_,_,rfl⟩,⟨rfl,by omega,rfl,rfl,⟨none,0,rfl,fun h => by cases h⟩⟩⟩
 have q36 : (cz == 36) = false:=by rw [beq_eq_false_iff_ne]; omega
 by_cases z46 : c = 46
 ·rw [if_pos (by omega)] at hS2
  have HS : Hid (atomP V i = .inr (46,false,[],i + 1)):=Lib.hid (by rw [hS,← hS2,z46])
  obtain rfl : cz = 46:=by omega
  have pi0:=HST.out.resI.cell 0
  have pif0:=HST.out.resI.frozen 0
  have pi1:=HST.out.resI.cell 1
  have pif1:=HST.out.resI.frozen 1
  have pi2:=HST.out.resI.cell 2
  have pif2:=HST.out.resI.frozen 2
  have pi3:=HST.out.resI.cell 3
  have pif3:=HST.out.resI.frozen 3
  have pi4:=HST.out.resI.cell 4
  have pif4:=HST.out.resI.frozen 4
  have pi5:=HST.out.resI.cell 5
  have pif5:=HST.out.resI.frozen 5
  have pg0:=HST.out.resG.cell 0
  have pgf0:=HST.out.resG.frozen 0
  have pg1:=HST.out.resG.cell 1
  have pgf1:=HST.out.resG.frozen 1
  have pg2:=HST.out.resG.cell 2
  have pgf2:=HST.out.resG.frozen 2
  have pg3:=HST.out.resG.cell 3
  have pgf3:=HST.out.resG.frozen 3
  have pil:=HST.out.resI.lt
  have pgl:=HST.out.resG.lt
  clear hS hS2 hcz z46 z42 z43 z63
  go_wp2_with fail
  have hE:=(HST.out.end1 (.int .i64 (46)) (.bool false) (.slice none 0 0) (.int .i64 0) (.bool false) (.bool false) (.int .i64 0) (.int .i64 0) (.int .i64 ((i : Int) + 1)) (.int .i64 (-1)))
  refine bodyPost_ret (results_row_row rfl _ _ (w.heap.size + 1) (w.heap.size + 2) 99 101 #[.int .i64 (46),.bool false,.slice none 0 0,.int .i64 0,.bool false,.bool false] #[.int .i64 0,.int .i64 0,.int .i64 ((i : Int) + 1),.int .i64 (-1)] (0,0) (0,0) _ _ rfl rfl hE.1 hE.2.1 Tryz.underlying99 rfl (by kernel_rfl) Tryz.underlying101 rfl (by kernel_rfl)) rfl ?_
  rw [HS.out]
  exact ⟨46,false,_,0,0,_,_,rfl,hE.2.2.1,⟨_,_,_,rfl⟩,⟨rfl,by omega,rfl,rfl,⟨none,0,rfl,fun h => by cases h⟩⟩⟩
 have q46 : (cz == 46) = false:=by rw [beq_eq_false_iff_ne]; omega
 rw [if_neg (by omega)] at hS2
 by_cases z91 : c = 91
 ·rw [if_pos z91] at hS2
  have hSc:=setR6 W0 g1 c1 g2 c2 n V (i + 1) HN.out HST.out.ints HV.out (by omega) (by omega) hnb
  rw [show ((i + 1 : Nat) : Int) = (i : Int) + 1 by omega] at hSc
  obtain rfl : cz = 91:=by omega
  clear hcz z91 z42 z43 z63 z94 z36 z46
  cases hP : setP V (i + 1) with
  | inl b =>
   rw [hP] at hS2 hSc
   dsimp only at hS2
   have HS : Hid (atomP V i = .inl b):=Lib.hid (hS.trans hS2.symm)
   have HSC : Hid (Calls Tryz.prog 54 #[.agg #[.slice (some ⟨g1,0,none⟩) (n + 1) c1,.slice (some ⟨g2,0,none⟩) (n + 1) c2],.int .i64 ((i : Int) + 1)] W0 fun e w' => ∃ neg va m vc,e = .returned (.tuple #[.agg #[.int .i64 91,.bool neg,.slice va m vc,.int .i64 0,.bool false,.bool false],.agg #[.int .i64 0,.int .i64 0,.int .i64 0,.int .i64 ((b : Int))]]) ∧ Below W0.heap.size W0 w'):=Lib.hid (hSc.mono (by
    rintro e w' ⟨neg,ve,rfl,hb,⟨va,m,vc,rfl⟩,_⟩
    exact ⟨neg,va,m,vc,rfl,hb⟩))
   clear hS hS2 hSc hP
   go_wp2_with (go_at_call 54; refine (HSC.out).mono ?_; rintro e w3 ⟨neg,va,m,vc,rfl,hb3⟩; have hT:=HST.out.next hb3; have pi0:=hT.resI.cell 0; have pif0:=hT.resI.frozen 0; have pi1:=hT.resI.cell 1; have pif1:=hT.resI.frozen 1; have pi2:=hT.resI.cell 2; have pif2:=hT.resI.frozen 2; have pi3:=hT.resI.cell 3; have pif3:=hT.resI.frozen 3; have pi4:=hT.resI.cell 4; have pif4:=hT.resI.frozen 4; have pi5:=hT.resI.cell 5; have pif5:=hT.resI.frozen 5; have pg0:=hT.resG.cell 0; have pgf0:=hT.resG.frozen 0; have pg1:=hT.resG.cell 1; have pgf1:=hT.resG.frozen 1; have pg2:=hT.resG.cell 2; have pgf2:=hT.resG.frozen 2; have pg3:=hT.resG.cell 3; have pgf3:=hT.resG.frozen 3; have pil:=hT.resI.lt; have pgl:=hT.resG.lt; have HT:=Lib.hid hT; clear hb3 hT)
   have hE:=(HT.out.end1 (.int .i64 (91)) (.bool neg) (.slice va m vc) (.int .i64 0) (.bool false) (.bool false) (.int .i64 0) (.int .i64 0) (.int .i64 0) (.int .i64 ((b : Int))))
   refine bodyPost_ret (results_row_row rfl _ _ (w.heap.size + 1) (w.heap.size + 2) 99 101 #[.int .i64 (91),.bool neg,.slice va m vc,.int .i64 0,.bool false,.bool false] #[.int .i64 0,.int .i64 0,.int .i64 0,.int .i64 ((b : Int))] (0,0) (0,0) _ _ rfl rfl hE.1 hE.2.1 Tryz.underlying99 rfl (by kernel_rfl) Tryz.underlying101 rfl (by kernel_rfl)) rfl ?_
   rw [HS.out]
   exact ⟨91,neg,_,0,0,0,_,rfl,hE.2.2.1,⟨_,_,_,rfl⟩,rfl⟩
  | inr t =>
   obtain ⟨nb,els,j⟩:=t
   rw [hP] at hS2 hSc
   dsimp only at hS2
   have HS : Hid (atomP V i = .inr (91,nb,els,j)):=Lib.hid (hS.trans hS2.symm)
   have HSC : Hid (Calls Tryz.prog 54 #[.agg #[.slice (some ⟨g1,0,none⟩) (n + 1) c1,.slice (some ⟨g2,0,none⟩) (n + 1) c2],.int .i64 ((i : Int) + 1)] W0 fun e w' => ∃ va m vc,e = .returned (.tuple #[.agg #[.int .i64 91,.bool nb,.slice va m vc,.int .i64 0,.bool false,.bool false],.agg #[.int .i64 0,.int .i64 0,.int .i64 ((j : Int)),.int .i64 (-1)]]) ∧ Below W0.heap.size W0 w' ∧ ElRd w' (.slice va m vc) els):=Lib.hid (hSc.mono (by
    rintro e w' ⟨neg,ve,rfl,hb,⟨va,m,vc,rfl⟩,hh⟩
    obtain ⟨rfl,ho⟩:=hh nb els j rfl
    exact ⟨va,m,vc,rfl,hb,ho.rd⟩))
   clear hS hS2 hSc hP
   go_wp2_with (go_at_call 54; refine (HSC.out).mono ?_; rintro e w3 ⟨va,m,vc,rfl,hb3,hrd⟩; have hT:=HST.out.next hb3; have pi0:=hT.resI.cell 0; have pif0:=hT.resI.frozen 0; have pi1:=hT.resI.cell 1; have pif1:=hT.resI.frozen 1; have pi2:=hT.resI.cell 2; have pif2:=hT.resI.frozen 2; have pi3:=hT.resI.cell 3; have pif3:=hT.resI.frozen 3; have pi4:=hT.resI.cell 4; have pif4:=hT.resI.frozen 4; have pi5:=hT.resI.cell 5; have pif5:=hT.resI.frozen 5; have pg0:=hT.resG.cell 0; have pgf0:=hT.resG.frozen 0; have pg1:=hT.resG.cell 1; have pgf1:=hT.resG.frozen 1; have pg2:=hT.resG.cell 2; have pgf2:=hT.resG.frozen 2; have pg3:=hT.resG.cell 3; have pgf3:=hT.resG.frozen 3; have pil:=hT.resI.lt; have pgl:=hT.resG.lt; have HT:=Lib.hid hT; have HRD:=Lib.hid hrd; clear hb3 hT hrd)
   have hE:=(HT.out.end1 (.int .i64 (91)) (.bool nb) (.slice va m vc) (.int .i64 0) (.bool false) (.bool false) (.int .i64 0) (.int .i64 0) (.int .i64 ((j : Int))) (.int .i64 (-1)))
   refine bodyPost_ret (results_row_row rfl _ _ (w.heap.size + 1) (w.heap.size + 2) 99 101 #[.int .i64 (91),.bool nb,.slice va m vc,.int .i64 0,.bool false,.bool false] #[.int .i64 0,.int .i64 0,.int .i64 ((j : Int)),.int .i64 (-1)] (0,0) (0,0) _ _ rfl rfl hE.1 hE.2.1 Tryz.underlying99 rfl (by kernel_rfl) Tryz.underlying101 rfl (by kernel_rfl)) rfl ?_
   rw [HS.out]
   exact ⟨91,nb,_,0,0,_,_,rfl,hE.2.2.1,⟨_,_,_,rfl⟩,⟨rfl,rfl,rfl,rfl,hE.2.2.2 _ _ HRD.out⟩⟩
 have q91 : (cz == 91) = false:=by rw [beq_eq_false_iff_ne]; omega
 rw [if_neg z91] at hS2
 have hO:=oneR6 W0 g1 c1 g2 c2 n V i HN.out HST.out.ints HV.out hi (by omega)
 have hle:=oneP_le V HV.out i (by rw [HN.out]; omega)
 clear hcz z91 z42 z43 z63 z94 z36 z46
 have nq1 : w.heap.size + 1 ≠ W0.heap.size:=by have:=HST.out.size; omega
 cases hP : oneP V i with
 | inl b =>
  rw [hP] at hS2 hO
  dsimp only at hS2
  have HS : Hid (atomP V i = .inl b):=Lib.hid (hS.trans hS2.symm)
  have HO : Hid (Calls Tryz.prog 55 #[.agg #[.slice (some ⟨g1,0,none⟩) (n + 1) c1,.slice (some ⟨g2,0,none⟩) (n + 1) c2],.int .i64 (i : Int)] W0 fun e w' => e = .returned (.agg #[.int .i64 0,.int .i64 0,.int .i64 0,.int .i64 ((b : Int))]) ∧ Below W0.heap.size W0 w'):=Lib.hid hO
  clear hO hS hS2 hP
  go_upto_region 14 with (go_at_call 55; refine (HO.out).mono ?_; rintro e w3 ⟨rfl,hb3⟩; have HT3:=Lib.hid (HST.out.next hb3); clear hb3)
  clear ab0 ab1 abl
  obtain ⟨W4,hW4⟩ : ∃ W,W = ((w3.alloc (.cells #[.int .i64 0,.int .i64 0,.int .i64 0,.int .i64 ((b : Int))] 101)).alloc (.cells #[.int .i64 0,.int .i64 0,.int .i64 0] 129)).alloc (.cells #[.int .i64 99,.bool false,.slice (some ⟨w3.heap.size + 1,0,none⟩) 1 1,.int .i64 0,.bool false,.bool false] 99):=⟨_,rfl⟩
  have hT4 : AtW w W4 [.slice (some ⟨g1,0,none⟩) (n + 1) c1,.slice (some ⟨g2,0,none⟩) (n + 1) c2] g1 V:=by
   rw [hW4]
   exact ((HT3.out.next ((Below.refl _ w3).alloc (Nat.le_refl _) _)).next ((Below.refl _ _).alloc (Nat.le_refl _) _)).next ((Below.refl _ _).alloc (Nat.le_refl _) _)
  have hg4 : Row W4 w3.heap.size 101 [.int .i64 0,.int .i64 0,.int .i64 0,.int .i64 ((b : Int))]:=by rw [hW4]; exact ((row_new w3 [.int .i64 0,.int .i64 0,.int .i64 0,.int .i64 ((b : Int))] _).alloc _).alloc _
  have he4 : Row W4 (w3.heap.size + 1) 129 [.int .i64 0,.int .i64 0,.int .i64 0]:=by
   rw [hW4]
   have:=row_new (w3.alloc (.cells #[.int .i64 0,.int .i64 0,.int .i64 0,.int .i64 ((b : Int))] 101)) [.int .i64 0,.int .i64 0,.int .i64 0] 129
   rw [World.size_alloc] at this
   exact this.alloc _
  have hi4 : Row W4 (w3.heap.size + 2) 99 [.int .i64 99,.bool false,.slice (some ⟨w3.heap.size + 1,0,none⟩) 1 1,.int .i64 0,.bool false,.bool false]:=by
   rw [hW4]
   have:=row_new ((w3.alloc (.cells #[.int .i64 0,.int .i64 0,.int .i64 0,.int .i64 ((b : Int))] 101)).alloc (.cells #[.int .i64 0,.int .i64 0,.int .i64 0] 129)) [.int .i64 99,.bool false,.slice (some ⟨w3.heap.size + 1,0,none⟩) 1 1,.int .i64 0,.bool false,.bool false] 99
   rw [World.size_alloc,World.size_alloc] at this
   exact this
  have hs3:=HT3.out.size
  rw [← hW4]
  clear hW4
  have pi0:=hT4.resI.cell 0
  have pif0:=hT4.resI.frozen 0
  have pi1:=hT4.resI.cell 1
  have pif1:=hT4.resI.frozen 1
  have pi2:=hT4.resI.cell 2
  have pif2:=hT4.resI.frozen 2
  have pi3:=hT4.resI.cell 3
  have pif3:=hT4.resI.frozen 3
  have pi4:=hT4.resI.cell 4
  have pif4:=hT4.resI.frozen 4
  have pi5:=hT4.resI.cell 5
  have pif5:=hT4.resI.frozen 5
  have pg0:=hT4.resG.cell 0
  have pgf0:=hT4.resG.frozen 0
  have pg1:=hT4.resG.cell 1
  have pgf1:=hT4.resG.frozen 1
  have pg2:=hT4.resG.cell 2
  have pgf2:=hT4.resG.frozen 2
  have pg3:=hT4.resG.cell 3
  have pgf3:=hT4.resG.frozen 3
  have pil:=hT4.resI.lt
  have pgl:=hT4.resG.lt
  have g40:=hg4.cell 0
  have g41:=hg4.cell 1
  have g42:=hg4.cell 2
  have g43:=hg4.cell 3
  have i40:=hi4.cell 0
  have i41:=hi4.cell 1
  have i42:=hi4.cell 2
  have i43:=hi4.cell 3
  have i44:=hi4.cell 4
  have i45:=hi4.cell 5
  have nq2 : w.heap.size + 1 ≠ w3.heap.size:=by omega
  have nq3 : w.heap.size + 2 ≠ w3.heap.size:=by omega
  have nq4 : w.heap.size + 1 ≠ w3.heap.size + 2:=by omega
  have nq5 : w.heap.size + 2 ≠ w3.heap.size + 2:=by omega
  have nq6 : w.heap.size ≠ w3.heap.size:=by omega
  have nq7 : w.heap.size ≠ w3.heap.size + 1:=by omega
  have HT4:=Lib.hid hT4
  have HE4:=Lib.hid he4
  clear hT4 hg4 he4 hi4
  go_region
  all_goals go_wp2
  all_goals first
   | (have hE:=(HT4.out.end1 (.int .i64 (99)) (.bool false) (.slice (some ⟨w3.heap.size + 1,0,none⟩) 1 1) (.int .i64 0) (.bool false) (.bool false) (.int .i64 0) (.int .i64 0) (.int .i64 0) (.int .i64 ((b : Int)))).drew; refine bodyPost_ret (results_row_row rfl _ _ (w.heap.size + 1) (w.heap.size + 2) 99 101 #[.int .i64 (99),.bool false,.slice (some ⟨w3.heap.size + 1,0,none⟩) 1 1,.int .i64 0,.bool false,.bool false] #[.int .i64 0,.int .i64 0,.int .i64 0,.int .i64 ((b : Int))] (0,0) (0,0) _ _ rfl rfl hE.1 hE.2.1 Tryz.underlying99 rfl (by kernel_rfl) Tryz.underlying101 rfl (by kernel_rfl)) rfl ?_; rw [HS.out]; exact ⟨99,false,_,0,0,0,_,rfl,hE.2.2.1,⟨_,_,_,rfl⟩,rfl⟩)
   | (have hE:=(HT4.out.end2 (.int .i64 (99)) (.bool false) (.slice (some ⟨w3.heap.size + 1,0,none⟩) 1 1) (.int .i64 0) (.bool false) (.bool false) (.int .i64 0) (.int .i64 0) (.int .i64 0) (.int .i64 ((b : Int)))).drew; refine bodyPost_ret (results_row_row rfl _ _ (w.heap.size + 1) (w.heap.size + 2) 99 101 #[.int .i64 (99),.bool false,.slice (some ⟨w3.heap.size + 1,0,none⟩) 1 1,.int .i64 0,.bool false,.bool false] #[.int .i64 0,.int .i64 0,.int .i64 0,.int .i64 ((b : Int))] (0,0) (0,0) _ _ rfl rfl hE.1 hE.2.1 Tryz.underlying99 rfl (by kernel_rfl) Tryz.underlying101 rfl (by kernel_rfl)) rfl ?_; rw [HS.out]; exact ⟨99,false,_,0,0,0,_,rfl,hE.2.2.1,⟨_,_,_,rfl⟩,rfl⟩)
 | inr t =>
  obtain ⟨k,v,j⟩:=t
  rw [hP] at hS2 hO hle
  dsimp only at hS2
  have HS : Hid (atomP V i = .inr (99,false,[if k = 0 then .rng v v else .kind k],j)):=Lib.hid (hS.trans hS2.symm)
  have hk0:=one_kind0 hP
  have HEL : Hid (elCells (if k = 0 then .rng v v else .kind k) = [.int .i64 ((k : Int)),.int .i64 ((v : Int)),.int .i64 ((v : Int))]):=Lib.hid (by
   by_cases hk : k = 0
   ·rw [if_pos hk,hk]; rfl
   ·rw [if_neg hk,hk0 hk]; rfl)
  clear hk0 hle
  have HO : Hid (Calls Tryz.prog 55 #[.agg #[.slice (some ⟨g1,0,none⟩) (n + 1) c1,.slice (some ⟨g2,0,none⟩) (n + 1) c2],.int .i64 (i : Int)] W0 fun e w' => e = .returned (.agg #[.int .i64 ((k : Int)),.int .i64 ((v : Int)),.int .i64 ((j : Int)),.int .i64 (-1)]) ∧ Below W0.heap.size W0 w'):=Lib.hid hO
  clear hO hS hS2 hP
  go_upto_region 14 with (go_at_call 55; refine (HO.out).mono ?_; rintro e w3 ⟨rfl,hb3⟩; have HT3:=Lib.hid (HST.out.next hb3); clear hb3)
  clear ab0 ab1 abl
  obtain ⟨W4,hW4⟩ : ∃ W,W = ((w3.alloc (.cells #[.int .i64 ((k : Int)),.int .i64 ((v : Int)),.int .i64 ((j : Int)),.int .i64 (-1)] 101)).alloc (.cells #[.int .i64 ((k : Int)),.int .i64 ((v : Int)),.int .i64 ((v : Int))] 129)).alloc (.cells #[.int .i64 99,.bool false,.slice (some ⟨w3.heap.size + 1,0,none⟩) 1 1,.int .i64 0,.bool false,.bool false] 99):=⟨_,rfl⟩
  have hT4 : AtW w W4 [.slice (some ⟨g1,0,none⟩) (n + 1) c1,.slice (some ⟨g2,0,none⟩) (n + 1) c2] g1 V:=by
   rw [hW4]
   exact ((HT3.out.next ((Below.refl _ w3).alloc (Nat.le_refl _) _)).next ((Below.refl _ _).alloc (Nat.le_refl _) _)).next ((Below.refl _ _).alloc (Nat.le_refl _) _)
  have hg4 : Row W4 w3.heap.size 101 [.int .i64 ((k : Int)),.int .i64 ((v : Int)),.int .i64 ((j : Int)),.int .i64 (-1)]:=by rw [hW4]; exact ((row_new w3 [.int .i64 ((k : Int)),.int .i64 ((v : Int)),.int .i64 ((j : Int)),.int .i64 (-1)] _).alloc _).alloc _
  have he4 : Row W4 (w3.heap.size + 1) 129 [.int .i64 ((k : Int)),.int .i64 ((v : Int)),.int .i64 ((v : Int))]:=by
   rw [hW4]
   have:=row_new (w3.alloc (.cells #[.int .i64 ((k : Int)),.int .i64 ((v : Int)),.int .i64 ((j : Int)),.int .i64 (-1)] 101)) [.int .i64 ((k : Int)),.int .i64 ((v : Int)),.int .i64 ((v : Int))] 129
   rw [World.size_alloc] at this
   exact this.alloc _
  have hi4 : Row W4 (w3.heap.size + 2) 99 [.int .i64 99,.bool false,.slice (some ⟨w3.heap.size + 1,0,none⟩) 1 1,.int .i64 0,.bool false,.bool false]:=by
   rw [hW4]
   have:=row_new ((w3.alloc (.cells #[.int .i64 ((k : Int)),.int .i64 ((v : Int)),.int .i64 ((j : Int)),.int .i64 (-1)] 101)).alloc (.cells #[.int .i64 ((k : Int)),.int .i64 ((v : Int)),.int .i64 ((v : Int))] 129)) [.int .i64 99,.bool false,.slice (some ⟨w3.heap.size + 1,0,none⟩) 1 1,.int .i64 0,.bool false,.bool false] 99
   rw [World.size_alloc,World.size_alloc] at this
   exact this
  have hs3:=HT3.out.size
  rw [← hW4]
  clear hW4
  have pi0:=hT4.resI.cell 0
  have pif0:=hT4.resI.frozen 0
  have pi1:=hT4.resI.cell 1
  have pif1:=hT4.resI.frozen 1
  have pi2:=hT4.resI.cell 2
  have pif2:=hT4.resI.frozen 2
  have pi3:=hT4.resI.cell 3
  have pif3:=hT4.resI.frozen 3
  have pi4:=hT4.resI.cell 4
  have pif4:=hT4.resI.frozen 4
  have pi5:=hT4.resI.cell 5
  have pif5:=hT4.resI.frozen 5
  have pg0:=hT4.resG.cell 0
  have pgf0:=hT4.resG.frozen 0
  have pg1:=hT4.resG.cell 1
  have pgf1:=hT4.resG.frozen 1
  have pg2:=hT4.resG.cell 2
  have pgf2:=hT4.resG.frozen 2
  have pg3:=hT4.resG.cell 3
  have pgf3:=hT4.resG.frozen 3
  have pil:=hT4.resI.lt
  have pgl:=hT4.resG.lt
  have g40:=hg4.cell 0
  have g41:=hg4.cell 1
  have g42:=hg4.cell 2
  have g43:=hg4.cell 3
  have i40:=hi4.cell 0
  have i41:=hi4.cell 1
  have i42:=hi4.cell 2
  have i43:=hi4.cell 3
  have i44:=hi4.cell 4
  have i45:=hi4.cell 5
  have nq2 : w.heap.size + 1 ≠ w3.heap.size:=by omega
  have nq3 : w.heap.size + 2 ≠ w3.heap.size:=by omega
  have nq4 : w.heap.size + 1 ≠ w3.heap.size + 2:=by omega
  have nq5 : w.heap.size + 2 ≠ w3.heap.size + 2:=by omega
  have nq6 : w.heap.size ≠ w3.heap.size:=by omega
  have nq7 : w.heap.size ≠ w3.heap.size + 1:=by omega
  have HT4:=Lib.hid hT4
  have HE4:=Lib.hid he4
  clear hT4 hg4 he4 hi4
  go_region
  all_goals go_wp2
  all_goals first
   | (have hE:=(HT4.out.end1 (.int .i64 (99)) (.bool false) (.slice (some ⟨w3.heap.size + 1,0,none⟩) 1 1) (.int .i64 0) (.bool false) (.bool false) (.int .i64 ((k : Int))) (.int .i64 ((v : Int))) (.int .i64 ((j : Int))) (.int .i64 (-1))).drew; refine bodyPost_ret (results_row_row rfl _ _ (w.heap.size + 1) (w.heap.size + 2) 99 101 #[.int .i64 (99),.bool false,.slice (some ⟨w3.heap.size + 1,0,none⟩) 1 1,.int .i64 0,.bool false,.bool false] #[.int .i64 ((k : Int)),.int .i64 ((v : Int)),.int .i64 ((j : Int)),.int .i64 (-1)] (0,0) (0,0) _ _ rfl rfl hE.1 hE.2.1 Tryz.underlying99 rfl (by kernel_rfl) Tryz.underlying101 rfl (by kernel_rfl)) rfl ?_; rw [HS.out]; exact ⟨99,false,_,_,_,_,_,rfl,hE.2.2.1,⟨_,_,_,rfl⟩,⟨rfl,rfl,rfl,rfl,hE.2.2.2 _ _ (el_new (by rw [HEL.out]; exact HE4.out) 1)⟩⟩)
   | (have hE:=(HT4.out.end2 (.int .i64 (99)) (.bool false) (.slice (some ⟨w3.heap.size + 1,0,none⟩) 1 1) (.int .i64 0) (.bool false) (.bool false) (.int .i64 ((k : Int))) (.int .i64 ((v : Int))) (.int .i64 ((j : Int))) (.int .i64 (-1))).drew; refine bodyPost_ret (results_row_row rfl _ _ (w.heap.size + 1) (w.heap.size + 2) 99 101 #[.int .i64 (99),.bool false,.slice (some ⟨w3.heap.size + 1,0,none⟩) 1 1,.int .i64 0,.bool false,.bool false] #[.int .i64 ((k : Int)),.int .i64 ((v : Int)),.int .i64 ((j : Int)),.int .i64 (-1)] (0,0) (0,0) _ _ rfl rfl hE.1 hE.2.1 Tryz.underlying99 rfl (by kernel_rfl) Tryz.underlying101 rfl (by kernel_rfl)) rfl ?_; rw [HS.out]; exact ⟨99,false,_,_,_,_,_,rfl,hE.2.2.1,⟨_,_,_,rfl⟩,⟨rfl,rfl,rfl,rfl,hE.2.2.2 _ _ (el_new (by rw [HEL.out]; exact HE4.out) 1)⟩⟩)
end Go.Proofs.YtchdeboialbdiaaGreatDoor
