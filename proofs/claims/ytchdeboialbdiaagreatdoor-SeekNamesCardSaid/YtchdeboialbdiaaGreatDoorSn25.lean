/- Texts joined, one behind the other (SRefF, SRefG). -/
import Derived.Test.YtchdeboialbdiaaGreatDoorSn24
import Derived.BigRegion
namespace Go.Proofs.YtchdeboialbdiaaGreatDoor
set_option linter.unusedVariables false
set_option linter.unusedSimpArgs false
set_option maxHeartbeats 8000000
set_option maxRecDepth 100000
open Go.RowKit
open Go.Lib hiding intOf
def rdV (g1 c1 g2 c2 n : Nat) : Value:=.agg #[.slice (some ⟨g1,0,none⟩) (n + 1) c1,.slice (some ⟨g2,0,none⟩) (n + 1) c2]
def vI (V : List Nat) (i : Nat) : Int:=match V[i]? with
 | some v => (v : Int)
 | none => -1
theorem vI_some {V : List Nat} {i v : Nat} (h : V[i]? = some v) : vI V i = (v : Int):=by unfold vI; rw [h]
theorem vI_none {V : List Nat} {i : Nat} (h : V[i]? = none) : vI V i = -1:=by unfold vI; rw [h]
theorem vI_at {V : List Nat} {i : Nat} (h : i ≤ V.length) : (toZ V ++ [-1])[i]? = some (vI V i):=by
 have hl : (toZ V).length = V.length:=by unfold toZ; rw [List.length_map]
 by_cases hi : i < V.length
 ·rw [List.getElem?_append_left (by omega)]
  unfold toZ vI
  rw [List.getElem?_map,List.getElem?_eq_getElem hi]
  rfl
 ·obtain rfl : i = V.length:=by omega
  rw [List.getElem?_append_right (by omega),hl,Nat.sub_self,vI_none (List.getElem?_eq_none (Nat.le_refl _))]
  rfl
theorem IntsAt.v {w : World} {g : Nat} {V : List Nat} (h : IntsAt w g (toZ V ++ [-1])) {i : Nat} (hi : i ≤ V.length) : w.cell? ⟨g,i,none⟩ = some (.int .i64 (vI V i)):=h.2 i _ (vI_at hi)
theorem IntsAt.grown {w w' : World} {g b : Nat} {L : List Int} (h : IntsAt w g L) (hg : w.grownBy w' (some b)) (hne : g ≠ b) : IntsAt w' g L:=by
 have hb:=hg.block g h.1 (fun e => hne (Option.some.inj e))
 exact ⟨Nat.lt_of_lt_of_le h.1 hg.size,fun k x hx => by rw [World.cell?_of_block (a:=⟨g,k,none⟩) hb]; exact h.2 k x hx⟩
theorem vI_bound {V : List Nat} (hV : OkV V) (i : Nat) : -1 ≤ vI V i ∧ vI V i < 2000000:=by
 cases hv : V[i]? with
 | none => rw [vI_none hv]; omega
 | some v =>
  rw [vI_some hv]
  have:=hV v (List.mem_of_getElem? hv)
  unfold wrongN at this
  omega
theorem textR6 (w : World) (l : List UInt8) (hm : l.length ≤ 67108864) :
  Calls Tryz.prog 38 #[.string (bstr l)] w fun e w' => ∃ g1 c1 g2 c2,e = .returned (.agg #[.slice (some ⟨g1,0,none⟩) (valsL l).length c1,.slice (some ⟨g2,0,none⟩) ((valsL l).length + 1) c2]) ∧ IntsAt w' g1 (toZ (valsL l) ++ [-1]) ∧ IntsAt w' g2 (toZ (atsL l)) ∧ Below w.heap.size w w':=by
 have hb0 : Below w.heap.size w (w.alloc (.cells #[.slice none 0 0,.slice none 0 0] 106)):=(Below.refl _ w).alloc (Nat.le_refl _) _
 have hC:=readerR6 (w.alloc (.cells #[.slice none 0 0,.slice none 0 0] 106)) l hm
 unfold ReaderP at hC
 have hvl:=vals_lenR l
 obtain ⟨V,hV⟩ : ∃ V,toZ (valsL l) ++ [-1] = V:=⟨_,rfl⟩
 obtain ⟨A,hA⟩ : ∃ A,toZ (atsL l) = A:=⟨_,rfl⟩
 obtain ⟨n,hn⟩ : ∃ n,(valsL l).length = n:=⟨_,rfl⟩
 rw [hV,hA,hn] at hC
 rw [hV,hA,hn]
 rw [hn] at hvl
 have hC2 : Calls Tryz.prog 35 #[.string (bstr l)] (w.alloc (.cells #[.slice none 0 0,.slice none 0 0] 106)) fun e w' => ∃ g1 c1 g2 c2,e = .returned (.agg #[.slice (some ⟨g1,0,none⟩) (n + 1) c1,.slice (some ⟨g2,0,none⟩) (n + 1) c2]) ∧ IntsAt w' g1 V ∧ IntsAt w' g2 A ∧ Below w.heap.size w w' ∧ Row w' w.heap.size 106 [.slice none 0 0,.slice none 0 0] ∧ g1 ≠ w.heap.size ∧ g2 ≠ w.heap.size ∧ n ≤ c1:=by
  refine hC.mono ?_
  rintro e w' ⟨g1,c1,g2,c2,rfl,h1,h2,h3,h4,h5,h6⟩
  rw [World.size_alloc] at h4 h5
  have hr : Row (w.alloc (.cells #[.slice none 0 0,.slice none 0 0] 106)) w.heap.size 106 [.slice none 0 0,.slice none 0 0]:=row_new w [.slice none 0 0,.slice none 0 0] _
  exact ⟨g1,c1,g2,c2,rfl,h1,h2,hb0.trans (h3.mono hb0.size),hr.keep h3 hr.lt,by omega,by omega,by omega⟩
 have HC:=Lib.hid hC2
 have hnn : IntKind.i64.wrap (((n + 1 : Nat) : Int) - 1) = (n : Int):=by rw [show ((n + 1 : Nat) : Int) - 1 = (n : Int) by omega]; exact IntWalk.i64_in _ (by omega)
 have hnw : IntKind.i64.wrap (n : Int) = (n : Int):=IntWalk.i64_in _ (by omega)
 clear hC hC2 hV hA hn hb0
 go_enter Tryz.func38, Tryz.ntmps38
 go_wp2_with (go_at_call 35; refine (HC.out).mono ?_; rintro e w1 ⟨g1,c1,g2,c2,rfl,h1,h2,h3,hro,n1,n2,n3⟩; have n3i : (n : Int) ≤ (c1 : Int):=(by omega); have r0:=hro.cell 0; have r1:=hro.cell 1; have f0:=hro.frozen 0; have f1:=hro.frozen 1; have r4:=hro.lt; have H1:=Lib.hid h1; have H2:=Lib.hid h2; have H3:=Lib.hid h3; have HRO:=Lib.hid hro; have HNN : Hid (g1 ≠ w.heap.size ∧ g2 ≠ w.heap.size ∧ True):=Lib.hid ⟨n1,n2,trivial⟩; clear h1 h2 h3 hro n1 n2)
 go_region
 go_wp2
 have hR:=(HRO.out.set 0 (.slice (some ⟨g1,0,none⟩) n c1)).set 1 (.slice (some ⟨g2,0,none⟩) (n + 1) c2)
 have hR2:=hR.alloc (.cells #[.slice (some ⟨g1,0,none⟩) (n + 1) c1,.slice (some ⟨g2,0,none⟩) (n + 1) c2] 95)
 have hR3:=hR2.keep ((Below.refl _ _).drew) hR2.lt
 refine bodyPost_ret (results_cell_row rfl _ _ w.heap.size 106 #[.slice (some ⟨g1,0,none⟩) n c1,.slice (some ⟨g2,0,none⟩) (n + 1) c2] (0,0) _ rfl hR3 Tryz.underlying106 rfl (by kernel_rfl)) rfl ?_
 have hg:=grown_then (grownBy_set w1 w.heap.size 0 (.slice (some ⟨g1,0,none⟩) n c1)) (grownBy_set (w1.setCell ⟨w.heap.size,0,none⟩ (.slice (some ⟨g1,0,none⟩) n c1)) w.heap.size 1 (.slice (some ⟨g2,0,none⟩) (n + 1) c2)) (fun j h => .inr h)
 have hb9 : Below ((w1.setCell ⟨w.heap.size,0,none⟩ (.slice (some ⟨g1,0,none⟩) n c1)).setCell ⟨w.heap.size,1,none⟩ (.slice (some ⟨g2,0,none⟩) (n + 1) c2)).heap.size ((w1.setCell ⟨w.heap.size,0,none⟩ (.slice (some ⟨g1,0,none⟩) n c1)).setCell ⟨w.heap.size,1,none⟩ (.slice (some ⟨g2,0,none⟩) (n + 1) c2)) (((w1.setCell ⟨w.heap.size,0,none⟩ (.slice (some ⟨g1,0,none⟩) n c1)).setCell ⟨w.heap.size,1,none⟩ (.slice (some ⟨g2,0,none⟩) (n + 1) c2)).alloc (.cells #[.slice (some ⟨g1,0,none⟩) (n + 1) c1,.slice (some ⟨g2,0,none⟩) (n + 1) c2] 95)).drew:=((Below.refl _ _).alloc (Nat.le_refl _) _).drew
 refine ⟨g1,c1,g2,c2,rfl,(H1.out.grown hg HNN.out.1).keep hb9 (Nat.le_refl _),(H2.out.grown hg HNN.out.2.1).keep hb9 (Nat.le_refl _),?_⟩
 exact ((H3.out.setCell (p:=⟨w.heap.size,0,none⟩) (Nat.le_refl _) _).setCell (p:=⟨w.heap.size,1,none⟩) (Nat.le_refl _) _).trans (hb9.mono (by have:=hg.size; omega))
theorem markZ_eq (v : Nat) : markN v = (decide ((33 : Int) ≤ v) && decide ((v : Int) ≤ 47) || decide ((58 : Int) ≤ v) && decide ((v : Int) ≤ 64) || decide ((91 : Int) ≤ v) && decide ((v : Int) ≤ 96) || decide ((123 : Int) ≤ v) && decide ((v : Int) ≤ 126)):=by
 unfold markN
 rw [Bool.eq_iff_iff]
 simp only [Bool.or_eq_true,Bool.and_eq_true,decide_eq_true_iff]
 omega
def markZ (z : Int) : Bool:=decide (33 ≤ z ∧ z ≤ 47 ∨ 58 ≤ z ∧ z ≤ 64 ∨ 91 ≤ z ∧ z ≤ 96 ∨ 123 ≤ z ∧ z ≤ 126)
theorem markZ_N (v : Nat) : markZ (v : Int) = markN v:=by
 rw [markZ_eq]
 unfold markZ
 rw [Bool.eq_iff_iff]
 simp only [Bool.or_eq_true,Bool.and_eq_true,decide_eq_true_iff]
 omega
theorem markR6 (w : World) (z : Int) : Calls Tryz.prog 80 #[.int .i64 z] w fun e w' => e = .returned (.bool (markZ z)) ∧ w' = w:=by
 have key : ∀ b : Bool,(b = true ↔ (33 ≤ z ∧ z ≤ 47 ∨ 58 ≤ z ∧ z ≤ 64 ∨ 91 ≤ z ∧ z ≤ 96 ∨ 123 ≤ z ∧ z ≤ 126)) → b = markZ z:=by
  intro b hb
  unfold markZ
  rw [Bool.eq_iff_iff,hb,decide_eq_true_iff]
 have KEY:=Lib.hid key
 clear key
 by_cases a : z < 33
 ·have a1 : ¬ 33 ≤ z:=by omega
  have a2 : ¬ 58 ≤ z:=by omega
  have a3 : ¬ 91 ≤ z:=by omega
  have a4 : ¬ 123 ≤ z:=by omega
  go_enter Tryz.func80, Tryz.ntmps80
  go_wp2_with fail
  go_ret
  exact ⟨by rw [← KEY.out false (by simp; omega)]; rfl,rfl⟩
 have a1 : 33 ≤ z:=by omega
 by_cases b : z ≤ 47
 ·go_enter Tryz.func80, Tryz.ntmps80
  go_wp2_with fail
  go_ret
  exact ⟨by rw [← KEY.out true (by simp; omega)]; rfl,rfl⟩
 by_cases c : z < 58
 ·have a2 : ¬ 58 ≤ z:=by omega
  have a3 : ¬ 91 ≤ z:=by omega
  have a4 : ¬ 123 ≤ z:=by omega
  go_enter Tryz.func80, Tryz.ntmps80
  go_wp2_with fail
  go_ret
  exact ⟨by rw [← KEY.out false (by simp; omega)]; rfl,rfl⟩
 have a2 : 58 ≤ z:=by omega
 by_cases d : z ≤ 64
 ·go_enter Tryz.func80, Tryz.ntmps80
  go_wp2_with fail
  go_ret
  exact ⟨by rw [← KEY.out true (by simp; omega)]; rfl,rfl⟩
 by_cases e : z < 91
 ·have a3 : ¬ 91 ≤ z:=by omega
  have a4 : ¬ 123 ≤ z:=by omega
  go_enter Tryz.func80, Tryz.ntmps80
  go_wp2_with fail
  go_ret
  exact ⟨by rw [← KEY.out false (by simp; omega)]; rfl,rfl⟩
 have a3 : 91 ≤ z:=by omega
 by_cases f : z ≤ 96
 ·go_enter Tryz.func80, Tryz.ntmps80
  go_wp2_with fail
  go_ret
  exact ⟨by rw [← KEY.out true (by simp; omega)]; rfl,rfl⟩
 by_cases g : z < 123
 ·have a4 : ¬ 123 ≤ z:=by omega
  go_enter Tryz.func80, Tryz.ntmps80
  go_wp2_with fail
  go_ret
  exact ⟨by rw [← KEY.out false (by simp; omega)]; rfl,rfl⟩
 have a4 : 123 ≤ z:=by omega
 by_cases h : z ≤ 126
 ·go_enter Tryz.func80, Tryz.ntmps80
  go_wp2_with fail
  go_ret
  exact ⟨by rw [← KEY.out true (by simp; omega)]; rfl,rfl⟩
 ·go_enter Tryz.func80, Tryz.ntmps80
  go_wp2_with fail
  go_ret
  exact ⟨by rw [← KEY.out false (by simp; omega)]; rfl,rfl⟩
theorem digI_v {V : List Nat} {i : Nat} : digI V i = if 48 ≤ vI V i ∧ vI V i ≤ 57 then vI V i - 48 else if 97 ≤ vI V i ∧ vI V i ≤ 102 then vI V i - 97 + 10 else if 65 ≤ vI V i ∧ vI V i ≤ 70 then vI V i - 65 + 10 else -1:=by
 unfold digI digO
 cases hv : V[i]? with
 | none =>
  rw [vI_none hv]
  rfl
 | some v =>
  rw [vI_some hv]
  show (match digN v with | some d => (d : Int) | none => -1) = _
  unfold digN
  by_cases h1 : 48 ≤ v ∧ v ≤ 57
  ·rw [if_pos h1,if_pos (show (48 : Int) ≤ (v : Int) ∧ (v : Int) ≤ 57 by omega)]
   show ((v - 48 : Nat) : Int) = _
   omega
  ·rw [if_neg h1,if_neg (show ¬ ((48 : Int) ≤ (v : Int) ∧ (v : Int) ≤ 57) by omega)]
   by_cases h2 : 97 ≤ v ∧ v ≤ 102
   ·rw [if_pos h2,if_pos (show (97 : Int) ≤ (v : Int) ∧ (v : Int) ≤ 102 by omega)]
    show ((v - 97 + 10 : Nat) : Int) = _
    omega
   ·rw [if_neg h2,if_neg (show ¬ ((97 : Int) ≤ (v : Int) ∧ (v : Int) ≤ 102) by omega)]
    by_cases h3 : 65 ≤ v ∧ v ≤ 70
    ·rw [if_pos h3,if_pos (show (65 : Int) ≤ (v : Int) ∧ (v : Int) ≤ 70 by omega)]
     show ((v - 65 + 10 : Nat) : Int) = _
     omega
    ·rw [if_neg h3,if_neg (show ¬ ((65 : Int) ≤ (v : Int) ∧ (v : Int) ≤ 70) by omega)]
theorem digitR6 (w : World) (V : List Nat) (i : Nat) : Calls Tryz.prog 100 #[.int .i64 (vI V i)] w fun e w' => e = .returned (.int .i64 (digI V i)) ∧ w' = w:=by
 rw [digI_v]
 obtain ⟨z,hz⟩ : ∃ z,vI V i = z:=⟨_,rfl⟩
 rw [hz]
 clear hz
 by_cases h1 : 48 ≤ z ∧ z ≤ 57
 ·rw [if_pos h1]
  obtain ⟨p,q⟩:=h1
  go_enter Tryz.func100, Tryz.ntmps100
  go_wp2_with fail
  go_ret
  exact ⟨rfl,rfl⟩
 rw [if_neg h1]
 by_cases h2 : 97 ≤ z ∧ z ≤ 102
 ·rw [if_pos h2]
  obtain ⟨p,q⟩:=h2
  have a1 : 48 ≤ z:=by omega
  have a2 : ¬ z ≤ 57:=by omega
  clear h1
  go_enter Tryz.func100, Tryz.ntmps100
  go_wp2_with fail
  go_ret
  exact ⟨rfl,rfl⟩
 rw [if_neg h2]
 by_cases h3 : 65 ≤ z ∧ z ≤ 70
 ·rw [if_pos h3]
  obtain ⟨p,q⟩:=h3
  have a1 : 48 ≤ z:=by omega
  have a2 : ¬ z ≤ 57:=by omega
  have a3 : ¬ 97 ≤ z:=by omega
  clear h1 h2
  go_enter Tryz.func100, Tryz.ntmps100
  go_wp2_with fail
  go_ret
  exact ⟨rfl,rfl⟩
 rw [if_neg h3]
 have fin : ∀ (P : Prop),P → P:=fun _ h => h
 by_cases a1 : 48 ≤ z
 ·have a2 : ¬ z ≤ 57:=by omega
  by_cases a3 : 97 ≤ z
  ·have a4 : ¬ z ≤ 102:=by omega
   have a5 : 65 ≤ z:=by omega
   have a6 : ¬ z ≤ 70:=by omega
   clear h1 h2 h3
   go_enter Tryz.func100, Tryz.ntmps100
   go_wp2_with fail
   go_ret
   exact ⟨rfl,rfl⟩
  ·by_cases a5 : 65 ≤ z
   ·have a6 : ¬ z ≤ 70:=by omega
    clear h1 h2 h3
    go_enter Tryz.func100, Tryz.ntmps100
    go_wp2_with fail
    go_ret
    exact ⟨rfl,rfl⟩
   ·clear h1 h2 h3
    go_enter Tryz.func100, Tryz.ntmps100
    go_wp2_with fail
    go_ret
    exact ⟨rfl,rfl⟩
 ·have a3 : ¬ 97 ≤ z:=by omega
  have a5 : ¬ 65 ≤ z:=by omega
  clear h1 h2 h3
  go_enter Tryz.func100, Tryz.ntmps100
  go_wp2_with fail
  go_ret
  exact ⟨rfl,rfl⟩
def gotL : Got → List Value
 | .inl b => [.int .i64 0,.int .i64 0,.int .i64 0,.int .i64 (b : Int)]
 | .inr (k,v,j) => [.int .i64 (k : Int),.int .i64 (v : Int),.int .i64 (j : Int),.int .i64 (-1)]
def gotV (G : Got) : Value:=.agg (gotL G).toArray
theorem gotEnd {W : World} {g : Nat} {x0 x1 x2 x3 : Value} (hR : Row W g 101 [x0,x1,x2,x3]) (a b c d : Value) : Row ((((W.setCell ⟨g,0,none⟩ a).setCell ⟨g,1,none⟩ b).setCell ⟨g,2,none⟩ c).setCell ⟨g,3,none⟩ d) g 101 [a,b,c,d]:=(((hR.set 0 a).set 1 b).set 2 c).set 3 d
theorem gotBelow {B g : Nat} {w W : World} (h : Below B w W) (hg : B ≤ g) (a b c d : Value) : Below B w ((((W.setCell ⟨g,0,none⟩ a).setCell ⟨g,1,none⟩ b).setCell ⟨g,2,none⟩ c).setCell ⟨g,3,none⟩ d) :=
 (((h.setCell (p:=⟨g,0,none⟩) hg a).setCell (p:=⟨g,1,none⟩) hg b).setCell (p:=⟨g,2,none⟩) hg c).setCell (p:=⟨g,3,none⟩) hg d
structure RdW (w W : World) (rd : List Value) (g1 : Nat) (V : List Nat) : Prop where
 box : Row W w.heap.size 95 rd
 res : Row W (w.heap.size + 1) 101 [.int .i64 0,.int .i64 0,.int .i64 0,.int .i64 0]
 below : Below w.heap.size w W
 ints : IntsAt W g1 (toZ V ++ [-1])
theorem RdW.start {w : World} {rd : List Value} {g1 : Nat} {V : List Nat} (h : IntsAt w g1 (toZ V ++ [-1])) : RdW w ((w.alloc (.cells rd.toArray 95)).alloc (.cells #[.int .i64 0,.int .i64 0,.int .i64 0,.int .i64 0] 101)) rd g1 V:=by
 have hb : Below w.heap.size w ((w.alloc (.cells rd.toArray 95)).alloc (.cells #[.int .i64 0,.int .i64 0,.int .i64 0,.int .i64 0] 101)):=((Below.refl _ w).alloc (Nat.le_refl _) _).alloc (by simp) _
 refine ⟨?_,?_,hb,h.keep hb (Nat.le_refl _)⟩
 ·have hr : Row (w.alloc (.cells rd.toArray 95)) w.heap.size 95 rd:=row_new w rd _
  exact hr.alloc _
 ·have:=row_new (w.alloc (.cells rd.toArray 95)) [.int .i64 0,.int .i64 0,.int .i64 0,.int .i64 0] 101
  rwa [World.size_alloc] at this
theorem RdW.next {w W W' : World} {rd : List Value} {g1 : Nat} {V : List Nat} (h : RdW w W rd g1 V) (hb : Below W.heap.size W W') : RdW w W' rd g1 V :=
 ⟨h.box.keep hb h.box.lt,h.res.keep hb h.res.lt,h.below.trans (hb.mono h.below.size),h.ints.keep hb (Nat.le_refl _)⟩
theorem dig_lt {V : List Nat} {i d : Nat} (h : digO V i = some d) : i < V.length:=(digO_le h).1
theorem byteR6 (w : World) (g1 c1 g2 c2 n : Nat) (V : List Nat) (i : Nat) (hn : V.length = n) (hI : IntsAt w g1 (toZ V ++ [-1])) (hV : OkV V) (hi : i ≤ n) (hnb : n ≤ 67108864) :
  Calls Tryz.prog 81 #[rdV g1 c1 g2 c2 n,.int .i64 (i : Int)] w fun e w' => e = .returned (gotV (hexP V i)) ∧ Below w.heap.size w w':=by
 unfold rdV
 have hst:=RdW.start (w:=w) (rd:=[.slice (some ⟨g1,0,none⟩) (n + 1) c1,.slice (some ⟨g2,0,none⟩) (n + 1) c2]) hI
 obtain ⟨W0,hW0⟩ : ∃ W,W = (w.alloc (.cells #[.slice (some ⟨g1,0,none⟩) (n + 1) c1,.slice (some ⟨g2,0,none⟩) (n + 1) c2] 95)).alloc (.cells #[.int .i64 0,.int .i64 0,.int .i64 0,.int .i64 0] 101):=⟨_,rfl⟩
 have hst2 : RdW w W0 [.slice (some ⟨g1,0,none⟩) (n + 1) c1,.slice (some ⟨g2,0,none⟩) (n + 1) c2] g1 V:=by rw [hW0]; exact hst
 have HW:=Lib.hid hst2
 have HW0:=Lib.hid hW0
 have HN:=Lib.hid hn
 have HV:=Lib.hid hV
 have b0 : W0.cell? ⟨w.heap.size,0,none⟩ = some (.slice (some ⟨g1,0,none⟩) (n + 1) c1):=hst2.box.cell 0
 have b1 : W0.cell? ⟨w.heap.size,1,none⟩ = some (.slice (some ⟨g2,0,none⟩) (n + 1) c2):=hst2.box.cell 1
 have bl:=hst2.box.lt
 have rf0:=hst2.res.frozen 0
 have rf1:=hst2.res.frozen 1
 have rf2:=hst2.res.frozen 2
 have rf3:=hst2.res.frozen 3
 have rc0:=hst2.res.cell 0
 have rc1:=hst2.res.cell 1
 have rc2:=hst2.res.cell 2
 have rc3:=hst2.res.cell 3
 have rl:=hst2.res.lt
 clear hst hst2 hW0 hn hV hI
 go_enter Tryz.func81, Tryz.ntmps81
 go_upto_region 1 with fail
 rw [← HW0.out]
 go_wp2_with fail
 go_loopw [5,6] (fun um uk wr => ∃ (j m : Nat),uk = .int .i64 ((i + j : Nat) : Int) ∧ um = .int .i64 (m : Int) ∧ j ≤ 2 ∧ wr = W0 ∧ m < 256 ∧ Hid ((j = 0 ∧ m = 0) ∨ (j = 1 ∧ digO V i = some m) ∨ (j = 2 ∧ ∃ d e,digO V i = some d ∧ digO V (i + 1) = some e ∧ m = 16 * d + e))) (fun _ uk _ => i + 2 - (RowKit.intOf uk).toNat)
 case atStart => exact ⟨0,0,rfl,rfl,by omega,rfl,by omega,Lib.hid (.inl ⟨rfl,rfl⟩)⟩
 case round =>
  obtain ⟨j,m,rfl,rfl,hj,rfl,hmb,HI⟩:=hrel
  by_cases hlt : j < 2
  ·have hkn : i + j ≤ V.length:=by
    rcases HI.out with ⟨h1,_⟩ | ⟨h1,h2⟩ | ⟨h1,_⟩
    ·rw [HN.out]; omega
    ·have:=dig_lt h2; omega
    ·omega
   have hm15 : m < 16:=by
    rcases HI.out with ⟨h1,h2⟩ | ⟨h1,h2⟩ | ⟨h1,_⟩
    ·omega
    ·exact (digO_le h2).2
    ·omega
   have hcell:=HW.out.ints.v hkn
   have HD:=Lib.hid (fun W => digitR6 W V (i + j))
   obtain ⟨k,hk⟩ : ∃ k,i + j = k:=⟨_,rfl⟩
   rw [hk] at hcell HD hkn ⊢
   have hk1 : (k : Int) < (i : Int) + 2:=by omega
   have hk2 : (k : Int) < ((n + 1 : Nat) : Int):=by have:=HN.out; omega
   have hk3 : (k : Int) < (n : Int) + 1:=by have:=HN.out; omega
   have hvb:=vI_bound HV.out k
   obtain ⟨z,hz⟩ : ∃ z,vI V k = z:=⟨_,rfl⟩
   rw [hz] at hcell HD hvb
   have HK:=Lib.hid hk
   cases hd : digO V k with
   | none =>
    have e1 : digI V k = -1:=by unfold digI; rw [hd]
    rw [e1] at HD
    have e2 : hexP V i = .inl k:=by
     unfold hexP
     rcases HI.out with ⟨h1,_⟩ | ⟨h1,h2⟩ | ⟨h1,_⟩
     ·obtain rfl : k = i:=by omega
      rw [hd]
     ·obtain rfl : k = i + 1:=by omega
      rw [h2]
      dsimp only
      rw [hd]
     ·omega
    have HE:=Lib.hid e2
    clear hd e1 e2 hz hk
    go_wp2_with (go_at_call 100; refine (HD.out _).mono ?_; rintro e w1 ⟨rfl,rfl⟩)
    have hR:=gotEnd HW.out.res (.int .i64 0) (.int .i64 0) (.int .i64 0) (.int .i64 ((k : Int)))
    refine bodyPost_ret (results_cell_row rfl _ _ (w.heap.size + 1) 101 #[.int .i64 0,.int .i64 0,.int .i64 0,.int .i64 ((k : Int))] (0,0) _ rfl hR Tryz.underlying101 rfl (by kernel_rfl)) rfl ?_
    exact ⟨by rw [HE.out]; rfl,gotBelow HW.out.below (Nat.le_succ _) _ _ _ _⟩
   | some d =>
    have e1 : digI V k = (d : Int):=by unfold digI; rw [hd]
    have hd16:=(digO_le hd).2
    rw [e1] at HD
    have HDD:=Lib.hid hd
    clear hd e1 hz hk
    go_wp2_with (go_at_call 100; refine (HD.out _).mono ?_; rintro e w1 ⟨rfl,rfl⟩)
    go_roundw
    case rel => exact ⟨j + 1,16 * m + d,by have:=HK.out; rw [← this]; go_num,by go_num,by omega,by first | rfl | trivial,by omega,Lib.hid (by
     have hkk:=HK.out
     rcases HI.out with ⟨h1,h2⟩ | ⟨h1,h2⟩ | ⟨h1,_⟩
     ·right; left
      refine ⟨by omega,?_⟩
      rw [show i = k by omega,HDD.out,h2]
      congr 1
      omega
     ·right; right
      exact ⟨by omega,m,d,h2,by rw [show i + 1 = k by omega]; exact HDD.out,rfl⟩
     ·omega)⟩
    case measure => have:=HK.out; simp [RowKit.intOf]; omega
  ·obtain rfl : j = 2:=by omega
   obtain ⟨d,e,hd,he,hm⟩ : ∃ d e,digO V i = some d ∧ digO V (i + 1) = some e ∧ m = 16 * d + e:=by
    rcases HI.out with ⟨h1,_⟩ | ⟨h1,_⟩ | ⟨_,h⟩
    ·omega
    ·omega
    ·exact h
   have hex : hexP V i = .inr (0,if 128 ≤ m then wrongN + m else m,i + 2):=by
    unfold hexP
    rw [hd]
    dsimp only
    rw [he,hm]
   have HE:=Lib.hid hex
   have hnl : ¬ ((i + 2 : Nat) : Int) < (i : Int) + 2:=by omega
   have hcast : ((i + 2 : Nat) : Int) = (i : Int) + 2:=by omega
   clear hd he hm hex
   by_cases hc : 128 ≤ m
   ·have hci : (128 : Int) ≤ (m : Int):=by omega
    go_wp2_with fail
    have hR:=gotEnd HW.out.res (.int .i64 0) (.int .i64 (1114112 + (m : Int))) (.int .i64 ((i : Int) + 2)) (.int .i64 (-1))
    refine bodyPost_ret (results_cell_row rfl _ _ (w.heap.size + 1) 101 #[.int .i64 0,.int .i64 (1114112 + (m : Int)),.int .i64 ((i : Int) + 2),.int .i64 (-1)] (0,0) _ rfl hR Tryz.underlying101 rfl (by kernel_rfl)) rfl ?_
    exact ⟨by rw [HE.out,if_pos hc]; rfl,gotBelow HW.out.below (Nat.le_succ _) _ _ _ _⟩
   ·have hci : ¬ (128 : Int) ≤ (m : Int):=by omega
    go_wp2_with fail
    have hR:=gotEnd HW.out.res (.int .i64 0) (.int .i64 ((m : Int))) (.int .i64 ((i : Int) + 2)) (.int .i64 (-1))
    refine bodyPost_ret (results_cell_row rfl _ _ (w.heap.size + 1) 101 #[.int .i64 0,.int .i64 ((m : Int)),.int .i64 ((i : Int) + 2),.int .i64 (-1)] (0,0) _ rfl hR Tryz.underlying101 rfl (by kernel_rfl)) rfl ?_
    exact ⟨by rw [HE.out,if_neg hc]; rfl,gotBelow HW.out.below (Nat.le_succ _) _ _ _ _⟩
theorem vI_eq {V : List Nat} {k v : Nat} (h : vI V k = (v : Int)) : V[k]? = some v:=by
 cases hv : V[k]? with
 | none => rw [vI_none hv] at h; omega
 | some x => rw [vI_some hv] at h; congr 1; omega
theorem mayI_N (m : Nat) : mayI (m : Int) = mayN m:=by
 unfold mayI mayN
 rw [Bool.eq_iff_iff]
 simp only [Bool.or_eq_true,Bool.and_eq_true,decide_eq_true_iff]
 omega
theorem pow_step (m d g : Nat) (hd : d < 16) (h : (m + 1) * 16 ^ (g + 1) ≤ 16777216) : (16 * m + d + 1) * 16 ^ g ≤ 16777216:=by
 refine Nat.le_trans ?_ h
 rw [Nat.pow_succ,Nat.mul_comm (16 ^ g) 16,← Nat.mul_assoc]
 exact Nat.mul_le_mul_right _ (by omega)
theorem pow_le (m f : Nat) (h : (m + 1) * 16 ^ f ≤ 16777216) : m < 16777216:=by
 have h1 : 1 ≤ 16 ^ f:=Nat.one_le_pow _ _ (by decide)
 have h2 : m + 1 ≤ (m + 1) * 16 ^ f:=Nat.le_mul_of_pos_right _ h1
 omega
theorem runeR6 (w : World) (g1 c1 g2 c2 n : Nat) (V : List Nat) (i : Nat) (hn : V.length = n) (hI : IntsAt w g1 (toZ V ++ [-1])) (hV : OkV V) (hi : i ≤ n) (hnb : n ≤ 67108864) :
  Calls Tryz.prog 82 #[rdV g1 c1 g2 c2 n,.int .i64 (i : Int)] w fun e w' => e = .returned (gotV (runeP V i)) ∧ Below w.heap.size w w':=by
 unfold rdV
 have hst:=RdW.start (w:=w) (rd:=[.slice (some ⟨g1,0,none⟩) (n + 1) c1,.slice (some ⟨g2,0,none⟩) (n + 1) c2]) hI
 obtain ⟨W0,hW0⟩ : ∃ W,W = (w.alloc (.cells #[.slice (some ⟨g1,0,none⟩) (n + 1) c1,.slice (some ⟨g2,0,none⟩) (n + 1) c2] 95)).alloc (.cells #[.int .i64 0,.int .i64 0,.int .i64 0,.int .i64 0] 101):=⟨_,rfl⟩
 have hst2 : RdW w W0 [.slice (some ⟨g1,0,none⟩) (n + 1) c1,.slice (some ⟨g2,0,none⟩) (n + 1) c2] g1 V:=by rw [hW0]; exact hst
 have HW:=Lib.hid hst2
 have HW0:=Lib.hid hW0
 have HN:=Lib.hid hn
 have HV:=Lib.hid hV
 have b0 : W0.cell? ⟨w.heap.size,0,none⟩ = some (.slice (some ⟨g1,0,none⟩) (n + 1) c1):=hst2.box.cell 0
 have b1 : W0.cell? ⟨w.heap.size,1,none⟩ = some (.slice (some ⟨g2,0,none⟩) (n + 1) c2):=hst2.box.cell 1
 have bl:=hst2.box.lt
 have rf0:=hst2.res.frozen 0
 have rf1:=hst2.res.frozen 1
 have rf2:=hst2.res.frozen 2
 have rf3:=hst2.res.frozen 3
 have rc0:=hst2.res.cell 0
 have rc1:=hst2.res.cell 1
 have rc2:=hst2.res.cell 2
 have rc3:=hst2.res.cell 3
 have rl:=hst2.res.lt
 clear hst hst2 hW0 hn hV hI
 go_enter Tryz.func82, Tryz.ntmps82
 go_upto_region 1 with fail
 rw [← HW0.out]
 have hcell0:=HW.out.ints.v (i:=i) (by rw [HN.out]; exact hi)
 have hi1 : (i : Int) < ((n + 1 : Nat) : Int):=by omega
 have hi2 : (i : Int) < (n : Int) + 1:=by omega
 obtain ⟨c,hc⟩ : ∃ c,vI V i = c:=⟨_,rfl⟩
 rw [hc] at hcell0
 by_cases hc123 : c = 123
 ·have HC : Hid (V[i]? = some 123):=Lib.hid (vI_eq (hc.trans hc123))
  have ci : (c != 123) = false:=by simp [hc123]
  have hin : i < n:=by have:=lt_of_some HC.out; rw [HN.out] at this; exact this
  clear hc123 hc
  go_wp2_with fail
  go_loopw [5,6] (fun um uk wr => ∃ (f k m : Nat),uk = .int .i64 (k : Int) ∧ um = .int .i64 (m : Int) ∧ f ≤ 6 ∧ k + f = i + 7 ∧ k ≤ n ∧ (m + 1) * 16 ^ f ≤ 16777216 ∧ wr = W0 ∧ Hid (digsGo V f k m = digsGo V 6 (i + 1) 0)) (fun _ uk _ => i + 8 - (RowKit.intOf uk).toNat)
  case atStart => exact ⟨6,i + 1,0,by go_num,rfl,by omega,by omega,by omega,by decide,rfl,Lib.hid rfl⟩
  case round =>
   obtain ⟨f,k,m,rfl,rfl,hf,hkf,hkn,hpw,rfl,HI⟩:=hrel
   have hcell:=HW.out.ints.v (i:=k) (by rw [HN.out]; exact hkn)
   have HD:=Lib.hid (fun W => digitR6 W V k)
   have hk2 : (k : Int) < ((n + 1 : Nat) : Int):=by omega
   have hk3 : (k : Int) < (n : Int) + 1:=by omega
   obtain ⟨z,hz⟩ : ∃ z,vI V k = z:=⟨_,rfl⟩
   rw [hz] at hcell HD
   have HZ:=Lib.hid hz
   clear hz
   cases f with
   | zero =>
    have hR : digsGo V 6 (i + 1) 0 = (k,m):=HI.out.symm
    have hk1 : ¬ (k : Int) < (i : Int) + 7:=by omega
    have hml : m < 16777216:=pow_le _ _ hpw
    by_cases hk0 : k = i + 1
    ·have ki : ((k : Int) == (i : Int) + 1) = true:=by rw [beq_iff_eq]; omega
     have HE : Hid (runeP V i = .inl k):=Lib.hid (by unfold runeP; rw [if_pos HC.out]; dsimp only; rw [hR]; exact if_pos (.inl hk0))
     clear hR hk0
     go_wp2_with fail
     have hR:=gotEnd HW.out.res (.int .i64 0) (.int .i64 0) (.int .i64 0) (.int .i64 ((k : Int)))
     refine bodyPost_ret (results_cell_row rfl _ _ (w.heap.size + 1) 101 #[.int .i64 0,.int .i64 0,.int .i64 0,.int .i64 ((k : Int))] (0,0) _ rfl hR Tryz.underlying101 rfl (by kernel_rfl)) rfl ?_
     exact ⟨by rw [HE.out]; rfl,gotBelow HW.out.below (Nat.le_succ _) _ _ _ _⟩
    ·have ki : ((k : Int) == (i : Int) + 1) = false:=by rw [beq_eq_false_iff_ne]; omega
     by_cases hz125 : z = 125
     ·have zi : (z != 125) = false:=by simp [hz125]
      have h125 : V[k]? = some 125:=vI_eq (HZ.out.trans hz125)
      have HM:=Lib.hid (fun W => mayI_N m ▸ mayR6 W (m : Int))
      cases hmay : mayN m with
      | false =>
       rw [hmay] at HM
       have HE : Hid (runeP V i = .inl k):=Lib.hid (by unfold runeP; rw [if_pos HC.out]; dsimp only; rw [hR]; exact if_pos (.inr (.inr hmay)))
       clear hR hmay h125 hz125
       go_wp2_with (first | (go_at_call 40; refine (HM.out _).mono ?_; rintro e w7 ⟨rfl,rfl⟩))
       have hR:=gotEnd HW.out.res (.int .i64 0) (.int .i64 0) (.int .i64 0) (.int .i64 ((k : Int)))
       refine bodyPost_ret (results_cell_row rfl _ _ (w.heap.size + 1) 101 #[.int .i64 0,.int .i64 0,.int .i64 0,.int .i64 ((k : Int))] (0,0) _ rfl hR Tryz.underlying101 rfl (by kernel_rfl)) rfl ?_
       exact ⟨by rw [HE.out]; rfl,gotBelow HW.out.below (Nat.le_succ _) _ _ _ _⟩
      | true =>
       rw [hmay] at HM
       have HE : Hid (runeP V i = .inr (0,m,k + 1)):=Lib.hid (by unfold runeP; rw [if_pos HC.out]; dsimp only; rw [hR]; exact if_neg (by rintro (h | h | h); exact hk0 h; exact h h125; rw [hmay] at h; cases h))
       clear hR hmay h125 hz125
       go_wp2_with (first | (go_at_call 40; refine (HM.out _).mono ?_; rintro e w7 ⟨rfl,rfl⟩))
       have hR:=gotEnd HW.out.res (.int .i64 0) (.int .i64 ((m : Int))) (.int .i64 ((k : Int) + 1)) (.int .i64 (-1))
       refine bodyPost_ret (results_cell_row rfl _ _ (w.heap.size + 1) 101 #[.int .i64 0,.int .i64 ((m : Int)),.int .i64 ((k : Int) + 1),.int .i64 (-1)] (0,0) _ rfl hR Tryz.underlying101 rfl (by kernel_rfl)) rfl ?_
       exact ⟨by rw [HE.out]; rfl,gotBelow HW.out.below (Nat.le_succ _) _ _ _ _⟩
     ·have zi : (z != 125) = true:=by simp [hz125]
      have HE : Hid (runeP V i = .inl k):=Lib.hid (by unfold runeP; rw [if_pos HC.out]; dsimp only; rw [hR]; exact if_pos (.inr (.inl (fun h => hz125 (HZ.out.symm.trans (vI_some h))))))
      clear hR hz125
      go_wp2_with fail
      have hR:=gotEnd HW.out.res (.int .i64 0) (.int .i64 0) (.int .i64 0) (.int .i64 ((k : Int)))
      refine bodyPost_ret (results_cell_row rfl _ _ (w.heap.size + 1) 101 #[.int .i64 0,.int .i64 0,.int .i64 0,.int .i64 ((k : Int))] (0,0) _ rfl hR Tryz.underlying101 rfl (by kernel_rfl)) rfl ?_
      exact ⟨by rw [HE.out]; rfl,gotBelow HW.out.below (Nat.le_succ _) _ _ _ _⟩
   | succ g =>
    have hk1 : (k : Int) < (i : Int) + 7:=by omega
    cases hd : digO V k with
    | none =>
     have e1 : digI V k = -1:=by unfold digI; rw [hd]
     rw [e1] at HD
     have hR : digsGo V 6 (i + 1) 0 = (k,m):=by rw [← HI.out,digsGo,hd]
     clear hd e1
     have hml : m < 16777216:=pow_le _ _ hpw
     by_cases hk0 : k = i + 1
     ·have ki : ((k : Int) == (i : Int) + 1) = true:=by rw [beq_iff_eq]; omega
      have HE : Hid (runeP V i = .inl k):=Lib.hid (by unfold runeP; rw [if_pos HC.out]; dsimp only; rw [hR]; exact if_pos (.inl hk0))
      clear hR hk0
      go_wp2_with (go_at_call 100; refine (HD.out _).mono ?_; rintro e w1 ⟨rfl,rfl⟩)
      have hR:=gotEnd HW.out.res (.int .i64 0) (.int .i64 0) (.int .i64 0) (.int .i64 ((k : Int)))
      refine bodyPost_ret (results_cell_row rfl _ _ (w.heap.size + 1) 101 #[.int .i64 0,.int .i64 0,.int .i64 0,.int .i64 ((k : Int))] (0,0) _ rfl hR Tryz.underlying101 rfl (by kernel_rfl)) rfl ?_
      exact ⟨by rw [HE.out]; rfl,gotBelow HW.out.below (Nat.le_succ _) _ _ _ _⟩
     ·have ki : ((k : Int) == (i : Int) + 1) = false:=by rw [beq_eq_false_iff_ne]; omega
      by_cases hz125 : z = 125
      ·have zi : (z != 125) = false:=by simp [hz125]
       have h125 : V[k]? = some 125:=vI_eq (HZ.out.trans hz125)
       have HM:=Lib.hid (fun W => mayI_N m ▸ mayR6 W (m : Int))
       cases hmay : mayN m with
       | false =>
        rw [hmay] at HM
        have HE : Hid (runeP V i = .inl k):=Lib.hid (by unfold runeP; rw [if_pos HC.out]; dsimp only; rw [hR]; exact if_pos (.inr (.inr hmay)))
        clear hR hmay h125 hz125
        go_wp2_with (first | (go_at_call 100; refine (HD.out _).mono ?_; rintro e w1 ⟨rfl,rfl⟩) | (go_at_call 40; refine (HM.out _).mono ?_; rintro e w7 ⟨rfl,rfl⟩))
        have hR:=gotEnd HW.out.res (.int .i64 0) (.int .i64 0) (.int .i64 0) (.int .i64 ((k : Int)))
        refine bodyPost_ret (results_cell_row rfl _ _ (w.heap.size + 1) 101 #[.int .i64 0,.int .i64 0,.int .i64 0,.int .i64 ((k : Int))] (0,0) _ rfl hR Tryz.underlying101 rfl (by kernel_rfl)) rfl ?_
        exact ⟨by rw [HE.out]; rfl,gotBelow HW.out.below (Nat.le_succ _) _ _ _ _⟩
       | true =>
        rw [hmay] at HM
        have HE : Hid (runeP V i = .inr (0,m,k + 1)):=Lib.hid (by unfold runeP; rw [if_pos HC.out]; dsimp only; rw [hR]; exact if_neg (by rintro (h | h | h); exact hk0 h; exact h h125; rw [hmay] at h; cases h))
        clear hR hmay h125 hz125
        go_wp2_with (first | (go_at_call 100; refine (HD.out _).mono ?_; rintro e w1 ⟨rfl,rfl⟩) | (go_at_call 40; refine (HM.out _).mono ?_; rintro e w7 ⟨rfl,rfl⟩))
        have hR:=gotEnd HW.out.res (.int .i64 0) (.int .i64 ((m : Int))) (.int .i64 ((k : Int) + 1)) (.int .i64 (-1))
        refine bodyPost_ret (results_cell_row rfl _ _ (w.heap.size + 1) 101 #[.int .i64 0,.int .i64 ((m : Int)),.int .i64 ((k : Int) + 1),.int .i64 (-1)] (0,0) _ rfl hR Tryz.underlying101 rfl (by kernel_rfl)) rfl ?_
        exact ⟨by rw [HE.out]; rfl,gotBelow HW.out.below (Nat.le_succ _) _ _ _ _⟩
      ·have zi : (z != 125) = true:=by simp [hz125]
       have HE : Hid (runeP V i = .inl k):=Lib.hid (by unfold runeP; rw [if_pos HC.out]; dsimp only; rw [hR]; exact if_pos (.inr (.inl (fun h => hz125 (HZ.out.symm.trans (vI_some h))))))
       clear hR hz125
       go_wp2_with (go_at_call 100; refine (HD.out _).mono ?_; rintro e w1 ⟨rfl,rfl⟩)
       have hR:=gotEnd HW.out.res (.int .i64 0) (.int .i64 0) (.int .i64 0) (.int .i64 ((k : Int)))
       refine bodyPost_ret (results_cell_row rfl _ _ (w.heap.size + 1) 101 #[.int .i64 0,.int .i64 0,.int .i64 0,.int .i64 ((k : Int))] (0,0) _ rfl hR Tryz.underlying101 rfl (by kernel_rfl)) rfl ?_
       exact ⟨by rw [HE.out]; rfl,gotBelow HW.out.below (Nat.le_succ _) _ _ _ _⟩
    | some d =>
     have e1 : digI V k = (d : Int):=by unfold digI; rw [hd]
     have hdl:=digO_le hd
     have hd16:=hdl.2
     have hkl:=hdl.1
     rw [HN.out] at hkl
     rw [e1] at HD
     have hR:=HI.out
     rw [digsGo,hd] at hR
     have HR:=Lib.hid hR
     have hml : m < 16777216:=pow_le _ _ hpw
     have HPW:=Lib.hid (pow_step m d g hd16 hpw)
     clear hd e1 hdl hR hpw
     go_wp2_with (go_at_call 100; refine (HD.out _).mono ?_; rintro e w1 ⟨rfl,rfl⟩)
     go_roundw
     case rel => exact ⟨g,k + 1,16 * m + d,by go_num,by go_num,by omega,by omega,by omega,HPW.out,by first | rfl | trivial,Lib.hid HR.out⟩
     case measure => simp [RowKit.intOf]; omega
 ·have ci : (c != 123) = true:=by simp [hc123]
  have HE : Hid (runeP V i = .inl i):=Lib.hid (by unfold runeP; exact if_neg (fun h => hc123 (hc.symm.trans (vI_some h))))
  clear hc123 hc
  go_wp2_with fail
  have hR:=gotEnd HW.out.res (.int .i64 0) (.int .i64 0) (.int .i64 0) (.int .i64 ((i : Int)))
  refine bodyPost_ret (results_cell_row rfl _ _ (w.heap.size + 1) 101 #[.int .i64 0,.int .i64 0,.int .i64 0,.int .i64 ((i : Int))] (0,0) _ rfl hR Tryz.underlying101 rfl (by kernel_rfl)) rfl ?_
  exact ⟨by rw [HE.out]; rfl,gotBelow HW.out.below (Nat.le_succ _) _ _ _ _⟩
end Go.Proofs.YtchdeboialbdiaaGreatDoor
