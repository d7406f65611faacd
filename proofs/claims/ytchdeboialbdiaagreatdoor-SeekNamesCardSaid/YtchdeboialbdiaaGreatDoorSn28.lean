/- Texts joined, one behind the other (SRefK). -/
import Derived.Test.YtchdeboialbdiaaGreatDoorSn27
import Derived.Deep.CutBlock
import Derived.Deep.DeepCutAuto
namespace Go.Proofs.YtchdeboialbdiaaGreatDoor
set_option linter.unusedVariables false
set_option linter.unusedSimpArgs false
set_option maxHeartbeats 8000000
set_option maxRecDepth 100000
open Go.RowKit
open Go.Lib hiding intOf
theorem el_shape {W W' : World} {B m : Nat} {v v' : Value} {xs cs : List Value} {e : TypeId} (hp : AppPost W B e 3 v m xs cs v' W') : ∃ g cap,v' = .slice (some ⟨g,0,none⟩) (m + 1) cap:=by
 rcases hp.1.2 with ⟨_,q2⟩ | ⟨g,cap,cur,hv,_⟩
 ·omega
 ·exact ⟨g,cap,hv⟩
theorem set_start {w : World} {rd : List Value} {g1 : Nat} {V : List Nat} (h : IntsAt w g1 (toZ V ++ [-1])) : StW w ((((w.alloc (.cells rd.toArray 95)).alloc (.cells #[.int .i64 0,.bool false,.slice none 0 0,.int .i64 0,.bool false,.bool false] 99)).alloc (.cells #[.int .i64 0,.int .i64 0,.int .i64 0,.int .i64 0] 101)).alloc (.cells #[.int .i64 91,.bool false,.slice none 0 0,.int .i64 0,.bool false,.bool false] 99)) rd g1 V false (.slice none 0 0) []:=by
 obtain ⟨A1,hA1⟩ : ∃ X,X = w.alloc (.cells rd.toArray 95):=⟨_,rfl⟩
 have r1 : Row A1 w.heap.size 95 rd:=by rw [hA1]; exact row_new w rd _
 have s1 : A1.heap.size = w.heap.size + 1:=by rw [hA1]; simp
 have b1 : Below w.heap.size w A1:=by rw [hA1]; exact (Below.refl _ w).alloc (Nat.le_refl _) _
 rw [← hA1]
 obtain ⟨A2,hA2⟩ : ∃ X,X = A1.alloc (.cells #[.int .i64 0,.bool false,.slice none 0 0,.int .i64 0,.bool false,.bool false] 99):=⟨_,rfl⟩
 have r2 : Row A2 (w.heap.size + 1) 99 [.int .i64 0,.bool false,.slice none 0 0,.int .i64 0,.bool false,.bool false]:=by rw [hA2,← s1]; exact row_new A1 [.int .i64 0,.bool false,.slice none 0 0,.int .i64 0,.bool false,.bool false] _
 have s2 : A2.heap.size = w.heap.size + 2:=by rw [hA2]; simp [s1]
 have b2 : Below A1.heap.size A1 A2:=by rw [hA2]; exact (Below.refl _ A1).alloc (Nat.le_refl _) _
 rw [← hA2]
 obtain ⟨A3,hA3⟩ : ∃ X,X = A2.alloc (.cells #[.int .i64 0,.int .i64 0,.int .i64 0,.int .i64 0] 101):=⟨_,rfl⟩
 have r3 : Row A3 (w.heap.size + 2) 101 [.int .i64 0,.int .i64 0,.int .i64 0,.int .i64 0]:=by rw [hA3,← s2]; exact row_new A2 [.int .i64 0,.int .i64 0,.int .i64 0,.int .i64 0] _
 have s3 : A3.heap.size = w.heap.size + 3:=by rw [hA3]; simp [s2]
 have b3 : Below A2.heap.size A2 A3:=by rw [hA3]; exact (Below.refl _ A2).alloc (Nat.le_refl _) _
 rw [← hA3]
 obtain ⟨A4,hA4⟩ : ∃ X,X = A3.alloc (.cells #[.int .i64 91,.bool false,.slice none 0 0,.int .i64 0,.bool false,.bool false] 99):=⟨_,rfl⟩
 have r4 : Row A4 (w.heap.size + 3) 99 [.int .i64 91,.bool false,.slice none 0 0,.int .i64 0,.bool false,.bool false]:=by rw [hA4,← s3]; exact row_new A3 [.int .i64 91,.bool false,.slice none 0 0,.int .i64 0,.bool false,.bool false] _
 have s4 : A4.heap.size = w.heap.size + 4:=by rw [hA4]; simp [s3]
 have b4 : Below A3.heap.size A3 A4:=by rw [hA4]; exact (Below.refl _ A3).alloc (Nat.le_refl _) _
 rw [← hA4]
 have b34:=b3.trans (b4.mono b3.size)
 have b24:=b2.trans (b34.mono b2.size)
 have b14:=b1.trans (b24.mono b1.size)
 exact ⟨r1.keep b24 r1.lt,r2.keep b34 r2.lt,r3.keep b4 r3.lt,r4,World.ownsRow_nil _ _ _ _,b14,h.keep b14 (Nat.le_refl _),h.1,by omega⟩
theorem StW.apart {w W W' : World} {rd : List Value} {g1 g : Nat} {V : List Nat} {neg : Bool} {ve : Value} {els : List El} (h : StW w W rd g1 V neg ve els) (hg : W.grownBy W' (some g)) (hgl : w.heap.size + 4 ≤ g) (hne : ve.ownBlock ≠ some g) : StW w W' rd g1 V neg ve els:=by
 have hlow:=h.low
 have key : ∀ k,k < w.heap.size + 4 → W'.heap[k]? = W.heap[k]?:=fun k hk => hg.block k (by have:=h.size; omega) (by intro e; simp only [Option.some.injEq] at e; omega)
 exact ⟨(key _ (by omega)).trans h.box,(key _ (by omega)).trans h.resI,(key _ (by omega)).trans h.resG,(key _ (by omega)).trans h.it,World.ownsRow.kept h.own hg (.inr hne),h.below.trans (below_grownBy hg (by omega) (by have:=h.size; omega)),h.ints.grown hg (by omega),h.low,Nat.le_trans h.size hg.size⟩
theorem EndW.drew {w W : World} {neg : Bool} {ve : Value} {els : List El} {gl : List Value} (h : EndW w neg ve els gl W) : EndW w neg ve els gl W.drew :=
 ⟨h.1.keep ((Below.refl _ W).drew) h.1.lt,h.2.1.keep ((Below.refl _ W).drew) h.2.1.lt,h.2.2.1.drew,own_below h.2.2.2 ((Below.refl _ W).drew)⟩
theorem StW.neg {w W : World} {rd : List Value} {g1 : Nat} {V : List Nat} {neg : Bool} {ve : Value} {els : List El} (h : StW w W rd g1 V neg ve els) : StW w (W.setCell ⟨w.heap.size + 3,1,none⟩ (.bool true)) rd g1 V true ve els:=by
 have hg:=grownBy_set W (w.heap.size + 3) 1 (.bool true)
 have hlow:=h.low
 refine ⟨h.box.other (p:=⟨w.heap.size + 3,1,none⟩) (by show w.heap.size + 3 ≠ w.heap.size; omega) _,h.resI.other (p:=⟨w.heap.size + 3,1,none⟩) (by show w.heap.size + 3 ≠ w.heap.size + 1; omega) _,h.resG.other (p:=⟨w.heap.size + 3,1,none⟩) (by show w.heap.size + 3 ≠ w.heap.size + 2; omega) _,h.it.set 1 _,?_,h.below.setCell (p:=⟨w.heap.size + 3,1,none⟩) (by show w.heap.size ≤ w.heap.size + 3; omega) _,h.ints.grown hg (by omega),h.low,Nat.le_trans h.size hg.size⟩
 exact World.ownsRow.kept h.own hg (.inr (own_low h.own (Nat.lt_succ_self _)).symm)
theorem setR6 (w : World) (g1 c1 g2 c2 n : Nat) (V : List Nat) (i0 : Nat) (hn : V.length = n) (hI : IntsAt w g1 (toZ V ++ [-1])) (hV : OkV V) (hi0 : 0 < i0) (hi : i0 ≤ n) (hnb : n ≤ 67108800) :
  Calls Tryz.prog 54 #[rdV g1 c1 g2 c2 n,.int .i64 (i0 : Int)] w (SetR w (setP V i0)):=by
 unfold rdV
 have hst:=set_start (w:=w) (rd:=[.slice (some ⟨g1,0,none⟩) (n + 1) c1,.slice (some ⟨g2,0,none⟩) (n + 1) c2]) hI
 obtain ⟨W0,hW0⟩ : ∃ W,W = (((w.alloc (.cells #[.slice (some ⟨g1,0,none⟩) (n + 1) c1,.slice (some ⟨g2,0,none⟩) (n + 1) c2] 95)).alloc (.cells #[.int .i64 0,.bool false,.slice none 0 0,.int .i64 0,.bool false,.bool false] 99)).alloc (.cells #[.int .i64 0,.int .i64 0,.int .i64 0,.int .i64 0] 101)).alloc (.cells #[.int .i64 91,.bool false,.slice none 0 0,.int .i64 0,.bool false,.bool false] 99):=⟨_,rfl⟩
 have hst2 : StW w W0 [.slice (some ⟨g1,0,none⟩) (n + 1) c1,.slice (some ⟨g2,0,none⟩) (n + 1) c2] g1 V false (.slice none 0 0) []:=by rw [hW0]; exact hst
 have HST:=Lib.hid hst2
 have HW0:=Lib.hid hW0
 have HN:=Lib.hid hn
 have HV:=Lib.hid hV
 have ab0:=hst2.box.cell 0
 have ab1:=hst2.box.cell 1
 have abl:=hst2.box.lt
 have at1:=hst2.it.cell 1
 have atf1:=hst2.it.frozen 1
 have atl:=hst2.it.lt
 have hcell0:=hst2.ints.v (i:=i0) (by rw [hn]; exact hi)
 have hi1 : (i0 : Int) < ((n + 1 : Nat) : Int):=by omega
 have hi2 : (i0 : Int) < (n : Int) + 1:=by omega
 obtain ⟨z0,hz0⟩ : ∃ z,vI V i0 = z:=⟨_,rfl⟩
 rw [hz0] at hcell0
 obtain ⟨neg,i1,ve0,W1,hs1,hS,hi1n,hi1p⟩ : ∃ (neg : Bool) (i1 : Nat) (ve0 : Value) (W1 : World),(neg = decide (z0 = 94) ∧ i1 = (if z0 = 94 then i0 + 1 else i0) ∧ ve0 = .slice none 0 0 ∧ W1 = (if z0 = 94 then W0.setCell ⟨w.heap.size + 3,1,none⟩ (.bool true) else W0)) ∧ setP V i0 = withNeg neg (setGo V V.length i1 []) ∧ i1 ≤ n ∧ 0 < i1:=by
  refine ⟨_,_,_,_,⟨rfl,rfl,rfl,rfl⟩,?_,?_,?_⟩
  ·by_cases h : z0 = 94
   ·rw [decide_eq_true h,if_pos h]; exact setP_neg (vI_eq (hz0.trans h))
   ·rw [decide_eq_false h,if_neg h]; exact setP_pos (fun hh => h (hz0.symm.trans (vI_some hh)))
  ·by_cases h : z0 = 94
   ·rw [if_pos h]
    have:=lt_of_some (vI_eq (hz0.trans h))
    omega
   ·rw [if_neg h]; exact hi
  ·by_cases h : z0 = 94
   ·rw [if_pos h]; omega
   ·rw [if_neg h]; exact hi0
 have hW1 : StW w W1 [.slice (some ⟨g1,0,none⟩) (n + 1) c1,.slice (some ⟨g2,0,none⟩) (n + 1) c2] g1 V neg ve0 []:=by
  obtain ⟨h1,h2,h3,h4⟩:=hs1
  subst h1 h3 h4
  by_cases h : z0 = 94
  ·rw [decide_eq_true h,if_pos h]; exact hst2.neg
  ·rw [decide_eq_false h,if_neg h]; exact hst2
 obtain ⟨R,hR⟩ : ∃ R,setGo V V.length i1 [] = R:=⟨_,rfl⟩
 rw [hR] at hS
 have HS:=Lib.hid hS
 have HR:=Lib.hid hR
 have HW1:=Lib.hid hW1
 have HS1:=Lib.hid hs1
 clear hst hst2 hW0 hn hV hI hS hR hW1 hs1 hz0
 go_enter Tryz.func54, Tryz.ntmps54
 go_upto_region 2 with fail
 rw [← HW0.out]
 go_upto_if 16 with fail
 go_cut [1] (fun u wc => u = .int .i64 (i1 : Int) ∧ wc = W1)
 case first =>
  obtain ⟨h1,h2,h3,h4⟩:=HS1.out
  by_cases h : z0 = 94
  ·have hzz : (z0 == 94) = true:=by simp [h]
   rw [if_pos h] at h2 h4
   clear h h1 h3
   go_wp2_with fail
   go_meet
   case rel => exact ⟨by rw [h2]; go_num,h4.symm⟩
  ·have hzz : (z0 == 94) = false:=by rw [beq_eq_false_iff_ne]; exact h
   rw [if_neg h] at h2 h4
   clear h h1 h3
   go_wp2_with fail
   go_meet
   case rel => exact ⟨by rw [h2],h4.symm⟩
 case rest =>
 obtain ⟨rfl,rfl⟩:=hcut
 clear ab0 ab1 abl at1 atf1 atl
 clear hcell0
 obtain rfl:=HS1.out.2.2.1
 go_wp2_with fail
 go_loopw [1] (fun ui wr => ∃ (f i : Nat) (els : List El) (ve : Value),ui = .int .i64 (i : Int) ∧ i ≤ n ∧ 0 < i ∧ els.length ≤ i ∧ n + 1 ≤ i + f ∧ Hid (setGo V f i els = R ∧ StW w wr [.slice (some ⟨g1,0,none⟩) (n + 1) c1,.slice (some ⟨g2,0,none⟩) (n + 1) c2] g1 V neg ve els)) (fun ui _ => n + 1 - (RowKit.intOf ui).toNat)
 case atStart => exact ⟨V.length,i1,[],_,rfl,hi1n,hi1p,Nat.zero_le _,by rw [HN.out]; omega,Lib.hid ⟨HR.out,HW1.out⟩⟩
 case round =>
  obtain ⟨f,i,els,ve,rfl,hin,hip,hel,hfu,HI⟩:=hrel
  obtain ⟨f,rfl⟩ : ∃ g,f = g + 1:=⟨f - 1,by omega⟩
  have hT:=HI.out.2
  obtain ⟨va,vc,rfl⟩:=hT.own.shape
  have HT:=Lib.hid hT
  have hG:=HI.out.1
  have rb0:=hT.box.cell 0
  have rb1:=hT.box.cell 1
  have rbl:=hT.box.lt
  have rt2:=hT.it.cell 2
  have rtl:=hT.it.lt
  have hcell:=hT.ints.v (i:=i) (by rw [HN.out]; exact hin)
  have hi1 : (i : Int) < ((n + 1 : Nat) : Int):=by omega
  have hi2 : (i : Int) < (n : Int) + 1:=by omega
  have hvb:=vI_bound HV.out i
  obtain ⟨z,hz⟩ : ∃ z,vI V i = z:=⟨_,rfl⟩
  rw [hz] at hcell hvb
  have HZ:=Lib.hid hz
  clear hz hT
  by_cases hm1 : z = -1
  ·have hv : V[i]? = none:=by
    cases hv : V[i]? with
    | none => rfl
    | some v => have:=HZ.out; rw [vI_some hv] at this; omega
   rw [setGo_stop (.inl hv)] at hG
   have HRR:=Lib.hid hG.symm
   subst hm1
   clear hv hG
   have qt0:=HT.out.it.cell 0
   have qt1:=HT.out.it.cell 1
   have qt3:=HT.out.it.cell 3
   have qt4:=HT.out.it.cell 4
   have qt5:=HT.out.it.cell 5
   have qi0:=HT.out.resI.cell 0
   have qi1:=HT.out.resI.cell 1
   have qi2:=HT.out.resI.cell 2
   have qi3:=HT.out.resI.cell 3
   have qi4:=HT.out.resI.cell 4
   have qi5:=HT.out.resI.cell 5
   have qif0:=HT.out.resI.frozen 0
   have qif1:=HT.out.resI.frozen 1
   have qif2:=HT.out.resI.frozen 2
   have qif3:=HT.out.resI.frozen 3
   have qif4:=HT.out.resI.frozen 4
   have qif5:=HT.out.resI.frozen 5
   have qil:=HT.out.resI.lt
   have qg0:=HT.out.resG.cell 0
   have qg1:=HT.out.resG.cell 1
   have qg2:=HT.out.resG.cell 2
   have qg3:=HT.out.resG.cell 3
   have qgf0:=HT.out.resG.frozen 0
   have qgf1:=HT.out.resG.frozen 1
   have qgf2:=HT.out.resG.frozen 2
   have qgf3:=HT.out.resG.frozen 3
   have qgl:=HT.out.resG.lt
   go_wp2_with fail
   have hE:=(HT.out.end1 (.int .i64 0) (.int .i64 0) (.int .i64 0) (.int .i64 ((i : Int))))
   refine bodyPost_ret (results_row_row rfl _ _ (w.heap.size + 1) (w.heap.size + 2) 99 101 #[.int .i64 91,.bool neg,.slice va els.length vc,.int .i64 0,.bool false,.bool false] #[.int .i64 0,.int .i64 0,.int .i64 0,.int .i64 ((i : Int))] (0,0) (0,0) _ _ rfl rfl hE.1 hE.2.1 Tryz.underlying99 rfl (by kernel_rfl) Tryz.underlying101 rfl (by kernel_rfl)) rfl ?_
   rw [HS.out,HRR.out]
   exact EndW.ret (S:=Sum.inl i) hE ⟨_,_,_,rfl⟩ (fun nb els2 j2 e => by cases e)
  by_cases h45 : z = 45
  ·rw [setGo_stop (.inr (vI_eq (HZ.out.trans h45)))] at hG
   have HRR:=Lib.hid hG.symm
   subst h45
   clear hm1 hG
   have qt0:=HT.out.it.cell 0
   have qt1:=HT.out.it.cell 1
   have qt3:=HT.out.it.cell 3
   have qt4:=HT.out.it.cell 4
   have qt5:=HT.out.it.cell 5
   have qi0:=HT.out.resI.cell 0
   have qi1:=HT.out.resI.cell 1
   have qi2:=HT.out.resI.cell 2
   have qi3:=HT.out.resI.cell 3
   have qi4:=HT.out.resI.cell 4
   have qi5:=HT.out.resI.cell 5
   have qif0:=HT.out.resI.frozen 0
   have qif1:=HT.out.resI.frozen 1
   have qif2:=HT.out.resI.frozen 2
   have qif3:=HT.out.resI.frozen 3
   have qif4:=HT.out.resI.frozen 4
   have qif5:=HT.out.resI.frozen 5
   have qil:=HT.out.resI.lt
   have qg0:=HT.out.resG.cell 0
   have qg1:=HT.out.resG.cell 1
   have qg2:=HT.out.resG.cell 2
   have qg3:=HT.out.resG.cell 3
   have qgf0:=HT.out.resG.frozen 0
   have qgf1:=HT.out.resG.frozen 1
   have qgf2:=HT.out.resG.frozen 2
   have qgf3:=HT.out.resG.frozen 3
   have qgl:=HT.out.resG.lt
   go_wp2_with fail
   have hE:=(HT.out.end1 (.int .i64 0) (.int .i64 0) (.int .i64 0) (.int .i64 ((i : Int))))
   refine bodyPost_ret (results_row_row rfl _ _ (w.heap.size + 1) (w.heap.size + 2) 99 101 #[.int .i64 91,.bool neg,.slice va els.length vc,.int .i64 0,.bool false,.bool false] #[.int .i64 0,.int .i64 0,.int .i64 0,.int .i64 ((i : Int))] (0,0) (0,0) _ _ rfl rfl hE.1 hE.2.1 Tryz.underlying99 rfl (by kernel_rfl) Tryz.underlying101 rfl (by kernel_rfl)) rfl ?_
   rw [HS.out,HRR.out]
   exact EndW.ret (S:=Sum.inl i) hE ⟨_,_,_,rfl⟩ (fun nb els2 j2 e => by cases e)
  by_cases h93 : z = 93
  ·rw [setGo_close (vI_eq (HZ.out.trans h93))] at hG
   subst h93
   clear hm1 h45
   by_cases he : els = []
   ·rw [if_pos he] at hG
    have HRR:=Lib.hid hG.symm
    have hl0 : ((els.length : Int) == 0) = true:=by rw [he]; rfl
    clear hG he
    have qt0:=HT.out.it.cell 0
    have qt1:=HT.out.it.cell 1
    have qt3:=HT.out.it.cell 3
    have qt4:=HT.out.it.cell 4
    have qt5:=HT.out.it.cell 5
    have qi0:=HT.out.resI.cell 0
    have qi1:=HT.out.resI.cell 1
    have qi2:=HT.out.resI.cell 2
    have qi3:=HT.out.resI.cell 3
    have qi4:=HT.out.resI.cell 4
    have qi5:=HT.out.resI.cell 5
    have qif0:=HT.out.resI.frozen 0
    have qif1:=HT.out.resI.frozen 1
    have qif2:=HT.out.resI.frozen 2
    have qif3:=HT.out.resI.frozen 3
    have qif4:=HT.out.resI.frozen 4
    have qif5:=HT.out.resI.frozen 5
    have qil:=HT.out.resI.lt
    have qg0:=HT.out.resG.cell 0
    have qg1:=HT.out.resG.cell 1
    have qg2:=HT.out.resG.cell 2
    have qg3:=HT.out.resG.cell 3
    have qgf0:=HT.out.resG.frozen 0
    have qgf1:=HT.out.resG.frozen 1
    have qgf2:=HT.out.resG.frozen 2
    have qgf3:=HT.out.resG.frozen 3
    have qgl:=HT.out.resG.lt
    go_wp2_with fail
    have hE:=(HT.out.end1 (.int .i64 0) (.int .i64 0) (.int .i64 0) (.int .i64 ((i : Int))))
    refine bodyPost_ret (results_row_row rfl _ _ (w.heap.size + 1) (w.heap.size + 2) 99 101 #[.int .i64 91,.bool neg,.slice va els.length vc,.int .i64 0,.bool false,.bool false] #[.int .i64 0,.int .i64 0,.int .i64 0,.int .i64 ((i : Int))] (0,0) (0,0) _ _ rfl rfl hE.1 hE.2.1 Tryz.underlying99 rfl (by kernel_rfl) Tryz.underlying101 rfl (by kernel_rfl)) rfl ?_
    rw [HS.out,HRR.out]
    exact EndW.ret (S:=Sum.inl i) hE ⟨_,_,_,rfl⟩ (fun nb els2 j2 e => by cases e)
   ·rw [if_neg he] at hG
    have HRR:=Lib.hid hG.symm
    have hl0 : ((els.length : Int) == 0) = false:=by
     rw [beq_eq_false_iff_ne]
     have:=List.length_pos_iff.2 he
     omega
    clear hG he
    have qt0:=HT.out.it.cell 0
    have qt1:=HT.out.it.cell 1
    have qt3:=HT.out.it.cell 3
    have qt4:=HT.out.it.cell 4
    have qt5:=HT.out.it.cell 5
    have qi0:=HT.out.resI.cell 0
    have qi1:=HT.out.resI.cell 1
    have qi2:=HT.out.resI.cell 2
    have qi3:=HT.out.resI.cell 3
    have qi4:=HT.out.resI.cell 4
    have qi5:=HT.out.resI.cell 5
    have qif0:=HT.out.resI.frozen 0
    have qif1:=HT.out.resI.frozen 1
    have qif2:=HT.out.resI.frozen 2
    have qif3:=HT.out.resI.frozen 3
    have qif4:=HT.out.resI.frozen 4
    have qif5:=HT.out.resI.frozen 5
    have qil:=HT.out.resI.lt
    have qg0:=HT.out.resG.cell 0
    have qg1:=HT.out.resG.cell 1
    have qg2:=HT.out.resG.cell 2
    have qg3:=HT.out.resG.cell 3
    have qgf0:=HT.out.resG.frozen 0
    have qgf1:=HT.out.resG.frozen 1
    have qgf2:=HT.out.resG.frozen 2
    have qgf3:=HT.out.resG.frozen 3
    have qgl:=HT.out.resG.lt
    go_wp2_with fail
    have hE:=(HT.out.end1 (.int .i64 0) (.int .i64 0) (.int .i64 ((i : Int) + 1)) (.int .i64 (-1)))
    refine bodyPost_ret (results_row_row rfl _ _ (w.heap.size + 1) (w.heap.size + 2) 99 101 #[.int .i64 91,.bool neg,.slice va els.length vc,.int .i64 0,.bool false,.bool false] #[.int .i64 0,.int .i64 0,.int .i64 ((i : Int) + 1),.int .i64 (-1)] (0,0) (0,0) _ _ rfl rfl hE.1 hE.2.1 Tryz.underlying99 rfl (by kernel_rfl) Tryz.underlying101 rfl (by kernel_rfl)) rfl ?_
    rw [HS.out,HRR.out]
    exact EndW.ret (S:=Sum.inr (neg,els,i + 1)) hE ⟨_,_,_,rfl⟩ (fun nb els2 j2 e => by cases e; exact ⟨rfl,rfl⟩)
  have q1 : (z == -1) = false:=by rw [beq_eq_false_iff_ne]; exact hm1
  have q2 : (z == 45) = false:=by rw [beq_eq_false_iff_ne]; exact h45
  have q3 : (z == 93) = false:=by rw [beq_eq_false_iff_ne]; exact h93
  have hil : i < n:=by
   apply Decidable.byContradiction
   intro hc
   exact hm1 (by rw [← HZ.out]; exact vI_none (List.getElem?_eq_none (by rw [HN.out]; omega)))
  rw [setGo_more (fun h => hm1 (by rw [← HZ.out]; exact vI_none h)) (fun h => h45 (by rw [← HZ.out]; exact vI_some h)) (fun h => h93 (by rw [← HZ.out]; exact vI_some h))] at hG
  have hO:=oneR6 wr g1 c1 g2 c2 n V i HN.out HT.out.ints HV.out hil (by omega)
  have hle:=oneP_le V HV.out i (by rw [HN.out]; omega)
  clear hm1 h45 h93
  cases hQ : oneP V i with
  | inl b =>
   rw [hQ] at hO hG
   have HRR:=Lib.hid hG.symm
   have hb0 : (0 : Int) ≤ (b : Int):=by omega
   have HO : Hid (Calls Tryz.prog 55 #[.agg #[.slice (some ⟨g1,0,none⟩) (n + 1) c1,.slice (some ⟨g2,0,none⟩) (n + 1) c2],.int .i64 (i : Int)] wr fun e w' => e = .returned (.agg #[.int .i64 0,.int .i64 0,.int .i64 0,.int .i64 ((b : Int))]) ∧ Below wr.heap.size wr w'):=Lib.hid hO
   clear hO hQ hG hle
   go_upto_region 11 with (go_at_call 55; refine (HO.out).mono ?_; rintro e w3 ⟨rfl,hb3⟩; have HT3:=Lib.hid (HT.out.next hb3); clear hb3)
   clear rb0 rb1 rbl rt2 rtl
   obtain ⟨W4,hW4⟩ : ∃ W,W = w3.alloc (.cells #[.int .i64 0,.int .i64 0,.int .i64 0,.int .i64 ((b : Int))] 101):=⟨_,rfl⟩
   have hT4 : StW w W4 [.slice (some ⟨g1,0,none⟩) (n + 1) c1,.slice (some ⟨g2,0,none⟩) (n + 1) c2] g1 V neg (.slice va els.length vc) els:=by rw [hW4]; exact HT3.out.next ((Below.refl _ w3).alloc (Nat.le_refl _) _)
   have hg4 : Row W4 w3.heap.size 101 [.int .i64 0,.int .i64 0,.int .i64 0,.int .i64 ((b : Int))]:=by rw [hW4]; exact row_new w3 [.int .i64 0,.int .i64 0,.int .i64 0,.int .i64 ((b : Int))] _
   rw [← hW4]
   clear hW4
   have sb0:=hT4.box.cell 0
   have sb1:=hT4.box.cell 1
   have sbl:=hT4.box.lt
   have st2:=hT4.it.cell 2
   have stl:=hT4.it.lt
   have st0:=hT4.it.cell 0
   have st1:=hT4.it.cell 1
   have st3:=hT4.it.cell 3
   have st4:=hT4.it.cell 4
   have st5:=hT4.it.cell 5
   have si0:=hT4.resI.cell 0
   have si1:=hT4.resI.cell 1
   have si2:=hT4.resI.cell 2
   have si3:=hT4.resI.cell 3
   have si4:=hT4.resI.cell 4
   have si5:=hT4.resI.cell 5
   have sif0:=hT4.resI.frozen 0
   have sif1:=hT4.resI.frozen 1
   have sif2:=hT4.resI.frozen 2
   have sif3:=hT4.resI.frozen 3
   have sif4:=hT4.resI.frozen 4
   have sif5:=hT4.resI.frozen 5
   have sil:=hT4.resI.lt
   have sg0:=hT4.resG.cell 0
   have sg1:=hT4.resG.cell 1
   have sg2:=hT4.resG.cell 2
   have sg3:=hT4.resG.cell 3
   have sgf0:=hT4.resG.frozen 0
   have sgf1:=hT4.resG.frozen 1
   have sgf2:=hT4.resG.frozen 2
   have sgf3:=hT4.resG.frozen 3
   have sgl:=hT4.resG.lt
   have nq1 : w.heap.size + 1 ≠ w3.heap.size:=by have:=HT3.out.size; omega
   have nq2 : w.heap.size + 2 ≠ w3.heap.size:=by have:=HT3.out.size; omega
   have nq3 : w3.heap.size ≠ w.heap.size + 1:=nq1.symm
   have nq4 : w3.heap.size ≠ w.heap.size + 2:=nq2.symm
   have g40:=hg4.cell 0
   have g41:=hg4.cell 1
   have g42:=hg4.cell 2
   have g43:=hg4.cell 3
   have HT4:=Lib.hid hT4
   clear hT4 hg4
   go_region
   all_goals go_wp2
   all_goals first
    | (have hE:=(HT4.out.end1 (.int .i64 0) (.int .i64 0) (.int .i64 0) (.int .i64 ((b : Int)))).drew; refine bodyPost_ret (results_row_row rfl _ _ (w.heap.size + 1) (w.heap.size + 2) 99 101 #[.int .i64 91,.bool neg,.slice va els.length vc,.int .i64 0,.bool false,.bool false] #[.int .i64 0,.int .i64 0,.int .i64 0,.int .i64 ((b : Int))] (0,0) (0,0) _ _ rfl rfl hE.1 hE.2.1 Tryz.underlying99 rfl (by kernel_rfl) Tryz.underlying101 rfl (by kernel_rfl)) rfl ?_; rw [HS.out,HRR.out]; exact EndW.ret (S:=Sum.inl b) hE ⟨_,_,_,rfl⟩ (fun nb els2 j2 e => by cases e))
    | (have hE:=(HT4.out.end2 (.int .i64 0) (.int .i64 0) (.int .i64 0) (.int .i64 ((b : Int)))).drew; refine bodyPost_ret (results_row_row rfl _ _ (w.heap.size + 1) (w.heap.size + 2) 99 101 #[.int .i64 91,.bool neg,.slice va els.length vc,.int .i64 0,.bool false,.bool false] #[.int .i64 0,.int .i64 0,.int .i64 0,.int .i64 ((b : Int))] (0,0) (0,0) _ _ rfl rfl hE.1 hE.2.1 Tryz.underlying99 rfl (by kernel_rfl) Tryz.underlying101 rfl (by kernel_rfl)) rfl ?_; rw [HS.out,HRR.out]; exact EndW.ret (S:=Sum.inl b) hE ⟨_,_,_,rfl⟩ (fun nb els2 j2 e => by cases e))
  | inr t =>
   obtain ⟨k,v,j⟩:=t
   rw [hQ] at hO hG hle
   dsimp only at hG
   obtain ⟨hj1,hj2,hok⟩:=hle
   rw [HN.out] at hj2
   have HO : Hid (Calls Tryz.prog 55 #[.agg #[.slice (some ⟨g1,0,none⟩) (n + 1) c1,.slice (some ⟨g2,0,none⟩) (n + 1) c2],.int .i64 (i : Int)] wr fun e w' => e = .returned (.agg #[.int .i64 ((k : Int)),.int .i64 ((v : Int)),.int .i64 ((j : Int)),.int .i64 (-1)]) ∧ Below wr.heap.size wr w'):=Lib.hid hO
   have hk0:=one_kind0 hQ
   clear hO hQ
   go_upto_region 13 with (go_at_call 55; refine (HO.out).mono ?_; rintro e w3 ⟨rfl,hb3⟩; have HT3:=Lib.hid (HT.out.next hb3); clear hb3)
   clear rb0 rb1 rbl rt2 rtl
   obtain ⟨W5,hW5⟩ : ∃ W,W = (w3.alloc (.cells #[.int .i64 ((k : Int)),.int .i64 ((v : Int)),.int .i64 ((j : Int)),.int .i64 (-1)] 101)).alloc (.cells #[.int .i64 ((k : Int)),.int .i64 ((v : Int)),.int .i64 ((v : Int))] 129):=⟨_,rfl⟩
   have hT5 : StW w W5 [.slice (some ⟨g1,0,none⟩) (n + 1) c1,.slice (some ⟨g2,0,none⟩) (n + 1) c2] g1 V neg (.slice va els.length vc) els:=by
    rw [hW5]
    exact (HT3.out.next ((Below.refl _ w3).alloc (Nat.le_refl _) _)).next ((Below.refl _ _).alloc (Nat.le_refl _) _)
   have hg5 : Row W5 w3.heap.size 101 [.int .i64 ((k : Int)),.int .i64 ((v : Int)),.int .i64 ((j : Int)),.int .i64 (-1)]:=by rw [hW5]; exact (row_new w3 [.int .i64 ((k : Int)),.int .i64 ((v : Int)),.int .i64 ((j : Int)),.int .i64 (-1)] _).alloc _
   have he5 : Row W5 (w3.heap.size + 1) 129 [.int .i64 ((k : Int)),.int .i64 ((v : Int)),.int .i64 ((v : Int))]:=by
    rw [hW5]
    have:=row_new (w3.alloc (.cells #[.int .i64 ((k : Int)),.int .i64 ((v : Int)),.int .i64 ((j : Int)),.int .i64 (-1)] 101)) [.int .i64 ((k : Int)),.int .i64 ((v : Int)),.int .i64 ((v : Int))] 129
    rwa [World.size_alloc] at this
   have hs3:=HT3.out.size
   rw [← hW5]
   clear hW5
   have sb0:=hT5.box.cell 0
   have sb1:=hT5.box.cell 1
   have sbl:=hT5.box.lt
   have st2:=hT5.it.cell 2
   have stl:=hT5.it.lt
   have g50:=hg5.cell 0
   have g51:=hg5.cell 1
   have g52:=hg5.cell 2
   have g53:=hg5.cell 3
   have e50:=he5.cell 0
   have e51:=he5.cell 1
   have e52:=he5.cell 2
   have e5f:=he5.frozen 2
   have e5l:=he5.lt
   have HT5:=Lib.hid hT5
   have HG5:=Lib.hid hg5
   have HE5:=Lib.hid he5
   clear hT5 hg5 he5
   by_cases hk : k = 0
   ·rw [if_pos hk] at hG
    have hok2:=hok hk
    have hkk : ((k : Int) == 0) = true:=by rw [hk]; rfl
    have hkc : (k : Int) = 0:=by omega
    have hvb2 : v < 2000000:=by unfold OkC wrongN at hok2; omega
    have hcell2:=HT5.out.ints.v (i:=j) (by rw [HN.out]; exact hj2)
    have hjn1 : (j : Int) < ((n + 1 : Nat) : Int):=by omega
    have hjn2 : (j : Int) < (n : Int) + 1:=by omega
    obtain ⟨z2,hz2⟩ : ∃ z,vI V j = z:=⟨_,rfl⟩
    rw [hz2] at hcell2
    have HZ2:=Lib.hid hz2
    clear hz2 hok hk0 hk
    by_cases hd : z2 = 45
    ·have hd2 : (z2 == 45) = true:=by simp [hd]
     have hvj : V[j]? = some 45:=vI_eq (HZ2.out.trans hd)
     have hjl : j < n:=by have:=lt_of_some hvj; rw [HN.out] at this; exact this
     rw [if_pos hvj] at hG
     have hHc:=highR6 W5 g1 c1 g2 c2 n V (j + 1) v HN.out HT5.out.ints HV.out (by omega) hok2 (by omega)
     rw [show ((j + 1 : Nat) : Int) = (j : Int) + 1 by omega] at hHc
     have hhl:=highP_le V HV.out (j + 1) v (by rw [HN.out]; omega)
     clear hvj hd hok2
     cases hH : highP V (j + 1) v with
     | inl b =>
      rw [hH] at hHc hG
      have HRR:=Lib.hid hG.symm
      have hb0 : (0 : Int) ≤ (b : Int):=by omega
      have HHC : Hid (Calls Tryz.prog 79 #[.agg #[.slice (some ⟨g1,0,none⟩) (n + 1) c1,.slice (some ⟨g2,0,none⟩) (n + 1) c2],.int .i64 ((j : Int) + 1),.int .i64 (v : Int)] W5 fun e w' => e = .returned (.agg #[.int .i64 0,.int .i64 0,.int .i64 0,.int .i64 ((b : Int))]) ∧ Below W5.heap.size W5 w'):=Lib.hid hHc
      clear hHc hH hG hhl
      go_upto_region 17 with (go_at_call 79; refine (HHC.out).mono ?_; rintro e w6 ⟨rfl,hb6⟩; have HT6:=Lib.hid (HT5.out.next hb6); clear hb6)
      clear sb0 sb1 sbl st2 stl
      obtain ⟨W7,hW7⟩ : ∃ W,W = w6.alloc (.cells #[.int .i64 0,.int .i64 0,.int .i64 0,.int .i64 ((b : Int))] 101):=⟨_,rfl⟩
      have hT7 : StW w W7 [.slice (some ⟨g1,0,none⟩) (n + 1) c1,.slice (some ⟨g2,0,none⟩) (n + 1) c2] g1 V neg (.slice va els.length vc) els:=by rw [hW7]; exact HT6.out.next ((Below.refl _ w6).alloc (Nat.le_refl _) _)
      have hg7 : Row W7 w6.heap.size 101 [.int .i64 0,.int .i64 0,.int .i64 0,.int .i64 ((b : Int))]:=by rw [hW7]; exact row_new w6 [.int .i64 0,.int .i64 0,.int .i64 0,.int .i64 ((b : Int))] _
      rw [← hW7]
      clear hW7
      have pb0:=hT7.box.cell 0
      have pb1:=hT7.box.cell 1
      have pbl:=hT7.box.lt
      have pt2:=hT7.it.cell 2
      have ptl:=hT7.it.lt
      have pt0:=hT7.it.cell 0
      have pt1:=hT7.it.cell 1
      have pt3:=hT7.it.cell 3
      have pt4:=hT7.it.cell 4
      have pt5:=hT7.it.cell 5
      have pi0:=hT7.resI.cell 0
      have pi1:=hT7.resI.cell 1
      have pi2:=hT7.resI.cell 2
      have pi3:=hT7.resI.cell 3
      have pi4:=hT7.resI.cell 4
      have pi5:=hT7.resI.cell 5
      have pif0:=hT7.resI.frozen 0
      have pif1:=hT7.resI.frozen 1
      have pif2:=hT7.resI.frozen 2
      have pif3:=hT7.resI.frozen 3
      have pif4:=hT7.resI.frozen 4
      have pif5:=hT7.resI.frozen 5
      have pil:=hT7.resI.lt
      have pg0:=hT7.resG.cell 0
      have pg1:=hT7.resG.cell 1
      have pg2:=hT7.resG.cell 2
      have pg3:=hT7.resG.cell 3
      have pgf0:=hT7.resG.frozen 0
      have pgf1:=hT7.resG.frozen 1
      have pgf2:=hT7.resG.frozen 2
      have pgf3:=hT7.resG.frozen 3
      have pgl:=hT7.resG.lt
      have nq1 : w.heap.size + 1 ≠ w6.heap.size:=by have:=HT6.out.size; omega
      have nq2 : w.heap.size + 2 ≠ w6.heap.size:=by have:=HT6.out.size; omega
      have nq3 : w6.heap.size ≠ w.heap.size + 1:=nq1.symm
      have nq4 : w6.heap.size ≠ w.heap.size + 2:=nq2.symm
      have g70:=hg7.cell 0
      have g71:=hg7.cell 1
      have g72:=hg7.cell 2
      have g73:=hg7.cell 3
      have HT7:=Lib.hid hT7
      clear hT7 hg7
      go_region
      all_goals go_wp2
      all_goals first
       | (have hE:=(HT7.out.end1 (.int .i64 0) (.int .i64 0) (.int .i64 0) (.int .i64 ((b : Int)))).drew; refine bodyPost_ret (results_row_row rfl _ _ (w.heap.size + 1) (w.heap.size + 2) 99 101 #[.int .i64 91,.bool neg,.slice va els.length vc,.int .i64 0,.bool false,.bool false] #[.int .i64 0,.int .i64 0,.int .i64 0,.int .i64 ((b : Int))] (0,0) (0,0) _ _ rfl rfl hE.1 hE.2.1 Tryz.underlying99 rfl (by kernel_rfl) Tryz.underlying101 rfl (by kernel_rfl)) rfl ?_; rw [HS.out,HRR.out]; exact EndW.ret (S:=Sum.inl b) hE ⟨_,_,_,rfl⟩ (fun nb els2 j2 e => by cases e))
       | (have hE:=(HT7.out.end2 (.int .i64 0) (.int .i64 0) (.int .i64 0) (.int .i64 ((b : Int)))).drew; refine bodyPost_ret (results_row_row rfl _ _ (w.heap.size + 1) (w.heap.size + 2) 99 101 #[.int .i64 91,.bool neg,.slice va els.length vc,.int .i64 0,.bool false,.bool false] #[.int .i64 0,.int .i64 0,.int .i64 0,.int .i64 ((b : Int))] (0,0) (0,0) _ _ rfl rfl hE.1 hE.2.1 Tryz.underlying99 rfl (by kernel_rfl) Tryz.underlying101 rfl (by kernel_rfl)) rfl ?_; rw [HS.out,HRR.out]; exact EndW.ret (S:=Sum.inl b) hE ⟨_,_,_,rfl⟩ (fun nb els2 j2 e => by cases e))
     | inr t =>
      obtain ⟨hv,j2⟩:=t
      rw [hH] at hHc hG hhl
      dsimp only at hG
      obtain ⟨hl1,hl2,hl3,hl4,hl5⟩:=hhl
      rw [HN.out] at hl2
      have HRR:=Lib.hid hG
      have hhb : hv < 2000000:=by unfold wrongN at hl4; omega
      have HHC : Hid (Calls Tryz.prog 79 #[.agg #[.slice (some ⟨g1,0,none⟩) (n + 1) c1,.slice (some ⟨g2,0,none⟩) (n + 1) c2],.int .i64 ((j : Int) + 1),.int .i64 (v : Int)] W5 fun e w' => e = .returned (.agg #[.int .i64 0,.int .i64 ((hv : Int)),.int .i64 ((j2 : Int)),.int .i64 (-1)]) ∧ Below W5.heap.size W5 w'):=Lib.hid hHc
      clear hHc hH hG
      go_upto_region 18 with (go_at_call 79; refine (HHC.out).mono ?_; rintro e w6 ⟨rfl,hb6⟩; have HT6:=Lib.hid (HT5.out.next hb6); have HE6:=Lib.hid (HE5.out.keep hb6 HE5.out.lt); clear hb6)
      clear sb0 sb1 sbl st2 stl
      obtain ⟨W7,hW7⟩ : ∃ W,W = w6.alloc (.cells #[.int .i64 0,.int .i64 ((hv : Int)),.int .i64 ((j2 : Int)),.int .i64 (-1)] 101):=⟨_,rfl⟩
      have hT7 : StW w W7 [.slice (some ⟨g1,0,none⟩) (n + 1) c1,.slice (some ⟨g2,0,none⟩) (n + 1) c2] g1 V neg (.slice va els.length vc) els:=by rw [hW7]; exact HT6.out.next ((Below.refl _ w6).alloc (Nat.le_refl _) _)
      have hg7 : Row W7 w6.heap.size 101 [.int .i64 0,.int .i64 ((hv : Int)),.int .i64 ((j2 : Int)),.int .i64 (-1)]:=by rw [hW7]; exact row_new w6 [.int .i64 0,.int .i64 ((hv : Int)),.int .i64 ((j2 : Int)),.int .i64 (-1)] _
      have he7 : Row W7 (w3.heap.size + 1) 129 [.int .i64 ((k : Int)),.int .i64 ((v : Int)),.int .i64 ((v : Int))]:=by rw [hW7]; exact HE6.out.alloc _
      have hgl7 : w3.heap.size + 1 < w6.heap.size:=HE6.out.lt
      rw [← hW7]
      clear hW7
      have g70:=hg7.cell 0
      have g71:=hg7.cell 1
      have g72:=hg7.cell 2
      have g73:=hg7.cell 3
      have e70:=he7.cell 0
      have e71:=he7.cell 1
      have e72:=he7.cell 2
      have e7f:=he7.frozen 2
      have e7l:=he7.lt
      have HT7:=Lib.hid hT7
      have HG7:=Lib.hid hg7
      have HE7:=Lib.hid he7
      clear hT7 hg7 he7
      go_upto_region 19 with fail
      obtain ⟨W8,hW8⟩ : ∃ W,W = W7.setCell ⟨w3.heap.size + 1,2,none⟩ (.int .i64 ((hv : Int))):=⟨_,rfl⟩
      have hgr:=grownBy_set W7 (w3.heap.size + 1) 2 (.int .i64 ((hv : Int)))
      have hT8 : StW w W8 [.slice (some ⟨g1,0,none⟩) (n + 1) c1,.slice (some ⟨g2,0,none⟩) (n + 1) c2] g1 V neg (.slice va els.length vc) els:=by rw [hW8]; exact HT7.out.apart hgr (by have:=HT3.out.size; omega) (by rintro e; have:=(HT3.out.own).lt _ e; omega)
      have he8 : Row W8 (w3.heap.size + 1) 129 [.int .i64 ((k : Int)),.int .i64 ((v : Int)),.int .i64 ((hv : Int))]:=by rw [hW8]; exact HE7.out.set 2 _
      have hg8 : Row W8 w6.heap.size 101 [.int .i64 0,.int .i64 ((hv : Int)),.int .i64 ((j2 : Int)),.int .i64 (-1)]:=by rw [hW8]; exact HG7.out.other (p:=⟨w3.heap.size + 1,2,none⟩) (by show w3.heap.size + 1 ≠ w6.heap.size; omega) _
      rw [← hW8]
      clear hW8 hgr
      have pb0:=hT8.box.cell 0
      have pb1:=hT8.box.cell 1
      have pbl:=hT8.box.lt
      have pt2:=hT8.it.cell 2
      have ptl:=hT8.it.lt
      have g80:=hg8.cell 2
      have e80:=he8.cell 0
      have e81:=he8.cell 1
      have e82:=he8.cell 2
      have HT8:=Lib.hid hT8
      clear hT8 hg8 he8 g70 g71 g72 g73 e70 e71 e72 e7f e7l
      have hx : elCells (.rng v hv) = [.int .i64 0,.int .i64 ((v : Int)),.int .i64 ((hv : Int))]:=rfl
      rw [hkc] at e80
      go_wp2_with (at_builtin; (with_reducible show wpList _ _ _ (Oper.mk (some 109) _ _ _ _ _ :: _) _ _); refine appSep rfl _ _ rfl Tryz.underlying97 (.agg #[.int .i64 0,.int .i64 0,.int .i64 0]) 3 24 infoEl rfl (by decide) (by decide) (w.heap.size + 4) W8 (.slice va els.length vc) els.length (els.flatMap elCells) (elCells (.rng v hv)) (elCells_len _) (elCells_one _) rfl HT8.out.own (by first | rfl | simp) (by first | rfl | simp) (by omega) HT8.out.size ?_; intro v8 w8 hp8; obtain ⟨g8,cap8,rfl⟩:=el_shape hp8; have hpu:=HT8.out.push hp8; have y0 : w8.cell? ⟨w.heap.size + 3,2,none⟩ = some (.slice va els.length vc):=(HT8.out.it.keep (hp8.below HT8.out.own HT8.out.size) (Nat.lt_succ_self _)).cell 2; have y1:=(HT8.out.it.keep (hp8.below HT8.out.own HT8.out.size) (Nat.lt_succ_self _)).frozen 2; have y2:=(HT8.out.it.keep (hp8.below HT8.out.own HT8.out.size) (Nat.lt_succ_self _)).lt; have HPU:=Lib.hid hpu; clear hpu hp8)
      go_roundw
      case rel => exact ⟨f,j2,els ++ [.rng v hv],_,by go_num,hl2,by omega,by rw [List.length_append,List.length_singleton]; omega,by omega,Lib.hid ⟨HRR.out,HPU.out⟩⟩
      case measure => simp [RowKit.intOf]; omega
    ·have hd2 : (z2 == 45) = false:=by rw [beq_eq_false_iff_ne]; exact hd
     rw [if_neg (fun h => hd (HZ2.out.symm.trans (vI_some h)))] at hG
     have HRR:=Lib.hid hG
     clear hG hd
     rw [hkc] at e50 g50
     go_wp2_with (at_builtin; (with_reducible show wpList _ _ _ (Oper.mk (some 109) _ _ _ _ _ :: _) _ _); refine appSep rfl _ _ rfl Tryz.underlying97 (.agg #[.int .i64 0,.int .i64 0,.int .i64 0]) 3 24 infoEl rfl (by decide) (by decide) (w.heap.size + 4) W5 (.slice va els.length vc) els.length (els.flatMap elCells) (elCells (.rng v v)) (elCells_len _) (elCells_one _) rfl HT5.out.own (by first | rfl | simp) (by first | rfl | simp) (by omega) HT5.out.size ?_; intro v8 w8 hp8; obtain ⟨g8,cap8,rfl⟩:=el_shape hp8; have hpu:=HT5.out.push hp8; have y0 : w8.cell? ⟨w.heap.size + 3,2,none⟩ = some (.slice va els.length vc):=(HT5.out.it.keep (hp8.below HT5.out.own HT5.out.size) (Nat.lt_succ_self _)).cell 2; have y1:=(HT5.out.it.keep (hp8.below HT5.out.own HT5.out.size) (Nat.lt_succ_self _)).frozen 2; have y2:=(HT5.out.it.keep (hp8.below HT5.out.own HT5.out.size) (Nat.lt_succ_self _)).lt; have HPU:=Lib.hid hpu; clear hpu hp8)
     go_roundw
     case rel => exact ⟨f,j,els ++ [.rng v v],_,by go_num,hj2,by omega,by rw [List.length_append,List.length_singleton]; omega,by omega,Lib.hid ⟨HRR.out,HPU.out⟩⟩
     case measure => simp [RowKit.intOf]; omega
   ·rw [if_neg hk] at hG
    have HRR:=Lib.hid hG
    have hkk : ((k : Int) == 0) = false:=by rw [beq_eq_false_iff_ne]; omega
    obtain rfl:=hk0 hk
    clear hG hok hk hk0
    go_wp2_with (at_builtin; (with_reducible show wpList _ _ _ (Oper.mk (some 109) _ _ _ _ _ :: _) _ _); refine appSep rfl _ _ rfl Tryz.underlying97 (.agg #[.int .i64 0,.int .i64 0,.int .i64 0]) 3 24 infoEl rfl (by decide) (by decide) (w.heap.size + 4) W5 (.slice va els.length vc) els.length (els.flatMap elCells) (elCells (.kind k)) (elCells_len _) (elCells_one _) rfl HT5.out.own (by first | rfl | simp) (by first | rfl | simp) (by omega) HT5.out.size ?_; intro v8 w8 hp8; obtain ⟨g8,cap8,rfl⟩:=el_shape hp8; have hpu:=HT5.out.push hp8; have y0 : w8.cell? ⟨w.heap.size + 3,2,none⟩ = some (.slice va els.length vc):=(HT5.out.it.keep (hp8.below HT5.out.own HT5.out.size) (Nat.lt_succ_self _)).cell 2; have y1:=(HT5.out.it.keep (hp8.below HT5.out.own HT5.out.size) (Nat.lt_succ_self _)).frozen 2; have y2:=(HT5.out.it.keep (hp8.below HT5.out.own HT5.out.size) (Nat.lt_succ_self _)).lt; have HPU:=Lib.hid hpu; clear hpu hp8)
    go_roundw
    case rel => exact ⟨f,j,els ++ [.kind k],_,by go_num,hj2,by omega,by rw [List.length_append,List.length_singleton]; omega,by omega,Lib.hid ⟨HRR.out,HPU.out⟩⟩
    case measure => simp [RowKit.intOf]; omega
end Go.Proofs.YtchdeboialbdiaaGreatDoor
