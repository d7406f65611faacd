/- Texts joined, one behind the other (SRefN, SRefO). -/
import Derived.Test.YtchdeboialbdiaaGreatDoorSn31
import Derived.BigRegion
namespace Go.Proofs.YtchdeboialbdiaaGreatDoor
set_option linter.unusedVariables false
set_option linter.unusedSimpArgs false
set_option maxHeartbeats 8000000
set_option maxRecDepth 100000
open Go.RowKit
open Go.Lib hiding intOf
theorem endsR6 (w : World) (r : Nat) : Calls Tryz.prog 102 #[.int .i32 (r : Int)] w fun e w' => e = .returned (.bool (endsB r)) ∧ w' = w:=by
 obtain ⟨z,hz⟩ : ∃ z : Int,(r : Int) = z:=⟨_,rfl⟩
 have key : ∀ b : Bool,(b = true ↔ (z = 10 ∨ z = 13 ∨ z = 133 ∨ z = 8232 ∨ z = 8233)) → b = endsB r:=by
  intro b hb
  unfold endsB
  rw [Bool.eq_iff_iff,hb]
  simp only [Bool.or_eq_true,decide_eq_true_iff]
  omega
 rw [hz]
 have KEY:=Lib.hid key
 clear key hz
 by_cases a : z = 10
 ·subst a
  go_enter Tryz.func102, Tryz.ntmps102
  go_wp2_with fail
  go_ret
  exact ⟨by rw [← KEY.out true (by simp)]; rfl,rfl⟩
 have a1 : (z == 10) = false:=by rw [beq_eq_false_iff_ne]; exact a
 by_cases b : z = 13
 ·subst b
  go_enter Tryz.func102, Tryz.ntmps102
  go_wp2_with fail
  go_ret
  exact ⟨by rw [← KEY.out true (by simp)]; rfl,rfl⟩
 have a2 : (z == 13) = false:=by rw [beq_eq_false_iff_ne]; exact b
 by_cases c : z = 133
 ·subst c
  go_enter Tryz.func102, Tryz.ntmps102
  go_wp2_with fail
  go_ret
  exact ⟨by rw [← KEY.out true (by simp)]; rfl,rfl⟩
 have a3 : (z == 133) = false:=by rw [beq_eq_false_iff_ne]; exact c
 by_cases d : z = 8232
 ·subst d
  go_enter Tryz.func102, Tryz.ntmps102
  go_wp2_with fail
  go_ret
  exact ⟨by rw [← KEY.out true (by simp)]; rfl,rfl⟩
 have a4 : (z == 8232) = false:=by rw [beq_eq_false_iff_ne]; exact d
 by_cases e : z = 8233
 ·subst e
  go_enter Tryz.func102, Tryz.ntmps102
  go_wp2_with fail
  go_ret
  exact ⟨by rw [← KEY.out true (by simp)]; rfl,rfl⟩
 have a5 : (z == 8233) = false:=by rw [beq_eq_false_iff_ne]; exact e
 have hno : false = endsB r:=KEY.out false (by simp; omega)
 have HNO:=Lib.hid hno
 clear a b c d e hno
 go_enter Tryz.func102, Tryz.ntmps102
 go_wp2_with fail
 go_ret
 exact ⟨by rw [← HNO.out]; rfl,rfl⟩
abbrev R1 (z : Int) : Value:=.int .i32 z
def flat2 (l : List (Nat × Nat)) : List Value:=l.flatMap fun p => [R1 (p.1 : Int),R1 (p.2 : Int)]
theorem flat2_at {l : List (Nat × Nat)} {k : Nat} {p : Nat × Nat} (h : l[k]? = some p) : (flat2 l)[k * 2]? = some (R1 (p.1 : Int)) ∧ (flat2 l)[k * 2 + 1]? = some (R1 (p.2 : Int)) :=
 ⟨flatR_at (fun p : Nat × Nat => [R1 (p.1 : Int),R1 (p.2 : Int)]) 2 (fun _ => rfl) l k 0 p h (by decide),flatR_at (fun p : Nat × Nat => [R1 (p.1 : Int),R1 (p.2 : Int)]) 2 (fun _ => rfl) l k 1 p h (by decide)⟩
theorem withinR6 (w : World) (r : Nat) (l : List (Nat × Nat)) (g m : Nat) (hm : m = 2 * l.length) (hg : Row w g 21 (flat2 l)) (hl : l.length ≤ 1000) : Calls Tryz.prog 114 #[.int .i32 (r : Int),.slice (some ⟨g,0,none⟩) m m] w fun e w' => e = .returned (.bool (inRanges r l)) ∧ w' = w:=by
 obtain ⟨z,hz⟩ : ∃ z : Int,(r : Int) = z:=⟨_,rfl⟩
 rw [hz]
 have HG:=Lib.hid hg
 have HZ:=Lib.hid hz
 have hgl:=hg.lt
 obtain ⟨n,hn⟩ : ∃ n,l.length = n:=⟨_,rfl⟩
 rw [hn] at hl hm
 have HN:=Lib.hid hn
 have HM:=Lib.hid hm
 have hmb : m ≤ 2000:=by omega
 obtain ⟨T,hT⟩ : ∃ T,inRanges r l = T:=⟨_,rfl⟩
 rw [hT]
 have HT:=Lib.hid hT
 clear hg hz hn hT hm
 go_enter Tryz.func114, Tryz.ntmps114
 go_wp2_with fail
 go_loopw [5] (fun ui wr => ∃ k : Nat,ui = .int .i64 ((k * 2 : Nat) : Int) ∧ k ≤ n ∧ wr = w ∧ Hid (inRanges r (l.drop k) = T)) (fun ui _ => 2 * n + 2 - (RowKit.intOf ui).toNat)
 case atStart => exact ⟨0,rfl,Nat.zero_le _,rfl,HT⟩
 case round =>
  obtain ⟨k,rfl,hk,rfl,HI⟩:=hrel
  by_cases hlt : k < n
  ·have hkl : k < l.length:=by rw [HN.out]; exact hlt
   obtain ⟨p,hp⟩ : ∃ p,l[k]? = some p:=⟨_,List.getElem?_eq_getElem hkl⟩
   obtain ⟨f1,f2⟩:=flat2_at hp
   have c0 : wr.cell? ⟨g,k * 2,none⟩ = some (.int .i32 (p.1 : Int)):=(HG.out.cell (k * 2)).trans f1
   have c1 : wr.cell? ⟨g,k * 2 + 1,none⟩ = some (.int .i32 (p.2 : Int)):=(HG.out.cell (k * 2 + 1)).trans f2
   have hI:=HI.out
   have hpe : l[k] = p:=Option.some.inj ((List.getElem?_eq_getElem hkl).symm.trans hp)
   rw [List.drop_eq_getElem_cons hkl,hpe,inRanges] at hI
   obtain ⟨lo,hi⟩:=p
   dsimp only at c0 c1 hI
   obtain ⟨i0,hi0⟩ : ∃ i0,k * 2 = i0:=⟨_,rfl⟩
   rw [hi0] at c0 c1 ⊢
   have hb1 : (i0 : Int) + 1 < (m : Int):=by have:=HM.out; omega
   have hb2 : (i0 : Int) < (m : Int):=by have:=HM.out; omega
   have HI0:=Lib.hid hi0
   have hzr:=HZ.out
   clear f1 f2 hp hpe hkl
   by_cases h1 : (lo : Int) ≤ z
   ·by_cases h2 : z ≤ (hi : Int)
    ·have hTt : T = true:=by
      rw [← hI,decide_eq_true (by omega : lo ≤ r),decide_eq_true (by omega : r ≤ hi)]
      rfl
     subst hTt
     clear hI hi0 hzr
     go_wp2_with fail
     go_ret
     exact ⟨rfl,rfl⟩
    ·rw [decide_eq_false (by omega : ¬ r ≤ hi),Bool.and_false,Bool.false_or] at hI
     have HIN:=Lib.hid hI
     clear hI hi0 hzr
     go_wp2_with fail
     go_roundw
     case rel => exact ⟨k + 1,by have:=HI0.out; rw [← this]; go_num,by omega,by first | rfl | trivial,HIN⟩
     case measure => have:=HI0.out; simp [RowKit.intOf]; omega
   ·rw [decide_eq_false (by omega : ¬ lo ≤ r),Bool.false_and,Bool.false_or] at hI
    have HIN:=Lib.hid hI
    clear hI hi0 hzr
    go_wp2_with fail
    go_roundw
    case rel => exact ⟨k + 1,by have:=HI0.out; rw [← this]; go_num,by omega,by first | rfl | trivial,HIN⟩
    case measure => have:=HI0.out; simp [RowKit.intOf]; omega
  ·obtain rfl : k = n:=by omega
   have hI:=HI.out
   rw [List.drop_of_length_le (by rw [HN.out]; exact Nat.le_refl _),inRanges] at hI
   subst hI
   obtain ⟨i0,hi0⟩ : ∃ i0,k * 2 = i0:=⟨_,rfl⟩
   rw [hi0]
   have hb1 : ¬ (i0 : Int) + 1 < (m : Int):=by have:=HM.out; omega
   have hi1 : i0 ≤ 2000:=by omega
   clear hi0 hlt
   go_wp2_with fail
   go_ret
   exact ⟨rfl,rfl⟩
def blanksV : List Value:=flat2 blanksR
def wordsV : List Value:=flat2 wordsR
theorem blankR6 (w : World) (r : Nat) : Calls Tryz.prog 113 #[.int .i32 (r : Int)] w fun e w' => e = .returned (.bool (blankB r)) ∧ Below w.heap.size w w':=by
 have hrow : Row (w.alloc (.cells blanksV.toArray 21)) w.heap.size 21 blanksV:=row_new w blanksV _
 have hw:=withinR6 (w.alloc (.cells blanksV.toArray 21)) r blanksR w.heap.size 20 rfl hrow (by decide)
 have HW:=Lib.hid hw
 have HB : Hid (Below w.heap.size w (w.alloc (.cells blanksV.toArray 21))):=Lib.hid ((Below.refl _ w).alloc (Nat.le_refl _) _)
 clear hrow hw
 go_enter Tryz.func113, Tryz.ntmps113
 go_wp2_with (first
  | ((with_reducible show wpList _ _ _ (Oper.mk (some 4) _ _ _ _ _ :: _) _ _); go_must (refine wpList_run rfl (.slice (some ⟨w.heap.size,0,none⟩) 20 20) (w.alloc (.cells blanksV.toArray 21)) (by kernel_rfl) ?_))
  | (go_at_call 114; refine (HW.out).mono ?_; rintro e w1 ⟨rfl,rfl⟩))
 go_ret
 exact ⟨rfl,HB.out⟩
theorem wordR6 (w : World) (r : Nat) : Calls Tryz.prog 112 #[.int .i32 (r : Int)] w fun e w' => e = .returned (.bool (wordB r)) ∧ Below w.heap.size w w':=by
 have hrow : Row (w.alloc (.cells wordsV.toArray 21)) w.heap.size 21 wordsV:=row_new w wordsV _
 have hw:=withinR6 (w.alloc (.cells wordsV.toArray 21)) r wordsR w.heap.size 66 rfl hrow (by decide)
 have HW:=Lib.hid hw
 have HB : Hid (Below w.heap.size w (w.alloc (.cells wordsV.toArray 21))):=Lib.hid ((Below.refl _ w).alloc (Nat.le_refl _) _)
 clear hrow hw
 go_enter Tryz.func112, Tryz.ntmps112
 go_wp2_with (first
  | ((with_reducible show wpList _ _ _ (Oper.mk (some 4) _ _ _ _ _ :: _) _ _); go_must (refine wpList_run rfl (.slice (some ⟨w.heap.size,0,none⟩) 66 66) (w.alloc (.cells wordsV.toArray 21)) (by kernel_rfl) ?_))
  | (go_at_call 114; refine (HW.out).mono ?_; rintro e w1 ⟨rfl,rfl⟩))
 go_ret
 exact ⟨rfl,HB.out⟩
def fold4 (p : Nat × Nat × Nat × Int) : List Value:=[R1 (p.1 : Int),R1 (p.2.1 : Int),R1 (p.2.2.1 : Int),R1 p.2.2.2]
def foldsV : List Value:=foldsR.flatMap fold4
theorem fold_ge {r : Nat} {p : Nat × Nat × Nat × Int} (h : p ∈ foldsR) (hr : p.1 ≤ r ∧ r ≤ p.2.1) : 0 ≤ (r : Int) + p.2.2.2 ∧ (r : Int) + p.2.2.2 ≤ 1114111:=by
 have hk : ∀ p ∈ foldsR,0 ≤ (p.1 : Int) + p.2.2.2 ∧ (p.2.1 : Int) + p.2.2.2 ≤ 1114111:=by decide
 have:=hk p h
 omega
theorem folds_ok : ∀ p ∈ foldsR,(p.2.2.1 = 1 ∨ p.2.2.1 = 2) ∧ p.1 < 100000 ∧ p.2.1 < 100000 ∧ -10000 < p.2.2.2 ∧ p.2.2.2 < 10000:=by decide
theorem foldsR6 (w : World) : Calls Tryz.prog 111 #[] w fun e w' => e = .returned (.slice (some ⟨w.heap.size,0,none⟩) 140 140) ∧ Row w' w.heap.size 21 foldsV ∧ Below w.heap.size w w':=by
 have hrow : Row (w.alloc (.cells foldsV.toArray 21)) w.heap.size 21 foldsV:=row_new w foldsV _
 have HR:=Lib.hid hrow
 have HB : Hid (Below w.heap.size w (w.alloc (.cells foldsV.toArray 21))):=Lib.hid ((Below.refl _ w).alloc (Nat.le_refl _) _)
 clear hrow
 go_enter Tryz.func111, Tryz.ntmps111
 go_wp2_with ((with_reducible show wpList _ _ _ (Oper.mk (some 1) _ _ _ _ _ :: _) _ _); go_must (refine wpList_run rfl (.slice (some ⟨w.heap.size,0,none⟩) 140 140) (w.alloc (.cells foldsV.toArray 21)) (by kernel_rfl) ?_))
 go_ret
 exact ⟨rfl,HR.out,HB.out⟩
theorem foldR6 (w : World) (r : Nat) (hr : r ≤ 1114111) : Calls Tryz.prog 104 #[.int .i32 (r : Int)] w fun e w' => e = .returned (.int .i32 (foldN r : Int)) ∧ Below w.heap.size w w':=by
 obtain ⟨z,hz⟩ : ∃ z : Int,(r : Int) = z:=⟨_,rfl⟩
 rw [hz]
 have hz0 : 0 ≤ z ∧ z ≤ 1114111:=by omega
 obtain ⟨hz0,hz1⟩:=hz0
 have HZ:=Lib.hid hz
 obtain ⟨T,hT⟩ : ∃ T,foldN r = T:=⟨_,rfl⟩
 rw [hT]
 have HT : Hid (foldGo r foldsR = T):=Lib.hid hT
 obtain ⟨n,hn⟩ : ∃ n,foldsR.length = n:=⟨_,rfl⟩
 have hn35 : n = 35:=hn.symm.trans (by decide)
 have HN:=Lib.hid hn
 have HF:=Lib.hid (foldsR6 w)
 clear hz hT hn
 go_enter Tryz.func104, Tryz.ntmps104
 go_wp2_with (go_at_call 111; refine (HF.out).mono ?_; rintro e w1 ⟨rfl,hR1,hB1⟩; have HR1:=Lib.hid hR1; have HB1:=Lib.hid hB1; clear hR1 hB1)
 go_loopw [4] (fun ui wr => ∃ k : Nat,ui = .int .i64 ((k * 4 : Nat) : Int) ∧ k ≤ n ∧ Quiet w1 wr ∧ Hid (foldGo r (foldsR.drop k) = T)) (fun ui _ => 4 * n + 4 - (RowKit.intOf ui).toNat)
 case atStart => exact ⟨0,rfl,Nat.zero_le _,Quiet.refl _,HT⟩
 case round =>
  obtain ⟨k,rfl,hk,hq,HI⟩:=hrel
  have HQ:=Lib.hid hq
  have HRr:=Lib.hid (HR1.out.keep (hq.below _) HR1.out.lt)
  clear hq
  by_cases hlt : k < n
  ·have hkl : k < foldsR.length:=by rw [HN.out]; exact hlt
   obtain ⟨p,hp⟩ : ∃ p,foldsR[k]? = some p:=⟨_,List.getElem?_eq_getElem hkl⟩
   have hok:=folds_ok p (List.mem_of_getElem? hp)
   have f:=fun j hj => flatR_at fold4 4 (fun _ => rfl) foldsR k j p hp hj
   have hI:=HI.out
   have hpe : foldsR[k] = p:=Option.some.inj ((List.getElem?_eq_getElem hkl).symm.trans hp)
   rw [List.drop_eq_getElem_cons hkl,hpe] at hI
   obtain ⟨a,b,m,d⟩:=p
   rw [foldGo] at hI
   have c0 : wr.cell? ⟨w.heap.size,k * 4,none⟩ = some (.int .i32 (a : Int)):=(HRr.out.cell (k * 4 + 0)).trans (f 0 (by decide))
   have c1 : wr.cell? ⟨w.heap.size,k * 4 + 1,none⟩ = some (.int .i32 (b : Int)):=(HRr.out.cell (k * 4 + 1)).trans (f 1 (by decide))
   have c2 : wr.cell? ⟨w.heap.size,k * 4 + 2,none⟩ = some (.int .i32 (m : Int)):=(HRr.out.cell (k * 4 + 2)).trans (f 2 (by decide))
   have c3 : wr.cell? ⟨w.heap.size,k * 4 + 3,none⟩ = some (.int .i32 d):=(HRr.out.cell (k * 4 + 3)).trans (f 3 (by decide))
   dsimp only at hok hI
   obtain ⟨i0,hi0⟩ : ∃ i0,k * 4 = i0:=⟨_,rfl⟩
   rw [hi0] at c0 c1 c2 c3 ⊢
   have hb0 : (i0 : Int) < 140:=by omega
   have hb1 : (i0 : Int) + 1 < 140:=by omega
   have hb2 : (i0 : Int) + 2 < 140:=by omega
   have hb3 : (i0 : Int) + 3 < 140:=by omega
   have HI0:=Lib.hid hi0
   have hzr:=HZ.out
   have hgl:=HRr.out.lt
   obtain ⟨az,haz⟩ : ∃ z : Int,(a : Int) = z:=⟨_,rfl⟩
   obtain ⟨bz,hbz⟩ : ∃ z : Int,(b : Int) = z:=⟨_,rfl⟩
   rw [haz] at c0
   rw [hbz] at c1
   have haz0 : 0 ≤ az ∧ az < 100000:=by omega
   obtain ⟨haz0,haz1⟩:=haz0
   have hd:=hok.2.2.2
   obtain ⟨hd0,hd1⟩:=hd
   have hmm:=hok.1
   have HP:=Lib.hid hp
   clear f hp hpe hkl hok
   have next : ∀ w2,Quiet wr w2 → foldGo r (foldsR.drop (k + 1)) = T → Hid (Quiet w1 w2 ∧ foldGo r (foldsR.drop (k + 1)) = T):=fun w2 h1 h2 => Lib.hid ⟨HQ.out.trans h1,h2⟩
   have NEXT:=Lib.hid next
   clear next
   by_cases h1 : az ≤ z
   ·by_cases h2 : z ≤ bz
    ·obtain ⟨q,hq⟩ : ∃ q : Int,z - az = q:=⟨_,rfl⟩
     have hq0 : 0 ≤ q ∧ q ≤ 1114111:=by omega
     obtain ⟨hq0,hq1⟩:=hq0
     have hmod : q.tmod (m : Int) = ((r - a) % m : Nat):=by
      rw [Int.tmod_eq_emod_of_nonneg hq0,show q = ((r - a : Nat) : Int) by omega]
      rfl
     obtain ⟨x,hx⟩ : ∃ x,(r - a) % m = x:=⟨_,rfl⟩
     rw [hx] at hmod hI
     have hm0 : ((m : Int) == 0) = false:=by rw [beq_eq_false_iff_ne]; omega
     have hmz : (m : Int) = 1 ∨ (m : Int) = 2:=by omega
     have hmne : (m : Int) ≠ 0:=by omega
     have hmb0 : 0 < (m : Int):=by omega
     have hmb1 : (m : Int) ≤ 2:=by omega
     by_cases h3 : x = 0
     ·rw [if_pos ⟨by omega,by omega,h3⟩] at hI
      have hx0 : ((x : Int) == 0) = true:=by simp [h3]
      have hge:=fold_ge (r:=r) (List.mem_of_getElem? HP.out) ⟨show a ≤ r by omega,show r ≤ b by omega⟩
      have hTz : z + d = (T : Int):=by
       rw [← hI]
       dsimp only at hge
       omega
      have htb : (T : Int) ≤ 2000000:=by omega
      have HTZ:=Lib.hid hTz
      clear hI hi0 hzr h3 hge haz hbz hTz hx
      go_wp2_with fail
      go_quiet (fail)
      go_wp2_with fail
      go_ret
      exact ⟨by rw [← HTZ.out]; rfl,HB1.out.trans ((HQ.out.trans ⟨_,rfl⟩).below _ |>.mono (by have:=HB1.out.size; omega))⟩
     ·rw [if_neg (by rintro ⟨_,_,h⟩; exact h3 h)] at hI
      have hx0 : ((x : Int) == 0) = false:=by rw [beq_eq_false_iff_ne]; omega
      have HIN:=Lib.hid hI
      clear hI hi0 hzr h3 haz hbz hx
      go_wp2_with fail
      go_quiet (fail)
      go_wp2_with fail
      go_roundw
      case rel => exact ⟨k + 1,by have:=HI0.out; rw [← this]; go_num,by omega,HQ.out.trans ⟨_,rfl⟩,HIN⟩
      case measure => have:=HI0.out; simp [RowKit.intOf]; omega
    ·have hd1 : decide (az ≤ z) = true:=decide_eq_true h1
     have hd2 : decide (z ≤ bz) = false:=decide_eq_false h2
     rw [if_neg (by rintro ⟨_,h,_⟩; omega)] at hI
     have HIN:=Lib.hid hI
     clear hI hi0 hzr haz hbz
     go_wp2_with fail
     go_quiet (fail)
     go_wp2_with fail
     go_roundw
     case rel => exact ⟨k + 1,by have:=HI0.out; rw [← this]; go_num,by omega,HQ.out.trans ⟨_,rfl⟩,HIN⟩
     case measure => have:=HI0.out; simp [RowKit.intOf]; omega
   ·have hd1 : decide (az ≤ z) = false:=decide_eq_false h1
    rw [if_neg (by rintro ⟨h,_,_⟩; omega)] at hI
    have HIN:=Lib.hid hI
    clear hI hi0 hzr haz hbz
    go_wp2_with fail
    go_quiet (fail)
    go_wp2_with fail
    go_roundw
    case rel => exact ⟨k + 1,by have:=HI0.out; rw [← this]; go_num,by omega,HQ.out.trans ⟨_,rfl⟩,HIN⟩
    case measure => have:=HI0.out; simp [RowKit.intOf]; omega
  ·obtain rfl : k = n:=by omega
   have hI:=HI.out
   rw [List.drop_of_length_le (by rw [HN.out]; exact Nat.le_refl _),foldGo] at hI
   subst hI
   obtain ⟨i0,hi0⟩ : ∃ i0,k * 4 = i0:=⟨_,rfl⟩
   rw [hi0]
   have hb1 : ¬ (i0 : Int) < 140:=by omega
   have hi1 : i0 ≤ 200:=by omega
   clear hi0 hlt
   go_wp2_with fail
   go_ret
   exact ⟨by rw [HZ.out]; rfl,HB1.out.trans (HQ.out.below _ |>.mono (by have:=HB1.out.size; omega))⟩
def OkEl : El → Prop
 | .kind k => k = 119 ∨ k = 87 ∨ k = 115 ∨ k = 83
 | .rng lo hi => lo < 2000000 ∧ hi < 2000000
theorem inR6 (w : World) (x : El) (v : Nat) (hx : OkEl x) (hv : v < 2000000) : Calls Tryz.prog 105 #[.agg (elCells x).toArray,.int .i64 (v : Int)] w fun e w' => e = .returned (.bool (elHas x v)) ∧ Below w.heap.size w w':=by
 obtain ⟨z,hz⟩ : ∃ z : Int,(v : Int) = z:=⟨_,rfl⟩
 rw [hz]
 have hz0 : 0 ≤ z ∧ z < 2000000:=by omega
 obtain ⟨hz0,hz1⟩:=hz0
 have HZ:=Lib.hid hz
 cases x with
 | rng lo hi =>
  obtain ⟨hlo,hhi⟩:=hx
  show Calls Tryz.prog 105 #[.agg #[.int .i64 0,.int .i64 (lo : Int),.int .i64 (hi : Int)],.int .i64 z] w _
  obtain ⟨lz,hlz⟩ : ∃ z : Int,(lo : Int) = z:=⟨_,rfl⟩
  obtain ⟨uz,huz⟩ : ∃ z : Int,(hi : Int) = z:=⟨_,rfl⟩
  rw [hlz,huz]
  have hT : elHas (.rng lo hi) v = (decide (lz ≤ z) && decide (z ≤ uz)):=by
   show (decide (lo ≤ v) && decide (v ≤ hi)) = _
   rw [Bool.eq_iff_iff]
   simp only [Bool.and_eq_true,decide_eq_true_iff]
   omega
  rw [hT]
  have hb : Below w.heap.size w (w.alloc (.cells #[.int .i64 0,.int .i64 lz,.int .i64 uz] 129)):=(Below.refl _ w).alloc (Nat.le_refl _) _
  have HB:=Lib.hid hb
  clear hT hlz huz hz hb
  by_cases a : lz ≤ z
  ·rw [decide_eq_true a,Bool.true_and]
   by_cases b : z ≤ uz
   ·rw [decide_eq_true b]
    by_cases c : z < 1114112
    ·go_enter Tryz.func105, Tryz.ntmps105
     go_wp2_with fail
     go_ret
     exact ⟨rfl,HB.out⟩
    ·go_enter Tryz.func105, Tryz.ntmps105
     go_wp2_with fail
     go_ret
     exact ⟨rfl,HB.out⟩
   ·rw [decide_eq_false b]
    by_cases c : z < 1114112
    ·go_enter Tryz.func105, Tryz.ntmps105
     go_wp2_with fail
     go_ret
     exact ⟨rfl,HB.out⟩
    ·go_enter Tryz.func105, Tryz.ntmps105
     go_wp2_with fail
     go_ret
     exact ⟨rfl,HB.out⟩
  ·rw [decide_eq_false a,Bool.false_and]
   by_cases c : z < 1114112
   ·go_enter Tryz.func105, Tryz.ntmps105
    go_wp2_with fail
    go_ret
    exact ⟨rfl,HB.out⟩
   ·go_enter Tryz.func105, Tryz.ntmps105
    go_wp2_with fail
    go_ret
    exact ⟨rfl,HB.out⟩
 | kind k =>
  show Calls Tryz.prog 105 #[.agg #[.int .i64 (k : Int),.int .i64 0,.int .i64 0],.int .i64 z] w _
  have hb:=fun x => (Below.refl w.heap.size w).alloc (Nat.le_refl _) (.cells #[.int .i64 x,.int .i64 0,.int .i64 0] 129)
  have HBX:=Lib.hid hb
  have HW:=Lib.hid (fun W => hz ▸ wordR6 W v)
  have HBL:=Lib.hid (fun W => hz ▸ blankR6 W v)
  obtain ⟨bw,hbw⟩ : ∃ b,wordB v = b:=⟨_,rfl⟩
  obtain ⟨bb,hbb⟩ : ∃ b,blankB v = b:=⟨_,rfl⟩
  rw [hbw] at HW
  rw [hbb] at HBL
  by_cases c : z < 1114112
  ·have hd : decide (v < wrongN) = true:=decide_eq_true (by unfold wrongN; omega)
   have HE : Hid (elHas (.kind k) v = if k = 119 then bw else if k = 87 then !bw else if k = 115 then bb else !bb):=Lib.hid (by
    show (if k = 119 then decide (v < wrongN) && wordB v else if k = 87 then !(decide (v < wrongN) && wordB v) else if k = 115 then decide (v < wrongN) && blankB v else !(decide (v < wrongN) && blankB v)) = _
    rw [hd,hbw,hbb]
    simp only [Bool.true_and])
   clear hb hd hbw hbb hz
   rcases hx with rfl | rfl | rfl | rfl
   ·go_enter Tryz.func105, Tryz.ntmps105
    go_wp2_with (go_at_call 112; refine (HW.out _).mono ?_; rintro e w1 ⟨rfl,hb1⟩; have HB1:=Lib.hid ((HBX.out _).trans (hb1.mono (HBX.out _).size)); clear hb1)
    go_ret
    exact ⟨by rw [HE.out]; rfl,HB1.out⟩
   ·go_enter Tryz.func105, Tryz.ntmps105
    go_wp2_with (go_at_call 112; refine (HW.out _).mono ?_; rintro e w1 ⟨rfl,hb1⟩; have HB1:=Lib.hid ((HBX.out _).trans (hb1.mono (HBX.out _).size)); clear hb1)
    go_ret
    exact ⟨by rw [HE.out]; rfl,HB1.out⟩
   ·go_enter Tryz.func105, Tryz.ntmps105
    go_wp2_with (go_at_call 113; refine (HBL.out _).mono ?_; rintro e w1 ⟨rfl,hb1⟩; have HB1:=Lib.hid ((HBX.out _).trans (hb1.mono (HBX.out _).size)); clear hb1)
    go_ret
    exact ⟨by rw [HE.out]; rfl,HB1.out⟩
   ·go_enter Tryz.func105, Tryz.ntmps105
    go_wp2_with (go_at_call 113; refine (HBL.out _).mono ?_; rintro e w1 ⟨rfl,hb1⟩; have HB1:=Lib.hid ((HBX.out _).trans (hb1.mono (HBX.out _).size)); clear hb1)
    go_ret
    exact ⟨by rw [HE.out]; rfl,HB1.out⟩
  ·have hd : decide (v < wrongN) = false:=decide_eq_false (by unfold wrongN; omega)
   have HE : Hid (elHas (.kind k) v = if k = 119 then false else if k = 87 then true else if k = 115 then false else true):=Lib.hid (by
    show (if k = 119 then decide (v < wrongN) && wordB v else if k = 87 then !(decide (v < wrongN) && wordB v) else if k = 115 then decide (v < wrongN) && blankB v else !(decide (v < wrongN) && blankB v)) = _
    rw [hd]
    simp only [Bool.false_and,Bool.not_false])
   clear hb hd hbw hbb hz
   rcases hx with rfl | rfl | rfl | rfl
   all_goals
    go_enter Tryz.func105, Tryz.ntmps105
    go_wp2_with fail
    go_ret
    exact ⟨by rw [HE.out]; rfl,HBX.out _⟩
theorem ElRd.len {w : World} {a : Option Addr} {m c : Nat} {els : List El} (h : ElRd w (.slice a m c) els) : m = els.length:=by
 obtain ⟨a',c',h1,_⟩:=h
 simp only [Value.slice.injEq] at h1
 exact h1.2.1
theorem ElRd.at {w : World} {a : Option Addr} {m c : Nat} {els : List El} (h : ElRd w (.slice a m c) els) {i : Nat} {x : El} (hx : els[i]? = some x) : ∃ g,a = some ⟨g,0,none⟩ ∧ g < w.heap.size ∧ ∀ (k : Nat) (u : Value),(elCells x)[k]? = some u → w.cell? ⟨g,i * 3 + k,none⟩ = some u:=by
 have hl : 0 < els.length:=by have:=(List.getElem?_eq_some_iff.1 hx).1; omega
 obtain ⟨a',c',h1,h2⟩:=h
 simp only [Value.slice.injEq] at h1
 obtain ⟨g,cur,h3,h4,h5⟩:=h2 hl
 refine ⟨g,h1.1.trans h3,(Array.getElem?_eq_some_iff.1 h4).1,fun k u hu => ?_⟩
 have:=h5 i x k u hx hu
 simp only [World.cell?,h4]
 simpa using this
theorem elCells_three (x : El) : ∃ a b c : Int,elCells x = [.int .i64 a,.int .i64 b,.int .i64 c]:=by
 cases x <;> exact ⟨_,_,_,rfl⟩
def itV (q : Itm × Value) : Value:=.agg (itCells q).toArray
theorem hasR6 (w : World) (it : Itm) (a : Option Addr) (m c : Nat) (v : Nat) (hr : ElRd w (.slice a m c) it.els) (hok : ∀ x ∈ it.els,OkEl x) (hm : m ≤ 1000000) (hv : v < 2000000) : Calls Tryz.prog 103 #[itV (it,.slice a m c),.int .i64 (v : Int)] w fun e w' => e = .returned (.bool (hasV it.els v)) ∧ Below w.heap.size w w':=by
 have hml:=hr.len
 obtain ⟨wh,hwh⟩ : ∃ z : Int,(it.what : Int) = z:=⟨_,rfl⟩
 obtain ⟨ls,hls⟩ : ∃ z : Int,(it.least : Int) = z:=⟨_,rfl⟩
 obtain ⟨ng,hng⟩ : ∃ b,it.neg = b:=⟨_,rfl⟩
 obtain ⟨mn,hmn⟩ : ∃ b,it.many = b:=⟨_,rfl⟩
 obtain ⟨mb,hmb⟩ : ∃ b,maybeB it = b:=⟨_,rfl⟩
 obtain ⟨els,hel⟩ : ∃ l,it.els = l:=⟨_,rfl⟩
 have hV : itV (it,.slice a m c) = .agg #[.int .i64 wh,.bool ng,.slice a m c,.int .i64 ls,.bool mn,.bool mb]:=by
  rw [← hwh,← hls,← hng,← hmn,← hmb]
  rfl
 rw [hV]
 rw [hel] at hr hok hml ⊢
 have hb0 : Below w.heap.size w (w.alloc (.cells #[.int .i64 wh,.bool ng,.slice a m c,.int .i64 ls,.bool mn,.bool mb] 99)):=(Below.refl _ w).alloc (Nat.le_refl _) _
 have hrow : Row (w.alloc (.cells #[.int .i64 wh,.bool ng,.slice a m c,.int .i64 ls,.bool mn,.bool mb] 99)) w.heap.size 99 [.int .i64 wh,.bool ng,.slice a m c,.int .i64 ls,.bool mn,.bool mb]:=row_new w [.int .i64 wh,.bool ng,.slice a m c,.int .i64 ls,.bool mn,.bool mb] _
 obtain ⟨w0,hw0⟩ : ∃ W,W = w.alloc (.cells #[.int .i64 wh,.bool ng,.slice a m c,.int .i64 ls,.bool mn,.bool mb] 99):=⟨_,rfl⟩
 rw [← hw0] at hb0 hrow
 have HB0:=Lib.hid hb0
 have HROW:=Lib.hid hrow
 have HR:=Lib.hid (hr.below hb0)
 have HOK:=Lib.hid hok
 have HML:=Lib.hid hml
 have HW0:=Lib.hid hw0
 obtain ⟨T,hT⟩ : ∃ T,hasV els v = T:=⟨_,rfl⟩
 rw [hT]
 have HT:=Lib.hid hT
 have c2:=hrow.cell 2
 have cl:=hrow.lt
 clear hwh hls hng hmn hmb hel hV hb0 hrow hr hok hml hw0 hT
 go_enter Tryz.func103, Tryz.ntmps103
 go_upto_region 1 with fail
 rw [← HW0.out]
 go_wp2_with fail
 go_loopw [5] (fun ui wr => ∃ k : Nat,ui = .int .i64 (k : Int) ∧ k ≤ m ∧ Hid (Below w0.heap.size w0 wr ∧ hasV (els.drop k) v = T)) (fun ui _ => m + 1 - (RowKit.intOf ui).toNat)
 case atStart => exact ⟨0,rfl,Nat.zero_le _,Lib.hid ⟨Below.refl _ _,HT.out⟩⟩
 case round =>
  obtain ⟨k,rfl,hk,HI⟩:=hrel
  have hrr:=HROW.out.keep HI.out.1 HROW.out.lt
  have r2:=hrr.cell 2
  have rl:=hrr.lt
  clear hrr
  by_cases hlt : k < m
  ·have hkl : k < els.length:=by rw [← HML.out]; exact hlt
   obtain ⟨x,hx⟩ : ∃ x,els[k]? = some x:=⟨_,List.getElem?_eq_getElem hkl⟩
   have hpe : els[k] = x:=Option.some.inj ((List.getElem?_eq_getElem hkl).symm.trans hx)
   obtain ⟨g,rfl,hg,hc⟩:=(HR.out.below HI.out.1).at hx
   obtain ⟨p,q,r,hp⟩:=elCells_three x
   have e0 : wr.cell? ⟨g,k * 3,none⟩ = some (.int .i64 p):=hc 0 _ (by rw [hp]; rfl)
   have e1 : wr.cell? ⟨g,k * 3 + 1,none⟩ = some (.int .i64 q):=hc 1 _ (by rw [hp]; rfl)
   have e2 : wr.cell? ⟨g,k * 3 + 2,none⟩ = some (.int .i64 r):=hc 2 _ (by rw [hp]; rfl)
   have hin:=inR6 wr x v (HOK.out x (List.mem_of_getElem? hx)) hv
   rw [hp] at hin
   have hI:=HI.out.2
   rw [List.drop_eq_getElem_cons hkl,hpe] at hI
   change (elHas x v || hasV (els.drop (k + 1)) v) = T at hI
   obtain ⟨b,hb⟩ : ∃ b,elHas x v = b:=⟨_,rfl⟩
   rw [hb] at hin hI
   have HIN : Hid (Calls Tryz.prog 105 #[.agg #[.int .i64 p,.int .i64 q,.int .i64 r],.int .i64 (v : Int)] wr fun e w' => e = .returned (.bool b) ∧ Below wr.heap.size wr w'):=Lib.hid hin
   have hki : (k : Int) < (m : Int):=by omega
   clear hin hb hp hc hpe hx hkl
   cases b with
   | true =>
    rw [Bool.true_or] at hI
    subst hI
    go_wp2_with (go_at_call 105; refine (HIN.out).mono ?_; rintro e w1 ⟨rfl,hb1⟩; have HB1:=Lib.hid hb1; clear hb1)
    go_ret
    exact ⟨rfl,HB0.out.trans ((HI.out.1.trans (HB1.out.mono HI.out.1.size)).mono HB0.out.size)⟩
   | false =>
    rw [Bool.false_or] at hI
    have HI2:=Lib.hid hI
    clear hI
    go_wp2_with (go_at_call 105; refine (HIN.out).mono ?_; rintro e w1 ⟨rfl,hb1⟩; have HB1:=Lib.hid hb1; clear hb1)
    go_roundw
    case rel => exact ⟨k + 1,by go_num,by omega,Lib.hid ⟨HI.out.1.trans (HB1.out.mono HI.out.1.size),HI2.out⟩⟩
    case measure => simp [RowKit.intOf]; omega
  ·obtain rfl : k = m:=by omega
   have hI:=HI.out.2
   rw [List.drop_of_length_le (by rw [← HML.out]; exact Nat.le_refl _)] at hI
   change false = T at hI
   subst hI
   have hnl : ¬ (k : Int) < (k : Int):=by omega
   clear hlt hk
   go_wp2_with fail
   go_ret
   exact ⟨rfl,HB0.out.trans (HI.out.1.mono HB0.out.size)⟩
end Go.Proofs.YtchdeboialbdiaaGreatDoor
