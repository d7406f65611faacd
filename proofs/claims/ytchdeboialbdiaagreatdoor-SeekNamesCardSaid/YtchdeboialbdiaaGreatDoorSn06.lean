/- Texts joined, one behind the other (SNum, SKind). -/
import Derived.Test.YtchdeboialbdiaaGreatDoorSn05
namespace Go.Proofs.YtchdeboialbdiaaGreatDoor
set_option linter.unusedVariables false
set_option linter.unusedSimpArgs false
set_option maxHeartbeats 8000000
set_option maxRecDepth 100000
open Go.RowKit
open Go.Lib hiding intOf
theorem nowI_eq {V : List Nat} {i x : Nat} (hV : OkV V) (hx : x < 128) : nowI V i = (x : Int) ↔ V[i]? = some x:=by
 unfold nowI
 cases hv : V[i]? with
 | none => simp
 | some v =>
  have h:=hV v (List.mem_of_getElem? hv)
  dsimp only
  unfold wrongN at h ⊢
  constructor
  ·intro h1
   split at h1
   ·rw [show v = x by omega]
   ·omega
  ·intro h1
   obtain rfl : v = x:=Option.some.inj h1
   rw [if_pos (by omega)]
theorem digsGo_some {V : List Nat} {f k n d : Nat} (h : digO V k = some d) : digsGo V (f + 1) k n = digsGo V f (k + 1) (16 * n + d):=by rw [digsGo,h]
theorem digsGo_none {V : List Nat} {f k n : Nat} (h : digO V k = none) : digsGo V f k n = (k,n):=by
 cases f with
 | zero => rfl
 | succ f => rw [digsGo,h]
def NumSt (w : World) (p : Nat) (a : Option Addr) (n c : Nat) (V : List Nat) (fo : Bool) (j : Nat) (W : World) : Prop :=
 w.grownBy W (some p) ∧ Scan W p a n c V j fo ∧ Row W w.heap.size 91 [.int .i32 0,.int .i64 0] ∧ Row W (w.heap.size + 1) 91 [.int .i32 0,.int .i64 0]
theorem NumSt.quiet {w W W' : World} {p n c j : Nat} {a : Option Addr} {V : List Nat} {fo : Bool} (h : NumSt w p a n c V fo j W) (hq : Quiet W W') : NumSt w p a n c V fo j W':=by
 obtain ⟨m,rfl⟩:=hq
 obtain ⟨h1,h2,h3,h4⟩:=h
 exact ⟨grown_quiet h1 m,h2.quiet m,h3.keep (Quiet.below (w':=W.drewN m) ⟨m,rfl⟩ W.heap.size) h3.lt,h4.keep (Quiet.below (w':=W.drewN m) ⟨m,rfl⟩ W.heap.size) h4.lt⟩
theorem NumSt.move {w W : World} {p n c j : Nat} {a : Option Addr} {V : List Nat} {fo : Bool} (h : NumSt w p a n c V fo j W) (hp : p < w.heap.size) : NumSt w p a n c V fo (j + 1) (W.setCell ⟨p,1,none⟩ (.int .i64 ((j : Int) + 1))):=by
 obtain ⟨h1,h2,h3,h4⟩:=h
 have hm:=h2.move (j + 1)
 rw [show ((j + 1 : Nat) : Int) = (j : Int) + 1 by omega] at hm
 exact ⟨grown_then h1 (grownBy_set _ p 1 _) (fun j h => by cases h; exact .inr rfl),hm,h3.other (by show p ≠ w.heap.size; omega) _,h4.other (by show p ≠ w.heap.size + 1; omega) _⟩
theorem numberC (w : World) (p : Nat) (a : Option Addr) (n c : Nat) (V : List Nat) (i : Nat) (fo : Bool) (h : Scan w p a n c V i fo) (hV : OkV V) (hi : i + 8 ≤ 67108864) (hn : n ≤ 67108864) (ha : ∀ ad,a = some ad → ad.block < w.heap.size) :
  Calls Tryz.prog 97 #[.pointer (some ⟨p,0,none⟩)] w (HexP w p a n c V fo (runeP V i)):=by
 have hp:=h.row.lt
 obtain ⟨s,hs⟩ : ∃ s,s = w.heap.size:=⟨_,rfl⟩
 have hw2 : ∀ w',w' = (w.alloc (.cells #[.int .i32 0,.int .i64 0] 91)).alloc (.cells #[.int .i32 0,.int .i64 0] 91) → w.grownBy w' (some p) ∧ Scan w' p a n c V i fo ∧ Row w' w.heap.size 91 [.int .i32 0,.int .i64 0] ∧ Row w' (w.heap.size + 1) 91 [.int .i32 0,.int .i64 0]:=by
  rintro w' rfl
  have hb : Below w.heap.size w ((w.alloc (.cells #[.int .i32 0,.int .i64 0] 91)).alloc (.cells #[.int .i32 0,.int .i64 0] 91)):=((Below.refl _ w).alloc (Nat.le_refl _) _).alloc (by simp) _
  refine ⟨grown_of_below hb _,h.keep hb (Nat.le_refl _),(row_new w [.int .i32 0,.int .i64 0] _).alloc _,?_⟩
  have:=row_new (w.alloc (.cells #[.int .i32 0,.int .i64 0] 91)) [.int .i32 0,.int .i64 0] 91
  rwa [World.size_alloc] at this
 have HW:=Lib.hid hw2
 have HV:=Lib.hid hV
 have HA:=Lib.hid ha
 clear h hV ha hw2
 go_enter Tryz.func97, Tryz.ntmps97
 by_cases h0 : V[i]? = some 123
 ·have hN : ∀ w',w' = (w.alloc (.cells #[.int .i32 0,.int .i64 0] 91)).alloc (.cells #[.int .i32 0,.int .i64 0] 91) → Calls Tryz.prog 48 #[.pointer (some ⟨p,0,none⟩)] w' fun e w'' => e = .returned (.int .i32 123) ∧ Quiet w' w'':=by
   intro w' hw'
   have:=nowC w' p a n c V i fo (HW.out w' hw').2.1 HV.out (by omega) hn
   rw [(nowI_eq (x:=123) HV.out (by omega)).2 h0] at this
   exact this
  have HN:=Lib.hid hN
  have HH0:=Lib.hid h0
  clear hN h0 hs
  obtain ⟨w2,hw2⟩ : ∃ w2,w2 = (w.alloc (.cells #[.int .i32 0,.int .i64 0] 91)).alloc (.cells #[.int .i32 0,.int .i64 0] 91):=⟨_,rfl⟩
  have e1 : ((w.alloc (.cells #[.int .i32 0,.int .i64 0] 91)).alloc (.cells #[.int .i32 0,.int .i64 0] 91)).cell? ⟨p,1,none⟩ = some (.int .i64 (i : Int)):=(HW.out _ rfl).2.1.row.cell 1
  have f1 : ((w.alloc (.cells #[.int .i32 0,.int .i64 0] 91)).alloc (.cells #[.int .i32 0,.int .i64 0] 91)).frozen? ⟨p,1,none⟩ = false:=(HW.out _ rfl).2.1.row.frozen 1
  rw [← hw2] at e1 f1
  have HE:=Lib.hid hw2
  clear hw2
  go_wp2_with (go_at_call 48; refine (HN.out _ rfl).mono ?_; rintro e w3 ⟨rfl,m,rfl⟩; rw [← HE.out])
  have hS : Scan w2 p a n c V i fo ∧ w.grownBy w2 (some p) ∧ Row w2 w.heap.size 91 [.int .i32 0,.int .i64 0] ∧ Row w2 (w.heap.size + 1) 91 [.int .i32 0,.int .i64 0]:=by
   obtain ⟨x1,x2,x3,x4⟩:=HW.out _ HE.out
   exact ⟨x2,x1,x3,x4⟩
  have HS:=Lib.hid hS
  clear hS e1 f1
  go_loopw [6,7] (fun uc uk wr => ∃ (k num : Nat),uc = .int .i64 (num : Int) ∧ uk = .int .i64 (k : Int) ∧ k ≤ 6 ∧ num ≤ 16777215 ∧ Hid (num < 16 ^ k ∧ digsGo V (6 - k) (i + 1 + k) num = digsGo V 6 (i + 1) 0) ∧ Hid (NumSt w p a n c V fo (i + 1 + k) wr)) (fun _ uk _ => 6 - (RowKit.intOf uk).toNat)
  case atStart =>
   have hS0 : NumSt w p a n c V fo i w2:=⟨HS.out.2.1,HS.out.1,HS.out.2.2.1,HS.out.2.2.2⟩
   exact ⟨0,0,rfl,rfl,by omega,by omega,Lib.hid ⟨by decide,rfl⟩,Lib.hid ((hS0.quiet ⟨m,rfl⟩).move hp)⟩
  case round =>
   obtain ⟨k,num,rfl,rfl,hk,hnum,HC,HR⟩:=hrel
   have hD:=fun m' => digitC (wr.drewN m') p a n c V (i + 1 + k) fo (HR.out.2.1.quiet m') HV.out (by omega) hn
   by_cases hgo : k < 6 ∧ ∃ d,digO V (i + 1 + k) = some d
   ·obtain ⟨hlt,d,hd⟩:=hgo
    have hkt : (k : Int) < 6:=by omega
    have hd16:=digO_lt hd
    have hz : digI V (i + 1 + k) = (d : Int):=by unfold digI; rw [hd]
    rw [hz] at hD
    have HD:=Lib.hid hD
    have hpow : 16 ^ (k + 1) ≤ 16777216:=by
     have:=Nat.pow_le_pow_right (n:=16) (by omega) (show k + 1 ≤ 6 by omega)
     simpa using this
    have hnx : 16 * num + d < 16 ^ (k + 1) ∧ digsGo V (6 - (k + 1)) (i + 1 + (k + 1)) (16 * num + d) = digsGo V 6 (i + 1) 0:=by
     refine ⟨by have:=HC.out.1; rw [Nat.pow_succ]; omega,?_⟩
     rw [← HC.out.2,show 6 - k = (6 - (k + 1)) + 1 by omega,digsGo_some hd]
     rfl
    have hnb : 16 * num + d ≤ 16777215:=by omega
    have HNX:=Lib.hid hnx
    have e1 : wr.cell? ⟨p,1,none⟩ = some (.int .i64 ((i + 1 + k : Nat) : Int)):=HR.out.2.1.row.cell 1
    have f1 : wr.frozen? ⟨p,1,none⟩ = false:=HR.out.2.1.row.frozen 1
    obtain ⟨q,hq⟩ : ∃ q,q = i + 1 + k:=⟨_,rfl⟩
    have hqb : q ≤ 67108864:=by omega
    rw [← hq] at e1
    have HQE:=Lib.hid hq
    clear hnx hd hz hq hD hpow
    have HD0 : Hid (Calls Tryz.prog 109 #[.pointer (some ⟨p,0,none⟩)] wr fun e w' => e = .returned (.int .i64 (d : Int)) ∧ Quiet wr w'):=Lib.hid (HD.out 0)
    go_wp2_with (first
     | (go_at_call 109; refine (HD0.out).mono ?_; rintro e w3 ⟨rfl,m1,rfl⟩)
     | (go_at_call 109; refine (HD.out m1).mono ?_; rintro e w3 ⟨rfl,m2,rfl⟩))
    go_roundw
    case rel => exact ⟨k + 1,16 * num + d,by go_num,by go_num,by omega,hnb,HNX,Lib.hid (by
     have h1:=(HR.out.quiet (W':=wr.drewN (m1 + m2)) ⟨m1 + m2,rfl⟩).move hp
     rw [← HQE.out] at h1
     rw [show i + 1 + (k + 1) = q + 1 by have:=HQE.out; omega]
     exact h1)⟩
    case measure => simp [RowKit.intOf]; omega
   ·have hend : digsGo V 6 (i + 1) 0 = (i + 1 + k,num):=by
     rw [← HC.out.2]
     by_cases hlt : k < 6
     ·apply digsGo_none
      cases hd : digO V (i + 1 + k) with
      | none => rfl
      | some d => exact absurd ⟨hlt,d,hd⟩ hgo
     ·rw [show 6 - k = 0 by omega,digsGo]
    obtain ⟨r,hr⟩ : ∃ r,nowI V (i + 1 + k) = r:=⟨_,rfl⟩
    have hN2:=fun m' => nowC (wr.drewN m') p a n c V (i + 1 + k) fo (HR.out.quiet (W':=wr.drewN m') ⟨m',rfl⟩).2.1 HV.out (by omega) hn
    have hr125:=nowI_eq (i:=i + 1 + k) (x:=125) HV.out (by omega)
    rw [hr] at hr125
    rw [hr] at hN2
    have HN2:=Lib.hid hN2
    have HN20 : Hid (Calls Tryz.prog 48 #[.pointer (some ⟨p,0,none⟩)] wr fun e w' => e = .returned (.int .i32 r) ∧ Quiet wr w'):=Lib.hid (hN2 0)
    have hdig : k < 6 → ∀ m',Calls Tryz.prog 109 #[.pointer (some ⟨p,0,none⟩)] (wr.drewN m') fun e w' => e = .returned (.int .i64 (-1)) ∧ Quiet (wr.drewN m') w':=by
     intro hlt m'
     have hz : digI V (i + 1 + k) = -1:=by
      unfold digI
      cases hd : digO V (i + 1 + k) with
      | none => rfl
      | some d => exact absurd ⟨hlt,d,hd⟩ hgo
     have:=hD m'
     rwa [hz] at this
    have HD:=Lib.hid hdig
    have HEND:=Lib.hid hend
    have e2 : wr.cell? ⟨w.heap.size + 1,0,none⟩ = some (.int .i32 0):=HR.out.2.2.2.cell 0
    have e3 : wr.cell? ⟨w.heap.size + 1,1,none⟩ = some (.int .i64 0):=HR.out.2.2.2.cell 1
    have e4 : wr.cell? ⟨w.heap.size,0,none⟩ = some (.int .i32 0):=HR.out.2.2.1.cell 0
    have e5 : wr.cell? ⟨w.heap.size,1,none⟩ = some (.int .i64 0):=HR.out.2.2.1.cell 1
    have f4 : wr.frozen? ⟨w.heap.size,0,none⟩ = false:=HR.out.2.2.1.frozen 0
    have f5 : wr.frozen? ⟨w.heap.size,1,none⟩ = false:=HR.out.2.2.1.frozen 1
    have HX:=Lib.hid (fun M => HR.out.quiet (W':=wr.drewN M) ⟨M,rfl⟩)
    by_cases hk0 : k = 0
    ·subst hk0
     have hG : runeP V i = .inl (i + 1):=by
      unfold runeP
      rw [if_pos HH0.out,hend]
      exact if_pos (.inl rfl)
     have HG:=Lib.hid hG
     have HD0 : Hid (Calls Tryz.prog 109 #[.pointer (some ⟨p,0,none⟩)] wr fun e w' => e = .returned (.int .i64 (-1)) ∧ Quiet wr w'):=Lib.hid (hdig (by omega) 0)
     clear hG hN2 hr125 hdig hend hgo hD hr
     go_wp2_with (go_at_call 109; refine (HD0.out).mono ?_; rintro e w3 ⟨rfl,m1,rfl⟩)
     refine bodyPost_ret (results_row_two rfl _ _ w.heap.size 91 #[.int .i32 0,.int .i64 0] (0,0) _ _ _ rfl rfl rfl ?_ Tryz.underlying91 rfl (by kernel_rfl)) rfl ?_
     ·exact (tok_done (HX.out _).1 (HX.out _).2.1 (HX.out _).2.2.1 hp HA.out).1
     ·have h9:=fun M => tok_done (x:=.int .i32 0) (y:=.int .i64 0) (HX.out M).1 (HX.out M).2.1 (HX.out M).2.2.1 hp HA.out
      unfold HexP
      rw [HG.out]
      exact ⟨(h9 _).2.2,⟨_,_,rfl⟩,(h9 _).2.1⟩
    ·have hkf : ((k : Int) == 0) = false:=by rw [beq_eq_false_iff_ne]; omega
     by_cases hlt : k < 6
     ·have hkt : (k : Int) < 6:=by omega
      have HD0 : Hid (Calls Tryz.prog 109 #[.pointer (some ⟨p,0,none⟩)] wr fun e w' => e = .returned (.int .i64 (-1)) ∧ Quiet wr w'):=Lib.hid (hdig hlt 0)
      by_cases hb : r = 125 ∧ mayN num = true
      ·obtain ⟨rfl,hmay⟩:=hb
       have hmb : num ≤ 1114111 ∧ (num < 55296 ∨ 57343 < num):=by
        unfold mayN at hmay
        simpa using hmay
       have hv : V[i + 1 + k]? = some 125:=hr125.1 rfl
       have hG : runeP V i = .inr (0,num,i + 1 + k + 1):=by
        unfold runeP
        rw [if_pos HH0.out,hend]
        refine if_neg ?_
        rintro (h1 | h1 | h1)
        ·have h1 : i + 1 + k = i + 1:=h1
         omega
        ·exact h1 hv
        ·have h1 : mayN num = false:=h1
         rw [hmay] at h1
         cases h1
       have HG:=Lib.hid hG
       have e1 : wr.cell? ⟨p,1,none⟩ = some (.int .i64 ((i + 1 + k : Nat) : Int)):=HR.out.2.1.row.cell 1
       have f1 : wr.frozen? ⟨p,1,none⟩ = false:=HR.out.2.1.row.frozen 1
       have HM:=Lib.hid (fun M => (HX.out M).move hp)
       obtain ⟨q,hq⟩ : ∃ q,q = i + 1 + k:=⟨_,rfl⟩
       have hqb : q ≤ 67108864:=by omega
       rw [← hq] at e1 HG HM
       have ht : tokV num = .agg #[.int .i32 (num : Int),.int .i64 0]:=by unfold tokV tokR tokW wrongN; rw [if_pos (by omega),if_pos (by omega)]; rfl
       have HT:=Lib.hid ht
       have hnm : (num : Int) ≤ 1114111:=by omega
       clear hG hN2 hr125 hdig hend hgo hD hr hv hmay ht hq
       obtain ⟨h2,h3 | h3⟩:=hmb
       ·have h4 : ¬ (55296 : Int) ≤ (num : Int):=by omega
        have h6 : (num : Int) < 55296:=by omega
        have h7 : (num : Int) ≤ 57343:=by omega
        have h8 : ¬ (1114111 : Int) < (num : Int):=by omega
        obtain ⟨z,hz⟩ : ∃ z : Int,(num : Int) = z:=⟨_,rfl⟩
        have hz0 : 0 ≤ z:=by omega
        rw [hz] at h4 h6 h7 h8 hnm HT ⊢
        clear h2 h3 hz hnum
        go_wp2_with (first | (go_at_call 109; refine (HD0.out).mono ?_; rintro e w3 ⟨rfl,m1,rfl⟩) | (go_at_call 48; refine (HN2.out m1).mono ?_; rintro e w4 ⟨rfl,m2,rfl⟩))
        refine bodyPost_ret (results_row_two rfl _ _ w.heap.size 91 #[.int .i32 z,.int .i64 0] (0,0) _ _ _ rfl rfl rfl ?_ Tryz.underlying91 rfl (by kernel_rfl)) rfl ?_
        ·exact (tok_done (HM.out _).1 (HM.out _).2.1 (HM.out _).2.2.1 hp HA.out).1
        ·have h9:=fun M => tok_done (x:=.int .i32 z) (y:=.int .i64 0) (HM.out M).1 (HM.out M).2.1 (HM.out M).2.2.1 hp HA.out
         unfold HexP
         rw [HG.out]
         refine ⟨(h9 _).2.2,?_,(h9 _).2.1⟩
         rw [HT.out]
         rfl
       ·have h4 : ¬ (num : Int) ≤ 57343:=by omega
        have h5 : (55296 : Int) ≤ (num : Int):=by omega
        go_wp2_with (first | (go_at_call 109; refine (HD0.out).mono ?_; rintro e w3 ⟨rfl,m1,rfl⟩) | (go_at_call 48; refine (HN2.out m1).mono ?_; rintro e w4 ⟨rfl,m2,rfl⟩))
        refine bodyPost_ret (results_row_two rfl _ _ w.heap.size 91 #[.int .i32 (num : Int),.int .i64 0] (0,0) _ _ _ rfl rfl rfl ?_ Tryz.underlying91 rfl (by kernel_rfl)) rfl ?_
        ·exact (tok_done (HM.out _).1 (HM.out _).2.1 (HM.out _).2.2.1 hp HA.out).1
        ·have h9:=fun M => tok_done (x:=.int .i32 (num : Int)) (y:=.int .i64 0) (HM.out M).1 (HM.out M).2.1 (HM.out M).2.2.1 hp HA.out
         unfold HexP
         rw [HG.out]
         refine ⟨(h9 _).2.2,?_,(h9 _).2.1⟩
         rw [HT.out]
         rfl
      ·have hG : runeP V i = .inl (i + 1 + k):=by
        unfold runeP
        rw [if_pos HH0.out,hend]
        refine if_pos ?_
        by_cases h1 : r = 125
        ·refine .inr (.inr ?_)
         cases h2 : mayN num with
         | true => exact absurd ⟨h1,h2⟩ hb
         | false => rfl
        ·exact .inr (.inl fun h2 => h1 (hr125.2 h2))
       have HG:=Lib.hid hG
       by_cases h1 : r = 125
       ·subst h1
        have hm : 1114111 < num ∨ (num ≤ 1114111 ∧ 55296 ≤ num ∧ num ≤ 57343):=by
         rcases Nat.lt_or_ge 1114111 num with h2 | h2
         ·exact .inl h2
         ·refine .inr ⟨h2,?_⟩
          apply Decidable.byContradiction
          intro h3
          apply hb
          refine ⟨rfl,?_⟩
          unfold mayN
          rw [decide_eq_true h2,Bool.true_and,Bool.or_eq_true,decide_eq_true_iff,decide_eq_true_iff]
          omega
        clear hG hN2 hr125 hdig hend hgo hD hr hb
        rcases hm with h2 | ⟨h2,h3,h4⟩
        ·have h5 : (1114111 : Int) < (num : Int):=by omega
         go_wp2_with (first | (go_at_call 109; refine (HD0.out).mono ?_; rintro e w3 ⟨rfl,m1,rfl⟩) | (go_at_call 48; refine (HN2.out m1).mono ?_; rintro e w4 ⟨rfl,m2,rfl⟩))
         refine bodyPost_ret (results_row_two rfl _ _ w.heap.size 91 #[.int .i32 0,.int .i64 0] (0,0) _ _ _ rfl rfl rfl ?_ Tryz.underlying91 rfl (by kernel_rfl)) rfl ?_
         ·exact (tok_done (HX.out _).1 (HX.out _).2.1 (HX.out _).2.2.1 hp HA.out).1
         ·have h9:=fun M => tok_done (x:=.int .i32 0) (y:=.int .i64 0) (HX.out M).1 (HX.out M).2.1 (HX.out M).2.2.1 hp HA.out
          unfold HexP
          rw [HG.out]
          exact ⟨(h9 _).2.2,⟨_,_,rfl⟩,(h9 _).2.1⟩
        ·have h5 : ¬ (1114111 : Int) < (num : Int):=by omega
         have h6 : (55296 : Int) ≤ (num : Int):=by omega
         have h7 : (num : Int) ≤ 57343:=by omega
         go_wp2_with (first | (go_at_call 109; refine (HD0.out).mono ?_; rintro e w3 ⟨rfl,m1,rfl⟩) | (go_at_call 48; refine (HN2.out m1).mono ?_; rintro e w4 ⟨rfl,m2,rfl⟩))
         refine bodyPost_ret (results_row_two rfl _ _ w.heap.size 91 #[.int .i32 0,.int .i64 0] (0,0) _ _ _ rfl rfl rfl ?_ Tryz.underlying91 rfl (by kernel_rfl)) rfl ?_
         ·exact (tok_done (HX.out _).1 (HX.out _).2.1 (HX.out _).2.2.1 hp HA.out).1
         ·have h9:=fun M => tok_done (x:=.int .i32 0) (y:=.int .i64 0) (HX.out M).1 (HX.out M).2.1 (HX.out M).2.2.1 hp HA.out
          unfold HexP
          rw [HG.out]
          exact ⟨(h9 _).2.2,⟨_,_,rfl⟩,(h9 _).2.1⟩
       ·have h5 : (r == 125) = false:=by rw [beq_eq_false_iff_ne]; exact h1
        have h6 : (r != 125) = true:=by rw [bne_iff_ne]; exact h1
        clear hG hN2 hr125 hdig hend hgo hD hr hb
        go_wp2_with (first | (go_at_call 109; refine (HD0.out).mono ?_; rintro e w3 ⟨rfl,m1,rfl⟩) | (go_at_call 48; refine (HN2.out m1).mono ?_; rintro e w4 ⟨rfl,m2,rfl⟩))
        refine bodyPost_ret (results_row_two rfl _ _ w.heap.size 91 #[.int .i32 0,.int .i64 0] (0,0) _ _ _ rfl rfl rfl ?_ Tryz.underlying91 rfl (by kernel_rfl)) rfl ?_
        ·exact (tok_done (HX.out _).1 (HX.out _).2.1 (HX.out _).2.2.1 hp HA.out).1
        ·have h9:=fun M => tok_done (x:=.int .i32 0) (y:=.int .i64 0) (HX.out M).1 (HX.out M).2.1 (HX.out M).2.2.1 hp HA.out
         unfold HexP
         rw [HG.out]
         exact ⟨(h9 _).2.2,⟨_,_,rfl⟩,(h9 _).2.1⟩
     ·have hkt : ¬ (k : Int) < 6:=by omega
      by_cases hb : r = 125 ∧ mayN num = true
      ·obtain ⟨rfl,hmay⟩:=hb
       have hmb : num ≤ 1114111 ∧ (num < 55296 ∨ 57343 < num):=by
        unfold mayN at hmay
        simpa using hmay
       have hv : V[i + 1 + k]? = some 125:=hr125.1 rfl
       have hG : runeP V i = .inr (0,num,i + 1 + k + 1):=by
        unfold runeP
        rw [if_pos HH0.out,hend]
        refine if_neg ?_
        rintro (h1 | h1 | h1)
        ·have h1 : i + 1 + k = i + 1:=h1
         omega
        ·exact h1 hv
        ·have h1 : mayN num = false:=h1
         rw [hmay] at h1
         cases h1
       have HG:=Lib.hid hG
       have e1 : wr.cell? ⟨p,1,none⟩ = some (.int .i64 ((i + 1 + k : Nat) : Int)):=HR.out.2.1.row.cell 1
       have f1 : wr.frozen? ⟨p,1,none⟩ = false:=HR.out.2.1.row.frozen 1
       have HM:=Lib.hid (fun M => (HX.out M).move hp)
       obtain ⟨q,hq⟩ : ∃ q,q = i + 1 + k:=⟨_,rfl⟩
       have hqb : q ≤ 67108864:=by omega
       rw [← hq] at e1 HG HM
       have ht : tokV num = .agg #[.int .i32 (num : Int),.int .i64 0]:=by unfold tokV tokR tokW wrongN; rw [if_pos (by omega),if_pos (by omega)]; rfl
       have HT:=Lib.hid ht
       have hnm : (num : Int) ≤ 1114111:=by omega
       clear hG hN2 hr125 hdig hend hgo hD hr hv hmay ht hq
       obtain ⟨h2,h3 | h3⟩:=hmb
       ·have h4 : ¬ (55296 : Int) ≤ (num : Int):=by omega
        have h6 : (num : Int) < 55296:=by omega
        have h7 : (num : Int) ≤ 57343:=by omega
        have h8 : ¬ (1114111 : Int) < (num : Int):=by omega
        obtain ⟨z,hz⟩ : ∃ z : Int,(num : Int) = z:=⟨_,rfl⟩
        have hz0 : 0 ≤ z:=by omega
        rw [hz] at h4 h6 h7 h8 hnm HT ⊢
        clear h2 h3 hz hnum
        go_wp2_with (go_at_call 48; refine (HN20.out).mono ?_; rintro e w4 ⟨rfl,m2,rfl⟩)
        refine bodyPost_ret (results_row_two rfl _ _ w.heap.size 91 #[.int .i32 z,.int .i64 0] (0,0) _ _ _ rfl rfl rfl ?_ Tryz.underlying91 rfl (by kernel_rfl)) rfl ?_
        ·exact (tok_done (HM.out _).1 (HM.out _).2.1 (HM.out _).2.2.1 hp HA.out).1
        ·have h9:=fun M => tok_done (x:=.int .i32 z) (y:=.int .i64 0) (HM.out M).1 (HM.out M).2.1 (HM.out M).2.2.1 hp HA.out
         unfold HexP
         rw [HG.out]
         refine ⟨(h9 _).2.2,?_,(h9 _).2.1⟩
         rw [HT.out]
         rfl
       ·have h4 : ¬ (num : Int) ≤ 57343:=by omega
        have h5 : (55296 : Int) ≤ (num : Int):=by omega
        go_wp2_with (go_at_call 48; refine (HN20.out).mono ?_; rintro e w4 ⟨rfl,m2,rfl⟩)
        refine bodyPost_ret (results_row_two rfl _ _ w.heap.size 91 #[.int .i32 (num : Int),.int .i64 0] (0,0) _ _ _ rfl rfl rfl ?_ Tryz.underlying91 rfl (by kernel_rfl)) rfl ?_
        ·exact (tok_done (HM.out _).1 (HM.out _).2.1 (HM.out _).2.2.1 hp HA.out).1
        ·have h9:=fun M => tok_done (x:=.int .i32 (num : Int)) (y:=.int .i64 0) (HM.out M).1 (HM.out M).2.1 (HM.out M).2.2.1 hp HA.out
         unfold HexP
         rw [HG.out]
         refine ⟨(h9 _).2.2,?_,(h9 _).2.1⟩
         rw [HT.out]
         rfl
      ·have hG : runeP V i = .inl (i + 1 + k):=by
        unfold runeP
        rw [if_pos HH0.out,hend]
        refine if_pos ?_
        by_cases h1 : r = 125
        ·refine .inr (.inr ?_)
         cases h2 : mayN num with
         | true => exact absurd ⟨h1,h2⟩ hb
         | false => rfl
        ·exact .inr (.inl fun h2 => h1 (hr125.2 h2))
       have HG:=Lib.hid hG
       by_cases h1 : r = 125
       ·subst h1
        have hm : 1114111 < num ∨ (num ≤ 1114111 ∧ 55296 ≤ num ∧ num ≤ 57343):=by
         rcases Nat.lt_or_ge 1114111 num with h2 | h2
         ·exact .inl h2
         ·refine .inr ⟨h2,?_⟩
          apply Decidable.byContradiction
          intro h3
          apply hb
          refine ⟨rfl,?_⟩
          unfold mayN
          rw [decide_eq_true h2,Bool.true_and,Bool.or_eq_true,decide_eq_true_iff,decide_eq_true_iff]
          omega
        clear hG hN2 hr125 hdig hend hgo hD hr hb
        rcases hm with h2 | ⟨h2,h3,h4⟩
        ·have h5 : (1114111 : Int) < (num : Int):=by omega
         go_wp2_with (go_at_call 48; refine (HN20.out).mono ?_; rintro e w4 ⟨rfl,m2,rfl⟩)
         refine bodyPost_ret (results_row_two rfl _ _ w.heap.size 91 #[.int .i32 0,.int .i64 0] (0,0) _ _ _ rfl rfl rfl ?_ Tryz.underlying91 rfl (by kernel_rfl)) rfl ?_
         ·exact (tok_done (HX.out _).1 (HX.out _).2.1 (HX.out _).2.2.1 hp HA.out).1
         ·have h9:=fun M => tok_done (x:=.int .i32 0) (y:=.int .i64 0) (HX.out M).1 (HX.out M).2.1 (HX.out M).2.2.1 hp HA.out
          unfold HexP
          rw [HG.out]
          exact ⟨(h9 _).2.2,⟨_,_,rfl⟩,(h9 _).2.1⟩
        ·have h5 : ¬ (1114111 : Int) < (num : Int):=by omega
         have h6 : (55296 : Int) ≤ (num : Int):=by omega
         have h7 : (num : Int) ≤ 57343:=by omega
         go_wp2_with (go_at_call 48; refine (HN20.out).mono ?_; rintro e w4 ⟨rfl,m2,rfl⟩)
         refine bodyPost_ret (results_row_two rfl _ _ w.heap.size 91 #[.int .i32 0,.int .i64 0] (0,0) _ _ _ rfl rfl rfl ?_ Tryz.underlying91 rfl (by kernel_rfl)) rfl ?_
         ·exact (tok_done (HX.out _).1 (HX.out _).2.1 (HX.out _).2.2.1 hp HA.out).1
         ·have h9:=fun M => tok_done (x:=.int .i32 0) (y:=.int .i64 0) (HX.out M).1 (HX.out M).2.1 (HX.out M).2.2.1 hp HA.out
          unfold HexP
          rw [HG.out]
          exact ⟨(h9 _).2.2,⟨_,_,rfl⟩,(h9 _).2.1⟩
       ·have h5 : (r == 125) = false:=by rw [beq_eq_false_iff_ne]; exact h1
        have h6 : (r != 125) = true:=by rw [bne_iff_ne]; exact h1
        clear hG hN2 hr125 hdig hend hgo hD hr hb
        go_wp2_with (go_at_call 48; refine (HN20.out).mono ?_; rintro e w4 ⟨rfl,m2,rfl⟩)
        refine bodyPost_ret (results_row_two rfl _ _ w.heap.size 91 #[.int .i32 0,.int .i64 0] (0,0) _ _ _ rfl rfl rfl ?_ Tryz.underlying91 rfl (by kernel_rfl)) rfl ?_
        ·exact (tok_done (HX.out _).1 (HX.out _).2.1 (HX.out _).2.2.1 hp HA.out).1
        ·have h9:=fun M => tok_done (x:=.int .i32 0) (y:=.int .i64 0) (HX.out M).1 (HX.out M).2.1 (HX.out M).2.2.1 hp HA.out
         unfold HexP
         rw [HG.out]
         exact ⟨(h9 _).2.2,⟨_,_,rfl⟩,(h9 _).2.1⟩
 ·have hN : ∀ w',w' = (w.alloc (.cells #[.int .i32 0,.int .i64 0] 91)).alloc (.cells #[.int .i32 0,.int .i64 0] 91) → Calls Tryz.prog 48 #[.pointer (some ⟨p,0,none⟩)] w' fun e w'' => e = .returned (.int .i32 (nowI V i)) ∧ Quiet w' w'':=fun w' hw' => nowC w' p a n c V i fo (HW.out w' hw').2.1 HV.out (by omega) hn
  have h1 : nowI V i ≠ 123:=fun h => h0 ((nowI_eq (x:=123) HV.out (by omega)).1 h)
  obtain ⟨r,hr⟩ : ∃ r,nowI V i = r:=⟨_,rfl⟩
  rw [hr] at hN h1
  have h5 : (r == 123) = false:=by rw [beq_eq_false_iff_ne]; exact h1
  have h6 : (r != 123) = true:=by rw [bne_iff_ne]; exact h1
  have hG : runeP V i = .inl i:=by unfold runeP; rw [if_neg h0]
  have HG:=Lib.hid hG
  have HN:=Lib.hid hN
  obtain ⟨w2,hw2⟩ : ∃ w2,w2 = (w.alloc (.cells #[.int .i32 0,.int .i64 0] 91)).alloc (.cells #[.int .i32 0,.int .i64 0] 91):=⟨_,rfl⟩
  obtain ⟨x1,x2,x3,x4⟩:=HW.out _ hw2
  have e2 : w2.cell? ⟨w.heap.size + 1,0,none⟩ = some (.int .i32 0):=x4.cell 0
  have e3 : w2.cell? ⟨w.heap.size + 1,1,none⟩ = some (.int .i64 0):=x4.cell 1
  have e4 : w2.cell? ⟨w.heap.size,0,none⟩ = some (.int .i32 0):=x3.cell 0
  have e5 : w2.cell? ⟨w.heap.size,1,none⟩ = some (.int .i64 0):=x3.cell 1
  have f4 : w2.frozen? ⟨w.heap.size,0,none⟩ = false:=x3.frozen 0
  have f5 : w2.frozen? ⟨w.heap.size,1,none⟩ = false:=x3.frozen 1
  have hS0 : NumSt w p a n c V fo i w2:=⟨x1,x2,x3,x4⟩
  have HX:=Lib.hid (fun M => hS0.quiet (W':=w2.drewN M) ⟨M,rfl⟩)
  have HE:=Lib.hid hw2
  clear hN h0 hs hG hr hw2 x1 x2 x3 x4 hS0
  go_wp2_with (go_at_call 48; refine (HN.out _ rfl).mono ?_; rintro e w3 ⟨rfl,m,rfl⟩; rw [← HE.out])
  refine bodyPost_ret (results_row_two rfl _ _ w.heap.size 91 #[.int .i32 0,.int .i64 0] (0,0) _ _ _ rfl rfl rfl ?_ Tryz.underlying91 rfl (by kernel_rfl)) rfl ?_
  ·exact (tok_done (HX.out _).1 (HX.out _).2.1 (HX.out _).2.2.1 hp HA.out).1
  ·have h9:=fun M => tok_done (x:=.int .i32 0) (y:=.int .i64 0) (HX.out M).1 (HX.out M).2.1 (HX.out M).2.2.1 hp HA.out
   unfold HexP
   rw [HG.out]
   exact ⟨(h9 _).2.2,⟨_,_,rfl⟩,(h9 _).2.1⟩
theorem inRanges_iff (r : Nat) : ∀ l : List (Nat × Nat),inRanges r l = true ↔ ∃ p ∈ l,p.1 ≤ r ∧ r ≤ p.2
 | [] => by simp [inRanges]
 | p :: l => by
  rw [inRanges,Bool.or_eq_true,Bool.and_eq_true,decide_eq_true_iff,decide_eq_true_iff,inRanges_iff r l]
  simp
def blankI (z : Int) : Prop:=(9 ≤ z ∧ z ≤ 13) ∨ z = 32 ∨ z = 133 ∨ z = 160 ∨ z = 5760 ∨ (8192 ≤ z ∧ z ≤ 8202) ∨ (8232 ≤ z ∧ z ≤ 8233) ∨ z = 8239 ∨ z = 8287 ∨ z = 12288
theorem blankC (w : World) (r : Nat) (hr : r ≤ 1114111) : Calls Tryz.prog 95 #[.int .i32 (r : Int)] w fun e w' => e = .returned (.bool (blankB r)) ∧ Quiet w w':=by
 obtain ⟨z,hz⟩ : ∃ z : Int,(r : Int) = z:=⟨_,rfl⟩
 have hB : blankB r = true ↔ blankI z:=by
  unfold blankB blankI
  rw [inRanges_iff]
  simp only [blanksR,List.mem_cons,List.not_mem_nil,or_false,exists_eq_or_imp,exists_eq_left]
  omega
 have HB:=Lib.hid hB
 clear hB
 have h0 : 0 ≤ z:=by omega
 have h1 : z ≤ 1114111:=by omega
 rw [hz]
 clear hz hr
 go_enter Tryz.func95, Tryz.ntmps95
 go_wp2
 all_goals go_ret
 all_goals refine ⟨?_,Quiet.refl _⟩
 all_goals refine congrArg (fun b => Ending.returned (Value.bool b)) (a₁:=?_) ?_
 all_goals refine Bool.eq_iff_iff.2 (Iff.trans ?_ HB.out.symm)
 all_goals clear HB
 all_goals (try simp only [Bool.or_eq_true,Bool.and_eq_true,beq_iff_eq,beq_eq_false_iff_ne,ne_eq,decide_eq_true_iff,true_iff,false_iff,Bool.false_eq_true] at *)
 all_goals unfold blankI
 all_goals omega
end Go.Proofs.YtchdeboialbdiaaGreatDoor
