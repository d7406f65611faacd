/- Texts joined, one behind the other (SFound, STextF, SRoundH). -/
import Derived.Test.YtchdeboialbdiaaGreatDoorSn39
import Derived.OrdersHeld
import Derived.RegionIn
namespace Go.Proofs.YtchdeboialbdiaaGreatDoor
set_option linter.unusedVariables false
set_option linter.unusedSimpArgs false
set_option maxHeartbeats 8000000
set_option maxRecDepth 100000
open Go.RowKit Go.Shelf
open Go.Lib hiding intOf
attribute [local go_sem] Oper.semAt_some
attribute [local go_sem] Exit.noGoto
theorem PatIs.rows {w W : World} {g : Nat} {l : List UInt8} {fo : Bool} {its : List Itm} (h : PatIs w g l fo its) (hr : ∀ r,r < w.heap.size → W.heap[r]? = w.heap[r]?) (hs : w.heap.size ≤ W.heap.size) : PatIs W g l fo its:=by
 obtain ⟨v,L,B,h1,h2,h3⟩:=h
 refine ⟨v,L,B,row_rows h1 (hr g h1.lt),h2,?_,fun q hq => ?_⟩
 ·obtain ⟨ho,h4⟩:=h3.1
  refine ⟨ho,?_⟩
  rcases h4 with h4 | ⟨b,cap,cur,h5,h6,h7,h8⟩
  ·exact .inl h4
  ·exact .inr ⟨b,cap,cur,h5,h6,(hr b (Array.getElem?_eq_some_iff.1 h7).1).trans h7,h8⟩
 ·rcases h3.2 q hq with h | ⟨h,K,hk,ha,hF⟩
  ·exact .inl h
  ·exact .inr ⟨h,K,hk,ha,hF.keep (fun k hk2 => hr k (hF.1 k hk2)) hs⟩
theorem ReadsTok.rows {w W : World} {a : Option Addr} {n : Nat} {V : List Nat} (h : ReadsTok w a n V) (hr : ∀ r,r < w.heap.size → W.heap[r]? = w.heap[r]?) (hs : w.heap.size ≤ W.heap.size) : ReadsTok W a n V:=by
 obtain ⟨hl,h⟩:=h
 refine ⟨hl,fun hn => ?_⟩
 obtain ⟨b,off,ha,hlt,hc⟩:=h hn
 refine ⟨b,off,ha,Nat.lt_of_lt_of_le hlt hs,fun i v hv => ?_⟩
 obtain ⟨h1,h2⟩:=hc i v hv
 exact ⟨(World.cell?_of_block (a:=⟨b,off + i * 2,none⟩) (hr b hlt)).trans h1,(World.cell?_of_block (a:=⟨b,off + i * 2 + 1,none⟩) (hr b hlt)).trans h2⟩
def FoW (bt bp g : Nat) (lp : List UInt8) (fo : Bool) (its : List Itm) (a : Option Addr) (n c : Nat) (a2 : Option Addr) (c2 : Nat) (V : List Nat) (W : World) : Prop :=
 PatIs W g lp fo its ∧ Row W bt 75 [.slice a n c,.slice a2 (n + 1) c2] ∧ ReadsTok W a n V ∧ Row W bp 33 [.pointer (some ⟨g,0,none⟩)]
def twoV (x : Nat × Nat) : Array Value:=#[.int .i64 (x.1 : Int),.int .i64 (x.2 : Int)]
theorem found1 (m : Nat) (hm : 1 ≤ m) (K : Nat → Prop) (w0 : World) (bt bp g : Nat) (lp : List UInt8) (fo : Bool) (its : List Itm) (a a2 : Option Addr) (n c c2 : Nat) (V : List Nat) (hK : Stays K w0 (FoW bt bp g lp fo its a n c a2 c2 V)) (hV : OkV V) (hn : V.length = n) (hnb : n ≤ 67108000) (hl : its.length ≤ 67108864) :
  SeqC Fence.wide m Tryz.prog 47 #[.pointer (some ⟨bt,0,none⟩),.pointer (some ⟨bp,0,none⟩)] twoV K w0 (fun xs => xs = allGo fo V its n (n + 1) 0) (fun pre => pre <+: allGo fo V its n (n + 1) 0):=by
 intro l0 J Jx W hW hn0 hJ hJx hY h0
 obtain ⟨T,hT⟩ : ∃ T,allGo fo V its n (n + 1) 0 = T:=⟨_,rfl⟩
 rw [hT] at hY ⊢
 have HT:=Lib.hid hT
 obtain ⟨hi,hhi⟩ : ∃ hi,hi = W.heap.size:=⟨_,rfl⟩
 have HN:=Lib.hid hn
 have HOK:=Lib.hid hV
 have HKL : Hid (∀ r,K r → r < W.heap.size):=Lib.hid (fun r hr => by have:=(hW r hr).1; omega)
 have HKW : Hid (∀ lo hi W',KeepsC K lo hi W W' → FoW bt bp g lp fo its a n c a2 c2 V W'):=Lib.hid (fun lo hi W' hk => hK.next (fun r hr => (hW r hr).2) hn0 hk)
 have HJ:=Lib.hid (h0 hi (by omega))
 have HJA:=Lib.hid (hJ hi)
 have HY:=Lib.hid hY
 have HH:=Lib.hid hhi
 clear hY h0 hJ hJx hW hn0 hK hhi hT hn hV
 refine callsIn_of_wp Tryz.func47 rfl trivial ?_ rfl
 simp only [Tryz.ntmps47,List.size_toArray,List.length_cons,List.length_nil,Nat.reduceAdd,Nat.reduceSub,Array.replicate_succ,Array.replicate_zero,List.push_toArray,List.append_toArray,List.nil_append,List.cons_append]
 gi_wp2
 gi_loopw [4] (fun ui wr => ∃ k f : Nat,∃ acc : List (Nat × Nat),ui = .int .i64 (k : Int) ∧ k ≤ n + 1 ∧ n < k + f ∧ Hid (acc ++ allGo fo V its n f k = T ∧ J hi acc wr ∧ KeepsC K W.heap.size hi W wr)) (fun ui _ => n + 1 - (RowKit.intOf ui).toNat)
 case atStart => exact ⟨0,n + 1,[],rfl,Nat.zero_le _,by omega,Lib.hid ⟨HT.out,HJ.out,KeepsC.refl _ _ _ _⟩⟩
 case round =>
  obtain ⟨k,f,acc,rfl,hk,hkf,HR⟩:=hrel
  have hF:=HKW.out _ _ wr HR.out.2.2
  have t0:=hF.2.1.cell 0
  have t1:=hF.2.1.cell 1
  have t2:=hF.2.1.lt
  have p0:=hF.2.2.2.cell 0
  have p1:=hF.2.2.2.lt
  have HF:=Lib.hid hF
  clear hF
  by_cases hlt : k < n + 1
  ·obtain ⟨f,rfl⟩ : ∃ f',f = f' + 1:=⟨f - 1,by omega⟩
   have hki1 : (k : Int) < (n : Int) + 1:=by omega
   have hM:=matchC wr g lp fo its a a2 n c (n + 1) c2 V k HF.out.1 HF.out.2.2.1 HOK.out (by omega) (by omega) hl
   have hT1:=HR.out.1
   cases hlo : longestP fo V its k with
   | none =>
    rw [hlo] at hM
    rw [allGo_none (by omega) hlo] at hT1
    have HM : Hid (Calls Tryz.prog 30 #[.pointer (some ⟨g,0,none⟩),.agg #[.slice a n c,.slice a2 (n + 1) c2],.int .i64 (k : Int)] wr fun e w' => e = .returned (.int .i64 (-1)) ∧ Below wr.heap.size wr w'):=Lib.hid hM
    have HT1:=Lib.hid hT1
    clear hM hT1 hlo
    gi_wp2_with (refine ⟨trivial,?_⟩; gi_at_call 30; refine (callsIn_wide.2 HM.out).mono ?_; rintro e w5 ⟨rfl,hb5⟩; have HB5:=Lib.hid hb5; clear hb5)
    have HNX : Hid (acc ++ allGo fo V its n f (k + 1) = T ∧ J hi acc w5 ∧ KeepsC K W.heap.size hi W w5):=Lib.hid ⟨HT1.out,HJA.out _ _ _ none HR.out.2.1 (below_other HB5.out) (fun r e => by cases e),HR.out.2.2.trans (KeepsC.below HB5.out (fun r hr => Nat.lt_of_lt_of_le (HKL.out r hr) HR.out.2.2.size) (by rw [HH.out]; exact HR.out.2.2.size))⟩
    go_roundw
    case rel => exact ⟨k + 1,f,acc,by go_num,by omega,by omega,HNX⟩
    case measure => simp [RowKit.intOf]; omega
   | some j =>
    rw [hlo] at hM
    rw [allGo_some (by omega) hlo] at hT1
    have hjn : j ≤ n:=by have:=longest_le hlo; have:=HN.out; omega
    have HM : Hid (Calls Tryz.prog 30 #[.pointer (some ⟨g,0,none⟩),.agg #[.slice a n c,.slice a2 (n + 1) c2],.int .i64 (k : Int)] wr fun e w' => e = .returned (.int .i64 (j : Int)) ∧ Below wr.heap.size wr w'):=Lib.hid hM
    have HT1:=Lib.hid hT1
    have hj0 : ¬ (j : Int) < 0:=by omega
    clear hM hT1 hlo
    gi_wp2_with (refine ⟨trivial,?_⟩; gi_at_call 30; refine (callsIn_wide.2 HM.out).mono ?_; rintro e w5 ⟨rfl,hb5⟩; have HB5:=Lib.hid hb5; clear hb5)
    have HPR : Hid (acc ++ [(k,j)] <+: T):=Lib.hid (by rw [← HT1.out]; exact ⟨_,by rw [List.append_assoc]; rfl⟩)
    have HR1 : Hid (J hi acc w5 ∧ KeepsC K W.heap.size hi W w5):=Lib.hid ⟨HJA.out _ _ _ none HR.out.2.1 (below_other HB5.out) (fun r e => by cases e),HR.out.2.2.trans (KeepsC.below HB5.out (fun r hr => Nat.lt_of_lt_of_le (HKL.out r hr) HR.out.2.2.size) (by rw [HH.out]; exact HR.out.2.2.size))⟩
    obtain ⟨fn,tmps,assign,body,hy,hR⟩:=HY.out hi acc (k,j) w5 HR1.out.1 HPR.out (by rw [HH.out]; exact Nat.le_refl _) (by rw [HH.out]; exact HR1.out.2.size)
    have HRD:=Lib.hid hR
    unfold twoV at hy
    dsimp only at hy
    clear hR
    have HMZ : Hid (acc ++ (k,j) :: allGo fo V its n f (max (k + 1) j) = T):=HT1
    have hmz1 : k + 1 ≤ max (k + 1) j:=Nat.le_max_left _ _
    have hmz2 : max (k + 1) j ≤ n + 1:=Nat.max_le.2 ⟨by omega,by omega⟩
    obtain ⟨mz,hmz⟩ : ∃ mz,max (k + 1) j = mz:=⟨_,rfl⟩
    rw [hmz] at HMZ hmz1 hmz2
    have hmx : max (k : Int) ((j : Int) - 1) = (mz : Int) - 1:=by omega
    clear hmz
    gi_wp2
    rw [hy]
    gi_wp2
    refine HRD.out.mono ?_
    clear HRD hy
    rintro e W3 (⟨rfl,hJ3,hk3⟩ | ⟨rfl,hJx3,_⟩)
    ·have HNX : Hid ((acc ++ [(k,j)]) ++ allGo fo V its n f mz = T ∧ J hi (acc ++ [(k,j)]) W3 ∧ KeepsC K W.heap.size hi W W3):=Lib.hid ⟨by rw [← HMZ.out,List.append_assoc]; rfl,hJ3,HR1.out.2.trans hk3⟩
     clear hJ3 hk3
     gi_wp2
     go_roundw
     case rel => exact ⟨mz,f,acc ++ [(k,j)],by go_num,by omega,by omega,HNX⟩
     case measure => simp [RowKit.intOf]; omega
    ·have HX3:=Lib.hid hJx3
     clear hJx3
     gi_wp2
     refine bodyPost_ret (results_none rfl _ _ _) rfl ?_
     exact ⟨⟨_,rfl⟩,hi,by rw [HH.out]; exact Nat.le_refl _,.inr ⟨_,HPR.out,HX3.out⟩⟩
  ·obtain rfl : k = n + 1:=by omega
   have hT1:=HR.out.1
   rw [allGo_end (by omega),List.append_nil] at hT1
   have HT1:=Lib.hid hT1
   have hki1 : ¬ ((n + 1 : Nat) : Int) < ((n + 1 : Nat) : Int):=by omega
   clear hT1
   gi_wp2
   go_end0
   exact ⟨⟨_,rfl⟩,hi,by rw [HH.out]; exact Nat.le_refl _,.inl (by rw [← HT1.out]; exact HR.out.2.1)⟩
end Go.Proofs.YtchdeboialbdiaaGreatDoor
namespace Go.Proofs.YtchdeboialbdiaaGreatDoor
set_option linter.unusedVariables false
set_option linter.unusedSimpArgs false
set_option maxHeartbeats 8000000
set_option maxRecDepth 100000
open Go.RowKit
open Go.Lib hiding intOf
def TextF (w : World) (l : List UInt8) (e : Ending) (w' : World) : Prop :=
 ∃ a c a2 c2,e = .returned (.agg #[.slice a (valsL l).length c,.slice a2 ((valsL l).length + 1) c2]) ∧ ReadsTok w' a (valsL l).length (valsL l) ∧ AtsIn w' a2 (atsL l) ∧ Below w.heap.size w w' ∧ (∀ ad,a = some ad → w.heap.size ≤ ad.block) ∧ (∀ ad,a2 = some ad → w.heap.size ≤ ad.block)
theorem textOfF (w : World) (l : List UInt8) (hm : l.length ≤ 67108864) (hT : Tabs w) :
  Calls Tryz.prog 29 #[.string (bstr l)] w (TextF w l):=by
 have hb0 : Below w.heap.size w (w.alloc (.cells #[.slice none 0 0,.slice none 0 0] 75)):=(Below.refl _ w).alloc (Nat.le_refl _) _
 have hC:=charsC (w.alloc (.cells #[.slice none 0 0,.slice none 0 0] 75)) l hm (hT.below hb0 hT.size)
 have hal:=ats_len l
 have hC2 : Calls Tryz.prog 33 #[.string (bstr l)] (w.alloc (.cells #[.slice none 0 0,.slice none 0 0] 75)) fun e w' => ∃ a c a2 c2,e = .returned (.tuple #[.slice a (valsL l).length c,.slice a2 ((valsL l).length + 1) c2]) ∧ ReadsTok w' a (valsL l).length (valsL l) ∧ AtsIn w' a2 (atsL l) ∧ Below w.heap.size w w' ∧ Row w' w.heap.size 75 [.slice none 0 0,.slice none 0 0] ∧ (∀ ad,a = some ad → w.heap.size + 1 ≤ ad.block) ∧ (∀ ad,a2 = some ad → w.heap.size + 1 ≤ ad.block):=hC.mono (by
  rintro e w' ⟨vl,va,rfl,ht,hi,hb⟩
  obtain ⟨a,c,rfl,r1,r2,r3⟩:=ht.shape
  obtain ⟨a2,c2,rfl,s1,s2⟩:=hi.shape
  rw [World.size_alloc] at r2 s1
  refine ⟨a,c,a2,c2,by rw [hal],r1,?_,hb0.trans (hb.mono hb0.size),?_,fun ad h => by have:=(r2 ad h).1; omega,fun ad h => by have:=(s1 ad h).1; omega⟩
  ·obtain ⟨g,h1,_,h2,h3⟩:=s2 (by omega)
   exact ⟨g,h1,h2,h3⟩
  ·have hr : Row (w.alloc (.cells #[.slice none 0 0,.slice none 0 0] 75)) w.heap.size 75 [.slice none 0 0,.slice none 0 0]:=row_new w [.slice none 0 0,.slice none 0 0] _
   exact hr.keep hb hr.lt)
 have HC:=Lib.hid hC2
 unfold TextF
 generalize hn : (valsL l).length = n at *
 have HN:=Lib.hid hn
 clear hC hC2 hT hb0 hal hn
 go_enter Tryz.func29, Tryz.ntmps29
 go_wp2_with (go_at_call 33; refine (HC.out).mono ?_; rintro e w1 ⟨a,c,a2,c2,rfl,hrt,hai,hb,hro,na1,na2⟩; have r0:=hro.cell 0; have r1:=hro.cell 1; have r2:=hro.frozen 0; have r3:=hro.frozen 1; have r4:=hro.lt; have HRT:=Lib.hid hrt; have HAI:=Lib.hid hai; have HB:=Lib.hid hb; have HRO:=Lib.hid hro; have HNA:=Lib.hid (⟨na1,na2⟩ : _ ∧ _); clear hrt hai hb hro na1 na2)
 have hR:=(HRO.out.set 0 (.slice a n c)).set 1 (.slice a2 (n + 1) c2)
 refine bodyPost_ret (results_cell_row rfl _ _ w.heap.size 75 #[.slice a n c,.slice a2 (n + 1) c2] (0,0) _ rfl hR Tryz.underlying75 rfl (by kernel_rfl)) rfl ?_
 have hg:=grown_then (grownBy_set w1 w.heap.size 0 (.slice a n c)) (grownBy_set (w1.setCell ⟨w.heap.size,0,none⟩ (.slice a n c)) w.heap.size 1 (.slice a2 (n + 1) c2)) (fun j h => .inr h)
 refine ⟨a,c,a2,c2,rfl,HRT.out.grown hg (fun ad h e => by have:=HNA.out.1 ad h; omega),?_,(HB.out.setCell (p:=⟨w.heap.size,0,none⟩) (Nat.le_refl _) _).setCell (p:=⟨w.heap.size,1,none⟩) (Nat.le_refl _) _,fun ad h => by have:=HNA.out.1 ad h; omega,fun ad h => by have:=HNA.out.2 ad h; omega⟩
 obtain ⟨g,h1,h2,h3⟩:=HAI.out
 have hne:=HNA.out.2 _ h1
 have hblk:=hg.block g h2 (fun e => by have:=Option.some.inj e; simp only at hne; omega)
 exact ⟨g,h1,Nat.lt_of_lt_of_le h2 hg.size,fun k x hx => by rw [World.cell?_of_block (a:=⟨g,k,none⟩) hblk]; exact h3 k x hx⟩
end Go.Proofs.YtchdeboialbdiaaGreatDoor
namespace Go.Proofs.YtchdeboialbdiaaGreatDoor
set_option linter.unusedVariables false
set_option linter.unusedSimpArgs false
set_option maxHeartbeats 8000000
set_option maxRecDepth 100000
open Go.RowKit Go.Shelf
section
variable {l n : Nat} {P : Program} {ops : Array Oper} {Q : Exit → Act → World → Prop} {md : Region.Mode} {S : World → Prop}
def noDefer (ops : Array Oper) : Bool:=ops.toList.all fun o => match o.op with | .defer _ => false | _ => true
theorem noDefer_spec (hd : noDefer ops = true) {i : Nat} {o : Oper} (ho : ops[i]? = some o) : ∀ c,o.op ≠ .defer c:=fun c e => by
 have hm : o ∈ ops.toList:=by
  have:=Array.mem_of_getElem? ho
  simpa using this
 have:=List.all_eq_true.1 hd o hm
 rw [e] at this
 cases this
def wpAnyHI (l n : Nat) (P : Program) (md : Region.Mode) (ops : Array Oper) (Q : Exit → Act → World → Prop) (S : World → Prop) : Nat → Array Bool → Act → World → Prop
 | 0,listed,a,w => Region.ready md ops listed = [] ∧ Q .normal a w
 | fuel + 1,listed,a,w =>
  (Region.ready md ops listed = [] → Q .normal a w) ∧
  ∀ i ∈ Region.ready md ops listed,wpOpIn (Fence.wide.inRound l) n P ops Q i (fun a' w' => S w' ∧ wpAnyHI l n P md ops Q S fuel (listed.setIfInBounds i true) a' w') a w
theorem wpOpIn_mono2 {F : Fence} {i : Nat} {K K' : Act → World → Prop} {a : Act} {w : World} (h : ∀ a w,K a w → K' a w) (hh : wpOpIn F n P ops Q i K a w) : wpOpIn F n P ops Q i K' a w:=by
 unfold wpOpIn at *
 cases ho : ops[i]? with
 | none => rw [ho] at hh; exact h _ _ hh
 | some o =>
  rw [ho] at hh
  dsimp only at hh ⊢
  split
  ·rename_i hw; simp only [hw,if_true] at hh; exact Oper.wpIn_mono h hh
  ·rename_i hw; simp only [hw] at hh; exact ⟨hh.1,h _ _ hh.2⟩
theorem wpAnyIn_of_heldI : ∀ (fuel : Nat) (listed : Array Bool) (a : Act) (w : World),wpAnyHI l n P md ops Q S fuel listed a w → wpAnyIn (Fence.wide.inRound l) n P md ops Q fuel listed a w
 | 0,_,_,_,h => h
 | fuel + 1,_,_,_,h => ⟨h.1,fun i hi => wpOpIn_mono2 (fun a' w' h' => wpAnyIn_of_heldI fuel _ a' w' h'.2) (h.2 i hi)⟩
theorem yields_wpOpIn (hd : noDefer ops = true) {i : Nat} {o : Oper} {v : Value} {a : Act} (hi : ops[i]? = some o) (hy : YieldsIf P ops S o v a)
  {K : Act → World → Prop} {w : World} (hS : S w) (h : K (a.put o.dst v) w) : wpOpIn (Fence.wide.inRound l) n P ops Q i K a w:=by
 unfold wpOpIn
 simp only [hi]
 rcases hy with ⟨hw,hv⟩ | ⟨hw,rfl⟩
 ·simp only [hw,if_true]
  refine ⟨fun _ _ => trivial,?_⟩
  show o.uponIn _ _ _ _ _ _ ((Oper.semAt (some l) a.eval o).run P w)
  rw [Oper.semAt_some l _ _ (noDefer_spec hd hi),hv w hS]
  exact h
 ·simp only [hw,Bool.false_eq_true,if_false]; exact ⟨fun _ _ => trivial,h⟩
theorem wpOpIn_putIf (hd : noDefer ops = true) {j : Nat} {oi oj : Oper} {v : Value} (hj : ops[j]? = some oj) (hap : oi.apart ops oj = true)
  (hsi : ∀ cs b,oi.op ≠ .select cs b) (hsj : ∀ cs b,oj.op ≠ .select cs b)
  (hQ : ∀ c a w,Q (.panic c) (a.put oi.dst v) w → Q (.panic c) a w) {K : Act → World → Prop} {a : Act} {w : World}
  (hy : YieldsIf P ops S oi v a) (h : wpOpIn (Fence.wide.inRound l) n P ops Q j K (a.put oi.dst v) w) :
  wpOpIn (Fence.wide.inRound l) n P ops Q j (fun a' w' => YieldsIf P ops S oi v a' ∧ K (a'.put oi.dst v) w') a w:=by
 obtain ⟨h1,h2,h3⟩:=Oper.apart_spec hap
 have keep : ∀ (a : Act),YieldsIf P ops S oi v a → ∀ u,YieldsIf P ops S oi v (a.put oj.dst u):=fun a hy u =>
  hy.of_same (execOp_put oi hsi a oj.dst u h3) (wanted_put oi a oj.dst u h3)
 have keepD : ∀ d,YieldsIf P ops S oi v { a with defers:=d :: a.defers }:=fun d => hy.of_same rfl rfl
 have hnd:=noDefer_spec hd hj
 unfold wpOpIn at *
 simp only [hj] at *
 rw [wanted_put oj a oi.dst v h1] at h
 split
 ·rename_i hw
  simp only [hw,if_true] at h
  refine ⟨fun _ _ => trivial,?_⟩
  have h:=h.2
  have hs : ∀ b : Act,(oj.semAt (Fence.wide.inRound l).round b.eval) = execOp b.eval oj:=fun b => Oper.semAt_some l _ _ hnd
  rw [hs] at h ⊢
  rw [execOp_put oj hsj a oi.dst v h1] at h
  generalize (execOp a.eval oj).run P w = r at *
  cases r with
  | ok n w' =>
   cases n <;> simp only [Oper.uponIn] at h ⊢
   case value u => exact ⟨keep a hy u,by rw [← Act.put_comm a v u h2]; exact h⟩
   case skip => exact ⟨keep a hy _,by rw [← Act.put_comm a v undef h2]; exact h⟩
   case defer d =>
    refine ⟨keep _ (keepD d) _,?_⟩
    rw [← Act.put_comm _ v undef h2,← Act.put_defers]
    exact h
   case enter f args =>
    refine ⟨h.1,CallsIn.mono h.2 fun e w'' he => ?_⟩
    cases e with
    | returned u => exact ⟨keep a hy u,by rw [← Act.put_comm a v u h2]; exact he⟩
    | panicked c => exact hQ _ _ _ he
    | outgrown => exact he
   case row row args => exact ⟨h.1,RowsIn.mono h.2 fun u w'' he => ⟨keep a hy u,by rw [← Act.put_comm a v u h2]; exact he⟩⟩
   case round =>
    refine ⟨h.1,RoundIn.mono h.2 fun e w'' he => ?_⟩
    cases e with
    | returned u => exact ⟨keep a hy u,by rw [← Act.put_comm a v u h2]; exact he⟩
    | panicked c => exact hQ _ _ _ he
    | outgrown => exact he
  | halt x w' =>
   cases x <;> simp only [Oper.uponIn] at h ⊢
   case panic u => exact hQ _ _ _ h
 ·rename_i hw
  simp only [hw] at h
  exact ⟨fun _ _ => trivial,keep a hy _,by rw [← Act.put_comm a v undef h2]; exact h.2⟩
theorem wpAnyHI_first (hd : noDefer ops = true) {i : Nat} {oi : Oper} {v : Value} (hi : ops[i]? = some oi) (hsel : ∀ (j : Nat) (o : Oper) cs b,ops[j]? = some o → o.op ≠ .select cs b)
  (hQ : ∀ c a w,Q (.panic c) (a.put oi.dst v) w → Q (.panic c) a w) :
  ∀ (fuel : Nat) (listed : Array Bool) (a : Act) (w : World),
   (∀ j oj,ops[j]? = some oj → j ≠ i → listed.getD j true = false → (∀ e ∈ oj.after,Region.binds md e = true → e.on ≠ i) → oi.apart ops oj = true) →
   i ∈ Region.ready md ops listed → YieldsIf P ops S oi v a → S w →
   wpAnyHI l n P md ops Q S fuel (listed.setIfInBounds i true) (a.put oi.dst v) w → wpAnyHI l n P md ops Q S (fuel + 1) listed a w:=by
 intro fuel
 induction fuel with
 | zero =>
  intro listed a w _ hr hy hS H
  refine ⟨fun h => (by rw [h] at hr; cases hr),fun j hj => ?_⟩
  by_cases hji : j = i
  ·subst hji; exact yields_wpOpIn hd hi hy hS ⟨hS,H⟩
  ·have:=ready_mono hj hji
   rw [H.1] at this
   cases this
 | succ fuel ih =>
  intro listed a w hfree hr hy hS H
  refine ⟨fun h => (by rw [h] at hr; cases hr),fun j hj => ?_⟩
  by_cases hji : j = i
  ·subst hji; exact yields_wpOpIn hd hi hy hS ⟨hS,H⟩
  ·have h1:=H.2 j (ready_mono hj hji)
   obtain ⟨hjun,oj,hoj,hall⟩:=mem_ready.1 hj
   have hnot : ∀ e ∈ oj.after,Region.binds md e = true → e.on ≠ i:=fun e he hb heq => by
    have h1:=hall e he hb
    have h0:=(mem_ready.1 hr).1
    rw [heq] at h1
    rcases Nat.lt_or_ge i listed.size with h' | h'
    ·simp [h'] at h0 h1; rw [h0] at h1; cases h1
    ·simp [Array.getElem?_eq_none h'] at h1
   have h2:=wpOpIn_putIf hd hoj (hfree j oj hoj hji hjun hnot) (fun cs b => hsel i oi cs b hi) (fun cs b => hsel j oj cs b hoj) hQ hy h1
   have hfree' : ∀ k ok,ops[k]? = some ok → k ≠ i → (listed.setIfInBounds j true).getD k true = false →
     (∀ e ∈ ok.after,Region.binds md e = true → e.on ≠ i) → oi.apart ops ok = true:=fun k ok hk hki hun hno => by
    refine hfree k ok hk hki ?_ hno
    by_cases hjk : j = k
    ·subst hjk; exact hjun
    ·rw [getD_set_ne true hjk] at hun; exact hun
   refine wpOpIn_mono2 (fun a' w' h3 => ⟨h3.2.1,ih (listed.setIfInBounds j true) a' w' hfree' (ready_mono hr (Ne.symm hji)) h3.1 h3.2.1 ?_⟩) h2
   rw [Array.setIfInBounds_comm _ _ hji]
   exact h3.2.2
theorem tkI {i : Nat} {oi : Oper} {v : Value} {fuel : Nat} {listed : Array Bool} {a : Act} {w : World} (hi : ops[i]? = some oi)
  (hy : ∀ w,S w → (execOp a.eval oi).run P w = .ok (.value v) w) (hS : S w)
  (h : wpAnyHI l n P md ops Q S fuel (listed.setIfInBounds i true) (a.put oi.dst v) w) (hd : noDefer ops = true:=by kernel_rfl)
  (hs : Region.noSelect ops = true:=by kernel_rfl) (hf : Region.free md ops listed i = true:=by kernel_rfl) (hr : (Region.ready md ops listed).contains i = true:=by kernel_rfl)
  (hw : Region.wanted oi (yielded ops a.tmps) = true:=by kernel_rfl) (hQ : ∀ c a w,Q (.panic c) (a.put oi.dst v) w → Q (.panic c) a w:=by exact fun _ _ _ h => h) : wpAnyHI l n P md ops Q S (fuel + 1) listed a w :=
 wpAnyHI_first hd hi (Region.noSelect_spec hs) hQ fuel listed a w (Region.free_spec hi hf) (by simpa using hr) (Or.inl ⟨hw,hy⟩) hS h
theorem oneI {i : Nat} {oi : Oper} {fuel : Nat} {listed : Array Bool} {a : Act} {w : World} {r : Result Next} (hi : ops[i]? = some oi) (hr : Region.ready md ops listed = [i]) (hd : noDefer ops = true)
  (hw : Region.wanted oi (yielded ops a.tmps) = true) (hx : (execOp a.eval oi).run P w = r)
  (h : oi.uponIn (Fence.wide.inRound l) n P a (fun a' w' => S w' ∧ wpAnyHI l n P md ops Q S fuel (listed.setIfInBounds i true) a' w') Q r) : wpAnyHI l n P md ops Q S (fuel + 1) listed a w:=by
 refine ⟨fun h0 => (by rw [hr] at h0; cases h0),fun k hk => ?_⟩
 rw [hr,List.mem_singleton] at hk
 subst hk
 unfold wpOpIn
 simp only [hi,hw,if_true]
 refine ⟨fun _ _ => trivial,?_⟩
 show oi.uponIn _ _ _ _ _ _ ((Oper.semAt (some l) a.eval oi).run P w)
 rw [Oper.semAt_some l _ _ (noDefer_spec hd hi),hx]
 exact h
theorem doneI {listed : Array Bool} {a : Act} {w : World} (hr : Region.ready md ops listed = []) (h : Q .normal a w) :
  ∀ fuel,wpAnyHI l n P md ops Q S fuel listed a w
 | 0 => ⟨hr,h⟩
 | _ + 1 => ⟨fun _ => h,by rw [hr]; simp⟩
theorem wpIn_round_heldI {id : Nat} {a : Act} {w : World} (hm : P.follows .mixedOrders = true)
  (h : wpAnyHI l n P .any ops Q S ops.size (Array.replicate ops.size false) a w.drew) : (Code.region id ops true).wpIn (Fence.wide.inRound l) n P Q a w :=
 wpIn_region_any hm (wpAnyIn_of_heldI _ _ _ _ h)
end
end Go.Proofs.YtchdeboialbdiaaGreatDoor
