/- Texts joined, one behind the other (SEdge, SekL, SPut). -/
import Derived.Test.YtchdeboialbdiaaGreatDoorSn16
namespace Go.Proofs.YtchdeboialbdiaaGreatDoor
set_option linter.unusedVariables false
set_option linter.unusedSimpArgs false
set_option maxHeartbeats 8000000
set_option maxRecDepth 100000
open Go.RowKit
open Go.Lib hiding intOf
theorem endsAt_some {V : List Nat} {i v : Nat} (h : V[i]? = some v) : endsAt V i = (decide (v < wrongN) && endsB v):=by unfold endsAt; rw [h]
theorem read_off {w : World} {b off n i v : Nat} {V : List Nat} (h : ReadsTok w (some ⟨b,off,none⟩) n V) (hv : V[i]? = some v) : b < w.heap.size ∧ w.cell? ⟨b,off + i * 2,none⟩ = some (.int .i32 (tokR v : Int)) ∧ w.cell? ⟨b,off + i * 2 + 1,none⟩ = some (.int .i64 (tokW v : Int)):=by
 obtain ⟨hl,h⟩:=h
 obtain ⟨b',off',ha,hlt,hc⟩:=h (by have:=lt_of_some hv; omega)
 cases ha
 exact ⟨hlt,hc i v hv⟩
section
set_option maxHeartbeats 4000000
set_option maxRecDepth 100000
variable (w : World) (n c : Nat)
theorem edge_first (a a2 : Option Addr) (n2 c2 : Nat) : Calls Tryz.prog 69 #[.agg #[.slice a n c,.slice a2 n2 c2],.int .u8 94,.int .i64 0] w fun e w' => e = .returned (.bool true) ∧ Below w.heap.size w w':=by
 go_enter Tryz.func69, Tryz.ntmps69
 go_wp2_with fail
 go_ret
 exact ⟨rfl,((Below.refl _ w).alloc (Nat.le_refl _) _)⟩
theorem edge_last (i : Nat) (a a2 : Option Addr) (n2 c2 : Nat) (h : i = n) : Calls Tryz.prog 69 #[.agg #[.slice a n c,.slice a2 n2 c2],.int .u8 36,.int .i64 (i : Int)] w fun e w' => e = .returned (.bool true) ∧ Below w.heap.size w w':=by
 have h1 : ((i : Int) == (n : Int)) = true:=by rw [beq_iff_eq]; omega
 subst h
 go_enter Tryz.func69, Tryz.ntmps69
 go_wp2_with fail
 go_ret
 exact ⟨rfl,((Below.refl _ w).alloc (Nat.le_refl _) _)⟩
theorem edge_begin (V : List Nat) (i : Nat) (hn : n ≤ 67108864) (b off n2 c2 j v : Nat) (a2 : Option Addr) (hj : i = j + 1) (hin : i ≤ n) (hr : ReadsTok w (some ⟨b,off,none⟩) n V) (hV : OkV V) (hv : V[j]? = some v) : Calls Tryz.prog 69 #[.agg #[.slice (some ⟨b,off,none⟩) n c,.slice a2 n2 c2],.int .u8 94,.int .i64 (i : Int)] w fun e w' => e = .returned (.bool (decide (v < wrongN) && endsB v && !(decide (v = 13) && decide (i < n) && decide (V[i]? = some 10)))) ∧ Below w.heap.size w w':=by
 obtain ⟨hb,r0,r1⟩:=read_off hr hv
 have hVn:=hr.1
 have hok:=hV v (List.mem_of_getElem? hv)
 have hlt:=lt_of_some hv
 have hi0 : ((i : Int) == 0) = false:=by rw [beq_eq_false_iff_ne]; omega
 have hi1 : (i : Int) - 1 = (j : Int):=by omega
 have hi2 : IntKind.i64.wrap ((i : Int) - 1) = (j : Int):=by rw [hi1]; exact IntWalk.i64_in _ (by omega)
 have hj1 : (j : Int) < (n : Int):=by omega
 by_cases hw : v < wrongN
 ·rw [decide_eq_true hw,Bool.true_and]
  have e1 : ((tokR v : Nat) : Int) = (v : Int):=by unfold tokR; rw [if_pos hw]
  have e2 : ((tokW v : Nat) : Int) = 0:=by unfold tokW; rw [if_pos hw]; rfl
  rw [e1] at r0
  rw [e2] at r1
  have HE:=Lib.hid (fun w' => endsC w' v)
  have hvo : ((v : Int) == 13) = decide (v = 13):=by rw [Bool.eq_iff_iff,beq_iff_eq,decide_eq_true_iff]; omega
  obtain ⟨eb,heb⟩ : ∃ eb,endsB v = eb:=⟨_,rfl⟩
  rw [heb] at HE ⊢
  cases eb with
  | false =>
   rw [Bool.false_and]
   clear e1 e2 heb hvo hw
   obtain ⟨z,hz⟩ : ∃ z : Int,(v : Int) = z:=⟨_,rfl⟩
   rw [hz] at r0 HE
   clear hok hv hr hV hVn hlt hz
   go_enter Tryz.func69, Tryz.ntmps69
   go_wp2_with (go_at_call 50; refine (HE.out _).mono ?_; rintro e w' ⟨rfl,rfl⟩)
   go_ret
   exact ⟨rfl,(((Below.refl _ w).alloc (Nat.le_refl _) _).alloc (by simp) _)⟩
  | true =>
   rw [Bool.true_and]
   by_cases ho : v = 13
   ·rw [decide_eq_true ho] at hvo ⊢
    rw [Bool.true_and]
    by_cases hs : i < n
    ·rw [decide_eq_true hs,Bool.true_and]
     obtain ⟨u,hu⟩ : ∃ u,V[i]? = some u:=⟨_,List.getElem?_eq_getElem (by omega)⟩
     obtain ⟨_,s0,s1⟩:=read_off hr hu
     have hq : ∀ w',(binOp .eql 91 (.agg #[.int .i32 (tokR u : Int),.int .i64 (tokW u : Int)]) (.agg #[.int .i32 10,.int .i64 0])).run Tryz.prog w' = .ok (.bool (decide (u = 10))) w':=fun w' => by
      rw [tokQl]
      exact congrArg (fun b => Result.ok (Value.bool b) w') (tok_eq (by have:=hV u (List.mem_of_getElem? hu); unfold OkC; omega) (u:=10) (.inl (by decide)))
     have hd : decide (V[i]? = some 10) = decide (u = 10):=by rw [hu,decide_eq_decide,Option.some.injEq]
     rw [hd]
     have hs1 : (i : Int) < (n : Int):=by omega
     have hi3 : True:=trivial
     have hi4 : True:=trivial
     have hi5 : (j : Int) < (n : Int):=by omega
     subst ho
     generalize decide (u = 10) = ub at *
     clear e1 e2 heb hw hok hv hr hV hVn hlt hu hd hj hs hi1
     go_enter Tryz.func69, Tryz.ntmps69
     go_wp2_with (go_at_call 50; refine (HE.out _).mono ?_; rintro e w' ⟨rfl,rfl⟩)
     go_ret
     exact ⟨rfl,(((Below.refl _ w).alloc (Nat.le_refl _) _).alloc (by simp) _)⟩
    ·rw [decide_eq_false hs,Bool.false_and]
     have hs1 : ¬ (i : Int) < (n : Int):=by omega
     have hs2 : (n : Int) ≤ (i : Int):=by omega
     have hs3 : decide (i < n) = false:=decide_eq_false (by omega)
     have hs4 : decide ((i : Int) < (n : Int)) = false:=decide_eq_false (by omega)
     subst ho
     clear e1 e2 heb hw hok hv hr hV hVn hlt
     go_enter Tryz.func69, Tryz.ntmps69
     go_wp2_with (go_at_call 50; refine (HE.out _).mono ?_; rintro e w' ⟨rfl,rfl⟩)
     go_ret
     exact ⟨rfl,(((Below.refl _ w).alloc (Nat.le_refl _) _).alloc (by simp) _)⟩
   ·rw [decide_eq_false ho] at hvo ⊢
    rw [Bool.false_and,Bool.false_and]
    clear e1 e2 heb hw
    obtain ⟨z,hz⟩ : ∃ z : Int,(v : Int) = z:=⟨_,rfl⟩
    rw [hz] at r0 HE hvo
    clear hok hv hr hV hVn hlt hz ho
    go_enter Tryz.func69, Tryz.ntmps69
    go_wp2_with (go_at_call 50; refine (HE.out _).mono ?_; rintro e w' ⟨rfl,rfl⟩)
    go_ret
    exact ⟨rfl,(((Below.refl _ w).alloc (Nat.le_refl _) _).alloc (by simp) _)⟩
 ·rw [decide_eq_false hw,Bool.false_and,Bool.false_and]
  have e2 : (((tokW v : Nat) : Int) == 0) = false:=by
   rw [beq_eq_false_iff_ne]
   unfold tokW
   rw [if_neg hw]
   omega
  generalize ((tokR v : Nat) : Int) = z1 at *
  generalize ((tokW v : Nat) : Int) = z2 at *
  clear hok hv hr hV hVn hlt hw
  go_enter Tryz.func69, Tryz.ntmps69
  go_wp2_with fail
  go_ret
  exact ⟨rfl,(((Below.refl _ w).alloc (Nat.le_refl _) _).alloc (by simp) _)⟩
theorem edge_end (V : List Nat) (i : Nat) (hn : n ≤ 67108864) (b off n2 c2 j v : Nat) (a2 : Option Addr) (hj : j = i - 1) (hin : i < n) (hr : ReadsTok w (some ⟨b,off,none⟩) n V) (hV : OkV V) (hv : V[i]? = some v) : Calls Tryz.prog 69 #[.agg #[.slice (some ⟨b,off,none⟩) n c,.slice a2 n2 c2],.int .u8 36,.int .i64 (i : Int)] w fun e w' => e = .returned (.bool (decide (v < wrongN) && endsB v && !(decide (v = 10) && decide (0 < i) && decide (V[j]? = some 13)))) ∧ Below w.heap.size w w':=by
 obtain ⟨hb,r0,r1⟩:=read_off hr hv
 have hVn:=hr.1
 have hok:=hV v (List.mem_of_getElem? hv)
 have hlt:=lt_of_some hv
 have hi0 : ((i : Int) == (n : Int)) = false:=by rw [beq_eq_false_iff_ne]; omega
 have hj1 : (i : Int) < (n : Int):=by omega
 by_cases hw : v < wrongN
 ·rw [decide_eq_true hw,Bool.true_and]
  have e1 : ((tokR v : Nat) : Int) = (v : Int):=by unfold tokR; rw [if_pos hw]
  have e2 : ((tokW v : Nat) : Int) = 0:=by unfold tokW; rw [if_pos hw]; rfl
  rw [e1] at r0
  rw [e2] at r1
  have HE:=Lib.hid (fun w' => endsC w' v)
  have hvo : ((v : Int) == 10) = decide (v = 10):=by rw [Bool.eq_iff_iff,beq_iff_eq,decide_eq_true_iff]; omega
  obtain ⟨eb,heb⟩ : ∃ eb,endsB v = eb:=⟨_,rfl⟩
  rw [heb] at HE ⊢
  cases eb with
  | false =>
   rw [Bool.false_and]
   clear e1 e2 heb hvo hw
   obtain ⟨z,hz⟩ : ∃ z : Int,(v : Int) = z:=⟨_,rfl⟩
   rw [hz] at r0 HE
   clear hok hv hr hV hVn hlt hz
   go_enter Tryz.func69, Tryz.ntmps69
   go_wp2_with (go_at_call 50; refine (HE.out _).mono ?_; rintro e w' ⟨rfl,rfl⟩)
   go_ret
   exact ⟨rfl,(((Below.refl _ w).alloc (Nat.le_refl _) _).alloc (by simp) _)⟩
  | true =>
   rw [Bool.true_and]
   by_cases ho : v = 10
   ·rw [decide_eq_true ho] at hvo ⊢
    rw [Bool.true_and]
    by_cases hs : 0 < i
    ·rw [decide_eq_true hs,Bool.true_and]
     obtain ⟨u,hu⟩ : ∃ u,V[j]? = some u:=⟨_,List.getElem?_eq_getElem (by omega)⟩
     obtain ⟨_,s0,s1⟩:=read_off hr hu
     have hq : ∀ w',(binOp .eql 91 (.agg #[.int .i32 (tokR u : Int),.int .i64 (tokW u : Int)]) (.agg #[.int .i32 13,.int .i64 0])).run Tryz.prog w' = .ok (.bool (decide (u = 13))) w':=fun w' => by
      rw [tokQl]
      exact congrArg (fun b => Result.ok (Value.bool b) w') (tok_eq (by have:=hV u (List.mem_of_getElem? hu); unfold OkC; omega) (u:=13) (.inl (by decide)))
     have hd : decide (V[j]? = some 13) = decide (u = 13):=by rw [hu,decide_eq_decide,Option.some.injEq]
     rw [hd]
     have hs1 : (0 : Int) < (i : Int):=by omega
     have hi3 : IntKind.i64.wrap ((i : Int) - 1) = (j : Int):=by rw [show (i : Int) - 1 = (j : Int) by omega]; exact IntWalk.i64_in _ (by omega)
     have hi4 : (i : Int) - 1 = (j : Int):=by omega
     have hi5 : (j : Int) < (n : Int):=by omega
     subst ho
     generalize decide (u = 13) = ub at *
     clear e1 e2 heb hw hok hv hr hV hVn hlt hu hd hj hs hi4
     go_enter Tryz.func69, Tryz.ntmps69
     go_wp2_with (go_at_call 50; refine (HE.out _).mono ?_; rintro e w' ⟨rfl,rfl⟩)
     go_ret
     exact ⟨rfl,(((Below.refl _ w).alloc (Nat.le_refl _) _).alloc (by simp) _)⟩
    ·rw [decide_eq_false hs,Bool.false_and]
     have hs1 : ¬ (0 : Int) < (i : Int):=by omega
     have hs2 : (i : Int) ≤ 0:=by omega
     have hs3 : decide (0 < i) = false:=decide_eq_false (by omega)
     have hs4 : decide ((0 : Int) < (i : Int)) = false:=decide_eq_false (by omega)
     subst ho
     clear e1 e2 heb hw hok hv hr hV hVn hlt
     go_enter Tryz.func69, Tryz.ntmps69
     go_wp2_with (go_at_call 50; refine (HE.out _).mono ?_; rintro e w' ⟨rfl,rfl⟩)
     go_ret
     exact ⟨rfl,(((Below.refl _ w).alloc (Nat.le_refl _) _).alloc (by simp) _)⟩
   ·rw [decide_eq_false ho] at hvo ⊢
    rw [Bool.false_and,Bool.false_and]
    clear e1 e2 heb hw
    obtain ⟨z,hz⟩ : ∃ z : Int,(v : Int) = z:=⟨_,rfl⟩
    rw [hz] at r0 HE hvo
    clear hok hv hr hV hVn hlt hz ho
    go_enter Tryz.func69, Tryz.ntmps69
    go_wp2_with (go_at_call 50; refine (HE.out _).mono ?_; rintro e w' ⟨rfl,rfl⟩)
    go_ret
    exact ⟨rfl,(((Below.refl _ w).alloc (Nat.le_refl _) _).alloc (by simp) _)⟩
 ·rw [decide_eq_false hw,Bool.false_and,Bool.false_and]
  have e2 : (((tokW v : Nat) : Int) == 0) = false:=by
   rw [beq_eq_false_iff_ne]
   unfold tokW
   rw [if_neg hw]
   omega
  generalize ((tokR v : Nat) : Int) = z1 at *
  generalize ((tokW v : Nat) : Int) = z2 at *
  clear hok hv hr hV hVn hlt hw
  go_enter Tryz.func69, Tryz.ntmps69
  go_wp2_with fail
  go_ret
  exact ⟨rfl,(((Below.refl _ w).alloc (Nat.le_refl _) _).alloc (by simp) _)⟩
end
theorem edgeC (w : World) (a a2 : Option Addr) (n c n2 c2 : Nat) (V : List Nat) (what i : Nat) (hw : what = 94 ∨ what = 36) (hr : ReadsTok w a n V) (hV : OkV V) (hi : i ≤ n) (hn : n ≤ 67108864) : Calls Tryz.prog 69 #[.agg #[.slice a n c,.slice a2 n2 c2],.int .u8 (what : Int),.int .i64 (i : Int)] w fun e w' => e = .returned (.bool (holdsP V what i)) ∧ Below w.heap.size w w':=by
 have hVn:=hr.1
 rcases hw with rfl | rfl
 ·by_cases h0 : i = 0
  ·subst h0
   have : holdsP V 94 0 = true:=rfl
   rw [this]
   exact edge_first w n c a a2 n2 c2
  ·obtain ⟨v,hv⟩ : ∃ v,V[i - 1]? = some v:=⟨_,List.getElem?_eq_getElem (by omega)⟩
   obtain ⟨b,off,rfl,_⟩:=hr.2 (by omega)
   have h:=edge_begin w n c V i hn b off n2 c2 (i - 1) v a2 (by omega) hi hr hV hv
   have e : holdsP V 94 i = (decide (v < wrongN) && endsB v && !(decide (v = 13) && decide (i < n) && decide (V[i]? = some 10))):=by
    show (decide (i = 0) || (endsAt V (i - 1) && !(decide (V[i - 1]? = some 13) && decide (V[i]? = some 10)))) = _
    rw [decide_eq_false h0,Bool.false_or,endsAt_some hv,hv]
    have e1 : decide (some v = some 13) = decide (v = 13):=by rw [decide_eq_decide,Option.some.injEq]
    rw [e1]
    by_cases hin : i < n
    ·rw [decide_eq_true hin,Bool.and_true]
    ·rw [decide_eq_false hin,Bool.and_false,Bool.false_and,List.getElem?_eq_none (by omega)]
     simp
   rw [e]
   exact h
 ·by_cases h0 : i = n
  ·have : holdsP V 36 i = true:=by
    show (decide (V.length ≤ i) || _) = true
    rw [decide_eq_true (by omega)]
    rfl
   rw [this]
   exact edge_last w n c i a a2 n2 c2 h0
  ·obtain ⟨v,hv⟩ : ∃ v,V[i]? = some v:=⟨_,List.getElem?_eq_getElem (by omega)⟩
   obtain ⟨b,off,rfl,_⟩:=hr.2 (by omega)
   have h:=edge_end w n c V i hn b off n2 c2 (i - 1) v a2 rfl (by omega) hr hV hv
   have e : holdsP V 36 i = (decide (v < wrongN) && endsB v && !(decide (v = 10) && decide (0 < i) && decide (V[i - 1]? = some 13))):=by
    show (decide (V.length ≤ i) || (endsAt V i && !(decide (V[i]? = some 10) && decide (0 < i) && decide (V[i - 1]? = some 13)))) = _
    rw [decide_eq_false (by omega),Bool.false_or,endsAt_some hv,hv]
    have e1 : decide (some v = some 10) = decide (v = 10):=by rw [decide_eq_decide,Option.some.injEq]
    rw [e1]
   rw [e]
   exact h
end Go.Proofs.YtchdeboialbdiaaGreatDoor
namespace Go.Proofs.YtchdeboialbdiaaGreatDoor
set_option linter.unusedVariables false
set_option linter.unusedSimpArgs false
set_option maxHeartbeats 8000000
set_option maxRecDepth 100000
open Go.Lib hiding intOf
def Rising (L : List Nat) : Prop:=L.Pairwise (· < ·)
def putL (L : List Nat) (i : Nat) : List Nat:=match L.getLast? with
 | none => [i]
 | some x => if x < i then L ++ [i] else L
theorem last_most {L : List Nat} (h : Rising L) {x : Nat} (hx : L.getLast? = some x) : ∀ y ∈ L,y ≤ x:=by
 obtain ⟨M,rfl⟩:=List.getLast?_eq_some_iff.1 hx
 intro y hy
 rcases List.mem_append.1 hy with h1 | h1
 ·have:=(List.pairwise_append.1 h).2.2 y h1 x (List.mem_singleton.2 rfl)
  omega
 ·rw [List.mem_singleton] at h1
  omega
theorem putL_mem {L : List Nat} {i : Nat} (h : Rising L) (hi : (∀ x ∈ L,x ≤ i) ∨ i ∈ L) : Rising (putL L i) ∧ ∀ j,j ∈ putL L i ↔ j ∈ L ∨ j = i:=by
 unfold putL
 cases hl : L.getLast? with
 | none =>
  obtain rfl : L = []:=List.getLast?_eq_none_iff.1 hl
  exact ⟨List.pairwise_singleton ..,fun j => by simp⟩
 | some x =>
  have hm:=last_most h hl
  dsimp only
  by_cases hx : x < i
  ·rw [if_pos hx]
   refine ⟨List.pairwise_append.2 ⟨h,List.pairwise_singleton ..,fun a ha b hb => ?_⟩,fun j => by simp⟩
   rw [List.mem_singleton] at hb
   have:=hm a ha
   omega
  ·rw [if_neg hx]
   refine ⟨h,fun j => ⟨.inl,?_⟩⟩
   rintro (h1 | rfl)
   ·exact h1
   ·rcases hi with h2 | h2
    ·have hxL : x ∈ L:=List.mem_of_getLast? hl
     have:=h2 x hxL
     obtain rfl : x = j:=by omega
     exact hxL
    ·exact h2
section
variable (at_ : Nat → Bool) (zero many : Bool)
def Reach (i j : Nat) : Prop:=(j = i ∧ zero = true) ∨ (i < j ∧ (many = true ∨ j = i + 1) ∧ ∀ t,i ≤ t → t < j → at_ t = true)
structure InvL (S L : List Nat) (R : Nat) : Prop where
 rise : Rising L
 mem : ∀ j,j ∈ L ↔ ∃ i ∈ S,Reach at_ zero many i j
 run : R = 0 ∨ (many = true ∧ (∃ s ∈ S,s < R ∧ ∀ t,s ≤ t → t < R → at_ t = true) ∧ at_ R = false)
 most : ∀ x ∈ L,x ≤ R ∨ ∃ i ∈ S,x ≤ i + (if many = true then 0 else 1)
theorem InvL.nil : InvL at_ zero many [] [] 0:=⟨List.Pairwise.nil,fun j => by simp,.inl rfl,fun x h => by cases h⟩
variable {at_ zero many}
theorem put_zero {S L : List Nat} {R i : Nat} (h : InvL at_ zero many S L R) (hS : ∀ s ∈ S,s < i) : (∀ x ∈ L,x ≤ i) ∨ i ∈ L:=by
 by_cases hR : i < R
 ·right
  rcases h.run with h0 | ⟨hm,⟨s,hs,hsR,hat⟩,_⟩
  ·omega
  ·have:=hS s hs
   exact (h.mem i).2 ⟨s,hs,.inr ⟨this,.inl hm,fun t h1 h2 => hat t h1 (by omega)⟩⟩
 ·left
  intro x hx
  rcases h.most x hx with h1 | ⟨i',hi',h1⟩
  ·omega
  ·have:=hS i' hi'
   split at h1 <;> omega
theorem step_few {S L L1 L2 : List Nat} {i : Nat} (h : InvL at_ zero false S L 0) (hS : ∀ s ∈ S,s < i) (h1 : L1 = if zero = true then putL L i else L) (h2 : L2 = if at_ i = true then putL L1 (i + 1) else L1) : InvL at_ zero false (S ++ [i]) L2 0:=by
 have hp:=put_zero h hS
 have m1 : Rising L1 ∧ (∀ j,j ∈ L1 ↔ j ∈ L ∨ (j = i ∧ zero = true)):=by
  subst h1
  by_cases hz : zero = true
  ·rw [if_pos hz]
   have:=putL_mem h.rise hp
   exact ⟨this.1,fun j => by rw [this.2 j]; simp [hz]⟩
  ·rw [if_neg hz]
   exact ⟨h.rise,fun j => by simp [hz]⟩
 have all1 : ∀ x ∈ L1,x ≤ i + 1:=by
  intro x hx
  rcases (m1.2 x).1 hx with h3 | h3
  ·rcases h.most x h3 with h4 | ⟨i',hi',h4⟩
   ·omega
   ·have:=hS i' hi'
    rw [if_neg (by decide)] at h4
    omega
  ·omega
 have m2 : Rising L2 ∧ (∀ j,j ∈ L2 ↔ j ∈ L1 ∨ (j = i + 1 ∧ at_ i = true)):=by
  subst h2
  by_cases hz : at_ i = true
  ·rw [if_pos hz]
   have:=putL_mem m1.1 (.inl all1)
   exact ⟨this.1,fun j => by rw [this.2 j]; simp [hz]⟩
  ·rw [if_neg hz]
   exact ⟨m1.1,fun j => by simp [hz]⟩
 refine ⟨m2.1,fun j => ?_,.inl rfl,fun x hx => ?_⟩
 ·rw [m2.2,m1.2,h.mem]
  constructor
  ·rintro ((⟨i',hi',hr⟩ | h3) | h3)
   ·exact ⟨i',List.mem_append_left _ hi',hr⟩
   ·exact ⟨i,by simp,.inl h3⟩
   ·exact ⟨i,by simp,.inr ⟨by omega,.inr h3.1,fun t ht1 ht2 => by obtain rfl : t = i:=(by omega); exact h3.2⟩⟩
  ·rintro ⟨i',hi',hr⟩
   rcases List.mem_append.1 hi' with h4 | h4
   ·exact .inl (.inl ⟨i',h4,hr⟩)
   ·rw [List.mem_singleton] at h4
    subst h4
    rcases hr with hr | ⟨hr1,hr2,hr3⟩
    ·exact .inl (.inr hr)
    ·rcases hr2 with hr2 | hr2
     ·cases hr2
     ·exact .inr ⟨hr2,hr3 i' (Nat.le_refl _) (by omega)⟩
 ·right
  rcases (m2.2 x).1 hx with h3 | h3
  ·exact ⟨i,by simp,by have:=all1 x h3; rw [if_neg (by decide)]; exact this⟩
  ·exact ⟨i,by simp,by rw [if_neg (by decide)]; omega⟩
theorem step_many {S L L1 L2 : List Nat} {R i k0 e R' : Nat} (h : InvL at_ zero true S L R) (hS : ∀ s ∈ S,s < i) (h1 : L1 = if zero = true then putL L i else L) (hk : k0 = max i R) (he : k0 ≤ e) (hat : ∀ t,k0 ≤ t → t < e → at_ t = true) (hend : at_ e = false) (h2 : Rising L2) (h2m : ∀ j,j ∈ L2 ↔ j ∈ L1 ∨ (k0 < j ∧ j ≤ e)) (hR' : R' = if e = k0 then R else e) : InvL at_ zero true (S ++ [i]) L2 R':=by
 have hp:=put_zero h hS
 have m1 : Rising L1 ∧ (∀ j,j ∈ L1 ↔ j ∈ L ∨ (j = i ∧ zero = true)):=by
  subst h1
  by_cases hz : zero = true
  ·rw [if_pos hz]
   have:=putL_mem h.rise hp
   exact ⟨this.1,fun j => by rw [this.2 j]; simp [hz]⟩
  ·rw [if_neg hz]
   exact ⟨h.rise,fun j => by simp [hz]⟩
 by_cases hiR : i < R
 ·have hk0 : k0 = R:=by omega
  rcases h.run with h0 | ⟨_,⟨s,hs,hsR,hsat⟩,hRf⟩
  ·omega
  have heR : e = R:=by
   apply Decidable.byContradiction
   intro hne
   have:=hat R (by omega) (by omega)
   rw [hRf] at this
   cases this
  rw [if_pos (by omega)] at hR'
  subst hR'
  have hsi:=hS s hs
  refine ⟨h2,fun j => ?_,.inr ⟨rfl,⟨s,List.mem_append_left _ hs,hsR,hsat⟩,hRf⟩,fun x hx => ?_⟩
  ·rw [h2m,m1.2,h.mem]
   constructor
   ·rintro ((⟨i',hi',hr⟩ | h3) | h3)
    ·exact ⟨i',List.mem_append_left _ hi',hr⟩
    ·exact ⟨i,by simp,.inl h3⟩
    ·omega
   ·rintro ⟨i',hi',hr⟩
    rcases List.mem_append.1 hi' with h4 | h4
    ·exact .inl (.inl ⟨i',h4,hr⟩)
    ·rw [List.mem_singleton] at h4
     subst h4
     rcases hr with hr | ⟨hr1,hr2,hr3⟩
     ·exact .inl (.inr hr)
     ·refine .inl (.inl ⟨s,hs,.inr ⟨by omega,.inl rfl,fun t ht1 ht2 => ?_⟩⟩)
      have hjR : j ≤ R':=by
       apply Decidable.byContradiction
       intro hne
       have:=hr3 R' (by omega) (by omega)
       rw [hRf] at this
       cases this
      exact hsat t ht1 (by omega)
  ·rcases (h2m x).1 hx with h3 | h3
   ·rcases (m1.2 x).1 h3 with h4 | h4
    ·rcases h.most x h4 with h5 | ⟨i',hi',h5⟩
     ·exact .inl h5
     ·exact .inr ⟨i',List.mem_append_left _ hi',h5⟩
    ·exact .inr ⟨i,by simp,by rw [if_pos rfl]; omega⟩
   ·omega
 ·have hk0 : k0 = i:=by omega
  subst hk0
  refine ⟨h2,fun j => ?_,?_,fun x hx => ?_⟩
  ·rw [h2m,m1.2,h.mem]
   constructor
   ·rintro ((⟨i',hi',hr⟩ | h3) | h3)
    ·exact ⟨i',List.mem_append_left _ hi',hr⟩
    ·exact ⟨k0,by simp,.inl h3⟩
    ·exact ⟨k0,by simp,.inr ⟨h3.1,.inl rfl,fun t ht1 ht2 => hat t ht1 (by omega)⟩⟩
   ·rintro ⟨i',hi',hr⟩
    rcases List.mem_append.1 hi' with h4 | h4
    ·exact .inl (.inl ⟨i',h4,hr⟩)
    ·rw [List.mem_singleton] at h4
     subst h4
     rcases hr with hr | ⟨hr1,hr2,hr3⟩
     ·exact .inl (.inr hr)
     ·right
      refine ⟨hr1,?_⟩
      apply Decidable.byContradiction
      intro hne
      have:=hr3 e (by omega) (by omega)
      rw [hend] at this
      cases this
  ·by_cases hek : e = k0
   ·rw [if_pos hek] at hR'
    subst hR'
    rcases h.run with h0 | ⟨hm,⟨s,hs,hsR,hsat⟩,hRf⟩
    ·exact .inl h0
    ·exact .inr ⟨hm,⟨s,List.mem_append_left _ hs,hsR,hsat⟩,hRf⟩
   ·rw [if_neg hek] at hR'
    subst hR'
    exact .inr ⟨rfl,⟨k0,by simp,by omega,hat⟩,hend⟩
  ·rcases (h2m x).1 hx with h3 | h3
   ·rcases (m1.2 x).1 h3 with h4 | h4
    ·right
     refine ⟨k0,by simp,?_⟩
     rw [if_pos rfl]
     rcases h.most x h4 with h5 | ⟨i',hi',h5⟩
     ·omega
     ·have:=hS i' hi'
      rw [if_pos rfl] at h5
      omega
    ·exact .inr ⟨k0,by simp,by rw [if_pos rfl]; omega⟩
   ·left
    rw [hR',if_neg (by omega)]
    exact h3.2
end
def atP (fo : Bool) (V : List Nat) (it : Itm) (t : Nat) : Bool:=match V[t]? with | none => false | some v => atomIs fo it v
theorem onRun_iff (fo : Bool) (V : List Nat) (it : Itm) (S : Nat → Bool) : ∀ j,onRun fo V it S j = true ↔ ∃ i,S i = true ∧ i < j ∧ (it.many = true ∨ j = i + 1) ∧ ∀ t,i ≤ t → t < j → atP fo V it t = true
 | 0 => by
  rw [onRun]
  simp
 | j + 1 => by
  rw [onRun]
  change ((S j || (onRun fo V it S j && it.many)) && atP fo V it j) = true ↔ _
  rw [Bool.and_eq_true,Bool.or_eq_true,Bool.and_eq_true,onRun_iff fo V it S j]
  constructor
  ·rintro ⟨h1 | ⟨⟨i,h1,h2,h3,h4⟩,h5⟩,h6⟩
   ·exact ⟨j,h1,by omega,.inr rfl,fun t ht1 ht2 => by obtain rfl : t = j:=(by omega); exact h6⟩
   ·refine ⟨i,h1,by omega,.inl h5,fun t ht1 ht2 => ?_⟩
    by_cases ht : t = j
    ·rw [ht]; exact h6
    ·exact h4 t ht1 (by omega)
  ·rintro ⟨i,h1,h2,h3,h4⟩
   refine ⟨?_,h4 j (by omega) (by omega)⟩
   by_cases hij : i = j
   ·rw [← hij]; exact .inl h1
   ·right
    rcases h3 with h3 | h3
    ·exact ⟨⟨i,h1,by omega,.inl h3,fun t ht1 ht2 => h4 t ht1 (by omega)⟩,h3⟩
    ·omega
theorem led_iff (fo : Bool) (V : List Nat) (it : Itm) (S : Nat → Bool) (h : isEdge it = false) (j : Nat) : ledP fo V it S j = true ↔ ∃ i,S i = true ∧ Reach (atP fo V it) (decide (it.least = 0)) it.many i j:=by
 unfold ledP
 rw [if_neg (of_decide_eq_false h),Bool.or_eq_true,Bool.and_eq_true,onRun_iff]
 constructor
 ·rintro (⟨i,h1,h2⟩ | ⟨h1,h2⟩)
  ·exact ⟨i,h1,.inr h2⟩
  ·exact ⟨j,h1,.inl ⟨rfl,h2⟩⟩
 ·rintro ⟨i,h1,⟨rfl,h2⟩ | h2⟩
  ·exact .inr ⟨h1,h2⟩
  ·exact .inl ⟨i,h1,h2⟩
theorem led_edge (fo : Bool) (V : List Nat) (it : Itm) (S : Nat → Bool) (h : isEdge it = true) (j : Nat) : ledP fo V it S j = (S j && holdsP V it.what j):=by
 unfold ledP
 rw [if_pos (of_decide_eq_true h)]
end Go.Proofs.YtchdeboialbdiaaGreatDoor
namespace Go.Proofs.YtchdeboialbdiaaGreatDoor
set_option linter.unusedVariables false
set_option linter.unusedSimpArgs false
set_option maxHeartbeats 8000000
set_option maxRecDepth 100000
open Go.RowKit
open Go.Lib hiding intOf
def ToSt (B : Nat) (L : List Nat) (W : World) : Prop:=∃ v,Row W B 73 [v] ∧ IntOwn (B + 1) v L W
theorem ToSt.keep {B : Nat} {L : List Nat} {W W' : World} (h : ToSt B L W) (hb : Below W.heap.size W W') : ToSt B L W':=by
 obtain ⟨v,h1,h2⟩:=h
 exact ⟨v,h1.keep hb h1.lt,h2.below hb⟩
theorem IntOwn.last {B : Nat} {v : Value} {L : List Nat} {w : World} (h : IntOwn B v L w) {x : Nat} (hx : L.getLast? = some x) : ∃ g c,v = .slice (some ⟨g,0,none⟩) L.length c ∧ B ≤ g ∧ g < w.heap.size ∧ w.cell? ⟨g,L.length - 1,none⟩ = some (.int .i64 (x : Int)):=by
 obtain ⟨M,rfl⟩:=List.getLast?_eq_some_iff.1 hx
 obtain ⟨a,c,rfl,_,hc⟩:=h.shape
 obtain ⟨g,rfl,h1,h2,h3⟩:=hc (by simp)
 exact ⟨g,c,rfl,h1,h2,h3 _ _ (by simp)⟩
theorem putC (W : World) (B : Nat) (L : List Nat) (i : Nat) (h : ToSt B L W) (hL : L.length ≤ 67108864) (hi : i ≤ 67108864) (hLx : ∀ x ∈ L,x ≤ 67108864) :
  Calls Tryz.prog 68 #[.int .i64 (i : Int),.pointer (some ⟨B,0,none⟩)] W fun e w' => e = .returned (.tuple #[]) ∧ ToSt B (putL L i) w' ∧ Below B W w':=by
 obtain ⟨v,hr,ho⟩:=h
 have c0 : W.cell? ⟨B,0,none⟩ = some v:=hr.cell 0
 have f0 : W.frozen? ⟨B,0,none⟩ = false:=hr.frozen 0
 have hB:=hr.lt
 have HR:=Lib.hid hr
 have HO:=Lib.hid ho
 have fin : ∀ v' w',AppPost W (B + 1) 3 1 v L.length (L.map I1) [.int .i64 (i : Int)] v' w' → ToSt B (L ++ [i]) (w'.setCell ⟨B,0,none⟩ v') ∧ Below B W (w'.setCell ⟨B,0,none⟩ v'):=by
  intro v' w' hp
  have hb:=hp.below HO.out hB
  have hr':=HR.out.keep hb (Nat.lt_succ_self B)
  have ho' : IntOwn (B + 1) v' (L ++ [i]) w':=IntOwn.push hp.1
  refine ⟨⟨v',hr'.set 0 v',?_⟩,(hb.mono (Nat.le_succ B)).setCell (p:=⟨B,0,none⟩) (Nat.le_refl _) _⟩
  exact World.ownsRow.kept ho' (grownBy_set w' B 0 v') (.inr (fun e => by
   obtain ⟨hB',_⟩:=own_block ho' e
   omega))
 have FIN:=Lib.hid fin
 clear fin ho hr
 cases hl : L.getLast? with
 | none =>
  obtain rfl : L = []:=List.getLast?_eq_none_iff.1 hl
  obtain ⟨a,c,rfl,_⟩:=HO.out.shape
  have e : putL [] i = [] ++ [i]:=rfl
  rw [e]
  clear hl e hLx
  rw [List.length_nil] at *
  go_enter Tryz.func68, Tryz.ntmps68
  go_wp2_with (at_builtin; refine appSep rfl _ _ rfl Tryz.underlying73 (.int .i64 0) 1 8 infoInt rfl (by decide) (by decide) (B + 1) W (.slice a 0 c) 0 [] [.int .i64 (i : Int)] rfl (by intro u hu; simp only [List.mem_singleton] at hu; subst hu; rfl) rfl HO.out rfl rfl (by decide) hB ?_; intro v8 w8 hp8; obtain ⟨g8,cap8,rfl⟩:=app_shape hp8; have hb8:=hp8.below HO.out hB; have k1:=(HR.out.keep hb8 (Nat.lt_succ_self B)).frozen 0; have k2:=(HR.out.keep hb8 (Nat.lt_succ_self B)).cell 0; have k3:=(HR.out.keep hb8 (Nat.lt_succ_self B)).lt; have HP8:=Lib.hid hp8; clear hp8 hb8)
  refine bodyPost_end (results_none rfl _ _ _) rfl ?_
  exact ⟨rfl,FIN.out _ _ HP8.out⟩
 | some x =>
  obtain ⟨g,c,rfl,hg1,hg2,hgc⟩:=HO.out.last hl
  obtain ⟨m,hm⟩ : ∃ m,L.length = m:=⟨_,rfl⟩
  have hm1 : 1 ≤ m:=by
   rw [← hm]
   obtain ⟨M,rfl⟩:=List.getLast?_eq_some_iff.1 hl
   simp
  obtain ⟨k,rfl⟩ : ∃ k,m = k + 1:=⟨m - 1,by omega⟩
  rw [hm] at hgc hL c0 HO FIN
  rw [Nat.add_sub_cancel] at hgc
  have hm0 : (((k + 1 : Nat) : Int) == 0) = false:=by rw [beq_eq_false_iff_ne]; omega
  have hm2 : IntKind.i64.wrap (((k + 1 : Nat) : Int) - 1) = (k : Int):=by rw [show ((k + 1 : Nat) : Int) - 1 = (k : Int) by omega]; exact IntWalk.i64_in _ (by omega)
  have hm3 : ((k + 1 : Nat) : Int) - 1 = (k : Int):=by omega
  have hkk : (k : Int) < ((k + 1 : Nat) : Int):=by omega
  have hxl : x ≤ 67108864:=hLx x (List.mem_of_getLast? hl)
  by_cases hx : x < i
  ·have e : putL L i = L ++ [i]:=by unfold putL; rw [hl]; exact if_pos hx
   have hxi : (x : Int) < (i : Int):=by omega
   rw [e]
   clear hl e hLx
   go_enter Tryz.func68, Tryz.ntmps68
   go_wp2_with (at_builtin; refine appSep rfl _ _ rfl Tryz.underlying73 (.int .i64 0) 1 8 infoInt rfl (by decide) (by decide) (B + 1) W (.slice (some ⟨g,0,none⟩) (k + 1) c) (k + 1) (L.map I1) [.int .i64 (i : Int)] rfl (by intro u hu; simp only [List.mem_singleton] at hu; subst hu; rfl) rfl (by have:=HO.out; unfold IntOwn at this; rwa [hm] at this) rfl rfl (by omega) hB ?_; intro v8 w8 hp8; obtain ⟨g8,cap8,rfl⟩:=app_shape hp8; have ho9 : W.ownsRow (B + 1) 3 1 (.slice (some ⟨g,0,none⟩) (k + 1) c) (k + 1) (L.map I1):=(by have:=HO.out; unfold IntOwn at this; rwa [hm] at this); have hb8:=hp8.below ho9 hB; have k1:=(HR.out.keep hb8 (Nat.lt_succ_self B)).frozen 0; have k2:=(HR.out.keep hb8 (Nat.lt_succ_self B)).cell 0; have k3:=(HR.out.keep hb8 (Nat.lt_succ_self B)).lt; have HP8:=Lib.hid hp8; clear hp8 hb8 ho9)
   refine bodyPost_end (results_none rfl _ _ _) rfl ?_
   exact ⟨rfl,FIN.out _ _ HP8.out⟩
  ·have e : putL L i = L:=by unfold putL; rw [hl]; exact if_neg hx
   have hxi : ¬ (x : Int) < (i : Int):=by omega
   have hxi2 : (i : Int) ≤ (x : Int):=by omega
   rw [e]
   clear hl e hLx
   go_enter Tryz.func68, Tryz.ntmps68
   go_wp2_with fail
   refine bodyPost_end (results_none rfl _ _ _) rfl ?_
   exact ⟨rfl,⟨_,HR.out,by have:=HO.out; unfold IntOwn at this ⊢; rw [hm] at this ⊢; exact this⟩,Below.refl _ _⟩
end Go.Proofs.YtchdeboialbdiaaGreatDoor
