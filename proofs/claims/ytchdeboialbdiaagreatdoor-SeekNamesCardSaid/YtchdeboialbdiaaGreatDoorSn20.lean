/- Texts joined, one behind the other (SMatchA, SMatchB, SText, SFind). -/
import Derived.Test.YtchdeboialbdiaaGreatDoorSn19
namespace Go.Proofs.YtchdeboialbdiaaGreatDoor
set_option linter.unusedVariables false
set_option linter.unusedSimpArgs false
set_option maxHeartbeats 8000000
set_option maxRecDepth 100000
open Go.RowKit
open Go.Lib hiding intOf
def GoodW (fo : Bool) (w : World) (q : Itm × Value) : Prop :=
 (isEdge q.1 = true ∧ q.2 = .nilFunc) ∨ (isEdge q.1 = false ∧ ∃ K,FunAt K w q.2 (atomIs fo q.1))
theorem GoodW.keep {fo : Bool} {w w' : World} {q : Itm × Value} (h : GoodW fo w q) (hb : Below w.heap.size w w') : GoodW fo w' q:=by
 rcases h with h | ⟨h,K,hK⟩
 ·exact .inl h
 ·exact .inr ⟨h,K,hK.below hb (Nat.le_refl _)⟩
def memB (F : List Nat) (j : Nat) : Bool:=decide (j ∈ F)
theorem memB_iff {F : List Nat} {j : Nat} : memB F j = true ↔ j ∈ F:=decide_eq_true_iff
theorem leadC (w : World) (a a2 a3 : Option Addr) (n c n2 c2 m c3 : Nat) (V F : List Nat) (fo : Bool) (q : Itm × Value) (hr : ReadsTok w a n V) (hV : OkV V) (hn : n ≤ 67108800) (hF : RI w a3 m F) (hFr : Rising F) (hFn : ∀ x ∈ F,x ≤ n) (hq : GoodW fo w q) :
  Calls Tryz.prog 46 #[.agg #[.int .u8 (edgeN q.1 : Int),q.2,.int .i64 (q.1.least : Int),.bool q.1.many],.agg #[.slice a n c,.slice a2 n2 c2],.slice a3 m c3] w (LeadP w (fun j => ledP fo V q.1 (memB F) j = true)):=by
 obtain ⟨it,f⟩:=q
 have wk : ∀ (Q1 Q2 : Nat → Prop) (e : Ending) (w' : World),(∀ j,Q1 j ↔ Q2 j) → LeadP w Q1 e w' → LeadP w Q2 e w':=by
  rintro Q1 Q2 e w' h ⟨v,L,h1,h2,h3,h4,h5⟩
  exact ⟨v,L,h1,h2,h3,fun j => (h4 j).trans (h j),h5⟩
 rcases hq with ⟨he,hf⟩ | ⟨he,K,hf⟩
 ·have hw : it.what = 94 ∨ it.what = 36:=of_decide_eq_true he
  have hed : edgeN it = it.what:=if_pos he
  dsimp only at hf ⊢
  rw [hed]
  refine (lead_edge w a a2 a3 n c n2 c2 m c3 V F it.what f _ _ hw hr hV hn hF hFr hFn hf).mono (fun e w' => wk _ _ e w' (fun j => ?_))
  rw [led_edge _ _ _ _ he,Bool.and_eq_true,memB_iff]
 ·have hed : edgeN it = 0:=if_neg (by rw [he]; decide)
  obtain ⟨g,cs,rfl⟩:=hf.shape
  dsimp only at hf ⊢
  rw [hed]
  obtain ⟨many,hm⟩ : ∃ b,it.many = b:=⟨_,rfl⟩
  rw [hm]
  cases many with
  | false =>
   refine (lead_few w a a2 a3 n c n2 c2 m c3 V F fo it g cs it.least K hr hV hn hF hFr hFn hf).mono (fun e w' => wk _ _ e w' (fun j => ?_))
   rw [led_iff _ _ _ _ he,hm]
   simp only [memB_iff]
  | true =>
   refine (lead_many w a a2 a3 n c n2 c2 m c3 V F fo it g cs it.least K hr hV hn hF hFr hFn hf).mono (fun e w' => wk _ _ e w' (fun j => ?_))
   rw [led_iff _ _ _ _ he,hm]
   simp only [memB_iff]
theorem lastTrue_spec (S : Nat → Bool) : ∀ n,match lastTrue S n with
  | some j => j ≤ n ∧ S j = true ∧ ∀ k,j < k → k ≤ n → S k = false
  | none => ∀ k,k ≤ n → S k = false
 | 0 => by
  unfold lastTrue
  by_cases h : S 0 = true
  ·rw [if_pos h]
   exact ⟨Nat.le_refl _,h,fun k h1 h2 => by omega⟩
  ·rw [if_neg h]
   intro k hk
   obtain rfl : k = 0:=by omega
   simpa using h
 | n + 1 => by
  unfold lastTrue
  by_cases h : S (n + 1) = true
  ·rw [if_pos h]
   exact ⟨Nat.le_refl _,h,fun k h1 h2 => by omega⟩
  ·rw [if_neg h]
   have ih:=lastTrue_spec S n
   have hf : S (n + 1) = false:=by simpa using h
   cases hl : lastTrue S n with
   | none =>
    rw [hl] at ih
    intro k hk
    by_cases hkn : k = n + 1
    ·rw [hkn]; exact hf
    ·exact ih k (by omega)
   | some j =>
    rw [hl] at ih
    refine ⟨by omega,ih.2.1,fun k h1 h2 => ?_⟩
    by_cases hkn : k = n + 1
    ·rw [hkn]; exact hf
    ·exact ih.2.2 k h1 (by omega)
theorem lastTrue_mem {F : List Nat} {n : Nat} (hr : Rising F) (hn : ∀ x ∈ F,x ≤ n) : lastTrue (memB F) n = F.getLast?:=by
 have hs:=lastTrue_spec (memB F) n
 cases hl : F.getLast? with
 | none =>
  obtain rfl : F = []:=List.getLast?_eq_none_iff.1 hl
  cases hq : lastTrue (memB []) n with
  | none => rfl
  | some j => rw [hq] at hs; exact absurd (memB_iff.1 hs.2.1) (by simp)
 | some x =>
  have hx:=List.mem_of_getLast? hl
  cases hq : lastTrue (memB F) n with
  | none =>
   rw [hq] at hs
   have:=hs x (hn x hx)
   rw [memB_iff.2 hx] at this
   cases this
  | some j =>
   rw [hq] at hs
   have h1:=last_most hr hl j (memB_iff.1 hs.2.1)
   by_cases hjx : j = x
   ·rw [hjx]
   ·have:=hs.2.2 x (by omega) (hn x hx)
    rw [memB_iff.2 hx] at this
    cases this
theorem onRun_none (fo : Bool) (V : List Nat) (it : Itm) : ∀ j,onRun fo V it (fun _ => false) j = false
 | 0 => rfl
 | j + 1 => by rw [onRun,onRun_none fo V it j]; rfl
theorem led_none (fo : Bool) (V : List Nat) (it : Itm) : ledP fo V it (fun _ => false) = fun _ => false:=by
 funext j
 unfold ledP
 split
 ·rfl
 ·rw [onRun_none]; rfl
theorem reach_none (fo : Bool) (V : List Nat) : ∀ its : List Itm,reachP fo V its (fun _ => false) = fun _ => false
 | [] => rfl
 | it :: r => by rw [reachP,led_none]; exact reach_none fo V r
theorem lastTrue_none (n : Nat) : lastTrue (fun _ => false) n = none:=by
 have:=lastTrue_spec (fun _ => false) n
 cases h : lastTrue (fun _ => false) n with
 | none => rfl
 | some j => rw [h] at this; cases this.2.1
def optI (o : Option Nat) : Int:=match o with
 | some j => (j : Int)
 | none => -1
theorem parts_at {fo : Bool} {B : Nat} {a : Option Addr} {c : Nat} {L : List (Itm × Value)} {W : World} (h : PartsOwn fo B (.slice a L.length c) L W) : ∀ (k : Nat) (q : Itm × Value),L[k]? = some q → ∃ g,a = some ⟨g,0,none⟩ ∧ g < W.heap.size ∧ GoodW fo W q ∧ W.cell? ⟨g,k * 4,none⟩ = some (.int .u8 (edgeN q.1 : Int)) ∧ W.cell? ⟨g,k * 4 + 1,none⟩ = some q.2 ∧ W.cell? ⟨g,k * 4 + 2,none⟩ = some (.int .i64 (q.1.least : Int)) ∧ W.cell? ⟨g,k * 4 + 3,none⟩ = some (.bool q.1.many):=by
 intro k q hq
 obtain ⟨h1,h2⟩:=h
 have hk : k < L.length:=(List.getElem?_eq_some_iff.1 hq).1
 have hgood : GoodW fo W q:=by
  rcases h2 q (List.mem_of_getElem? hq) with h | ⟨h,K,_,_,hF⟩
  ·exact .inl h
  ·exact .inr ⟨h,K,hF⟩
 rcases h1.2 with ⟨hv,h0⟩ | ⟨g,cap,cur,hv,hB,hg,hc1,hc2,hc3,hc4⟩
 ·omega
 ·obtain ⟨rfl,_⟩ : a = some ⟨g,0,none⟩ ∧ c = cap:=by simpa using hv
  have flat : ∀ (L : List (Itm × Value)) (k : Nat) (q : Itm × Value),L[k]? = some q → ∀ j u,(PC q)[j]? = some u → (L.flatMap PC)[k * 4 + j]? = some u:=by
   intro L
   induction L with
   | nil => intro k q h; simp at h
   | cons x L ih =>
    intro k q h j u hu
    rw [List.flatMap_cons]
    cases k with
    | zero =>
     simp only [List.getElem?_cons_zero,Option.some.injEq] at h
     subst h
     have hj : j < (PC x).length:=(List.getElem?_eq_some_iff.1 hu).1
     rw [Nat.zero_mul,Nat.zero_add,List.getElem?_append_left hj]
     exact hu
    | succ k =>
     rw [List.getElem?_cons_succ] at h
     have:=ih k q h j u hu
     rw [List.getElem?_append_right (by show 4 ≤ _; omega)]
     show (L.flatMap PC)[(k + 1) * 4 + j - 4]? = _
     rw [show (k + 1) * 4 + j - 4 = k * 4 + j by omega]
     exact this
  have key : ∀ j u,(PC q)[j]? = some u → j < 4 → W.cell? ⟨g,k * 4 + j,none⟩ = some u:=by
   intro j u hu hj
   have:=flat L k q hq j u hu
   rw [← hc4,List.getElem?_take,if_pos (by omega)] at this
   simp only [World.cell?,hg]
   simpa using this
  exact ⟨g,rfl,(Array.getElem?_eq_some_iff.1 hg).1,hgood,key 0 _ rfl (by decide),key 1 _ rfl (by decide),key 2 _ rfl (by decide),key 3 _ rfl (by decide)⟩
theorem RI_own {B : Nat} {a : Option Addr} {n c : Nat} {F : List Nat} {w : World} (h : IntOwn B (.slice a n c) F w) : n = F.length ∧ RI w a n F:=by
 obtain ⟨a',c',hv,_,h2⟩:=h.shape
 obtain ⟨rfl,rfl,_⟩ : a = a' ∧ n = F.length ∧ c = c':=by simpa using hv
 exact ⟨rfl,rfl,fun hn => by obtain ⟨g,h3,_,h4,h5⟩:=h2 hn; exact ⟨g,h3,h4,h5⟩⟩
theorem own_one (w : World) (B i : Nat) (hB : B ≤ w.heap.size) : IntOwn B (.slice (some ⟨w.heap.size,0,none⟩) 1 1) [i] (w.alloc (.cells #[.int .i64 (i : Int)] 3)) :=
 ⟨rfl,.inr ⟨w.heap.size,1,#[.int .i64 (i : Int)],rfl,hB,heap_alloc_new w _,Nat.le_refl _,by unfold maxLen; decide,rfl,rfl⟩⟩
theorem matchC (w : World) (g : Nat) (l : List UInt8) (fo : Bool) (its : List Itm) (a a2 : Option Addr) (n c n2 c2 : Nat) (V : List Nat) (i : Nat) (hP : PatIs w g l fo its) (hr : ReadsTok w a n V) (hV : OkV V) (hn : n ≤ 67108800) (hi : i ≤ n) (hl : its.length ≤ 67108864) :
  Calls Tryz.prog 30 #[.pointer (some ⟨g,0,none⟩),.agg #[.slice a n c,.slice a2 n2 c2],.int .i64 (i : Int)] w fun e w' => e = .returned (.int .i64 (optI (longestP fo V its i))) ∧ Below w.heap.size w w':=by
 obtain ⟨v3,L,B,hrow,hL,hparts⟩:=hP
 obtain ⟨a3,c3,rfl⟩:=parts_shape hparts
 have hLl : L.length = its.length:=by rw [← hL,List.length_map]
 obtain ⟨m,hm⟩ : ∃ m,L.length = m:=⟨_,rfl⟩
 have hat:=parts_at hparts
 rw [hm] at hrow
 have c2' : w.cell? ⟨g,2,none⟩ = some (.slice a3 m c3):=hrow.cell 2
 have hgl:=hrow.lt
 have hVn:=hr.1
 obtain ⟨T,hT⟩ : ∃ T,longestP fo V its i = T:=⟨_,rfl⟩
 rw [hT]
 have hT0 : lastTrue (reachP fo V its (memB [i])) n = T:=by
  rw [← hT,← hVn]
  unfold longestP
  have : memB [i] = fun j => decide (j = i):=by
   funext j
   unfold memB
   rw [decide_eq_decide,List.mem_singleton]
  rw [this]
 have HT0:=Lib.hid hT0
 have HAT:=Lib.hid hat
 have HR:=Lib.hid hr
 have HV:=Lib.hid hV
 have HL:=Lib.hid hL
 have HM:=Lib.hid hm
 have hml : m ≤ 67108864:=by omega
 obtain ⟨ti,hti⟩ : ∃ ti,optI T = ti:=⟨_,rfl⟩
 rw [hti]
 have HTI:=Lib.hid hti
 clear hT hT0 hat hr hV hparts hrow hL hm hti hLl hl
 go_enter Tryz.func30, Tryz.ntmps30
 go_wp2_with fail
 go_loopw [7,17] (fun uv uk wr => ∃ (k : Nat) (F : List Nat) (a4 : Option Addr) (n4 c4 : Nat),uk = .int .i64 (k : Int) ∧ uv = .slice a4 n4 c4 ∧ k ≤ m ∧ n4 = F.length ∧ 0 < n4 ∧ Hid (Below w.heap.size w wr ∧ IntOwn w.heap.size (.slice a4 n4 c4) F wr ∧ Rising F ∧ (∀ x ∈ F,x ≤ n) ∧ lastTrue (reachP fo V (its.drop k) (memB F)) n = T ∧ Row wr w.heap.size 75 [.slice a n c,.slice a2 n2 c2])) (fun _ uk _ => m - (RowKit.intOf uk).toNat)
 case atStart =>
  have hb : Below w.heap.size w (w.alloc (.cells #[.slice a n c,.slice a2 n2 c2] 75)):=(Below.refl _ w).alloc (Nat.le_refl _) _
  have ho:=own_one (w.alloc (.cells #[.slice a n c,.slice a2 n2 c2] 75)) w.heap.size i (by rw [World.size_alloc]; omega)
  rw [World.size_alloc] at ho
  exact ⟨0,[i],_,1,1,rfl,rfl,Nat.zero_le _,rfl,by decide,Lib.hid ⟨hb.alloc (by simp) _,ho,List.pairwise_singleton ..,fun x hx => by rw [List.mem_singleton] at hx; omega,HT0.out,(row_new w [.slice a n c,.slice a2 n2 c2] _).alloc _⟩⟩
 case round =>
  obtain ⟨k,F,a4,n4,c4,rfl,rfl,hk,rfl,hF0,HI⟩:=hrel
  have t0:=HI.out.2.2.2.2.2.cell 0
  have t1:=HI.out.2.2.2.2.2.cell 1
  have t2:=HI.out.2.2.2.2.2.lt
  have hFl:=rising_le HI.out.2.2.1 HI.out.2.2.2.1
  obtain ⟨x,hx⟩ : ∃ x,F.getLast? = some x:=by
   cases h : F.getLast? with
   | none => obtain rfl:=List.getLast?_eq_none_iff.1 h; exact absurd hF0 (by decide)
   | some x => exact ⟨x,rfl⟩
  have HX:=Lib.hid hx
  clear hx
  by_cases hlt : k < m
  ·obtain ⟨q,hq⟩ : ∃ q,L[k]? = some q:=⟨_,List.getElem?_eq_getElem (by have:=HM.out; omega)⟩
   obtain ⟨g3,rfl,hg3,hgood,p0,p1,p2,p3⟩:=HAT.out k q hq
   have blk:=HI.out.1.block g3 hg3
   have q0 : wr.cell? ⟨g3,k * 4,none⟩ = some (.int .u8 (edgeN q.1 : Int)):=by rw [World.cell?_of_block (a:=⟨g3,k * 4,none⟩) blk]; exact p0
   have q1 : wr.cell? ⟨g3,k * 4 + 1,none⟩ = some q.2:=by rw [World.cell?_of_block (a:=⟨g3,k * 4 + 1,none⟩) blk]; exact p1
   have q2 : wr.cell? ⟨g3,k * 4 + 2,none⟩ = some (.int .i64 (q.1.least : Int)):=by rw [World.cell?_of_block (a:=⟨g3,k * 4 + 2,none⟩) blk]; exact p2
   have q3 : wr.cell? ⟨g3,k * 4 + 3,none⟩ = some (.bool q.1.many):=by rw [World.cell?_of_block (a:=⟨g3,k * 4 + 3,none⟩) blk]; exact p3
   have hg3w : g3 < wr.heap.size:=Nat.lt_of_lt_of_le hg3 HI.out.1.size
   have hits : its.drop k = q.1 :: its.drop (k + 1):=by
    have h1 : its[k]? = some q.1:=by rw [← HL.out,List.getElem?_map,hq]; rfl
    have h2 : k < its.length:=(List.getElem?_eq_some_iff.1 h1).1
    rw [List.drop_eq_getElem_cons h2]
    congr 1
    exact Option.some.inj ((List.getElem?_eq_getElem h2).symm.trans h1)
   have hlk : (k : Int) < (m : Int):=by omega
   have hld : ∀ W,Below wr.heap.size wr W → Calls Tryz.prog 46 #[.agg #[.int .u8 (edgeN q.1 : Int),q.2,.int .i64 (q.1.least : Int),.bool q.1.many],.agg #[.slice a n c,.slice a2 n2 c2],.slice a4 F.length c4] W (LeadP W (fun j => ledP fo V q.1 (memB F) j = true)):=by
    intro W hW
    have hwW : Below w.heap.size w W:=HI.out.1.trans (hW.mono HI.out.1.size)
    exact leadC W a a2 a4 n c n2 c2 F.length c4 V F fo q (HR.out.keep hwW (Nat.le_refl _)) HV.out hn (RI_own (HI.out.2.1.below hW)).2 HI.out.2.2.1 HI.out.2.2.2.1 (hgood.keep hwW)
   have HLD:=Lib.hid hld
   have HIT:=Lib.hid hits
   have hshape : q.2 = .nilFunc ∨ ∃ gf cs,q.2 = .func (.func gf) #[] cs:=by
    rcases hgood with h | ⟨_,K,hK⟩
    ·exact .inl h.2
    ·exact .inr hK.shape
   have hfin : ∀ (w1 w2 : World),Below wr.heap.size wr w1 → LeadP w1 (fun j => ledP fo V q.1 (memB F) j = true) = LeadP w1 (fun j => ledP fo V q.1 (memB F) j = true):=fun _ _ _ => rfl
   clear hld hits hq hgood p0 p1 p2 p3 blk hfin
   generalize hed : ((edgeN q.1 : Nat) : Int) = ed at *
   generalize hls : ((q.1.least : Nat) : Int) = ls at *
   generalize hmn : q.1.many = mn at *
   have HQ1:=Lib.hid (rfl : q.1 = q.1)
   obtain ⟨qf,hqf⟩ : ∃ f,q.2 = f:=⟨_,rfl⟩
   rw [hqf] at q1 HLD hshape
   have next : ∀ (w1 w' : World) (v : Value) (L' : List Nat),Below wr.heap.size wr w1 → IntOwn w1.heap.size v L' w' → Rising L' → (∀ j,j ∈ L' ↔ ledP fo V q.1 (memB F) j = true) → Below w1.heap.size w1 w' → Below w.heap.size w w' ∧ IntOwn w.heap.size v L' w' ∧ (∀ x ∈ L',x ≤ n) ∧ lastTrue (reachP fo V (its.drop (k + 1)) (memB L')) n = T ∧ Row w' w.heap.size 75 [.slice a n c,.slice a2 n2 c2]:=by
    intro w1 w' v L' hb1 ho hr' hm' hb2
    have hww : Below w.heap.size w w1:=HI.out.1.trans (hb1.mono HI.out.1.size)
    have hsz:=HI.out.1.size
    have hfun : memB L' = ledP fo V q.1 (memB F):=by
     funext j
     rw [Bool.eq_iff_iff,memB_iff]
     exact hm' j
    have hrw:=(HI.out.2.2.2.2.2.keep hb1 HI.out.2.2.2.2.2.lt)
    refine ⟨hww.trans (hb2.mono hww.size),own_mono_size ho hww.size,fun x hx => ?_,?_,hrw.keep hb2 hrw.lt⟩
    ·have h1:=(hm' x).1 hx
     by_cases hne : n < x
     ·exfalso
      have hVl:=HR.out.1
      cases he : isEdge q.1 with
      | true =>
       rw [led_edge _ _ _ _ he,Bool.and_eq_true,memB_iff] at h1
       have:=HI.out.2.2.2.1 x h1.1
       omega
      | false =>
       obtain ⟨i',hi',hre⟩:=(led_iff _ _ _ _ he x).1 h1
       have h3:=HI.out.2.2.2.1 i' (memB_iff.1 hi')
       have:=reach_le hre (by omega)
       omega
     ·omega
    ·rw [hfun]
     have:=HI.out.2.2.2.2.1
     rw [HIT.out,reachP] at this
     exact this
   have HNX:=Lib.hid next
   clear next hqf hed hls hmn
   have hts : w.heap.size < wr.heap.size:=t2
   rcases hshape with rfl | ⟨gf,cs,rfl⟩
   ·skip
    go_wp2_with (go_at_call 46; refine (HLD.out (wr.alloc (.cells #[.int .u8 ed,.nilFunc,.int .i64 ls,.bool mn] 120)) ((Below.refl _ wr).alloc (Nat.le_refl _) _)).mono ?_; rintro e w' ⟨v,L',rfl,ho,hr',hm',hb'⟩; have hn4:=HNX.out _ _ _ _ ((Below.refl _ wr).alloc (Nat.le_refl _) _) ho hr' hm' hb'; obtain ⟨a5,c5,rfl,_⟩:=ho.shape; have HN4:=Lib.hid hn4; have HR4:=Lib.hid hr'; clear hn4 ho hm' hb' hr')
    case roundEnd =>
     rename_i hz
     rw [beq_eq_false_iff_ne] at hz
     go_roundw
     case rel => exact ⟨k + 1,L',a5,L'.length,c5,by go_num,rfl,by omega,rfl,by omega,Lib.hid ⟨HN4.out.1,HN4.out.2.1,HR4.out,HN4.out.2.2.1,HN4.out.2.2.2.1,HN4.out.2.2.2.2⟩⟩
     case measure => simp [RowKit.intOf]; omega
    rename_i hz
    rw [beq_iff_eq] at hz
    obtain rfl : L' = []:=List.length_eq_zero_iff.1 (by omega)
    go_ret
    refine ⟨?_,HN4.out.1⟩
    have h1:=HN4.out.2.2.2.1
    rw [show memB [] = fun _ => false from rfl,reach_none,lastTrue_none] at h1
    rw [← HTI.out,← h1]
    rfl
   ·skip
    go_wp2_with (go_at_call 46; refine (HLD.out (wr.alloc (.cells #[.int .u8 ed,.func (.func gf) #[] cs,.int .i64 ls,.bool mn] 120)) ((Below.refl _ wr).alloc (Nat.le_refl _) _)).mono ?_; rintro e w' ⟨v,L',rfl,ho,hr',hm',hb'⟩; have hn4:=HNX.out _ _ _ _ ((Below.refl _ wr).alloc (Nat.le_refl _) _) ho hr' hm' hb'; obtain ⟨a5,c5,rfl,_⟩:=ho.shape; have HN4:=Lib.hid hn4; have HR4:=Lib.hid hr'; clear hn4 ho hm' hb' hr')
    case roundEnd =>
     rename_i hz
     rw [beq_eq_false_iff_ne] at hz
     go_roundw
     case rel => exact ⟨k + 1,L',a5,L'.length,c5,by go_num,rfl,by omega,rfl,by omega,Lib.hid ⟨HN4.out.1,HN4.out.2.1,HR4.out,HN4.out.2.2.1,HN4.out.2.2.2.1,HN4.out.2.2.2.2⟩⟩
     case measure => simp [RowKit.intOf]; omega
    rename_i hz
    rw [beq_iff_eq] at hz
    obtain rfl : L' = []:=List.length_eq_zero_iff.1 (by omega)
    go_ret
    refine ⟨?_,HN4.out.1⟩
    have h1:=HN4.out.2.2.2.1
    rw [show memB [] = fun _ => false from rfl,reach_none,lastTrue_none] at h1
    rw [← HTI.out,← h1]
    rfl
  ·obtain rfl : k = m:=by omega
   have hnlk : ¬ (k : Int) < (k : Int):=by omega
   obtain ⟨g4,c5,hv4,hg41,hg42,hg4c⟩:=IntOwn.last HI.out.2.1 HX.out
   obtain ⟨rfl,rfl⟩ : a4 = some ⟨g4,0,none⟩ ∧ c4 = c5:=by simpa using hv4
   obtain ⟨fl,hfl⟩ : ∃ fl,F.length = fl + 1:=⟨F.length - 1,by omega⟩
   have hTx : ti = (x : Int):=by
    have h1:=HI.out.2.2.2.2.1
    rw [List.drop_of_length_le (by have:=HM.out; rw [← HL.out,List.length_map]; omega),reachP,lastTrue_mem HI.out.2.2.1 HI.out.2.2.2.1,HX.out] at h1
    rw [← HTI.out,← h1]
    rfl
   rw [hfl,Nat.add_sub_cancel] at hg4c
   rw [hfl]
   subst hTx
   have HB:=Lib.hid HI.out.1
   have hw1 : IntKind.i64.wrap (((fl + 1 : Nat) : Int) - 1) = (fl : Int):=by rw [show ((fl + 1 : Nat) : Int) - 1 = (fl : Int) by omega]; exact IntWalk.i64_in _ (by omega)
   have hw2 : ((fl + 1 : Nat) : Int) - 1 = (fl : Int):=by omega
   have hw3 : (fl : Int) < ((fl + 1 : Nat) : Int):=by omega
   have hflb : fl ≤ 67108864:=by omega
   clear hlt hk hF0 hFl hfl hv4
   go_wp2_with fail
   go_ret
   exact ⟨rfl,HB.out⟩
def AtsIn (w : World) (a : Option Addr) (A : List Nat) : Prop:=∃ g,a = some ⟨g,0,none⟩ ∧ g < w.heap.size ∧ ∀ (k x : Nat),A[k]? = some x → w.cell? ⟨g,k,none⟩ = some (.int .i64 (x : Int))
theorem AtsIn.keep {w w' : World} {a : Option Addr} {A : List Nat} (h : AtsIn w a A) (hb : Below w.heap.size w w') : AtsIn w' a A:=by
 obtain ⟨g,h1,h2,h3⟩:=h
 exact ⟨g,h1,Nat.lt_of_lt_of_le h2 hb.size,fun k x hx => by rw [hb.cell (p:=⟨g,k,none⟩) h2]; exact h3 k x hx⟩
def TextP (w : World) (l : List UInt8) (e : Ending) (w' : World) : Prop :=
 ∃ a c a2 c2,e = .returned (.agg #[.slice a (valsL l).length c,.slice a2 ((valsL l).length + 1) c2]) ∧ ReadsTok w' a (valsL l).length (valsL l) ∧ AtsIn w' a2 (atsL l) ∧ Below w.heap.size w w'
theorem textOfC (w : World) (l : List UInt8) (hm : l.length ≤ 67108864) (hT : Tabs w) :
  Calls Tryz.prog 29 #[.string (bstr l)] w (TextP w l):=by
 have hb0 : Below w.heap.size w (w.alloc (.cells #[.slice none 0 0,.slice none 0 0] 75)):=(Below.refl _ w).alloc (Nat.le_refl _) _
 have hC:=charsC (w.alloc (.cells #[.slice none 0 0,.slice none 0 0] 75)) l hm (hT.below hb0 hT.size)
 have hal:=ats_len l
 have hC2 : Calls Tryz.prog 33 #[.string (bstr l)] (w.alloc (.cells #[.slice none 0 0,.slice none 0 0] 75)) fun e w' => ∃ a c a2 c2,e = .returned (.tuple #[.slice a (valsL l).length c,.slice a2 ((valsL l).length + 1) c2]) ∧ ReadsTok w' a (valsL l).length (valsL l) ∧ AtsIn w' a2 (atsL l) ∧ Below w.heap.size w w' ∧ Row w' w.heap.size 75 [.slice none 0 0,.slice none 0 0] ∧ (∀ ad,a = some ad → ad.block ≠ w.heap.size) ∧ (∀ ad,a2 = some ad → ad.block ≠ w.heap.size):=hC.mono (by
  rintro e w' ⟨vl,va,rfl,ht,hi,hb⟩
  obtain ⟨a,c,rfl,r1,r2,r3⟩:=ht.shape
  obtain ⟨a2,c2,rfl,s1,s2⟩:=hi.shape
  rw [World.size_alloc] at r2 s1
  refine ⟨a,c,a2,c2,by rw [hal],r1,?_,hb0.trans (hb.mono hb0.size),?_,fun ad h => by have:=(r2 ad h).1; omega,fun ad h => by have:=(s1 ad h).1; omega⟩
  ·obtain ⟨g,h1,_,h2,h3⟩:=s2 (by omega)
   exact ⟨g,h1,h2,h3⟩
  ·have hr : Row (w.alloc (.cells #[.slice none 0 0,.slice none 0 0] 75)) w.heap.size 75 [.slice none 0 0,.slice none 0 0]:=row_new w [.slice none 0 0,.slice none 0 0] _
   exact hr.keep hb hr.lt)
 have HC:=Lib.hid hC2
 unfold TextP
 generalize hn : (valsL l).length = n at *
 have HN:=Lib.hid hn
 clear hC hC2 hT hb0 hal hn
 go_enter Tryz.func29, Tryz.ntmps29
 go_wp2_with (go_at_call 33; refine (HC.out).mono ?_; rintro e w1 ⟨a,c,a2,c2,rfl,hrt,hai,hb,hro,na1,na2⟩; have r0:=hro.cell 0; have r1:=hro.cell 1; have r2:=hro.frozen 0; have r3:=hro.frozen 1; have r4:=hro.lt; have HRT:=Lib.hid hrt; have HAI:=Lib.hid hai; have HB:=Lib.hid hb; have HRO:=Lib.hid hro; have HNA:=Lib.hid (⟨na1,na2⟩ : _ ∧ _); clear hrt hai hb hro na1 na2)
 have hR:=(HRO.out.set 0 (.slice a n c)).set 1 (.slice a2 (n + 1) c2)
 refine bodyPost_ret (results_cell_row rfl _ _ w.heap.size 75 #[.slice a n c,.slice a2 (n + 1) c2] (0,0) _ rfl hR Tryz.underlying75 rfl (by kernel_rfl)) rfl ?_
 have hg:=grown_then (grownBy_set w1 w.heap.size 0 (.slice a n c)) (grownBy_set (w1.setCell ⟨w.heap.size,0,none⟩ (.slice a n c)) w.heap.size 1 (.slice a2 (n + 1) c2)) (fun j h => .inr h)
 refine ⟨a,c,a2,c2,rfl,HRT.out.grown hg HNA.out.1,?_,(HB.out.setCell (p:=⟨w.heap.size,0,none⟩) (Nat.le_refl _) _).setCell (p:=⟨w.heap.size,1,none⟩) (Nat.le_refl _) _⟩
 obtain ⟨g,h1,h2,h3⟩:=HAI.out
 have hne:=HNA.out.2 _ h1
 have hblk:=hg.block g h2 (fun e => hne (Option.some.inj e))
 exact ⟨g,h1,Nat.lt_of_lt_of_le h2 hg.size,fun k x hx => by rw [World.cell?_of_block (a:=⟨g,k,none⟩) hblk]; exact h3 k x hx⟩
def findGo (fo : Bool) (V A : List Nat) (its : List Itm) (fr : Int) : Nat → Nat → Option (Nat × Nat)
 | 0,_ => none
 | f + 1,i => if fr ≤ (A.getD i 0 : Int) then (match longestP fo V its i with | some j => some (i,j) | none => findGo fo V A its fr f (i + 1)) else findGo fo V A its fr f (i + 1)
def findP (fo : Bool) (l : List UInt8) (its : List Itm) (fr : Int) : Option (Nat × Nat):=findGo fo (valsL l) (atsL l) its fr ((valsL l).length + 1) 0
def pieceV (A : List Nat) (o : Option (Nat × Nat)) : Value:=match o with
 | some (i,j) => .tuple #[.agg #[.int .i64 (A.getD i 0 : Int),.int .i64 (A.getD j 0 : Int)],.bool true]
 | none => .tuple #[.agg #[.int .i64 0,.int .i64 0],.bool false]
theorem PatIs.keep {w w' : World} {g : Nat} {l : List UInt8} {fo : Bool} {its : List Itm} (h : PatIs w g l fo its) (hb : Below w.heap.size w w') : PatIs w' g l fo its:=by
 obtain ⟨v,L,B,h1,h2,h3⟩:=h
 refine ⟨v,L,B,h1.keep hb h1.lt,h2,own_below h3.1 hb,fun q hq => ?_⟩
 rcases h3.2 q hq with h | ⟨h,K,hk,ha,hF⟩
 ·exact .inl h
 ·exact .inr ⟨h,K,hk,ha,hF.below hb (Nat.le_refl _)⟩
theorem longest_le {fo : Bool} {V : List Nat} {its : List Itm} {i j : Nat} (h : longestP fo V its i = some j) : j ≤ V.length:=by
 have:=lastTrue_spec (reachP fo V its fun j => decide (j = i)) V.length
 unfold longestP at h
 rw [h] at this
 exact this.1
theorem getD_at {A : List Nat} {k : Nat} (h : k < A.length) : A[k]? = some (A.getD k 0):=by
 rw [List.getD_eq_getElem?_getD,List.getElem?_eq_getElem h]; rfl
theorem findC (w : World) (g : Nat) (lp l : List UInt8) (fo : Bool) (its : List Itm) (fr : Int) (hP : PatIs w g lp fo its) (hm : l.length ≤ 67108000) (hl : its.length ≤ 67108864) (hT : Tabs w) :
  Calls Tryz.prog 9 #[.pointer (some ⟨g,0,none⟩),.string (bstr l),.int .i64 fr] w fun e w' => e = .returned (pieceV (atsL l) (findP fo l its fr)) ∧ Below w.heap.size w w':=by
 have hb0 : Below w.heap.size w (w.alloc (.cells #[.int .i64 0,.int .i64 0] 40)):=(Below.refl _ w).alloc (Nat.le_refl _) _
 have hX:=textOfC (w.alloc (.cells #[.int .i64 0,.int .i64 0] 40)) l (by omega) (hT.below hb0 hT.size)
 have hal:=ats_len l
 have hvl:=vals_len l
 have hok:=vals_ok l
 have hrow0 : Row (w.alloc (.cells #[.int .i64 0,.int .i64 0] 40)) w.heap.size 40 [.int .i64 0,.int .i64 0]:=row_new w [.int .i64 0,.int .i64 0] _
 obtain ⟨vm,Lm,Bm,hrow,hrest⟩:=id hP
 have p1 : w.cell? ⟨g,1,none⟩ = some (.bool true):=hrow.cell 1
 have p2:=hrow.lt
 unfold findP
 unfold TextP at hX
 obtain ⟨V,hV⟩ : ∃ V,valsL l = V:=⟨_,rfl⟩
 obtain ⟨A,hA⟩ : ∃ A,atsL l = A:=⟨_,rfl⟩
 obtain ⟨n,hn⟩ : ∃ n,V.length = n:=⟨_,rfl⟩
 rw [hV] at hX hvl hok hal ⊢
 rw [hA] at hX hal ⊢
 rw [hn] at hX hvl hal ⊢
 have HN:=Lib.hid hn
 have HAL:=Lib.hid hal
 have HOK:=Lib.hid hok
 have HX:=Lib.hid hX
 have HP:=Lib.hid hP
 have HB0:=Lib.hid hb0
 have HR0:=Lib.hid hrow0
 obtain ⟨T,hT0⟩ : ∃ T,findGo fo V A its fr (n + 1) 0 = T:=⟨_,rfl⟩
 rw [hT0]
 have HT0:=Lib.hid hT0
 have hnb : n ≤ 67108000:=by omega
 clear hX hb0 hrow0 hal hvl hok hV hA hn hP hrow hrest hT hT0 hm
 go_enter Tryz.func9, Tryz.ntmps9
 go_wp2_with (go_at_call 29; refine (HX.out).mono ?_; rintro e w2 ⟨a,c,a2,c2,rfl,hrt,hai,hb2⟩; have hsz2:=hb2.size; have HRT:=Lib.hid hrt; have HAI:=Lib.hid hai; have HB2:=Lib.hid hb2; clear hrt hai hb2)
 have hw3 : ∀ W,W = w2.alloc (.cells #[.slice a n c,.slice a2 (n + 1) c2] 75) → Below w.heap.size w W ∧ Row W w.heap.size 40 [.int .i64 0,.int .i64 0] ∧ Row W w2.heap.size 75 [.slice a n c,.slice a2 (n + 1) c2]:=by
  rintro W rfl
  have hs:=HB0.out.size
  have h1:=HR0.out.keep HB2.out HR0.out.lt
  exact ⟨(HB0.out.trans (HB2.out.mono hs)).alloc (Nat.le_trans hs HB2.out.size) _,h1.alloc _,row_new w2 [.slice a n c,.slice a2 (n + 1) c2] _⟩
 have HW3:=Lib.hid hw3
 clear hw3
 have hws : w.heap.size < w2.heap.size:=by rw [World.size_alloc] at hsz2; omega
 go_loopw [27] (fun uk wr => ∃ k : Nat,uk = .int .i64 (k : Int) ∧ k ≤ n + 1 ∧ Hid (Below w.heap.size w wr ∧ Below w2.heap.size w2 wr ∧ Row wr w.heap.size 40 [.int .i64 0,.int .i64 0] ∧ Row wr w2.heap.size 75 [.slice a n c,.slice a2 (n + 1) c2] ∧ findGo fo V A its fr (n + 1 - k) k = T)) (fun uk _ => n + 1 - (RowKit.intOf uk).toNat)
 case atStart =>
  obtain ⟨h1,h2,h3⟩:=HW3.out _ rfl
  exact ⟨0,rfl,Nat.zero_le _,Lib.hid ⟨h1,(Below.refl _ w2).alloc (Nat.le_refl _) _,h2,h3,HT0.out⟩⟩
 case round =>
  obtain ⟨k,rfl,hk,HR⟩:=hrel
  have t0:=HR.out.2.2.2.1.cell 0
  have t1:=HR.out.2.2.2.1.cell 1
  have t2:=HR.out.2.2.2.1.lt
  have s0:=HR.out.2.2.1.frozen 0
  have s1:=HR.out.2.2.1.frozen 1
  have s2:=HR.out.2.2.1.lt
  have s3:=HR.out.2.2.1.cell 0
  have s4:=HR.out.2.2.1.cell 1
  by_cases hlt : k < n + 1
  ·obtain ⟨ga,rfl,hga,hac⟩:=HAI.out
   have x0 : wr.cell? ⟨ga,k,none⟩ = some (.int .i64 ((A.getD k 0 : Nat) : Int)):=by
    rw [World.cell?_of_block (a:=⟨ga,k,none⟩) (HR.out.2.1.block ga hga)]
    exact hac _ _ (getD_at (by rw [HAL.out]; exact hlt))
   have hT1:=HR.out.2.2.2.2
   rw [show n + 1 - k = (n - k) + 1 by omega,findGo] at hT1
   obtain ⟨x,hx⟩ : ∃ x,A.getD k 0 = x:=⟨_,rfl⟩
   rw [hx] at x0 hT1
   have HXE:=Lib.hid hx
   clear hx
   have hlk : (k : Int) < ((n + 1 : Nat) : Int):=by omega
   have hlk2 : (k : Int) < (n : Int) + 1:=by omega
   by_cases hfr : fr ≤ (x : Int)
   ·rw [if_pos hfr] at hT1
    have hfr2 : ¬ (x : Int) < fr:=by omega
    have hM:=matchC wr g lp fo its a (some ⟨ga,0,none⟩) n c (n + 1) c2 V k (HP.out.keep HR.out.1) (HRT.out.keep HR.out.2.1 (Nat.le_refl _)) HOK.out (by omega) (by omega) hl
    cases hlo : longestP fo V its k with
    | none =>
     rw [hlo] at hM hT1
     dsimp only at hT1
     have HM:=Lib.hid hM
     have HT1:=Lib.hid hT1
     clear hM hT1 hlo hac
     have HM2 : Hid (Calls Tryz.prog 30 #[.pointer (some ⟨g,0,none⟩),.agg #[.slice a n c,.slice (some ⟨ga,0,none⟩) (n + 1) c2],.int .i64 (k : Int)] wr fun e w' => e = .returned (.int .i64 (-1)) ∧ Below wr.heap.size wr w'):=Lib.hid HM.out
     go_wp2_with (go_at_call 30; refine (HM2.out).mono ?_; rintro e w5 ⟨rfl,hb5⟩; have HB5:=Lib.hid hb5; clear hb5)
     go_roundw
     case rel => exact ⟨k + 1,by go_num,by omega,Lib.hid ⟨HR.out.1.trans (HB5.out.mono HR.out.1.size),HR.out.2.1.trans (HB5.out.mono HR.out.2.1.size),HR.out.2.2.1.keep HB5.out HR.out.2.2.1.lt,HR.out.2.2.2.1.keep HB5.out HR.out.2.2.2.1.lt,by rw [show n + 1 - (k + 1) = n - k by omega]; exact HT1.out⟩⟩
     case measure => simp [RowKit.intOf]; omega
    | some j =>
     rw [hlo] at hM hT1
     dsimp only at hT1
     have hjn : j ≤ n:=by have:=longest_le hlo; have:=HN.out; omega
     have x1 : ∀ W,Below w2.heap.size w2 W → W.cell? ⟨ga,j,none⟩ = some (.int .i64 ((A.getD j 0 : Nat) : Int)):=fun W hW => by
      rw [World.cell?_of_block (a:=⟨ga,j,none⟩) (hW.block ga hga)]
      exact hac _ _ (getD_at (by rw [HAL.out]; omega))
     obtain ⟨y,hy⟩ : ∃ y,A.getD j 0 = y:=⟨_,rfl⟩
     rw [hy] at x1
     have HYE:=Lib.hid hy
     have HX1:=Lib.hid x1
     have HM : Hid (Calls Tryz.prog 30 #[.pointer (some ⟨g,0,none⟩),.agg #[.slice a n c,.slice (some ⟨ga,0,none⟩) (n + 1) c2],.int .i64 (k : Int)] wr fun e w' => e = .returned (.int .i64 (j : Int)) ∧ Below wr.heap.size wr w'):=Lib.hid hM
     have HT1:=Lib.hid hT1
     have hjl : (j : Int) < ((n + 1 : Nat) : Int):=by omega
     have hjl2 : (j : Int) < (n : Int) + 1:=by omega
     clear hM hT1 hlo hac hy x1
     go_wp2_with (go_at_call 30; refine (HM.out).mono ?_; rintro e w5 ⟨rfl,hb5⟩; have y0:=HX1.out w5 (HR.out.2.1.trans (hb5.mono HR.out.2.1.size)); have k1:=HR.out.2.2.2.1.keep hb5 HR.out.2.2.2.1.lt; have k2:=k1.cell 1; have k3:=HR.out.2.2.1.keep hb5 HR.out.2.2.1.lt; have k4:=k3.frozen 0; have k5:=k3.frozen 1; have k6:=k3.cell 0; have k7:=k3.cell 1; have k8:=k3.lt; have K3:=Lib.hid k3; have HB5:=Lib.hid hb5; clear hb5 k1 k3)
     have hR:=(K3.out.set 0 (.int .i64 (x : Int))).set 1 (.int .i64 (y : Int))
     refine bodyPost_ret (results_row_one rfl _ _ w.heap.size 40 #[.int .i64 (x : Int),.int .i64 (y : Int)] (0,0) _ _ rfl rfl hR Tryz.underlying40 rfl (by kernel_rfl)) rfl ?_
     refine ⟨?_,((HR.out.1.trans (HB5.out.mono HR.out.1.size)).setCell (p:=⟨w.heap.size,0,none⟩) (Nat.le_refl _) _).setCell (p:=⟨w.heap.size,1,none⟩) (Nat.le_refl _) _⟩
     rw [← HT1.out]
     unfold pieceV
     dsimp only
     rw [HXE.out,HYE.out]
     rfl
   ·rw [if_neg hfr] at hT1
    have hfr2 : (x : Int) < fr:=by omega
    have HT1:=Lib.hid hT1
    clear hT1 hac
    go_wp2_with fail
    go_roundw
    case rel => exact ⟨k + 1,by go_num,by omega,Lib.hid ⟨HR.out.1,HR.out.2.1,HR.out.2.2.1,HR.out.2.2.2.1,by rw [show n + 1 - (k + 1) = n - k by omega]; exact HT1.out⟩⟩
    case measure => simp [RowKit.intOf]; omega
  ·obtain rfl : k = n + 1:=by omega
   have hnl : ¬ ((n + 1 : Nat) : Int) < ((n + 1 : Nat) : Int):=by omega
   have hT1:=HR.out.2.2.2.2
   rw [Nat.sub_self,findGo] at hT1
   have HT1:=Lib.hid hT1
   clear hT1 hlt hk
   go_wp2_with fail
   have hR:=(HR.out.2.2.1.set 0 (.int .i64 0)).set 1 (.int .i64 0)
   refine bodyPost_ret (results_row_one rfl _ _ w.heap.size 40 #[.int .i64 0,.int .i64 0] (0,0) _ _ rfl rfl hR Tryz.underlying40 rfl (by kernel_rfl)) rfl ?_
   refine ⟨?_,(HR.out.1.setCell (p:=⟨w.heap.size,0,none⟩) (Nat.le_refl _) _).setCell (p:=⟨w.heap.size,1,none⟩) (Nat.le_refl _) _⟩
   rw [← HT1.out]
   rfl
end Go.Proofs.YtchdeboialbdiaaGreatDoor
