/- Texts joined, one behind the other (SSetD). -/
import Derived.Test.YtchdeboialbdiaaGreatDoorSn13
import Derived.Laws.EntriesVeiled
namespace Go.Proofs.YtchdeboialbdiaaGreatDoor
set_option linter.unusedVariables false
set_option linter.unusedSimpArgs false
set_option maxHeartbeats 8000000
set_option maxRecDepth 100000
open Go.RowKit
open Go.Lib hiding intOf
def HighLe (V : List Nat) (i lo : Nat) : Nat ⊕ (Nat × Nat) → Prop
 | .inl b => b ≤ V.length
 | .inr (v,j) => i < j ∧ j ≤ V.length ∧ lo ≤ v ∧ v < wrongN ∧ lo < wrongN
theorem highP_le (V : List Nat) (hV : OkV V) (i lo : Nat) (hi : i ≤ V.length) : HighLe V i lo (highP V i lo):=by
 unfold highP
 by_cases h0 : V[i]? = none ∨ V[i]? = some 45 ∨ V[i]? = some 93
 ·rw [if_pos h0]; exact hi
 ·rw [if_neg h0]
  have hg:=oneP_le V hV i hi
  cases hG : oneP V i with
  | inl b => rw [hG] at hg; exact hg
  | inr t =>
   obtain ⟨k,v,j⟩:=t
   rw [hG] at hg
   obtain ⟨h1,h2,_⟩:=hg
   dsimp only
   by_cases h3 : k ≠ 0 ∨ v < lo ∨ wrongN ≤ v ∨ wrongN ≤ lo
   ·rw [if_pos h3]
    show j - 1 ≤ V.length
    omega
   ·rw [if_neg h3]
    exact ⟨h1,h2,by omega,by omega,by omega⟩
theorem FunsOwn.shape {B : Nat} {v : Value} {Ps : List (Nat → Bool)} {W : World} (h : FunsOwn B v Ps W) : ∃ a c,v = .slice a Ps.length c:=by
 obtain ⟨fs,h,_⟩:=h
 rcases h.2 with ⟨rfl,h0⟩ | ⟨g,cap,cur,rfl,_⟩
 ·exact ⟨none,0,by rw [h0]⟩
 ·exact ⟨_,_,rfl⟩
theorem FunsOwn.at {B lo c : Nat} {a : Option Addr} {Ps : List (Nat → Bool)} {W : World} (h : FunsOwn B (.slice a Ps.length c) Ps W) (hlo : lo ≤ B) : FunsAt (fun k => lo ≤ k ∧ k < W.heap.size) W a Ps.length Ps:=by
 obtain ⟨fs,h1,h2⟩:=h
 refine ⟨rfl,fun hn => ?_⟩
 rcases h1.2 with ⟨hv,h0⟩ | ⟨g,cap,cur,hv,hB,hg,hc1,hc2,hc3,hc4⟩
 ·omega
 ·obtain ⟨rfl,_⟩ : a = some ⟨g,0,none⟩ ∧ c = cap:=by simpa using hv
  have hgl:=(Array.getElem?_eq_some_iff.1 hg).1
  refine ⟨g,0,rfl,hgl,⟨by omega,hgl⟩,fun i P hP => ?_⟩
  obtain ⟨f,K,hf,hk,_,hF⟩:=h2 i P hP
  refine ⟨f,?_,hF.wide (fun k hk' => ⟨by have:=hk k hk'; omega,hF.1 k hk'⟩) (fun k hk' => hk'.2)⟩
  have hi : i < Ps.length:=(List.getElem?_eq_some_iff.1 hP).1
  rw [Nat.mul_one] at hc4
  rw [← hc4,List.getElem?_take,if_pos hi] at hf
  simp only [World.cell?,hg,Nat.zero_add]
  simpa using hf
theorem FunsAt.keep {K : Nat → Prop} {w w' : World} {a : Option Addr} {n : Nat} {Ps : List (Nat → Bool)} (h : FunsAt K w a n Ps) (hk : ∀ k,K k → w'.heap[k]? = w.heap[k]?) (hs : w.heap.size ≤ w'.heap.size) : FunsAt K w' a n Ps:=by
 obtain ⟨h1,h2⟩:=h
 refine ⟨h1,fun hn => ?_⟩
 obtain ⟨b,off,ha,hb,hK,hc⟩:=h2 hn
 refine ⟨b,off,ha,Nat.lt_of_lt_of_le hb hs,hK,fun i P hP => ?_⟩
 obtain ⟨f,hf,hF⟩:=hc i P hP
 exact ⟨f,by rw [World.cell?_of_block (a:=⟨b,off + i,none⟩) (hk b hK)]; exact hf,hF.keep hk hs⟩
theorem set2F {lo : Nat} {W : World} {g : Nat} {v : Value} {els : List El} {B : Nat} (hg : Row W g 154 [v]) (hgl : lo ≤ g) (hf : FunsOwn B v (els.map elHas) W) (hB : lo ≤ B) (hl : els.length ≤ 67108864) : FunIv lo W (.func (.func 74) #[] #[.pointer (some ⟨g,0,none⟩)]) (hasV els):=by
 obtain ⟨a,c,rfl⟩:=hf.shape
 have hat:=hf.at hB
 refine ⟨fun k hk => hk.2,_,_,rfl,enters_of Tryz.func74 (by kernel_rfl) rfl,fun w' ha hs v hv => ?_⟩
 have hr : Row w' g 154 [.slice a (els.map elHas).length c]:=(ha g ⟨hgl,hg.lt⟩).trans hg
 have:=set2C w' _ g _ c a (els.map elHas) (by rw [List.length_map]; exact hl) hr (hat.keep ha hs) v hv
 have e : ((els.map elHas).any fun P => P v) = hasV els v:=by
  unfold hasV
  rw [List.any_map]
  rfl
 rw [e] at this
 exact this
def SetF (p s : Nat) (u : Nat → Value) : Act:=⟨#[.pointer (some ⟨p,0,none⟩),u 1,u 2,u 3,.pointer (some ⟨s,0,none⟩),.pointer (some ⟨s + 1,0,none⟩),u 6,u 7,u 8,u 9,u 10,u 11,u 12,u 13,u 14,u 15,u 16,u 17,u 18,u 19,u 20,u 21,u 22,u 23,u 24,u 25,u 26,u 27,u 28,u 29,u 30,u 31,u 32,u 33,u 34,u 35,u 36,u 37,u 38,u 39,u 40,u 41,u 42,u 43,u 44,u 45,u 46,u 47,u 48,u 49,u 50,u 51,u 52,u 53,u 54,u 55,u 56,u 57,u 58,u 59,u 60,u 61,u 62,u 63,u 64,u 65,u 66,u 67,u 68,u 69,u 70,u 71,u 72,u 73,u 74,u 75,u 76,u 77,u 78,u 79,u 80,u 81,u 82,u 83,u 84,u 85,u 86,u 87,u 88,u 89,u 90],[]⟩
def setG (fo neg : Bool) : Nat ⊕ (List El × Nat) → Nat ⊕ ((Nat → Bool) × Nat)
 | .inl b => .inl b
 | .inr (els,j) => .inr (setHas fo neg (hasV els),j)
def SetJ (w : World) (p : Nat) (a : Option Addr) (n c : Nat) (V : List Nat) (fo neg : Bool) (R : Nat ⊕ (List El × Nat)) (lab : Nat) (x : Act) (W : World) : Prop :=
 ∃ (i : Nat) (els : List El) (v : Value),x = SetF p w.heap.size (fun k => x.tmps.getD k undef) ∧ HasSt w p a n c V fo neg els v i W ∧ els.length ≤ i ∧ i ≤ n ∧
  ((lab = 0 ∧ ∃ f,n - i ≤ f ∧ setGo V f i els = R) ∨ (lab = 1 ∧ R = .inr (els,i)))
def SetM (p n lab : Nat) (x : Act) (W : World) : Nat:=if lab = 1 then 0 else n + 1 - (RowKit.intOf ((W.cell? ⟨p,1,none⟩).getD undef)).toNat
theorem SetM_at {w W : World} {p n c i : Nat} {a : Option Addr} {V : List Nat} {fo neg : Bool} {els : List El} {v : Value} (h : HasSt w p a n c V fo neg els v i W) (x : Act) : SetM p n 0 x W = n + 1 - i:=by
 unfold SetM
 rw [if_neg (by decide),h.scan.row.cell 1]
 rfl
theorem set_end (w : World) (p : Nat) (a : Option Addr) (n c : Nat) (V : List Nat) (fo neg : Bool) (R : Nat ⊕ (List El × Nat)) (hp : p < w.heap.size) (hn : n ≤ 67108800) :
  ∃ X,findLabel (scopeOf Tryz.f51.body) 1 = some (.seq .skip X) ∧ ∀ (J : Nat → Act → World → Prop) x W,SetJ w p a n c V fo neg R 1 x W → X.wp Tryz.prog (jumps J
   (bodyPost Tryz.prog Tryz.f51 (AtP w p a n c V fo (setG fo neg R)))) x W:=by
 refine ⟨_,rfl,?_⟩
 intro J x W hJ
 obtain ⟨i,els,v,hx,h,hel,hin,hq⟩:=hJ
 generalize (fun k => x.tmps.getD k undef) = u at hx
 subst hx
 unfold SetF
 rcases hq with ⟨h0,_⟩ | ⟨_,rfl⟩
 ·cases h0
 have e2 : W.cell? ⟨p,2,none⟩ = some (.bool fo):=h.scan.row.cell 2
 have hpl:=h.scan.row.lt
 have HS:=Lib.hid h
 clear h
 go_wp2_with fail
 try rw [jumps_ret]
 go_ret2
 have h1:=(HS.out.alloc hp (.cells #[.bool fo] 4)).alloc hp (.cells #[.func (.func 74) #[] #[.pointer (some ⟨w.heap.size,0,none⟩)]] 118)
 have r1 : Row ((W.alloc (.cells #[.bool fo] 4)).alloc (.cells #[.func (.func 74) #[] #[.pointer (some ⟨w.heap.size,0,none⟩)]] 118)) W.heap.size 4 [.bool fo]:=(row_new W [.bool fo] _).alloc _
 have r2 : Row ((W.alloc (.cells #[.bool fo] 4)).alloc (.cells #[.func (.func 74) #[] #[.pointer (some ⟨w.heap.size,0,none⟩)]] 118)) (W.heap.size + 1) 118 [.func (.func 74) #[] #[.pointer (some ⟨w.heap.size,0,none⟩)]]:=by
  have:=row_new (W.alloc (.cells #[.bool fo] 4)) [.func (.func 74) #[] #[.pointer (some ⟨w.heap.size,0,none⟩)]] 118
  rwa [World.size_alloc] at this
 have hsz:=HS.out.size
 have hF2:=set2F (lo:=w.heap.size) h1.box (Nat.le_refl _) h1.funs (by omega) (by omega)
 refine ⟨h1.grown,_,_,rfl,⟨fun k hk => hk.2,_,_,rfl,enters_of Tryz.func75 (by kernel_rfl) rfl,fun w' ha hs x hx => ?_⟩,h1.scan⟩
 exact set3C w' _ (W.heap.size + 1) W.heap.size (w.heap.size + 1) _ fo neg (hasV els) ((ha _ ⟨by omega,r2.lt⟩).trans r2) ((ha _ ⟨by omega,r1.lt⟩).trans r1) ((ha _ ⟨by omega,h1.sign.lt⟩).trans h1.sign) (hF2.keep ha hs) x hx
theorem setGo_stop {V : List Nat} {i : Nat} {els : List El} (h : V[i]? = none ∨ V[i]? = some 45) (f : Nat) : setGo V f i els = .inl i:=by
 cases f with
 | zero => rfl
 | succ f => rw [setGo,if_pos h]
theorem setGo_close {V : List Nat} {i : Nat} {els : List El} (h : V[i]? = some 93) (f : Nat) : setGo V (f + 1) i els = if els = [] then .inl i else .inr (els,i + 1):=by
 rw [setGo,if_neg (by rw [h]; rintro (h | h) <;> cases h),if_pos h]
theorem setGo_more {V : List Nat} {i : Nat} {els : List El} (h1 : V[i]? ≠ none) (h2 : V[i]? ≠ some 45) (h3 : V[i]? ≠ some 93) (f : Nat) : setGo V (f + 1) i els = (match oneP V i with
   | .inl b => .inl b
   | .inr (k,v,j) =>
    if k = 0 then
     (if V[j]? = some 45 then match highP V (j + 1) v with
      | .inl b => .inl b
      | .inr (hv,j2) => setGo V f j2 (els ++ [.rng v hv])
     else setGo V f j (els ++ [.rng v v]))
    else setGo V f j (els ++ [.kind k])):=by
 rw [setGo,if_neg (by rintro (h | h) <;> contradiction),if_neg h3]
 rfl
theorem HasSt.cells {w W : World} {p n c i : Nat} {a : Option Addr} {V : List Nat} {fo neg : Bool} {els : List El} {v : Value} (h : HasSt w p a n c V fo neg els v i W) (hp : p < w.heap.size) :
  W.cell? ⟨p,1,none⟩ = some (.int .i64 (i : Int)) ∧ W.frozen? ⟨p,1,none⟩ = false ∧ W.cell? ⟨w.heap.size,0,none⟩ = some v ∧ W.frozen? ⟨w.heap.size,0,none⟩ = false ∧ p < W.heap.size ∧ w.heap.size < W.heap.size ∧ w.heap.size + 1 < W.heap.size ∧ p ≠ w.heap.size ∧ p ≠ w.heap.size + 1 ∧ w.heap.size ≠ w.heap.size + 1 :=
 ⟨h.scan.row.cell 1,h.scan.row.frozen 1,h.box.cell 0,h.box.frozen 0,h.scan.row.lt,h.box.lt,h.sign.lt,by omega,by omega,by omega⟩
theorem FunsOwn.blk {B : Nat} {v : Value} {Ps : List (Nat → Bool)} {W : World} (h : FunsOwn B v Ps W) {b : Nat} (hb : v.ownBlock = some b) : b < W.heap.size:=by
 obtain ⟨fs,h,_⟩:=h
 obtain ⟨_,cur,hc⟩:=own_block h hb
 exact (Array.getElem?_eq_some_iff.1 hc).1
theorem app_shape {W W' : World} {B m : Nat} {v v' : Value} {fs cs : List Value} {e : TypeId} (hp : AppPost W B e 1 v m fs cs v' W') : ∃ g cap,v' = .slice (some ⟨g,0,none⟩) (m + 1) cap:=by
 rcases hp.1.2 with ⟨_,q2⟩ | ⟨g,cap,cur,hv,_⟩
 ·omega
 ·exact ⟨g,cap,hv⟩
theorem set1F {W : World} {q lo hi : Nat} {x y x' y' : Int} (hlo : OkC lo) (hhi : OkC hi) (hlh : hi = lo ∨ (lo < wrongN ∧ hi < wrongN ∧ lo ≤ hi)) (hx : tokV lo = .agg #[.int .i32 x,.int .i64 y]) (hx' : tokV hi = .agg #[.int .i32 x',.int .i64 y']) (h1 : Row W q 91 [.int .i32 x,.int .i64 y]) (h2 : Row W (q + 1) 91 [.int .i32 x',.int .i64 y']) :
  FunAt (fun k => k = q ∨ k = q + 1) W (.func (.func 73) #[] #[.pointer (some ⟨q,0,none⟩),.pointer (some ⟨q + 1,0,none⟩)]) (elHas (.rng lo hi)):=by
 have e1 : ([.int .i32 x,.int .i64 y] : List Value) = [.int .i32 (tokR lo : Int),.int .i64 (tokW lo : Int)]:=by
  unfold tokV at hx
  simp only [Value.agg.injEq] at hx
  exact (congrArg Array.toList hx).symm
 have e2 : ([.int .i32 x',.int .i64 y'] : List Value) = [.int .i32 (tokR hi : Int),.int .i64 (tokW hi : Int)]:=by
  unfold tokV at hx'
  simp only [Value.agg.injEq] at hx'
  exact (congrArg Array.toList hx').symm
 rw [e1] at h1
 rw [e2] at h2
 refine ⟨fun k hk => ?_,_,_,rfl,enters_of Tryz.func73 (by kernel_rfl) rfl,fun w' ha hs v hv => ?_⟩
 ·rcases hk with rfl | rfl
  ·exact h1.lt
  ·exact h2.lt
 ·exact set1C w' q (q + 1) lo hi hlo hhi hlh ((ha q (.inl rfl)).trans h1) ((ha (q + 1) (.inr rfl)).trans h2) v hv
def Two (w4 W : World) (p : Nat) (x y : Value) (x' y' : Value) : Prop:=Row W w4.heap.size 91 [x,y] ∧ Row W (w4.heap.size + 1) 91 [x',y'] ∧ w4.grownBy W (some p)
theorem two_new {w4 w6 : World} {x y : Int} (p : Nat) (hq : Quiet ((w4.alloc (.cells #[.int .i32 x,.int .i64 y] 91)).alloc (.cells #[.int .i32 x,.int .i64 y] 91)) w6) : Two w4 w6 p (.int .i32 x) (.int .i64 y) (.int .i32 x) (.int .i64 y):=by
 have r1 : Row ((w4.alloc (.cells #[.int .i32 x,.int .i64 y] 91)).alloc (.cells #[.int .i32 x,.int .i64 y] 91)) w4.heap.size 91 [.int .i32 x,.int .i64 y]:=(row_new w4 [.int .i32 x,.int .i64 y] _).alloc _
 have r2 : Row ((w4.alloc (.cells #[.int .i32 x,.int .i64 y] 91)).alloc (.cells #[.int .i32 x,.int .i64 y] 91)) (w4.heap.size + 1) 91 [.int .i32 x,.int .i64 y]:=by
  have:=row_new (w4.alloc (.cells #[.int .i32 x,.int .i64 y] 91)) [.int .i32 x,.int .i64 y] 91
  rwa [World.size_alloc] at this
 exact ⟨r1.keep (hq.below _) r1.lt,r2.keep (hq.below _) r2.lt,grown_of_below ((((Below.refl w4.heap.size w4).alloc (Nat.le_refl _) _).alloc (by simp) _).trans (hq.below _)) _⟩
theorem two_step {w4 W W' : World} {p : Nat} {x y x' y' : Value} (h : Two w4 W p x y x' y') (hp : p < w4.heap.size) (hg : W.grownBy W' (some p)) : Two w4 W' p x y x' y' :=
 ⟨(hg.block _ h.1.lt (fun e => by cases e; omega)).trans h.1,(hg.block _ h.2.1.lt (fun e => by cases e; omega)).trans h.2.1,grown_then h.2.2 hg (fun j h => .inr h)⟩
theorem range_wp {w w4 w8 : World} {p n c j j2 : Nat} {a : Option Addr} {V : List Nat} {fo neg : Bool} {els : List El} {v x y x' y' : Value} {x2 y2 : Value} (h4 : HasSt w p a n c V fo neg els v j w4) (hp : p < w.heap.size) (ha : ∀ ad,a = some ad → ad.block < w.heap.size) (t : Two w4 w8 p x y x' y') (h8 : Scan w8 p a n c V j2 fo) :
  HasSt w p a n c V fo neg els v j2 ((w8.setCell ⟨w4.heap.size + 1,0,none⟩ x2).setCell ⟨w4.heap.size + 1,1,none⟩ y2):=by
 have s4:=h4.grown.size
 have hg2:=grown_then (grownBy_set w8 (w4.heap.size + 1) 0 x2) (grownBy_set (w8.setCell ⟨w4.heap.size + 1,0,none⟩ x2) (w4.heap.size + 1) 1 y2) (fun j h => .inr h)
 exact h4.step hp (grown_then t.2.2 hg2 (fun j h => by cases h; exact .inl (by omega))) (h8.grown hg2 (by omega) (fun ad h => by have:=ha ad h; omega))
theorem set_elem (w : World) (p : Nat) (a : Option Addr) (n c : Nat) (V : List Nat) (fo neg : Bool) (R : Nat ⊕ (List El × Nat)) (hV : OkV V) (hVn : V.length = n) (hp : p < w.heap.size) (hn : n ≤ 67108800) (ha : ∀ ad,a = some ad → ad.block < w.heap.size) :
  ∃ X,findLabel (scopeOf Tryz.f51.body) 0 = some (.seq .skip X) ∧ ∀ x W,SetJ w p a n c V fo neg R 0 x W → X.wp Tryz.prog (jumps (fun l' x' W' => SetJ w p a n c V fo neg R l' x' W' ∧ SetM p n l' x' W' < SetM p n 0 x W)
   (bodyPost Tryz.prog Tryz.f51 (AtP w p a n c V fo (setG fo neg R)))) x W:=by
 refine ⟨_,rfl,?_⟩
 intro x W hJ
 obtain ⟨i,els,v,hx,h,hel,hin,hq⟩:=hJ
 generalize (fun k => x.tmps.getD k undef) = u at hx
 subst hx
 rw [SetM_at h]
 rcases hq with ⟨_,f,hf,hR⟩ | ⟨h0,_⟩
 rotate_left
 ·cases h0
 obtain ⟨a',c',hv⟩:=h.funs.shape
 rw [List.length_map] at hv
 obtain ⟨m,hm⟩ : ∃ m,els.length = m:=⟨_,rfl⟩
 rw [hm] at hv hel
 subst hv
 have HST:=Lib.hid (fun m => h.quiet hp ⟨m,rfl⟩ (W':=W.drewN m))
 obtain ⟨e1,e2,c0,f0,l1,l2,l3,n1,n2,n3⟩:=h.cells hp
 have e0 : W.cell? ⟨p,0,none⟩ = some (.slice a n c):=h.scan.row.cell 0
 obtain ⟨z,hz⟩ : ∃ z,nowI V i = z:=⟨_,rfl⟩
 have hN : ∀ m,Calls Tryz.prog 48 #[.pointer (some ⟨p,0,none⟩)] (W.drewN m) fun e w'' => e = .returned (.int .i32 z) ∧ Quiet (W.drewN m) w'':=by
  intro m
  rw [← hz]
  exact nowC _ p a n c V i fo (HST.out m).scan hV (by omega) (by omega)
 have h45 : z = 45 ↔ V[i]? = some 45:=by rw [← hz]; exact nowI_eq hV (by decide)
 have h93 : z = 93 ↔ V[i]? = some 93:=by rw [← hz]; exact nowI_eq hV (by decide)
 have H45:=Lib.hid h45
 have H93:=Lib.hid h93
 have HN:=Lib.hid hN
 have HV:=Lib.hid hV
 have HA:=Lib.hid ha
 have HM:=Lib.hid hm
 have nf1:=nfQl
 have nf2:=nfQl2
 unfold SetF
 clear hN h45 h93 hz hV ha hm h
 by_cases c1 : i = n
 ·have c1' : ((i : Int) == (n : Int)) = true:=by rw [beq_iff_eq]; omega
  rw [setGo_stop (.inl (List.getElem?_eq_none (by omega)))] at hR
  have HRR : Hid (setG fo neg R = .inl i):=Lib.hid (by rw [← hR]; rfl)
  clear hR hf
  subst c1
  go_wp2
  go_quiet ((go_at_call 48; exact Calls.quiet_of (HN.out _)))
  go_wp2_with (fail)
  try rw [jumps_ret]
  go_ret2
  have hD:=HST.out nq
  unfold AtP
  rw [HRR.out]
  exact ⟨hD.grown,rfl,hD.scan⟩
 have c1' : ((i : Int) == (n : Int)) = false:=by rw [beq_eq_false_iff_ne]; omega
 by_cases c2 : z = 45
 ·rw [setGo_stop (.inr (H45.out.1 c2))] at hR
  have HRR : Hid (setG fo neg R = .inl i):=Lib.hid (by rw [← hR]; rfl)
  clear hR
  subst c2
  go_wp2
  go_quiet ((go_at_call 48; exact Calls.quiet_of (HN.out _)))
  go_wp2_with (fail)
  try rw [jumps_ret]
  go_ret2
  have hD:=HST.out nq
  unfold AtP
  rw [HRR.out]
  exact ⟨hD.grown,rfl,hD.scan⟩
 have c2' : (z == 45) = false:=by rw [beq_eq_false_iff_ne]; exact c2
 obtain ⟨f,rfl⟩ : ∃ g,f = g + 1:=⟨f - 1,by omega⟩
 by_cases c3 : z = 93
 ·rw [setGo_close (H93.out.1 c3)] at hR
  subst c3
  by_cases hm0 : m = 0
  ·have hm0' : ((m : Int) == 0) = true:=by rw [beq_iff_eq]; omega
   rw [if_pos (List.length_eq_zero_iff.1 (HM.out.trans hm0))] at hR
   have HRR : Hid (setG fo neg R = .inl i):=Lib.hid (by rw [← hR]; rfl)
   clear hR
   go_wp2
   go_quiet ((go_at_call 48; exact Calls.quiet_of (HN.out _)))
   go_wp2_with (go_at_call 48; refine (HN.out _).mono ?_; rintro e w3 ⟨rfl,hq3⟩; have h3:=(HST.out nq).quiet hp hq3; obtain ⟨g1,g2,g3,g4,g5,g6,g7,_,_,_⟩:=h3.cells hp; have HS3:=Lib.hid h3; clear h3 hq3)
   try rw [jumps_ret]
   go_ret2
   have hD:=HS3.out
   unfold AtP
   rw [HRR.out]
   exact ⟨hD.grown,rfl,hD.scan⟩
  ·have hm0' : ((m : Int) == 0) = false:=by rw [beq_eq_false_iff_ne]; omega
   rw [if_neg (fun e => hm0 (by rw [← HM.out,e]; rfl))] at hR
   have HRR : Hid (R = .inr (els,i + 1)):=Lib.hid hR.symm
   clear hR
   go_wp2
   go_quiet ((go_at_call 48; exact Calls.quiet_of (HN.out _)))
   go_wp2_with (go_at_call 48; refine (HN.out _).mono ?_; rintro e w3 ⟨rfl,hq3⟩; have h3:=(HST.out nq).quiet hp hq3; obtain ⟨g1,g2,g3,g4,g5,g6,g7,_,_,_⟩:=h3.cells hp; have HS3:=Lib.hid h3; clear h3 hq3)
   go_step3
   show SetJ w p a n c V fo neg R 1 _ _ ∧ SetM p n 1 _ _ < n + 1 - i
   refine ⟨⟨i + 1,els,_,rfl,HS3.out.move hp (i + 1) (J:=(i : Int) + 1) (by omega),by rw [HM.out]; omega,by omega,.inr ⟨rfl,HRR.out⟩⟩,?_⟩
   unfold SetM
   rw [if_pos rfl]
   omega
 have c3' : (z == 93) = false:=by rw [beq_eq_false_iff_ne]; exact c3
 rw [setGo_more (by rw [List.getElem?_eq_getElem (by omega)]; simp) (fun e => c2 (H45.out.2 e)) (fun e => c3 (H93.out.2 e))] at hR
 have hgl:=oneP_le V HV.out i (by omega)
 have hO : ∀ w3,HasSt w p a n c V fo neg els (.slice a' m c') i w3 → Calls Tryz.prog 71 #[.pointer (some ⟨p,0,none⟩)] w3 (OneP w3 p a n c V fo (oneP V i)):=fun w3 h3 => oneC w3 p a n c V i fo h3.scan HV.out (by omega) hn (fun ad h => Nat.lt_of_lt_of_le (HA.out ad h) h3.grown.size)
 cases hG : oneP V i with
 | inl b =>
  rw [hG] at hR hO
  dsimp only at hR
  have HRR : Hid (setG fo neg R = .inl b):=Lib.hid (by rw [← hR]; rfl)
  have HO:=Lib.hid hO
  clear hR hO hG hgl
  go_wp2
  go_quiet ((go_at_call 48; exact Calls.quiet_of (HN.out _)))
  go_wp2_with (first | (go_at_call 48; refine (HN.out _).mono ?_; rintro e w3 ⟨rfl,hq3⟩; have h3:=(HST.out nq).quiet hp hq3; obtain ⟨g1,g2,g3,g4,g5,g6,g7,_,_,_⟩:=h3.cells hp; have HS3:=Lib.hid h3; clear h3 hq3) | (go_at_call 71; refine (HO.out w3 HS3.out).mono ?_; rintro e w4 ⟨hg4,⟨x,y,rfl⟩,hs4⟩; have h4:=HS3.out.step hp hg4 hs4; have HS4:=Lib.hid h4; clear h4 hg4 hs4))
  try rw [jumps_ret]
  go_ret2
  have hD:=HS4.out.alloc hp (.cells #[.int .i32 x,.int .i64 y] 91)
  unfold AtP
  rw [HRR.out]
  exact ⟨hD.grown,rfl,hD.scan⟩
 | inr t =>
  obtain ⟨k,v,j⟩:=t
  rw [hG] at hR hO hgl
  dsimp only at hR
  obtain ⟨hij,hjl,hok⟩:=hgl
  by_cases hk : k = 0
  ·subst hk
   rw [if_pos rfl] at hR
   replace hok:=hok rfl
   obtain ⟨x,y,hxy⟩ : ∃ x y : Int,tokV v = .agg #[.int .i32 x,.int .i64 y]:=⟨_,_,rfl⟩
   have hO1 : ∀ w3,HasSt w p a n c V fo neg els (.slice a' m c') i w3 → Calls Tryz.prog 71 #[.pointer (some ⟨p,0,none⟩)] w3 fun e w' => w3.grownBy w' (some p) ∧ Scan w' p a n c V j fo ∧ e = .returned (.tuple #[.agg #[.int .i32 x,.int .i64 y],.nilFunc,.bool true]):=fun w3 h3 => (hO w3 h3).mono (by
    rintro e w' ⟨h1,h2,h3 | h3⟩
    ·rw [hxy] at h3; exact ⟨h1,h2,h3.2⟩
    ·exact absurd rfl h3.1)
   have HO:=Lib.hid hO1
   have HXY:=Lib.hid hxy
   have HOK:=Lib.hid hok
   obtain ⟨z2,hz2⟩ : ∃ z,nowI V j = z:=⟨_,rfl⟩
   have hN2 : ∀ W' : World,Scan W' p a n c V j fo → Calls Tryz.prog 48 #[.pointer (some ⟨p,0,none⟩)] W' fun e w'' => e = .returned (.int .i32 z2) ∧ Quiet W' w'':=by
    intro W' hs
    rw [← hz2]
    exact nowC W' p a n c V j fo hs HV.out (by omega) (by omega)
   have HN2:=Lib.hid hN2
   have hz45 : z2 = 45 ↔ V[j]? = some 45:=by rw [← hz2]; exact nowI_eq HV.out (by decide)
   clear hO hO1 hG hxy hok hN2 hz2
   by_cases d1 : z2 = 45
   ·rw [if_pos (hz45.1 d1)] at hR
    subst d1
    have hhl:=highP_le V HV.out (j + 1) v (by have:=lt_of_some (hz45.1 rfl); omega)
    have hjn : j < n:=by have:=lt_of_some (hz45.1 rfl); omega
    have hH : ∀ W' : World,Scan W' p a n c V (j + 1) fo → w.heap.size ≤ W'.heap.size → Calls Tryz.prog 72 #[.pointer (some ⟨p,0,none⟩),.agg #[.int .i32 x,.int .i64 y]] W' (HighP W' p a n c V fo (highP V (j + 1) v)):=by
     intro W' hs hsz
     rw [← HXY.out]
     exact highC W' p a n c V (j + 1) fo v hs HV.out (by omega) hn HOK.out (fun ad h => Nat.lt_of_lt_of_le (HA.out ad h) hsz)
    clear hz45
    cases hG2 : highP V (j + 1) v with
    | inl b =>
     rw [hG2] at hR hH
     dsimp only at hR
     have HRR : Hid (setG fo neg R = .inl b):=Lib.hid (by rw [← hR]; rfl)
     have HH:=Lib.hid hH
     clear hR hH hG2 hhl
     go_wp2
     go_quiet ((go_at_call 48; exact Calls.quiet_of (HN.out _)))
     go_wp2_with (first | (go_at_call 48; refine (HN.out _).mono ?_; rintro e w3 ⟨rfl,hq3⟩; have h3:=(HST.out nq).quiet hp hq3; obtain ⟨g1,g2,g3,g4,g5,g6,g7,_,_,_⟩:=h3.cells hp; have HS3:=Lib.hid h3; clear h3 hq3) | (go_at_call 71; refine (HO.out w3 HS3.out).mono ?_; rintro e w4 ⟨hg4,hs4,rfl⟩; have h4:=HS3.out.step hp hg4 hs4; obtain ⟨i1,i2,i3,i4,i5,i6,i7,_,_,_⟩:=h4.cells hp; have HS4:=Lib.hid h4; clear h4 hg4 hs4) | (go_at_call 48; refine (HN2.out ((w4.alloc (.cells #[.int .i32 x,.int .i64 y] 91)).alloc (.cells #[.int .i32 x,.int .i64 y] 91)) ((HS4.out.alloc hp (.cells #[.int .i32 x,.int .i64 y] 91)).alloc hp (.cells #[.int .i32 x,.int .i64 y] 91)).scan).mono ?_; rintro e w6 ⟨rfl,hq6⟩; have t6:=two_new p hq6; have h6:=((HS4.out.alloc hp (.cells #[.int .i32 x,.int .i64 y] 91)).alloc hp (.cells #[.int .i32 x,.int .i64 y] 91)).quiet hp hq6; have jj1:=t6.1.cell 0; have jj2:=t6.1.cell 1; have jj3:=t6.2.1.frozen 0; have jj4:=t6.2.1.frozen 1; obtain ⟨jj5,jj6,jj7,jj8,jj9,jj10,jj11,_,_,_⟩:=h6.cells hp; have jj12:=t6.1.lt; have jj13:=t6.2.1.lt; have jj14 : p ≠ w4.heap.size:=(by omega); have jj15 : p ≠ w4.heap.size + 1:=(by omega); have HS6:=Lib.hid h6; have T6:=Lib.hid t6; clear t6 hq6 h6) | (go_at_call 72; refine (HH.out (w6.setCell ⟨p,1,none⟩ (.int .i64 ((j : Int) + 1))) (HS6.out.move hp (j + 1) (J:=(j : Int) + 1) (by omega)).scan (HS6.out.move hp (j + 1) (J:=(j : Int) + 1) (by omega)).grown.size).mono ?_; rintro e w8 ⟨hg8,⟨x2,y2,rfl⟩,hs8⟩; have h8:=(HS6.out.move hp (j + 1) (J:=(j : Int) + 1) (by omega)).step hp hg8 hs8; have t8:=two_step (two_step T6.out (by omega) (grownBy_set w6 p 1 _)) (by omega) hg8; have o1:=t8.2.1.frozen 0; have o2:=t8.2.1.frozen 1; have o3:=t8.2.1.cell 0; have o4:=t8.2.1.cell 1; have o5:=t8.2.1.lt; have o6:=t8.1.lt; obtain ⟨p1,p2,p3,p4,p5,p6,p7,_,_,_⟩:=h8.cells hp; have HS8:=Lib.hid h8; have T8:=Lib.hid t8; clear h8 t8 hg8 hs8))
     try rw [jumps_ret]
     go_ret2
     have s4:=HS4.out.grown.size
     have hg:=grown_then (grownBy_set w8 (w4.heap.size + 1) 0 (.int .i32 x2)) (grownBy_set (w8.setCell ⟨w4.heap.size + 1,0,none⟩ (.int .i32 x2)) (w4.heap.size + 1) 1 (.int .i64 y2)) (fun j h => .inr h)
     unfold AtP
     rw [HRR.out]
     exact ⟨grown_then HS8.out.grown hg (fun j h => by cases h; exact .inl (by omega)),rfl,HS8.out.scan.grown hg (by omega) (fun ad h => by have:=HA.out ad h; omega)⟩
    | inr t2 =>
     obtain ⟨hv,j2⟩:=t2
     rw [hG2] at hR hH hhl
     dsimp only at hR
     obtain ⟨q1,q2,q3,q4,q5⟩:=hhl
     have HRR : Hid (setGo V f j2 (els ++ [.rng v hv]) = R):=Lib.hid hR
     obtain ⟨x',y',hxy'⟩ : ∃ x y : Int,tokV hv = .agg #[.int .i32 x,.int .i64 y]:=⟨_,_,rfl⟩
     have hH1 : ∀ W' : World,Scan W' p a n c V (j + 1) fo → w.heap.size ≤ W'.heap.size → Calls Tryz.prog 72 #[.pointer (some ⟨p,0,none⟩),.agg #[.int .i32 x,.int .i64 y]] W' fun e w' => W'.grownBy w' (some p) ∧ e = .returned (.tuple #[.agg #[.int .i32 x',.int .i64 y'],.bool true]) ∧ Scan w' p a n c V j2 fo:=fun W' h1 h2 => (hH W' h1 h2).mono (by
      rintro e w' ⟨r1,r2,r3⟩
      rw [hxy'] at r2
      exact ⟨r1,r2,r3⟩)
     have HH:=Lib.hid hH1
     have HXY2:=Lib.hid hxy'
     clear hR hH hH1 hG2 hxy'
     go_wp2
     go_quiet ((go_at_call 48; exact Calls.quiet_of (HN.out _)))
     go_wp2_with (first | (go_at_call 48; refine (HN.out _).mono ?_; rintro e w3 ⟨rfl,hq3⟩; have h3:=(HST.out nq).quiet hp hq3; obtain ⟨g1,g2,g3,g4,g5,g6,g7,_,_,_⟩:=h3.cells hp; have HS3:=Lib.hid h3; clear h3 hq3) | (go_at_call 71; refine (HO.out w3 HS3.out).mono ?_; rintro e w4 ⟨hg4,hs4,rfl⟩; have h4:=HS3.out.step hp hg4 hs4; obtain ⟨i1,i2,i3,i4,i5,i6,i7,_,_,_⟩:=h4.cells hp; have HS4:=Lib.hid h4; clear h4 hg4 hs4) | (go_at_call 48; refine (HN2.out ((w4.alloc (.cells #[.int .i32 x,.int .i64 y] 91)).alloc (.cells #[.int .i32 x,.int .i64 y] 91)) ((HS4.out.alloc hp (.cells #[.int .i32 x,.int .i64 y] 91)).alloc hp (.cells #[.int .i32 x,.int .i64 y] 91)).scan).mono ?_; rintro e w6 ⟨rfl,hq6⟩; have t6:=two_new p hq6; have h6:=((HS4.out.alloc hp (.cells #[.int .i32 x,.int .i64 y] 91)).alloc hp (.cells #[.int .i32 x,.int .i64 y] 91)).quiet hp hq6; have jj1:=t6.1.cell 0; have jj2:=t6.1.cell 1; have jj3:=t6.2.1.frozen 0; have jj4:=t6.2.1.frozen 1; obtain ⟨jj5,jj6,jj7,jj8,jj9,jj10,jj11,_,_,_⟩:=h6.cells hp; have jj12:=t6.1.lt; have jj13:=t6.2.1.lt; have jj14 : p ≠ w4.heap.size:=(by omega); have jj15 : p ≠ w4.heap.size + 1:=(by omega); have HS6:=Lib.hid h6; have T6:=Lib.hid t6; clear t6 hq6 h6) | (go_at_call 72; refine (HH.out (w6.setCell ⟨p,1,none⟩ (.int .i64 ((j : Int) + 1))) (HS6.out.move hp (j + 1) (J:=(j : Int) + 1) (by omega)).scan (HS6.out.move hp (j + 1) (J:=(j : Int) + 1) (by omega)).grown.size).mono ?_; rintro e w8 ⟨hg8,rfl,hs8⟩; have h8:=(HS6.out.move hp (j + 1) (J:=(j : Int) + 1) (by omega)).step hp hg8 hs8; have t8:=two_step (two_step T6.out (by omega) (grownBy_set w6 p 1 _)) (by omega) hg8; have o1:=t8.2.1.frozen 0; have o2:=t8.2.1.frozen 1; have o3:=t8.2.1.cell 0; have o4:=t8.2.1.cell 1; have o5:=t8.2.1.lt; have o6:=t8.1.lt; obtain ⟨p1,p2,p3,p4,p5,p6,p7,_,_,_⟩:=h8.cells hp; have HS8:=Lib.hid h8; have T8:=Lib.hid t8; clear h8 t8 hg8 hs8) | (at_builtin; have hwp:=range_wp (x2:=.int .i32 x') (y2:=.int .i64 y') HS4.out hp HA.out T8.out HS8.out.scan; obtain ⟨fs,hown,hfs⟩:=hwp.funs; rw [List.length_map,HM.out] at hown; have HOWN:=Lib.hid hown; have HFS:=Lib.hid hfs; have HWS:=Lib.hid hwp.size; have HWP:=Lib.hid hwp; clear hown hfs hwp; refine appSep rfl _ _ rfl Tryz.underlying154 .nilFunc 1 8 infoFn rfl (by decide) (by decide) (w.heap.size + 2) (((w8.setCell ⟨w4.heap.size + 1,0,none⟩ (.int .i32 x')).setCell ⟨w4.heap.size + 1,1,none⟩ (.int .i64 y'))) (.slice a' m c') m fs [.func (.func 73) #[] #[.pointer (some ⟨w4.heap.size,0,none⟩),.pointer (some ⟨w4.heap.size + 1,0,none⟩)]] rfl (by intro u hu; simp only [List.mem_singleton] at hu; subst hu; rfl) rfl HOWN.out (show Value.slice (some ⟨w8.heap.size,0,none⟩) 1 1 = Value.slice (some ⟨(((w8.setCell ⟨w4.heap.size + 1,0,none⟩ (.int .i32 x')).setCell ⟨w4.heap.size + 1,1,none⟩ (.int .i64 y'))).heap.size,0,none⟩) 1 1 by simp) rfl (by omega) HWS.out ?_; intro v8 w8 hp8; obtain ⟨g8,cap8,rfl⟩:=app_shape hp8; have hbx:=hp8.below HOWN.out HWS.out; have k1:=(HWP.out.box.keep hbx (by omega)).frozen 0; have k2:=(HWP.out.box.keep hbx (by omega)).lt; have k3:=(HWP.out.box.keep hbx (by omega)).cell 0; have HP8:=Lib.hid hp8; clear hp8 hbx))
     go_step3
     have hpush:=HWP.out.push (e:=.rng v hv) hp HA.out (by rw [HM.out]; exact HOWN.out) HFS.out (by rw [HM.out]; exact HP8.out) ⟨_,fun b hb => by
      have:=HS4.out.size
      rcases hb with rfl | rfl <;> omega,fun b hb hk => by
      have:=HS4.out.funs.blk hb
      rcases hk with rfl | rfl <;> omega,set1F HOK.out (.inl q4) (.inr ⟨q5,q4,q3⟩) HXY.out HXY2.out ((T8.out.1.other (by show w4.heap.size + 1 ≠ w4.heap.size; omega) _).other (by show w4.heap.size + 1 ≠ w4.heap.size; omega) _) ((T8.out.2.1.set 0 _).set 1 _)⟩
     show SetJ w p a n c V fo neg R 0 _ _ ∧ SetM p n 0 _ _ < n + 1 - i
     refine ⟨⟨j2,els ++ [.rng v hv],_,rfl,hpush,by rw [List.length_append,HM.out,List.length_singleton]; omega,by omega,.inl ⟨rfl,f,by omega,HRR.out⟩⟩,?_⟩
     rw [SetM_at hpush]
     omega
   ·rw [if_neg (fun e => d1 (hz45.2 e))] at hR
    have d1' : (z2 == 45) = false:=by rw [beq_eq_false_iff_ne]; exact d1
    have HRR : Hid (setGo V f j (els ++ [.rng v v]) = R):=Lib.hid hR
    clear hR hz45
    go_wp2
    go_quiet ((go_at_call 48; exact Calls.quiet_of (HN.out _)))
    go_wp2_with (first | (go_at_call 48; refine (HN.out _).mono ?_; rintro e w3 ⟨rfl,hq3⟩; have h3:=(HST.out nq).quiet hp hq3; obtain ⟨g1,g2,g3,g4,g5,g6,g7,_,_,_⟩:=h3.cells hp; have HS3:=Lib.hid h3; clear h3 hq3) | (go_at_call 71; refine (HO.out w3 HS3.out).mono ?_; rintro e w4 ⟨hg4,hs4,rfl⟩; have h4:=HS3.out.step hp hg4 hs4; obtain ⟨i1,i2,i3,i4,i5,i6,i7,_,_,_⟩:=h4.cells hp; have HS4:=Lib.hid h4; clear h4 hg4 hs4) | (go_at_call 48; refine (HN2.out ((w4.alloc (.cells #[.int .i32 x,.int .i64 y] 91)).alloc (.cells #[.int .i32 x,.int .i64 y] 91)) ((HS4.out.alloc hp (.cells #[.int .i32 x,.int .i64 y] 91)).alloc hp (.cells #[.int .i32 x,.int .i64 y] 91)).scan).mono ?_; rintro e w6 ⟨rfl,hq6⟩; have t6:=two_new p hq6; have hwp:=((HS4.out.alloc hp (.cells #[.int .i32 x,.int .i64 y] 91)).alloc hp (.cells #[.int .i32 x,.int .i64 y] 91)).quiet hp hq6; have jj1:=t6.1.cell 0; have jj2:=t6.1.cell 1; have jj3:=t6.2.1.cell 0; have jj4:=t6.2.1.cell 1; obtain ⟨jj5,jj6,jj7,jj8,jj9,jj10,jj11,_,_,_⟩:=hwp.cells hp; obtain ⟨fs,hown,hfs⟩:=hwp.funs; rw [List.length_map,HM.out] at hown; have HOWN:=Lib.hid hown; have HFS:=Lib.hid hfs; have HWS:=Lib.hid hwp.size; have HWP:=Lib.hid hwp; clear hown hfs hwp; have T6:=Lib.hid t6; clear t6 hq6) | (at_builtin; refine appSep rfl _ _ rfl Tryz.underlying154 .nilFunc 1 8 infoFn rfl (by decide) (by decide) (w.heap.size + 2) (w6) (.slice a' m c') m fs [.func (.func 73) #[] #[.pointer (some ⟨w4.heap.size,0,none⟩),.pointer (some ⟨w4.heap.size + 1,0,none⟩)]] rfl (by intro u hu; simp only [List.mem_singleton] at hu; subst hu; rfl) rfl HOWN.out rfl rfl (by omega) HWS.out ?_; intro v8 w8 hp8; obtain ⟨g8,cap8,rfl⟩:=app_shape hp8; have hbx:=hp8.below HOWN.out HWS.out; have k1:=(HWP.out.box.keep hbx (by omega)).frozen 0; have k2:=(HWP.out.box.keep hbx (by omega)).lt; have k3:=(HWP.out.box.keep hbx (by omega)).cell 0; have HP8:=Lib.hid hp8; clear hp8 hbx))
    go_step3
    have hpush:=HWP.out.push (e:=.rng v v) hp HA.out (by rw [HM.out]; exact HOWN.out) HFS.out (by rw [HM.out]; exact HP8.out) ⟨_,fun b hb => by
     have:=HS4.out.size
     rcases hb with rfl | rfl <;> omega,fun b hb hk => by
     have:=HS4.out.funs.blk hb
     rcases hk with rfl | rfl <;> omega,set1F HOK.out HOK.out (.inl rfl) HXY.out HXY.out T6.out.1 T6.out.2.1⟩
    show SetJ w p a n c V fo neg R 0 _ _ ∧ SetM p n 0 _ _ < n + 1 - i
    refine ⟨⟨j,els ++ [.rng v v],_,rfl,hpush,by rw [List.length_append,HM.out,List.length_singleton]; omega,by omega,.inl ⟨rfl,f,by omega,HRR.out⟩⟩,?_⟩
    rw [SetM_at hpush]
    omega
  ·rw [if_neg hk] at hR
   have HRR : Hid (setGo V f j (els ++ [.kind k]) = R):=Lib.hid hR
   have hO1 : ∀ w3,HasSt w p a n c V fo neg els (.slice a' m c') i w3 → Calls Tryz.prog 71 #[.pointer (some ⟨p,0,none⟩)] w3 fun e w' => w3.grownBy w' (some p) ∧ Scan w' p a n c V j fo ∧ ∃ (x y : Int) (g : FuncId) (cs : Array Value),e = .returned (.tuple #[.agg #[.int .i32 x,.int .i64 y],.func (.func g) #[] cs,.bool true]) ∧ FunIv w3.heap.size w' (.func (.func g) #[] cs) (elHas (.kind k)):=fun w3 h3 => (hO w3 h3).mono (by
    rintro e w' ⟨h1,h2,h3 | ⟨_,x,y,f,h3,h4⟩⟩
    ·exact absurd h3.1 hk
    ·obtain ⟨g,cs,rfl⟩:=FunAt.shape h4
     exact ⟨h1,h2,x,y,g,cs,h3,h4⟩)
   have HO:=Lib.hid hO1
   clear hO hO1 hG hok hR
   go_wp2
   go_quiet ((go_at_call 48; exact Calls.quiet_of (HN.out _)))
   go_wp2_with (first | (go_at_call 48; refine (HN.out _).mono ?_; rintro e w3 ⟨rfl,hq3⟩; have h3:=(HST.out nq).quiet hp hq3; obtain ⟨g1,g2,g3,g4,g5,g6,g7,_,_,_⟩:=h3.cells hp; have HS3:=Lib.hid h3; clear h3 hq3) | (go_at_call 71; refine (HO.out w3 HS3.out).mono ?_; rintro e w4 ⟨hg4,hs4,x,y,g,cs,rfl,hf4⟩; have hwp:=(HS3.out.step hp hg4 hs4).alloc hp (.cells #[.int .i32 x,.int .i64 y] 91); have HF4:=Lib.hid hf4; have HG4:=Lib.hid hg4; obtain ⟨i1,i2,i3,i4,i5,i6,i7,_,_,_⟩:=(HS3.out.step hp hg4 hs4).cells hp; obtain ⟨fs,hown,hfs⟩:=hwp.funs; rw [List.length_map,HM.out] at hown; have HOWN:=Lib.hid hown; have HFS:=Lib.hid hfs; have HWS:=Lib.hid hwp.size; have HWP:=Lib.hid hwp; clear hown hfs hwp; clear hg4 hs4 hf4) | (at_builtin; refine appSep rfl _ _ rfl Tryz.underlying154 .nilFunc 1 8 infoFn rfl (by decide) (by decide) (w.heap.size + 2) (w4.alloc (.cells #[.int .i32 x,.int .i64 y] 91)) (.slice a' m c') m fs [.func (.func g) #[] cs] rfl (by intro u hu; simp only [List.mem_singleton] at hu; subst hu; rfl) rfl HOWN.out (show Value.slice (some ⟨w4.heap.size + 1,0,none⟩) 1 1 = Value.slice (some ⟨(w4.alloc (.cells #[.int .i32 x,.int .i64 y] 91)).heap.size,0,none⟩) 1 1 by simp) rfl (by omega) HWS.out ?_; intro v8 w8 hp8; obtain ⟨g8,cap8,rfl⟩:=app_shape hp8; have hbx:=hp8.below HOWN.out HWS.out; have k1:=(HWP.out.box.keep hbx (by omega)).frozen 0; have k2:=(HWP.out.box.keep hbx (by omega)).lt; have k3:=(HWP.out.box.keep hbx (by omega)).cell 0; have HP8:=Lib.hid hp8; clear hp8 hbx))
   go_step3
   have hpush:=HWP.out.push (e:=.kind k) hp HA.out (by rw [HM.out]; exact HOWN.out) HFS.out (by rw [HM.out]; exact HP8.out) ⟨fun b => w3.heap.size ≤ b ∧ b < w4.heap.size,fun b hb => Nat.le_trans HS3.out.size hb.1,fun b hb hk => by
    have:=HS3.out.funs.blk hb
    omega,FunAt.keep HF4.out (fun b hb => ((Below.refl w4.heap.size w4).alloc (Nat.le_refl _) (.cells #[.int .i32 x,.int .i64 y] 91)).block b hb.2) (by rw [World.size_alloc]; omega)⟩
   show SetJ w p a n c V fo neg R 0 _ _ ∧ SetM p n 0 _ _ < n + 1 - i
   refine ⟨⟨j,els ++ [.kind k],_,rfl,hpush,by rw [List.length_append,HM.out,List.length_singleton]; omega,by omega,.inl ⟨rfl,f,by omega,HRR.out⟩⟩,?_⟩
   rw [SetM_at hpush]
   omega
end Go.Proofs.YtchdeboialbdiaaGreatDoor
