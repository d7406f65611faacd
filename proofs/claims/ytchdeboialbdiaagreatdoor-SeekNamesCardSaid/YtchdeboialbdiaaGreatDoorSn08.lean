/- Texts joined, one behind the other (SOne). -/
import Derived.Test.YtchdeboialbdiaaGreatDoorSn07
import Derived.BigRegion
import Derived.Deep.DeepCutAuto
import Derived.Deep.CutBlock
namespace Go.Proofs.YtchdeboialbdiaaGreatDoor
set_option linter.unusedVariables false
set_option linter.unusedSimpArgs false
set_option maxHeartbeats 8000000
set_option maxRecDepth 100000
open Go.RowKit
open Go.Lib hiding intOf
theorem tokNq (w : World) (x y a b : Int) : (binOp .neq 91 (.agg #[.int .i32 x,.int .i64 y]) (.agg #[.int .i32 a,.int .i64 b])).run Tryz.prog w = .ok (.bool (!(x == a && y == b))) w:=by
 rw [run_neq_struct]
 by_cases h1 : x = a
 ·by_cases h2 : y = b
  ·subst h1 h2
   go_simp
  ·have q : (y == b) = false:=by simpa using h2
   subst h1
   rw [q]
   go_simp
 ·have q : (x == a) = false:=by simpa using h1
  rw [q]
  go_simp
theorem tokQl (w : World) (x y a b : Int) : (binOp .eql 91 (.agg #[.int .i32 x,.int .i64 y]) (.agg #[.int .i32 a,.int .i64 b])).run Tryz.prog w = .ok (.bool (x == a && y == b)) w:=by
 rw [run_eql_struct]
 by_cases h1 : x = a
 ·by_cases h2 : y = b
  ·subst h1 h2
   go_simp
  ·have q : (y == b) = false:=by simpa using h2
   subst h1
   rw [q]
   go_simp
 ·have q : (x == a) = false:=by simpa using h1
  rw [q]
  go_simp
def OneP (w : World) (p : Nat) (a : Option Addr) (n c : Nat) (V : List Nat) (fo : Bool) (G : Got) (e : Ending) (w' : World) : Prop :=
 w.grownBy w' (some p) ∧ match G with
  | .inl b => (∃ x y : Int,e = .returned (.tuple #[.agg #[.int .i32 x,.int .i64 y],.nilFunc,.bool false])) ∧ Scan w' p a n c V b fo
  | .inr (k,v,j) => Scan w' p a n c V j fo ∧ ((k = 0 ∧ e = .returned (.tuple #[tokV v,.nilFunc,.bool true])) ∨ (k ≠ 0 ∧ ∃ (x y : Int) (f : Value),e = .returned (.tuple #[.agg #[.int .i32 x,.int .i64 y],f,.bool true]) ∧ FunAt (fun b => w.heap.size ≤ b ∧ b < w'.heap.size) w' f (elHas (.kind k))))
def OneSt (w : World) (p : Nat) (a : Option Addr) (n c : Nat) (V : List Nat) (fo : Bool) (j : Nat) (x y x' y' : Value) (W : World) : Prop :=
 w.grownBy W (some p) ∧ Scan W p a n c V j fo ∧ Row W w.heap.size 91 [x,y] ∧ Row W (w.heap.size + 1) 91 [x',y'] ∧ w.heap.size + 2 ≤ W.heap.size
theorem OneSt.start {w : World} {p : Nat} {a : Option Addr} {n c : Nat} {V : List Nat} {i : Nat} {fo : Bool} (h : Scan w p a n c V i fo) (ha : ∀ ad,a = some ad → ad.block < w.heap.size) (x y x' y' : Value) :
  OneSt w p a n c V fo (i + 1) x y x' y' (((w.setCell ⟨p,1,none⟩ (.int .i64 ((i : Int) + 1))).alloc (.cells #[x,y] 91)).alloc (.cells #[x',y'] 91)).drew:=by
 have hm:=h.move (i + 1)
 rw [show ((i + 1 : Nat) : Int) = (i : Int) + 1 by omega] at hm
 have hg:=grownBy_set w p 1 (.int .i64 ((i : Int) + 1))
 generalize hw1 : w.setCell ⟨p,1,none⟩ (.int .i64 ((i : Int) + 1)) = w1 at *
 have hsz : w1.heap.size = w.heap.size:=by rw [← hw1]; exact World.size_setCell _ _ _
 have hb1 : Below w1.heap.size w1 ((w1.alloc (.cells #[x,y] 91)).alloc (.cells #[x',y'] 91)):=((Below.refl _ w1).alloc (Nat.le_refl _) _).alloc (by simp) _
 have hb2 : Below w1.heap.size w1 ((w1.alloc (.cells #[x,y] 91)).alloc (.cells #[x',y'] 91)).drew:=hb1.trans (Quiet.below ⟨1,rfl⟩ _)
 have r1 : Row ((w1.alloc (.cells #[x,y] 91)).alloc (.cells #[x',y'] 91)) w1.heap.size 91 [x,y]:=(row_new w1 [x,y] _).alloc _
 have r2 : Row ((w1.alloc (.cells #[x,y] 91)).alloc (.cells #[x',y'] 91)) (w1.heap.size + 1) 91 [x',y']:=by
  have:=row_new (w1.alloc (.cells #[x,y] 91)) [x',y'] 91
  rwa [World.size_alloc] at this
 rw [hsz] at r1 r2
 refine ⟨grown_then hg (r':=none) (grown_of_below hb2 none) (fun j h => by cases h),hm.keep hb2 (Nat.le_refl _),r1.keep (Quiet.below ⟨1,rfl⟩ _) r1.lt,r2.keep (Quiet.below ⟨1,rfl⟩ _) r2.lt,?_⟩
 show w.heap.size + 2 ≤ ((w1.alloc _).alloc _).heap.size
 rw [World.size_alloc,World.size_alloc,hsz]
 exact Nat.le_refl _
theorem OneSt.quiet {w W W' : World} {p n c j : Nat} {a : Option Addr} {V : List Nat} {fo : Bool} {x y x' y' : Value} (h : OneSt w p a n c V fo j x y x' y' W) (hq : Quiet W W') : OneSt w p a n c V fo j x y x' y' W':=by
 obtain ⟨m,rfl⟩:=hq
 obtain ⟨h1,h2,h3,h4,h5⟩:=h
 exact ⟨grown_quiet h1 m,h2.quiet m,h3.keep (Quiet.below (w':=W.drewN m) ⟨m,rfl⟩ W.heap.size) h3.lt,h4.keep (Quiet.below (w':=W.drewN m) ⟨m,rfl⟩ W.heap.size) h4.lt,h5⟩
theorem OneSt.set5 {w W : World} {p n c j : Nat} {a : Option Addr} {V : List Nat} {fo : Bool} {x y x' y' : Value} (h : OneSt w p a n c V fo j x y x' y' W) (hp : p < w.heap.size) (ha : ∀ ad,a = some ad → ad.block < w.heap.size) (u : Value) : OneSt w p a n c V fo j x y u y' (W.setCell ⟨w.heap.size + 1,0,none⟩ u):=by
 obtain ⟨h1,h2,h3,h4,h5⟩:=h
 have g1:=grownBy_set W (w.heap.size + 1) 0 u
 have na : ∀ ad,a = some ad → ad.block ≠ w.heap.size + 1:=fun ad h => by have:=ha ad h; omega
 exact ⟨grown_then h1 g1 (fun j h => by cases h; exact .inl (by omega)),h2.grown g1 (by omega) na,h3.other (by show w.heap.size + 1 ≠ w.heap.size; omega) _,h4.set 0 u,by rw [World.size_setCell]; exact h5⟩
theorem OneSt.move {w W : World} {p n c j : Nat} {a : Option Addr} {V : List Nat} {fo : Bool} {x y x' y' : Value} (h : OneSt w p a n c V fo j x y x' y' W) (hp : p < w.heap.size) {J : Int} (hJ : J = ((j + 1 : Nat) : Int)) : OneSt w p a n c V fo (j + 1) x y x' y' (W.setCell ⟨p,1,none⟩ (.int .i64 J)):=by
 obtain ⟨h1,h2,h3,h4,h5⟩:=h
 subst hJ
 exact ⟨grown_then h1 (grownBy_set _ p 1 _) (fun j h => by cases h; exact .inr rfl),h2.move (j + 1),h3.other (by show p ≠ w.heap.size; omega) _,h4.other (by show p ≠ w.heap.size + 1; omega) _,by rw [World.size_setCell]; exact h5⟩
theorem OneSt.set2 {w W : World} {p n c j : Nat} {a : Option Addr} {V : List Nat} {fo : Bool} {x y x' y' : Value} (h : OneSt w p a n c V fo j x y x' y' W) (hp : p < w.heap.size) (ha : ∀ ad,a = some ad → ad.block < w.heap.size) (u v : Value) : OneSt w p a n c V fo j u v x' y' ((W.setCell ⟨w.heap.size,0,none⟩ u).setCell ⟨w.heap.size,1,none⟩ v):=by
 obtain ⟨h1,h2,h3,h4,h5⟩:=h
 obtain ⟨t1,t2,t3⟩:=tok_done (x:=u) (y:=v) h1 h2 h3 hp ha
 exact ⟨t3,t2,t1,(h4.other (by show w.heap.size ≠ w.heap.size + 1; omega) _).other (by show w.heap.size ≠ w.heap.size + 1; omega) _,by rw [World.size_setCell,World.size_setCell]; exact h5⟩
theorem OneSt.alloc {w W : World} {p n c j : Nat} {a : Option Addr} {V : List Nat} {fo : Bool} {x y x' y' : Value} (h : OneSt w p a n c V fo j x y x' y' W) (o : Obj) : OneSt w p a n c V fo j x y x' y' (W.alloc o):=by
 obtain ⟨h1,h2,h3,h4,h5⟩:=h
 have hb : Below W.heap.size W (W.alloc o):=(Below.refl _ W).alloc (Nat.le_refl _) _
 exact ⟨grown_then h1 (r':=none) (grown_of_below hb none) (fun j h => by cases h),h2.keep hb (Nat.le_refl _),h3.alloc _,h4.alloc _,by rw [World.size_alloc]; omega⟩
theorem OneSt.grown {w W W' : World} {p n c j j' : Nat} {a : Option Addr} {V : List Nat} {fo : Bool} {x y x' y' : Value} (h : OneSt w p a n c V fo j x y x' y' W) (hp : p < w.heap.size) (hg : W.grownBy W' (some p)) (hs : Scan W' p a n c V j' fo) : OneSt w p a n c V fo j' x y x' y' W':=by
 obtain ⟨h1,h2,h3,h4,h5⟩:=h
 exact ⟨grown_then h1 hg (fun j h => by cases h; exact .inr rfl),hs,(hg.block w.heap.size h3.lt (fun e => by cases e; omega)).trans h3,(hg.block (w.heap.size + 1) h4.lt (fun e => by cases e; omega)).trans h4,Nat.le_trans h5 hg.size⟩
def markI (z : Int) : Bool:=(decide (33 ≤ z) && decide (z ≤ 47)) || (decide (58 ≤ z) && decide (z ≤ 64)) || (decide (91 ≤ z) && decide (z ≤ 96)) || (decide (123 ≤ z) && decide (z ≤ 126))
theorem hexP_zero {V : List Nat} {i k v j : Nat} (h : hexP V i = .inr (k,v,j)) : k = 0:=by
 unfold hexP at h
 split at h
 ·cases h
 ·split at h
  ·cases h
  ·cases h; rfl
theorem runeP_zero {V : List Nat} {i k v j : Nat} (h : runeP V i = .inr (k,v,j)) : k = 0:=by
 unfold runeP at h
 split at h
 ·dsimp only at h
  split at h
  ·cases h
  ·cases h; rfl
 ·cases h
theorem one_next {V : List Nat} {i : Nat} (hV : OkV V) (hv : V[i]? = some 92) {z : Int} (hz : nowI V (i + 1) = z) :
  oneP V i = if markI z = true then .inr (0,z.toNat,i + 2) else if z = 110 then .inr (0,10,i + 2) else if z = 114 then .inr (0,13,i + 2) else if z = 116 then .inr (0,9,i + 2) else if z = 119 ∨ z = 87 ∨ z = 115 ∨ z = 83 then .inr (z.toNat,0,i + 2) else if z = 120 then hexP V (i + 2) else if z = 117 then runeP V (i + 2) else .inl (i + 1):=by
 unfold oneP
 rw [hv]
 dsimp only
 rw [if_pos rfl]
 unfold nowI at hz
 cases hw : V[i + 1]? with
 | none =>
  rw [hw] at hz
  subst hz
  rfl
 | some v =>
  rw [hw] at hz
  dsimp only at hz ⊢
  by_cases hr : v < wrongN
  ·rw [if_pos hr] at hz
   subst hz
   have e : markI (v : Int) = markN v:=by
    unfold markI markN
    have d0 : decide ((33 : Int) ≤ (v : Int)) = decide (33 ≤ v):=by rw [decide_eq_decide]; omega
    have d1 : decide ((v : Int) ≤ 47) = decide (v ≤ 47):=by rw [decide_eq_decide]; omega
    have d2 : decide ((58 : Int) ≤ (v : Int)) = decide (58 ≤ v):=by rw [decide_eq_decide]; omega
    have d3 : decide ((v : Int) ≤ 64) = decide (v ≤ 64):=by rw [decide_eq_decide]; omega
    have d4 : decide ((91 : Int) ≤ (v : Int)) = decide (91 ≤ v):=by rw [decide_eq_decide]; omega
    have d5 : decide ((v : Int) ≤ 96) = decide (v ≤ 96):=by rw [decide_eq_decide]; omega
    have d6 : decide ((123 : Int) ≤ (v : Int)) = decide (123 ≤ v):=by rw [decide_eq_decide]; omega
    have d7 : decide ((v : Int) ≤ 126) = decide (v ≤ 126):=by rw [decide_eq_decide]; omega
    simp only [d0,d1,d2,d3,d4,d5,d6,d7]
   have q1 : ((v : Int) = 110) = (v = 110):=by rw [eq_iff_iff]; omega
   have q2 : ((v : Int) = 114) = (v = 114):=by rw [eq_iff_iff]; omega
   have q3 : ((v : Int) = 116) = (v = 116):=by rw [eq_iff_iff]; omega
   have q4 : ((v : Int) = 119) = (v = 119):=by rw [eq_iff_iff]; omega
   have q5 : ((v : Int) = 87) = (v = 87):=by rw [eq_iff_iff]; omega
   have q6 : ((v : Int) = 115) = (v = 115):=by rw [eq_iff_iff]; omega
   have q7 : ((v : Int) = 83) = (v = 83):=by rw [eq_iff_iff]; omega
   have q8 : ((v : Int) = 120) = (v = 120):=by rw [eq_iff_iff]; omega
   have q9 : ((v : Int) = 117) = (v = 117):=by rw [eq_iff_iff]; omega
   simp only [e,q1,q2,q3,q4,q5,q6,q7,q8,q9,Int.toNat_natCast]
  ·rw [if_neg hr] at hz
   subst hz
   have:=hV v (List.mem_of_getElem? hw)
   unfold wrongN at hr
   have hm : markN v = false:=by
    unfold markN
    simp only [Bool.or_eq_false_iff,Bool.and_eq_false_iff,decide_eq_false_iff_not]
    omega
   rw [hm,if_neg (by decide),if_neg (by omega),if_neg (by omega),if_neg (by omega),if_neg (by omega),if_neg (by omega),if_neg (by omega)]
   rfl
theorem oneC (w : World) (p : Nat) (a : Option Addr) (n c : Nat) (V : List Nat) (i : Nat) (fo : Bool) (h : Scan w p a n c V i fo) (hV : OkV V) (hin : i < n) (hn : n ≤ 67108800) (ha : ∀ ad,a = some ad → ad.block < w.heap.size) :
  Calls Tryz.prog 71 #[.pointer (some ⟨p,0,none⟩)] w (OneP w p a n c V fo (oneP V i)):=by
 have hp:=h.row.lt
 have hst:=OneSt.start h ha
 obtain ⟨b,off,v,rfl,hb,hv,c0,c1⟩:=h.toks.at hin
 have e0 : w.cell? ⟨p,0,none⟩ = some (.slice (some ⟨b,off,none⟩) n c):=h.row.cell 0
 have e1 : w.cell? ⟨p,1,none⟩ = some (.int .i64 (i : Int)):=h.row.cell 1
 have f1 : w.frozen? ⟨p,1,none⟩ = false:=h.row.frozen 1
 have hbp : b ≠ p:=h.apart _ rfl
 have hit : (i : Int) < (n : Int):=by omega
 have HST:=Lib.hid hst
 clear hst
 by_cases hbs : v = 92
 ·have hq : ∀ w',(binOp .neq 91 (.agg #[.int .i32 92,.int .i64 0]) (.agg #[.int .i32 92,.int .i64 0])).run Tryz.prog w' = .ok (.bool false) w':=fun w' => tokNq w' 92 0 92 0
  subst hbs
  have HS:=Lib.hid h
  have HV:=Lib.hid hV
  have HVI:=Lib.hid hv
  have HA:=Lib.hid ha
  clear h hV hv ha
  rw [show tokR 92 = 92 from rfl] at c0
  rw [show tokW 92 = 0 from rfl] at c1
  obtain ⟨w1,hw1⟩ : ∃ w1,w1 = (((w.setCell ⟨p,1,none⟩ (.int .i64 ((i : Int) + 1))).alloc (.cells #[.int .i32 0,.int .i64 0] 91)).alloc (.cells #[.int .i32 92,.int .i64 0] 91)).drew:=⟨_,rfl⟩
  have HE:=Lib.hid hw1
  have hS1:=HST.out (.int .i32 0) (.int .i64 0) (.int .i32 92) (.int .i64 0)
  rw [← hw1] at hS1
  have hN:=nowC w1 p _ n c V (i + 1) fo hS1.2.1 HV.out (by omega) (by omega)
  obtain ⟨z,hz⟩ : ∃ z,nowI V (i + 1) = z:=⟨_,rfl⟩
  rw [hz] at hN
  have hG : ∀ w3,Quiet w1 w3 → w3.cell? ⟨p,1,none⟩ = some (.int .i64 ((i : Int) + 1)) ∧ w3.frozen? ⟨p,1,none⟩ = false ∧ w3.cell? ⟨w.heap.size,0,none⟩ = some (.int .i32 0) ∧ w3.cell? ⟨w.heap.size,1,none⟩ = some (.int .i64 0) ∧ w3.frozen? ⟨w.heap.size,0,none⟩ = false ∧ w3.frozen? ⟨w.heap.size,1,none⟩ = false ∧ w3.cell? ⟨w.heap.size + 1,0,none⟩ = some (.int .i32 92) ∧ w3.cell? ⟨w.heap.size + 1,1,none⟩ = some (.int .i64 0) ∧ w3.frozen? ⟨w.heap.size + 1,0,none⟩ = false ∧ w3.frozen? ⟨w.heap.size + 1,1,none⟩ = false ∧ w.heap.size + 1 < w3.heap.size ∧ p < w3.heap.size ∧ w.heap.size < w3.heap.size ∧ p ≠ w.heap.size ∧ p ≠ w.heap.size + 1 ∧ w.heap.size ≠ w.heap.size + 1 ∧ Hid (OneSt w p (some ⟨b,off,none⟩) n c V fo (i + 1) (.int .i32 0) (.int .i64 0) (.int .i32 92) (.int .i64 0) w3):=by
   intro w3 hq3
   have h3:=hS1.quiet hq3
   have k1:=h3.2.1.row.cell 1
   rw [show ((i + 1 : Nat) : Int) = (i : Int) + 1 by omega] at k1
   exact ⟨k1,h3.2.1.row.frozen 1,h3.2.2.1.cell 0,h3.2.2.1.cell 1,h3.2.2.1.frozen 0,h3.2.2.1.frozen 1,h3.2.2.2.1.cell 0,h3.2.2.2.1.cell 1,h3.2.2.2.1.frozen 0,h3.2.2.2.1.frozen 1,h3.2.2.2.2,h3.2.1.row.lt,by have:=h3.2.2.2.2; omega,by omega,by omega,by omega,Lib.hid h3⟩
  have HG:=Lib.hid hG
  clear hG
  have HS1:=Lib.hid hS1
  have HN:=Lib.hid hN
  have HZ:=Lib.hid hz
  clear hS1 hN hz hw1
  have hON:=one_next HV.out HVI.out HZ.out
  have HON:=Lib.hid hON
  clear hON
  by_cases h110 : z = 110
  ·subst h110
   go_enter Tryz.func71, Tryz.ntmps71
   go_wp2
   go_region
   all_goals go_wp2_with (go_at_call 48; rw [← HE.out]; refine (HN.out).mono ?_; rintro e w3 ⟨rfl,hq3⟩; obtain ⟨g1,g2,g3,g4,g5,g6,g7,g8,g9,g10,g11,g12,g13,g14,g15,g16,HS3⟩:=HG.out w3 hq3)
   have hD:=(((HS3.out.set5 hp HA.out (.int .i32 10)).move hp (J:=(i : Int) + 1 + 1) (by omega)).set2 hp HA.out (.int .i32 10) (.int .i64 0)).alloc (.cells #[.int .i32 110] 21)
   refine bodyPost_ret (results_row_two rfl _ _ w.heap.size 91 #[.int .i32 10,.int .i64 0] (0,0) _ _ _ rfl rfl rfl hD.2.2.1 Tryz.underlying91 rfl (by kernel_rfl)) rfl ?_
   unfold OneP
   rw [HON.out]
   exact ⟨hD.1,hD.2.1,.inl ⟨rfl,rfl⟩⟩
  by_cases h114 : z = 114
  ·subst h114
   go_enter Tryz.func71, Tryz.ntmps71
   go_wp2
   go_region
   all_goals go_wp2_with (go_at_call 48; rw [← HE.out]; refine (HN.out).mono ?_; rintro e w3 ⟨rfl,hq3⟩; obtain ⟨g1,g2,g3,g4,g5,g6,g7,g8,g9,g10,g11,g12,g13,g14,g15,g16,HS3⟩:=HG.out w3 hq3)
   have hD:=(((HS3.out.set5 hp HA.out (.int .i32 13)).move hp (J:=(i : Int) + 1 + 1) (by omega)).set2 hp HA.out (.int .i32 13) (.int .i64 0)).alloc (.cells #[.int .i32 114] 21)
   refine bodyPost_ret (results_row_two rfl _ _ w.heap.size 91 #[.int .i32 13,.int .i64 0] (0,0) _ _ _ rfl rfl rfl hD.2.2.1 Tryz.underlying91 rfl (by kernel_rfl)) rfl ?_
   unfold OneP
   rw [HON.out]
   exact ⟨hD.1,hD.2.1,.inl ⟨rfl,rfl⟩⟩
  by_cases h116 : z = 116
  ·subst h116
   go_enter Tryz.func71, Tryz.ntmps71
   go_wp2
   go_region
   all_goals go_wp2_with (go_at_call 48; rw [← HE.out]; refine (HN.out).mono ?_; rintro e w3 ⟨rfl,hq3⟩; obtain ⟨g1,g2,g3,g4,g5,g6,g7,g8,g9,g10,g11,g12,g13,g14,g15,g16,HS3⟩:=HG.out w3 hq3)
   have hD:=(((HS3.out.set5 hp HA.out (.int .i32 9)).move hp (J:=(i : Int) + 1 + 1) (by omega)).set2 hp HA.out (.int .i32 9) (.int .i64 0)).alloc (.cells #[.int .i32 116] 21)
   refine bodyPost_ret (results_row_two rfl _ _ w.heap.size 91 #[.int .i32 9,.int .i64 0] (0,0) _ _ _ rfl rfl rfl hD.2.2.1 Tryz.underlying91 rfl (by kernel_rfl)) rfl ?_
   unfold OneP
   rw [HON.out]
   exact ⟨hD.1,hD.2.1,.inl ⟨rfl,rfl⟩⟩
  by_cases h119 : z = 119
  ·subst h119
   go_enter Tryz.func71, Tryz.ntmps71
   go_wp2
   go_region
   all_goals go_wp2_with (go_at_call 48; rw [← HE.out]; refine (HN.out).mono ?_; rintro e w3 ⟨rfl,hq3⟩; obtain ⟨g1,g2,g3,g4,g5,g6,g7,g8,g9,g10,g11,g12,g13,g14,g15,g16,HS3⟩:=HG.out w3 hq3)
   have hD:=((HS3.out.move hp (J:=(i : Int) + 1 + 1) (by omega)).set2 hp HA.out (.int .i32 92) (.int .i64 0)).alloc (.cells #[.int .i32 119] 21)
   refine bodyPost_ret (results_row_two rfl _ _ w.heap.size 91 #[.int .i32 92,.int .i64 0] (0,0) _ _ _ rfl rfl rfl hD.2.2.1 Tryz.underlying91 rfl (by kernel_rfl)) rfl ?_
   unfold OneP
   rw [HON.out]
   refine ⟨hD.1,hD.2.1,.inr ⟨by decide,_,_,_,rfl,?_⟩⟩
   have hR : Row (((((w3.setCell ⟨p,1,none⟩ (.int .i64 ((i : Int) + 1 + 1))).setCell ⟨w.heap.size,0,none⟩ (.int .i32 92)).setCell ⟨w.heap.size,1,none⟩ (.int .i64 0))).alloc (.cells #[.int .i32 119] 21)) w3.heap.size 21 [.int .i32 ((119 : Nat) : Int)]:=by
    have:=row_new ((((w3.setCell ⟨p,1,none⟩ (.int .i64 ((i : Int) + 1 + 1))).setCell ⟨w.heap.size,0,none⟩ (.int .i32 92)).setCell ⟨w.heap.size,1,none⟩ (.int .i64 0))) [.int .i32 119] 21
    rwa [World.size_setCell,World.size_setCell,World.size_setCell] at this
   exact ⟨fun k hk => hk.2, 92,#[.pointer (some ⟨w3.heap.size,0,none⟩)],rfl,enters_of Tryz.func92 (by kernel_rfl) rfl,fun w' ha' hs' v hv => one1C w' w3.heap.size 119 (.inl rfl) ((ha' _ ⟨by omega,hR.lt⟩).trans hR) v hv⟩
  by_cases h87 : z = 87
  ·subst h87
   go_enter Tryz.func71, Tryz.ntmps71
   go_wp2
   go_region
   all_goals go_wp2_with (go_at_call 48; rw [← HE.out]; refine (HN.out).mono ?_; rintro e w3 ⟨rfl,hq3⟩; obtain ⟨g1,g2,g3,g4,g5,g6,g7,g8,g9,g10,g11,g12,g13,g14,g15,g16,HS3⟩:=HG.out w3 hq3)
   have hD:=((HS3.out.move hp (J:=(i : Int) + 1 + 1) (by omega)).set2 hp HA.out (.int .i32 92) (.int .i64 0)).alloc (.cells #[.int .i32 87] 21)
   refine bodyPost_ret (results_row_two rfl _ _ w.heap.size 91 #[.int .i32 92,.int .i64 0] (0,0) _ _ _ rfl rfl rfl hD.2.2.1 Tryz.underlying91 rfl (by kernel_rfl)) rfl ?_
   unfold OneP
   rw [HON.out]
   refine ⟨hD.1,hD.2.1,.inr ⟨by decide,_,_,_,rfl,?_⟩⟩
   have hR : Row (((((w3.setCell ⟨p,1,none⟩ (.int .i64 ((i : Int) + 1 + 1))).setCell ⟨w.heap.size,0,none⟩ (.int .i32 92)).setCell ⟨w.heap.size,1,none⟩ (.int .i64 0))).alloc (.cells #[.int .i32 87] 21)) w3.heap.size 21 [.int .i32 ((87 : Nat) : Int)]:=by
    have:=row_new ((((w3.setCell ⟨p,1,none⟩ (.int .i64 ((i : Int) + 1 + 1))).setCell ⟨w.heap.size,0,none⟩ (.int .i32 92)).setCell ⟨w.heap.size,1,none⟩ (.int .i64 0))) [.int .i32 87] 21
    rwa [World.size_setCell,World.size_setCell,World.size_setCell] at this
   exact ⟨fun k hk => hk.2, 92,#[.pointer (some ⟨w3.heap.size,0,none⟩)],rfl,enters_of Tryz.func92 (by kernel_rfl) rfl,fun w' ha' hs' v hv => one1C w' w3.heap.size 87 (.inr rfl) ((ha' _ ⟨by omega,hR.lt⟩).trans hR) v hv⟩
  by_cases h115 : z = 115
  ·subst h115
   go_enter Tryz.func71, Tryz.ntmps71
   go_wp2
   go_region
   all_goals go_wp2_with (go_at_call 48; rw [← HE.out]; refine (HN.out).mono ?_; rintro e w3 ⟨rfl,hq3⟩; obtain ⟨g1,g2,g3,g4,g5,g6,g7,g8,g9,g10,g11,g12,g13,g14,g15,g16,HS3⟩:=HG.out w3 hq3)
   have hD:=((HS3.out.move hp (J:=(i : Int) + 1 + 1) (by omega)).set2 hp HA.out (.int .i32 92) (.int .i64 0)).alloc (.cells #[.int .i32 115] 21)
   refine bodyPost_ret (results_row_two rfl _ _ w.heap.size 91 #[.int .i32 92,.int .i64 0] (0,0) _ _ _ rfl rfl rfl hD.2.2.1 Tryz.underlying91 rfl (by kernel_rfl)) rfl ?_
   unfold OneP
   rw [HON.out]
   refine ⟨hD.1,hD.2.1,.inr ⟨by decide,_,_,_,rfl,?_⟩⟩
   have hR : Row (((((w3.setCell ⟨p,1,none⟩ (.int .i64 ((i : Int) + 1 + 1))).setCell ⟨w.heap.size,0,none⟩ (.int .i32 92)).setCell ⟨w.heap.size,1,none⟩ (.int .i64 0))).alloc (.cells #[.int .i32 115] 21)) w3.heap.size 21 [.int .i32 ((115 : Nat) : Int)]:=by
    have:=row_new ((((w3.setCell ⟨p,1,none⟩ (.int .i64 ((i : Int) + 1 + 1))).setCell ⟨w.heap.size,0,none⟩ (.int .i32 92)).setCell ⟨w.heap.size,1,none⟩ (.int .i64 0))) [.int .i32 115] 21
    rwa [World.size_setCell,World.size_setCell,World.size_setCell] at this
   exact ⟨fun k hk => hk.2, 94,#[.pointer (some ⟨w3.heap.size,0,none⟩)],rfl,enters_of Tryz.func94 (by kernel_rfl) rfl,fun w' ha' hs' v hv => one2C w' w3.heap.size 115 (.inl rfl) ((ha' _ ⟨by omega,hR.lt⟩).trans hR) v hv⟩
  by_cases h83 : z = 83
  ·subst h83
   go_enter Tryz.func71, Tryz.ntmps71
   go_wp2
   go_region
   all_goals go_wp2_with (go_at_call 48; rw [← HE.out]; refine (HN.out).mono ?_; rintro e w3 ⟨rfl,hq3⟩; obtain ⟨g1,g2,g3,g4,g5,g6,g7,g8,g9,g10,g11,g12,g13,g14,g15,g16,HS3⟩:=HG.out w3 hq3)
   have hD:=((HS3.out.move hp (J:=(i : Int) + 1 + 1) (by omega)).set2 hp HA.out (.int .i32 92) (.int .i64 0)).alloc (.cells #[.int .i32 83] 21)
   refine bodyPost_ret (results_row_two rfl _ _ w.heap.size 91 #[.int .i32 92,.int .i64 0] (0,0) _ _ _ rfl rfl rfl hD.2.2.1 Tryz.underlying91 rfl (by kernel_rfl)) rfl ?_
   unfold OneP
   rw [HON.out]
   refine ⟨hD.1,hD.2.1,.inr ⟨by decide,_,_,_,rfl,?_⟩⟩
   have hR : Row (((((w3.setCell ⟨p,1,none⟩ (.int .i64 ((i : Int) + 1 + 1))).setCell ⟨w.heap.size,0,none⟩ (.int .i32 92)).setCell ⟨w.heap.size,1,none⟩ (.int .i64 0))).alloc (.cells #[.int .i32 83] 21)) w3.heap.size 21 [.int .i32 ((83 : Nat) : Int)]:=by
    have:=row_new ((((w3.setCell ⟨p,1,none⟩ (.int .i64 ((i : Int) + 1 + 1))).setCell ⟨w.heap.size,0,none⟩ (.int .i32 92)).setCell ⟨w.heap.size,1,none⟩ (.int .i64 0))) [.int .i32 83] 21
    rwa [World.size_setCell,World.size_setCell,World.size_setCell] at this
   exact ⟨fun k hk => hk.2, 94,#[.pointer (some ⟨w3.heap.size,0,none⟩)],rfl,enters_of Tryz.func94 (by kernel_rfl) rfl,fun w' ha' hs' v hv => one2C w' w3.heap.size 83 (.inr rfl) ((ha' _ ⟨by omega,hR.lt⟩).trans hR) v hv⟩
  by_cases h120 : z = 120
  ·subst h120
   have HOP : Hid (oneP V i = hexP V (i + 2)):=Lib.hid HON.out
   cases hG : hexP V (i + 2) with
   | inl b' =>
    replace HON:=Lib.hid (HOP.out.trans hG)
    go_enter Tryz.func71, Tryz.ntmps71
    go_wp2
    go_region
    all_goals go_wp2_with (first | (go_at_call 48; rw [← HE.out]; refine (HN.out).mono ?_; rintro e w3 ⟨rfl,hq3⟩; obtain ⟨g1,g2,g3,g4,g5,g6,g7,g8,g9,g10,g11,g12,g13,g14,g15,g16,HS3⟩:=HG.out w3 hq3; have HX:=Lib.hid (hexC _ p _ n c V (i + 2) fo ((HS3.out.move hp (J:=(i : Int) + 1 + 1) (by omega)).alloc (.cells #[.int .i32 120] 21)).2.1 HV.out (by omega) (by omega) (fun ad h => Nat.lt_of_lt_of_le (HA.out ad h) ((HS3.out.move hp (J:=(i : Int) + 1 + 1) (by omega)).alloc (.cells #[.int .i32 120] 21)).1.size)); rw [hG] at HX) | (go_at_call 96; refine (HX.out).mono ?_; rintro e w4 ⟨hg4,⟨x,y,rfl⟩,hs4⟩; have h4:=((HS3.out.move hp (J:=(i : Int) + 1 + 1) (by omega)).alloc (.cells #[.int .i32 120] 21)).grown hp hg4 hs4; have k3:=h4.2.2.1.cell 0; have k4:=h4.2.2.1.cell 1; have k5:=h4.2.2.1.frozen 0; have k6:=h4.2.2.1.frozen 1; have k7:=h4.2.2.1.lt; have HS4:=Lib.hid h4; clear h4 hg4 hs4))
    have hD:=HS4.out.set2 hp HA.out (.int .i32 x) (.int .i64 y)
    refine bodyPost_ret (results_row_two rfl _ _ w.heap.size 91 #[.int .i32 x,.int .i64 y] (0,0) _ _ _ rfl rfl rfl ?_ Tryz.underlying91 rfl (by kernel_rfl)) rfl ?_
    ·exact hD.2.2.1
    unfold OneP
    rw [HON.out]
    exact ⟨hD.1,⟨_,_,rfl⟩,hD.2.1⟩
   | inr t =>
    obtain ⟨k,v,j⟩:=t
    obtain rfl:=hexP_zero hG
    replace HON:=Lib.hid (HOP.out.trans hG)
    go_enter Tryz.func71, Tryz.ntmps71
    go_wp2
    go_region
    all_goals go_wp2_with (first | (go_at_call 48; rw [← HE.out]; refine (HN.out).mono ?_; rintro e w3 ⟨rfl,hq3⟩; obtain ⟨g1,g2,g3,g4,g5,g6,g7,g8,g9,g10,g11,g12,g13,g14,g15,g16,HS3⟩:=HG.out w3 hq3; have HX:=Lib.hid (hexC _ p _ n c V (i + 2) fo ((HS3.out.move hp (J:=(i : Int) + 1 + 1) (by omega)).alloc (.cells #[.int .i32 120] 21)).2.1 HV.out (by omega) (by omega) (fun ad h => Nat.lt_of_lt_of_le (HA.out ad h) ((HS3.out.move hp (J:=(i : Int) + 1 + 1) (by omega)).alloc (.cells #[.int .i32 120] 21)).1.size)); rw [hG] at HX) | (go_at_call 96; refine (HX.out).mono ?_; rintro e w4 ⟨hg4,rfl,hs4⟩; have h4:=((HS3.out.move hp (J:=(i : Int) + 1 + 1) (by omega)).alloc (.cells #[.int .i32 120] 21)).grown hp hg4 hs4; obtain ⟨x,y,hxy⟩ : ∃ x y : Int,tokV v = .agg #[.int .i32 x,.int .i64 y]:=⟨_,_,rfl⟩; rw [hxy]; have HXY:=Lib.hid hxy; clear hxy; have k3:=h4.2.2.1.cell 0; have k4:=h4.2.2.1.cell 1; have k5:=h4.2.2.1.frozen 0; have k6:=h4.2.2.1.frozen 1; have k7:=h4.2.2.1.lt; have HS4:=Lib.hid h4; clear h4 hg4 hs4))
    have hD:=HS4.out.set2 hp HA.out (.int .i32 x) (.int .i64 y)
    refine bodyPost_ret (results_row_two rfl _ _ w.heap.size 91 #[.int .i32 x,.int .i64 y] (0,0) _ _ _ rfl rfl rfl ?_ Tryz.underlying91 rfl (by kernel_rfl)) rfl ?_
    ·exact hD.2.2.1
    unfold OneP
    rw [HON.out]
    exact ⟨hD.1,hD.2.1,.inl ⟨rfl,by rw [HXY.out]; rfl⟩⟩
  by_cases h117 : z = 117
  ·subst h117
   have HOP : Hid (oneP V i = runeP V (i + 2)):=Lib.hid HON.out
   cases hG : runeP V (i + 2) with
   | inl b' =>
    replace HON:=Lib.hid (HOP.out.trans hG)
    go_enter Tryz.func71, Tryz.ntmps71
    go_wp2
    go_region
    all_goals go_wp2_with (first | (go_at_call 48; rw [← HE.out]; refine (HN.out).mono ?_; rintro e w3 ⟨rfl,hq3⟩; obtain ⟨g1,g2,g3,g4,g5,g6,g7,g8,g9,g10,g11,g12,g13,g14,g15,g16,HS3⟩:=HG.out w3 hq3; have HX:=Lib.hid (numberC _ p _ n c V (i + 2) fo ((HS3.out.move hp (J:=(i : Int) + 1 + 1) (by omega)).alloc (.cells #[.int .i32 117] 21)).2.1 HV.out (by omega) (by omega) (fun ad h => Nat.lt_of_lt_of_le (HA.out ad h) ((HS3.out.move hp (J:=(i : Int) + 1 + 1) (by omega)).alloc (.cells #[.int .i32 117] 21)).1.size)); rw [hG] at HX) | (go_at_call 97; refine (HX.out).mono ?_; rintro e w4 ⟨hg4,⟨x,y,rfl⟩,hs4⟩; have h4:=((HS3.out.move hp (J:=(i : Int) + 1 + 1) (by omega)).alloc (.cells #[.int .i32 117] 21)).grown hp hg4 hs4; have k3:=h4.2.2.1.cell 0; have k4:=h4.2.2.1.cell 1; have k5:=h4.2.2.1.frozen 0; have k6:=h4.2.2.1.frozen 1; have k7:=h4.2.2.1.lt; have HS4:=Lib.hid h4; clear h4 hg4 hs4))
    have hD:=HS4.out.set2 hp HA.out (.int .i32 x) (.int .i64 y)
    refine bodyPost_ret (results_row_two rfl _ _ w.heap.size 91 #[.int .i32 x,.int .i64 y] (0,0) _ _ _ rfl rfl rfl ?_ Tryz.underlying91 rfl (by kernel_rfl)) rfl ?_
    ·exact hD.2.2.1
    unfold OneP
    rw [HON.out]
    exact ⟨hD.1,⟨_,_,rfl⟩,hD.2.1⟩
   | inr t =>
    obtain ⟨k,v,j⟩:=t
    obtain rfl:=runeP_zero hG
    replace HON:=Lib.hid (HOP.out.trans hG)
    go_enter Tryz.func71, Tryz.ntmps71
    go_wp2
    go_region
    all_goals go_wp2_with (first | (go_at_call 48; rw [← HE.out]; refine (HN.out).mono ?_; rintro e w3 ⟨rfl,hq3⟩; obtain ⟨g1,g2,g3,g4,g5,g6,g7,g8,g9,g10,g11,g12,g13,g14,g15,g16,HS3⟩:=HG.out w3 hq3; have HX:=Lib.hid (numberC _ p _ n c V (i + 2) fo ((HS3.out.move hp (J:=(i : Int) + 1 + 1) (by omega)).alloc (.cells #[.int .i32 117] 21)).2.1 HV.out (by omega) (by omega) (fun ad h => Nat.lt_of_lt_of_le (HA.out ad h) ((HS3.out.move hp (J:=(i : Int) + 1 + 1) (by omega)).alloc (.cells #[.int .i32 117] 21)).1.size)); rw [hG] at HX) | (go_at_call 97; refine (HX.out).mono ?_; rintro e w4 ⟨hg4,rfl,hs4⟩; have h4:=((HS3.out.move hp (J:=(i : Int) + 1 + 1) (by omega)).alloc (.cells #[.int .i32 117] 21)).grown hp hg4 hs4; obtain ⟨x,y,hxy⟩ : ∃ x y : Int,tokV v = .agg #[.int .i32 x,.int .i64 y]:=⟨_,_,rfl⟩; rw [hxy]; have HXY:=Lib.hid hxy; clear hxy; have k3:=h4.2.2.1.cell 0; have k4:=h4.2.2.1.cell 1; have k5:=h4.2.2.1.frozen 0; have k6:=h4.2.2.1.frozen 1; have k7:=h4.2.2.1.lt; have HS4:=Lib.hid h4; clear h4 hg4 hs4))
    have hD:=HS4.out.set2 hp HA.out (.int .i32 x) (.int .i64 y)
    refine bodyPost_ret (results_row_two rfl _ _ w.heap.size 91 #[.int .i32 x,.int .i64 y] (0,0) _ _ _ rfl rfl rfl ?_ Tryz.underlying91 rfl (by kernel_rfl)) rfl ?_
    ·exact hD.2.2.1
    unfold OneP
    rw [HON.out]
    exact ⟨hD.1,hD.2.1,.inl ⟨rfl,by rw [HXY.out]; rfl⟩⟩
  have q110 : (z == 110) = false:=by rw [beq_eq_false_iff_ne]; exact h110
  have q114 : (z == 114) = false:=by rw [beq_eq_false_iff_ne]; exact h114
  have q116 : (z == 116) = false:=by rw [beq_eq_false_iff_ne]; exact h116
  have q119 : (z == 119) = false:=by rw [beq_eq_false_iff_ne]; exact h119
  have q87 : (z == 87) = false:=by rw [beq_eq_false_iff_ne]; exact h87
  have q115 : (z == 115) = false:=by rw [beq_eq_false_iff_ne]; exact h115
  have q83 : (z == 83) = false:=by rw [beq_eq_false_iff_ne]; exact h83
  have q120 : (z == 120) = false:=by rw [beq_eq_false_iff_ne]; exact h120
  have q117 : (z == 117) = false:=by rw [beq_eq_false_iff_ne]; exact h117
  by_cases m0 : 33 ≤ z ∧ z ≤ 47
  ·obtain ⟨m0,m0'⟩:=m0
   have d0 : ¬ z ≤ 32:=by omega
   have b0 : decide (z ≤ 32) = false:=decide_eq_false d0
   have d1 : ¬ 126 < z:=by omega
   have b1 : decide (126 < z) = false:=decide_eq_false d1
   have d2 : ¬ 48 ≤ z:=by omega
   have b2 : decide (48 ≤ z) = false:=decide_eq_false d2
   have d3 : z ≤ 57:=by omega
   have b3 : decide (z ≤ 57) = true:=decide_eq_true d3
   have d4 : ¬ 65 ≤ z:=by omega
   have b4 : decide (65 ≤ z) = false:=decide_eq_false d4
   have d5 : z ≤ 90:=by omega
   have b5 : decide (z ≤ 90) = true:=decide_eq_true d5
   have d6 : ¬ 97 ≤ z:=by omega
   have b6 : decide (97 ≤ z) = false:=decide_eq_false d6
   have d7 : z ≤ 122:=by omega
   have b7 : decide (z ≤ 122) = true:=decide_eq_true d7
   have hmk : markI z = true:=by unfold markI; simp only [Bool.or_eq_true,Bool.and_eq_true,decide_eq_true_iff]; omega
   rw [if_pos hmk] at HON
   have hzt : tokV z.toNat = .agg #[.int .i32 z,.int .i64 0]:=by rw [tokV_right (by unfold wrongN; omega),Int.toNat_of_nonneg (by omega)]
   have HZT:=Lib.hid hzt
   clear hmk hzt
   go_enter Tryz.func71, Tryz.ntmps71
   go_wp2
   go_region
   all_goals go_wp2_with (go_at_call 48; rw [← HE.out]; refine (HN.out).mono ?_; rintro e w3 ⟨rfl,hq3⟩; obtain ⟨g1,g2,g3,g4,g5,g6,g7,g8,g9,g10,g11,g12,g13,g14,g15,g16,HS3⟩:=HG.out w3 hq3)
   have hD:=(((HS3.out.set5 hp HA.out (.int .i32 z)).move hp (J:=(i : Int) + 1 + 1) (by omega)).set2 hp HA.out (.int .i32 z) (.int .i64 0)).alloc (.cells #[.int .i32 z] 21)
   refine bodyPost_ret (results_row_two rfl _ _ w.heap.size 91 #[.int .i32 z,.int .i64 0] (0,0) _ _ _ rfl rfl rfl hD.2.2.1 Tryz.underlying91 rfl (by kernel_rfl)) rfl ?_
   unfold OneP
   rw [HON.out]
   exact ⟨hD.1,hD.2.1,.inl ⟨rfl,by rw [HZT.out]; rfl⟩⟩
  by_cases m1 : 58 ≤ z ∧ z ≤ 64
  ·obtain ⟨m1,m1'⟩:=m1
   have d0 : ¬ z ≤ 32:=by omega
   have b0 : decide (z ≤ 32) = false:=decide_eq_false d0
   have d1 : ¬ 126 < z:=by omega
   have b1 : decide (126 < z) = false:=decide_eq_false d1
   have d2 : 48 ≤ z:=by omega
   have b2 : decide (48 ≤ z) = true:=decide_eq_true d2
   have d3 : ¬ z ≤ 57:=by omega
   have b3 : decide (z ≤ 57) = false:=decide_eq_false d3
   have d4 : ¬ 65 ≤ z:=by omega
   have b4 : decide (65 ≤ z) = false:=decide_eq_false d4
   have d5 : z ≤ 90:=by omega
   have b5 : decide (z ≤ 90) = true:=decide_eq_true d5
   have d6 : ¬ 97 ≤ z:=by omega
   have b6 : decide (97 ≤ z) = false:=decide_eq_false d6
   have d7 : z ≤ 122:=by omega
   have b7 : decide (z ≤ 122) = true:=decide_eq_true d7
   have hmk : markI z = true:=by unfold markI; simp only [Bool.or_eq_true,Bool.and_eq_true,decide_eq_true_iff]; omega
   rw [if_pos hmk] at HON
   have hzt : tokV z.toNat = .agg #[.int .i32 z,.int .i64 0]:=by rw [tokV_right (by unfold wrongN; omega),Int.toNat_of_nonneg (by omega)]
   have HZT:=Lib.hid hzt
   clear hmk hzt
   go_enter Tryz.func71, Tryz.ntmps71
   go_wp2
   go_region
   all_goals go_wp2_with (go_at_call 48; rw [← HE.out]; refine (HN.out).mono ?_; rintro e w3 ⟨rfl,hq3⟩; obtain ⟨g1,g2,g3,g4,g5,g6,g7,g8,g9,g10,g11,g12,g13,g14,g15,g16,HS3⟩:=HG.out w3 hq3)
   have hD:=(((HS3.out.set5 hp HA.out (.int .i32 z)).move hp (J:=(i : Int) + 1 + 1) (by omega)).set2 hp HA.out (.int .i32 z) (.int .i64 0)).alloc (.cells #[.int .i32 z] 21)
   refine bodyPost_ret (results_row_two rfl _ _ w.heap.size 91 #[.int .i32 z,.int .i64 0] (0,0) _ _ _ rfl rfl rfl hD.2.2.1 Tryz.underlying91 rfl (by kernel_rfl)) rfl ?_
   unfold OneP
   rw [HON.out]
   exact ⟨hD.1,hD.2.1,.inl ⟨rfl,by rw [HZT.out]; rfl⟩⟩
  by_cases m2 : 91 ≤ z ∧ z ≤ 96
  ·obtain ⟨m2,m2'⟩:=m2
   have d0 : ¬ z ≤ 32:=by omega
   have b0 : decide (z ≤ 32) = false:=decide_eq_false d0
   have d1 : ¬ 126 < z:=by omega
   have b1 : decide (126 < z) = false:=decide_eq_false d1
   have d2 : 48 ≤ z:=by omega
   have b2 : decide (48 ≤ z) = true:=decide_eq_true d2
   have d3 : ¬ z ≤ 57:=by omega
   have b3 : decide (z ≤ 57) = false:=decide_eq_false d3
   have d4 : 65 ≤ z:=by omega
   have b4 : decide (65 ≤ z) = true:=decide_eq_true d4
   have d5 : ¬ z ≤ 90:=by omega
   have b5 : decide (z ≤ 90) = false:=decide_eq_false d5
   have d6 : ¬ 97 ≤ z:=by omega
   have b6 : decide (97 ≤ z) = false:=decide_eq_false d6
   have d7 : z ≤ 122:=by omega
   have b7 : decide (z ≤ 122) = true:=decide_eq_true d7
   have hmk : markI z = true:=by unfold markI; simp only [Bool.or_eq_true,Bool.and_eq_true,decide_eq_true_iff]; omega
   rw [if_pos hmk] at HON
   have hzt : tokV z.toNat = .agg #[.int .i32 z,.int .i64 0]:=by rw [tokV_right (by unfold wrongN; omega),Int.toNat_of_nonneg (by omega)]
   have HZT:=Lib.hid hzt
   clear hmk hzt
   go_enter Tryz.func71, Tryz.ntmps71
   go_wp2
   go_region
   all_goals go_wp2_with (go_at_call 48; rw [← HE.out]; refine (HN.out).mono ?_; rintro e w3 ⟨rfl,hq3⟩; obtain ⟨g1,g2,g3,g4,g5,g6,g7,g8,g9,g10,g11,g12,g13,g14,g15,g16,HS3⟩:=HG.out w3 hq3)
   have hD:=(((HS3.out.set5 hp HA.out (.int .i32 z)).move hp (J:=(i : Int) + 1 + 1) (by omega)).set2 hp HA.out (.int .i32 z) (.int .i64 0)).alloc (.cells #[.int .i32 z] 21)
   refine bodyPost_ret (results_row_two rfl _ _ w.heap.size 91 #[.int .i32 z,.int .i64 0] (0,0) _ _ _ rfl rfl rfl hD.2.2.1 Tryz.underlying91 rfl (by kernel_rfl)) rfl ?_
   unfold OneP
   rw [HON.out]
   exact ⟨hD.1,hD.2.1,.inl ⟨rfl,by rw [HZT.out]; rfl⟩⟩
  by_cases m3 : 123 ≤ z ∧ z ≤ 126
  ·obtain ⟨m3,m3'⟩:=m3
   have d0 : ¬ z ≤ 32:=by omega
   have b0 : decide (z ≤ 32) = false:=decide_eq_false d0
   have d1 : ¬ 126 < z:=by omega
   have b1 : decide (126 < z) = false:=decide_eq_false d1
   have d2 : 48 ≤ z:=by omega
   have b2 : decide (48 ≤ z) = true:=decide_eq_true d2
   have d3 : ¬ z ≤ 57:=by omega
   have b3 : decide (z ≤ 57) = false:=decide_eq_false d3
   have d4 : 65 ≤ z:=by omega
   have b4 : decide (65 ≤ z) = true:=decide_eq_true d4
   have d5 : ¬ z ≤ 90:=by omega
   have b5 : decide (z ≤ 90) = false:=decide_eq_false d5
   have d6 : 97 ≤ z:=by omega
   have b6 : decide (97 ≤ z) = true:=decide_eq_true d6
   have d7 : ¬ z ≤ 122:=by omega
   have b7 : decide (z ≤ 122) = false:=decide_eq_false d7
   have hmk : markI z = true:=by unfold markI; simp only [Bool.or_eq_true,Bool.and_eq_true,decide_eq_true_iff]; omega
   rw [if_pos hmk] at HON
   have hzt : tokV z.toNat = .agg #[.int .i32 z,.int .i64 0]:=by rw [tokV_right (by unfold wrongN; omega),Int.toNat_of_nonneg (by omega)]
   have HZT:=Lib.hid hzt
   clear hmk hzt
   go_enter Tryz.func71, Tryz.ntmps71
   go_wp2
   go_region
   all_goals go_wp2_with (go_at_call 48; rw [← HE.out]; refine (HN.out).mono ?_; rintro e w3 ⟨rfl,hq3⟩; obtain ⟨g1,g2,g3,g4,g5,g6,g7,g8,g9,g10,g11,g12,g13,g14,g15,g16,HS3⟩:=HG.out w3 hq3)
   have hD:=(((HS3.out.set5 hp HA.out (.int .i32 z)).move hp (J:=(i : Int) + 1 + 1) (by omega)).set2 hp HA.out (.int .i32 z) (.int .i64 0)).alloc (.cells #[.int .i32 z] 21)
   refine bodyPost_ret (results_row_two rfl _ _ w.heap.size 91 #[.int .i32 z,.int .i64 0] (0,0) _ _ _ rfl rfl rfl hD.2.2.1 Tryz.underlying91 rfl (by kernel_rfl)) rfl ?_
   unfold OneP
   rw [HON.out]
   exact ⟨hD.1,hD.2.1,.inl ⟨rfl,by rw [HZT.out]; rfl⟩⟩
  have hmk : markI z = false:=by unfold markI; simp only [Bool.or_eq_false_iff,Bool.and_eq_false_iff,decide_eq_false_iff_not]; omega
  rw [if_neg (by rw [hmk]; decide),if_neg h110,if_neg h114,if_neg h116,if_neg (by omega),if_neg h120,if_neg h117] at HON
  clear hmk
  by_cases n0 : z ≤ 32
  ·skip
   have d0 : z ≤ 32:=by omega
   have b0 : decide (z ≤ 32) = true:=decide_eq_true d0
   have d1 : ¬ 126 < z:=by omega
   have b1 : decide (126 < z) = false:=decide_eq_false d1
   have d2 : ¬ 48 ≤ z:=by omega
   have b2 : decide (48 ≤ z) = false:=decide_eq_false d2
   have d3 : z ≤ 57:=by omega
   have b3 : decide (z ≤ 57) = true:=decide_eq_true d3
   have d4 : ¬ 65 ≤ z:=by omega
   have b4 : decide (65 ≤ z) = false:=decide_eq_false d4
   have d5 : z ≤ 90:=by omega
   have b5 : decide (z ≤ 90) = true:=decide_eq_true d5
   have d6 : ¬ 97 ≤ z:=by omega
   have b6 : decide (97 ≤ z) = false:=decide_eq_false d6
   have d7 : z ≤ 122:=by omega
   have b7 : decide (z ≤ 122) = true:=decide_eq_true d7
   go_enter Tryz.func71, Tryz.ntmps71
   go_wp2
   go_region
   all_goals go_wp2_with (go_at_call 48; rw [← HE.out]; refine (HN.out).mono ?_; rintro e w3 ⟨rfl,hq3⟩; obtain ⟨g1,g2,g3,g4,g5,g6,g7,g8,g9,g10,g11,g12,g13,g14,g15,g16,HS3⟩:=HG.out w3 hq3)
   have hD:=(HS3.out.set2 hp HA.out (.int .i32 92) (.int .i64 0)).alloc (.cells #[.int .i32 z] 21)
   refine bodyPost_ret (results_row_two rfl _ _ w.heap.size 91 #[.int .i32 92,.int .i64 0] (0,0) _ _ _ rfl rfl rfl hD.2.2.1 Tryz.underlying91 rfl (by kernel_rfl)) rfl ?_
   unfold OneP
   rw [HON.out]
   exact ⟨hD.1,⟨_,_,rfl⟩,hD.2.1⟩
  by_cases n1 : 126 < z
  ·skip
   have d0 : ¬ z ≤ 32:=by omega
   have b0 : decide (z ≤ 32) = false:=decide_eq_false d0
   have d1 : 126 < z:=by omega
   have b1 : decide (126 < z) = true:=decide_eq_true d1
   have d2 : 48 ≤ z:=by omega
   have b2 : decide (48 ≤ z) = true:=decide_eq_true d2
   have d3 : ¬ z ≤ 57:=by omega
   have b3 : decide (z ≤ 57) = false:=decide_eq_false d3
   have d4 : 65 ≤ z:=by omega
   have b4 : decide (65 ≤ z) = true:=decide_eq_true d4
   have d5 : ¬ z ≤ 90:=by omega
   have b5 : decide (z ≤ 90) = false:=decide_eq_false d5
   have d6 : 97 ≤ z:=by omega
   have b6 : decide (97 ≤ z) = true:=decide_eq_true d6
   have d7 : ¬ z ≤ 122:=by omega
   have b7 : decide (z ≤ 122) = false:=decide_eq_false d7
   go_enter Tryz.func71, Tryz.ntmps71
   go_wp2
   go_region
   all_goals go_wp2_with (go_at_call 48; rw [← HE.out]; refine (HN.out).mono ?_; rintro e w3 ⟨rfl,hq3⟩; obtain ⟨g1,g2,g3,g4,g5,g6,g7,g8,g9,g10,g11,g12,g13,g14,g15,g16,HS3⟩:=HG.out w3 hq3)
   have hD:=(HS3.out.set2 hp HA.out (.int .i32 92) (.int .i64 0)).alloc (.cells #[.int .i32 z] 21)
   refine bodyPost_ret (results_row_two rfl _ _ w.heap.size 91 #[.int .i32 92,.int .i64 0] (0,0) _ _ _ rfl rfl rfl hD.2.2.1 Tryz.underlying91 rfl (by kernel_rfl)) rfl ?_
   unfold OneP
   rw [HON.out]
   exact ⟨hD.1,⟨_,_,rfl⟩,hD.2.1⟩
  by_cases n2 : 48 ≤ z ∧ z ≤ 57
  ·skip
   have d0 : ¬ z ≤ 32:=by omega
   have b0 : decide (z ≤ 32) = false:=decide_eq_false d0
   have d1 : ¬ 126 < z:=by omega
   have b1 : decide (126 < z) = false:=decide_eq_false d1
   have d2 : 48 ≤ z:=by omega
   have b2 : decide (48 ≤ z) = true:=decide_eq_true d2
   have d3 : z ≤ 57:=by omega
   have b3 : decide (z ≤ 57) = true:=decide_eq_true d3
   have d4 : ¬ 65 ≤ z:=by omega
   have b4 : decide (65 ≤ z) = false:=decide_eq_false d4
   have d5 : z ≤ 90:=by omega
   have b5 : decide (z ≤ 90) = true:=decide_eq_true d5
   have d6 : ¬ 97 ≤ z:=by omega
   have b6 : decide (97 ≤ z) = false:=decide_eq_false d6
   have d7 : z ≤ 122:=by omega
   have b7 : decide (z ≤ 122) = true:=decide_eq_true d7
   go_enter Tryz.func71, Tryz.ntmps71
   go_wp2
   go_region
   all_goals go_wp2_with (go_at_call 48; rw [← HE.out]; refine (HN.out).mono ?_; rintro e w3 ⟨rfl,hq3⟩; obtain ⟨g1,g2,g3,g4,g5,g6,g7,g8,g9,g10,g11,g12,g13,g14,g15,g16,HS3⟩:=HG.out w3 hq3)
   have hD:=(HS3.out.set2 hp HA.out (.int .i32 92) (.int .i64 0)).alloc (.cells #[.int .i32 z] 21)
   refine bodyPost_ret (results_row_two rfl _ _ w.heap.size 91 #[.int .i32 92,.int .i64 0] (0,0) _ _ _ rfl rfl rfl hD.2.2.1 Tryz.underlying91 rfl (by kernel_rfl)) rfl ?_
   unfold OneP
   rw [HON.out]
   exact ⟨hD.1,⟨_,_,rfl⟩,hD.2.1⟩
  by_cases n3 : 65 ≤ z ∧ z ≤ 90
  ·skip
   have d0 : ¬ z ≤ 32:=by omega
   have b0 : decide (z ≤ 32) = false:=decide_eq_false d0
   have d1 : ¬ 126 < z:=by omega
   have b1 : decide (126 < z) = false:=decide_eq_false d1
   have d2 : 48 ≤ z:=by omega
   have b2 : decide (48 ≤ z) = true:=decide_eq_true d2
   have d3 : ¬ z ≤ 57:=by omega
   have b3 : decide (z ≤ 57) = false:=decide_eq_false d3
   have d4 : 65 ≤ z:=by omega
   have b4 : decide (65 ≤ z) = true:=decide_eq_true d4
   have d5 : z ≤ 90:=by omega
   have b5 : decide (z ≤ 90) = true:=decide_eq_true d5
   have d6 : ¬ 97 ≤ z:=by omega
   have b6 : decide (97 ≤ z) = false:=decide_eq_false d6
   have d7 : z ≤ 122:=by omega
   have b7 : decide (z ≤ 122) = true:=decide_eq_true d7
   go_enter Tryz.func71, Tryz.ntmps71
   go_wp2
   go_region
   all_goals go_wp2_with (go_at_call 48; rw [← HE.out]; refine (HN.out).mono ?_; rintro e w3 ⟨rfl,hq3⟩; obtain ⟨g1,g2,g3,g4,g5,g6,g7,g8,g9,g10,g11,g12,g13,g14,g15,g16,HS3⟩:=HG.out w3 hq3)
   have hD:=(HS3.out.set2 hp HA.out (.int .i32 92) (.int .i64 0)).alloc (.cells #[.int .i32 z] 21)
   refine bodyPost_ret (results_row_two rfl _ _ w.heap.size 91 #[.int .i32 92,.int .i64 0] (0,0) _ _ _ rfl rfl rfl hD.2.2.1 Tryz.underlying91 rfl (by kernel_rfl)) rfl ?_
   unfold OneP
   rw [HON.out]
   exact ⟨hD.1,⟨_,_,rfl⟩,hD.2.1⟩
  skip
  have d0 : ¬ z ≤ 32:=by omega
  have b0 : decide (z ≤ 32) = false:=decide_eq_false d0
  have d1 : ¬ 126 < z:=by omega
  have b1 : decide (126 < z) = false:=decide_eq_false d1
  have d2 : 48 ≤ z:=by omega
  have b2 : decide (48 ≤ z) = true:=decide_eq_true d2
  have d3 : ¬ z ≤ 57:=by omega
  have b3 : decide (z ≤ 57) = false:=decide_eq_false d3
  have d4 : 65 ≤ z:=by omega
  have b4 : decide (65 ≤ z) = true:=decide_eq_true d4
  have d5 : ¬ z ≤ 90:=by omega
  have b5 : decide (z ≤ 90) = false:=decide_eq_false d5
  have d6 : 97 ≤ z:=by omega
  have b6 : decide (97 ≤ z) = true:=decide_eq_true d6
  have d7 : z ≤ 122:=by omega
  have b7 : decide (z ≤ 122) = true:=decide_eq_true d7
  go_enter Tryz.func71, Tryz.ntmps71
  go_wp2
  go_region
  all_goals go_wp2_with (go_at_call 48; rw [← HE.out]; refine (HN.out).mono ?_; rintro e w3 ⟨rfl,hq3⟩; obtain ⟨g1,g2,g3,g4,g5,g6,g7,g8,g9,g10,g11,g12,g13,g14,g15,g16,HS3⟩:=HG.out w3 hq3)
  have hD:=(HS3.out.set2 hp HA.out (.int .i32 92) (.int .i64 0)).alloc (.cells #[.int .i32 z] 21)
  refine bodyPost_ret (results_row_two rfl _ _ w.heap.size 91 #[.int .i32 92,.int .i64 0] (0,0) _ _ _ rfl rfl rfl hD.2.2.1 Tryz.underlying91 rfl (by kernel_rfl)) rfl ?_
  unfold OneP
  rw [HON.out]
  exact ⟨hD.1,⟨_,_,rfl⟩,hD.2.1⟩
 ·have hq : ∀ w',(binOp .neq 91 (.agg #[.int .i32 (tokR v : Int),.int .i64 (tokW v : Int)]) (.agg #[.int .i32 92,.int .i64 0])).run Tryz.prog w' = .ok (.bool true) w':=by
   intro w'
   rw [tokNq]
   have : (((tokR v : Nat) : Int) == 92 && ((tokW v : Nat) : Int) == 0) = false:=by
    rw [Bool.and_eq_false_iff,beq_eq_false_iff_ne,beq_eq_false_iff_ne]
    unfold tokR tokW
    unfold wrongN
    split <;> omega
   rw [this]
   rfl
  have hO : oneP V i = .inr (0,v,i + 1):=by
   unfold oneP
   rw [hv]
   dsimp only
   rw [if_neg hbs]
  have HO:=Lib.hid hO
  have HS:=Lib.hid h
  clear hV h ha hO
  go_enter Tryz.func71, Tryz.ntmps71
  go_wp2
  go_region
  all_goals go_wp2
  have hD:=HST.out (.int .i32 (tokR v : Int)) (.int .i64 (tokW v : Int)) (.int .i32 (tokR v : Int)) (.int .i64 (tokW v : Int))
  refine bodyPost_ret (results_row_two rfl _ _ w.heap.size 91 #[.int .i32 (tokR v : Int),.int .i64 (tokW v : Int)] (0,0) _ _ _ rfl rfl rfl hD.2.2.1 Tryz.underlying91 rfl (by kernel_rfl)) rfl ?_
  unfold OneP
  rw [HO.out]
  exact ⟨hD.1,hD.2.1,.inl ⟨rfl,rfl⟩⟩
end Go.Proofs.YtchdeboialbdiaaGreatDoor
