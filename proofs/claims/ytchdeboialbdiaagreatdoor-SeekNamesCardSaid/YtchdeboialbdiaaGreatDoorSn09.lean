/- Texts joined, one behind the other (SekQ, SHigh). -/
import Derived.Test.YtchdeboialbdiaaGreatDoorSn08
namespace Go.Proofs.YtchdeboialbdiaaGreatDoor
set_option linter.unusedVariables false
set_option linter.unusedSimpArgs false
set_option maxHeartbeats 8000000
set_option maxRecDepth 100000
open Go.Lib hiding intOf
theorem lt_of_some {V : List Nat} {i v : Nat} (h : V[i]? = some v) : i < V.length:=(List.getElem?_eq_some_iff.1 h).1
theorem digO_le {V : List Nat} {i d : Nat} (h : digO V i = some d) : i < V.length ∧ d < 16:=by
 refine ⟨?_,digO_lt h⟩
 unfold digO at h
 cases hv : V[i]? with
 | none => rw [hv] at h; simp at h
 | some v => exact lt_of_some hv
def GotLe (V : List Nat) (i : Nat) : Got → Prop
 | .inl b => b ≤ V.length
 | .inr (k,v,j) => i < j ∧ j ≤ V.length ∧ (k = 0 → OkC v)
theorem hexP_le (V : List Nat) (i : Nat) (hi : i ≤ V.length) : GotLe V i (hexP V i):=by
 unfold hexP
 cases h1 : digO V i with
 | none => exact hi
 | some d =>
  have b1:=digO_le h1
  dsimp only
  cases h2 : digO V (i + 1) with
  | none => show i + 1 ≤ V.length; omega
  | some e =>
   have b2:=digO_le h2
   refine ⟨by omega,by omega,fun _ => ?_⟩
   unfold OkC
   split
   ·right; omega
   ·left; unfold wrongN; omega
theorem digsGo_le (V : List Nat) : ∀ f k n,k ≤ V.length → k ≤ (digsGo V f k n).1 ∧ (digsGo V f k n).1 ≤ V.length
 | 0,k,n,h => ⟨Nat.le_refl _,h⟩
 | f + 1,k,n,h => by
  rw [digsGo]
  cases hd : digO V k with
  | none => exact ⟨Nat.le_refl _,h⟩
  | some d =>
   have:=digsGo_le V f (k + 1) (16 * n + d) (by have:=(digO_le hd).1; omega)
   dsimp only
   exact ⟨by omega,this.2⟩
theorem runeP_le (V : List Nat) (i : Nat) (hi : i ≤ V.length) : GotLe V i (runeP V i):=by
 unfold runeP
 split
 ·rename_i h
  have b:=lt_of_some h
  have hd:=digsGo_le V 6 (i + 1) 0 (by omega)
  dsimp only
  split
  ·exact hd.2
  ·rename_i hh
   have h1 : V[(digsGo V 6 (i + 1) 0).1]? = some 125:=Decidable.byContradiction fun hc => hh (.inr (.inl hc))
   have h2 : mayN (digsGo V 6 (i + 1) 0).2 = true:=by
    cases hm : mayN (digsGo V 6 (i + 1) 0).2 with
    | true => rfl
    | false => exact absurd (.inr (.inr hm)) hh
   have b2:=lt_of_some h1
   refine ⟨by omega,by omega,fun _ => .inl ?_⟩
   unfold mayN at h2
   unfold wrongN
   simp at h2
   omega
 ·exact hi
theorem oneP_le (V : List Nat) (hV : OkV V) (i : Nat) (hi : i ≤ V.length) : GotLe V i (oneP V i):=by
 unfold oneP
 cases hc : V[i]? with
 | none => exact hi
 | some c =>
  have b:=lt_of_some hc
  have hok : OkC c:=by
   have:=hV c (List.mem_of_getElem? hc)
   unfold OkC
   omega
  dsimp only
  split
  ·cases hv : V[i + 1]? with
   | none => show i + 1 ≤ V.length; omega
   | some v =>
    have b2:=lt_of_some hv
    have hok2 : OkC v:=by
     have:=hV v (List.mem_of_getElem? hv)
     unfold OkC
     omega
    have m : ∀ x,x < 128 → OkC x:=fun x hx => .inl (by unfold wrongN; omega)
    dsimp only
    split
    ·exact ⟨by omega,by omega,fun _ => hok2⟩
    ·split
     ·exact ⟨by omega,by omega,fun _ => m _ (by omega)⟩
     ·split
      ·exact ⟨by omega,by omega,fun _ => m _ (by omega)⟩
      ·split
       ·exact ⟨by omega,by omega,fun _ => m _ (by omega)⟩
       ·split
        ·exact ⟨by omega,by omega,fun _ => m _ (by omega)⟩
        ·split
         ·have:=hexP_le V (i + 2) (by omega)
          cases hg : hexP V (i + 2) with
          | inl q => rw [hg] at this; exact this
          | inr t => rw [hg] at this; exact ⟨by have:=this.1; omega,this.2.1,this.2.2⟩
         ·split
          ·have:=runeP_le V (i + 2) (by omega)
           cases hg : runeP V (i + 2) with
           | inl q => rw [hg] at this; exact this
           | inr t => rw [hg] at this; exact ⟨by have:=this.1; omega,this.2.1,this.2.2⟩
          ·show i + 1 ≤ V.length; omega
  ·exact ⟨by omega,by omega,fun _ => hok⟩
end Go.Proofs.YtchdeboialbdiaaGreatDoor
namespace Go.Proofs.YtchdeboialbdiaaGreatDoor
set_option linter.unusedVariables false
set_option linter.unusedSimpArgs false
set_option maxHeartbeats 8000000
set_option maxRecDepth 100000
open Go.RowKit
open Go.Lib hiding intOf
section
set_option maxRecDepth 100000
theorem nfNq (w : World) : (binOp .neq 118 .nilFunc .nilFunc).run Tryz.prog w = .ok (.bool false) w:=by kernel_rfl
theorem nfNq2 (w : World) (g : FuncId) (cs : Array Value) : (binOp .neq 118 (.func (.func g) #[] cs) .nilFunc).run Tryz.prog w = .ok (.bool true) w:=by kernel_rfl
theorem nfQl (w : World) : (binOp .eql 118 .nilFunc .nilFunc).run Tryz.prog w = .ok (.bool true) w:=by kernel_rfl
theorem nfQl2 (w : World) (g : FuncId) (cs : Array Value) : (binOp .eql 118 (.func (.func g) #[] cs) .nilFunc).run Tryz.prog w = .ok (.bool false) w:=by kernel_rfl
end
def HighP (w : World) (p : Nat) (a : Option Addr) (n c : Nat) (V : List Nat) (fo : Bool) (G : Nat ⊕ (Nat × Nat)) (e : Ending) (w' : World) : Prop :=
 w.grownBy w' (some p) ∧ match G with
  | .inl b => (∃ x y : Int,e = .returned (.tuple #[.agg #[.int .i32 x,.int .i64 y],.bool false])) ∧ Scan w' p a n c V b fo
  | .inr (v,j) => e = .returned (.tuple #[tokV v,.bool true]) ∧ Scan w' p a n c V j fo
theorem results_cell_one {fn : Func} {p u : Tmp} {ty : TypeId} (h : fn.results = #[.cell p ty,.tmp u]) (tmps : Array Value) (P : Program) (w : World) :
  (results fn tmps).run P w =
   ((asAddr (tmps.getD p undef)).run P w).andThen fun a w₁ => ((loadVar ty a).run P w₁).andThen fun x w₂ => .ok (.tuple #[x,tmps.getD u undef]) w₂:=by
 simp only [results,h]
 simp [Sem.run_bind,Result.andThen]
theorem results_row_one {P : Program} {fn : Func} {p u : Tmp} {ty : TypeId} (h : fn.results = #[.cell p ty,.tmp u]) (tmps : Array Value) (w : World) (g : Nat) (t : TypeId) (cs : Array Value) (fr : Nat × Nat) (d : TypeDesc) (x : Value)
  (hp : tmps.getD p undef = .pointer (some ⟨g,0,none⟩)) (hx : tmps.getD u undef = x) (hg : w.heap[g]? = some (.cells cs t fr)) (hu : P.underlying ty = some d) (hd : (match d with | .struct _ | .array _ _ => true | _ => false) = true) (hi : (P.info? ty).map (·.size) = some cs.size) :
  (results fn tmps).run P w = .ok (.tuple #[.agg cs,x]) w:=by
 rw [results_cell_one h,hp,hx,show (asAddr (.pointer (some ⟨g,0,none⟩)) : Sem Addr).run P w = .ok ⟨g,0,none⟩ w from rfl]
 simp only [Result.andThen]
 rw [run_loadVar_row w g t ty cs fr d hg hu hd hi]
def HighSt (w : World) (p : Nat) (a : Option Addr) (n c : Nat) (V : List Nat) (fo : Bool) (j : Nat) (lx ly : Int) (x y : Value) (W : World) : Prop :=
 w.grownBy W (some p) ∧ Scan W p a n c V j fo ∧ Row W w.heap.size 91 [.int .i32 lx,.int .i64 ly] ∧ Row W (w.heap.size + 1) 91 [x,y]
theorem HighSt.start {w : World} {p n c j : Nat} {a : Option Addr} {V : List Nat} {fo : Bool} (h : Scan w p a n c V j fo) (lx ly : Int) (x y : Value) : HighSt w p a n c V fo j lx ly x y ((w.alloc (.cells #[.int .i32 lx,.int .i64 ly] 91)).alloc (.cells #[x,y] 91)):=by
 have hb : Below w.heap.size w ((w.alloc (.cells #[.int .i32 lx,.int .i64 ly] 91)).alloc (.cells #[x,y] 91)):=((Below.refl _ w).alloc (Nat.le_refl _) _).alloc (by simp) _
 refine ⟨grown_of_below hb _,h.keep hb (Nat.le_refl _),(row_new w [.int .i32 lx,.int .i64 ly] _).alloc _,?_⟩
 have:=row_new (w.alloc (.cells #[.int .i32 lx,.int .i64 ly] 91)) [x,y] 91
 rwa [World.size_alloc] at this
theorem HighSt.grown {w W W' : World} {p n c j j' : Nat} {a : Option Addr} {V : List Nat} {fo : Bool} {lx ly : Int} {x y : Value} (h : HighSt w p a n c V fo j lx ly x y W) (hp : p < w.heap.size) (hg : W.grownBy W' (some p)) (hs : Scan W' p a n c V j' fo) : HighSt w p a n c V fo j' lx ly x y W':=by
 obtain ⟨h1,h2,h3,h4⟩:=h
 exact ⟨grown_then h1 hg (fun j h => by cases h; exact .inr rfl),hs,(hg.block w.heap.size h3.lt (fun e => by cases e; omega)).trans h3,(hg.block (w.heap.size + 1) h4.lt (fun e => by cases e; omega)).trans h4⟩
theorem HighSt.quiet {w W W' : World} {p n c j : Nat} {a : Option Addr} {V : List Nat} {fo : Bool} {lx ly : Int} {x y : Value} (h : HighSt w p a n c V fo j lx ly x y W) (hp : p < w.heap.size) (hq : Quiet W W') : HighSt w p a n c V fo j lx ly x y W':=by
 obtain ⟨m,rfl⟩:=hq
 exact h.grown hp (grown_quiet (grown_refl W _) m) (h.2.1.quiet m)
theorem HighSt.alloc {w W : World} {p n c j : Nat} {a : Option Addr} {V : List Nat} {fo : Bool} {lx ly : Int} {x y : Value} (h : HighSt w p a n c V fo j lx ly x y W) (hp : p < w.heap.size) (o : Obj) : HighSt w p a n c V fo j lx ly x y (W.alloc o):=by
 have hb : Below W.heap.size W (W.alloc o):=(Below.refl _ W).alloc (Nat.le_refl _) _
 exact h.grown hp (grown_of_below hb _) (h.2.1.keep hb (Nat.le_refl _))
theorem HighSt.move {w W : World} {p n c j : Nat} {a : Option Addr} {V : List Nat} {fo : Bool} {lx ly : Int} {x y : Value} (h : HighSt w p a n c V fo j lx ly x y W) (hp : p < w.heap.size) (j' : Nat) {J : Int} (hJ : J = (j' : Int)) : HighSt w p a n c V fo j' lx ly x y (W.setCell ⟨p,1,none⟩ (.int .i64 J)):=by
 subst hJ
 exact h.grown hp (grownBy_set _ p 1 _) (h.2.1.move j')
theorem HighSt.set {w W : World} {p n c j : Nat} {a : Option Addr} {V : List Nat} {fo : Bool} {lx ly : Int} {x y : Value} (h : HighSt w p a n c V fo j lx ly x y W) (hp : p < w.heap.size) (ha : ∀ ad,a = some ad → ad.block < w.heap.size) (u v : Value) : HighSt w p a n c V fo j lx ly u v ((W.setCell ⟨w.heap.size + 1,0,none⟩ u).setCell ⟨w.heap.size + 1,1,none⟩ v):=by
 obtain ⟨h1,h2,h3,h4⟩:=h
 have g1:=grownBy_set W (w.heap.size + 1) 0 u
 have g2:=grownBy_set (W.setCell ⟨w.heap.size + 1,0,none⟩ u) (w.heap.size + 1) 1 v
 have na : ∀ ad,a = some ad → ad.block ≠ w.heap.size + 1:=fun ad h => by have:=ha ad h; omega
 exact ⟨grown_then (grown_then h1 g1 (fun j h => by cases h; exact .inl (by omega))) g2 (fun j h => by cases h; exact .inl (by omega)),(h2.grown g1 (by omega) na).grown g2 (by omega) na,(h3.other (by show w.heap.size + 1 ≠ w.heap.size; omega) _).other (by show w.heap.size + 1 ≠ w.heap.size; omega) _,(h4.set 0 u).set 1 v⟩
theorem highC (w : World) (p : Nat) (a : Option Addr) (n c : Nat) (V : List Nat) (i : Nat) (fo : Bool) (lo : Nat) (h : Scan w p a n c V i fo) (hV : OkV V) (hin : i ≤ n) (hn : n ≤ 67108800) (hlo : OkC lo) (ha : ∀ ad,a = some ad → ad.block < w.heap.size) :
  Calls Tryz.prog 72 #[.pointer (some ⟨p,0,none⟩),tokV lo] w (HighP w p a n c V fo (highP V i lo)):=by
 have hp:=h.row.lt
 have hVn:=h.toks.1
 obtain ⟨lx,ly,hlv,hl1,hl2⟩ : ∃ lx ly : Int,tokV lo = .agg #[.int .i32 lx,.int .i64 ly] ∧ ((ly == 0) = decide (lo < wrongN)) ∧ (lo < wrongN → lx = (lo : Int)):=by
  refine ⟨_,_,rfl,?_,?_⟩
  ·rw [Bool.eq_iff_iff,beq_iff_eq,decide_eq_true_iff]
   unfold OkC at hlo
   unfold tokW
   split <;> omega
  ·intro hh
   unfold tokR
   rw [if_pos hh]
 rw [hlv]
 have e0 : w.cell? ⟨p,0,none⟩ = some (.slice a n c):=h.row.cell 0
 have e1 : w.cell? ⟨p,1,none⟩ = some (.int .i64 (i : Int)):=h.row.cell 1
 have hst:=HighSt.start h lx ly (.int .i32 0) (.int .i64 0)
 have HST:=Lib.hid (fun m => hst.quiet hp ⟨m,rfl⟩ (W':=((w.alloc (.cells #[.int .i32 lx,.int .i64 ly] 91)).alloc (.cells #[.int .i32 0,.int .i64 0] 91)).drewN m))
 have HV:=Lib.hid hV
 have HA:=Lib.hid ha
 have HLO:=Lib.hid hlo
 have HL1:=Lib.hid hl1
 have HL2:=Lib.hid hl2
 obtain ⟨z,hz⟩ : ∃ z,nowI V i = z:=⟨_,rfl⟩
 have hN : ∀ m,Calls Tryz.prog 48 #[.pointer (some ⟨p,0,none⟩)] (((w.alloc (.cells #[.int .i32 lx,.int .i64 ly] 91)).alloc (.cells #[.int .i32 0,.int .i64 0] 91)).drewN m) fun e w'' => e = .returned (.int .i32 z) ∧ Quiet (((w.alloc (.cells #[.int .i32 lx,.int .i64 ly] 91)).alloc (.cells #[.int .i32 0,.int .i64 0] 91)).drewN m) w'':=by
  intro m
  rw [← hz]
  exact nowC _ p a n c V i fo (HST.out m).2.1 HV.out (by omega) (by omega)
 have HN:=Lib.hid hN
 have h45 : z = 45 ↔ V[i]? = some 45:=by rw [← hz]; exact nowI_eq hV (by decide)
 have h93 : z = 93 ↔ V[i]? = some 93:=by rw [← hz]; exact nowI_eq hV (by decide)
 have H45:=Lib.hid h45
 have H93:=Lib.hid h93
 clear h hV ha hst hz hN hlo hl1 hl2 h45 h93 hlv
 go_enter Tryz.func72, Tryz.ntmps72
 have nf1:=nfNq
 have nf2:=nfNq2
 have hsne : w.heap.size ≠ w.heap.size + 1:=by omega
 have hpn : p ≠ w.heap.size:=by omega
 have hpn1 : p ≠ w.heap.size + 1:=by omega
 by_cases c1 : i = n
 ·have c1' : ((i : Int) == (n : Int)) = true:=by rw [beq_iff_eq]; omega
  have hG : highP V i lo = .inl i:=by
   unfold highP
   rw [if_pos (.inl (List.getElem?_eq_none (by omega)))]
  have HG:=Lib.hid hG
  clear hG
  subst c1
  go_wp2
  go_quiet ((go_at_call 48; exact Calls.quiet_of (HN.out _)))
  go_wp2
  have hD:=(HST.out nq).set hp HA.out (.int .i32 lx) (.int .i64 ly)
  refine bodyPost_ret (results_row_one rfl _ _ (w.heap.size + 1) 91 #[.int .i32 lx,.int .i64 ly] (0,0) _ _ rfl rfl hD.2.2.2 Tryz.underlying91 rfl (by kernel_rfl)) rfl ?_
  unfold HighP
  rw [HG.out]
  exact ⟨hD.1,⟨_,_,rfl⟩,hD.2.1⟩
 have c1' : ((i : Int) == (n : Int)) = false:=by rw [beq_eq_false_iff_ne]; omega
 by_cases c2 : z = 45
 ·have hG : highP V i lo = .inl i:=by
   unfold highP
   rw [if_pos (.inr (.inl (H45.out.1 c2)))]
  have HG:=Lib.hid hG
  subst c2
  clear hG
  go_wp2
  go_quiet ((go_at_call 48; exact Calls.quiet_of (HN.out _)))
  go_wp2
  have hD:=(HST.out nq).set hp HA.out (.int .i32 lx) (.int .i64 ly)
  refine bodyPost_ret (results_row_one rfl _ _ (w.heap.size + 1) 91 #[.int .i32 lx,.int .i64 ly] (0,0) _ _ rfl rfl hD.2.2.2 Tryz.underlying91 rfl (by kernel_rfl)) rfl ?_
  unfold HighP
  rw [HG.out]
  exact ⟨hD.1,⟨_,_,rfl⟩,hD.2.1⟩
 have c2' : (z == 45) = false:=by rw [beq_eq_false_iff_ne]; exact c2
 by_cases c3 : z = 93
 ·have hG : highP V i lo = .inl i:=by
   unfold highP
   rw [if_pos (.inr (.inr (H93.out.1 c3)))]
  have HG:=Lib.hid hG
  subst c3
  clear hG
  go_wp2
  go_quiet ((go_at_call 48; exact Calls.quiet_of (HN.out _)))
  go_wp2
  have hD:=(HST.out nq).set hp HA.out (.int .i32 lx) (.int .i64 ly)
  refine bodyPost_ret (results_row_one rfl _ _ (w.heap.size + 1) 91 #[.int .i32 lx,.int .i64 ly] (0,0) _ _ rfl rfl hD.2.2.2 Tryz.underlying91 rfl (by kernel_rfl)) rfl ?_
  unfold HighP
  rw [HG.out]
  exact ⟨hD.1,⟨_,_,rfl⟩,hD.2.1⟩
 have c3' : (z == 93) = false:=by rw [beq_eq_false_iff_ne]; exact c3
 have hG0 : highP V i lo = (match oneP V i with
  | .inl b => .inl b
  | .inr (k,v,j) => if k ≠ 0 ∨ v < lo ∨ wrongN ≤ v ∨ wrongN ≤ lo then .inl (j - 1) else .inr (v,j)):=by
  unfold highP
  refine if_neg ?_
  rintro (h1 | h1 | h1)
  ·rw [List.getElem?_eq_none_iff] at h1; omega
  ·exact c2 (H45.out.2 h1)
  ·exact c3 (H93.out.2 h1)
 have hO : ∀ m,Calls Tryz.prog 71 #[.pointer (some ⟨p,0,none⟩)] (((w.alloc (.cells #[.int .i32 lx,.int .i64 ly] 91)).alloc (.cells #[.int .i32 0,.int .i64 0] 91)).drewN m) (OneP (((w.alloc (.cells #[.int .i32 lx,.int .i64 ly] 91)).alloc (.cells #[.int .i32 0,.int .i64 0] 91)).drewN m) p a n c V fo (oneP V i)):=by
  intro m
  exact oneC _ p a n c V i fo (HST.out m).2.1 HV.out (by omega) hn (fun ad h => Nat.lt_of_lt_of_le (HA.out ad h) (HST.out m).1.size)
 have hgl:=oneP_le V HV.out i (by omega)
 cases hG : oneP V i with
 | inl b =>
  rw [hG] at hG0 hO
  dsimp only at hG0
  have HG:=Lib.hid hG0
  have HO:=Lib.hid hO
  clear hG0 hO hG hgl
  go_wp2
  go_quiet ((go_at_call 48; exact Calls.quiet_of (HN.out _)))
  go_wp2_with (go_at_call 71; refine (HO.out _).mono ?_; rintro e w4 ⟨hg4,⟨x,y,rfl⟩,hs4⟩; have h4:=(HST.out nq).grown hp hg4 hs4; skip; have k1:=h4.2.2.1.cell 0; have k2:=h4.2.2.1.cell 1; have k3:=h4.2.2.2.cell 0; have k4:=h4.2.2.2.cell 1; have k5:=h4.2.2.2.frozen 0; have k6:=h4.2.2.2.frozen 1; have k7:=h4.2.2.1.lt; have k8:=h4.2.2.2.lt; have k9 : w4.cell? ⟨p,1,none⟩ = some (.int .i64 (b : Int)):=h4.2.1.row.cell 1; have k10 : w4.frozen? ⟨p,1,none⟩ = false:=h4.2.1.row.frozen 1; have k11:=h4.2.1.row.lt; have HS4:=Lib.hid h4; clear h4 hg4 hs4)
  have hD:=((HS4.out).set hp HA.out (.int .i32 x) (.int .i64 y)).alloc hp (.cells #[.int .i32 x,.int .i64 y] 91)
  refine bodyPost_ret (results_row_one rfl _ _ (w.heap.size + 1) 91 #[.int .i32 x,.int .i64 y] (0,0) _ _ rfl rfl ?_ Tryz.underlying91 rfl (by kernel_rfl)) rfl ?_
  ·exact hD.2.2.2
  unfold HighP
  rw [HG.out]
  exact ⟨hD.1,⟨_,_,rfl⟩,hD.2.1⟩
 | inr t =>
  obtain ⟨k,v,j⟩:=t
  rw [hG] at hG0 hO hgl
  dsimp only at hG0
  obtain ⟨hij,hjl,hok⟩:=hgl
  by_cases hk : k = 0
  ·subst hk
   have hok:=hok rfl
   have hO1 : ∀ m,Calls Tryz.prog 71 #[.pointer (some ⟨p,0,none⟩)] (((w.alloc (.cells #[.int .i32 lx,.int .i64 ly] 91)).alloc (.cells #[.int .i32 0,.int .i64 0] 91)).drewN m) fun e w' => (((w.alloc (.cells #[.int .i32 lx,.int .i64 ly] 91)).alloc (.cells #[.int .i32 0,.int .i64 0] 91)).drewN m).grownBy w' (some p) ∧ Scan w' p a n c V j fo ∧ e = .returned (.tuple #[tokV v,.nilFunc,.bool true]):=fun m => (hO m).mono (by
    rintro e w' ⟨h1,h2,h3 | h3⟩
    ·exact ⟨h1,h2,h3.2⟩
    ·exact absurd rfl h3.1)
   have HO:=Lib.hid hO1
   obtain ⟨x,y,hxy,hy1,hy2⟩ : ∃ x y : Int,tokV v = .agg #[.int .i32 x,.int .i64 y] ∧ ((y == 0) = decide (v < wrongN)) ∧ (v < wrongN → x = (v : Int)):=by
    refine ⟨_,_,rfl,?_,?_⟩
    ·rw [Bool.eq_iff_iff,beq_iff_eq,decide_eq_true_iff]
     unfold OkC at hok
     unfold tokW
     split <;> omega
    ·intro hh
     unfold tokR
     rw [if_pos hh]
   have HXY:=Lib.hid hxy
   have hjb : (1 : Int) ≤ (j : Int):=by omega
   have hjn : (j : Int) ≤ 67108864:=by omega
   clear hO hO1 hG hok hxy
   by_cases d1 : wrongN ≤ lo
   ·have hy : (ly == 0) = false:=by rw [HL1.out]; exact decide_eq_false (by omega)
    have hyn : (ly != 0) = true:=by rw [bne,hy]; rfl
    rw [if_pos (.inr (.inr (.inr d1)))] at hG0
    have HG:=Lib.hid hG0
    clear hG0 d1 hy1 hy2
    go_wp2
    go_quiet ((go_at_call 48; exact Calls.quiet_of (HN.out _)))
    go_wp2_with (go_at_call 71; refine (HO.out _).mono ?_; rintro e w4 ⟨hg4,hs4,rfl⟩; have h4:=(HST.out nq).grown hp hg4 hs4; rw [HXY.out]; have k1:=h4.2.2.1.cell 0; have k2:=h4.2.2.1.cell 1; have k3:=h4.2.2.2.cell 0; have k4:=h4.2.2.2.cell 1; have k5:=h4.2.2.2.frozen 0; have k6:=h4.2.2.2.frozen 1; have k7:=h4.2.2.1.lt; have k8:=h4.2.2.2.lt; have k9 : w4.cell? ⟨p,1,none⟩ = some (.int .i64 (j : Int)):=h4.2.1.row.cell 1; have k10 : w4.frozen? ⟨p,1,none⟩ = false:=h4.2.1.row.frozen 1; have k11:=h4.2.1.row.lt; have HS4:=Lib.hid h4; clear h4 hg4 hs4)
    have hD:=((HS4.out.move hp (j - 1) (J:=(j : Int) - 1) (by omega)).set hp HA.out (.int .i32 x) (.int .i64 y)).alloc hp (.cells #[.int .i32 x,.int .i64 y] 91)
    refine bodyPost_ret (results_row_one rfl _ _ (w.heap.size + 1) 91 #[.int .i32 x,.int .i64 y] (0,0) _ _ rfl rfl ?_ Tryz.underlying91 rfl (by kernel_rfl)) rfl ?_
    ·exact hD.2.2.2
    unfold HighP
    rw [HG.out]
    exact ⟨hD.1,⟨_,_,rfl⟩,hD.2.1⟩
   ·have hlr : lo < wrongN:=by omega
    have hy : (ly == 0) = true:=by rw [HL1.out]; exact decide_eq_true hlr
    have hly : ly = 0:=eq_of_beq hy
    subst hly
    have hx:=HL2.out hlr
    by_cases d2 : wrongN ≤ v
    ·have hyv : (y == 0) = false:=by rw [hy1]; exact decide_eq_false (by omega)
     have hyn : (y != 0) = true:=by rw [bne,hyv]; rfl
     rw [if_pos (.inr (.inr (.inl d2)))] at hG0
     have HG:=Lib.hid hG0
     clear hG0 d2 d1 hlr hy1 hy2 hx hy
     go_wp2
     go_quiet ((go_at_call 48; exact Calls.quiet_of (HN.out _)))
     go_wp2_with (go_at_call 71; refine (HO.out _).mono ?_; rintro e w4 ⟨hg4,hs4,rfl⟩; have h4:=(HST.out nq).grown hp hg4 hs4; rw [HXY.out]; have k1:=h4.2.2.1.cell 0; have k2:=h4.2.2.1.cell 1; have k3:=h4.2.2.2.cell 0; have k4:=h4.2.2.2.cell 1; have k5:=h4.2.2.2.frozen 0; have k6:=h4.2.2.2.frozen 1; have k7:=h4.2.2.1.lt; have k8:=h4.2.2.2.lt; have k9 : w4.cell? ⟨p,1,none⟩ = some (.int .i64 (j : Int)):=h4.2.1.row.cell 1; have k10 : w4.frozen? ⟨p,1,none⟩ = false:=h4.2.1.row.frozen 1; have k11:=h4.2.1.row.lt; have HS4:=Lib.hid h4; clear h4 hg4 hs4)
     have hD:=((HS4.out.move hp (j - 1) (J:=(j : Int) - 1) (by omega)).set hp HA.out (.int .i32 x) (.int .i64 y)).alloc hp (.cells #[.int .i32 x,.int .i64 y] 91)
     refine bodyPost_ret (results_row_one rfl _ _ (w.heap.size + 1) 91 #[.int .i32 x,.int .i64 y] (0,0) _ _ rfl rfl ?_ Tryz.underlying91 rfl (by kernel_rfl)) rfl ?_
     ·exact hD.2.2.2
     unfold HighP
     rw [HG.out]
     exact ⟨hD.1,⟨_,_,rfl⟩,hD.2.1⟩
    ·have hvr : v < wrongN:=by omega
     have hyv : (y == 0) = true:=by rw [hy1]; exact decide_eq_true hvr
     have hyz : y = 0:=eq_of_beq hyv
     subst hyz
     have hxv:=hy2 hvr
     by_cases d3 : v < lo
     ·rw [if_pos (.inr (.inl d3))] at hG0
      have HG:=Lib.hid hG0
      have hlt : x < lx:=by omega
      clear hG0 d2 d1 hlr hy1 hy2 hx hy hxv hvr d3 hyv
      go_wp2
      go_quiet ((go_at_call 48; exact Calls.quiet_of (HN.out _)))
      go_wp2_with (go_at_call 71; refine (HO.out _).mono ?_; rintro e w4 ⟨hg4,hs4,rfl⟩; have h4:=(HST.out nq).grown hp hg4 hs4; rw [HXY.out]; have k1:=h4.2.2.1.cell 0; have k2:=h4.2.2.1.cell 1; have k3:=h4.2.2.2.cell 0; have k4:=h4.2.2.2.cell 1; have k5:=h4.2.2.2.frozen 0; have k6:=h4.2.2.2.frozen 1; have k7:=h4.2.2.1.lt; have k8:=h4.2.2.2.lt; have k9 : w4.cell? ⟨p,1,none⟩ = some (.int .i64 (j : Int)):=h4.2.1.row.cell 1; have k10 : w4.frozen? ⟨p,1,none⟩ = false:=h4.2.1.row.frozen 1; have k11:=h4.2.1.row.lt; have HS4:=Lib.hid h4; clear h4 hg4 hs4)
      have hD:=((HS4.out.move hp (j - 1) (J:=(j : Int) - 1) (by omega)).set hp HA.out (.int .i32 x) (.int .i64 0)).alloc hp (.cells #[.int .i32 x,.int .i64 0] 91)
      refine bodyPost_ret (results_row_one rfl _ _ (w.heap.size + 1) 91 #[.int .i32 x,.int .i64 0] (0,0) _ _ rfl rfl ?_ Tryz.underlying91 rfl (by kernel_rfl)) rfl ?_
      ·exact hD.2.2.2
      unfold HighP
      rw [HG.out]
      exact ⟨hD.1,⟨_,_,rfl⟩,hD.2.1⟩
     ·rw [if_neg (by omega)] at hG0
      have HG:=Lib.hid hG0
      have hlt : lx ≤ x:=by omega
      have hlt2 : ¬ x < lx:=by omega
      clear hG0 d2 d1 hlr hy1 hy2 hx hy hxv hvr d3 hyv
      go_wp2
      go_quiet ((go_at_call 48; exact Calls.quiet_of (HN.out _)))
      go_wp2_with (go_at_call 71; refine (HO.out _).mono ?_; rintro e w4 ⟨hg4,hs4,rfl⟩; have h4:=(HST.out nq).grown hp hg4 hs4; rw [HXY.out]; have k1:=h4.2.2.1.cell 0; have k2:=h4.2.2.1.cell 1; have k3:=h4.2.2.2.cell 0; have k4:=h4.2.2.2.cell 1; have k5:=h4.2.2.2.frozen 0; have k6:=h4.2.2.2.frozen 1; have k7:=h4.2.2.1.lt; have k8:=h4.2.2.2.lt; have k9 : w4.cell? ⟨p,1,none⟩ = some (.int .i64 (j : Int)):=h4.2.1.row.cell 1; have k10 : w4.frozen? ⟨p,1,none⟩ = false:=h4.2.1.row.frozen 1; have k11:=h4.2.1.row.lt; have HS4:=Lib.hid h4; clear h4 hg4 hs4)
      have hD:=((HS4.out).set hp HA.out (.int .i32 x) (.int .i64 0)).alloc hp (.cells #[.int .i32 x,.int .i64 0] 91)
      refine bodyPost_ret (results_row_one rfl _ _ (w.heap.size + 1) 91 #[.int .i32 x,.int .i64 0] (0,0) _ _ rfl rfl ?_ Tryz.underlying91 rfl (by kernel_rfl)) rfl ?_
      ·exact hD.2.2.2
      unfold HighP
      rw [HG.out]
      exact ⟨hD.1,by rw [HXY.out]; rfl,hD.2.1⟩
  ·rw [if_pos (.inl hk)] at hG0
   have HG:=Lib.hid hG0
   have hO1 : ∀ m,Calls Tryz.prog 71 #[.pointer (some ⟨p,0,none⟩)] (((w.alloc (.cells #[.int .i32 lx,.int .i64 ly] 91)).alloc (.cells #[.int .i32 0,.int .i64 0] 91)).drewN m) fun e w' => (((w.alloc (.cells #[.int .i32 lx,.int .i64 ly] 91)).alloc (.cells #[.int .i32 0,.int .i64 0] 91)).drewN m).grownBy w' (some p) ∧ Scan w' p a n c V j fo ∧ ∃ (x y : Int) (g : FuncId) (cs : Array Value),e = .returned (.tuple #[.agg #[.int .i32 x,.int .i64 y],.func (.func g) #[] cs,.bool true]):=fun m => (hO m).mono (by
    rintro e w' ⟨h1,h2,h3 | ⟨_,x,y,f,h3,_,g,cs,rfl,_⟩⟩
    ·exact absurd h3.1 hk
    ·exact ⟨h1,h2,x,y,g,cs,h3⟩)
   have HO:=Lib.hid hO1
   have hjb : (1 : Int) ≤ (j : Int):=by omega
   have hjn : (j : Int) ≤ 67108864:=by omega
   clear hO hO1 hG hok hG0
   go_wp2
   go_quiet ((go_at_call 48; exact Calls.quiet_of (HN.out _)))
   go_wp2_with (go_at_call 71; refine (HO.out _).mono ?_; rintro e w4 ⟨hg4,hs4,x,y,g,cs,rfl⟩; have h4:=(HST.out nq).grown hp hg4 hs4; skip; have k1:=h4.2.2.1.cell 0; have k2:=h4.2.2.1.cell 1; have k3:=h4.2.2.2.cell 0; have k4:=h4.2.2.2.cell 1; have k5:=h4.2.2.2.frozen 0; have k6:=h4.2.2.2.frozen 1; have k7:=h4.2.2.1.lt; have k8:=h4.2.2.2.lt; have k9 : w4.cell? ⟨p,1,none⟩ = some (.int .i64 (j : Int)):=h4.2.1.row.cell 1; have k10 : w4.frozen? ⟨p,1,none⟩ = false:=h4.2.1.row.frozen 1; have k11:=h4.2.1.row.lt; have HS4:=Lib.hid h4; clear h4 hg4 hs4)
   have hD:=((HS4.out.move hp (j - 1) (J:=(j : Int) - 1) (by omega)).set hp HA.out (.int .i32 x) (.int .i64 y)).alloc hp (.cells #[.int .i32 x,.int .i64 y] 91)
   refine bodyPost_ret (results_row_one rfl _ _ (w.heap.size + 1) 91 #[.int .i32 x,.int .i64 y] (0,0) _ _ rfl rfl ?_ Tryz.underlying91 rfl (by kernel_rfl)) rfl ?_
   ·exact hD.2.2.2
   unfold HighP
   rw [HG.out]
   exact ⟨hD.1,⟨_,_,rfl⟩,hD.2.1⟩
end Go.Proofs.YtchdeboialbdiaaGreatDoor
