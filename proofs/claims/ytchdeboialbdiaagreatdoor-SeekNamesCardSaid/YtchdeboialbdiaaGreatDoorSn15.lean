/- Texts joined, one behind the other (SSetE, SPatA, SPatB). -/
import Derived.Test.YtchdeboialbdiaaGreatDoorSn14
namespace Go.Proofs.YtchdeboialbdiaaGreatDoor
set_option linter.unusedVariables false
set_option linter.unusedSimpArgs false
set_option maxHeartbeats 8000000
set_option maxRecDepth 100000
open Go.RowKit
open Go.Lib hiding intOf
def setAt (fo : Bool) (V : List Nat) (i : Nat) : Nat ⊕ ((Nat → Bool) × Nat) :=
 if V[i]? = some 94 then setG fo true (setGo V V.length (i + 1) []) else setG fo false (setGo V V.length i [])
theorem start_cells {w W : World} {p : Nat} {neg : Bool} (hb : Below w.heap.size w W) (h1 : Row W w.heap.size 154 [.slice none 0 0]) (h2 : Row W (w.heap.size + 1) 4 [.bool neg]) {a : Option Addr} {n c : Nat} {V : List Nat} {i : Nat} {fo : Bool} (h : Scan w p a n c V i fo) : HasSt w p a n c V fo neg [] (.slice none 0 0) i W :=
 ⟨grown_of_below hb _,h.keep hb (Nat.le_refl _),h1,h2,FunsOwn.nil _ _,h2.lt⟩
theorem setC (w : World) (p : Nat) (a : Option Addr) (n c : Nat) (V : List Nat) (i : Nat) (fo : Bool) (h : Scan w p a n c V i fo) (hV : OkV V) (hin : i ≤ n) (hn : n ≤ 67108800) (ha : ∀ ad,a = some ad → ad.block < w.heap.size) :
  Calls Tryz.prog 51 #[.pointer (some ⟨p,0,none⟩)] w (AtP w p a n c V fo (setAt fo V i)):=by
 have hp:=h.row.lt
 have hVn:=h.toks.1
 obtain ⟨z,hz⟩ : ∃ z,nowI V i = z:=⟨_,rfl⟩
 have h94 : z = 94 ↔ V[i]? = some 94:=by rw [← hz]; exact nowI_eq hV (by decide)
 have hb1 : Below w.heap.size w (w.alloc (.cells #[.slice none 0 0] 154)):=(Below.refl _ w).alloc (Nat.le_refl _) _
 have hN : Calls Tryz.prog 48 #[.pointer (some ⟨p,0,none⟩)] (w.alloc (.cells #[.slice none 0 0] 154)) fun e w'' => e = .returned (.int .i32 z) ∧ Quiet (w.alloc (.cells #[.slice none 0 0] 154)) w'':=by
  rw [← hz]
  exact nowC _ p a n c V i fo (h.keep hb1 (Nat.le_refl _)) hV (by omega) (by omega)
 have hst : ∀ w3,Quiet (w.alloc (.cells #[.slice none 0 0] 154)) w3 → ∀ neg,HasSt w p a n c V fo neg [] (.slice none 0 0) i (w3.alloc (.cells #[.bool neg] 4)) ∧ p < w3.heap.size ∧ w.heap.size < w3.heap.size ∧ w3.heap.size = w.heap.size + 1:=by
  intro w3 hq neg
  have r1 : Row w3 w.heap.size 154 [.slice none 0 0]:=by
   have r0 : Row (w.alloc (.cells #[.slice none 0 0] 154)) w.heap.size 154 [.slice none 0 0]:=row_new w [.slice none 0 0] _
   exact r0.keep (hq.below _) r0.lt
  have hs : w3.heap.size = w.heap.size + 1:=by
   obtain ⟨m,rfl⟩:=hq
   show (w.alloc _).heap.size = _
   rw [World.size_alloc]
  have r2 : Row (w3.alloc (.cells #[.bool neg] 4)) (w.heap.size + 1) 4 [.bool neg]:=by
   have:=row_new w3 [.bool neg] 4
   rwa [hs] at this
  have hb2 : Below w.heap.size w w3:=hb1.trans (hq.below _)
  exact ⟨start_cells (hb2.alloc (by omega) _) (r1.alloc _) r2 h,by omega,by omega,hs⟩
 have HST:=Lib.hid hst
 have HN:=Lib.hid hN
 have H94:=Lib.hid h94
 have HV:=Lib.hid hV
 have HA:=Lib.hid ha
 have hgo : ∀ (neg : Bool) (i0 : Nat) (R : Nat ⊕ (List El × Nat)),∃ X,findLabel (scopeOf Tryz.f51.body) 0 = some (.seq .skip X) ∧ (∀ x W,SetJ w p a n c V fo neg R 0 x W → X.wp Tryz.prog (jumps (fun l' x' W' => SetJ w p a n c V fo neg R l' x' W' ∧ SetM p n l' x' W' < SetM p n 0 x W)
   (bodyPost Tryz.prog Tryz.f51 (AtP w p a n c V fo (setG fo neg R)))) x W) ∧ ∀ lab x W,SetJ w p a n c V fo neg R lab x W → ∃ rest,findLabel (scopeOf Tryz.f51.body) lab = some rest ∧ rest.wp Tryz.prog (jumps (fun l' x' W' => SetJ w p a n c V fo neg R l' x' W' ∧ SetM p n l' x' W' < SetM p n lab x W)
   (bodyPost Tryz.prog Tryz.f51 (AtP w p a n c V fo (setG fo neg R)))) x W:=by
  intro neg i0 R
  obtain ⟨X0,hX0,hp0⟩:=set_elem w p a n c V fo neg R hV hVn hp hn ha
  obtain ⟨X1,hX1,hp1⟩:=set_end w p a n c V fo neg R hp hn
  refine ⟨X0,hX0,hp0,?_⟩
  intro lab x W hJ
  obtain ⟨i,els,v,h1,h2,h3,h4,hq⟩:=id hJ
  rcases hq with ⟨rfl,_⟩ | ⟨rfl,_⟩
  ·exact ⟨_,hX0,wp_seq (wp_skip (hp0 x W hJ))⟩
  ·exact ⟨_,hX1,wp_seq (wp_skip (hp1 _ x W hJ))⟩
 have HGO:=Lib.hid hgo
 have hpn : p ≠ w.heap.size:=by omega
 have hpn1 : p ≠ w.heap.size + 1:=by omega
 have HVN:=Lib.hid hVn
 clear hst hN h94 hz hV ha hgo hb1
 by_cases c1 : z = 94
 ·have hin2 : i < n:=by have:=lt_of_some (H94.out.1 c1); omega
  clear hVn
  have hS : setAt fo V i = setG fo true (setGo V n (i + 1) []):=by rw [← HVN.out]; exact if_pos (H94.out.1 c1)
  rw [hS]
  clear hS
  subst c1
  obtain ⟨X,hX,hpass,hall⟩:=HGO.out true (i + 1) (setGo V n (i + 1) [])
  have HX:=Lib.hid (⟨hX,hpass⟩ : _ ∧ _)
  have HALL:=Lib.hid hall
  have hm:=fun w3 hq => (HST.out w3 hq true).1.cells hp
  have HM:=Lib.hid hm
  clear hX hpass hall HGO hm h
  go_enter Tryz.func51, Tryz.ntmps51
  go_wp2_with fail
  refine wp_scope_labels (SetJ w p a n c V fo true (setGo V n (i + 1) [])) (SetM p n) HALL.out ?_
  go_wp2_with (go_at_call 48; refine (HN.out).mono ?_; rintro e w3 ⟨rfl,hq3⟩; obtain ⟨g1,g2,g3,g4,g5,g6,g7,_,_,_⟩:=HM.out w3 hq3; obtain ⟨hs3,k1,k2,k3⟩:=HST.out w3 hq3 true; have HS3:=Lib.hid hs3; have K3:=Lib.hid k3; clear hs3 k3 hq3)
  rw [K3.out]
  go_step3
  rename_i hK
  refine hK _ _ ?_
  obtain ⟨hX,hpass⟩:=HX.out
  have e : Code.seq .skip X = _:=Option.some.inj hX.symm
  obtain rfl:=(Code.seq.inj e).2
  clear e hX HX
  refine wp_mono (hpass _ _ ⟨i + 1,[],_,rfl,(by have hh:=HS3.out.move hp (i + 1) (J:=(i : Int) + 1) (by omega); rw [World.setCell_alloc_past _ _ _ _ k1] at hh; exact hh),Nat.zero_le _,by omega,.inl ⟨rfl,n,by omega,rfl⟩⟩) ?_
  intro e a w hh
  cases e <;> first | exact hh | exact hh.1
 ·have c1' : (z == 94) = false:=by rw [beq_eq_false_iff_ne]; exact c1
  clear hVn
  have hS : setAt fo V i = setG fo false (setGo V n (i) []):=by rw [← HVN.out]; exact if_neg (fun e => c1 (H94.out.2 e))
  rw [hS]
  clear hS
  obtain ⟨X,hX,hpass,hall⟩:=HGO.out false (i) (setGo V n (i) [])
  have HX:=Lib.hid (⟨hX,hpass⟩ : _ ∧ _)
  have HALL:=Lib.hid hall
  have hm:=fun w3 hq => (HST.out w3 hq false).1.cells hp
  have HM:=Lib.hid hm
  clear hX hpass hall HGO hm h
  go_enter Tryz.func51, Tryz.ntmps51
  go_wp2_with fail
  refine wp_scope_labels (SetJ w p a n c V fo false (setGo V n (i) [])) (SetM p n) HALL.out ?_
  go_wp2_with (go_at_call 48; refine (HN.out).mono ?_; rintro e w3 ⟨rfl,hq3⟩; obtain ⟨g1,g2,g3,g4,g5,g6,g7,_,_,_⟩:=HM.out w3 hq3; obtain ⟨hs3,k1,k2,k3⟩:=HST.out w3 hq3 false; have HS3:=Lib.hid hs3; have K3:=Lib.hid k3; clear hs3 k3 hq3)
  rw [K3.out]
  go_step3
  rename_i hK
  refine hK _ _ ?_
  obtain ⟨hX,hpass⟩:=HX.out
  have e : Code.seq .skip X = _:=Option.some.inj hX.symm
  obtain rfl:=(Code.seq.inj e).2
  clear e hX HX
  refine wp_mono (hpass _ _ ⟨i,[],_,rfl,HS3.out,Nat.zero_le _,by omega,.inl ⟨rfl,n,by omega,rfl⟩⟩) ?_
  intro e a w hh
  cases e <;> first | exact hh | exact hh.1
theorem infoPart : (Tryz.prog.info? 120).map (fun i => (i.zero,i.size,i.bytes)) = some (some (.agg #[.int .u8 0,.nilFunc,.int .i64 0,.bool false]),4,32):=by kernel_rfl
def isEdge (it : Itm) : Bool:=decide (it.what = 94 ∨ it.what = 36)
def edgeN (it : Itm) : Nat:=if isEdge it = true then it.what else 0
def PC (q : Itm × Value) : List Value:=[.int .u8 (edgeN q.1 : Int),q.2,.int .i64 (q.1.least : Int),.bool q.1.many]
def GoodP (fo : Bool) (B : Nat) (v : Value) (W : World) (q : Itm × Value) : Prop :=
 (isEdge q.1 = true ∧ q.2 = .nilFunc) ∨ (isEdge q.1 = false ∧ ∃ K,(∀ k,K k → B ≤ k) ∧ (∀ b,v.ownBlock = some b → ¬ K b) ∧ FunAt K W q.2 (atomIs fo q.1))
def PartsOwn (fo : Bool) (B : Nat) (v : Value) (L : List (Itm × Value)) (W : World) : Prop :=
 W.ownsRow B 120 4 v L.length (L.flatMap PC) ∧ ∀ q ∈ L,GoodP fo B v W q
theorem PartsOwn.nil (fo : Bool) (B : Nat) (W : World) : PartsOwn fo B (.slice none 0 0) [] W:=⟨World.ownsRow_nil _ _ _ _,fun q h => by cases h⟩
theorem PartsOwn.grown {fo : Bool} {B p : Nat} {v : Value} {L : List (Itm × Value)} {W W' : World} (h : PartsOwn fo B v L W) (hg : W.grownBy W' (some p)) (hp : p < B) : PartsOwn fo B v L W':=by
 obtain ⟨h1,h2⟩:=h
 refine ⟨World.ownsRow.kept h1 hg (.inr ?_),fun q hq => ?_⟩
 ·intro e
  obtain ⟨hB,_⟩:=own_block h1 e
  omega
 ·rcases h2 q hq with h3 | ⟨h3,K,hk,ha,hF⟩
  ·exact .inl h3
  ·exact .inr ⟨h3,K,hk,ha,hF.keep (fun k hk' => hg.block k (hF.1 k hk') (fun e => by cases e; have:=hk _ hk'; omega)) hg.size⟩
theorem PartsOwn.push {fo : Bool} {B : Nat} {v v' : Value} {L : List (Itm × Value)} {q : Itm × Value} {W W' : World} (h : PartsOwn fo B v L W) (hp : AppPost W B 120 4 v L.length (L.flatMap PC) (PC q) v' W') (hq : GoodP fo B v W q) : PartsOwn fo B v' (L ++ [q]) W':=by
 obtain ⟨h1,h2⟩:=h
 refine ⟨by rw [List.length_append,List.flatMap_append,List.length_singleton]; simpa using hp.1,fun r hr => ?_⟩
 have go : GoodP fo B v W r → GoodP fo B v' W' r:=by
  rintro (h3 | ⟨h3,K,hk,ha,hF⟩)
  ·exact .inl h3
  ·refine .inr ⟨h3,K,hk,?_,hF.keep (fun k hk' => hp.2.1.block k (hF.1 k hk') (fun e => ha k e.symm hk')) hp.2.1.size⟩
   intro b hb hkb
   rcases hp.2.2 with e | e
   ·exact ha b (e ▸ hb) hkb
   ·have:=e b hb
    have:=hF.1 b hkb
    omega
 rcases List.mem_append.1 hr with hr | hr
 ·exact go (h2 r hr)
 ·rw [List.mem_singleton] at hr
  subst hr
  exact go hq
structure PatSt (w : World) (p : Nat) (a : Option Addr) (n c : Nat) (V : List Nat) (fo : Bool) (L : List (Itm × Value)) (v : Value) (i : Nat) (e : Int) (f : Value) (l : Int) (m : Bool) (W : World) : Prop where
 grown : w.grownBy W (some p)
 scan : Scan W p a n c V i fo
 part : Row W w.heap.size 120 [.int .u8 e,f,.int .i64 l,.bool m]
 parts : PartsOwn fo (w.heap.size + 1) v L W
 size : w.heap.size + 1 ≤ W.heap.size
theorem PatSt.step {w W W' : World} {p n c i j : Nat} {a : Option Addr} {V : List Nat} {fo m : Bool} {L : List (Itm × Value)} {v f : Value} {e l : Int} (h : PatSt w p a n c V fo L v i e f l m W) (hp : p < w.heap.size) (hg : W.grownBy W' (some p)) (hs : Scan W' p a n c V j fo) : PatSt w p a n c V fo L v j e f l m W' :=
 ⟨grown_then h.grown hg (fun j h => by cases h; exact .inr rfl),hs,(hg.block w.heap.size h.part.lt (fun e => by cases e; omega)).trans h.part,h.parts.grown hg (by omega),Nat.le_trans h.size hg.size⟩
theorem PatSt.quiet {w W W' : World} {p n c i : Nat} {a : Option Addr} {V : List Nat} {fo m : Bool} {L : List (Itm × Value)} {v f : Value} {e l : Int} (h : PatSt w p a n c V fo L v i e f l m W) (hp : p < w.heap.size) (hq : Quiet W W') : PatSt w p a n c V fo L v i e f l m W':=by
 obtain ⟨m,rfl⟩:=hq
 exact h.step hp (grown_quiet (grown_refl W _) m) (h.scan.quiet m)
theorem PatSt.move {w W : World} {p n c i : Nat} {a : Option Addr} {V : List Nat} {fo m : Bool} {L : List (Itm × Value)} {v f : Value} {e l : Int} (h : PatSt w p a n c V fo L v i e f l m W) (hp : p < w.heap.size) (j : Nat) {J : Int} (hJ : J = (j : Int)) : PatSt w p a n c V fo L v j e f l m (W.setCell ⟨p,1,none⟩ (.int .i64 J)):=by
 subst hJ
 exact h.step hp (grownBy_set _ p 1 _) (h.scan.move j)
theorem PatSt.part' {w W : World} {p n c i : Nat} {a : Option Addr} {V : List Nat} {fo m m' : Bool} {L : List (Itm × Value)} {v f f' : Value} {e l e' l' : Int} (h : PatSt w p a n c V fo L v i e f l m W) (hp : p < w.heap.size) (ha : ∀ ad,a = some ad → ad.block < w.heap.size) (k : Nat) (x : Value) (hx : [.int .u8 e',f',.int .i64 l',.bool m'] = ([.int .u8 e,f,.int .i64 l,.bool m] : List Value).set k x) : PatSt w p a n c V fo L v i e' f' l' m' (W.setCell ⟨w.heap.size,k,none⟩ x):=by
 have hg:=grownBy_set W w.heap.size k x
 refine ⟨grown_then h.grown hg (fun j h => by cases h; exact .inl (Nat.le_refl _)),h.scan.grown hg (by omega) (fun ad h => by have:=ha ad h; omega),?_,h.parts.grown hg (by omega),by rw [World.size_setCell]; exact h.size⟩
 rw [hx]
 exact h.part.set k x
theorem PatSt.push {w W W' : World} {p n c i : Nat} {a : Option Addr} {V : List Nat} {fo m : Bool} {L : List (Itm × Value)} {v v' f : Value} {e l : Int} {q : Itm × Value} (h : PatSt w p a n c V fo L v i e f l m W) (hp : p < w.heap.size) (ha : ∀ ad,a = some ad → ad.block < w.heap.size)
  (hpost : AppPost W (w.heap.size + 1) 120 4 v L.length (L.flatMap PC) (PC q) v' W') (hq : GoodP fo (w.heap.size + 1) v W q) : PatSt w p a n c V fo (L ++ [q]) v' i e f l m W':=by
 have hb:=hpost.below h.parts.1 h.size
 have hle:=hb.size
 have hsz:=h.size
 exact ⟨grown_low h.grown hb (by omega),h.scan.keepA hb (by omega) (fun ad h => by have:=ha ad h; omega),h.part.keep hb (by omega),h.parts.push hpost hq,by omega⟩
theorem PatSt.cells {w W : World} {p n c i : Nat} {a : Option Addr} {V : List Nat} {fo m : Bool} {L : List (Itm × Value)} {v f : Value} {e l : Int} (h : PatSt w p a n c V fo L v i e f l m W) (hp : p < w.heap.size) :
  W.cell? ⟨p,1,none⟩ = some (.int .i64 (i : Int)) ∧ W.frozen? ⟨p,1,none⟩ = false ∧ W.cell? ⟨w.heap.size,0,none⟩ = some (.int .u8 e) ∧ W.cell? ⟨w.heap.size,1,none⟩ = some f ∧ W.cell? ⟨w.heap.size,2,none⟩ = some (.int .i64 l) ∧ W.cell? ⟨w.heap.size,3,none⟩ = some (.bool m) ∧ W.frozen? ⟨w.heap.size,0,none⟩ = false ∧ W.frozen? ⟨w.heap.size,1,none⟩ = false ∧ W.frozen? ⟨w.heap.size,2,none⟩ = false ∧ W.frozen? ⟨w.heap.size,3,none⟩ = false ∧ p < W.heap.size ∧ w.heap.size < W.heap.size ∧ p ≠ w.heap.size :=
 ⟨h.scan.row.cell 1,h.scan.row.frozen 1,h.part.cell 0,h.part.cell 1,h.part.cell 2,h.part.cell 3,h.part.frozen 0,h.part.frozen 1,h.part.frozen 2,h.part.frozen 3,h.scan.row.lt,h.part.lt,by omega⟩
def PatP (w : World) (p : Nat) (a : Option Addr) (n c : Nat) (V : List Nat) (fo : Bool) (R : Nat ⊕ List Itm) (e : Ending) (w' : World) : Prop :=
 w.grownBy w' (some p) ∧ match R with
  | .inl b => e = .returned (.tuple #[.slice none 0 0,.bool false]) ∧ Scan w' p a n c V b fo
  | .inr its => ∃ v L,e = .returned (.tuple #[v,.bool true]) ∧ L.map Prod.fst = its ∧ PartsOwn fo (w.heap.size + 1) v L w'
theorem setAt_eq (fo : Bool) (V : List Nat) (i : Nat) : setAt fo V i = (match setP V i with | .inl b => .inl b | .inr (ng,e,j) => .inr (setHas fo ng (hasV e),j)):=by
 unfold setAt setP
 split
 ·cases setGo V V.length (i + 1) [] with
  | inl b => rfl
  | inr t => rfl
 ·cases setGo V V.length i [] with
  | inl b => rfl
  | inr t => rfl
theorem setGo_le (V : List Nat) (hV : OkV V) : ∀ (f i : Nat) (els : List El),i ≤ V.length → match setGo V f i els with
  | .inl b => b ≤ V.length
  | .inr (_,j) => i < j ∧ j ≤ V.length
 | 0,i,els,h => h
 | f + 1,i,els,h => by
  by_cases h1 : V[i]? = none ∨ V[i]? = some 45
  ·rw [setGo,if_pos h1]; exact h
  ·by_cases h2 : V[i]? = some 93
   ·rw [setGo_close h2]
    have:=lt_of_some h2
    by_cases he : els = []
    ·rw [if_pos he]; exact h
    ·rw [if_neg he]; exact ⟨by omega,by omega⟩
   ·rw [setGo_more (fun e => h1 (.inl e)) (fun e => h1 (.inr e)) h2]
    have hg:=oneP_le V hV i h
    cases hG : oneP V i with
    | inl b => rw [hG] at hg; exact hg
    | inr t =>
     obtain ⟨k,v,j⟩:=t
     rw [hG] at hg
     obtain ⟨g1,g2,_⟩:=hg
     dsimp only
     have up : ∀ j' els',i < j' → j' ≤ V.length → (match setGo V f j' els' with | .inl b => b ≤ V.length | .inr (_,j) => i < j ∧ j ≤ V.length):=by
      intro j' els' a1 a2
      have:=setGo_le V hV f j' els' a2
      cases hs : setGo V f j' els' with
      | inl b => rw [hs] at this; exact this
      | inr t => rw [hs] at this; exact ⟨by have:=this.1; omega,this.2⟩
     by_cases hk : k = 0
     ·rw [if_pos hk]
      by_cases h45 : V[j]? = some 45
      ·rw [if_pos h45]
       have hh:=highP_le V hV (j + 1) v (by have:=lt_of_some h45; omega)
       cases hH : highP V (j + 1) v with
       | inl b => rw [hH] at hh; exact hh
       | inr t2 =>
        obtain ⟨hv,j2⟩:=t2
        rw [hH] at hh
        obtain ⟨q1,q2,_⟩:=hh
        exact up j2 _ (by omega) q2
      ·rw [if_neg h45]
       exact up j _ g1 g2
     ·rw [if_neg hk]
      exact up j _ g1 g2
def PatF (p s : Nat) (v : Value) (u : Nat → Value) : Act:=⟨#[.pointer (some ⟨p,0,none⟩),u 1,u 2,u 3,v,.pointer (some ⟨s,0,none⟩),u 6,u 7,u 8,u 9,u 10,u 11,u 12,u 13,u 14,u 15,u 16,u 17,u 18,u 19,u 20,u 21,u 22,u 23,u 24,u 25,u 26,u 27,u 28,u 29,u 30,u 31,u 32,u 33,u 34,u 35,u 36,u 37,u 38,u 39,u 40,u 41,u 42,u 43,u 44,u 45,u 46,u 47,u 48,u 49,u 50,u 51,u 52,u 53,u 54,u 55,u 56,u 57,u 58,u 59,u 60,u 61,u 62,u 63,u 64,u 65,u 66,u 67,u 68,u 69,u 70,u 71,u 72,u 73,u 74,u 75,u 76,u 77,u 78,u 79,u 80,u 81,u 82,u 83,u 84,u 85,u 86,u 87,u 88,u 89,u 90,u 91,u 92,u 93,u 94,u 95,u 96,u 97,u 98,u 99,u 100,u 101,u 102,u 103,u 104,u 105,u 106,u 107,u 108,u 109,u 110,u 111,u 112,u 113,u 114],[]⟩
def PatJ (w : World) (p : Nat) (a : Option Addr) (n c : Nat) (V : List Nat) (fo : Bool) (R : Nat ⊕ List Itm) (lab : Nat) (x : Act) (W : World) : Prop :=
  ∃ (i : Nat) (L : List (Itm × Value)) (v : Value) (e : Int) (f : Value) (l : Int) (m : Bool),x = PatF p w.heap.size v (fun k => x.tmps.getD k undef) ∧ PatSt w p a n c V fo L v i e f l m W ∧ L.length ≤ i ∧ i ≤ n ∧
    ((lab = 0 ∧ R = .inr (L.map Prod.fst)) ∨
     (lab = 1 ∧ ∃ g,n < g + i ∧ itemsGo V g i (L.map Prod.fst) = R) ∨
     (lab = 2 ∧ e = 0 ∧ l = 1 ∧ m = false ∧ L.length < i ∧ ∃ (g what : Nat) (ng : Bool) (els : List El),what ≠ 94 ∧ what ≠ 36 ∧ n < g + i ∧ itemsGo V g (countP V i).2.2 (L.map Prod.fst ++ [⟨what,ng,els,(countP V i).1,(countP V i).2.1⟩]) = R ∧
        (∃ gf cs K,f = .func (.func gf) #[] cs ∧ (∀ k,K k → w.heap.size + 1 ≤ k) ∧ (∀ b,v.ownBlock = some b → ¬ K b) ∧ FunAt K W f (atomIs fo ⟨what,ng,els,1,false⟩))))
def PatM (p n lab : Nat) (x : Act) (W : World) : Nat:=if lab = 0 then 0 else 4 * (n + 1 - (RowKit.intOf ((W.cell? ⟨p,1,none⟩).getD undef)).toNat) + (if lab = 2 then 3 else 2)
theorem PatM_at {w W : World} {p n c i : Nat} {a : Option Addr} {V : List Nat} {fo m : Bool} {L : List (Itm × Value)} {v f : Value} {e l : Int} (h : PatSt w p a n c V fo L v i e f l m W) (x : Act) (lab : Nat) (hl : lab ≠ 0) : PatM p n lab x W = 4 * (n + 1 - i) + (if lab = 2 then 3 else 2):=by
 unfold PatM
 rw [if_neg hl,h.scan.row.cell 1]
 rfl
theorem itemsGo_end {V : List Nat} {g i : Nat} {acc : List Itm} (h : V.length ≤ i) : itemsGo V g i acc = .inr acc:=by
 cases g with
 | zero => rfl
 | succ g => rw [itemsGo,if_pos h]
theorem itemsGo_next {V : List Nat} {g i : Nat} {acc : List Itm} (h : i < V.length) : itemsGo V (g + 1) i acc = (match itemP V i with | .inl b => .inl b | .inr (it,j) => itemsGo V g j (acc ++ [it])):=by
 rw [itemsGo,if_neg (by omega)]
 rfl
theorem pat_end (w : World) (p : Nat) (a : Option Addr) (n c : Nat) (V : List Nat) (fo : Bool) (R : Nat ⊕ List Itm) (hp : p < w.heap.size) :
  ∃ X,findLabel (scopeOf Tryz.f34.body) 0 = some (.seq .skip X) ∧ ∀ (J : Nat → Act → World → Prop) x W,PatJ w p a n c V fo R 0 x W → X.wp Tryz.prog (jumps J
   (bodyPost Tryz.prog Tryz.f34 (PatP w p a n c V fo R))) x W:=by
 refine ⟨_,rfl,?_⟩
 intro J x W hJ
 obtain ⟨i,L,v,e,f,l,m,hx,h,hL,hin,hq⟩:=hJ
 generalize (fun k => x.tmps.getD k undef) = u at hx
 subst hx
 unfold PatF
 rcases hq with ⟨_,rfl⟩ | ⟨h0,_⟩ | ⟨h0,_⟩
 rotate_left
 ·cases h0
 ·cases h0
 have HS:=Lib.hid h
 clear h
 go_wp2_with fail
 try rw [jumps_ret]
 go_ret2
 exact ⟨HS.out.grown,v,L,rfl,rfl,HS.out.parts⟩
theorem isEdge_no {it : Itm} (h1 : it.what ≠ 94) (h2 : it.what ≠ 36) : isEdge it = false:=decide_eq_false (by rintro (h | h) <;> contradiction)
theorem PC_atom {it : Itm} (h : isEdge it = false) (f : Value) : PC (it,f) = [.int .u8 0,f,.int .i64 (it.least : Int),.bool it.many]:=by
 unfold PC edgeN
 rw [if_neg (by rw [h]; decide)]
 rfl
theorem pat_count (w : World) (p : Nat) (a : Option Addr) (n c : Nat) (V : List Nat) (fo : Bool) (R : Nat ⊕ List Itm) (hV : OkV V) (hVn : V.length = n) (hp : p < w.heap.size) (hn : n ≤ 67108800) (ha : ∀ ad,a = some ad → ad.block < w.heap.size) :
  ∃ X,findLabel (scopeOf Tryz.f34.body) 2 = some (.seq .skip X) ∧ ∀ x W,PatJ w p a n c V fo R 2 x W → X.wp Tryz.prog (jumps (fun l' x' W' => PatJ w p a n c V fo R l' x' W' ∧ PatM p n l' x' W' < PatM p n 2 x W)
   (bodyPost Tryz.prog Tryz.f34 (PatP w p a n c V fo R))) x W:=by
 refine ⟨_,rfl,?_⟩
 intro x W hJ
 obtain ⟨i,L,v,e,f,l,m,hx,h,hL,hin,hq⟩:=hJ
 generalize (fun k => x.tmps.getD k undef) = u at hx
 subst hx
 rw [PatM_at h _ 2 (by decide)]
 rw [if_pos rfl]
 rcases hq with ⟨h0,_⟩ | ⟨h0,_⟩ | ⟨_,rfl,rfl,rfl,hLi,g,what,ng,els,hw1,hw2,hg,hR,gf,cs,K,rfl,hK1,hK2,hF⟩
 ·cases h0
 ·cases h0
 obtain ⟨z,hz⟩ : ∃ z,nowI V i = z:=⟨_,rfl⟩
 have h42 : z = 42 ↔ V[i]? = some 42:=by rw [← hz]; exact nowI_eq hV (by decide)
 have h43 : z = 43 ↔ V[i]? = some 43:=by rw [← hz]; exact nowI_eq hV (by decide)
 have h63 : z = 63 ↔ V[i]? = some 63:=by rw [← hz]; exact nowI_eq hV (by decide)
 have hN : Calls Tryz.prog 48 #[.pointer (some ⟨p,0,none⟩)] W fun e w'' => e = .returned (.int .i32 z) ∧ Quiet W w'':=by
  rw [← hz]
  exact nowC _ p a n c V i fo h.scan hV (by omega) (by omega)
 have HN:=Lib.hid hN
 have HS:=Lib.hid h
 have HA:=Lib.hid ha
 have hin2 : ∀ k,V[i]? = some k → i < n:=fun k hk => by have:=lt_of_some hk; omega
 have hgood : ∀ (w' : World) (l : Nat) (m : Bool),W.heap.size ≤ w'.heap.size → (∀ k,K k → w'.heap[k]? = W.heap[k]?) → GoodP fo (w.heap.size + 1) v w' (⟨what,ng,els,l,m⟩,.func (.func gf) #[] cs):=fun w' l m hs hk => .inr ⟨isEdge_no hw1 hw2,K,hK1,hK2,FunAt.keep hF hk hs⟩
 have HG:=Lib.hid hgood
 have hkl:=hF.1
 have HKL:=Lib.hid hkl
 have HK1:=Lib.hid hK1
 have HW:=Lib.hid (⟨hw1,hw2⟩ : _ ∧ _)
 clear hN h hV ha hgood hF hK2 hz hkl hK1 hw1 hw2
 unfold PatF
 by_cases c42 : z = 42
 ·have hcp : countP V i = (0,true,i + 1):=by unfold countP; rw [if_pos (h42.1 c42)]
  have hlt:=hin2 _ (h42.1 c42)
  rw [hcp] at hR
  have HR:=Lib.hid hR
  subst c42
  clear hR hcp h42 h43 h63 hin2
  go_wp2_with (first | (go_at_call 48; refine (HN.out).mono ?_; rintro e w3 ⟨rfl,hq3⟩; have h3:=HS.out.quiet hp hq3; obtain ⟨g1,g2,g3,g4,g5,g6,g7,g8,g9,g10,g11,g12,_⟩:=h3.cells hp; have Q3:=Lib.hid hq3; have HS3:=Lib.hid h3; clear h3 hq3) | (at_builtin; have hwp:=((HS3.out.part' (l':=0) hp HA.out 2 (.int .i64 0) rfl).part' (m':=true) hp HA.out 3 (.bool true) rfl).move hp (i + 1) (J:=(i : Int) + 1) (by omega); have HWP:=Lib.hid hwp; clear hwp; refine appSep rfl _ _ rfl Tryz.underlying34 (.agg #[.int .u8 0,.nilFunc,.int .i64 0,.bool false]) 4 32 infoPart rfl (by decide) (by decide) (w.heap.size + 1) (((w3.setCell ⟨w.heap.size,2,none⟩ (.int .i64 0)).setCell ⟨w.heap.size,3,none⟩ (.bool true)).setCell ⟨p,1,none⟩ (.int .i64 ((i : Int) + 1))) v L.length (L.flatMap PC) [.int .u8 0,.func (.func gf) #[] cs,.int .i64 0,.bool true] rfl (by intro u hu; simp only [List.mem_cons,List.not_mem_nil,or_false] at hu; rcases hu with rfl | rfl | rfl | rfl <;> rfl) rfl HWP.out.parts.1 (show Value.slice (some ⟨w3.heap.size,0,none⟩) 1 1 = Value.slice (some ⟨(((w3.setCell ⟨w.heap.size,2,none⟩ (.int .i64 0)).setCell ⟨w.heap.size,3,none⟩ (.bool true)).setCell ⟨p,1,none⟩ (.int .i64 ((i : Int) + 1))).heap.size,0,none⟩) 1 1 by simp) rfl (by omega) HWP.out.size ?_; intro v8 w8 hp8; have HP8:=Lib.hid hp8; clear hp8))
  go_step3
  have hpush:=HWP.out.push (q:=(⟨what,ng,els,0,true⟩,.func (.func gf) #[] cs)) hp HA.out (by rw [PC_atom (isEdge_no HW.out.1 HW.out.2)]; exact HP8.out) (HG.out _ 0 true (by rw [World.size_setCell,World.size_setCell,World.size_setCell]; exact (Q3.out.below W.heap.size).size) (fun k hk => by have h1:=HK1.out k hk; have h2:=HKL.out k hk; have h3:=(Q3.out.below W.heap.size).block k h2; rw [Below.heap_setCell _ _ _ k (show k ≠ p by omega)]; rw [Below.heap_setCell _ _ _ k (show k ≠ w.heap.size by omega)]; rw [Below.heap_setCell _ _ _ k (show k ≠ w.heap.size by omega)]; exact h3))
  show PatJ w p a n c V fo R 1 _ _ ∧ PatM p n 1 _ _ < _
  refine ⟨⟨i + 1,L ++ [(⟨what,ng,els,0,true⟩,.func (.func gf) #[] cs)],_,_,_,_,_,rfl,hpush,by rw [List.length_append,List.length_singleton]; omega,by omega,.inr (.inl ⟨rfl,g,by omega,by rw [List.map_append]; exact HR.out⟩)⟩,?_⟩
  rw [PatM_at hpush _ 1 (by decide)]
  rw [if_neg (by decide)]
  omega
 have e42 : (z == 42) = false:=by rw [beq_eq_false_iff_ne]; exact c42
 by_cases c43 : z = 43
 ·have hcp : countP V i = (1,true,i + 1):=by unfold countP; rw [if_neg (fun e => c42 (h42.2 e))]; rw [if_pos (h43.1 c43)]
  have hlt:=hin2 _ (h43.1 c43)
  rw [hcp] at hR
  have HR:=Lib.hid hR
  subst c43
  clear hR hcp h42 h43 h63 hin2
  go_wp2_with (first | (go_at_call 48; refine (HN.out).mono ?_; rintro e w3 ⟨rfl,hq3⟩; have h3:=HS.out.quiet hp hq3; obtain ⟨g1,g2,g3,g4,g5,g6,g7,g8,g9,g10,g11,g12,_⟩:=h3.cells hp; have Q3:=Lib.hid hq3; have HS3:=Lib.hid h3; clear h3 hq3) | (at_builtin; have hwp:=(HS3.out.part' (m':=true) hp HA.out 3 (.bool true) rfl).move hp (i + 1) (J:=(i : Int) + 1) (by omega); have HWP:=Lib.hid hwp; clear hwp; refine appSep rfl _ _ rfl Tryz.underlying34 (.agg #[.int .u8 0,.nilFunc,.int .i64 0,.bool false]) 4 32 infoPart rfl (by decide) (by decide) (w.heap.size + 1) ((w3.setCell ⟨w.heap.size,3,none⟩ (.bool true)).setCell ⟨p,1,none⟩ (.int .i64 ((i : Int) + 1))) v L.length (L.flatMap PC) [.int .u8 0,.func (.func gf) #[] cs,.int .i64 1,.bool true] rfl (by intro u hu; simp only [List.mem_cons,List.not_mem_nil,or_false] at hu; rcases hu with rfl | rfl | rfl | rfl <;> rfl) rfl HWP.out.parts.1 (show Value.slice (some ⟨w3.heap.size,0,none⟩) 1 1 = Value.slice (some ⟨((w3.setCell ⟨w.heap.size,3,none⟩ (.bool true)).setCell ⟨p,1,none⟩ (.int .i64 ((i : Int) + 1))).heap.size,0,none⟩) 1 1 by simp) rfl (by omega) HWP.out.size ?_; intro v8 w8 hp8; have HP8:=Lib.hid hp8; clear hp8))
  go_step3
  have hpush:=HWP.out.push (q:=(⟨what,ng,els,1,true⟩,.func (.func gf) #[] cs)) hp HA.out (by rw [PC_atom (isEdge_no HW.out.1 HW.out.2)]; exact HP8.out) (HG.out _ 1 true (by rw [World.size_setCell,World.size_setCell]; exact (Q3.out.below W.heap.size).size) (fun k hk => by have h1:=HK1.out k hk; have h2:=HKL.out k hk; have h3:=(Q3.out.below W.heap.size).block k h2; rw [Below.heap_setCell _ _ _ k (show k ≠ p by omega)]; rw [Below.heap_setCell _ _ _ k (show k ≠ w.heap.size by omega)]; exact h3))
  show PatJ w p a n c V fo R 1 _ _ ∧ PatM p n 1 _ _ < _
  refine ⟨⟨i + 1,L ++ [(⟨what,ng,els,1,true⟩,.func (.func gf) #[] cs)],_,_,_,_,_,rfl,hpush,by rw [List.length_append,List.length_singleton]; omega,by omega,.inr (.inl ⟨rfl,g,by omega,by rw [List.map_append]; exact HR.out⟩)⟩,?_⟩
  rw [PatM_at hpush _ 1 (by decide)]
  rw [if_neg (by decide)]
  omega
 have e43 : (z == 43) = false:=by rw [beq_eq_false_iff_ne]; exact c43
 by_cases c63 : z = 63
 ·have hcp : countP V i = (0,false,i + 1):=by unfold countP; rw [if_neg (fun e => c42 (h42.2 e))]; rw [if_neg (fun e => c43 (h43.2 e))]; rw [if_pos (h63.1 c63)]
  have hlt:=hin2 _ (h63.1 c63)
  rw [hcp] at hR
  have HR:=Lib.hid hR
  subst c63
  clear hR hcp h42 h43 h63 hin2
  go_wp2_with (first | (go_at_call 48; refine (HN.out).mono ?_; rintro e w3 ⟨rfl,hq3⟩; have h3:=HS.out.quiet hp hq3; obtain ⟨g1,g2,g3,g4,g5,g6,g7,g8,g9,g10,g11,g12,_⟩:=h3.cells hp; have Q3:=Lib.hid hq3; have HS3:=Lib.hid h3; clear h3 hq3) | (at_builtin; have hwp:=(HS3.out.part' (l':=0) hp HA.out 2 (.int .i64 0) rfl).move hp (i + 1) (J:=(i : Int) + 1) (by omega); have HWP:=Lib.hid hwp; clear hwp; refine appSep rfl _ _ rfl Tryz.underlying34 (.agg #[.int .u8 0,.nilFunc,.int .i64 0,.bool false]) 4 32 infoPart rfl (by decide) (by decide) (w.heap.size + 1) ((w3.setCell ⟨w.heap.size,2,none⟩ (.int .i64 0)).setCell ⟨p,1,none⟩ (.int .i64 ((i : Int) + 1))) v L.length (L.flatMap PC) [.int .u8 0,.func (.func gf) #[] cs,.int .i64 0,.bool false] rfl (by intro u hu; simp only [List.mem_cons,List.not_mem_nil,or_false] at hu; rcases hu with rfl | rfl | rfl | rfl <;> rfl) rfl HWP.out.parts.1 (show Value.slice (some ⟨w3.heap.size,0,none⟩) 1 1 = Value.slice (some ⟨((w3.setCell ⟨w.heap.size,2,none⟩ (.int .i64 0)).setCell ⟨p,1,none⟩ (.int .i64 ((i : Int) + 1))).heap.size,0,none⟩) 1 1 by simp) rfl (by omega) HWP.out.size ?_; intro v8 w8 hp8; have HP8:=Lib.hid hp8; clear hp8))
  go_step3
  have hpush:=HWP.out.push (q:=(⟨what,ng,els,0,false⟩,.func (.func gf) #[] cs)) hp HA.out (by rw [PC_atom (isEdge_no HW.out.1 HW.out.2)]; exact HP8.out) (HG.out _ 0 false (by rw [World.size_setCell,World.size_setCell]; exact (Q3.out.below W.heap.size).size) (fun k hk => by have h1:=HK1.out k hk; have h2:=HKL.out k hk; have h3:=(Q3.out.below W.heap.size).block k h2; rw [Below.heap_setCell _ _ _ k (show k ≠ p by omega)]; rw [Below.heap_setCell _ _ _ k (show k ≠ w.heap.size by omega)]; exact h3))
  show PatJ w p a n c V fo R 1 _ _ ∧ PatM p n 1 _ _ < _
  refine ⟨⟨i + 1,L ++ [(⟨what,ng,els,0,false⟩,.func (.func gf) #[] cs)],_,_,_,_,_,rfl,hpush,by rw [List.length_append,List.length_singleton]; omega,by omega,.inr (.inl ⟨rfl,g,by omega,by rw [List.map_append]; exact HR.out⟩)⟩,?_⟩
  rw [PatM_at hpush _ 1 (by decide)]
  rw [if_neg (by decide)]
  omega
 have e63 : (z == 63) = false:=by rw [beq_eq_false_iff_ne]; exact c63
 have hcp : countP V i = (1,false,i):=by unfold countP; rw [if_neg (fun e => c42 (h42.2 e)),if_neg (fun e => c43 (h43.2 e)),if_neg (fun e => c63 (h63.2 e))]
 rw [hcp] at hR
 have HR:=Lib.hid hR
 clear hR hcp h42 h43 h63 hin2
 go_wp2_with (first | (go_at_call 48; refine (HN.out).mono ?_; rintro e w3 ⟨rfl,hq3⟩; have h3:=HS.out.quiet hp hq3; obtain ⟨g1,g2,g3,g4,g5,g6,g7,g8,g9,g10,g11,g12,_⟩:=h3.cells hp; have Q3:=Lib.hid hq3; have HS3:=Lib.hid h3; clear h3 hq3) | (at_builtin; have hwp:=HS3.out; have HWP:=Lib.hid hwp; clear hwp; refine appSep rfl _ _ rfl Tryz.underlying34 (.agg #[.int .u8 0,.nilFunc,.int .i64 0,.bool false]) 4 32 infoPart rfl (by decide) (by decide) (w.heap.size + 1) (w3) v L.length (L.flatMap PC) [.int .u8 0,.func (.func gf) #[] cs,.int .i64 1,.bool false] rfl (by intro u hu; simp only [List.mem_cons,List.not_mem_nil,or_false] at hu; rcases hu with rfl | rfl | rfl | rfl <;> rfl) rfl HWP.out.parts.1 (show Value.slice (some ⟨w3.heap.size,0,none⟩) 1 1 = Value.slice (some ⟨(w3).heap.size,0,none⟩) 1 1 by simp) rfl (by omega) HWP.out.size ?_; intro v8 w8 hp8; have HP8:=Lib.hid hp8; clear hp8))
 go_step3
 have hpush:=HWP.out.push (q:=(⟨what,ng,els,1,false⟩,.func (.func gf) #[] cs)) hp HA.out (by rw [PC_atom (isEdge_no HW.out.1 HW.out.2)]; exact HP8.out) (HG.out _ 1 false (by exact (Q3.out.below W.heap.size).size) (fun k hk => by have h1:=HK1.out k hk; have h2:=HKL.out k hk; have h3:=(Q3.out.below W.heap.size).block k h2; exact h3))
 show PatJ w p a n c V fo R 1 _ _ ∧ PatM p n 1 _ _ < _
 refine ⟨⟨i,L ++ [(⟨what,ng,els,1,false⟩,.func (.func gf) #[] cs)],_,_,_,_,_,rfl,hpush,by rw [List.length_append,List.length_singleton]; omega,by omega,.inr (.inl ⟨rfl,g,by omega,by rw [List.map_append]; exact HR.out⟩)⟩,?_⟩
 rw [PatM_at hpush _ 1 (by decide)]
 rw [if_neg (by decide)]
 omega
end Go.Proofs.YtchdeboialbdiaaGreatDoor
