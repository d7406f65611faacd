/- Texts joined, one behind the other (SEnds, SSing, SSetA). -/
import Derived.Test.YtchdeboialbdiaaGreatDoorSn10
namespace Go.Proofs.YtchdeboialbdiaaGreatDoor
set_option linter.unusedVariables false
set_option linter.unusedSimpArgs false
set_option maxHeartbeats 8000000
set_option maxRecDepth 100000
open Go.RowKit
open Go.Lib hiding intOf
theorem endsB_int {r : Nat} {z : Int} (hz : (r : Int) = z) : endsB r = (z == 10 || z == 13 || z == 133 || z == 8232 || z == 8233):=by
 subst hz
 unfold endsB
 have q : ∀ k : Nat,((r : Int) == (k : Int)) = decide (r = k):=fun k => by
  rw [Bool.eq_iff_iff,beq_iff_eq,decide_eq_true_iff]
  omega
 have q1:=q 10; have q2:=q 13; have q3:=q 133; have q4:=q 8232; have q5:=q 8233
 rw [← q1,← q2,← q3,← q4,← q5]
 rfl
theorem kendsC (w : World) (r : Nat) : Calls Tryz.prog 70 #[.int .i32 (r : Int)] w fun e w' => e = .returned (.bool (endsB r)) ∧ w' = w:=by
 obtain ⟨z,hz⟩ : ∃ z : Int,(r : Int) = z:=⟨_,rfl⟩
 rw [endsB_int hz,hz]
 clear hz
 go_enter Tryz.func70, Tryz.ntmps70
 go_wp2_with fail
 all_goals go_ret
 all_goals refine ⟨?_,rfl⟩
 all_goals simp only [*,Bool.false_or,Bool.true_or,Bool.or_true,Bool.or_false]
 all_goals rfl
theorem endsC (w : World) (r : Nat) : Calls Tryz.prog 50 #[.int .i32 (r : Int)] w fun e w' => e = .returned (.bool (endsB r)) ∧ w' = w:=by
 have HK:=Lib.hid (fun w => kendsC w r)
 have he : ∀ z : Int,(r : Int) = z → endsB r = (z == 10 || z == 13 || endsB r):=by
  intro z hz
  rw [endsB_int hz]
  cases (z == 10) <;> cases (z == 13) <;> simp
 obtain ⟨z,hz⟩ : ∃ z : Int,(r : Int) = z:=⟨_,rfl⟩
 replace he:=he z hz
 rw [hz] at HK ⊢
 have HE:=Lib.hid he
 clear he
 generalize endsB r = b at *
 clear hz
 by_cases h1 : z = 10
 ·subst h1
  obtain rfl : b = true:=by rw [HE.out]; rfl
  clear HE
  go_enter Tryz.func50, Tryz.ntmps50
  go_wp2_with (go_at_call 70; refine (HK.out _).mono ?_; rintro e w' ⟨rfl,rfl⟩)
  go_ret
  exact ⟨rfl,rfl⟩
 have h1' : (z == 10) = false:=by rw [beq_eq_false_iff_ne]; exact h1
 by_cases h2 : z = 13
 ·subst h2
  obtain rfl : b = true:=by rw [HE.out]; rfl
  clear HE
  go_enter Tryz.func50, Tryz.ntmps50
  go_wp2_with (go_at_call 70; refine (HK.out _).mono ?_; rintro e w' ⟨rfl,rfl⟩)
  go_ret
  exact ⟨rfl,rfl⟩
 have h2' : (z == 13) = false:=by rw [beq_eq_false_iff_ne]; exact h2
 ·clear HE
  go_enter Tryz.func50, Tryz.ntmps50
  go_wp2_with (go_at_call 70; refine (HK.out _).mono ?_; rintro e w' ⟨rfl,rfl⟩)
  go_ret
  exact ⟨rfl,rfl⟩
theorem dotC (w : World) (v : Nat) (hv : OkC v) : Calls Tryz.prog 49 #[tokV v] w fun e w' => e = .returned (.bool (!(decide (v < wrongN) && endsB v))) ∧ Below w.heap.size w w':=by
 by_cases hw : v < wrongN
 ·have HE:=Lib.hid (fun w' => endsC w' v)
  rw [decide_eq_true hw,tokV_right hw,Bool.true_and]
  clear hv
  generalize endsB v = b at *
  go_enter Tryz.func49, Tryz.ntmps49
  go_wp2_with (go_at_call 50; refine (HE.out _).mono ?_; rintro e w' ⟨rfl,rfl⟩)
  go_ret
  exact ⟨rfl,(Below.refl _ w).alloc (Nat.le_refl _) _⟩
 ·have hv0 : (((v - wrongN : Nat) : Int) != 0) = true:=by
   rw [bne_iff_ne]
   unfold OkC at hv
   omega
  obtain ⟨x,hx⟩ : ∃ x : Int,((v - wrongN : Nat) : Int) = x:=⟨_,rfl⟩
  rw [decide_eq_false hw,tokV_wrong hw,Bool.false_and]
  rw [hx] at hv0 ⊢
  clear hv hx hw
  go_enter Tryz.func49, Tryz.ntmps49
  go_wp2_with fail
  go_ret
  exact ⟨rfl,(Below.refl _ w).alloc (Nat.le_refl _) _⟩
def FunIv (lo : Nat) (w : World) (f : Value) (P : Nat → Bool) : Prop:=FunAt (fun b => lo ≤ b ∧ b < w.heap.size) w f P
theorem FunAt.wide {K K' : Nat → Prop} {w : World} {f : Value} {P : Nat → Bool} (h : FunAt K w f P) (hk : ∀ k,K k → K' k) (hs : ∀ k,K' k → k < w.heap.size) : FunAt K' w f P:=by
 obtain ⟨h1,g,caps,h2,h3,h4⟩:=h
 exact ⟨hs,g,caps,h2,h3,fun w' ha hb v hv => h4 w' (fun k hk' => ha k (hk k hk')) hb v hv⟩
theorem FunIv.up {lo lo' : Nat} {w w' : World} {f : Value} {P : Nat → Bool} (h : FunIv lo w f P) (hb : ∀ k,lo ≤ k → k < w.heap.size → w'.heap[k]? = w.heap[k]?) (hs : w.heap.size ≤ w'.heap.size) (hl : lo' ≤ lo) : FunIv lo' w' f P :=
 (FunAt.keep h (fun k hk => hb k hk.1 hk.2) hs).wide (fun k hk => ⟨Nat.le_trans hl hk.1,Nat.lt_of_lt_of_le hk.2 hs⟩) (fun k hk => hk.2)
theorem single1C (w : World) (g R : Nat) (hg : Row w g 21 [.int .i32 (R : Int)]) (v : Nat) (hv : OkC v) : Calls Tryz.prog 77 #[tokV v,.pointer (some ⟨g,0,none⟩)] w fun e w' => e = .returned (.bool (decide (v < wrongN) && decide (foldN v = R))) ∧ Below w.heap.size w w':=by
 have c0 : w.cell? ⟨g,0,none⟩ = some (.int .i32 (R : Int)):=hg.cell 0
 have hgl:=hg.lt
 by_cases hw : v < wrongN
 ·have HF:=Lib.hid (fun w' => foldC w' v (by unfold wrongN at hw; omega))
  have hd : decide (foldN v = R) = (((foldN v : Nat) : Int) == (R : Int)):=by
   rw [Bool.eq_iff_iff,beq_iff_eq,decide_eq_true_iff]
   omega
  rw [hd,decide_eq_true hw,tokV_right hw,Bool.true_and]
  clear hv hg hd
  generalize ((foldN v : Nat) : Int) = b at *
  generalize (R : Int) = R' at *
  go_enter Tryz.func77, Tryz.ntmps77
  go_wp2
  go_quiet ((go_at_call 76; exact Calls.quiet_of_same (HF.out _)))
  go_wp2
  go_ret
  exact ⟨rfl,below_box _ _ _⟩
 ·have hv0 : (((v - wrongN : Nat) : Int) == 0) = false:=by
   rw [beq_eq_false_iff_ne]
   unfold OkC at hv
   omega
  obtain ⟨x,hx⟩ : ∃ x : Int,((v - wrongN : Nat) : Int) = x:=⟨_,rfl⟩
  rw [decide_eq_false hw,tokV_wrong hw,Bool.false_and]
  rw [hx] at hv0 ⊢
  clear hv hg hx hw
  go_enter Tryz.func77, Tryz.ntmps77
  go_wp2
  go_quiet (fail)
  go_wp2
  go_ret
  exact ⟨rfl,below_box _ _ _⟩
theorem tok_eq {v u : Nat} (hv : OkC v) (hu : OkC u) : (((tokR v : Nat) : Int) == ((tokR u : Nat) : Int) && ((tokW v : Nat) : Int) == ((tokW u : Nat) : Int)) = decide (v = u):=by
 rw [Bool.eq_iff_iff,Bool.and_eq_true,beq_iff_eq,beq_iff_eq,decide_eq_true_iff]
 unfold tokR tokW
 unfold OkC at hv hu
 constructor
 ·rintro ⟨h1,h2⟩
  by_cases a : v < wrongN
  ·by_cases b : u < wrongN
   ·rw [if_pos a,if_pos b] at h1
    omega
   ·rw [if_pos a,if_neg b] at h2
    omega
  ·by_cases b : u < wrongN
   ·rw [if_neg a,if_pos b] at h2
    omega
   ·rw [if_neg a,if_neg b] at h2
    omega
 ·rintro rfl
  exact ⟨rfl,rfl⟩
theorem single2C (w : World) (g u : Nat) (hu : OkC u) (hg : Row w g 91 [.int .i32 (tokR u : Int),.int .i64 (tokW u : Int)]) (v : Nat) (hv : OkC v) : Calls Tryz.prog 78 #[tokV v,.pointer (some ⟨g,0,none⟩)] w fun e w' => e = .returned (.bool (decide (v = u))) ∧ Below w.heap.size w w':=by
 have c0 : w.cell? ⟨g,0,none⟩ = some (.int .i32 (tokR u : Int)):=hg.cell 0
 have c1 : w.cell? ⟨g,1,none⟩ = some (.int .i64 (tokW u : Int)):=hg.cell 1
 have hgl:=hg.lt
 have hE:=tok_eq hv hu
 have hq : ∀ w',(binOp .eql 91 (.agg #[.int .i32 (tokR v : Int),.int .i64 (tokW v : Int)]) (.agg #[.int .i32 (tokR u : Int),.int .i64 (tokW u : Int)])).run Tryz.prog w' = .ok (.bool (decide (v = u))) w':=fun w' => by rw [tokQl,hE]
 unfold tokV
 generalize ((tokR v : Nat) : Int) = x1 at *
 generalize ((tokW v : Nat) : Int) = x2 at *
 generalize ((tokR u : Nat) : Int) = x3 at *
 generalize ((tokW u : Nat) : Int) = x4 at *
 generalize decide (v = u) = b at *
 clear hE hv hu hg
 go_enter Tryz.func78, Tryz.ntmps78
 go_wp2_with fail
 go_ret
 exact ⟨rfl,(Below.refl _ w).alloc (Nat.le_refl _) _⟩
def AtP (w : World) (p : Nat) (a : Option Addr) (n c : Nat) (V : List Nat) (fo : Bool) (G : Nat ⊕ ((Nat → Bool) × Nat)) (e : Ending) (w' : World) : Prop :=
 w.grownBy w' (some p) ∧ match G with
  | .inl b => e = .returned (.tuple #[.nilFunc,.bool false]) ∧ Scan w' p a n c V b fo
  | .inr (P,j) => ∃ g cs,e = .returned (.tuple #[.func (.func g) #[] cs,.bool true]) ∧ FunIv w.heap.size w' (.func (.func g) #[] cs) P ∧ Scan w' p a n c V j fo
def singP (fo : Bool) (V : List Nat) (i : Nat) : Nat ⊕ ((Nat → Bool) × Nat) :=
 match oneP V i with
 | .inl b => .inl b
 | .inr (k,v,j) => .inr (atomIs fo ⟨99,false,[if k = 0 then .rng v v else .kind k],1,false⟩,j)
theorem FunAt.shape {K : Nat → Prop} {w : World} {f : Value} {P : Nat → Bool} (h : FunAt K w f P) : ∃ g cs,f = .func (.func g) #[] cs:=by
 obtain ⟨_,g,cs,h,_⟩:=h
 exact ⟨g,cs,h⟩
theorem atom_kind (fo : Bool) (k : Nat) (l : Nat) (m : Bool) : atomIs fo ⟨99,false,[.kind k],l,m⟩ = elHas (.kind k):=by
 funext v
 rfl
theorem atom_fold {v : Nat} (hv : v < wrongN) (l : Nat) (m : Bool) (x : Nat) : atomIs true ⟨99,false,[.rng v v],l,m⟩ x = (decide (x < wrongN) && decide (foldN x = foldN v)):=by
 show (if true = true ∧ v < wrongN then _ else _) = _
 rw [if_pos ⟨rfl,hv⟩]
theorem atom_same {fo : Bool} {v : Nat} (hv : ¬ (fo = true ∧ v < wrongN)) (l : Nat) (m : Bool) (x : Nat) : atomIs fo ⟨99,false,[.rng v v],l,m⟩ x = decide (x = v):=by
 show (if fo = true ∧ v < wrongN then _ else elHas (.rng v v) x) = _
 rw [if_neg hv]
 show (decide (v ≤ x) && decide (x ≤ v)) = _
 rw [Bool.eq_iff_iff,Bool.and_eq_true,decide_eq_true_iff,decide_eq_true_iff,decide_eq_true_iff]
 omega
theorem singleC (w : World) (p : Nat) (a : Option Addr) (n c : Nat) (V : List Nat) (i : Nat) (fo : Bool) (h : Scan w p a n c V i fo) (hV : OkV V) (hin : i < n) (hn : n ≤ 67108800) (ha : ∀ ad,a = some ad → ad.block < w.heap.size) :
  Calls Tryz.prog 52 #[.pointer (some ⟨p,0,none⟩)] w (AtP w p a n c V fo (singP fo V i)):=by
 have hp:=h.row.lt
 have hVn:=h.toks.1
 have hO:=oneC w p a n c V i fo h hV hin hn ha
 have hgl:=oneP_le V hV i (by omega)
 have nf1:=nfNq
 have nf2:=nfNq2
 unfold singP
 cases hG : oneP V i with
 | inl b =>
  rw [hG] at hO
  have HO:=Lib.hid hO
  clear hO hG hgl h
  dsimp only
  go_enter Tryz.func52, Tryz.ntmps52
  go_wp2_with (go_at_call 71; refine (HO.out).mono ?_; rintro e w4 ⟨hg4,⟨x,y,rfl⟩,hs4⟩; have HS4:=Lib.hid hs4; have HG4:=Lib.hid hg4; clear hs4 hg4)
  go_ret2
  have hb : Below w4.heap.size w4 (w4.alloc (.cells #[.int .i32 x,.int .i64 y] 91)):=(Below.refl _ w4).alloc (Nat.le_refl _) _
  exact ⟨grown_then HG4.out (r':=none) (grown_of_below hb none) (fun j h => by cases h),rfl,HS4.out.keep hb (Nat.le_refl _)⟩
 | inr t =>
  obtain ⟨k,v,j⟩:=t
  rw [hG] at hO hgl
  obtain ⟨hij,hjl,hok⟩:=hgl
  dsimp only
  by_cases hk : k = 0
  ·subst hk
   replace hok:=hok rfl
   rw [if_pos rfl]
   have hO1 : Calls Tryz.prog 71 #[.pointer (some ⟨p,0,none⟩)] w fun e w' => w.grownBy w' (some p) ∧ Scan w' p a n c V j fo ∧ e = .returned (.tuple #[tokV v,.nilFunc,.bool true]):=hO.mono (by
    rintro e w' ⟨h1,h2,h3 | h3⟩
    ·exact ⟨h1,h2,h3.2⟩
    ·exact absurd rfl h3.1)
   have HO:=Lib.hid hO1
   clear hO hO1 hG h
   have arm : True:=trivial
   by_cases hfold : fo = true ∧ v < wrongN
   ·obtain ⟨rfl,hv⟩:=hfold
    have htv:=tokV_right hv
    have HTV:=Lib.hid htv
    have hF:=fun w => foldC w v (by unfold wrongN at hv; omega)
    obtain ⟨R,hR⟩ : ∃ R,foldN v = R:=⟨_,rfl⟩
    rw [hR] at hF
    have HF:=Lib.hid hF
    have HR:=Lib.hid hR
    clear htv hF hR
    go_enter Tryz.func52, Tryz.ntmps52
    go_wp2_with (first
     | (go_at_call 71; refine (HO.out).mono ?_; rintro e w4 ⟨hg4,hs4,rfl⟩; rw [HTV.out]; have k1 : w4.cell? ⟨p,2,none⟩ = some (.bool true):=hs4.row.cell 2; have k2:=hs4.row.lt; have HS4:=Lib.hid hs4; have HG4:=Lib.hid hg4; clear hs4 hg4)
     | (go_at_call 76; refine (HF.out _).mono ?_; rintro e w5 ⟨rfl,rfl⟩))
    go_ret2
    have h1 : Below w4.heap.size w4 (w4.alloc (.cells #[.int .i32 (v : Int),.int .i64 0] 91)):=(Below.refl _ w4).alloc (Nat.le_refl _) _
    have h2 : Below w4.heap.size w4 ((w4.alloc (.cells #[.int .i32 (v : Int),.int .i64 0] 91)).alloc (.cells #[.int .i32 (R : Int)] 21)):=h1.alloc (by simp) _
    have hR : Row ((w4.alloc (.cells #[.int .i32 (v : Int),.int .i64 0] 91)).alloc (.cells #[.int .i32 (R : Int)] 21)) (w4.heap.size + 1) 21 [.int .i32 (R : Int)]:=by
     have:=row_new (w4.alloc (.cells #[.int .i32 (v : Int),.int .i64 0] 91)) [.int .i32 (R : Int)] 21
     rwa [World.size_alloc] at this
    have hsz:=HG4.out.size
    refine ⟨grown_then HG4.out (r':=none) (grown_of_below h2 none) (fun j h => by cases h),_,_,rfl,⟨fun k hk => hk.2,_,_,rfl,enters_of Tryz.func77 (by kernel_rfl) rfl,fun w' ha' hs' x hx => ?_⟩,HS4.out.keep h2 (Nat.le_refl _)⟩
    rw [atom_fold hv,HR.out]
    exact single1C w' (w4.heap.size + 1) R ((ha' _ ⟨by omega,hR.lt⟩).trans hR) x hx
   ·obtain ⟨x,y,htv,hx,hy⟩ : ∃ x y : Int,tokV v = .agg #[.int .i32 x,.int .i64 y] ∧ (tokR v : Int) = x ∧ (tokW v : Int) = y:=⟨_,_,rfl,rfl,rfl⟩
    have HTV:=Lib.hid htv
    have HX:=Lib.hid hx
    have HY:=Lib.hid hy
    have hyf : fo = true → (y == 0) = false:=by
     intro hf
     rw [← hy,beq_eq_false_iff_ne]
     unfold OkC at hok
     have : ¬ v < wrongN:=fun hv => hfold ⟨hf,hv⟩
     unfold tokW
     rw [if_neg this]
     omega
    clear htv hx hy
    have fin : ∀ w4,w.grownBy w4 (some p) → Scan w4 p a n c V j fo → AtP w p a n c V fo (.inr (atomIs fo ⟨99,false,[.rng v v],1,false⟩,j)) (.returned (.tuple #[.func (.func 78) #[] #[.pointer (some ⟨w4.heap.size,0,none⟩)],.bool true])) (w4.alloc (.cells #[.int .i32 x,.int .i64 y] 91)):=by
     intro w4 hg4 hs4
     have h1 : Below w4.heap.size w4 (w4.alloc (.cells #[.int .i32 x,.int .i64 y] 91)):=(Below.refl _ w4).alloc (Nat.le_refl _) _
     have hR : Row (w4.alloc (.cells #[.int .i32 x,.int .i64 y] 91)) w4.heap.size 91 [.int .i32 (tokR v : Int),.int .i64 (tokW v : Int)]:=by
      rw [HX.out,HY.out]
      exact row_new w4 [.int .i32 x,.int .i64 y] 91
     have hsz:=hg4.size
     refine ⟨grown_then hg4 (r':=none) (grown_of_below h1 none) (fun j h => by cases h),_,_,rfl,⟨fun k hk => hk.2,_,_,rfl,enters_of Tryz.func78 (by kernel_rfl) rfl,fun w' ha' hs' x hx => ?_⟩,hs4.keep h1 (Nat.le_refl _)⟩
     rw [atom_same hfold]
     exact single2C w' w4.heap.size v hok ((ha' _ ⟨by omega,hR.lt⟩).trans hR) x hx
    have FIN:=Lib.hid fin
    clear fin
    cases fo with
    | true =>
     have hy0:=hyf rfl
     clear hyf
     go_enter Tryz.func52, Tryz.ntmps52
     go_wp2_with (go_at_call 71; refine (HO.out).mono ?_; rintro e w4 ⟨hg4,hs4,rfl⟩; rw [HTV.out]; have k1 : w4.cell? ⟨p,2,none⟩ = some (.bool true):=hs4.row.cell 2; have k2:=hs4.row.lt; have HS4:=Lib.hid hs4; have HG4:=Lib.hid hg4; clear hs4 hg4)
     go_ret2
     exact FIN.out w4 HG4.out HS4.out
    | false =>
     clear hyf
     go_enter Tryz.func52, Tryz.ntmps52
     go_wp2_with (go_at_call 71; refine (HO.out).mono ?_; rintro e w4 ⟨hg4,hs4,rfl⟩; rw [HTV.out]; have k1 : w4.cell? ⟨p,2,none⟩ = some (.bool false):=hs4.row.cell 2; have k2:=hs4.row.lt; have HS4:=Lib.hid hs4; have HG4:=Lib.hid hg4; clear hs4 hg4)
     go_ret2
     exact FIN.out w4 HG4.out HS4.out
  ·rw [if_neg hk,atom_kind]
   have hO1 : Calls Tryz.prog 71 #[.pointer (some ⟨p,0,none⟩)] w fun e w' => w.grownBy w' (some p) ∧ Scan w' p a n c V j fo ∧ ∃ (x y : Int) (g : FuncId) (cs : Array Value),e = .returned (.tuple #[.agg #[.int .i32 x,.int .i64 y],.func (.func g) #[] cs,.bool true]) ∧ FunIv w.heap.size w' (.func (.func g) #[] cs) (elHas (.kind k)):=hO.mono (by
    rintro e w' ⟨h1,h2,h3 | ⟨_,x,y,f,h3,h4⟩⟩
    ·exact absurd h3.1 hk
    ·obtain ⟨g,cs,rfl⟩:=FunAt.shape h4
     exact ⟨h1,h2,x,y,g,cs,h3,h4⟩)
   have HO:=Lib.hid hO1
   clear hO hO1 hG h hok
   go_enter Tryz.func52, Tryz.ntmps52
   go_wp2_with (go_at_call 71; refine (HO.out).mono ?_; rintro e w4 ⟨hg4,hs4,x,y,g,cs,rfl,hf4⟩; have HS4:=Lib.hid hs4; have HG4:=Lib.hid hg4; have HF4:=Lib.hid hf4; clear hs4 hg4 hf4)
   go_ret2
   have h1 : Below w4.heap.size w4 (w4.alloc (.cells #[.int .i32 x,.int .i64 y] 91)):=(Below.refl _ w4).alloc (Nat.le_refl _) _
   exact ⟨grown_then HG4.out (r':=none) (grown_of_below h1 none) (fun j h => by cases h),_,_,rfl,HF4.out.up (fun k _ hk => h1.block k hk) h1.size (Nat.le_refl _),HS4.out.keep h1 (Nat.le_refl _)⟩
theorem set1C (w : World) (g g2 lo hi : Nat) (hlo : OkC lo) (hhi : OkC hi) (hlh : hi = lo ∨ (lo < wrongN ∧ hi < wrongN ∧ lo ≤ hi)) (hg : Row w g 91 [.int .i32 (tokR lo : Int),.int .i64 (tokW lo : Int)]) (hg2 : Row w g2 91 [.int .i32 (tokR hi : Int),.int .i64 (tokW hi : Int)]) (v : Nat) (hv : OkC v) : Calls Tryz.prog 73 #[tokV v,.pointer (some ⟨g,0,none⟩),.pointer (some ⟨g2,0,none⟩)] w fun e w' => e = .returned (.bool (elHas (.rng lo hi) v)) ∧ Below w.heap.size w w':=by
 have c0 : w.cell? ⟨g,0,none⟩ = some (.int .i32 (tokR lo : Int)):=hg.cell 0
 have c1 : w.cell? ⟨g,1,none⟩ = some (.int .i64 (tokW lo : Int)):=hg.cell 1
 have d0 : w.cell? ⟨g2,0,none⟩ = some (.int .i32 (tokR hi : Int)):=hg2.cell 0
 have hgl:=hg.lt
 have hgl2:=hg2.lt
 have hE:=tok_eq hv hlo
 have hel : elHas (.rng lo hi) v = (decide (lo ≤ v) && decide (v ≤ hi)):=rfl
 rw [hel]
 have hq : ∀ w',(binOp .eql 91 (.agg #[.int .i32 (tokR v : Int),.int .i64 (tokW v : Int)]) (.agg #[.int .i32 (tokR lo : Int),.int .i64 (tokW lo : Int)])).run Tryz.prog w' = .ok (.bool (decide (v = lo))) w':=fun w' => by rw [tokQl,hE]
 clear hE hel hg hg2
 have hvw : ((tokW v : Int) == 0) = decide (v < wrongN):=by
  rw [Bool.eq_iff_iff,beq_iff_eq,decide_eq_true_iff]
  unfold OkC at hv
  unfold tokW
  split <;> omega
 have hlw : ((tokW lo : Int) == 0) = decide (lo < wrongN):=by
  rw [Bool.eq_iff_iff,beq_iff_eq,decide_eq_true_iff]
  unfold OkC at hlo
  unfold tokW
  split <;> omega
 have hr : ∀ x,x < wrongN → ((tokR x : Nat) : Int) = (x : Int):=fun x hx => by unfold tokR; rw [if_pos hx]
 unfold tokV
 obtain ⟨x2,hx2⟩ : ∃ x : Int,((tokW v : Nat) : Int) = x:=⟨_,rfl⟩
 obtain ⟨l2,hl2⟩ : ∃ x : Int,((tokW lo : Nat) : Int) = x:=⟨_,rfl⟩
 obtain ⟨x1,hx1⟩ : ∃ x : Int,((tokR v : Nat) : Int) = x:=⟨_,rfl⟩
 obtain ⟨l1,hl1⟩ : ∃ x : Int,((tokR lo : Nat) : Int) = x:=⟨_,rfl⟩
 obtain ⟨h1,hh1⟩ : ∃ x : Int,((tokR hi : Nat) : Int) = x:=⟨_,rfl⟩
 rw [hx2] at hvw hq ⊢
 rw [hl2] at hlw hq c1
 rw [hx1] at hq ⊢
 rw [hl1] at hq c0
 rw [hh1] at d0
 clear hx2 hl2
 by_cases a : v = lo
 ·have hres : (decide (lo ≤ v) && decide (v ≤ hi)) = true:=by
   rw [Bool.and_eq_true,decide_eq_true_iff,decide_eq_true_iff]
   omega
  rw [hres]
  rw [decide_eq_true a] at hq
  clear hr hx1 hl1 hh1 hvw hlw a hlh hres hlo hhi hv
  go_enter Tryz.func73, Tryz.ntmps73
  go_wp2_with fail
  go_ret
  exact ⟨rfl,(Below.refl _ w).alloc (Nat.le_refl _) _⟩
 ·rw [decide_eq_false a] at hq
  by_cases b : v < wrongN
  ·rw [decide_eq_true b] at hvw
   by_cases cc : lo < wrongN
   ·rw [decide_eq_true cc] at hlw
    have hhr : hi < wrongN:=by omega
    rw [hr v b] at hx1
    rw [hr lo cc] at hl1
    rw [hr hi hhr] at hh1
    have t1 : decide (lo ≤ v) = decide (l1 ≤ x1):=by rw [decide_eq_decide]; omega
    have t2 : decide (v ≤ hi) = decide (x1 ≤ h1):=by rw [decide_eq_decide]; omega
    rw [t1,t2]
    clear hr hx1 hl1 hh1 hlh hlo hhi hv a b cc hhr t1 t2
    by_cases e1 : l1 ≤ x1
    ·have e1' : ¬ x1 < l1:=by omega
     rw [decide_eq_true e1,Bool.true_and]
     go_enter Tryz.func73, Tryz.ntmps73
     go_wp2_with fail
     go_ret
     exact ⟨rfl,(Below.refl _ w).alloc (Nat.le_refl _) _⟩
    ·have e1' : x1 < l1:=by omega
     rw [decide_eq_false e1,Bool.false_and]
     go_enter Tryz.func73, Tryz.ntmps73
     go_wp2_with fail
     go_ret
     exact ⟨rfl,(Below.refl _ w).alloc (Nat.le_refl _) _⟩
   ·rw [decide_eq_false cc] at hlw
    have hres : (decide (lo ≤ v) && decide (v ≤ hi)) = false:=by
     rw [decide_eq_false (show ¬ lo ≤ v by omega),Bool.false_and]
    rw [hres]
    clear hr hx1 hl1 hh1 hlh hlo hhi hv a b cc hres
    go_enter Tryz.func73, Tryz.ntmps73
    go_wp2_with fail
    go_ret
    exact ⟨rfl,(Below.refl _ w).alloc (Nat.le_refl _) _⟩
  ·rw [decide_eq_false b] at hvw
   have hres : (decide (lo ≤ v) && decide (v ≤ hi)) = false:=by
    rcases hlh with h | h
    ·rw [Bool.and_eq_false_iff,decide_eq_false_iff_not,decide_eq_false_iff_not]
     omega
    ·rw [decide_eq_false (show ¬ v ≤ hi by omega),Bool.and_false]
   rw [hres]
   clear hr hx1 hl1 hh1 hlh hlo hhi hv a b hres hlw
   go_enter Tryz.func73, Tryz.ntmps73
   go_wp2_with fail
   go_ret
   exact ⟨rfl,(Below.refl _ w).alloc (Nat.le_refl _) _⟩
def FunsAt (K : Nat → Prop) (w : World) (a : Option Addr) (n : Nat) (fs : List (Nat → Bool)) : Prop :=
 fs.length = n ∧ (0 < n → ∃ b off,a = some ⟨b,off,none⟩ ∧ b < w.heap.size ∧ K b ∧ ∀ i P,fs[i]? = some P → ∃ f,w.cell? ⟨b,off + i,none⟩ = some f ∧ FunAt K w f P)
theorem set2C (w : World) (K : Nat → Prop) (g n c : Nat) (a : Option Addr) (fs : List (Nat → Bool)) (hn : n ≤ 67108864) (hg : Row w g 154 [.slice a n c]) (hf : FunsAt K w a n fs) (v : Nat) (hv : OkC v) : Calls Tryz.prog 74 #[tokV v,.pointer (some ⟨g,0,none⟩)] w fun e w' => e = .returned (.bool (fs.any fun P => P v)) ∧ Below w.heap.size w w':=by
 have c0 : w.cell? ⟨g,0,none⟩ = some (.slice a n c):=hg.cell 0
 have hgl:=hg.lt
 have hl:=hf.1
 have HF:=Lib.hid hf
 have HV:=Lib.hid hv
 obtain ⟨x,y,htv⟩ : ∃ x y : Int,tokV v = .agg #[.int .i32 x,.int .i64 y]:=⟨_,_,rfl⟩
 have HTV:=Lib.hid htv
 rw [htv]
 have HL:=Lib.hid hl
 clear hf hv hg htv hl
 go_enter Tryz.func74, Tryz.ntmps74
 go_wp2_with fail
 go_loopw [8] (fun uk wr => ∃ k : Nat,uk = .int .i64 (k : Int) ∧ k ≤ n ∧ Hid (Below w.heap.size w wr ∧ Row wr w.heap.size 91 [.int .i32 x,.int .i64 y] ∧ ∀ i P,i < k → fs[i]? = some P → P v = false)) (fun uk _ => n - (RowKit.intOf uk).toNat)
 case atStart => exact ⟨0,rfl,Nat.zero_le _,Lib.hid ⟨(Below.refl _ w).alloc (Nat.le_refl _) _,row_new w [.int .i32 x,.int .i64 y] 91,fun i P h => by omega⟩⟩
 case round =>
  obtain ⟨k,rfl,hk,HR⟩:=hrel
  by_cases hlt : k < n
  ·obtain ⟨b,off,rfl,hb,hKb,hcell⟩:=HF.out.2 (by omega)
   obtain ⟨P,hP⟩ : ∃ P,fs[k]? = some P:=⟨_,List.getElem?_eq_getElem (by have:=HL.out; omega)⟩
   obtain ⟨f,hfc,hfa⟩:=hcell k P hP
   have hfa2:=hfa.below HR.out.1 (Nat.le_refl _)
   obtain ⟨hK,gf,cs,rfl,hent,hcall⟩:=hfa2
   have hC:=hcall wr (fun _ _ => rfl) (Nat.le_refl _) v HV.out
   rw [HTV.out] at hC
   obtain ⟨B,hB⟩ : ∃ B,P v = B:=⟨_,rfl⟩
   rw [hB] at hC
   have HC:=Lib.hid hC
   have k0 : wr.cell? ⟨b,off + k,none⟩ = some (.func (.func gf) #[] cs):=by
    rw [World.cell?_of_block (a:=⟨b,off + k,none⟩) (HR.out.1.block b hb)]
    exact hfc
   have e0:=HR.out.2.1.cell 0
   have e1:=HR.out.2.1.cell 1
   have HP:=Lib.hid hP
   have HPB:=Lib.hid hB
   have hlti : (k : Int) < (n : Int):=by omega
   clear hC hcall hfa hcell hfc hK hP hB
   cases B with
   | true =>
    go_wp2_with (go_at_fn gf; refine (HC.out).mono ?_; rintro e w2 ⟨rfl,hb2⟩; have HB2:=Lib.hid hb2; clear hb2)
    go_ret
    refine ⟨?_,HR.out.1.trans (HB2.out.mono HR.out.1.size)⟩
    have : (fs.any fun P => P v) = true:=List.any_eq_true.2 ⟨P,List.mem_of_getElem? HP.out,HPB.out⟩
    rw [this]
    rfl
   | false =>
    go_wp2_with (go_at_fn gf; refine (HC.out).mono ?_; rintro e w2 ⟨rfl,hb2⟩; have HB2:=Lib.hid hb2; clear hb2)
    go_roundw
    case rel =>
     refine ⟨k + 1,by go_num,by omega,Lib.hid ⟨HR.out.1.trans (HB2.out.mono HR.out.1.size),HR.out.2.1.keep HB2.out HR.out.2.1.lt,fun i Q hi hQ => ?_⟩⟩
     by_cases hik : i = k
     ·subst hik
      obtain rfl:=Option.some.inj (HP.out.symm.trans hQ)
      exact HPB.out
     ·exact HR.out.2.2 i Q (by omega) hQ
    case measure => simp [RowKit.intOf]; omega
  ·obtain rfl : k = n:=by omega
   have hany : (fs.any fun P => P v) = false:=by
    rw [List.any_eq_false]
    intro P hP
    obtain ⟨i,hi,rfl⟩:=List.getElem_of_mem hP
    rw [HR.out.2.2 i fs[i] (by have:=HL.out; omega) (List.getElem?_eq_getElem hi)]
    decide
   have HANY:=Lib.hid hany
   clear hany hlt hk
   go_wp2_with fail
   go_ret
   exact ⟨by rw [HANY.out]; rfl,HR.out.1⟩
end Go.Proofs.YtchdeboialbdiaaGreatDoor
