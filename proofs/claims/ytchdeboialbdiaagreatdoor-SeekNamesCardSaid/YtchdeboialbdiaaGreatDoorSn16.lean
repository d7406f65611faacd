/- Texts joined, one behind the other (SPatC, SPatD, SComp). -/
import Derived.Test.YtchdeboialbdiaaGreatDoorSn15
namespace Go.Proofs.YtchdeboialbdiaaGreatDoor
set_option linter.unusedVariables false
set_option linter.unusedSimpArgs false
set_option maxHeartbeats 8000000
set_option maxRecDepth 100000
open Go.RowKit
open Go.Lib hiding intOf
theorem PatSt.reset {w W : World} {p n c i : Nat} {a : Option Addr} {V : List Nat} {fo m : Bool} {L : List (Itm × Value)} {v f : Value} {e l : Int} (h : PatSt w p a n c V fo L v i e f l m W) (hp : p < w.heap.size) (ha : ∀ ad,a = some ad → ad.block < w.heap.size) : PatSt w p a n c V fo L v i 0 .nilFunc 1 false ((((W.setCell ⟨w.heap.size,0,none⟩ (.int .u8 0)).setCell ⟨w.heap.size,1,none⟩ .nilFunc).setCell ⟨w.heap.size,2,none⟩ (.int .i64 1)).setCell ⟨w.heap.size,3,none⟩ (.bool false)) :=
 (((h.part' (e':=0) hp ha 0 (.int .u8 0) rfl).part' (f':=.nilFunc) hp ha 1 .nilFunc rfl).part' (l':=1) hp ha 2 (.int .i64 1) rfl).part' (m':=false) hp ha 3 (.bool false) rfl
theorem dotK (w : World) (fo : Bool) : FunAt (fun _ => False) w (.func (.func 49) #[] #[]) (atomIs fo ⟨46,false,[],1,false⟩) :=
 ⟨fun k hk => hk.elim,_,#[],rfl,enters_of Tryz.func49 (by kernel_rfl) rfl,fun w' _ _ v hv => dotC w' v hv⟩
theorem item_bad {V : List Nat} {i c : Nat} (h : V[i]? = some c) (hc : c = 42 ∨ c = 43 ∨ c = 63) : itemP V i = .inl i:=by
 unfold itemP
 rw [h]
 exact if_pos hc
theorem item_edge {V : List Nat} {i c : Nat} (h : V[i]? = some c) (hc : c = 94 ∨ c = 36) : itemP V i = .inr (⟨c,false,[],1,false⟩,i + 1):=by
 unfold itemP
 rw [h]
 dsimp only
 rw [if_neg (by omega),if_pos hc]
theorem item_dot {V : List Nat} {i : Nat} (h : V[i]? = some 46) : itemP V i = .inr (withCount V 46 false [] (i + 1)):=by
 unfold itemP
 rw [h]
 rfl
theorem item_set {V : List Nat} {i : Nat} (h : V[i]? = some 91) : itemP V i = (match setP V (i + 1) with | .inl b => .inl b | .inr (n,e,j) => .inr (withCount V 91 n e j)):=by
 unfold itemP
 rw [h]
 rfl
theorem item_other {V : List Nat} {i c : Nat} (h : V[i]? = some c) (h1 : ¬ (c = 42 ∨ c = 43 ∨ c = 63)) (h2 : ¬ (c = 94 ∨ c = 36)) (h3 : c ≠ 46) (h4 : c ≠ 91) : itemP V i = (match oneP V i with
   | .inl b => .inl b
   | .inr (k,v,j) => .inr (withCount V 99 false [if k = 0 then .rng v v else .kind k] j)):=by
 unfold itemP
 rw [h]
 dsimp only
 rw [if_neg h1,if_neg h2,if_neg h3,if_neg h4]
 rfl
theorem own_blk {fo : Bool} {B : Nat} {v : Value} {L : List (Itm × Value)} {W : World} (h : PartsOwn fo B v L W) {b : Nat} (hb : v.ownBlock = some b) : b < W.heap.size:=by
 obtain ⟨_,cur,hc⟩:=own_block h.1 hb
 exact (Array.getElem?_eq_some_iff.1 hc).1
def SetLe (V : List Nat) (i : Nat) : Nat ⊕ (Bool × List El × Nat) → Prop
 | .inl b => b ≤ V.length
 | .inr (_,_,j) => i < j ∧ j ≤ V.length
theorem setP_le (V : List Nat) (hV : OkV V) (i : Nat) (hi : i ≤ V.length) : SetLe V i (setP V i):=by
 unfold setP
 by_cases h : V[i]? = some 94
 ·rw [if_pos h]
  have hl:=lt_of_some h
  have:=setGo_le V hV V.length (i + 1) [] (by omega)
  cases hs : setGo V V.length (i + 1) [] with
  | inl b => rw [hs] at this; exact this
  | inr t => rw [hs] at this; exact ⟨by have:=this.1; omega,this.2⟩
 ·rw [if_neg h]
  have:=setGo_le V hV V.length i [] hi
  cases hs : setGo V V.length i [] with
  | inl b => rw [hs] at this; exact this
  | inr t => rw [hs] at this; exact ⟨this.1,this.2⟩
theorem pat_next (w : World) (p : Nat) (a : Option Addr) (n c : Nat) (V : List Nat) (fo : Bool) (R : Nat ⊕ List Itm) (hV : OkV V) (hVn : V.length = n) (hp : p < w.heap.size) (hn : n ≤ 67108800) (ha : ∀ ad,a = some ad → ad.block < w.heap.size) :
  ∃ X,findLabel (scopeOf Tryz.f34.body) 1 = some (.seq .skip X) ∧ ∀ x W,PatJ w p a n c V fo R 1 x W → X.wp Tryz.prog (jumps (fun l' x' W' => PatJ w p a n c V fo R l' x' W' ∧ PatM p n l' x' W' < PatM p n 1 x W)
   (bodyPost Tryz.prog Tryz.f34 (PatP w p a n c V fo R))) x W:=by
 obtain ⟨X2,hX2,hpass2⟩:=pat_count w p a n c V fo R hV hVn hp hn ha
 have e2 : Code.seq .skip X2 = _:=Option.some.inj hX2.symm
 obtain rfl:=(Code.seq.inj e2).2
 clear hX2 e2
 refine ⟨_,rfl,?_⟩
 intro x W hJ
 obtain ⟨i,L,v,e,f,l,m,hx,h,hL,hin,hq⟩:=hJ
 generalize (fun k => x.tmps.getD k undef) = u at hx
 subst hx
 rw [PatM_at h _ 1 (by decide)]
 rw [if_neg (by decide)]
 rcases hq with ⟨h0,_⟩ | ⟨_,g,hg,hR⟩ | ⟨h0,_⟩
 ·cases h0
 rotate_left
 ·cases h0
 have HP2:=Lib.hid hpass2
 have e0 : W.cell? ⟨p,0,none⟩ = some (.slice a n c):=h.scan.row.cell 0
 obtain ⟨b1,b2,b3,b4,b5,b6,b7,b8,b9,b10,b11,b12,b13⟩:=h.cells hp
 have HST:=Lib.hid (fun m' => h.quiet hp ⟨m',rfl⟩ (W':=W.drewN m'))
 have HA:=Lib.hid ha
 clear hpass2
 by_cases c0 : i = n
 ·have c0' : ((i : Int) == (n : Int)) = true:=by rw [beq_iff_eq]; omega
  rw [itemsGo_end (by omega)] at hR
  have HR:=Lib.hid hR
  clear hR h ha
  subst c0
  unfold PatF
  go_wp2
  go_quiet (fail)
  go_wp2_with fail
  go_step3
  show PatJ w p a i c V fo R 0 _ _ ∧ PatM p i 0 _ _ < _
  refine ⟨⟨i,L,v,e,f,l,m,rfl,HST.out nq,hL,by omega,.inl ⟨rfl,HR.out.symm⟩⟩,?_⟩
  unfold PatM
  rw [if_pos rfl]
  omega
 have c0' : ((i : Int) == (n : Int)) = false:=by rw [beq_eq_false_iff_ne]; omega
 obtain ⟨g,rfl⟩ : ∃ g',g = g' + 1:=⟨g - 1,by omega⟩
 rw [itemsGo_next (by omega)] at hR
 obtain ⟨z,hz⟩ : ∃ z,nowI V i = z:=⟨_,rfl⟩
 have hzk : ∀ k : Nat,k < 128 → (z = (k : Int) ↔ V[i]? = some k):=fun k hk => by rw [← hz]; exact nowI_eq hV hk
 have hN : ∀ W' : World,Scan W' p a n c V i fo → Calls Tryz.prog 48 #[.pointer (some ⟨p,0,none⟩)] W' fun e w'' => e = .returned (.int .i32 z) ∧ Quiet W' w'':=by
  intro W' hs
  rw [← hz]
  exact nowC W' p a n c V i fo hs hV (by omega) (by omega)
 have HN:=Lib.hid hN
 have HV:=Lib.hid hV
 have HZ:=Lib.hid hzk
 have hc : ∃ ch,V[i]? = some ch:=⟨_,List.getElem?_eq_getElem (by omega)⟩
 have HC:=Lib.hid hc
 clear hN hV hz hzk h ha hc
 unfold PatF
 by_cases c42 : z = 42
 ·rw [item_bad ((HZ.out 42 (by decide)).1 c42) (by decide)] at hR
  have HR:=Lib.hid hR
  subst c42
  clear hR
  go_wp2
  go_quiet (fail)
  go_wp2_with (first | (go_at_call 48; refine (HN.out (((((W.drewN nq).setCell ⟨w.heap.size,0,none⟩ (.int .u8 0)).setCell ⟨w.heap.size,1,none⟩ .nilFunc).setCell ⟨w.heap.size,2,none⟩ (.int .i64 1)).setCell ⟨w.heap.size,3,none⟩ (.bool false)) ((HST.out nq).reset hp HA.out).scan).mono ?_; rintro e w3 ⟨rfl,hq3⟩; have h3:=((HST.out nq).reset hp HA.out).quiet hp hq3; obtain ⟨g1,g2,g3,g4,g5,g6,g7,g8,g9,g10,g11,g12,_⟩:=h3.cells hp; have HS3:=Lib.hid h3; clear h3 hq3))
  try rw [jumps_ret]
  go_ret2
  have hD:=HS3.out
  unfold PatP
  rw [← HR.out]
  exact ⟨hD.grown,rfl,hD.scan⟩
 have e42 : (z == 42) = false:=by rw [beq_eq_false_iff_ne]; exact c42
 by_cases c43 : z = 43
 ·rw [item_bad ((HZ.out 43 (by decide)).1 c43) (by decide)] at hR
  have HR:=Lib.hid hR
  subst c43
  clear hR
  go_wp2
  go_quiet (fail)
  go_wp2_with (first | (go_at_call 48; refine (HN.out (((((W.drewN nq).setCell ⟨w.heap.size,0,none⟩ (.int .u8 0)).setCell ⟨w.heap.size,1,none⟩ .nilFunc).setCell ⟨w.heap.size,2,none⟩ (.int .i64 1)).setCell ⟨w.heap.size,3,none⟩ (.bool false)) ((HST.out nq).reset hp HA.out).scan).mono ?_; rintro e w3 ⟨rfl,hq3⟩; have h3:=((HST.out nq).reset hp HA.out).quiet hp hq3; obtain ⟨g1,g2,g3,g4,g5,g6,g7,g8,g9,g10,g11,g12,_⟩:=h3.cells hp; have HS3:=Lib.hid h3; clear h3 hq3))
  try rw [jumps_ret]
  go_ret2
  have hD:=HS3.out
  unfold PatP
  rw [← HR.out]
  exact ⟨hD.grown,rfl,hD.scan⟩
 have e43 : (z == 43) = false:=by rw [beq_eq_false_iff_ne]; exact c43
 by_cases c63 : z = 63
 ·rw [item_bad ((HZ.out 63 (by decide)).1 c63) (by decide)] at hR
  have HR:=Lib.hid hR
  subst c63
  clear hR
  go_wp2
  go_quiet (fail)
  go_wp2_with (first | (go_at_call 48; refine (HN.out (((((W.drewN nq).setCell ⟨w.heap.size,0,none⟩ (.int .u8 0)).setCell ⟨w.heap.size,1,none⟩ .nilFunc).setCell ⟨w.heap.size,2,none⟩ (.int .i64 1)).setCell ⟨w.heap.size,3,none⟩ (.bool false)) ((HST.out nq).reset hp HA.out).scan).mono ?_; rintro e w3 ⟨rfl,hq3⟩; have h3:=((HST.out nq).reset hp HA.out).quiet hp hq3; obtain ⟨g1,g2,g3,g4,g5,g6,g7,g8,g9,g10,g11,g12,_⟩:=h3.cells hp; have HS3:=Lib.hid h3; clear h3 hq3))
  try rw [jumps_ret]
  go_ret2
  have hD:=HS3.out
  unfold PatP
  rw [← HR.out]
  exact ⟨hD.grown,rfl,hD.scan⟩
 have e63 : (z == 63) = false:=by rw [beq_eq_false_iff_ne]; exact c63
 by_cases c94 : z = 94
 ·rw [item_edge ((HZ.out 94 (by decide)).1 c94) (by decide)] at hR
  have HR:=Lib.hid hR
  subst c94
  clear hR
  go_wp2
  go_quiet (fail)
  go_wp2_with (first | (go_at_call 48; refine (HN.out (((((W.drewN nq).setCell ⟨w.heap.size,0,none⟩ (.int .u8 0)).setCell ⟨w.heap.size,1,none⟩ .nilFunc).setCell ⟨w.heap.size,2,none⟩ (.int .i64 1)).setCell ⟨w.heap.size,3,none⟩ (.bool false)) ((HST.out nq).reset hp HA.out).scan).mono ?_; rintro e w3 ⟨rfl,hq3⟩; have h3:=((HST.out nq).reset hp HA.out).quiet hp hq3; obtain ⟨g1,g2,g3,g4,g5,g6,g7,g8,g9,g10,g11,g12,_⟩:=h3.cells hp; have HS3:=Lib.hid h3; clear h3 hq3) | (go_at_call 48; refine (HN.out w3 HS3.out.scan).mono ?_; rintro e w4 ⟨rfl,hq4⟩; have h4:=HS3.out.quiet hp hq4; obtain ⟨i1,i2,i3,i4,i5,i6,i7,i8,i9,i10,i11,i12,_⟩:=h4.cells hp; have HS4:=Lib.hid h4; clear h4 hq4) | (at_builtin; have hwp:=(HS4.out.part' (e':=94) hp HA.out 0 (.int .u8 94) rfl).move hp (i + 1) (J:=(i : Int) + 1) (by omega); have HWP:=Lib.hid hwp; clear hwp; refine appSep rfl _ _ rfl Tryz.underlying34 (.agg #[.int .u8 0,.nilFunc,.int .i64 0,.bool false]) 4 32 infoPart rfl (by decide) (by decide) (w.heap.size + 1) ((w4.setCell ⟨w.heap.size,0,none⟩ (.int .u8 94)).setCell ⟨p,1,none⟩ (.int .i64 ((i : Int) + 1))) v L.length (L.flatMap PC) [.int .u8 94,.nilFunc,.int .i64 1,.bool false] rfl (by intro u hu; simp only [List.mem_cons,List.not_mem_nil,or_false] at hu; rcases hu with rfl | rfl | rfl | rfl <;> rfl) rfl HWP.out.parts.1 (show Value.slice (some ⟨w4.heap.size,0,none⟩) 1 1 = Value.slice (some ⟨((w4.setCell ⟨w.heap.size,0,none⟩ (.int .u8 94)).setCell ⟨p,1,none⟩ (.int .i64 ((i : Int) + 1))).heap.size,0,none⟩) 1 1 by simp) rfl (by omega) HWP.out.size ?_; intro v8 w8 hp8; have HP8:=Lib.hid hp8; clear hp8))
  go_step3
  have hpush:=HWP.out.push (q:=(⟨94,false,[],1,false⟩,.nilFunc)) hp HA.out (by exact HP8.out) (.inl ⟨rfl,rfl⟩)
  show PatJ w p a n c V fo R 1 _ _ ∧ PatM p n 1 _ _ < _
  refine ⟨⟨i + 1,L ++ [(⟨94,false,[],1,false⟩,.nilFunc)],_,_,_,_,_,rfl,hpush,by rw [List.length_append,List.length_singleton]; omega,by omega,.inr (.inl ⟨rfl,g,by omega,by rw [List.map_append]; exact HR.out⟩)⟩,?_⟩
  rw [PatM_at hpush _ 1 (by decide)]
  rw [if_neg (by decide)]
  omega
 have e94 : (z == 94) = false:=by rw [beq_eq_false_iff_ne]; exact c94
 by_cases c36 : z = 36
 ·rw [item_edge ((HZ.out 36 (by decide)).1 c36) (by decide)] at hR
  have HR:=Lib.hid hR
  subst c36
  clear hR
  go_wp2
  go_quiet (fail)
  go_wp2_with (first | (go_at_call 48; refine (HN.out (((((W.drewN nq).setCell ⟨w.heap.size,0,none⟩ (.int .u8 0)).setCell ⟨w.heap.size,1,none⟩ .nilFunc).setCell ⟨w.heap.size,2,none⟩ (.int .i64 1)).setCell ⟨w.heap.size,3,none⟩ (.bool false)) ((HST.out nq).reset hp HA.out).scan).mono ?_; rintro e w3 ⟨rfl,hq3⟩; have h3:=((HST.out nq).reset hp HA.out).quiet hp hq3; obtain ⟨g1,g2,g3,g4,g5,g6,g7,g8,g9,g10,g11,g12,_⟩:=h3.cells hp; have HS3:=Lib.hid h3; clear h3 hq3) | (go_at_call 48; refine (HN.out w3 HS3.out.scan).mono ?_; rintro e w4 ⟨rfl,hq4⟩; have h4:=HS3.out.quiet hp hq4; obtain ⟨i1,i2,i3,i4,i5,i6,i7,i8,i9,i10,i11,i12,_⟩:=h4.cells hp; have HS4:=Lib.hid h4; clear h4 hq4) | (at_builtin; have hwp:=(HS4.out.part' (e':=36) hp HA.out 0 (.int .u8 36) rfl).move hp (i + 1) (J:=(i : Int) + 1) (by omega); have HWP:=Lib.hid hwp; clear hwp; refine appSep rfl _ _ rfl Tryz.underlying34 (.agg #[.int .u8 0,.nilFunc,.int .i64 0,.bool false]) 4 32 infoPart rfl (by decide) (by decide) (w.heap.size + 1) ((w4.setCell ⟨w.heap.size,0,none⟩ (.int .u8 36)).setCell ⟨p,1,none⟩ (.int .i64 ((i : Int) + 1))) v L.length (L.flatMap PC) [.int .u8 36,.nilFunc,.int .i64 1,.bool false] rfl (by intro u hu; simp only [List.mem_cons,List.not_mem_nil,or_false] at hu; rcases hu with rfl | rfl | rfl | rfl <;> rfl) rfl HWP.out.parts.1 (show Value.slice (some ⟨w4.heap.size,0,none⟩) 1 1 = Value.slice (some ⟨((w4.setCell ⟨w.heap.size,0,none⟩ (.int .u8 36)).setCell ⟨p,1,none⟩ (.int .i64 ((i : Int) + 1))).heap.size,0,none⟩) 1 1 by simp) rfl (by omega) HWP.out.size ?_; intro v8 w8 hp8; have HP8:=Lib.hid hp8; clear hp8))
  go_step3
  have hpush:=HWP.out.push (q:=(⟨36,false,[],1,false⟩,.nilFunc)) hp HA.out (by exact HP8.out) (.inl ⟨rfl,rfl⟩)
  show PatJ w p a n c V fo R 1 _ _ ∧ PatM p n 1 _ _ < _
  refine ⟨⟨i + 1,L ++ [(⟨36,false,[],1,false⟩,.nilFunc)],_,_,_,_,_,rfl,hpush,by rw [List.length_append,List.length_singleton]; omega,by omega,.inr (.inl ⟨rfl,g,by omega,by rw [List.map_append]; exact HR.out⟩)⟩,?_⟩
  rw [PatM_at hpush _ 1 (by decide)]
  rw [if_neg (by decide)]
  omega
 have e36 : (z == 36) = false:=by rw [beq_eq_false_iff_ne]; exact c36
 by_cases c46 : z = 46
 ·rw [item_dot ((HZ.out 46 (by decide)).1 c46)] at hR
  have HR:=Lib.hid hR
  subst c46
  clear hR
  go_wp2
  go_quiet (fail)
  go_wp2_with (first | (go_at_call 48; refine (HN.out (((((W.drewN nq).setCell ⟨w.heap.size,0,none⟩ (.int .u8 0)).setCell ⟨w.heap.size,1,none⟩ .nilFunc).setCell ⟨w.heap.size,2,none⟩ (.int .i64 1)).setCell ⟨w.heap.size,3,none⟩ (.bool false)) ((HST.out nq).reset hp HA.out).scan).mono ?_; rintro e w3 ⟨rfl,hq3⟩; have h3:=((HST.out nq).reset hp HA.out).quiet hp hq3; obtain ⟨g1,g2,g3,g4,g5,g6,g7,g8,g9,g10,g11,g12,_⟩:=h3.cells hp; have HS3:=Lib.hid h3; clear h3 hq3))
  go_step3
  show PatJ w p a n c V fo R 2 _ _ ∧ PatM p n 2 _ _ < _
  have hst:=(HS3.out.part' (f':=.func (.func 49) #[] #[]) hp HA.out 1 (.func (.func 49) #[] #[]) rfl).move hp (i + 1) (J:=(i : Int) + 1) (by omega)
  refine ⟨⟨i + 1,L,v,_,_,_,_,rfl,hst,by omega,by omega,.inr (.inr ⟨rfl,rfl,rfl,rfl,by omega,g,46,false,[],by decide,by decide,by omega,HR.out,_,_,(fun _ => False),rfl,fun k hk => hk.elim,fun b _ hk => hk.elim,dotK _ _⟩)⟩,?_⟩
  rw [PatM_at hst _ 2 (by decide)]
  rw [if_pos rfl]
  omega
 have e46 : (z == 46) = false:=by rw [beq_eq_false_iff_ne]; exact c46
 by_cases c91 : z = 91
 ·rw [item_set ((HZ.out 91 (by decide)).1 c91)] at hR
  have hlt:=lt_of_some ((HZ.out 91 (by decide)).1 c91)
  have hsl:=setP_le V HV.out (i + 1) (by omega)
  have hF:=fun (W' : World) (h1 : Scan W' p a n c V (i + 1) fo) (h2 : w.heap.size ≤ W'.heap.size) => setC W' p a n c V (i + 1) fo h1 HV.out (by omega) hn (fun ad h => Nat.lt_of_lt_of_le (HA.out ad h) h2)
  rw [setAt_eq] at hF
  subst c91
  cases hG : setP V (i + 1) with
  | inl b =>
   rw [hG] at hR hF
   dsimp only at hR hF
   have HR:=Lib.hid hR
   have HF:=Lib.hid hF
   clear hR hF hG hsl
   go_wp2
   go_quiet (fail)
   go_wp2_with (first | (go_at_call 48; refine (HN.out (((((W.drewN nq).setCell ⟨w.heap.size,0,none⟩ (.int .u8 0)).setCell ⟨w.heap.size,1,none⟩ .nilFunc).setCell ⟨w.heap.size,2,none⟩ (.int .i64 1)).setCell ⟨w.heap.size,3,none⟩ (.bool false)) ((HST.out nq).reset hp HA.out).scan).mono ?_; rintro e w3 ⟨rfl,hq3⟩; have h3:=((HST.out nq).reset hp HA.out).quiet hp hq3; obtain ⟨g1,g2,g3,g4,g5,g6,g7,g8,g9,g10,g11,g12,_⟩:=h3.cells hp; have HS3:=Lib.hid h3; clear h3 hq3) | (go_at_call 51; refine (HF.out (w3.setCell ⟨p,1,none⟩ (.int .i64 ((i : Int) + 1))) (HS3.out.move hp (i + 1) (J:=(i : Int) + 1) (by omega)).scan (HS3.out.move hp (i + 1) (J:=(i : Int) + 1) (by omega)).grown.size).mono ?_; rintro e w5 ⟨hg5,rfl,hs5⟩; have h5:=(HS3.out.move hp (i + 1) (J:=(i : Int) + 1) (by omega)).step hp hg5 hs5; obtain ⟨i1,i2,i3,i4,i5,i6,i7,i8,i9,i10,i11,i12,_⟩:=h5.cells hp; have HS5:=Lib.hid h5; have HG5:=Lib.hid hg5; clear h5 hg5 hs5))
   try rw [jumps_ret]
   go_ret2
   have hD:=HS5.out.part' (f':=.nilFunc) hp HA.out 1 .nilFunc rfl
   unfold PatP
   rw [← HR.out]
   exact ⟨hD.grown,rfl,hD.scan⟩
  | inr t =>
   obtain ⟨ng,els,j⟩:=t
   rw [hG] at hR hF hsl
   obtain ⟨q1,q2⟩:=hsl
   dsimp only at hR hF
   have HR:=Lib.hid hR
   have HF:=Lib.hid hF
   clear hR hF hG
   go_wp2
   go_quiet (fail)
   go_wp2_with (first | (go_at_call 48; refine (HN.out (((((W.drewN nq).setCell ⟨w.heap.size,0,none⟩ (.int .u8 0)).setCell ⟨w.heap.size,1,none⟩ .nilFunc).setCell ⟨w.heap.size,2,none⟩ (.int .i64 1)).setCell ⟨w.heap.size,3,none⟩ (.bool false)) ((HST.out nq).reset hp HA.out).scan).mono ?_; rintro e w3 ⟨rfl,hq3⟩; have h3:=((HST.out nq).reset hp HA.out).quiet hp hq3; obtain ⟨g1,g2,g3,g4,g5,g6,g7,g8,g9,g10,g11,g12,_⟩:=h3.cells hp; have HS3:=Lib.hid h3; clear h3 hq3) | (go_at_call 51; refine (HF.out (w3.setCell ⟨p,1,none⟩ (.int .i64 ((i : Int) + 1))) (HS3.out.move hp (i + 1) (J:=(i : Int) + 1) (by omega)).scan (HS3.out.move hp (i + 1) (J:=(i : Int) + 1) (by omega)).grown.size).mono ?_; rintro e w5 ⟨hg5,gf,cs,rfl,hf5,hs5⟩; have h5:=(HS3.out.move hp (i + 1) (J:=(i : Int) + 1) (by omega)).step hp hg5 hs5; obtain ⟨i1,i2,i3,i4,i5,i6,i7,i8,i9,i10,i11,i12,_⟩:=h5.cells hp; have HS5:=Lib.hid h5; have HG5:=Lib.hid hg5; clear h5 hg5 hs5; have HF5:=Lib.hid hf5; clear hf5))
   go_step3
   show PatJ w p a n c V fo R 2 _ _ ∧ PatM p n 2 _ _ < _
   have hst:=HS5.out.part' (f':=.func (.func gf) #[] cs) hp HA.out 1 (.func (.func gf) #[] cs) rfl
   refine ⟨⟨j,L,v,_,_,_,_,rfl,hst,by omega,by omega,.inr (.inr ⟨rfl,rfl,rfl,rfl,by omega,g,91,ng,els,by decide,by decide,by omega,HR.out,_,_,(fun b => w3.heap.size ≤ b ∧ b < w5.heap.size),rfl,fun k hk => Nat.le_trans HS3.out.size hk.1,fun b hb hk => (by have:=own_blk HS3.out.parts hb; omega),FunAt.keep (FunAt.wide HF5.out (fun k hk => ⟨by have:=hk.1; rwa [World.size_setCell] at this,hk.2⟩) (fun k hk => hk.2)) (fun k hk => by have:=HS3.out.size; exact Below.heap_setCell _ _ _ k (by show k ≠ w.heap.size; omega)) (by rw [World.size_setCell]; exact Nat.le_refl _)⟩)⟩,?_⟩
   rw [PatM_at hst _ 2 (by decide)]
   rw [if_pos rfl]
   omega
 have e91 : (z == 91) = false:=by rw [beq_eq_false_iff_ne]; exact c91
 have hoth : itemP V i = (match oneP V i with
   | .inl b => .inl b
   | .inr (k,v,j) => .inr (withCount V 99 false [if k = 0 then .rng v v else .kind k] j)):=by
  obtain ⟨ch,hch⟩:=HC.out
  have no : ∀ k : Nat,k < 128 → z ≠ (k : Int) → ch ≠ k:=fun k hk hz e => hz ((HZ.out k hk).2 (by rw [hch,e]))
  exact item_other hch (by rintro (h | h | h); exact no 42 (by decide) c42 h; exact no 43 (by decide) c43 h; exact no 63 (by decide) c63 h) (by rintro (h | h); exact no 94 (by decide) c94 h; exact no 36 (by decide) c36 h) (no 46 (by decide) c46) (no 91 (by decide) c91)
 rw [hoth] at hR
 have hF:=fun (W' : World) (h1 : Scan W' p a n c V i fo) (h2 : w.heap.size ≤ W'.heap.size) => singleC W' p a n c V i fo h1 HV.out (by omega) hn (fun ad h => Nat.lt_of_lt_of_le (HA.out ad h) h2)
 unfold singP at hF
 have hgl:=oneP_le V HV.out i (by omega)
 clear hoth
 cases hG : oneP V i with
 | inl b =>
  rw [hG] at hR hF
  dsimp only at hR hF
  have HR:=Lib.hid hR
  have HF:=Lib.hid hF
  clear hR hF hG hgl
  go_wp2
  go_quiet (fail)
  go_wp2_with (first | (go_at_call 48; refine (HN.out (((((W.drewN nq).setCell ⟨w.heap.size,0,none⟩ (.int .u8 0)).setCell ⟨w.heap.size,1,none⟩ .nilFunc).setCell ⟨w.heap.size,2,none⟩ (.int .i64 1)).setCell ⟨w.heap.size,3,none⟩ (.bool false)) ((HST.out nq).reset hp HA.out).scan).mono ?_; rintro e w3 ⟨rfl,hq3⟩; have h3:=((HST.out nq).reset hp HA.out).quiet hp hq3; obtain ⟨g1,g2,g3,g4,g5,g6,g7,g8,g9,g10,g11,g12,_⟩:=h3.cells hp; have HS3:=Lib.hid h3; clear h3 hq3) | (go_at_call 52; refine (HF.out w3 HS3.out.scan HS3.out.grown.size).mono ?_; rintro e w5 ⟨hg5,rfl,hs5⟩; have h5:=HS3.out.step hp hg5 hs5; obtain ⟨i1,i2,i3,i4,i5,i6,i7,i8,i9,i10,i11,i12,_⟩:=h5.cells hp; have HS5:=Lib.hid h5; have HG5:=Lib.hid hg5; clear h5 hg5 hs5))
  try rw [jumps_ret]
  go_ret2
  have hD:=HS5.out.part' (f':=.nilFunc) hp HA.out 1 .nilFunc rfl
  unfold PatP
  rw [← HR.out]
  exact ⟨hD.grown,rfl,hD.scan⟩
 | inr t =>
  obtain ⟨k,tv,j⟩:=t
  rw [hG] at hR hF hgl
  obtain ⟨q1,q2,_⟩:=hgl
  dsimp only at hR hF
  have HR:=Lib.hid hR
  have HF:=Lib.hid hF
  clear hR hF hG
  go_wp2
  go_quiet (fail)
  go_wp2_with (first | (go_at_call 48; refine (HN.out (((((W.drewN nq).setCell ⟨w.heap.size,0,none⟩ (.int .u8 0)).setCell ⟨w.heap.size,1,none⟩ .nilFunc).setCell ⟨w.heap.size,2,none⟩ (.int .i64 1)).setCell ⟨w.heap.size,3,none⟩ (.bool false)) ((HST.out nq).reset hp HA.out).scan).mono ?_; rintro e w3 ⟨rfl,hq3⟩; have h3:=((HST.out nq).reset hp HA.out).quiet hp hq3; obtain ⟨g1,g2,g3,g4,g5,g6,g7,g8,g9,g10,g11,g12,_⟩:=h3.cells hp; have HS3:=Lib.hid h3; clear h3 hq3) | (go_at_call 52; refine (HF.out w3 HS3.out.scan HS3.out.grown.size).mono ?_; rintro e w5 ⟨hg5,gf,cs,rfl,hf5,hs5⟩; have h5:=HS3.out.step hp hg5 hs5; obtain ⟨i1,i2,i3,i4,i5,i6,i7,i8,i9,i10,i11,i12,_⟩:=h5.cells hp; have HS5:=Lib.hid h5; have HG5:=Lib.hid hg5; clear h5 hg5 hs5; have HF5:=Lib.hid hf5; clear hf5))
  go_step3
  rename_i hK
  refine hK _ _ ?_
  have hst:=HS5.out.part' (f':=.func (.func gf) #[] cs) hp HA.out 1 (.func (.func gf) #[] cs) rfl
  refine wp_mono (HP2.out _ _ ⟨j,L,v,_,_,_,_,rfl,hst,by omega,by omega,.inr (.inr ⟨rfl,rfl,rfl,rfl,by omega,g,99,false,[if k = 0 then .rng tv tv else .kind k],by decide,by decide,by omega,HR.out,_,_,(fun b => w3.heap.size ≤ b ∧ b < w5.heap.size),rfl,fun k hk => Nat.le_trans HS3.out.size hk.1,fun b hb hk => (by have:=own_blk HS3.out.parts hb; omega),FunAt.keep (FunAt.wide HF5.out (fun k hk => hk) (fun k hk => hk.2)) (fun k hk => by have:=HS3.out.size; exact Below.heap_setCell _ _ _ k (by show k ≠ w.heap.size; omega)) (by rw [World.size_setCell]; exact Nat.le_refl _)⟩)⟩) ?_
  intro e a' w' hh
  rw [PatM_at hst _ 2 (by decide),if_pos rfl] at hh
  cases e <;> first | exact hh | exact ⟨hh.1,by have:=hh.2; omega⟩
theorem countP_le (V : List Nat) (i : Nat) (hi : i ≤ V.length) : i ≤ (countP V i).2.2 ∧ (countP V i).2.2 ≤ V.length:=by
 unfold countP
 by_cases h1 : V[i]? = some 42
 ·have:=lt_of_some h1; rw [if_pos h1]; exact ⟨by show i ≤ i + 1; omega,by show i + 1 ≤ _; omega⟩
 rw [if_neg h1]
 by_cases h2 : V[i]? = some 43
 ·have:=lt_of_some h2; rw [if_pos h2]; exact ⟨by show i ≤ i + 1; omega,by show i + 1 ≤ _; omega⟩
 rw [if_neg h2]
 by_cases h3 : V[i]? = some 63
 ·have:=lt_of_some h3; rw [if_pos h3]; exact ⟨by show i ≤ i + 1; omega,by show i + 1 ≤ _; omega⟩
 rw [if_neg h3]
 exact ⟨Nat.le_refl _,hi⟩
def ItemLe (V : List Nat) (i : Nat) : Nat ⊕ (Itm × Nat) → Prop
 | .inl b => b ≤ V.length
 | .inr (_,j) => i < j ∧ j ≤ V.length
theorem itemP_le (V : List Nat) (hV : OkV V) (i : Nat) (hi : i ≤ V.length) : ItemLe V i (itemP V i):=by
 cases hc : V[i]? with
 | none =>
  unfold itemP
  rw [hc]
  exact hi
 | some ch =>
  have hl:=lt_of_some hc
  by_cases h1 : ch = 42 ∨ ch = 43 ∨ ch = 63
  ·rw [item_bad hc h1]; exact hi
  by_cases h2 : ch = 94 ∨ ch = 36
  ·rw [item_edge hc h2]; exact ⟨by omega,by omega⟩
  by_cases h3 : ch = 46
  ·subst h3
   rw [item_dot hc]
   have:=countP_le V (i + 1) (by omega)
   exact ⟨by have:=this.1; show i < (countP V (i + 1)).2.2; omega,this.2⟩
  by_cases h4 : ch = 91
  ·subst h4
   rw [item_set hc]
   have hs:=setP_le V hV (i + 1) (by omega)
   cases hG : setP V (i + 1) with
   | inl b => rw [hG] at hs; exact hs
   | inr t =>
    obtain ⟨ng,els,j⟩:=t
    rw [hG] at hs
    obtain ⟨q1,q2⟩:=hs
    have:=countP_le V j q2
    exact ⟨by have:=this.1; show i < (countP V j).2.2; omega,this.2⟩
  ·rw [item_other hc h1 h2 h3 h4]
   have hs:=oneP_le V hV i hi
   cases hG : oneP V i with
   | inl b => rw [hG] at hs; exact hs
   | inr t =>
    obtain ⟨k,v,j⟩:=t
    rw [hG] at hs
    obtain ⟨q1,q2,_⟩:=hs
    have:=countP_le V j q2
    exact ⟨by have:=this.1; show i < (countP V j).2.2; omega,this.2⟩
theorem itemsGo_le (V : List Nat) (hV : OkV V) : ∀ (g i : Nat) (acc : List Itm),i ≤ V.length → ∀ b,itemsGo V g i acc = .inl b → b ≤ V.length
 | 0,i,acc,_,b,h => by rw [itemsGo] at h; cases h
 | g + 1,i,acc,hi,b,h => by
  by_cases he : V.length ≤ i
  ·rw [itemsGo_end he] at h; cases h
  ·rw [itemsGo_next (by omega)] at h
   have hl:=itemP_le V hV i hi
   cases hG : itemP V i with
   | inl b' => rw [hG] at h hl; dsimp only at h; cases h; exact hl
   | inr t =>
    obtain ⟨it,j⟩:=t
    rw [hG] at h hl
    exact itemsGo_le V hV g j _ hl.2 b h
theorem patternC (w : World) (p : Nat) (a : Option Addr) (n c : Nat) (V : List Nat) (i : Nat) (fo : Bool) (h : Scan w p a n c V i fo) (hV : OkV V) (hin : i ≤ n) (hn : n ≤ 67108800) (ha : ∀ ad,a = some ad → ad.block < w.heap.size) :
  Calls Tryz.prog 34 #[.pointer (some ⟨p,0,none⟩)] w (PatP w p a n c V fo (itemsGo V (V.length + 1) i [])):=by
 have hp:=h.row.lt
 have hVn:=h.toks.1
 obtain ⟨R,hR⟩ : ∃ R,itemsGo V (V.length + 1) i [] = R:=⟨_,rfl⟩
 rw [hR]
 have hst : PatSt w p a n c V fo [] (.slice none 0 0) i 0 .nilFunc 0 false (w.alloc (.cells #[.int .u8 0,.nilFunc,.int .i64 0,.bool false] 120)):=by
  have hb : Below w.heap.size w (w.alloc (.cells #[.int .u8 0,.nilFunc,.int .i64 0,.bool false] 120)):=(Below.refl _ w).alloc (Nat.le_refl _) _
  exact ⟨grown_of_below hb _,h.keep hb (Nat.le_refl _),row_new w [.int .u8 0,.nilFunc,.int .i64 0,.bool false] _,PartsOwn.nil _ _ _,by rw [World.size_alloc]; exact Nat.le_refl _⟩
 obtain ⟨X1,hX1,hp1⟩:=pat_next w p a n c V fo R hV hVn hp hn ha
 obtain ⟨X2,hX2,hp2⟩:=pat_count w p a n c V fo R hV hVn hp hn ha
 obtain ⟨X0,hX0,hp0⟩:=pat_end w p a n c V fo R hp
 have HX:=Lib.hid (⟨hX1,hp1⟩ : _ ∧ _)
 have hall : ∀ lab x W,PatJ w p a n c V fo R lab x W → ∃ rest,findLabel (scopeOf Tryz.f34.body) lab = some rest ∧ rest.wp Tryz.prog (jumps (fun l' x' W' => PatJ w p a n c V fo R l' x' W' ∧ PatM p n l' x' W' < PatM p n lab x W)
   (bodyPost Tryz.prog Tryz.f34 (PatP w p a n c V fo R))) x W:=by
  intro lab x W hJ
  obtain ⟨i,L,v,e,f,l,m,h1,h2,h3,h4,hq⟩:=id hJ
  rcases hq with ⟨rfl,_⟩ | ⟨rfl,_⟩ | ⟨rfl,_⟩
  ·exact ⟨_,hX0,wp_seq (wp_skip (hp0 _ x W hJ))⟩
  ·exact ⟨_,hX1,wp_seq (wp_skip (hp1 x W hJ))⟩
  ·exact ⟨_,hX2,wp_seq (wp_skip (hp2 x W hJ))⟩
 have HALL:=Lib.hid hall
 have HST:=Lib.hid hst
 have HR:=Lib.hid hR
 have HVN:=Lib.hid hVn
 clear hX0 hX1 hX2 hp0 hp1 hp2 hall hst hR h ha hV hVn
 go_enter Tryz.func34, Tryz.ntmps34
 go_wp2_with fail
 refine wp_scope_labels (PatJ w p a n c V fo R) (PatM p n) HALL.out ?_
 go_wp2_with fail
 go_step3
 rename_i hK
 refine hK _ _ ?_
 obtain ⟨hX,hpass⟩:=HX.out
 have e : Code.seq .skip X1 = _:=Option.some.inj hX.symm
 obtain rfl:=(Code.seq.inj e).2
 clear e hX HX
 refine wp_mono (hpass _ _ ⟨i,[],_,_,_,_,_,rfl,HST.out,Nat.zero_le _,hin,.inr (.inl ⟨rfl,V.length + 1,by have:=HVN.out; omega,HR.out⟩)⟩) ?_
 intro e a w hh
 cases e <;> first | exact hh | exact hh.1
theorem TokOwn.shape {B : Nat} {v : Value} {V : List Nat} {w : World} (h : TokOwn B v V w) : ∃ a c,v = .slice a V.length c ∧ ReadsTok w a V.length V ∧ (∀ ad,a = some ad → B ≤ ad.block ∧ ad.block < w.heap.size) ∧ (0 < V.length → ∃ g,a = some ⟨g,0,none⟩):=by
 rcases h.2 with ⟨rfl,h0⟩ | ⟨g,cap,cur,rfl,hB,hg,hc1,hc2,hc3,hc4⟩
 ·exact ⟨none,0,by rw [h0],⟨rfl,fun h => by omega⟩,(fun ad h => by cases h),fun h => by omega⟩
 ·have hgl:=(Array.getElem?_eq_some_iff.1 hg).1
  refine ⟨_,_,rfl,⟨rfl,fun hn => ⟨g,0,rfl,hgl,fun i v hv => ?_⟩⟩,fun ad h => by cases h; exact ⟨hB,hgl⟩,fun _ => ⟨g,rfl⟩⟩
  have hi : i < V.length:=(List.getElem?_eq_some_iff.1 hv).1
  have key : ∀ k u,(V.flatMap tokCells)[k]? = some u → w.cell? ⟨g,0 + k,none⟩ = some u:=by
   intro k u hk
   rw [← hc4,List.getElem?_take] at hk
   have hkl : k < V.length * 2:=by
    apply Decidable.byContradiction
    intro hc
    rw [if_neg hc] at hk
    cases hk
   rw [if_pos hkl] at hk
   simp only [World.cell?,hg,Nat.zero_add]
   simpa using hk
  have flat : ∀ (V : List Nat) (i v : Nat),V[i]? = some v → (V.flatMap tokCells)[i * 2]? = some (.int .i32 (tokR v : Int)) ∧ (V.flatMap tokCells)[i * 2 + 1]? = some (.int .i64 (tokW v : Int)):=by
   intro V
   induction V with
   | nil => intro i v h; simp at h
   | cons x V ih =>
    intro i v h
    cases i with
    | zero =>
     simp only [List.getElem?_cons_zero,Option.some.injEq] at h
     subst h
     exact ⟨rfl,rfl⟩
    | succ i =>
     rw [List.getElem?_cons_succ] at h
     obtain ⟨r1,r2⟩:=ih i v h
     rw [List.flatMap_cons]
     constructor
     ·rw [List.getElem?_append_right (by show 2 ≤ _; omega)]
      show (V.flatMap tokCells)[(i + 1) * 2 - 2]? = _
      rw [show (i + 1) * 2 - 2 = i * 2 by omega]
      exact r1
     ·rw [List.getElem?_append_right (by show 2 ≤ _; omega)]
      show (V.flatMap tokCells)[(i + 1) * 2 + 1 - 2]? = _
      rw [show (i + 1) * 2 + 1 - 2 = i * 2 + 1 by omega]
      exact r2
  obtain ⟨r1,r2⟩:=flat V i v hv
  exact ⟨key _ _ r1,key _ _ r2⟩
theorem IntOwn.shape {B : Nat} {v : Value} {L : List Nat} {w : World} (h : IntOwn B v L w) : ∃ a c,v = .slice a L.length c ∧ (∀ ad,a = some ad → B ≤ ad.block ∧ ad.block < w.heap.size) ∧ (0 < L.length → ∃ g,a = some ⟨g,0,none⟩ ∧ B ≤ g ∧ g < w.heap.size ∧ ∀ (k x : Nat),L[k]? = some x → w.cell? ⟨g,k,none⟩ = some (.int .i64 (x : Int))):=by
 rcases h.2 with ⟨rfl,h0⟩ | ⟨g,cap,cur,rfl,hB,hg,hc1,hc2,hc3,hc4⟩
 ·exact ⟨none,0,by rw [h0],(fun ad h => by cases h),fun h => by omega⟩
 ·have hgl:=(Array.getElem?_eq_some_iff.1 hg).1
  refine ⟨_,_,rfl,fun ad h => by cases h; exact ⟨hB,hgl⟩,fun hn => ⟨g,rfl,hB,hgl,fun k x hx => ?_⟩⟩
  have hk : k < L.length:=(List.getElem?_eq_some_iff.1 hx).1
  rw [Nat.mul_one] at hc4
  have hm : (L.map I1)[k]? = some (I1 x):=by rw [List.getElem?_map,hx]; rfl
  rw [← hc4,List.getElem?_take,if_pos hk] at hm
  simp only [World.cell?,hg]
  simpa [I1] using hm
def PatIs (w : World) (g : Nat) (l : List UInt8) (fo : Bool) (its : List Itm) : Prop :=
 ∃ (v : Value) (L : List (Itm × Value)) (B : Nat),Row w g 36 [.string (bstr l),.bool true,v] ∧ L.map Prod.fst = its ∧ PartsOwn fo B v L w
def CompP (w : World) (l : List UInt8) (e : Ending) (w' : World) : Prop :=
 Below w.heap.size w w' ∧ if 256 < l.length then ∃ g,e = .returned (.tuple #[.pointer none,.iface 82 (.pointer (some ⟨g,0,none⟩))]) ∧ w.heap.size ≤ g ∧ Row w' g 84 [.int .i64 4,.int .i64 0] else
  match itemsP (valsL l) with
  | .inl b => ∃ g,e = .returned (.tuple #[.pointer none,.iface 82 (.pointer (some ⟨g,0,none⟩))]) ∧ w.heap.size ≤ g ∧ Row w' g 84 [.int .i64 60,.int .i64 ((atsL l).getD b 0 : Int)]
  | .inr its => ∃ g,e = .returned (.tuple #[.pointer (some ⟨g,0,none⟩),.nilIface]) ∧ w.heap.size ≤ g ∧ PatIs w' g l (foldedP (valsL l)) its
theorem vals_len (l : List UInt8) : (valsL l).length ≤ l.length:=by
 unfold valsL
 rw [List.length_map]
 exact charsGo_len _ _ _
theorem ats_len (l : List UInt8) : (atsL l).length = (valsL l).length + 1:=by
 unfold atsL valsL
 rw [List.length_append,List.length_map,List.length_map,List.length_singleton]
theorem scan_newF {w : World} {B n c : Nat} {a : Option Addr} {V : List Nat} (h : ReadsTok w a n V) (hab : ∀ ad,a = some ad → B ≤ ad.block ∧ ad.block < w.heap.size) : Scan (w.alloc (.cells #[.slice a n c,.int .i64 2,.bool true] 89)) w.heap.size a n c V 2 true :=
 ⟨row_new w [.slice a n c,.int .i64 2,.bool true] _,h.keep ((Below.refl _ w).alloc (Nat.le_refl _) _) (Nat.le_refl _),fun ad h => by have:=(hab ad h).2; omega⟩
theorem scan_new {w : World} {B n c : Nat} {a : Option Addr} {V : List Nat} (h : ReadsTok w a n V) (hab : ∀ ad,a = some ad → B ≤ ad.block ∧ ad.block < w.heap.size) : Scan (w.alloc (.cells #[.slice a n c,.int .i64 0,.bool false] 89)) w.heap.size a n c V 0 false :=
 ⟨row_new w [.slice a n c,.int .i64 0,.bool false] _,h.keep ((Below.refl _ w).alloc (Nat.le_refl _) _) (Nat.le_refl _),fun ad h => by have:=(hab ad h).2; omega⟩
theorem parts_shape {fo : Bool} {B : Nat} {v : Value} {L : List (Itm × Value)} {W : World} (h : PartsOwn fo B v L W) : ∃ a c,v = .slice a L.length c:=by
 rcases h.1.2 with ⟨rfl,h0⟩ | ⟨g,cap,cur,rfl,_⟩
 ·exact ⟨none,0,by rw [h0]⟩
 ·exact ⟨_,_,rfl⟩
theorem at_cell {w1 W3 w4 : World} {g b : Nat} {L : List Nat} (hb : Below w1.heap.size w1 W3) (hg : W3.grownBy w4 (some w1.heap.size)) (hlt : g < w1.heap.size) (hc : ∀ (k x : Nat),L[k]? = some x → w1.cell? ⟨g,k,none⟩ = some (.int .i64 (x : Int))) (hbn : b < L.length) : w4.cell? ⟨g,b,none⟩ = some (.int .i64 ((L.getD b 0 : Nat) : Int)):=by
 have h1 : w4.heap[g]? = w1.heap[g]?:=(hg.block g (Nat.lt_of_lt_of_le hlt hb.size) (fun e => by cases e; omega)).trans (hb.block g hlt)
 rw [World.cell?_of_block (a:=⟨g,b,none⟩) h1]
 have:=hc b (L.getD b 0) (by rw [List.getD_eq_getElem?_getD,List.getElem?_eq_getElem hbn]; rfl)
 exact this
theorem comp_below {w w1 W3 w4 : World} (h1 : Below w.heap.size w w1) (h2 : Below w1.heap.size w1 W3) (hg : W3.grownBy w4 (some w1.heap.size)) : Below w.heap.size w w4:=by
 have hs:=h1.size
 exact (h1.trans (h2.mono hs)).grown hg (by have:=h2.size; omega) (fun k hk => by cases hk; exact hs)
theorem tok_at {w : World} {g n i v : Nat} {V : List Nat} (h : ReadsTok w (some ⟨g,0,none⟩) n V) (hv : V[i]? = some v) : w.cell? ⟨g,i * 2,none⟩ = some (.int .i32 (tokR v : Int)) ∧ w.cell? ⟨g,i * 2 + 1,none⟩ = some (.int .i64 (tokW v : Int)):=by
 obtain ⟨hl,h⟩:=h
 obtain ⟨b,off,ha,hlt,hc⟩:=h (by have:=lt_of_some hv; omega)
 cases ha
 have:=hc i v hv
 rwa [Nat.zero_add] at this
theorem tok_at0 {w : World} {g n v : Nat} {V : List Nat} (h : ReadsTok w (some ⟨g,0,none⟩) n V) (hv : V[0]? = some v) : w.cell? ⟨g,0,none⟩ = some (.int .i32 (tokR v : Int)) ∧ w.cell? ⟨g,1,none⟩ = some (.int .i64 (tokW v : Int)):=tok_at h hv
theorem tok_at1 {w : World} {g n v : Nat} {V : List Nat} (h : ReadsTok w (some ⟨g,0,none⟩) n V) (hv : V[1]? = some v) : w.cell? ⟨g,2,none⟩ = some (.int .i32 (tokR v : Int)) ∧ w.cell? ⟨g,3,none⟩ = some (.int .i64 (tokW v : Int)):=tok_at h hv
theorem Scan.fold {w : World} {p : Nat} {a : Option Addr} {n c : Nat} {V : List Nat} {i : Nat} {fo : Bool} (h : Scan w p a n c V i fo) : Scan (w.setCell ⟨p,2,none⟩ (.bool true)) p a n c V i true :=
 ⟨h.row.set 2 (.bool true),h.toks.grown (grownBy_set w p 2 _) h.apart,h.apart⟩
end Go.Proofs.YtchdeboialbdiaaGreatDoor
