/- Texts joined, one behind the other (SLead). -/
import Derived.Test.YtchdeboialbdiaaGreatDoorSqy
import Derived.Test.YtchdeboialbdiaaGreatDoorSn17
import Derived.Deep.RegionHeld3
namespace Go.Proofs.YtchdeboialbdiaaGreatDoor
set_option linter.unusedVariables false
set_option linter.unusedSimpArgs false
set_option maxHeartbeats 8000000
set_option maxRecDepth 100000
open Go.RowKit
open Go.Lib hiding intOf
theorem rising_len : ∀ (L : List Nat) (b N : Nat),Rising L → (∀ x ∈ L,b ≤ x) → (∀ x ∈ L,x ≤ N) → L = [] ∨ L.length + b ≤ N + 1
 | [],_,_,_,_,_ => .inl rfl
 | y :: M,b,N,h,h1,h2 => by
  right
  have hp:=List.pairwise_cons.1 h
  have hb:=h1 y List.mem_cons_self
  have hn:=h2 y List.mem_cons_self
  rw [List.length_cons]
  rcases rising_len M (y + 1) N hp.2 (fun x hx => hp.1 x hx) (fun x hx => h2 x (List.mem_cons_of_mem _ hx)) with rfl | h3
  ·simp; omega
  ·omega
theorem rising_le {L : List Nat} {N : Nat} (h : Rising L) (h2 : ∀ x ∈ L,x ≤ N) : L.length ≤ N + 1:=by
 rcases rising_len L 0 N h (fun _ _ => Nat.zero_le _) h2 with rfl | h3
 ·exact Nat.zero_le _
 ·omega
def RI (w : World) (a : Option Addr) (n : Nat) (F : List Nat) : Prop :=
 F.length = n ∧ (0 < n → ∃ g,a = some ⟨g,0,none⟩ ∧ g < w.heap.size ∧ ∀ (k x : Nat),F[k]? = some x → w.cell? ⟨g,k,none⟩ = some (.int .i64 (x : Int)))
structure LeadW (w : World) (e : Int) (f : Value) (l : Int) (m : Bool) (va vb : Value) (L : List Nat) (W : World) : Prop where
 below : Below w.heap.size w W
 part : Row W w.heap.size 120 [.int .u8 e,f,.int .i64 l,.bool m]
 text : Row W (w.heap.size + 1) 75 [va,vb]
 lst : ToSt (w.heap.size + 2) L W
theorem LeadW.keep {w W W' : World} {e l : Int} {f va vb : Value} {m : Bool} {L : List Nat} (h : LeadW w e f l m va vb L W) (hb : Below W.heap.size W W') : LeadW w e f l m va vb L W' :=
 ⟨h.below.trans (hb.mono h.below.size),h.part.keep hb h.part.lt,h.text.keep hb h.text.lt,h.lst.keep hb⟩
theorem LeadW.put {w W W' : World} {e l : Int} {f va vb : Value} {m : Bool} {L L' : List Nat} (h : LeadW w e f l m va vb L W) (ht : ToSt (w.heap.size + 2) L' W') (hb : Below (w.heap.size + 2) W W') : LeadW w e f l m va vb L' W' :=
 ⟨h.below.trans (hb.mono (by omega)),h.part.keep hb (by omega),h.text.keep hb (by omega),ht⟩
theorem LeadW.cells {w W : World} {e l : Int} {f va vb : Value} {m : Bool} {L : List Nat} (h : LeadW w e f l m va vb L W) :
  W.cell? ⟨w.heap.size,0,none⟩ = some (.int .u8 e) ∧ W.cell? ⟨w.heap.size,1,none⟩ = some f ∧ W.cell? ⟨w.heap.size,2,none⟩ = some (.int .i64 l) ∧ W.cell? ⟨w.heap.size,3,none⟩ = some (.bool m) ∧ W.cell? ⟨w.heap.size + 1,0,none⟩ = some va ∧ W.cell? ⟨w.heap.size + 1,1,none⟩ = some vb :=
 ⟨h.part.cell 0,h.part.cell 1,h.part.cell 2,h.part.cell 3,h.text.cell 0,h.text.cell 1⟩
theorem LeadW.start (w : World) (e l : Int) (f va vb : Value) (m : Bool) : LeadW w e f l m va vb [] (((w.alloc (.cells #[.int .u8 e,f,.int .i64 l,.bool m] 120)).alloc (.cells #[va,vb] 75)).alloc (.cells #[.slice none 0 0] 73)):=by
 have h1 : Below w.heap.size w (w.alloc (.cells #[.int .u8 e,f,.int .i64 l,.bool m] 120)):=(Below.refl _ w).alloc (Nat.le_refl _) _
 refine ⟨(h1.alloc (by simp) _).alloc (by rw [World.size_alloc,World.size_alloc]; omega) _,((row_new w [.int .u8 e,f,.int .i64 l,.bool m] _).alloc _).alloc _,?_,_,?_,World.ownsRow_nil _ _ _ _⟩
 ·have:=row_new (w.alloc (.cells #[.int .u8 e,f,.int .i64 l,.bool m] 120)) [va,vb] 75
  rw [World.size_alloc] at this
  exact this.alloc _
 ·have:=row_new ((w.alloc (.cells #[.int .u8 e,f,.int .i64 l,.bool m] 120)).alloc (.cells #[va,vb] 75)) [.slice none 0 0] 73
  rwa [World.size_alloc,World.size_alloc] at this
def LeadP (w : World) (Q : Nat → Prop) (e : Ending) (w' : World) : Prop :=
 ∃ v L,e = .returned v ∧ IntOwn w.heap.size v L w' ∧ Rising L ∧ (∀ j,j ∈ L ↔ Q j) ∧ Below w.heap.size w w'
theorem to_lead {w W : World} {e l : Int} {f va vb v : Value} {m : Bool} {L : List Nat} (h : LeadW w e f l m va vb L W) : ∃ v,W.cell? ⟨w.heap.size + 2,0,none⟩ = some v ∧ IntOwn w.heap.size v L W:=by
 obtain ⟨v,h1,h2⟩:=h.lst
 exact ⟨v,h1.cell 0,own_mono_size h2 (by omega)⟩
theorem take_snoc {F : List Nat} {k x : Nat} (h : F[k]? = some x) : F.take (k + 1) = F.take k ++ [x]:=by
 rw [List.take_add_one,h]
 rfl
theorem rising_take {F : List Nat} {k x : Nat} (h : Rising F) (hx : F[k]? = some x) : ∀ s ∈ F.take k,s < x:=by
 intro s hs
 obtain ⟨i,hi,rfl⟩:=List.getElem_of_mem hs
 have hl : i < k ∧ i < F.length:=by rw [List.length_take] at hi; omega
 have hk:=lt_of_some hx
 have:=List.pairwise_iff_getElem.1 h i k hl.2 hk hl.1
 rw [List.getElem_take]
 have e : F[k] = x:=Option.some.inj ((List.getElem?_eq_getElem hk).symm.trans hx)
 omega
theorem lead_edge (w : World) (a a2 a3 : Option Addr) (n c n2 c2 m c3 : Nat) (V F : List Nat) (what : Nat) (f : Value) (l : Int) (mm : Bool) (hw : what = 94 ∨ what = 36) (hr : ReadsTok w a n V) (hV : OkV V) (hn : n ≤ 67108800) (hF : RI w a3 m F) (hFr : Rising F) (hFn : ∀ x ∈ F,x ≤ n) (hf : f = .nilFunc) :
  Calls Tryz.prog 46 #[.agg #[.int .u8 (what : Int),f,.int .i64 l,.bool mm],.agg #[.slice a n c,.slice a2 n2 c2],.slice a3 m c3] w (LeadP w (fun j => j ∈ F ∧ holdsP V what j = true)):=by
 have hst:=LeadW.start w (what : Int) l f (.slice a n c) (.slice a2 n2 c2) mm
 have hml:=hF.1
 have hm:=rising_le hFr hFn
 have hwi : (((what : Nat) : Int) != 0) = true:=by rcases hw with rfl | rfl <;> decide
 have hput : ∀ (W : World) (L : List Nat) (i : Nat),LeadW w (what : Int) f l mm (.slice a n c) (.slice a2 n2 c2) L W → (L.length ≤ 67108864) → i ≤ 67108864 → (∀ x ∈ L,x ≤ 67108864) → Calls Tryz.prog 68 #[.int .i64 (i : Int),.pointer (some ⟨w.heap.size + 2,0,none⟩)] W fun e w' => e = .returned (.tuple #[]) ∧ ToSt (w.heap.size + 2) (putL L i) w' ∧ Below (w.heap.size + 2) W w':=fun W L i h h1 h2 h3 => putC W _ L i h.lst h1 h2 h3
 have hedge : ∀ (W : World) (L : List Nat) (i : Nat),LeadW w (what : Int) f l mm (.slice a n c) (.slice a2 n2 c2) L W → i ≤ n → Calls Tryz.prog 69 #[.agg #[.slice a n c,.slice a2 n2 c2],.int .u8 (what : Int),.int .i64 (i : Int)] W fun e w' => e = .returned (.bool (holdsP V what i)) ∧ Below W.heap.size W w':=fun W L i h hi => edgeC W a a2 n c n2 c2 V what i hw (hr.keep h.below (Nat.le_refl _)) hV hi (by omega)
 have HPUT0:=Lib.hid hput
 have HEDGE:=Lib.hid hedge
 have HST:=Lib.hid hst
 have HF:=Lib.hid hF
 have HFR:=Lib.hid hFr
 have HFN:=Lib.hid hFn
 subst hf
 obtain ⟨wi,hwe⟩ : ∃ wi : Int,((what : Nat) : Int) = wi:=⟨_,rfl⟩
 rw [hwe] at hwi HST HPUT0 HEDGE ⊢
 clear hput hedge hst hF hFr hFn hr hV hw hwe
 go_enter Tryz.func46, Tryz.ntmps46
 go_wp2_with fail
 go_loopw [16] (fun uk wr => ∃ (k : Nat) (L : List Nat),uk = .int .i64 (k : Int) ∧ k ≤ m ∧ Hid (LeadW w wi .nilFunc l mm (.slice a n c) (.slice a2 n2 c2) L wr ∧ Rising L ∧ ∀ j,j ∈ L ↔ j ∈ F.take k ∧ holdsP V what j = true)) (fun uk _ => m - (RowKit.intOf uk).toNat)
 case atStart => exact ⟨0,[],rfl,Nat.zero_le _,Lib.hid ⟨HST.out,List.Pairwise.nil,fun j => by simp⟩⟩
 case round =>
  obtain ⟨k,L,rfl,hk,HR⟩:=hrel
  obtain ⟨e0,e1,e2,e3,e4,e5⟩:=HR.out.1.cells
  by_cases hlt : k < m
  ·obtain ⟨x,hx⟩ : ∃ x,F[k]? = some x:=⟨_,List.getElem?_eq_getElem (by omega)⟩
   obtain ⟨g3,rfl,hg3,hc3⟩:=HF.out.2 (by omega)
   have k0 : wr.cell? ⟨g3,k,none⟩ = some (.int .i64 (x : Int)):=by
    rw [World.cell?_of_block (a:=⟨g3,k,none⟩) (HR.out.1.below.block g3 hg3)]
    exact hc3 k x hx
   have hxn:=HFN.out x (List.mem_of_getElem? hx)
   have hlk : (k : Int) < (m : Int):=by omega
   have hE:=HEDGE.out wr L x HR.out.1 hxn
   have hLn : ∀ y ∈ L,y ≤ n:=fun y hy => HFN.out y (List.mem_of_mem_take ((HR.out.2.2 y).1 hy).1)
   have hlen:=rising_le HR.out.2.1 hLn
   have hrt:=rising_take HFR.out hx
   have HX:=Lib.hid hx
   have hmem : ∀ L',L' = (if holdsP V what x = true then putL L x else L) → Rising L' ∧ ∀ j,j ∈ L' ↔ j ∈ F.take (k + 1) ∧ holdsP V what j = true:=by
    rintro L' rfl
    rw [take_snoc HX.out]
    by_cases hh : holdsP V what x = true
    ·rw [if_pos hh]
     have hp:=putL_mem HR.out.2.1 (i:=x) (.inl (fun y hy => Nat.le_of_lt (hrt y ((HR.out.2.2 y).1 hy).1)))
     refine ⟨hp.1,fun j => ?_⟩
     rw [hp.2,HR.out.2.2,List.mem_append,List.mem_singleton]
     constructor
     ·rintro (⟨h1,h2⟩ | rfl)
      ·exact ⟨.inl h1,h2⟩
      ·exact ⟨.inr rfl,hh⟩
     ·rintro ⟨h1 | h1,h2⟩
      ·exact .inl ⟨h1,h2⟩
      ·exact .inr h1
    ·rw [if_neg hh]
     refine ⟨HR.out.2.1,fun j => ?_⟩
     rw [HR.out.2.2,List.mem_append,List.mem_singleton]
     constructor
     ·rintro ⟨h1,h2⟩; exact ⟨.inl h1,h2⟩
     ·rintro ⟨h1 | rfl,h2⟩
      ·exact ⟨h1,h2⟩
      ·exact absurd h2 hh
   have HMEM:=Lib.hid hmem
   have HPUT : Hid (∀ W,LeadW w wi .nilFunc l mm (.slice a n c) (.slice a2 n2 c2) L W → Calls Tryz.prog 68 #[.int .i64 (x : Int),.pointer (some ⟨w.heap.size + 2,0,none⟩)] W fun e w' => e = .returned (.tuple #[]) ∧ ToSt (w.heap.size + 2) (putL L x) w' ∧ Below (w.heap.size + 2) W w'):=Lib.hid (fun W h => HPUT0.out W L x h (by omega) (by omega) (fun y hy => by have:=hLn y hy; omega))
   obtain ⟨hb,hhb⟩ : ∃ b,holdsP V what x = b:=⟨_,rfl⟩
   rw [hhb] at hE HMEM
   have HE:=Lib.hid hE
   clear hE hmem hhb hx hc3 hrt hLn
   cases hb with
   | true =>
    go_wp2_with (first
     | (go_at_call 69; refine (HE.out).mono ?_; rintro e w2 ⟨rfl,hb2⟩; have LW:=Lib.hid (HR.out.1.keep hb2); clear hb2)
     | (go_at_call 68; refine (HPUT.out _ LW.out).mono ?_; rintro e w7 ⟨rfl,ht7,hb7⟩; have LW7:=Lib.hid (LW.out.put ht7 hb7); clear ht7 hb7))
    go_roundw
    case rel => exact ⟨k + 1,putL L x,by go_num,by omega,Lib.hid ⟨LW7.out,HMEM.out _ rfl⟩⟩
    case measure => simp [RowKit.intOf]; omega
   | false =>
    go_wp2_with (first
     | (go_at_call 69; refine (HE.out).mono ?_; rintro e w2 ⟨rfl,hb2⟩; have LW:=Lib.hid (HR.out.1.keep hb2); clear hb2))
    go_roundw
    case rel => exact ⟨k + 1,L,by go_num,by omega,Lib.hid ⟨LW.out,HMEM.out _ rfl⟩⟩
    case measure => simp [RowKit.intOf]; omega
  ·obtain rfl : k = m:=by omega
   obtain ⟨v,hv,hown⟩:=to_lead (v:=.nilFunc) HR.out.1
   have HOWN:=Lib.hid hown
   have hnlk : ¬ (k : Int) < (k : Int):=by omega
   clear hown hlt hk
   go_wp2_with fail
   go_ret
   refine ⟨v,L,rfl,HOWN.out,HR.out.2.1,fun j => ?_,HR.out.1.below⟩
   rw [HR.out.2.2,List.take_of_length_le (by omega)]
theorem reach_le {fo : Bool} {V : List Nat} {it : Itm} {zero many : Bool} {i j : Nat} (h : Reach (atP fo V it) zero many i j) (hi : i ≤ V.length) : j ≤ V.length:=by
 rcases h with ⟨rfl,_⟩ | ⟨h1,_,h3⟩
 ·exact hi
 ·have:=h3 (j - 1) (by omega) (by omega)
  unfold atP at this
  cases hv : V[j - 1]? with
  | none => rw [hv] at this; cases this
  | some v => have:=lt_of_some hv; omega
theorem lead_few (w : World) (a a2 a3 : Option Addr) (n c n2 c2 m c3 : Nat) (V F : List Nat) (fo : Bool) (it : Itm) (g' : FuncId) (cs' : Array Value) (l : Nat) (K : Nat → Prop) (hr : ReadsTok w a n V) (hV : OkV V) (hn : n ≤ 67108800) (hF : RI w a3 m F) (hFr : Rising F) (hFn : ∀ x ∈ F,x ≤ n) (hf : FunAt K w (.func (.func g') #[] cs') (atomIs fo it)) :
  Calls Tryz.prog 46 #[.agg #[.int .u8 0,.func (.func g') #[] cs',.int .i64 (l : Int),.bool false],.agg #[.slice a n c,.slice a2 n2 c2],.slice a3 m c3] w (LeadP w (fun j => ∃ i ∈ F,Reach (atP fo V it) (decide (l = 0)) false i j)):=by
 have hst:=LeadW.start w 0 (l : Int) (.func (.func g') #[] cs') (.slice a n c) (.slice a2 n2 c2) false
 have hml:=hF.1
 have hVn:=hr.1
 have hm:=rising_le hFr hFn
 obtain ⟨hK,g1,cs1,hshape,hent,hcall⟩:=hf
 obtain ⟨rfl,rfl⟩ : g1 = g' ∧ cs1 = cs':=by
  simp only [Value.func.injEq,Fn.func.injEq] at hshape
  exact ⟨hshape.1.symm,hshape.2.2.symm⟩
 have hput : ∀ (W : World) (L : List Nat) (i : Nat),LeadW w 0 (.func (.func g1) #[] cs1) (l : Int) false (.slice a n c) (.slice a2 n2 c2) L W → (L.length ≤ 67108864) → i ≤ 67108864 → (∀ x ∈ L,x ≤ 67108864) → Calls Tryz.prog 68 #[.int .i64 (i : Int),.pointer (some ⟨w.heap.size + 2,0,none⟩)] W fun e w' => e = .returned (.tuple #[]) ∧ ToSt (w.heap.size + 2) (putL L i) w' ∧ Below (w.heap.size + 2) W w':=fun W L i h h1 h2 h3 => putC W _ L i h.lst h1 h2 h3
 have hcs : ∀ (W : World) (L : List Nat),LeadW w 0 (.func (.func g1) #[] cs1) (l : Int) false (.slice a n c) (.slice a2 n2 c2) L W → ∀ (b off x v : Nat),a = some ⟨b,off,none⟩ → V[x]? = some v → W.cell? ⟨w.heap.size,1,none⟩ = some (.func (.func g1) #[] cs1) ∧ W.cell? ⟨w.heap.size + 1,0,none⟩ = some (.slice (some ⟨b,off,none⟩) n c) ∧ W.cell? ⟨b,off + x * 2,none⟩ = some (.int .i32 (tokR v : Int)) ∧ W.cell? ⟨b,off + x * 2 + 1,none⟩ = some (.int .i64 (tokW v : Int)):=by
  intro W L h b off x v ha hv
  subst ha
  obtain ⟨_,r0,r1⟩:=read_off (hr.keep h.below (Nat.le_refl _)) hv
  exact ⟨h.part.cell 1,h.text.cell 0,r0,r1⟩
 have his : ∀ (W : World) (L : List Nat),LeadW w 0 (.func (.func g1) #[] cs1) (l : Int) false (.slice a n c) (.slice a2 n2 c2) L W → ∀ v,OkC v → Calls Tryz.prog g1 (#[tokV v] ++ cs1) W fun e w' => e = .returned (.bool (atomIs fo it v)) ∧ Below W.heap.size W w':=fun W L h v hv => hcall W (fun k hk => h.below.block k (hK k hk)) h.below.size v hv
 have HPUT0:=Lib.hid hput
 have HCS0:=Lib.hid hcs
 have HIS0:=Lib.hid his
 have HV:=Lib.hid hV
 have HVN:=Lib.hid hVn
 have HST:=Lib.hid hst
 have HF:=Lib.hid hF
 have HFR:=Lib.hid hFr
 have HFN:=Lib.hid hFn
 have HA : Hid (0 < n → ∃ b off,a = some ⟨b,off,none⟩):=Lib.hid (fun h => by obtain ⟨b,off,ha,_⟩:=hr.2 h; exact ⟨b,off,ha⟩)
 obtain ⟨z,hz⟩ : ∃ z,decide (l = 0) = z:=⟨_,rfl⟩
 have hzl : ((l : Int) == 0) = z:=by rw [← hz,Bool.eq_iff_iff,beq_iff_eq,decide_eq_true_iff]; omega
 rw [hz]
 obtain ⟨li,hli⟩ : ∃ li : Int,(l : Int) = li:=⟨_,rfl⟩
 rw [hli] at hzl HST HPUT0 HCS0 HIS0 ⊢
 obtain ⟨g',rfl⟩ : ∃ g,g = g1:=⟨_,rfl⟩
 obtain ⟨cs',rfl⟩ : ∃ g,g = cs1:=⟨_,rfl⟩
 clear hput hcs his hst hF hFr hFn hr hV hcall hK hshape hz hli hVn
 go_enter Tryz.func46, Tryz.ntmps46
 go_wp2_with fail
 go_loopw [16] (fun uk wr => ∃ (k : Nat) (L : List Nat),uk = .int .i64 (k : Int) ∧ k ≤ m ∧ Hid (LeadW w 0 (.func (.func g') #[] cs') li false (.slice a n c) (.slice a2 n2 c2) L wr ∧ InvL (atP fo V it) z false (F.take k) L 0)) (fun uk _ => m - (RowKit.intOf uk).toNat)
 case atStart => exact ⟨0,[],rfl,Nat.zero_le _,Lib.hid ⟨HST.out,InvL.nil _ _ _⟩⟩
 case round =>
  obtain ⟨k,L,rfl,hk,HR⟩:=hrel
  obtain ⟨e0,e1,e2,e3,e4,e5⟩:=HR.out.1.cells
  by_cases hlt : k < m
  ·obtain ⟨x,hx⟩ : ∃ x,F[k]? = some x:=⟨_,List.getElem?_eq_getElem (by omega)⟩
   obtain ⟨g3,rfl,hg3,hc3⟩:=HF.out.2 (by omega)
   have k0 : wr.cell? ⟨g3,k,none⟩ = some (.int .i64 (x : Int)):=by
    rw [World.cell?_of_block (a:=⟨g3,k,none⟩) (HR.out.1.below.block g3 hg3)]
    exact hc3 k x hx
   have hxn:=HFN.out x (List.mem_of_getElem? hx)
   have hlk : (k : Int) < (m : Int):=by omega
   have hLn : ∀ y ∈ L,y ≤ n:=fun y hy => by
    obtain ⟨i,hi,hri⟩:=(HR.out.2.mem y).1 hy
    have h1:=HFN.out i (List.mem_of_mem_take hi)
    have h2:=HVN.out
    have:=reach_le hri (by omega)
    omega
   have hlen:=rising_le HR.out.2.rise hLn
   have hrt:=rising_take HFR.out hx
   have hp0:=put_zero HR.out.2 hrt
   have hm1:=putL_mem HR.out.2.rise hp0
   have hx1 : ∀ L1,L1 = (if z = true then putL L x else L) → Rising L1 ∧ (∀ y ∈ L1,y ≤ n):=by
    rintro L1 rfl
    by_cases hzt : z = true
    ·rw [if_pos hzt]
     exact ⟨hm1.1,fun y hy => by rcases (hm1.2 y).1 hy with h | h; exact hLn y h; omega⟩
    ·rw [if_neg hzt]
     exact ⟨HR.out.2.rise,hLn⟩
   have HX:=Lib.hid hx
   have HX1:=Lib.hid hx1
   have HRT:=Lib.hid hrt
   have HPUT : Hid (∀ W,LeadW w 0 (.func (.func g') #[] cs') li false (.slice a n c) (.slice a2 n2 c2) L W → Calls Tryz.prog 68 #[.int .i64 (x : Int),.pointer (some ⟨w.heap.size + 2,0,none⟩)] W fun e w' => e = .returned (.tuple #[]) ∧ ToSt (w.heap.size + 2) (putL L x) w' ∧ Below (w.heap.size + 2) W w'):=Lib.hid (fun W h => HPUT0.out W L x h (by omega) (by omega) (fun y hy => by have:=hLn y hy; omega))
   have HPUT2 : Hid (∀ W,LeadW w 0 (.func (.func g') #[] cs') li false (.slice a n c) (.slice a2 n2 c2) (if z = true then putL L x else L) W → Calls Tryz.prog 68 #[.int .i64 ((x : Int) + 1),.pointer (some ⟨w.heap.size + 2,0,none⟩)] W fun e w' => e = .returned (.tuple #[]) ∧ ToSt (w.heap.size + 2) (putL (if z = true then putL L x else L) (x + 1)) w' ∧ Below (w.heap.size + 2) W w'):=Lib.hid (fun W h => by
    obtain ⟨h1,h2⟩:=HX1.out _ rfl
    have h3:=rising_le h1 h2
    have:=HPUT0.out W _ (x + 1) h (by omega) (by omega) (fun y hy => by have:=h2 y hy; omega)
    rwa [show ((x + 1 : Nat) : Int) = (x : Int) + 1 by omega] at this)
   clear hx hc3 hrt hLn hp0 hm1 hx1
   cases z with
   | true =>
    by_cases hxlt : x < n
    ·obtain ⟨b,off,rfl⟩:=HA.out (by omega)
     obtain ⟨v,hv⟩ : ∃ v,V[x]? = some v:=⟨_,List.getElem?_eq_getElem (by have:=HVN.out; omega)⟩
     have hok : OkC v:=by
      have:=HV.out v (List.mem_of_getElem? hv)
      unfold OkC
      omega
     obtain ⟨r0,hr0⟩ : ∃ r : Int,((tokR v : Nat) : Int) = r:=⟨_,rfl⟩
     obtain ⟨r1,hr1⟩ : ∃ r : Int,((tokW v : Nat) : Int) = r:=⟨_,rfl⟩
     have htv : tokV v = .agg #[.int .i32 r0,.int .i64 r1]:=by rw [← hr0,← hr1]; rfl
     obtain ⟨B,hB⟩ : ∃ B,atomIs fo it v = B:=⟨_,rfl⟩
     have hat : atP fo V it x = B:=by unfold atP; rw [hv]; exact hB
     have HVX:=Lib.hid hv
     have HOK:=Lib.hid hok
     have HR0:=Lib.hid hr0
     have HR1:=Lib.hid hr1
     have HTV:=Lib.hid htv
     have HB:=Lib.hid hB
     have HAT:=Lib.hid hat
     have hxi : (x : Int) < (n : Int):=by omega
     clear hv hok hr0 hr1 htv hB hat
     cases B with
     | true =>
      go_wp2_with (go_at_call 68; refine (HPUT.out _ HR.out.1).mono ?_; rintro e w7 ⟨rfl,ht7,hb7⟩; have lw7:=HR.out.1.put ht7 hb7; obtain ⟨i0,i1,i2,i3,i4,i5⟩:=lw7.cells; have LW7:=Lib.hid lw7; clear ht7 hb7 lw7)
      have HCS:=Lib.hid (fun W' (h : Below w7.heap.size w7 W') => by have:=HCS0.out W' _ (LW7.out.keep h) b off x v rfl HVX.out; rw [HR0.out,HR1.out] at this; exact this)
      have HIS:=Lib.hid (fun W' (h : Below w7.heap.size w7 W') => by have:=HIS0.out W' _ (LW7.out.keep h) v HOK.out; rw [HTV.out,HB.out] at this; exact this)
      have hq0 : Below w7.heap.size w7 w7.drew:=Quiet.below ⟨1,rfl⟩ _
      have hs0:=HCS.out _ hq0
      refine wp_region_held_drew (S:=(fun w' : World => w'.cell? ⟨w.heap.size,1,none⟩ = some (.func (.func g') #[] cs') ∧ w'.cell? ⟨w.heap.size + 1,0,none⟩ = some (.slice (some ⟨b,off,none⟩) n c) ∧ w'.cell? ⟨b,off + x * 2,none⟩ = some (.int .i32 r0) ∧ w'.cell? ⟨b,off + x * 2 + 1,none⟩ = some (.int .i64 r1))) (by kernel_rfl) hs0 (fun hS0 => ?_)
      refine tF 0 ⟨some 40,.move (.tmp 11), 3,_,#[],none⟩ rfl hS0 ?_
      refine tF 1 ⟨some 41,.fieldAddr 75 (.tmp 4) 0,0,_,#[],none⟩ rfl hS0 ?_
      refine tF 2 ⟨some 42,.load 72 (.tmp 41), 72,_,#[⟨1,.data⟩],none⟩ rfl hS0 ?_
      try simp only [Act.put,pB,pC,pD]
      refine tF 3 ⟨some 43,.call { callee:=Callee.builtin Builtin.len,args:=#[.tmp 42],argTypes:=#[72] }, 3,_,#[⟨2,.data⟩],none⟩ rfl hS0 ?_
      refine tF 4 ⟨some 44,.binOp BinOp.lss 3 (.tmp 40) (.tmp 43) 3, 4,_,#[⟨0,.data⟩,⟨3,.data⟩],none⟩ rfl hS0 ?_
      refine tF 5 ⟨some 45,.move (.tmp 44), 4,_,#[⟨4,.data⟩],none⟩ rfl hS0 ?_
      try simp only [Act.put,pB,pC,pD]
      refine tF 6 ⟨some 46,.fieldAddr 120 (.tmp 3) 1,0,_,#[⟨5,.guard⟩],some (5,true)⟩ rfl hS0 ?_
      refine tF 7 ⟨some 47,.load 118 (.tmp 46), 118,_,#[⟨6,.data⟩,⟨5,.guard⟩],some (5,true)⟩ rfl hS0 ?_
      refine tF 8 ⟨some 48,.fieldAddr 75 (.tmp 4) 0,0,_,#[⟨5,.guard⟩],some (5,true)⟩ rfl hS0 ?_
      try simp only [Act.put,pB,pC,pD]
      refine tF 9 ⟨some 49,.load 72 (.tmp 48), 72,_,#[⟨8,.data⟩,⟨5,.guard⟩],some (5,true)⟩ rfl hS0 ?_
      refine tF 10 ⟨some 50,.move (.tmp 11), 3,_,#[⟨5,.guard⟩],some (5,true)⟩ rfl hS0 ?_
      refine tF 11 ⟨some 51,.indexAddr 72 (.tmp 49) (.tmp 50),0,_,#[⟨9,.data⟩,⟨10,.data⟩,⟨5,.guard⟩],some (5,true)⟩ rfl hS0 ?_
      try simp only [Act.put,pB,pC,pD]
      refine tF 12 ⟨some 52,.load 91 (.tmp 51), 91,_,#[⟨11,.data⟩,⟨5,.guard⟩],some (5,true)⟩ rfl hS0 ?_
      try simp only [Act.put,pB,pC,pD]
      refine wpAnyH_ready (rs:=[13]) (by kernel_rfl) (by simp) (AllReadyH.cons rfl (fun K' hK => ?_) AllReadyH.nil)
      go_simp
      refine (HIS.out _ hq0).mono ?_
      rintro e w9 ⟨rfl,hb9⟩
      show K' _ _
      refine hK.out _ _ (HCS.out _ (below_next hq0 (Nat.le_refl _) hb9)) (fun hSn => ?_)
      try simp only [Act.put,pB,pC,pD]
      clear hK K'
      have hq9:=below_next hq0 (Nat.le_refl _) hb9
      clear hb9
      refine tC 14 ⟨some 54,.pick (.tmp 45) (.tmp 53) (Operand.const (Value.bool false)), 4,_,#[⟨5,.data⟩,⟨13,.data⟩],none⟩ ?v14 rfl ?y14 (HCS.out _ hq9) ?r14; (case y14 => rintro w2 ⟨s1,s2,s3,s4⟩; go_simp; try with_reducible rfl)
      try simp only [Act.put,pB,pC,pD]
      refine wpAnyH_done (by kernel_rfl) ?_ _
      have LW9:=Lib.hid (LW7.out.keep hq9)
      clear hq9 hq0 hs0
      go_wp2_with (go_at_call 68; refine (HPUT2.out _ LW9.out).mono ?_; rintro e w8 ⟨rfl,ht8,hb8⟩; have LW8:=Lib.hid (LW9.out.put ht8 hb8); clear ht8 hb8)
      go_roundw
      case rel => exact ⟨k + 1,(putL (putL L x) (x + 1)),by go_num,by omega,Lib.hid ⟨LW8.out,by rw [take_snoc HX.out]; exact step_few HR.out.2 HRT.out (L1:=(putL L x)) rfl (by rw [HAT.out]; rfl)⟩⟩
      case measure => simp [RowKit.intOf]; omega
     | false =>
      go_wp2_with (go_at_call 68; refine (HPUT.out _ HR.out.1).mono ?_; rintro e w7 ⟨rfl,ht7,hb7⟩; have lw7:=HR.out.1.put ht7 hb7; obtain ⟨i0,i1,i2,i3,i4,i5⟩:=lw7.cells; have LW7:=Lib.hid lw7; clear ht7 hb7 lw7)
      have HCS:=Lib.hid (fun W' (h : Below w7.heap.size w7 W') => by have:=HCS0.out W' _ (LW7.out.keep h) b off x v rfl HVX.out; rw [HR0.out,HR1.out] at this; exact this)
      have HIS:=Lib.hid (fun W' (h : Below w7.heap.size w7 W') => by have:=HIS0.out W' _ (LW7.out.keep h) v HOK.out; rw [HTV.out,HB.out] at this; exact this)
      have hq0 : Below w7.heap.size w7 w7.drew:=Quiet.below ⟨1,rfl⟩ _
      have hs0:=HCS.out _ hq0
      refine wp_region_held_drew (S:=(fun w' : World => w'.cell? ⟨w.heap.size,1,none⟩ = some (.func (.func g') #[] cs') ∧ w'.cell? ⟨w.heap.size + 1,0,none⟩ = some (.slice (some ⟨b,off,none⟩) n c) ∧ w'.cell? ⟨b,off + x * 2,none⟩ = some (.int .i32 r0) ∧ w'.cell? ⟨b,off + x * 2 + 1,none⟩ = some (.int .i64 r1))) (by kernel_rfl) hs0 (fun hS0 => ?_)
      refine tF 0 ⟨some 40,.move (.tmp 11), 3,_,#[],none⟩ rfl hS0 ?_
      refine tF 1 ⟨some 41,.fieldAddr 75 (.tmp 4) 0,0,_,#[],none⟩ rfl hS0 ?_
      refine tF 2 ⟨some 42,.load 72 (.tmp 41), 72,_,#[⟨1,.data⟩],none⟩ rfl hS0 ?_
      try simp only [Act.put,pB,pC,pD]
      refine tF 3 ⟨some 43,.call { callee:=Callee.builtin Builtin.len,args:=#[.tmp 42],argTypes:=#[72] }, 3,_,#[⟨2,.data⟩],none⟩ rfl hS0 ?_
      refine tF 4 ⟨some 44,.binOp BinOp.lss 3 (.tmp 40) (.tmp 43) 3, 4,_,#[⟨0,.data⟩,⟨3,.data⟩],none⟩ rfl hS0 ?_
      refine tF 5 ⟨some 45,.move (.tmp 44), 4,_,#[⟨4,.data⟩],none⟩ rfl hS0 ?_
      try simp only [Act.put,pB,pC,pD]
      refine tF 6 ⟨some 46,.fieldAddr 120 (.tmp 3) 1,0,_,#[⟨5,.guard⟩],some (5,true)⟩ rfl hS0 ?_
      refine tF 7 ⟨some 47,.load 118 (.tmp 46), 118,_,#[⟨6,.data⟩,⟨5,.guard⟩],some (5,true)⟩ rfl hS0 ?_
      refine tF 8 ⟨some 48,.fieldAddr 75 (.tmp 4) 0,0,_,#[⟨5,.guard⟩],some (5,true)⟩ rfl hS0 ?_
      try simp only [Act.put,pB,pC,pD]
      refine tF 9 ⟨some 49,.load 72 (.tmp 48), 72,_,#[⟨8,.data⟩,⟨5,.guard⟩],some (5,true)⟩ rfl hS0 ?_
      refine tF 10 ⟨some 50,.move (.tmp 11), 3,_,#[⟨5,.guard⟩],some (5,true)⟩ rfl hS0 ?_
      refine tF 11 ⟨some 51,.indexAddr 72 (.tmp 49) (.tmp 50),0,_,#[⟨9,.data⟩,⟨10,.data⟩,⟨5,.guard⟩],some (5,true)⟩ rfl hS0 ?_
      try simp only [Act.put,pB,pC,pD]
      refine tF 12 ⟨some 52,.load 91 (.tmp 51), 91,_,#[⟨11,.data⟩,⟨5,.guard⟩],some (5,true)⟩ rfl hS0 ?_
      try simp only [Act.put,pB,pC,pD]
      refine wpAnyH_ready (rs:=[13]) (by kernel_rfl) (by simp) (AllReadyH.cons rfl (fun K' hK => ?_) AllReadyH.nil)
      go_simp
      refine (HIS.out _ hq0).mono ?_
      rintro e w9 ⟨rfl,hb9⟩
      show K' _ _
      refine hK.out _ _ (HCS.out _ (below_next hq0 (Nat.le_refl _) hb9)) (fun hSn => ?_)
      try simp only [Act.put,pB,pC,pD]
      clear hK K'
      have hq9:=below_next hq0 (Nat.le_refl _) hb9
      clear hb9
      refine tC 14 ⟨some 54,.pick (.tmp 45) (.tmp 53) (Operand.const (Value.bool false)), 4,_,#[⟨5,.data⟩,⟨13,.data⟩],none⟩ ?v28 rfl ?y28 (HCS.out _ hq9) ?r28; (case y28 => rintro w2 ⟨s1,s2,s3,s4⟩; go_simp; try with_reducible rfl)
      try simp only [Act.put,pB,pC,pD]
      refine wpAnyH_done (by kernel_rfl) ?_ _
      have LW9:=Lib.hid (LW7.out.keep hq9)
      clear hq9 hq0 hs0
      go_wp2_with fail
      go_roundw
      case rel => exact ⟨k + 1,(putL L x),by go_num,by omega,Lib.hid ⟨LW9.out,by rw [take_snoc HX.out]; exact step_few HR.out.2 HRT.out (L1:=(putL L x)) rfl (by rw [HAT.out]; rfl)⟩⟩
      case measure => simp [RowKit.intOf]; omega
    ·have hxi : ¬ (x : Int) < (n : Int):=by omega
     have hxi2 : (n : Int) ≤ (x : Int):=by omega
     have hxi3 : decide ((x : Int) < (n : Int)) = false:=decide_eq_false hxi
     have hxi4 : decide (x < n) = false:=decide_eq_false hxlt
     have hxi5 : n ≤ x:=by omega
     have hat : atP fo V it x = false:=by unfold atP; rw [List.getElem?_eq_none (by have:=HVN.out; omega)]
     have HAT:=Lib.hid hat
     clear hat
     go_wp2_with (go_at_call 68; refine (HPUT.out _ HR.out.1).mono ?_; rintro e w7 ⟨rfl,ht7,hb7⟩; have lw7:=HR.out.1.put ht7 hb7; obtain ⟨i0,i1,i2,i3,i4,i5⟩:=lw7.cells; have LW7:=Lib.hid lw7; clear ht7 hb7 lw7)
     have HCS:=Lib.hid (fun W' (h : Below w7.heap.size w7 W') => (LW7.out.keep h).text.cell 0)
     have hq0 : Below w7.heap.size w7 w7.drew:=Quiet.below ⟨1,rfl⟩ _
     have hs0:=HCS.out _ hq0
     refine wp_region_held_drew (S:=(fun w' : World => w'.cell? ⟨w.heap.size + 1,0,none⟩ = some (.slice a n c))) (by kernel_rfl) hs0 (fun hS0 => ?_)
     refine tE 0 ⟨some 40,.move (.tmp 11), 3,_,#[],none⟩ rfl hS0 ?_
     refine tE 1 ⟨some 41,.fieldAddr 75 (.tmp 4) 0,0,_,#[],none⟩ rfl hS0 ?_
     refine tE 2 ⟨some 42,.load 72 (.tmp 41), 72,_,#[⟨1,.data⟩],none⟩ rfl hS0 ?_
     try simp only [Act.put,pB,pC,pD]
     refine tE 3 ⟨some 43,.call { callee:=Callee.builtin Builtin.len,args:=#[.tmp 42],argTypes:=#[72] }, 3,_,#[⟨2,.data⟩],none⟩ rfl hS0 ?_
     refine tE 4 ⟨some 44,.binOp BinOp.lss 3 (.tmp 40) (.tmp 43) 3, 4,_,#[⟨0,.data⟩,⟨3,.data⟩],none⟩ rfl hS0 ?_
     refine tE 5 ⟨some 45,.move (.tmp 44), 4,_,#[⟨4,.data⟩],none⟩ rfl hS0 ?_
     try simp only [Act.put,pB,pC,pD]
     refine tD 6 ⟨some 46,.fieldAddr 120 (.tmp 3) 1,0,_,#[⟨5,.guard⟩],some (5,true)⟩ rfl hS0 ?_
     refine tD 7 ⟨some 47,.load 118 (.tmp 46), 118,_,#[⟨6,.data⟩,⟨5,.guard⟩],some (5,true)⟩ rfl hS0 ?_
     refine tD 8 ⟨some 48,.fieldAddr 75 (.tmp 4) 0,0,_,#[⟨5,.guard⟩],some (5,true)⟩ rfl hS0 ?_
     try simp only [Act.put,pB,pC,pD]
     refine tD 9 ⟨some 49,.load 72 (.tmp 48), 72,_,#[⟨8,.data⟩,⟨5,.guard⟩],some (5,true)⟩ rfl hS0 ?_
     refine tD 10 ⟨some 50,.move (.tmp 11), 3,_,#[⟨5,.guard⟩],some (5,true)⟩ rfl hS0 ?_
     refine tD 11 ⟨some 51,.indexAddr 72 (.tmp 49) (.tmp 50),0,_,#[⟨9,.data⟩,⟨10,.data⟩,⟨5,.guard⟩],some (5,true)⟩ rfl hS0 ?_
     try simp only [Act.put,pB,pC,pD]
     refine tD 12 ⟨some 52,.load 91 (.tmp 51), 91,_,#[⟨11,.data⟩,⟨5,.guard⟩],some (5,true)⟩ rfl hS0 ?_
     refine tD 13 ⟨some 53,.call { callee:=Callee.value (.tmp 47),args:=#[.tmp 52],argTypes:=#[91] }, 4,_,#[⟨7,.data⟩,⟨12,.data⟩,⟨5,.chain⟩,⟨5,.guard⟩],some (5,true)⟩ rfl hS0 ?_
     refine tE 14 ⟨some 54,.pick (.tmp 45) (.tmp 53) (Operand.const (Value.bool false)), 4,_,#[⟨5,.data⟩,⟨13,.data⟩],none⟩ rfl hS0 ?_
     try simp only [Act.put,pB,pC,pD]
     have hq9:=hq0
     refine wpAnyH_done (by kernel_rfl) ?_ _
     have LW9:=Lib.hid (LW7.out.keep hq9)
     clear hq9 hq0 hs0
     go_wp2_with fail
     go_roundw
     case rel => exact ⟨k + 1,(putL L x),by go_num,by omega,Lib.hid ⟨LW9.out,by rw [take_snoc HX.out]; exact step_few HR.out.2 HRT.out (L1:=(putL L x)) rfl (by rw [HAT.out]; rfl)⟩⟩
     case measure => simp [RowKit.intOf]; omega
   | false =>
    by_cases hxlt : x < n
    ·obtain ⟨b,off,rfl⟩:=HA.out (by omega)
     obtain ⟨v,hv⟩ : ∃ v,V[x]? = some v:=⟨_,List.getElem?_eq_getElem (by have:=HVN.out; omega)⟩
     have hok : OkC v:=by
      have:=HV.out v (List.mem_of_getElem? hv)
      unfold OkC
      omega
     obtain ⟨r0,hr0⟩ : ∃ r : Int,((tokR v : Nat) : Int) = r:=⟨_,rfl⟩
     obtain ⟨r1,hr1⟩ : ∃ r : Int,((tokW v : Nat) : Int) = r:=⟨_,rfl⟩
     have htv : tokV v = .agg #[.int .i32 r0,.int .i64 r1]:=by rw [← hr0,← hr1]; rfl
     obtain ⟨B,hB⟩ : ∃ B,atomIs fo it v = B:=⟨_,rfl⟩
     have hat : atP fo V it x = B:=by unfold atP; rw [hv]; exact hB
     have HVX:=Lib.hid hv
     have HOK:=Lib.hid hok
     have HR0:=Lib.hid hr0
     have HR1:=Lib.hid hr1
     have HTV:=Lib.hid htv
     have HB:=Lib.hid hB
     have HAT:=Lib.hid hat
     have hxi : (x : Int) < (n : Int):=by omega
     clear hv hok hr0 hr1 htv hB hat
     cases B with
     | true =>
      go_wp2_with fail
      have HCS:=Lib.hid (fun W' (h : Below wr.heap.size wr W') => by have:=HCS0.out W' _ (HR.out.1.keep h) b off x v rfl HVX.out; rw [HR0.out,HR1.out] at this; exact this)
      have HIS:=Lib.hid (fun W' (h : Below wr.heap.size wr W') => by have:=HIS0.out W' _ (HR.out.1.keep h) v HOK.out; rw [HTV.out,HB.out] at this; exact this)
      have hq0 : Below wr.heap.size wr wr.drew:=Quiet.below ⟨1,rfl⟩ _
      have hs0:=HCS.out _ hq0
      refine wp_region_held_drew (S:=(fun w' : World => w'.cell? ⟨w.heap.size,1,none⟩ = some (.func (.func g') #[] cs') ∧ w'.cell? ⟨w.heap.size + 1,0,none⟩ = some (.slice (some ⟨b,off,none⟩) n c) ∧ w'.cell? ⟨b,off + x * 2,none⟩ = some (.int .i32 r0) ∧ w'.cell? ⟨b,off + x * 2 + 1,none⟩ = some (.int .i64 r1))) (by kernel_rfl) hs0 (fun hS0 => ?_)
      refine tF 0 ⟨some 40,.move (.tmp 11), 3,_,#[],none⟩ rfl hS0 ?_
      try simp only [Act.put,pB,pC,pD]
      refine tF 1 ⟨some 41,.fieldAddr 75 (.tmp 4) 0,0,_,#[],none⟩ rfl hS0 ?_
      refine tF 2 ⟨some 42,.load 72 (.tmp 41), 72,_,#[⟨1,.data⟩],none⟩ rfl hS0 ?_
      refine tF 3 ⟨some 43,.call { callee:=Callee.builtin Builtin.len,args:=#[.tmp 42],argTypes:=#[72] }, 3,_,#[⟨2,.data⟩],none⟩ rfl hS0 ?_
      try simp only [Act.put,pB,pC,pD]
      refine tF 4 ⟨some 44,.binOp BinOp.lss 3 (.tmp 40) (.tmp 43) 3, 4,_,#[⟨0,.data⟩,⟨3,.data⟩],none⟩ rfl hS0 ?_
      refine tF 5 ⟨some 45,.move (.tmp 44), 4,_,#[⟨4,.data⟩],none⟩ rfl hS0 ?_
      refine tF 6 ⟨some 46,.fieldAddr 120 (.tmp 3) 1,0,_,#[⟨5,.guard⟩],some (5,true)⟩ rfl hS0 ?_
      try simp only [Act.put,pB,pC,pD]
      refine tF 7 ⟨some 47,.load 118 (.tmp 46), 118,_,#[⟨6,.data⟩,⟨5,.guard⟩],some (5,true)⟩ rfl hS0 ?_
      refine tF 8 ⟨some 48,.fieldAddr 75 (.tmp 4) 0,0,_,#[⟨5,.guard⟩],some (5,true)⟩ rfl hS0 ?_
      refine tF 9 ⟨some 49,.load 72 (.tmp 48), 72,_,#[⟨8,.data⟩,⟨5,.guard⟩],some (5,true)⟩ rfl hS0 ?_
      try simp only [Act.put,pB,pC,pD]
      refine tF 10 ⟨some 50,.move (.tmp 11), 3,_,#[⟨5,.guard⟩],some (5,true)⟩ rfl hS0 ?_
      refine tF 11 ⟨some 51,.indexAddr 72 (.tmp 49) (.tmp 50),0,_,#[⟨9,.data⟩,⟨10,.data⟩,⟨5,.guard⟩],some (5,true)⟩ rfl hS0 ?_
      refine tF 12 ⟨some 52,.load 91 (.tmp 51), 91,_,#[⟨11,.data⟩,⟨5,.guard⟩],some (5,true)⟩ rfl hS0 ?_
      try simp only [Act.put,pB,pC,pD]
      refine wpAnyH_ready (rs:=[13]) (by kernel_rfl) (by simp) (AllReadyH.cons rfl (fun K' hK => ?_) AllReadyH.nil)
      go_simp
      refine (HIS.out _ hq0).mono ?_
      rintro e w9 ⟨rfl,hb9⟩
      show K' _ _
      refine hK.out _ _ (HCS.out _ (below_next hq0 (Nat.le_refl _) hb9)) (fun hSn => ?_)
      try simp only [Act.put,pB,pC,pD]
      clear hK K'
      have hq9:=below_next hq0 (Nat.le_refl _) hb9
      clear hb9
      refine tC 14 ⟨some 54,.pick (.tmp 45) (.tmp 53) (Operand.const (Value.bool false)), 4,_,#[⟨5,.data⟩,⟨13,.data⟩],none⟩ ?v57 rfl ?y57 (HCS.out _ hq9) ?r57; (case y57 => rintro w2 ⟨s1,s2,s3,s4⟩; go_simp; try with_reducible rfl)
      try simp only [Act.put,pB,pC,pD]
      refine wpAnyH_done (by kernel_rfl) ?_ _
      have LW9:=Lib.hid (HR.out.1.keep hq9)
      clear hq9 hq0 hs0
      go_wp2_with (go_at_call 68; refine (HPUT2.out _ LW9.out).mono ?_; rintro e w8 ⟨rfl,ht8,hb8⟩; have LW8:=Lib.hid (LW9.out.put ht8 hb8); clear ht8 hb8)
      go_roundw
      case rel => exact ⟨k + 1,(putL L (x + 1)),by go_num,by omega,Lib.hid ⟨LW8.out,by rw [take_snoc HX.out]; exact step_few HR.out.2 HRT.out (L1:=L) rfl (by rw [HAT.out]; rfl)⟩⟩
      case measure => simp [RowKit.intOf]; omega
     | false =>
      go_wp2_with fail
      have HCS:=Lib.hid (fun W' (h : Below wr.heap.size wr W') => by have:=HCS0.out W' _ (HR.out.1.keep h) b off x v rfl HVX.out; rw [HR0.out,HR1.out] at this; exact this)
      have HIS:=Lib.hid (fun W' (h : Below wr.heap.size wr W') => by have:=HIS0.out W' _ (HR.out.1.keep h) v HOK.out; rw [HTV.out,HB.out] at this; exact this)
      have hq0 : Below wr.heap.size wr wr.drew:=Quiet.below ⟨1,rfl⟩ _
      have hs0:=HCS.out _ hq0
      refine wp_region_held_drew (S:=(fun w' : World => w'.cell? ⟨w.heap.size,1,none⟩ = some (.func (.func g') #[] cs') ∧ w'.cell? ⟨w.heap.size + 1,0,none⟩ = some (.slice (some ⟨b,off,none⟩) n c) ∧ w'.cell? ⟨b,off + x * 2,none⟩ = some (.int .i32 r0) ∧ w'.cell? ⟨b,off + x * 2 + 1,none⟩ = some (.int .i64 r1))) (by kernel_rfl) hs0 (fun hS0 => ?_)
      refine tF 0 ⟨some 40,.move (.tmp 11), 3,_,#[],none⟩ rfl hS0 ?_
      try simp only [Act.put,pB,pC,pD]
      refine tF 1 ⟨some 41,.fieldAddr 75 (.tmp 4) 0,0,_,#[],none⟩ rfl hS0 ?_
      refine tF 2 ⟨some 42,.load 72 (.tmp 41), 72,_,#[⟨1,.data⟩],none⟩ rfl hS0 ?_
      refine tF 3 ⟨some 43,.call { callee:=Callee.builtin Builtin.len,args:=#[.tmp 42],argTypes:=#[72] }, 3,_,#[⟨2,.data⟩],none⟩ rfl hS0 ?_
      try simp only [Act.put,pB,pC,pD]
      refine tF 4 ⟨some 44,.binOp BinOp.lss 3 (.tmp 40) (.tmp 43) 3, 4,_,#[⟨0,.data⟩,⟨3,.data⟩],none⟩ rfl hS0 ?_
      refine tF 5 ⟨some 45,.move (.tmp 44), 4,_,#[⟨4,.data⟩],none⟩ rfl hS0 ?_
      refine tF 6 ⟨some 46,.fieldAddr 120 (.tmp 3) 1,0,_,#[⟨5,.guard⟩],some (5,true)⟩ rfl hS0 ?_
      try simp only [Act.put,pB,pC,pD]
      refine tF 7 ⟨some 47,.load 118 (.tmp 46), 118,_,#[⟨6,.data⟩,⟨5,.guard⟩],some (5,true)⟩ rfl hS0 ?_
      refine tF 8 ⟨some 48,.fieldAddr 75 (.tmp 4) 0,0,_,#[⟨5,.guard⟩],some (5,true)⟩ rfl hS0 ?_
      refine tF 9 ⟨some 49,.load 72 (.tmp 48), 72,_,#[⟨8,.data⟩,⟨5,.guard⟩],some (5,true)⟩ rfl hS0 ?_
      try simp only [Act.put,pB,pC,pD]
      refine tF 10 ⟨some 50,.move (.tmp 11), 3,_,#[⟨5,.guard⟩],some (5,true)⟩ rfl hS0 ?_
      refine tF 11 ⟨some 51,.indexAddr 72 (.tmp 49) (.tmp 50),0,_,#[⟨9,.data⟩,⟨10,.data⟩,⟨5,.guard⟩],some (5,true)⟩ rfl hS0 ?_
      refine tF 12 ⟨some 52,.load 91 (.tmp 51), 91,_,#[⟨11,.data⟩,⟨5,.guard⟩],some (5,true)⟩ rfl hS0 ?_
      try simp only [Act.put,pB,pC,pD]
      refine wpAnyH_ready (rs:=[13]) (by kernel_rfl) (by simp) (AllReadyH.cons rfl (fun K' hK => ?_) AllReadyH.nil)
      go_simp
      refine (HIS.out _ hq0).mono ?_
      rintro e w9 ⟨rfl,hb9⟩
      show K' _ _
      refine hK.out _ _ (HCS.out _ (below_next hq0 (Nat.le_refl _) hb9)) (fun hSn => ?_)
      try simp only [Act.put,pB,pC,pD]
      clear hK K'
      have hq9:=below_next hq0 (Nat.le_refl _) hb9
      clear hb9
      refine tC 14 ⟨some 54,.pick (.tmp 45) (.tmp 53) (Operand.const (Value.bool false)), 4,_,#[⟨5,.data⟩,⟨13,.data⟩],none⟩ ?v71 rfl ?y71 (HCS.out _ hq9) ?r71; (case y71 => rintro w2 ⟨s1,s2,s3,s4⟩; go_simp; try with_reducible rfl)
      try simp only [Act.put,pB,pC,pD]
      refine wpAnyH_done (by kernel_rfl) ?_ _
      have LW9:=Lib.hid (HR.out.1.keep hq9)
      clear hq9 hq0 hs0
      go_wp2_with fail
      go_roundw
      case rel => exact ⟨k + 1,L,by go_num,by omega,Lib.hid ⟨LW9.out,by rw [take_snoc HX.out]; exact step_few HR.out.2 HRT.out (L1:=L) rfl (by rw [HAT.out]; rfl)⟩⟩
      case measure => simp [RowKit.intOf]; omega
    ·have hxi : ¬ (x : Int) < (n : Int):=by omega
     have hxi2 : (n : Int) ≤ (x : Int):=by omega
     have hxi3 : decide ((x : Int) < (n : Int)) = false:=decide_eq_false hxi
     have hxi4 : decide (x < n) = false:=decide_eq_false hxlt
     have hxi5 : n ≤ x:=by omega
     have hat : atP fo V it x = false:=by unfold atP; rw [List.getElem?_eq_none (by have:=HVN.out; omega)]
     have HAT:=Lib.hid hat
     clear hat
     go_wp2_with fail
     have HCS:=Lib.hid (fun W' (h : Below wr.heap.size wr W') => (HR.out.1.keep h).text.cell 0)
     have hq0 : Below wr.heap.size wr wr.drew:=Quiet.below ⟨1,rfl⟩ _
     have hs0:=HCS.out _ hq0
     refine wp_region_held_drew (S:=(fun w' : World => w'.cell? ⟨w.heap.size + 1,0,none⟩ = some (.slice a n c))) (by kernel_rfl) hs0 (fun hS0 => ?_)
     refine tE 0 ⟨some 40,.move (.tmp 11), 3,_,#[],none⟩ rfl hS0 ?_
     try simp only [Act.put,pB,pC,pD]
     refine tE 1 ⟨some 41,.fieldAddr 75 (.tmp 4) 0,0,_,#[],none⟩ rfl hS0 ?_
     refine tE 2 ⟨some 42,.load 72 (.tmp 41), 72,_,#[⟨1,.data⟩],none⟩ rfl hS0 ?_
     refine tE 3 ⟨some 43,.call { callee:=Callee.builtin Builtin.len,args:=#[.tmp 42],argTypes:=#[72] }, 3,_,#[⟨2,.data⟩],none⟩ rfl hS0 ?_
     try simp only [Act.put,pB,pC,pD]
     refine tE 4 ⟨some 44,.binOp BinOp.lss 3 (.tmp 40) (.tmp 43) 3, 4,_,#[⟨0,.data⟩,⟨3,.data⟩],none⟩ rfl hS0 ?_
     refine tE 5 ⟨some 45,.move (.tmp 44), 4,_,#[⟨4,.data⟩],none⟩ rfl hS0 ?_
     refine tD 6 ⟨some 46,.fieldAddr 120 (.tmp 3) 1,0,_,#[⟨5,.guard⟩],some (5,true)⟩ rfl hS0 ?_
     try simp only [Act.put,pB,pC,pD]
     refine tD 7 ⟨some 47,.load 118 (.tmp 46), 118,_,#[⟨6,.data⟩,⟨5,.guard⟩],some (5,true)⟩ rfl hS0 ?_
     refine tD 8 ⟨some 48,.fieldAddr 75 (.tmp 4) 0,0,_,#[⟨5,.guard⟩],some (5,true)⟩ rfl hS0 ?_
     refine tD 9 ⟨some 49,.load 72 (.tmp 48), 72,_,#[⟨8,.data⟩,⟨5,.guard⟩],some (5,true)⟩ rfl hS0 ?_
     try simp only [Act.put,pB,pC,pD]
     refine tD 10 ⟨some 50,.move (.tmp 11), 3,_,#[⟨5,.guard⟩],some (5,true)⟩ rfl hS0 ?_
     refine tD 11 ⟨some 51,.indexAddr 72 (.tmp 49) (.tmp 50),0,_,#[⟨9,.data⟩,⟨10,.data⟩,⟨5,.guard⟩],some (5,true)⟩ rfl hS0 ?_
     refine tD 12 ⟨some 52,.load 91 (.tmp 51), 91,_,#[⟨11,.data⟩,⟨5,.guard⟩],some (5,true)⟩ rfl hS0 ?_
     try simp only [Act.put,pB,pC,pD]
     refine tD 13 ⟨some 53,.call { callee:=Callee.value (.tmp 47),args:=#[.tmp 52],argTypes:=#[91] }, 4,_,#[⟨7,.data⟩,⟨12,.data⟩,⟨5,.chain⟩,⟨5,.guard⟩],some (5,true)⟩ rfl hS0 ?_
     refine tE 14 ⟨some 54,.pick (.tmp 45) (.tmp 53) (Operand.const (Value.bool false)), 4,_,#[⟨5,.data⟩,⟨13,.data⟩],none⟩ rfl hS0 ?_
     try simp only [Act.put,pB,pC,pD]
     have hq9:=hq0
     refine wpAnyH_done (by kernel_rfl) ?_ _
     have LW9:=Lib.hid (HR.out.1.keep hq9)
     clear hq9 hq0 hs0
     go_wp2_with fail
     go_roundw
     case rel => exact ⟨k + 1,L,by go_num,by omega,Lib.hid ⟨LW9.out,by rw [take_snoc HX.out]; exact step_few HR.out.2 HRT.out (L1:=L) rfl (by rw [HAT.out]; rfl)⟩⟩
     case measure => simp [RowKit.intOf]; omega
  ·obtain rfl : k = m:=by omega
   obtain ⟨v,hv,hown⟩:=to_lead (v:=.nilFunc) HR.out.1
   have HOWN:=Lib.hid hown
   have hnlk : ¬ (k : Int) < (k : Int):=by omega
   clear hown hlt hk
   go_wp2_with fail
   go_ret
   refine ⟨v,L,rfl,HOWN.out,HR.out.2.rise,fun j => ?_,HR.out.1.below⟩
   have:=HR.out.2.mem j
   rwa [List.take_of_length_le (by omega)] at this
end Go.Proofs.YtchdeboialbdiaaGreatDoor
