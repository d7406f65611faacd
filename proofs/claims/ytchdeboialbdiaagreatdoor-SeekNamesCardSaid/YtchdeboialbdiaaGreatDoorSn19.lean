/- Texts joined, one behind the other (SLeadM). -/
import Derived.Test.YtchdeboialbdiaaGreatDoorSqy
import Derived.Test.YtchdeboialbdiaaGreatDoorSn18
namespace Go.Proofs.YtchdeboialbdiaaGreatDoor
set_option linter.unusedVariables false
set_option linter.unusedSimpArgs false
set_option maxHeartbeats 8000000
set_option maxRecDepth 100000
open Go.RowKit
open Go.Lib hiding intOf
theorem lead_many (w : World) (a a2 a3 : Option Addr) (n c n2 c2 m c3 : Nat) (V F : List Nat) (fo : Bool) (it : Itm) (g' : FuncId) (cs' : Array Value) (l : Nat) (K : Nat → Prop) (hr : ReadsTok w a n V) (hV : OkV V) (hn : n ≤ 67108800) (hF : RI w a3 m F) (hFr : Rising F) (hFn : ∀ x ∈ F,x ≤ n) (hf : FunAt K w (.func (.func g') #[] cs') (atomIs fo it)) :
  Calls Tryz.prog 46 #[.agg #[.int .u8 0,.func (.func g') #[] cs',.int .i64 (l : Int),.bool true],.agg #[.slice a n c,.slice a2 n2 c2],.slice a3 m c3] w (LeadP w (fun j => ∃ i ∈ F,Reach (atP fo V it) (decide (l = 0)) true i j)):=by
 have hst:=LeadW.start w 0 (l : Int) (.func (.func g') #[] cs') (.slice a n c) (.slice a2 n2 c2) true
 have hml:=hF.1
 have hVn:=hr.1
 have hm:=rising_le hFr hFn
 obtain ⟨hK,g1,cs1,hshape,hent,hcall⟩:=hf
 obtain ⟨rfl,rfl⟩ : g1 = g' ∧ cs1 = cs':=by
  simp only [Value.func.injEq,Fn.func.injEq] at hshape
  exact ⟨hshape.1.symm,hshape.2.2.symm⟩
 have hput : ∀ (W : World) (L : List Nat) (i : Nat),LeadW w 0 (.func (.func g1) #[] cs1) (l : Int) true (.slice a n c) (.slice a2 n2 c2) L W → (L.length ≤ 67108864) → i ≤ 67108864 → (∀ x ∈ L,x ≤ 67108864) → Calls Tryz.prog 68 #[.int .i64 (i : Int),.pointer (some ⟨w.heap.size + 2,0,none⟩)] W fun e w' => e = .returned (.tuple #[]) ∧ ToSt (w.heap.size + 2) (putL L i) w' ∧ Below (w.heap.size + 2) W w':=fun W L i h h1 h2 h3 => putC W _ L i h.lst h1 h2 h3
 have hcs : ∀ (W : World) (L : List Nat),LeadW w 0 (.func (.func g1) #[] cs1) (l : Int) true (.slice a n c) (.slice a2 n2 c2) L W → ∀ (b off x v : Nat),a = some ⟨b,off,none⟩ → V[x]? = some v → W.cell? ⟨w.heap.size,1,none⟩ = some (.func (.func g1) #[] cs1) ∧ W.cell? ⟨w.heap.size + 1,0,none⟩ = some (.slice (some ⟨b,off,none⟩) n c) ∧ W.cell? ⟨b,off + x * 2,none⟩ = some (.int .i32 (tokR v : Int)) ∧ W.cell? ⟨b,off + x * 2 + 1,none⟩ = some (.int .i64 (tokW v : Int)):=by
  intro W L h b off x v ha hv
  subst ha
  obtain ⟨_,r0,r1⟩:=read_off (hr.keep h.below (Nat.le_refl _)) hv
  exact ⟨h.part.cell 1,h.text.cell 0,r0,r1⟩
 have his : ∀ (W : World) (L : List Nat),LeadW w 0 (.func (.func g1) #[] cs1) (l : Int) true (.slice a n c) (.slice a2 n2 c2) L W → ∀ v,OkC v → Calls Tryz.prog g1 (#[tokV v] ++ cs1) W fun e w' => e = .returned (.bool (atomIs fo it v)) ∧ Below W.heap.size W w':=fun W L h v hv => hcall W (fun k hk => h.below.block k (hK k hk)) h.below.size v hv
 have HPUT0:=Lib.hid hput
 have HCS0:=Lib.hid hcs
 have HIS0:=Lib.hid his
 have HV:=Lib.hid hV
 have HVN:=Lib.hid hVn
 have HST:=Lib.hid hst
 have HF:=Lib.hid hF
 have HFR:=Lib.hid hFr
 have HFN:=Lib.hid hFn
 have HA : Hid (0 < n → ∃ b off,a = some ⟨b,off,none⟩):=Lib.hid (fun h => by obtain ⟨b,off,ha,_⟩:=hr.2 h; exact ⟨b,off,ha⟩)
 obtain ⟨z,hz⟩ : ∃ z,decide (l = 0) = z:=⟨_,rfl⟩
 have hzl : ((l : Int) == 0) = z:=by rw [← hz,Bool.eq_iff_iff,beq_iff_eq,decide_eq_true_iff]; omega
 rw [hz]
 obtain ⟨li,hli⟩ : ∃ li : Int,(l : Int) = li:=⟨_,rfl⟩
 rw [hli] at hzl HST HPUT0 HCS0 HIS0 ⊢
 obtain ⟨g',rfl⟩ : ∃ g,g = g1:=⟨_,rfl⟩
 obtain ⟨cs',rfl⟩ : ∃ g,g = cs1:=⟨_,rfl⟩
 clear hput hcs his hst hF hFr hFn hr hV hcall hK hshape hz hli hVn
 go_enter Tryz.func46, Tryz.ntmps46
 go_wp2_with fail
 go_loopw [9,16] (fun ur uk wr => ∃ (k R : Nat) (r : Int) (L : List Nat),uk = .int .i64 (k : Int) ∧ ur = .int .i64 r ∧ k ≤ m ∧ R ≤ n ∧ (r = (R : Int) ∨ (r = -1 ∧ R = 0)) ∧ Hid (LeadW w 0 (.func (.func g') #[] cs') li true (.slice a n c) (.slice a2 n2 c2) L wr ∧ InvL (atP fo V it) z true (F.take k) L R)) (fun _ uk _ => m - (RowKit.intOf uk).toNat)
 case atStart => exact ⟨0,0, -1,[],rfl,rfl,Nat.zero_le _,Nat.zero_le _,.inr ⟨rfl,rfl⟩,Lib.hid ⟨HST.out,InvL.nil _ _ _⟩⟩
 case round =>
  obtain ⟨k,R,r,L,rfl,rfl,hk,hRn,hrR,HR⟩:=hrel
  obtain ⟨e0,e1,e2,e3,e4,e5⟩:=HR.out.1.cells
  by_cases hlt : k < m
  ·obtain ⟨x,hx⟩ : ∃ x,F[k]? = some x:=⟨_,List.getElem?_eq_getElem (by omega)⟩
   obtain ⟨g3,rfl,hg3,hc3⟩:=HF.out.2 (by omega)
   have k0 : wr.cell? ⟨g3,k,none⟩ = some (.int .i64 (x : Int)):=by
    rw [World.cell?_of_block (a:=⟨g3,k,none⟩) (HR.out.1.below.block g3 hg3)]
    exact hc3 k x hx
   have hxn:=HFN.out x (List.mem_of_getElem? hx)
   have hlk : (k : Int) < (m : Int):=by omega
   have hLn : ∀ y ∈ L,y ≤ n:=fun y hy => by
    obtain ⟨i,hi,hri⟩:=(HR.out.2.mem y).1 hy
    have h1:=HFN.out i (List.mem_of_mem_take hi)
    have h2:=HVN.out
    have:=reach_le hri (by omega)
    omega
   have hlen:=rising_le HR.out.2.rise hLn
   have hrt:=rising_take HFR.out hx
   have hp0:=put_zero HR.out.2 hrt
   have hm1:=putL_mem HR.out.2.rise hp0
   have hx1 : ∀ L1,L1 = (if z = true then putL L x else L) → Rising L1 ∧ (∀ y ∈ L1,y ≤ n):=by
    rintro L1 rfl
    by_cases hzt : z = true
    ·rw [if_pos hzt]
     exact ⟨hm1.1,fun y hy => by rcases (hm1.2 y).1 hy with h | h; exact hLn y h; omega⟩
    ·rw [if_neg hzt]
     exact ⟨HR.out.2.rise,hLn⟩
   have HX:=Lib.hid hx
   have HX1:=Lib.hid hx1
   have HRT:=Lib.hid hrt
   have HPUT : Hid (∀ W,LeadW w 0 (.func (.func g') #[] cs') li true (.slice a n c) (.slice a2 n2 c2) L W → Calls Tryz.prog 68 #[.int .i64 (x : Int),.pointer (some ⟨w.heap.size + 2,0,none⟩)] W fun e w' => e = .returned (.tuple #[]) ∧ ToSt (w.heap.size + 2) (putL L x) w' ∧ Below (w.heap.size + 2) W w'):=Lib.hid (fun W h => HPUT0.out W L x h (by omega) (by omega) (fun y hy => by have:=hLn y hy; omega))
   have HPUT2 : Hid (∀ W,LeadW w 0 (.func (.func g') #[] cs') li true (.slice a n c) (.slice a2 n2 c2) (if z = true then putL L x else L) W → Calls Tryz.prog 68 #[.int .i64 ((x : Int) + 1),.pointer (some ⟨w.heap.size + 2,0,none⟩)] W fun e w' => e = .returned (.tuple #[]) ∧ ToSt (w.heap.size + 2) (putL (if z = true then putL L x else L) (x + 1)) w' ∧ Below (w.heap.size + 2) W w'):=Lib.hid (fun W h => by
    obtain ⟨h1,h2⟩:=HX1.out _ rfl
    have h3:=rising_le h1 h2
    have:=HPUT0.out W _ (x + 1) h (by omega) (by omega) (fun y hy => by have:=h2 y hy; omega)
    rwa [show ((x + 1 : Nat) : Int) = (x : Int) + 1 by omega] at this)
   clear hx hc3 hrt hLn hp0 hm1 hx1
   obtain ⟨k0,hk0⟩ : ∃ k0,k0 = max x R:=⟨_,rfl⟩
   have hmax : max (x : Int) r = (k0 : Int):=by omega
   have hk0n : k0 ≤ n:=by omega
   have hL1 : ∀ y ∈ (if z = true then putL L x else L),y ≤ k0:=by
    have hp:=put_zero HR.out.2 HRT.out
    have hm1:=putL_mem HR.out.2.rise hp
    have hL : ∀ y ∈ L,y ≤ k0:=by
     intro y hy
     rcases HR.out.2.most y hy with h | ⟨i,hi,h⟩
     ·omega
     ·have:=HRT.out i hi
      rw [if_pos rfl] at h
      omega
    intro y hy
    by_cases hzt : z = true
    ·rw [if_pos hzt] at hy
     rcases (hm1.2 y).1 hy with h | h
     ·exact hL y h
     ·omega
    ·rw [if_neg hzt] at hy
     exact hL y hy
   have HL1:=Lib.hid hL1
   have HRR:=Lib.hid hrR
   have HK0:=Lib.hid hk0
   have hrb : -1 ≤ r ∧ r ≤ 67108864:=by omega
   obtain ⟨hrb1,hrb2⟩:=hrb
   clear hL1 hrR hk0
   cases z with
   | true =>
    go_wp2_with (go_at_call 68; refine (HPUT.out _ HR.out.1).mono ?_; rintro e w7 ⟨rfl,ht7,hb7⟩; have lw7:=HR.out.1.put ht7 hb7; obtain ⟨i0,i1,i2,i3,i4,i5⟩:=lw7.cells; have LW7:=Lib.hid lw7; clear ht7 hb7 lw7)
    obtain ⟨wq,hwq⟩ : ∃ q,q = w7:=⟨_,rfl⟩
    rw [← hwq] at LW7 ⊢
    clear hwq
    go_loopw [9,12] (fun ur ut w2 => ∃ (t : Nat) (r2 : Int) (L2 : List Nat),ut = .int .i64 (t : Int) ∧ ur = .int .i64 r2 ∧ k0 ≤ t ∧ t ≤ n ∧ -1 ≤ r2 ∧ r2 ≤ 67108864 ∧ Hid (LeadW w 0 (.func (.func g') #[] cs') li true (.slice a n c) (.slice a2 n2 c2) L2 w2 ∧ Rising L2 ∧ (∀ j,j ∈ L2 ↔ j ∈ (putL L x) ∨ (k0 < j ∧ j ≤ t)) ∧ (∀ q,k0 ≤ q → q < t → atP fo V it q = true) ∧ r2 = if t = k0 then r else (t : Int))) (fun _ ut _ => n - (RowKit.intOf ut).toNat)
    case atStart => exact ⟨k0,r,(putL L x),by go_num,rfl,Nat.le_refl _,hk0n,hrb1,hrb2,Lib.hid ⟨LW7.out,(HX1.out _ rfl).1,fun j => ⟨.inl,fun h => h.elim id (fun h => by omega)⟩,fun q h1 h2 => by omega,(if_pos rfl).symm⟩⟩
    case round =>
     obtain ⟨t,r2,L2,rfl,rfl,ht0,htn,hr21,hr22,HI⟩:=hrel
     obtain ⟨j0,j1,j2,j3,j4,j5⟩:=HI.out.1.cells
     have hL2 : ∀ y ∈ L2,y ≤ t:=by
      intro y hy
      rcases (HI.out.2.2.1 y).1 hy with h | h
      ·have:=HL1.out y h
       omega
      ·exact h.2
     have hlen2:=rising_le HI.out.2.1 hL2
     have HL2:=Lib.hid hL2
     clear hL2
     by_cases htlt : t < n
     ·obtain ⟨b,off,rfl⟩:=HA.out (by omega)
      obtain ⟨v,hv⟩ : ∃ v,V[t]? = some v:=⟨_,List.getElem?_eq_getElem (by have:=HVN.out; omega)⟩
      have hok : OkC v:=by
       have:=HV.out v (List.mem_of_getElem? hv)
       unfold OkC
       omega
      obtain ⟨r0,hr0⟩ : ∃ r : Int,((tokR v : Nat) : Int) = r:=⟨_,rfl⟩
      obtain ⟨r1,hr1⟩ : ∃ r : Int,((tokW v : Nat) : Int) = r:=⟨_,rfl⟩
      have htv : tokV v = .agg #[.int .i32 r0,.int .i64 r1]:=by rw [← hr0,← hr1]; rfl
      obtain ⟨B,hB⟩ : ∃ B,atomIs fo it v = B:=⟨_,rfl⟩
      have hat : atP fo V it t = B:=by unfold atP; rw [hv]; exact hB
      have HVX:=Lib.hid hv
      have HOK:=Lib.hid hok
      have HR0:=Lib.hid hr0
      have HR1:=Lib.hid hr1
      have HTV:=Lib.hid htv
      have HB:=Lib.hid hB
      have HAT:=Lib.hid hat
      have hxi : (t : Int) < (n : Int):=by omega
      clear hv hok hr0 hr1 htv hB hat
      cases B with
      | true =>
       go_wp2_with fail
       have HCS:=Lib.hid (fun W' (h : Below wr.heap.size wr W') => by have:=HCS0.out W' _ (HI.out.1.keep h) b off t v rfl HVX.out; rw [HR0.out,HR1.out] at this; exact this)
       have HIS:=Lib.hid (fun W' (h : Below wr.heap.size wr W') => by have:=HIS0.out W' _ (HI.out.1.keep h) v HOK.out; rw [HTV.out,HB.out] at this; exact this)
       have hq0 : Below wr.heap.size wr wr.drew:=Quiet.below ⟨1,rfl⟩ _
       have hs0:=HCS.out _ hq0
       refine wp_region_held_drew (S:=(fun w' : World => w'.cell? ⟨w.heap.size,1,none⟩ = some (.func (.func g') #[] cs') ∧ w'.cell? ⟨w.heap.size + 1,0,none⟩ = some (.slice (some ⟨b,off,none⟩) n c) ∧ w'.cell? ⟨b,off + t * 2,none⟩ = some (.int .i32 r0) ∧ w'.cell? ⟨b,off + t * 2 + 1,none⟩ = some (.int .i64 r1))) (by kernel_rfl) hs0 (fun hS0 => ?_)
       refine tF 0 ⟨some 62,.move (.tmp 12), 3,_,#[],none⟩ rfl hS0 ?_
       refine tF 1 ⟨some 63,.fieldAddr 75 (.tmp 4) 0,0,_,#[],none⟩ rfl hS0 ?_
       refine tF 2 ⟨some 64,.load 72 (.tmp 63), 72,_,#[⟨1,.data⟩],none⟩ rfl hS0 ?_
       try simp only [Act.put,pB,pC,pD]
       refine tF 3 ⟨some 65,.call { callee:=Callee.builtin Builtin.len,args:=#[.tmp 64],argTypes:=#[72] }, 3,_,#[⟨2,.data⟩],none⟩ rfl hS0 ?_
       refine tF 4 ⟨some 66,.binOp BinOp.lss 3 (.tmp 62) (.tmp 65) 3, 4,_,#[⟨0,.data⟩,⟨3,.data⟩],none⟩ rfl hS0 ?_
       refine tF 5 ⟨some 67,.move (.tmp 66), 4,_,#[⟨4,.data⟩],none⟩ rfl hS0 ?_
       try simp only [Act.put,pB,pC,pD]
       refine tF 6 ⟨some 68,.fieldAddr 120 (.tmp 3) 1,0,_,#[⟨5,.guard⟩],some (5,true)⟩ rfl hS0 ?_
       refine tF 7 ⟨some 69,.load 118 (.tmp 68), 118,_,#[⟨6,.data⟩,⟨5,.guard⟩],some (5,true)⟩ rfl hS0 ?_
       refine tF 8 ⟨some 70,.fieldAddr 75 (.tmp 4) 0,0,_,#[⟨5,.guard⟩],some (5,true)⟩ rfl hS0 ?_
       try simp only [Act.put,pB,pC,pD]
       refine tF 9 ⟨some 71,.load 72 (.tmp 70), 72,_,#[⟨8,.data⟩,⟨5,.guard⟩],some (5,true)⟩ rfl hS0 ?_
       refine tF 10 ⟨some 72,.move (.tmp 12), 3,_,#[⟨5,.guard⟩],some (5,true)⟩ rfl hS0 ?_
       refine tF 11 ⟨some 73,.indexAddr 72 (.tmp 71) (.tmp 72),0,_,#[⟨9,.data⟩,⟨10,.data⟩,⟨5,.guard⟩],some (5,true)⟩ rfl hS0 ?_
       try simp only [Act.put,pB,pC,pD]
       refine tF 12 ⟨some 74,.load 91 (.tmp 73), 91,_,#[⟨11,.data⟩,⟨5,.guard⟩],some (5,true)⟩ rfl hS0 ?_
       try simp only [Act.put,pB,pC,pD]
       refine wpAnyH_ready (rs:=[13]) (by kernel_rfl) (by simp) (AllReadyH.cons rfl (fun K' hK => ?_) AllReadyH.nil)
       go_simp
       refine (HIS.out _ hq0).mono ?_
       rintro e w9 ⟨rfl,hb9⟩
       show K' _ _
       refine hK.out _ _ (HCS.out _ (below_next hq0 (Nat.le_refl _) hb9)) (fun hSn => ?_)
       try simp only [Act.put,pB,pC,pD]
       clear hK K'
       have hq9:=below_next hq0 (Nat.le_refl _) hb9
       clear hb9
       refine tC 14 ⟨some 76,.pick (.tmp 67) (.tmp 75) (Operand.const (Value.bool false)), 4,_,#[⟨5,.data⟩,⟨13,.data⟩],none⟩ ?v100 rfl ?y100 (HCS.out _ hq9) ?r100; (case y100 => rintro w2 ⟨s1,s2,s3,s4⟩; go_simp; try with_reducible rfl)
       try simp only [Act.put,pB,pC,pD]
       refine wpAnyH_done (by kernel_rfl) ?_ _
       have LW9:=Lib.hid (HI.out.1.keep hq9)
       clear hq9 hq0 hs0
       have hput2 : ∀ W,LeadW w 0 (.func (.func g') #[] cs') li true (.slice (some ⟨b,off,none⟩) n c) (.slice a2 n2 c2) L2 W → Calls Tryz.prog 68 #[.int .i64 ((t : Int) + 1),.pointer (some ⟨w.heap.size + 2,0,none⟩)] W fun e w' => e = .returned (.tuple #[]) ∧ ToSt (w.heap.size + 2) (putL L2 (t + 1)) w' ∧ Below (w.heap.size + 2) W w':=fun W h => by
        have:=HPUT0.out W L2 (t + 1) h (by omega) (by omega) (fun y hy => by have:=HL2.out y hy; omega)
        rwa [show ((t + 1 : Nat) : Int) = (t : Int) + 1 by omega] at this
       have HPT:=Lib.hid hput2
       clear hput2
       go_wp2_with (go_at_call 68; refine (HPT.out _ LW9.out).mono ?_; rintro e w8 ⟨rfl,ht8,hb8⟩; have LW8:=Lib.hid (LW9.out.put ht8 hb8); clear ht8 hb8)
       have hpm:=putL_mem HI.out.2.1 (i:=t + 1) (.inl (fun y hy => by have:=HL2.out y hy; omega))
       have HPM:=Lib.hid hpm
       clear hpm
       go_roundw
       case rel => exact ⟨t + 1,(t : Int) + 1,putL L2 (t + 1),by go_num,by go_num,by omega,by omega,by omega,by omega,Lib.hid ⟨LW8.out,HPM.out.1,fun j => by
        rw [HPM.out.2,HI.out.2.2.1]
        constructor
        ·rintro ((h | h) | h)
         ·exact .inl h
         ·exact .inr (by omega)
         ·exact .inr (by omega)
        ·rintro (h | h)
         ·exact .inl (.inl h)
         ·by_cases hj : j = t + 1
          ·exact .inr hj
          ·exact .inl (.inr (by omega)),fun q h1 h2 => by
        by_cases hq : q = t
        ·rw [hq]; exact HAT.out
        ·exact HI.out.2.2.2.1 q h1 (by omega),by rw [if_neg (by omega)]; omega⟩⟩
       case measure => simp [RowKit.intOf]; omega
      | false =>
       go_wp2_with fail
       have HCS:=Lib.hid (fun W' (h : Below wr.heap.size wr W') => by have:=HCS0.out W' _ (HI.out.1.keep h) b off t v rfl HVX.out; rw [HR0.out,HR1.out] at this; exact this)
       have HIS:=Lib.hid (fun W' (h : Below wr.heap.size wr W') => by have:=HIS0.out W' _ (HI.out.1.keep h) v HOK.out; rw [HTV.out,HB.out] at this; exact this)
       have hq0 : Below wr.heap.size wr wr.drew:=Quiet.below ⟨1,rfl⟩ _
       have hs0:=HCS.out _ hq0
       refine wp_region_held_drew (S:=(fun w' : World => w'.cell? ⟨w.heap.size,1,none⟩ = some (.func (.func g') #[] cs') ∧ w'.cell? ⟨w.heap.size + 1,0,none⟩ = some (.slice (some ⟨b,off,none⟩) n c) ∧ w'.cell? ⟨b,off + t * 2,none⟩ = some (.int .i32 r0) ∧ w'.cell? ⟨b,off + t * 2 + 1,none⟩ = some (.int .i64 r1))) (by kernel_rfl) hs0 (fun hS0 => ?_)
       refine tF 0 ⟨some 62,.move (.tmp 12), 3,_,#[],none⟩ rfl hS0 ?_
       refine tF 1 ⟨some 63,.fieldAddr 75 (.tmp 4) 0,0,_,#[],none⟩ rfl hS0 ?_
       refine tF 2 ⟨some 64,.load 72 (.tmp 63), 72,_,#[⟨1,.data⟩],none⟩ rfl hS0 ?_
       try simp only [Act.put,pB,pC,pD]
       refine tF 3 ⟨some 65,.call { callee:=Callee.builtin Builtin.len,args:=#[.tmp 64],argTypes:=#[72] }, 3,_,#[⟨2,.data⟩],none⟩ rfl hS0 ?_
       refine tF 4 ⟨some 66,.binOp BinOp.lss 3 (.tmp 62) (.tmp 65) 3, 4,_,#[⟨0,.data⟩,⟨3,.data⟩],none⟩ rfl hS0 ?_
       refine tF 5 ⟨some 67,.move (.tmp 66), 4,_,#[⟨4,.data⟩],none⟩ rfl hS0 ?_
       try simp only [Act.put,pB,pC,pD]
       refine tF 6 ⟨some 68,.fieldAddr 120 (.tmp 3) 1,0,_,#[⟨5,.guard⟩],some (5,true)⟩ rfl hS0 ?_
       refine tF 7 ⟨some 69,.load 118 (.tmp 68), 118,_,#[⟨6,.data⟩,⟨5,.guard⟩],some (5,true)⟩ rfl hS0 ?_
       refine tF 8 ⟨some 70,.fieldAddr 75 (.tmp 4) 0,0,_,#[⟨5,.guard⟩],some (5,true)⟩ rfl hS0 ?_
       try simp only [Act.put,pB,pC,pD]
       refine tF 9 ⟨some 71,.load 72 (.tmp 70), 72,_,#[⟨8,.data⟩,⟨5,.guard⟩],some (5,true)⟩ rfl hS0 ?_
       refine tF 10 ⟨some 72,.move (.tmp 12), 3,_,#[⟨5,.guard⟩],some (5,true)⟩ rfl hS0 ?_
       refine tF 11 ⟨some 73,.indexAddr 72 (.tmp 71) (.tmp 72),0,_,#[⟨9,.data⟩,⟨10,.data⟩,⟨5,.guard⟩],some (5,true)⟩ rfl hS0 ?_
       try simp only [Act.put,pB,pC,pD]
       refine tF 12 ⟨some 74,.load 91 (.tmp 73), 91,_,#[⟨11,.data⟩,⟨5,.guard⟩],some (5,true)⟩ rfl hS0 ?_
       try simp only [Act.put,pB,pC,pD]
       refine wpAnyH_ready (rs:=[13]) (by kernel_rfl) (by simp) (AllReadyH.cons rfl (fun K' hK => ?_) AllReadyH.nil)
       go_simp
       refine (HIS.out _ hq0).mono ?_
       rintro e w9 ⟨rfl,hb9⟩
       show K' _ _
       refine hK.out _ _ (HCS.out _ (below_next hq0 (Nat.le_refl _) hb9)) (fun hSn => ?_)
       try simp only [Act.put,pB,pC,pD]
       clear hK K'
       have hq9:=below_next hq0 (Nat.le_refl _) hb9
       clear hb9
       refine tC 14 ⟨some 76,.pick (.tmp 67) (.tmp 75) (Operand.const (Value.bool false)), 4,_,#[⟨5,.data⟩,⟨13,.data⟩],none⟩ ?v114 rfl ?y114 (HCS.out _ hq9) ?r114; (case y114 => rintro w2 ⟨s1,s2,s3,s4⟩; go_simp; try with_reducible rfl)
       try simp only [Act.put,pB,pC,pD]
       refine wpAnyH_done (by kernel_rfl) ?_ _
       have LW9:=Lib.hid (HI.out.1.keep hq9)
       clear hq9 hq0 hs0
       go_wp2_with fail
       go_roundw
       case rel => exact ⟨k + 1,if t = k0 then R else t,r2,L2,by go_num,rfl,by omega,by split <;> omega,by
        have h1:=HI.out.2.2.2.2
        have h2:=HRR.out
        by_cases ht : t = k0
        ·rw [if_pos ht] at h1 ⊢
         rw [h1]
         exact h2
        ·rw [if_neg ht] at h1 ⊢
         exact .inl h1,Lib.hid ⟨LW9.out,by
        rw [take_snoc HX.out]
        exact step_many HR.out.2 HRT.out (L1:=(putL L x)) rfl HK0.out ht0 HI.out.2.2.2.1 HAT.out HI.out.2.1 HI.out.2.2.1 rfl⟩⟩
       case measure => simp [RowKit.intOf]; omega
     ·have hxi : ¬ (t : Int) < (n : Int):=by omega
      have hxi2 : (n : Int) ≤ (t : Int):=by omega
      have hxi3 : decide ((t : Int) < (n : Int)) = false:=decide_eq_false hxi
      have hxi4 : decide (t < n) = false:=decide_eq_false htlt
      have hxi5 : n ≤ t:=by omega
      have hat : atP fo V it t = false:=by unfold atP; rw [List.getElem?_eq_none (by have:=HVN.out; omega)]
      have HAT:=Lib.hid hat
      clear hat
      go_wp2_with fail
      have HCS:=Lib.hid (fun W' (h : Below wr.heap.size wr W') => (HI.out.1.keep h).text.cell 0)
      have hq0 : Below wr.heap.size wr wr.drew:=Quiet.below ⟨1,rfl⟩ _
      have hs0:=HCS.out _ hq0
      refine wp_region_held_drew (S:=(fun w' : World => w'.cell? ⟨w.heap.size + 1,0,none⟩ = some (.slice a n c))) (by kernel_rfl) hs0 (fun hS0 => ?_)
      refine tE 0 ⟨some 62,.move (.tmp 12), 3,_,#[],none⟩ rfl hS0 ?_
      refine tE 1 ⟨some 63,.fieldAddr 75 (.tmp 4) 0,0,_,#[],none⟩ rfl hS0 ?_
      refine tE 2 ⟨some 64,.load 72 (.tmp 63), 72,_,#[⟨1,.data⟩],none⟩ rfl hS0 ?_
      try simp only [Act.put,pB,pC,pD]
      refine tE 3 ⟨some 65,.call { callee:=Callee.builtin Builtin.len,args:=#[.tmp 64],argTypes:=#[72] }, 3,_,#[⟨2,.data⟩],none⟩ rfl hS0 ?_
      refine tE 4 ⟨some 66,.binOp BinOp.lss 3 (.tmp 62) (.tmp 65) 3, 4,_,#[⟨0,.data⟩,⟨3,.data⟩],none⟩ rfl hS0 ?_
      refine tE 5 ⟨some 67,.move (.tmp 66), 4,_,#[⟨4,.data⟩],none⟩ rfl hS0 ?_
      try simp only [Act.put,pB,pC,pD]
      refine tD 6 ⟨some 68,.fieldAddr 120 (.tmp 3) 1,0,_,#[⟨5,.guard⟩],some (5,true)⟩ rfl hS0 ?_
      refine tD 7 ⟨some 69,.load 118 (.tmp 68), 118,_,#[⟨6,.data⟩,⟨5,.guard⟩],some (5,true)⟩ rfl hS0 ?_
      refine tD 8 ⟨some 70,.fieldAddr 75 (.tmp 4) 0,0,_,#[⟨5,.guard⟩],some (5,true)⟩ rfl hS0 ?_
      try simp only [Act.put,pB,pC,pD]
      refine tD 9 ⟨some 71,.load 72 (.tmp 70), 72,_,#[⟨8,.data⟩,⟨5,.guard⟩],some (5,true)⟩ rfl hS0 ?_
      refine tD 10 ⟨some 72,.move (.tmp 12), 3,_,#[⟨5,.guard⟩],some (5,true)⟩ rfl hS0 ?_
      refine tD 11 ⟨some 73,.indexAddr 72 (.tmp 71) (.tmp 72),0,_,#[⟨9,.data⟩,⟨10,.data⟩,⟨5,.guard⟩],some (5,true)⟩ rfl hS0 ?_
      try simp only [Act.put,pB,pC,pD]
      refine tD 12 ⟨some 74,.load 91 (.tmp 73), 91,_,#[⟨11,.data⟩,⟨5,.guard⟩],some (5,true)⟩ rfl hS0 ?_
      refine tD 13 ⟨some 75,.call { callee:=Callee.value (.tmp 69),args:=#[.tmp 74],argTypes:=#[91] }, 4,_,#[⟨7,.data⟩,⟨12,.data⟩,⟨5,.chain⟩,⟨5,.guard⟩],some (5,true)⟩ rfl hS0 ?_
      refine tE 14 ⟨some 76,.pick (.tmp 67) (.tmp 75) (Operand.const (Value.bool false)), 4,_,#[⟨5,.data⟩,⟨13,.data⟩],none⟩ rfl hS0 ?_
      try simp only [Act.put,pB,pC,pD]
      have hq9:=hq0
      refine wpAnyH_done (by kernel_rfl) ?_ _
      have LW9:=Lib.hid (HI.out.1.keep hq9)
      clear hq9 hq0 hs0
      go_wp2_with fail
      go_roundw
      case rel => exact ⟨k + 1,if t = k0 then R else t,r2,L2,by go_num,rfl,by omega,by split <;> omega,by
       have h1:=HI.out.2.2.2.2
       have h2:=HRR.out
       by_cases ht : t = k0
       ·rw [if_pos ht] at h1 ⊢
        rw [h1]
        exact h2
       ·rw [if_neg ht] at h1 ⊢
        exact .inl h1,Lib.hid ⟨LW9.out,by
       rw [take_snoc HX.out]
       exact step_many HR.out.2 HRT.out (L1:=(putL L x)) rfl HK0.out ht0 HI.out.2.2.2.1 HAT.out HI.out.2.1 HI.out.2.2.1 rfl⟩⟩
      case measure => simp [RowKit.intOf]; omega
   | false =>
    go_wp2_with fail
    obtain ⟨wq,hwq⟩ : ∃ q,q = wr:=⟨_,rfl⟩
    rw [← hwq]
    have LW7 : Hid (LeadW w 0 (.func (.func g') #[] cs') li true (.slice a n c) (.slice a2 n2 c2) L wq):=Lib.hid (by rw [hwq]; exact HR.out.1)
    clear hwq
    go_loopw [9,12] (fun ur ut w2 => ∃ (t : Nat) (r2 : Int) (L2 : List Nat),ut = .int .i64 (t : Int) ∧ ur = .int .i64 r2 ∧ k0 ≤ t ∧ t ≤ n ∧ -1 ≤ r2 ∧ r2 ≤ 67108864 ∧ Hid (LeadW w 0 (.func (.func g') #[] cs') li true (.slice a n c) (.slice a2 n2 c2) L2 w2 ∧ Rising L2 ∧ (∀ j,j ∈ L2 ↔ j ∈ L ∨ (k0 < j ∧ j ≤ t)) ∧ (∀ q,k0 ≤ q → q < t → atP fo V it q = true) ∧ r2 = if t = k0 then r else (t : Int))) (fun _ ut _ => n - (RowKit.intOf ut).toNat)
    case atStart => exact ⟨k0,r,L,by go_num,rfl,Nat.le_refl _,hk0n,hrb1,hrb2,Lib.hid ⟨LW7.out,(HX1.out _ rfl).1,fun j => ⟨.inl,fun h => h.elim id (fun h => by omega)⟩,fun q h1 h2 => by omega,(if_pos rfl).symm⟩⟩
    case round =>
     obtain ⟨t,r2,L2,rfl,rfl,ht0,htn,hr21,hr22,HI⟩:=hrel
     obtain ⟨j0,j1,j2,j3,j4,j5⟩:=HI.out.1.cells
     have hL2 : ∀ y ∈ L2,y ≤ t:=by
      intro y hy
      rcases (HI.out.2.2.1 y).1 hy with h | h
      ·have:=HL1.out y h
       omega
      ·exact h.2
     have hlen2:=rising_le HI.out.2.1 hL2
     have HL2:=Lib.hid hL2
     clear hL2
     by_cases htlt : t < n
     ·obtain ⟨b,off,rfl⟩:=HA.out (by omega)
      obtain ⟨v,hv⟩ : ∃ v,V[t]? = some v:=⟨_,List.getElem?_eq_getElem (by have:=HVN.out; omega)⟩
      have hok : OkC v:=by
       have:=HV.out v (List.mem_of_getElem? hv)
       unfold OkC
       omega
      obtain ⟨r0,hr0⟩ : ∃ r : Int,((tokR v : Nat) : Int) = r:=⟨_,rfl⟩
      obtain ⟨r1,hr1⟩ : ∃ r : Int,((tokW v : Nat) : Int) = r:=⟨_,rfl⟩
      have htv : tokV v = .agg #[.int .i32 r0,.int .i64 r1]:=by rw [← hr0,← hr1]; rfl
      obtain ⟨B,hB⟩ : ∃ B,atomIs fo it v = B:=⟨_,rfl⟩
      have hat : atP fo V it t = B:=by unfold atP; rw [hv]; exact hB
      have HVX:=Lib.hid hv
      have HOK:=Lib.hid hok
      have HR0:=Lib.hid hr0
      have HR1:=Lib.hid hr1
      have HTV:=Lib.hid htv
      have HB:=Lib.hid hB
      have HAT:=Lib.hid hat
      have hxi : (t : Int) < (n : Int):=by omega
      clear hv hok hr0 hr1 htv hB hat
      cases B with
      | true =>
       go_wp2_with fail
       have HCS:=Lib.hid (fun W' (h : Below wr.heap.size wr W') => by have:=HCS0.out W' _ (HI.out.1.keep h) b off t v rfl HVX.out; rw [HR0.out,HR1.out] at this; exact this)
       have HIS:=Lib.hid (fun W' (h : Below wr.heap.size wr W') => by have:=HIS0.out W' _ (HI.out.1.keep h) v HOK.out; rw [HTV.out,HB.out] at this; exact this)
       have hq0 : Below wr.heap.size wr wr.drew:=Quiet.below ⟨1,rfl⟩ _
       have hs0:=HCS.out _ hq0
       refine wp_region_held_drew (S:=(fun w' : World => w'.cell? ⟨w.heap.size,1,none⟩ = some (.func (.func g') #[] cs') ∧ w'.cell? ⟨w.heap.size + 1,0,none⟩ = some (.slice (some ⟨b,off,none⟩) n c) ∧ w'.cell? ⟨b,off + t * 2,none⟩ = some (.int .i32 r0) ∧ w'.cell? ⟨b,off + t * 2 + 1,none⟩ = some (.int .i64 r1))) (by kernel_rfl) hs0 (fun hS0 => ?_)
       refine tF 0 ⟨some 62,.move (.tmp 12), 3,_,#[],none⟩ rfl hS0 ?_
       try simp only [Act.put,pB,pC,pD]
       refine tF 1 ⟨some 63,.fieldAddr 75 (.tmp 4) 0,0,_,#[],none⟩ rfl hS0 ?_
       refine tF 2 ⟨some 64,.load 72 (.tmp 63), 72,_,#[⟨1,.data⟩],none⟩ rfl hS0 ?_
       refine tF 3 ⟨some 65,.call { callee:=Callee.builtin Builtin.len,args:=#[.tmp 64],argTypes:=#[72] }, 3,_,#[⟨2,.data⟩],none⟩ rfl hS0 ?_
       try simp only [Act.put,pB,pC,pD]
       refine tF 4 ⟨some 66,.binOp BinOp.lss 3 (.tmp 62) (.tmp 65) 3, 4,_,#[⟨0,.data⟩,⟨3,.data⟩],none⟩ rfl hS0 ?_
       refine tF 5 ⟨some 67,.move (.tmp 66), 4,_,#[⟨4,.data⟩],none⟩ rfl hS0 ?_
       refine tF 6 ⟨some 68,.fieldAddr 120 (.tmp 3) 1,0,_,#[⟨5,.guard⟩],some (5,true)⟩ rfl hS0 ?_
       try simp only [Act.put,pB,pC,pD]
       refine tF 7 ⟨some 69,.load 118 (.tmp 68), 118,_,#[⟨6,.data⟩,⟨5,.guard⟩],some (5,true)⟩ rfl hS0 ?_
       refine tF 8 ⟨some 70,.fieldAddr 75 (.tmp 4) 0,0,_,#[⟨5,.guard⟩],some (5,true)⟩ rfl hS0 ?_
       refine tF 9 ⟨some 71,.load 72 (.tmp 70), 72,_,#[⟨8,.data⟩,⟨5,.guard⟩],some (5,true)⟩ rfl hS0 ?_
       try simp only [Act.put,pB,pC,pD]
       refine tF 10 ⟨some 72,.move (.tmp 12), 3,_,#[⟨5,.guard⟩],some (5,true)⟩ rfl hS0 ?_
       refine tF 11 ⟨some 73,.indexAddr 72 (.tmp 71) (.tmp 72),0,_,#[⟨9,.data⟩,⟨10,.data⟩,⟨5,.guard⟩],some (5,true)⟩ rfl hS0 ?_
       refine tF 12 ⟨some 74,.load 91 (.tmp 73), 91,_,#[⟨11,.data⟩,⟨5,.guard⟩],some (5,true)⟩ rfl hS0 ?_
       try simp only [Act.put,pB,pC,pD]
       refine wpAnyH_ready (rs:=[13]) (by kernel_rfl) (by simp) (AllReadyH.cons rfl (fun K' hK => ?_) AllReadyH.nil)
       go_simp
       refine (HIS.out _ hq0).mono ?_
       rintro e w9 ⟨rfl,hb9⟩
       show K' _ _
       refine hK.out _ _ (HCS.out _ (below_next hq0 (Nat.le_refl _) hb9)) (fun hSn => ?_)
       try simp only [Act.put,pB,pC,pD]
       clear hK K'
       have hq9:=below_next hq0 (Nat.le_refl _) hb9
       clear hb9
       refine tC 14 ⟨some 76,.pick (.tmp 67) (.tmp 75) (Operand.const (Value.bool false)), 4,_,#[⟨5,.data⟩,⟨13,.data⟩],none⟩ ?v143 rfl ?y143 (HCS.out _ hq9) ?r143; (case y143 => rintro w2 ⟨s1,s2,s3,s4⟩; go_simp; try with_reducible rfl)
       try simp only [Act.put,pB,pC,pD]
       refine wpAnyH_done (by kernel_rfl) ?_ _
       have LW9:=Lib.hid (HI.out.1.keep hq9)
       clear hq9 hq0 hs0
       have hput2 : ∀ W,LeadW w 0 (.func (.func g') #[] cs') li true (.slice (some ⟨b,off,none⟩) n c) (.slice a2 n2 c2) L2 W → Calls Tryz.prog 68 #[.int .i64 ((t : Int) + 1),.pointer (some ⟨w.heap.size + 2,0,none⟩)] W fun e w' => e = .returned (.tuple #[]) ∧ ToSt (w.heap.size + 2) (putL L2 (t + 1)) w' ∧ Below (w.heap.size + 2) W w':=fun W h => by
        have:=HPUT0.out W L2 (t + 1) h (by omega) (by omega) (fun y hy => by have:=HL2.out y hy; omega)
        rwa [show ((t + 1 : Nat) : Int) = (t : Int) + 1 by omega] at this
       have HPT:=Lib.hid hput2
       clear hput2
       go_wp2_with (go_at_call 68; refine (HPT.out _ LW9.out).mono ?_; rintro e w8 ⟨rfl,ht8,hb8⟩; have LW8:=Lib.hid (LW9.out.put ht8 hb8); clear ht8 hb8)
       have hpm:=putL_mem HI.out.2.1 (i:=t + 1) (.inl (fun y hy => by have:=HL2.out y hy; omega))
       have HPM:=Lib.hid hpm
       clear hpm
       go_roundw
       case rel => exact ⟨t + 1,(t : Int) + 1,putL L2 (t + 1),by go_num,by go_num,by omega,by omega,by omega,by omega,Lib.hid ⟨LW8.out,HPM.out.1,fun j => by
        rw [HPM.out.2,HI.out.2.2.1]
        constructor
        ·rintro ((h | h) | h)
         ·exact .inl h
         ·exact .inr (by omega)
         ·exact .inr (by omega)
        ·rintro (h | h)
         ·exact .inl (.inl h)
         ·by_cases hj : j = t + 1
          ·exact .inr hj
          ·exact .inl (.inr (by omega)),fun q h1 h2 => by
        by_cases hq : q = t
        ·rw [hq]; exact HAT.out
        ·exact HI.out.2.2.2.1 q h1 (by omega),by rw [if_neg (by omega)]; omega⟩⟩
       case measure => simp [RowKit.intOf]; omega
      | false =>
       go_wp2_with fail
       have HCS:=Lib.hid (fun W' (h : Below wr.heap.size wr W') => by have:=HCS0.out W' _ (HI.out.1.keep h) b off t v rfl HVX.out; rw [HR0.out,HR1.out] at this; exact this)
       have HIS:=Lib.hid (fun W' (h : Below wr.heap.size wr W') => by have:=HIS0.out W' _ (HI.out.1.keep h) v HOK.out; rw [HTV.out,HB.out] at this; exact this)
       have hq0 : Below wr.heap.size wr wr.drew:=Quiet.below ⟨1,rfl⟩ _
       have hs0:=HCS.out _ hq0
       refine wp_region_held_drew (S:=(fun w' : World => w'.cell? ⟨w.heap.size,1,none⟩ = some (.func (.func g') #[] cs') ∧ w'.cell? ⟨w.heap.size + 1,0,none⟩ = some (.slice (some ⟨b,off,none⟩) n c) ∧ w'.cell? ⟨b,off + t * 2,none⟩ = some (.int .i32 r0) ∧ w'.cell? ⟨b,off + t * 2 + 1,none⟩ = some (.int .i64 r1))) (by kernel_rfl) hs0 (fun hS0 => ?_)
       refine tF 0 ⟨some 62,.move (.tmp 12), 3,_,#[],none⟩ rfl hS0 ?_
       try simp only [Act.put,pB,pC,pD]
       refine tF 1 ⟨some 63,.fieldAddr 75 (.tmp 4) 0,0,_,#[],none⟩ rfl hS0 ?_
       refine tF 2 ⟨some 64,.load 72 (.tmp 63), 72,_,#[⟨1,.data⟩],none⟩ rfl hS0 ?_
       refine tF 3 ⟨some 65,.call { callee:=Callee.builtin Builtin.len,args:=#[.tmp 64],argTypes:=#[72] }, 3,_,#[⟨2,.data⟩],none⟩ rfl hS0 ?_
       try simp only [Act.put,pB,pC,pD]
       refine tF 4 ⟨some 66,.binOp BinOp.lss 3 (.tmp 62) (.tmp 65) 3, 4,_,#[⟨0,.data⟩,⟨3,.data⟩],none⟩ rfl hS0 ?_
       refine tF 5 ⟨some 67,.move (.tmp 66), 4,_,#[⟨4,.data⟩],none⟩ rfl hS0 ?_
       refine tF 6 ⟨some 68,.fieldAddr 120 (.tmp 3) 1,0,_,#[⟨5,.guard⟩],some (5,true)⟩ rfl hS0 ?_
       try simp only [Act.put,pB,pC,pD]
       refine tF 7 ⟨some 69,.load 118 (.tmp 68), 118,_,#[⟨6,.data⟩,⟨5,.guard⟩],some (5,true)⟩ rfl hS0 ?_
       refine tF 8 ⟨some 70,.fieldAddr 75 (.tmp 4) 0,0,_,#[⟨5,.guard⟩],some (5,true)⟩ rfl hS0 ?_
       refine tF 9 ⟨some 71,.load 72 (.tmp 70), 72,_,#[⟨8,.data⟩,⟨5,.guard⟩],some (5,true)⟩ rfl hS0 ?_
       try simp only [Act.put,pB,pC,pD]
       refine tF 10 ⟨some 72,.move (.tmp 12), 3,_,#[⟨5,.guard⟩],some (5,true)⟩ rfl hS0 ?_
       refine tF 11 ⟨some 73,.indexAddr 72 (.tmp 71) (.tmp 72),0,_,#[⟨9,.data⟩,⟨10,.data⟩,⟨5,.guard⟩],some (5,true)⟩ rfl hS0 ?_
       refine tF 12 ⟨some 74,.load 91 (.tmp 73), 91,_,#[⟨11,.data⟩,⟨5,.guard⟩],some (5,true)⟩ rfl hS0 ?_
       try simp only [Act.put,pB,pC,pD]
       refine wpAnyH_ready (rs:=[13]) (by kernel_rfl) (by simp) (AllReadyH.cons rfl (fun K' hK => ?_) AllReadyH.nil)
       go_simp
       refine (HIS.out _ hq0).mono ?_
       rintro e w9 ⟨rfl,hb9⟩
       show K' _ _
       refine hK.out _ _ (HCS.out _ (below_next hq0 (Nat.le_refl _) hb9)) (fun hSn => ?_)
       try simp only [Act.put,pB,pC,pD]
       clear hK K'
       have hq9:=below_next hq0 (Nat.le_refl _) hb9
       clear hb9
       refine tC 14 ⟨some 76,.pick (.tmp 67) (.tmp 75) (Operand.const (Value.bool false)), 4,_,#[⟨5,.data⟩,⟨13,.data⟩],none⟩ ?v157 rfl ?y157 (HCS.out _ hq9) ?r157; (case y157 => rintro w2 ⟨s1,s2,s3,s4⟩; go_simp; try with_reducible rfl)
       try simp only [Act.put,pB,pC,pD]
       refine wpAnyH_done (by kernel_rfl) ?_ _
       have LW9:=Lib.hid (HI.out.1.keep hq9)
       clear hq9 hq0 hs0
       go_wp2_with fail
       go_roundw
       case rel => exact ⟨k + 1,if t = k0 then R else t,r2,L2,by go_num,rfl,by omega,by split <;> omega,by
        have h1:=HI.out.2.2.2.2
        have h2:=HRR.out
        by_cases ht : t = k0
        ·rw [if_pos ht] at h1 ⊢
         rw [h1]
         exact h2
        ·rw [if_neg ht] at h1 ⊢
         exact .inl h1,Lib.hid ⟨LW9.out,by
        rw [take_snoc HX.out]
        exact step_many HR.out.2 HRT.out (L1:=L) rfl HK0.out ht0 HI.out.2.2.2.1 HAT.out HI.out.2.1 HI.out.2.2.1 rfl⟩⟩
       case measure => simp [RowKit.intOf]; omega
     ·have hxi : ¬ (t : Int) < (n : Int):=by omega
      have hxi2 : (n : Int) ≤ (t : Int):=by omega
      have hxi3 : decide ((t : Int) < (n : Int)) = false:=decide_eq_false hxi
      have hxi4 : decide (t < n) = false:=decide_eq_false htlt
      have hxi5 : n ≤ t:=by omega
      have hat : atP fo V it t = false:=by unfold atP; rw [List.getElem?_eq_none (by have:=HVN.out; omega)]
      have HAT:=Lib.hid hat
      clear hat
      go_wp2_with fail
      have HCS:=Lib.hid (fun W' (h : Below wr.heap.size wr W') => (HI.out.1.keep h).text.cell 0)
      have hq0 : Below wr.heap.size wr wr.drew:=Quiet.below ⟨1,rfl⟩ _
      have hs0:=HCS.out _ hq0
      refine wp_region_held_drew (S:=(fun w' : World => w'.cell? ⟨w.heap.size + 1,0,none⟩ = some (.slice a n c))) (by kernel_rfl) hs0 (fun hS0 => ?_)
      refine tE 0 ⟨some 62,.move (.tmp 12), 3,_,#[],none⟩ rfl hS0 ?_
      try simp only [Act.put,pB,pC,pD]
      refine tE 1 ⟨some 63,.fieldAddr 75 (.tmp 4) 0,0,_,#[],none⟩ rfl hS0 ?_
      refine tE 2 ⟨some 64,.load 72 (.tmp 63), 72,_,#[⟨1,.data⟩],none⟩ rfl hS0 ?_
      refine tE 3 ⟨some 65,.call { callee:=Callee.builtin Builtin.len,args:=#[.tmp 64],argTypes:=#[72] }, 3,_,#[⟨2,.data⟩],none⟩ rfl hS0 ?_
      try simp only [Act.put,pB,pC,pD]
      refine tE 4 ⟨some 66,.binOp BinOp.lss 3 (.tmp 62) (.tmp 65) 3, 4,_,#[⟨0,.data⟩,⟨3,.data⟩],none⟩ rfl hS0 ?_
      refine tE 5 ⟨some 67,.move (.tmp 66), 4,_,#[⟨4,.data⟩],none⟩ rfl hS0 ?_
      refine tD 6 ⟨some 68,.fieldAddr 120 (.tmp 3) 1,0,_,#[⟨5,.guard⟩],some (5,true)⟩ rfl hS0 ?_
      try simp only [Act.put,pB,pC,pD]
      refine tD 7 ⟨some 69,.load 118 (.tmp 68), 118,_,#[⟨6,.data⟩,⟨5,.guard⟩],some (5,true)⟩ rfl hS0 ?_
      refine tD 8 ⟨some 70,.fieldAddr 75 (.tmp 4) 0,0,_,#[⟨5,.guard⟩],some (5,true)⟩ rfl hS0 ?_
      refine tD 9 ⟨some 71,.load 72 (.tmp 70), 72,_,#[⟨8,.data⟩,⟨5,.guard⟩],some (5,true)⟩ rfl hS0 ?_
      try simp only [Act.put,pB,pC,pD]
      refine tD 10 ⟨some 72,.move (.tmp 12), 3,_,#[⟨5,.guard⟩],some (5,true)⟩ rfl hS0 ?_
      refine tD 11 ⟨some 73,.indexAddr 72 (.tmp 71) (.tmp 72),0,_,#[⟨9,.data⟩,⟨10,.data⟩,⟨5,.guard⟩],some (5,true)⟩ rfl hS0 ?_
      refine tD 12 ⟨some 74,.load 91 (.tmp 73), 91,_,#[⟨11,.data⟩,⟨5,.guard⟩],some (5,true)⟩ rfl hS0 ?_
      try simp only [Act.put,pB,pC,pD]
      refine tD 13 ⟨some 75,.call { callee:=Callee.value (.tmp 69),args:=#[.tmp 74],argTypes:=#[91] }, 4,_,#[⟨7,.data⟩,⟨12,.data⟩,⟨5,.chain⟩,⟨5,.guard⟩],some (5,true)⟩ rfl hS0 ?_
      refine tE 14 ⟨some 76,.pick (.tmp 67) (.tmp 75) (Operand.const (Value.bool false)), 4,_,#[⟨5,.data⟩,⟨13,.data⟩],none⟩ rfl hS0 ?_
      try simp only [Act.put,pB,pC,pD]
      have hq9:=hq0
      refine wpAnyH_done (by kernel_rfl) ?_ _
      have LW9:=Lib.hid (HI.out.1.keep hq9)
      clear hq9 hq0 hs0
      go_wp2_with fail
      go_roundw
      case rel => exact ⟨k + 1,if t = k0 then R else t,r2,L2,by go_num,rfl,by omega,by split <;> omega,by
       have h1:=HI.out.2.2.2.2
       have h2:=HRR.out
       by_cases ht : t = k0
       ·rw [if_pos ht] at h1 ⊢
        rw [h1]
        exact h2
       ·rw [if_neg ht] at h1 ⊢
        exact .inl h1,Lib.hid ⟨LW9.out,by
       rw [take_snoc HX.out]
       exact step_many HR.out.2 HRT.out (L1:=L) rfl HK0.out ht0 HI.out.2.2.2.1 HAT.out HI.out.2.1 HI.out.2.2.1 rfl⟩⟩
      case measure => simp [RowKit.intOf]; omega
  ·obtain rfl : k = m:=by omega
   obtain ⟨v,hv,hown⟩:=to_lead (v:=.nilFunc) HR.out.1
   have HOWN:=Lib.hid hown
   have hnlk : ¬ (k : Int) < (k : Int):=by omega
   clear hown hlt hk
   go_wp2_with fail
   go_ret
   refine ⟨v,L,rfl,HOWN.out,HR.out.2.rise,fun j => ?_,HR.out.1.below⟩
   have:=HR.out.2.mem j
   rwa [List.take_of_length_le (by omega)] at this
end Go.Proofs.YtchdeboialbdiaaGreatDoor
