/- Texts joined, one behind the other (SRefE). -/
import Derived.Test.YtchdeboialbdiaaGreatDoorSqy
import Derived.Test.YtchdeboialbdiaaGreatDoorSn23
import Derived.Deep.RegionWith
import Derived.Deep.RegionHeld3
namespace Go.Proofs.YtchdeboialbdiaaGreatDoor
set_option linter.unusedVariables false
set_option linter.unusedSimpArgs false
set_option maxHeartbeats 8000000
set_option maxRecDepth 100000
open Go.RowKit
open Go.Lib hiding intOf
abbrev Z1 (z : Int) : Value:=.int .i64 z
theorem vals_lenR (l : List UInt8) : (valsL l).length ≤ l.length:=by
 unfold valsL charsL
 rw [List.length_map]
 exact charsGo_len _ _ _
def ZOwn (B : Nat) (v : Value) (L : List Int) (w : World) : Prop:=w.ownsRow B 3 1 v L.length (L.map Z1)
theorem ZOwn.push {B : Nat} {v : Value} {L : List Int} {x : Int} {w : World} (h : w.ownsRow B 3 1 v (L.length + 1) (L.map Z1 ++ [Z1 x])) : ZOwn B v (L ++ [x]) w:=by
 unfold ZOwn
 rw [List.length_append,List.map_append]
 exact h
def NoBlk (v v' : Value) : Prop:=v.ownBlock = none ∨ v.ownBlock ≠ v'.ownBlock
theorem NoBlk.symm {v v' : Value} (h : NoBlk v v') : NoBlk v' v:=by
 rcases h with h | h
 ·cases hv : v'.ownBlock with
  | none => exact .inl hv
  | some b => exact .inr (by rw [hv,h]; simp)
 ·exact .inr (fun e => h e.symm)
structure RdSt (g B : Nat) (V A : List Int) (vv va : Value) (W : World) : Prop where
 row : Row W g 95 [vv,va]
 lt : g < B
 size : B ≤ W.heap.size
 vals : ZOwn B vv V W
 ats : ZOwn B va A W
 apart : NoBlk vv va
theorem RdSt.next {g B : Nat} {V A : List Int} {vv va : Value} {W W' : World} (h : RdSt g B V A vv va W) (hb : Below W.heap.size W W') : RdSt g B V A vv va W' :=
 ⟨h.row.keep hb h.row.lt,h.lt,Nat.le_trans h.size hb.size,own_below h.vals hb,own_below h.ats hb,h.apart⟩
theorem own_low {w : World} {B : Nat} {e : TypeId} {size n : Nat} {v : Value} {xs : List Value} (h : w.ownsRow B e size v n xs) {g : Nat} (hg : g < B) : some g ≠ v.ownBlock:=by
 intro hb
 obtain ⟨h1,_⟩:=own_block h hb.symm
 omega
def Kp (B g : Nat) (W W' : World) : Prop:=W'.os = W.os ∧ W'.tape = W.tape ∧ W'.output = W.output ∧ W.heap.size ≤ W'.heap.size ∧ ∀ k,k < B → k ≠ g → W'.heap[k]? = W.heap[k]?
theorem Kp.refl (B g : Nat) (W : World) : Kp B g W W:=⟨rfl,rfl,rfl,Nat.le_refl _,fun _ _ _ => rfl⟩
theorem Kp.trans {B g : Nat} {a b c : World} (h : Kp B g a b) (k : Kp B g b c) : Kp B g a c:=⟨k.1.trans h.1,k.2.1.trans h.2.1,k.2.2.1.trans h.2.2.1,Nat.le_trans h.2.2.2.1 k.2.2.2.1,fun i h1 h2 => (k.2.2.2.2 i h1 h2).trans (h.2.2.2.2 i h1 h2)⟩
theorem Kp.below {B g B' : Nat} {W W' : World} (h : Below B' W W') (hB : B ≤ B') : Kp B g W W':=⟨h.os,h.tape,h.output,h.size,fun k h1 _ => h.block k (by omega)⟩
theorem Kp.out {B g B' : Nat} {W W' : World} (h : Kp B g W W') (hB : B' ≤ B) (hg : B' ≤ g) : Below B' W W':=⟨h.1,h.2.1,h.2.2.1,h.2.2.2.1,fun k hk => h.2.2.2.2 k (by omega) (by omega)⟩
theorem RdSt.pushV {g B : Nat} {V A : List Int} {vv va v' : Value} {W w' : World} {z : Int} (h : RdSt g B V A vv va W) (hp : AppPost W B 3 1 vv V.length (V.map Z1) [.int .i64 z] v' w') : RdSt g B (V ++ [z]) A v' va (w'.setCell ⟨g,0,none⟩ v') ∧ Kp B g W (w'.setCell ⟨g,0,none⟩ v') ∧ Row w' g 95 [vv,va]:=by
 have hr : Row w' g 95 [vv,va]:=(hp.2.1.block g h.row.lt (own_low h.vals h.lt)).trans h.row
 have hv : ZOwn B v' (V ++ [z]) w':=ZOwn.push hp.1
 have ha : ZOwn B va A w':=h.ats.kept hp.2.1 h.apart.symm
 have hs:=grownBy_set w' g 0 v'
 have hb:=Nat.le_trans h.size hp.2.1.size
 refine ⟨⟨hr.set 0 v',h.lt,Nat.le_trans hb hs.size,World.ownsRow.kept hv hs (.inr (own_low hv h.lt).symm),World.ownsRow.kept ha hs (.inr (own_low ha h.lt).symm),?_⟩,?_,hr⟩
 ·rcases hp.2.2 with h1 | h1
  ·unfold NoBlk
   rw [h1]
   exact h.apart
  ·cases hb2 : v'.ownBlock with
   | none => exact .inl hb2
   | some b =>
    right
    intro e
    rw [hb2] at e
    obtain ⟨_,cur,hcur⟩:=own_block h.ats e.symm
    have:=(Array.getElem?_eq_some_iff.1 hcur).1
    have:=h1 b hb2
    omega
 ·refine ⟨hs.os.trans hp.2.1.os,hs.tape.trans hp.2.1.tape,hs.output.trans hp.2.1.output,Nat.le_trans hp.2.1.size hs.size,fun k h1 h2 => ?_⟩
  have hkW : k < W.heap.size:=by have:=h.size; omega
  rw [hs.block k (Nat.lt_of_lt_of_le hkW hp.2.1.size) (fun e => h2 (Option.some.inj e)),hp.2.1.block k hkW (own_low h.vals h1)]
theorem RdSt.pushA {g B : Nat} {V A : List Int} {vv va v' : Value} {W w' : World} {z : Int} (h : RdSt g B V A vv va W) (hp : AppPost W B 3 1 va A.length (A.map Z1) [.int .i64 z] v' w') : RdSt g B V (A ++ [z]) vv v' (w'.setCell ⟨g,1,none⟩ v') ∧ Kp B g W (w'.setCell ⟨g,1,none⟩ v') ∧ Row w' g 95 [vv,va]:=by
 have hr : Row w' g 95 [vv,va]:=(hp.2.1.block g h.row.lt (own_low h.ats h.lt)).trans h.row
 have ha : ZOwn B v' (A ++ [z]) w':=ZOwn.push hp.1
 have hv : ZOwn B vv V w':=h.vals.kept hp.2.1 h.apart
 have hs:=grownBy_set w' g 1 v'
 have hb:=Nat.le_trans h.size hp.2.1.size
 refine ⟨⟨hr.set 1 v',h.lt,Nat.le_trans hb hs.size,World.ownsRow.kept hv hs (.inr (own_low hv h.lt).symm),World.ownsRow.kept ha hs (.inr (own_low ha h.lt).symm),?_⟩,?_,hr⟩
 ·rcases hp.2.2 with h1 | h1
  ·unfold NoBlk
   rw [h1]
   exact h.apart
  ·cases hb2 : v'.ownBlock with
   | none => exact NoBlk.symm (.inl hb2)
   | some b =>
    refine NoBlk.symm (.inr ?_)
    intro e
    rw [hb2] at e
    obtain ⟨_,cur,hcur⟩:=own_block h.vals e.symm
    have:=(Array.getElem?_eq_some_iff.1 hcur).1
    have:=h1 b hb2
    omega
 ·refine ⟨hs.os.trans hp.2.1.os,hs.tape.trans hp.2.1.tape,hs.output.trans hp.2.1.output,Nat.le_trans hp.2.1.size hs.size,fun k h1 h2 => ?_⟩
  have hkW : k < W.heap.size:=by have:=h.size; omega
  rw [hs.block k (Nat.lt_of_lt_of_le hkW hp.2.1.size) (fun e => h2 (Option.some.inj e)),hp.2.1.block k hkW (own_low h.ats h1)]
theorem app_shapeR {W W' : World} {B m : Nat} {v v' : Value} {fs cs : List Value} {e : TypeId} (hp : AppPost W B e 1 v m fs cs v' W') : ∃ g cap,v' = .slice (some ⟨g,0,none⟩) (m + 1) cap:=by
 rcases hp.1.2 with ⟨_,q2⟩ | ⟨g,cap,cur,hv,_⟩
 ·omega
 ·exact ⟨g,cap,hv⟩
theorem Kp.app {g B : Nat} {V A : List Int} {vv va v' : Value} {W w' : World} {z : Int} (h : RdSt g B V A vv va W) (hp : AppPost W B 3 1 vv V.length (V.map Z1) [.int .i64 z] v' w') : Kp B g W w' :=
 ⟨hp.2.1.os,hp.2.1.tape,hp.2.1.output,hp.2.1.size,fun k h1 h2 => hp.2.1.block k (by have:=h.size; omega) (own_low h.vals h1)⟩
def IntsAt (w : World) (g : Nat) (L : List Int) : Prop:=g < w.heap.size ∧ ∀ (k : Nat) (x : Int),L[k]? = some x → w.cell? ⟨g,k,none⟩ = some (.int .i64 x)
theorem IntsAt.keep {B : Nat} {w w' : World} {g : Nat} {L : List Int} (h : IntsAt w g L) (hb : Below B w w') (hB : w.heap.size ≤ B) : IntsAt w' g L :=
 ⟨Nat.lt_of_lt_of_le h.1 hb.size,fun k x hx => by rw [hb.cell (p:=⟨g,k,none⟩) (Nat.lt_of_lt_of_le h.1 hB)]; exact h.2 k x hx⟩
theorem ZOwn.shape {B : Nat} {v : Value} {L : List Int} {w : World} (h : ZOwn B v L w) (hn : 0 < L.length) : ∃ g c,v = .slice (some ⟨g,0,none⟩) L.length c ∧ IntsAt w g L ∧ B ≤ g:=by
 rcases h.2 with ⟨rfl,h0⟩ | ⟨g,cap,cur,rfl,hB,hg,hc1,hc2,hc3,hc4⟩
 ·omega
 ·refine ⟨g,_,rfl,⟨(Array.getElem?_eq_some_iff.1 hg).1,fun k x hx => ?_⟩,hB⟩
  have hk : k < L.length:=(List.getElem?_eq_some_iff.1 hx).1
  rw [Nat.mul_one] at hc4
  have hm : (L.map Z1)[k]? = some (Z1 x):=by rw [List.getElem?_map,hx]; rfl
  rw [← hc4,List.getElem?_take,if_pos hk] at hm
  simp only [World.cell?,hg]
  simpa using hm
theorem own_cap {B e : Nat} {a : Option Addr} {n m c size : Nat} {xs : List Value} {w : World} (h : w.ownsRow B e size (.slice a n c) m xs) : m ≤ c:=by
 rcases h.2 with ⟨h1,h0⟩ | ⟨g,cap,cur,h1,hB,hg,hc1,hc2,hc3,hc4⟩
 ·omega
 ·simp only [Value.slice.injEq] at h1
  omega
def toZ (L : List Nat) : List Int:=L.map Int.ofNat
def ReaderP (w : World) (l : List UInt8) (e : Ending) (w' : World) : Prop :=
 ∃ g1 c1 g2 c2,e = .returned (.agg #[.slice (some ⟨g1,0,none⟩) ((valsL l).length + 1) c1,.slice (some ⟨g2,0,none⟩) ((valsL l).length + 1) c2]) ∧ IntsAt w' g1 (toZ (valsL l) ++ [-1]) ∧ IntsAt w' g2 (toZ (atsL l)) ∧ Below w.heap.size w w' ∧ w.heap.size ≤ g1 ∧ w.heap.size ≤ g2 ∧ (valsL l).length + 1 ≤ c1
theorem readerR6 (w : World) (l : List UInt8) (hm : l.length ≤ 67108864) :
  Calls Tryz.prog 35 #[.string (bstr l)] w (ReaderP w l):=by
 obtain ⟨w0,hw0⟩ : ∃ W,W = (w.alloc (.cells #[.slice none 0 0,.slice none 0 0] 95)).alloc (.cells #[.slice none 0 0,.slice none 0 0] 95):=⟨_,rfl⟩
 have hs0 : w0.heap.size = w.heap.size + 2:=by rw [hw0]; simp
 have hb0 : Below w.heap.size w w0:=by rw [hw0]; exact ((Below.refl _ w).alloc (Nat.le_refl _) _).alloc (by simp) _
 have hr0 : Row w0 w.heap.size 95 [.slice none 0 0,.slice none 0 0]:=by rw [hw0]; exact (row_new w [.slice none 0 0,.slice none 0 0] _).alloc _
 have hr1 : Row w0 (w.heap.size + 1) 95 [.slice none 0 0,.slice none 0 0]:=by
  rw [hw0]
  have:=row_new (w.alloc (.cells #[.slice none 0 0,.slice none 0 0] 95)) [.slice none 0 0,.slice none 0 0] 95
  rwa [World.size_alloc] at this
 have hC : Calls Tryz.prog 25 #[.string (bstr l)] w0 fun e w' => ∃ a c,e = .returned (.slice a (charsW l).length c) ∧ ReadsCh w' a (charsW l).length (charsW l) ∧ Below w0.heap.size w0 w' ∧ ∀ ad,a = some ad → w0.heap.size ≤ ad.block:=(charsR6 w0 l hm).mono (by
  rintro e w' ⟨v,rfl,ho,hb⟩
  obtain ⟨a,c,rfl,hr,ha⟩:=ho.shape
  exact ⟨a,c,rfl,hr,hb,fun ad h => (ha ad h).1⟩)
 have hA:=charsW_ats l
 have hV:=charsW_vals l
 have hlen:=charsW_len l
 have hvl2:=vals_lenR l
 obtain ⟨L,hL⟩ : ∃ L,charsW l = L:=⟨_,rfl⟩
 have HVA:=Lib.hid (fun W (p : Nat × Nat × Nat) (hp : p ∈ L) => valueR6 W l p (by rw [hL]; exact hp) hm)
 rw [hL] at hC hA hlen hV
 obtain ⟨n,hn⟩ : ∃ n,L.length = n:=⟨_,rfl⟩
 rw [hn] at hC hlen
 rw [← hlen] at hvl2
 have HLEN:=Lib.hid hlen
 have HC:=Lib.hid hC
 have HA:=Lib.hid hA
 have HV:=Lib.hid hV
 have HN:=Lib.hid hn
 have hnb : n ≤ 67108864:=by omega
 have HB0:=Lib.hid hb0
 have HR0:=Lib.hid hr0
 have HR1:=Lib.hid hr1
 have HW0:=Lib.hid hw0
 clear hC hA hlen hV hvl2 hL hn hb0 hr0 hr1 hw0
 go_enter Tryz.func35, Tryz.ntmps35
 go_upto_region 2 with fail
 rw [← HW0.out]
 go_wp2_with (go_at_call 25; refine (HC.out).mono ?_; rintro e w2 ⟨a,c,rfl,hr,hb,ha⟩; have HR:=Lib.hid hr; have HB2:=Lib.hid hb; have HAD:=Lib.hid ha; clear hr hb ha)
 obtain ⟨g,hg⟩ : ∃ g,g = w.heap.size + 1:=⟨_,rfl⟩
 obtain ⟨B,hB⟩ : ∃ B,B = w2.heap.size:=⟨_,rfl⟩
 have hst0 : RdSt g B [] [] (.slice none 0 0) (.slice none 0 0) w2:=by
  have h1:=HB2.out.size
  exact ⟨by rw [hg]; exact HR1.out.keep HB2.out (by omega),by omega,by omega,World.ownsRow_nil _ _ _ _,World.ownsRow_nil _ _ _ _,.inl rfl⟩
 have HS0:=Lib.hid hst0
 have HBB:=Lib.hid hB
 have HG:=Lib.hid hg
 rw [← hg]
 have HWB : Hid (w.heap.size < B):=Lib.hid (by have:=HB2.out.size; omega)
 have HWG : Hid (w.heap.size ≠ g):=Lib.hid (by omega)
 clear hst0 hB hg
 go_loopw [5] (fun ui wr => ∃ (i : Nat) (vv va : Value),ui = .int .i64 (i : Int) ∧ i ≤ n ∧ Hid (RdSt g B ((L.take i).map fun p => (p.1 : Int)) ((L.take i).map fun p => (p.2.1 : Int)) vv va wr ∧ Kp B g w2 wr)) (fun ui _ => n - (RowKit.intOf ui).toNat)
 case atStart => exact ⟨0,_,_,rfl,Nat.zero_le _,Lib.hid ⟨HS0.out,Kp.refl _ _ _⟩⟩
 case round =>
  obtain ⟨i,vv,va,rfl,hi,HI⟩:=hrel
  by_cases hlt : i < n
  ·have hin : (i : Int) < (n : Int):=by omega
   have hiL : i < L.length:=by rw [HN.out]; exact hlt
   obtain ⟨q,hq⟩ : ∃ q,L[i] = q:=⟨_,rfl⟩
   have hx : L[i]? = some q:=by rw [List.getElem?_eq_getElem hiL,hq]
   obtain ⟨b,rfl,hbl,hc⟩:=HR.out.2 (by omega)
   have hbB : b < B:=by rw [HBB.out]; exact hbl
   have hbg : b ≠ g:=by
    have:=HAD.out _ rfl
    have:=HG.out
    dsimp only at *
    omega
   have hcs:=hc i q hx
   have hcw : ∀ W,Kp B g w2 W → W.cell? ⟨b,i * 4,none⟩ = some (.int .i64 (q.2.1 : Int)) ∧ W.cell? ⟨b,i * 4 + 1,none⟩ = some (.int .i32 (tokR q.1 : Int)) ∧ W.cell? ⟨b,i * 4 + 2,none⟩ = some (.int .i64 (q.2.2 : Int)) ∧ W.cell? ⟨b,i * 4 + 3,none⟩ = some (.bool (decide (q.1 < wrongN))):=by
    intro W hk
    have hbk:=hk.2.2.2.2 b hbB hbg
    exact ⟨by rw [World.cell?_of_block (a:=⟨b,i * 4,none⟩) hbk]; exact hcs.1,by rw [World.cell?_of_block (a:=⟨b,i * 4 + 1,none⟩) hbk]; exact hcs.2.1,by rw [World.cell?_of_block (a:=⟨b,i * 4 + 2,none⟩) hbk]; exact hcs.2.2.1,by rw [World.cell?_of_block (a:=⟨b,i * 4 + 3,none⟩) hbk]; exact hcs.2.2.2⟩
   have htk : L.take (i + 1) = L.take i ++ [q]:=by rw [List.take_add_one,hx]; rfl
   have HCV:=Lib.hid (fun W => HVA.out W q (List.mem_of_getElem? hx))
   obtain ⟨q1,q2,q3⟩:=q
   dsimp only at hcw HCV
   obtain ⟨R,hR⟩ : ∃ R,tokR q1 = R:=⟨_,rfl⟩
   obtain ⟨bw,hbw⟩ : ∃ b,decide (q1 < wrongN) = b:=⟨_,rfl⟩
   rw [hR,hbw] at hcw HCV
   have hcwr:=hcw wr HI.out.2
   obtain ⟨c0,c1,c2,c3⟩:=hcwr
   have HCW:=Lib.hid hcw
   have HTK:=Lib.hid htk
   have HRD:=Lib.hid HI.out.1
   have x0 : wr.cell? ⟨g,0,none⟩ = some vv:=HRD.out.row.cell 0
   have x1 : wr.cell? ⟨g,1,none⟩ = some va:=HRD.out.row.cell 1
   clear hc hx hq hiL hcs hcw htk hR hbw
   have hvl : ((L.take i).map fun p => (p.1 : Int)).length = i:=by rw [List.length_map,List.length_take,HN.out]; omega
   have hal : ((L.take i).map fun p => (p.2.1 : Int)).length = i:=by rw [List.length_map,List.length_take,HN.out]; omega
   obtain ⟨VV,hVV⟩ : ∃ VV,((L.take i).map fun p => (p.1 : Int)) = VV:=⟨_,rfl⟩
   obtain ⟨AA,hAA⟩ : ∃ AA,((L.take i).map fun p => (p.2.1 : Int)) = AA:=⟨_,rfl⟩
   rw [hVV,hAA] at HRD
   rw [hVV] at hvl
   rw [hAA] at hal
   have HVL:=Lib.hid hvl
   have HAL:=Lib.hid hal
   have HVV:=Lib.hid hVV
   have HAA:=Lib.hid hAA
   clear hvl hal hVV hAA
   go_wp2_with fail
   have KD:=Lib.hid (HI.out.2.trans (Kp.below (B:=B) (g:=g) (B':=wr.heap.size) ((Below.refl _ wr).drew) HRD.out.size))
   have RD:=Lib.hid (HRD.out.next ((Below.refl _ wr).drew))
   have SD:=Lib.hid (HCW.out _ KD.out)
   have xd : wr.drew.cell? ⟨g,0,none⟩ = some vv:=RD.out.row.cell 0
   refine wp_region_held_drew (S:=(fun w' : World => w'.cell? ⟨b,i * 4,none⟩ = some (.int .i64 (q2 : Int)) ∧ w'.cell? ⟨b,i * 4 + 1,none⟩ = some (.int .i32 (R : Int)) ∧ w'.cell? ⟨b,i * 4 + 2,none⟩ = some (.int .i64 (q3 : Int)) ∧ w'.cell? ⟨b,i * 4 + 3,none⟩ = some (.bool bw))) (by kernel_rfl) SD.out (fun hS0 => ?_)
   refine tF 0 ⟨some 14,.fieldAddr 95 (.tmp 3) 0,0,_,#[],none⟩ rfl SD.out ?_
   refine tF 2 ⟨some 16,.move (.tmp 0), 9,_,#[],none⟩ rfl SD.out ?_
   refine tF 3 ⟨some 17,.move (.tmp 4), 67,_,#[],none⟩ rfl SD.out ?_
   try simp only [Act.put,pB,pC,pD]
   refine tF 4 ⟨some 18,.move (.tmp 5), 3,_,#[],none⟩ rfl SD.out ?_
   refine tF 5 ⟨some 19,.indexAddr 67 (.tmp 17) (.tmp 18),0,_,#[⟨3,.data⟩,⟨4,.data⟩],none⟩ rfl SD.out ?_
   refine tF 6 ⟨some 20,.load 114 (.tmp 19), 114,_,#[⟨5,.data⟩],none⟩ rfl SD.out ?_
   try simp only [Act.put,pB,pC,pD]
   refine wpAnyH_ready (rs:=[1,7]) (by kernel_rfl) (by simp) (AllReadyH.cons rfl (fun K' hK => ?p1c7) (AllReadyH.cons rfl (fun K' hK => ?p7c7) AllReadyH.nil))
   case p1c7 =>
    go_simp
    refine hK.out _ _ SD.out (fun hSn => ?_)
    try simp only [Act.put,pB,pC,pD]
    clear hK K'
    refine wpAnyH_ready (rs:=[7]) (by kernel_rfl) (by simp) (AllReadyH.cons (o:=⟨some 21,.call { callee:=Callee.value (Operand.func 53),args:=#[.tmp 16,.tmp 20],argTypes:=#[9, 114] }, 3, "ref.go:55",#[⟨2,.data⟩,⟨6,.data⟩],none⟩) rfl (fun K' hK => ?_) AllReadyH.nil)
    go_simp
    refine (HCV.out _).mono ?_
    rintro e w3 ⟨rfl,hb3⟩
    have K3:=Lib.hid (KD.out.trans (Kp.below (B:=B) (g:=g) hb3 RD.out.size))
    have R3:=Lib.hid (RD.out.next hb3)
    have x3 : w3.cell? ⟨g,0,none⟩ = some vv:=R3.out.row.cell 0
    have x3a : (w3.alloc (.cells #[.int .i64 (q1 : Int)] 3)).cell? ⟨g,0,none⟩ = some vv:=(R3.out.next ((Below.refl _ w3).alloc (Nat.le_refl _) _)).row.cell 0
    clear hb3
    show K' _ _
    refine hK.out _ _ (HCW.out _ K3.out) (fun hSn => ?_)
    try simp only [Act.put,pB,pC,pD]
    clear hK K'
    refine wpAnyH_ready (rs:=[8]) (by kernel_rfl) (by simp) (AllReadyH.cons (o:=⟨some 22,.buildSlice 73 1 #[(0,.tmp 21)], 73, "ref.go:55",#[⟨7,.data⟩],none⟩) rfl (fun K' hK => ?_) AllReadyH.nil)
    go_simp
    refine hK.out _ _ (HCW.out _ (K3.out.trans (Kp.below (B':=w3.heap.size) ((Below.refl _ w3).alloc (Nat.le_refl _) _) R3.out.size))) (fun hSn => ?_)
    try simp only [Act.put,pB,pC,pD]
    clear hK K'
    refine wpAnyH_ready (rs:=[9]) (by kernel_rfl) (by simp) (AllReadyH.cons (o:=⟨some 23,.call { callee:=Callee.builtin Builtin.append,args:=#[.tmp 15,.tmp 22],argTypes:=#[73, 73] }, 73, "ref.go:55",#[⟨1,.data⟩,⟨8,.data⟩,⟨7,.chain⟩],none⟩) rfl (fun K' hK => ?_) AllReadyH.nil)
    refine stepSep (by rfl) _ _ (by rfl) Tryz.underlying73 (.int .i64 0) 1 8 infoInt (by rfl) (by decide) (by decide) B w3 vv VV.length (VV.map Z1) [.int .i64 (q1 : Int)] (by rfl) (by intro u hu; simp only [List.mem_singleton] at hu; subst hu; rfl) (by rfl) R3.out.vals (by rfl) (by rfl) (by rw [HVL.out]; omega) R3.out.size ?_
    intro v8 w8 hp8
    obtain ⟨g8,cap8,rfl⟩:=app_shapeR hp8
    obtain ⟨r8,k8,y8⟩:=R3.out.pushV hp8
    have z8 : w8.cell? ⟨g,0,none⟩ = some vv:=y8.cell 0
    have z9:=y8.frozen 0
    have z7:=y8.lt
    have HP8:=Lib.hid hp8
    have K8:=Lib.hid (K3.out.trans k8)
    have R8:=Lib.hid r8
    have S8:=Lib.hid (HCW.out _ (K3.out.trans (Kp.app R3.out hp8)))
    clear r8 k8 y8 hp8
    refine hK.out _ _ S8.out (fun hSn => ?_)
    try simp only [Act.put,pB,pC,pD]
    clear hK K'
    refine tE 10 ⟨some 24,.fieldAddr 95 (.tmp 3) 0,0,_,pa [] 10,none⟩ rfl S8.out ?_
    try simp only [Act.put,pB,pC,pD]
    refine wpAnyH_ready (rs:=[11]) (by kernel_rfl) (by simp) (AllReadyH.cons (o:=⟨none,.store 73 (.tmp 24) (.tmp 23),0, "ref.go:55",#[⟨10,.data⟩,⟨9,.data⟩,⟨9,.chain⟩,⟨0,.phase⟩,⟨1,.phase⟩,⟨2,.phase⟩,⟨3,.phase⟩,⟨4,.phase⟩,⟨5,.phase⟩,⟨6,.phase⟩,⟨7,.phase⟩,⟨8,.phase⟩,⟨9,.phase⟩],none⟩) rfl (fun K' hK => ?_) AllReadyH.nil)
    go_simp
    refine hK.out _ _ (HCW.out _ K8.out) (fun hSn => ?_)
    try simp only [Act.put,pB,pC,pD]
    clear hK K'
    refine wpAnyH_done (by kernel_rfl) ?_ _
    clear x3 x3a z8 z9 z7
    obtain ⟨vv2,hvv2⟩ : ∃ v : Value,v = .slice (some ⟨g8,0,none⟩) (VV.length + 1) cap8:=⟨_,rfl⟩
    clear S8 HP8
    rw [← hvv2] at R8 K8 ⊢
    obtain ⟨w9,hw9⟩ : ∃ W,W = w8.setCell ⟨g,0,none⟩ vv2:=⟨_,rfl⟩
    rw [← hw9] at R8 K8 ⊢
    have R9:=Lib.hid (R8.out.next ((Below.refl _ w9).drew))
    have K9:=Lib.hid (K8.out.trans (Kp.below (B:=B) (g:=g) (B':=w9.heap.size) ((Below.refl _ w9).drew) R8.out.size))
    have d0:=(HCW.out w9 K8.out).1
    have y1 : w9.cell? ⟨g,1,none⟩ = some va:=R8.out.row.cell 1
    have y1a : (w9.alloc (.cells #[.int .i64 (q2 : Int)] 3)).cell? ⟨g,1,none⟩ = some va:=(R8.out.next ((Below.refl _ w9).alloc (Nat.le_refl _) _)).row.cell 1
    have R9s:=R9.out.size
    clear hw9 hvv2 c0 c1 c2 c3 x0 x1 xd HRD RD SD KD K3 R3 hS0
    go_wp2_with fail
    go_region_law (refine stepSep (by rfl) _ _ (by rfl) Tryz.underlying73 (.int .i64 0) 1 8 infoInt (by rfl) (by decide) (by decide) B w9.drew va AA.length (AA.map Z1) [.int .i64 (q2 : Int)] (by rfl) (by intro u hu; simp only [List.mem_singleton] at hu; subst hu; rfl) (by rfl) R9.out.ats (by rfl) (by rfl) (by rw [HAL.out]; omega) R9.out.size ?_; intro v8 w10 hp8; obtain ⟨g9,cap9,rfl⟩:=app_shapeR hp8; obtain ⟨r8,k8,y8⟩:=R9.out.pushA hp8; have z8 : w10.cell? ⟨g,1,none⟩ = some va:=y8.cell 1; have z9:=y8.frozen 1; have z7:=y8.lt; have K10:=Lib.hid (K9.out.trans k8); have R10:=Lib.hid r8; clear r8 k8 y8 hp8)
    all_goals go_wp2_with fail
    all_goals go_roundw
    all_goals first
     | exact ⟨i + 1,vv2,_,by go_num,by omega,Lib.hid ⟨by rw [HTK.out,List.map_append,List.map_append,HVV.out,HAA.out]; exact R10.out,K10.out⟩⟩
     | (simp [RowKit.intOf]; omega)
   case p7c7 =>
    go_simp
    refine (HCV.out _).mono ?_
    rintro e w3 ⟨rfl,hb3⟩
    have K3:=Lib.hid (KD.out.trans (Kp.below (B:=B) (g:=g) hb3 RD.out.size))
    have R3:=Lib.hid (RD.out.next hb3)
    have x3 : w3.cell? ⟨g,0,none⟩ = some vv:=R3.out.row.cell 0
    have x3a : (w3.alloc (.cells #[.int .i64 (q1 : Int)] 3)).cell? ⟨g,0,none⟩ = some vv:=(R3.out.next ((Below.refl _ w3).alloc (Nat.le_refl _) _)).row.cell 0
    clear hb3
    show K' _ _
    refine hK.out _ _ (HCW.out _ K3.out) (fun hSn => ?_)
    try simp only [Act.put,pB,pC,pD]
    clear hK K'
    refine wpAnyH_ready (rs:=[1,8]) (by kernel_rfl) (by simp) (AllReadyH.cons rfl (fun K' hK => ?p1c9) (AllReadyH.cons rfl (fun K' hK => ?p8c9) AllReadyH.nil))
    case p1c9 =>
     go_simp
     refine hK.out _ _ (HCW.out _ K3.out) (fun hSn => ?_)
     try simp only [Act.put,pB,pC,pD]
     clear hK K'
     refine wpAnyH_ready (rs:=[8]) (by kernel_rfl) (by simp) (AllReadyH.cons (o:=⟨some 22,.buildSlice 73 1 #[(0,.tmp 21)], 73, "ref.go:55",#[⟨7,.data⟩],none⟩) rfl (fun K' hK => ?_) AllReadyH.nil)
     go_simp
     refine hK.out _ _ (HCW.out _ (K3.out.trans (Kp.below (B':=w3.heap.size) ((Below.refl _ w3).alloc (Nat.le_refl _) _) R3.out.size))) (fun hSn => ?_)
     try simp only [Act.put,pB,pC,pD]
     clear hK K'
     refine wpAnyH_ready (rs:=[9]) (by kernel_rfl) (by simp) (AllReadyH.cons (o:=⟨some 23,.call { callee:=Callee.builtin Builtin.append,args:=#[.tmp 15,.tmp 22],argTypes:=#[73, 73] }, 73, "ref.go:55",#[⟨1,.data⟩,⟨8,.data⟩,⟨7,.chain⟩],none⟩) rfl (fun K' hK => ?_) AllReadyH.nil)
     refine stepSep (by rfl) _ _ (by rfl) Tryz.underlying73 (.int .i64 0) 1 8 infoInt (by rfl) (by decide) (by decide) B w3 vv VV.length (VV.map Z1) [.int .i64 (q1 : Int)] (by rfl) (by intro u hu; simp only [List.mem_singleton] at hu; subst hu; rfl) (by rfl) R3.out.vals (by rfl) (by rfl) (by rw [HVL.out]; omega) R3.out.size ?_
     intro v8 w8 hp8
     obtain ⟨g8,cap8,rfl⟩:=app_shapeR hp8
     obtain ⟨r8,k8,y8⟩:=R3.out.pushV hp8
     have z8 : w8.cell? ⟨g,0,none⟩ = some vv:=y8.cell 0
     have z9:=y8.frozen 0
     have z7:=y8.lt
     have HP8:=Lib.hid hp8
     have K8:=Lib.hid (K3.out.trans k8)
     have R8:=Lib.hid r8
     have S8:=Lib.hid (HCW.out _ (K3.out.trans (Kp.app R3.out hp8)))
     clear r8 k8 y8 hp8
     refine hK.out _ _ S8.out (fun hSn => ?_)
     try simp only [Act.put,pB,pC,pD]
     clear hK K'
     refine tE 10 ⟨some 24,.fieldAddr 95 (.tmp 3) 0,0,_,pa [] 10,none⟩ rfl S8.out ?_
     try simp only [Act.put,pB,pC,pD]
     refine wpAnyH_ready (rs:=[11]) (by kernel_rfl) (by simp) (AllReadyH.cons (o:=⟨none,.store 73 (.tmp 24) (.tmp 23),0, "ref.go:55",#[⟨10,.data⟩,⟨9,.data⟩,⟨9,.chain⟩,⟨0,.phase⟩,⟨1,.phase⟩,⟨2,.phase⟩,⟨3,.phase⟩,⟨4,.phase⟩,⟨5,.phase⟩,⟨6,.phase⟩,⟨7,.phase⟩,⟨8,.phase⟩,⟨9,.phase⟩],none⟩) rfl (fun K' hK => ?_) AllReadyH.nil)
     go_simp
     refine hK.out _ _ (HCW.out _ K8.out) (fun hSn => ?_)
     try simp only [Act.put,pB,pC,pD]
     clear hK K'
     refine wpAnyH_done (by kernel_rfl) ?_ _
     clear x3 x3a z8 z9 z7
     obtain ⟨vv2,hvv2⟩ : ∃ v : Value,v = .slice (some ⟨g8,0,none⟩) (VV.length + 1) cap8:=⟨_,rfl⟩
     clear S8 HP8
     rw [← hvv2] at R8 K8 ⊢
     obtain ⟨w9,hw9⟩ : ∃ W,W = w8.setCell ⟨g,0,none⟩ vv2:=⟨_,rfl⟩
     rw [← hw9] at R8 K8 ⊢
     have R9:=Lib.hid (R8.out.next ((Below.refl _ w9).drew))
     have K9:=Lib.hid (K8.out.trans (Kp.below (B:=B) (g:=g) (B':=w9.heap.size) ((Below.refl _ w9).drew) R8.out.size))
     have d0:=(HCW.out w9 K8.out).1
     have y1 : w9.cell? ⟨g,1,none⟩ = some va:=R8.out.row.cell 1
     have y1a : (w9.alloc (.cells #[.int .i64 (q2 : Int)] 3)).cell? ⟨g,1,none⟩ = some va:=(R8.out.next ((Below.refl _ w9).alloc (Nat.le_refl _) _)).row.cell 1
     have R9s:=R9.out.size
     clear hw9 hvv2 c0 c1 c2 c3 x0 x1 xd HRD RD SD KD K3 R3 hS0
     go_wp2_with fail
     go_region_law (refine stepSep (by rfl) _ _ (by rfl) Tryz.underlying73 (.int .i64 0) 1 8 infoInt (by rfl) (by decide) (by decide) B w9.drew va AA.length (AA.map Z1) [.int .i64 (q2 : Int)] (by rfl) (by intro u hu; simp only [List.mem_singleton] at hu; subst hu; rfl) (by rfl) R9.out.ats (by rfl) (by rfl) (by rw [HAL.out]; omega) R9.out.size ?_; intro v8 w10 hp8; obtain ⟨g9,cap9,rfl⟩:=app_shapeR hp8; obtain ⟨r8,k8,y8⟩:=R9.out.pushA hp8; have z8 : w10.cell? ⟨g,1,none⟩ = some va:=y8.cell 1; have z9:=y8.frozen 1; have z7:=y8.lt; have K10:=Lib.hid (K9.out.trans k8); have R10:=Lib.hid r8; clear r8 k8 y8 hp8)
     all_goals go_wp2_with fail
     all_goals go_roundw
     all_goals first
      | exact ⟨i + 1,vv2,_,by go_num,by omega,Lib.hid ⟨by rw [HTK.out,List.map_append,List.map_append,HVV.out,HAA.out]; exact R10.out,K10.out⟩⟩
      | (simp [RowKit.intOf]; omega)
    case p8c9 =>
     go_simp
     refine hK.out _ _ (HCW.out _ (K3.out.trans (Kp.below (B':=w3.heap.size) ((Below.refl _ w3).alloc (Nat.le_refl _) _) R3.out.size))) (fun hSn => ?_)
     try simp only [Act.put,pB,pC,pD]
     clear hK K'
     refine wpAnyH_ready (rs:=[1]) (by kernel_rfl) (by simp) (AllReadyH.cons (o:=⟨some 15,.load 73 (.tmp 14), 73, "ref.go:55",#[⟨0,.data⟩],none⟩) rfl (fun K' hK => ?_) AllReadyH.nil)
     go_simp
     refine hK.out _ _ (HCW.out _ (K3.out.trans (Kp.below (B':=w3.heap.size) ((Below.refl _ w3).alloc (Nat.le_refl _) _) R3.out.size))) (fun hSn => ?_)
     try simp only [Act.put,pB,pC,pD]
     clear hK K'
     refine wpAnyH_ready (rs:=[9]) (by kernel_rfl) (by simp) (AllReadyH.cons (o:=⟨some 23,.call { callee:=Callee.builtin Builtin.append,args:=#[.tmp 15,.tmp 22],argTypes:=#[73, 73] }, 73, "ref.go:55",#[⟨1,.data⟩,⟨8,.data⟩,⟨7,.chain⟩],none⟩) rfl (fun K' hK => ?_) AllReadyH.nil)
     refine stepSep (by rfl) _ _ (by rfl) Tryz.underlying73 (.int .i64 0) 1 8 infoInt (by rfl) (by decide) (by decide) B w3 vv VV.length (VV.map Z1) [.int .i64 (q1 : Int)] (by rfl) (by intro u hu; simp only [List.mem_singleton] at hu; subst hu; rfl) (by rfl) R3.out.vals (by rfl) (by rfl) (by rw [HVL.out]; omega) R3.out.size ?_
     intro v8 w8 hp8
     obtain ⟨g8,cap8,rfl⟩:=app_shapeR hp8
     obtain ⟨r8,k8,y8⟩:=R3.out.pushV hp8
     have z8 : w8.cell? ⟨g,0,none⟩ = some vv:=y8.cell 0
     have z9:=y8.frozen 0
     have z7:=y8.lt
     have HP8:=Lib.hid hp8
     have K8:=Lib.hid (K3.out.trans k8)
     have R8:=Lib.hid r8
     have S8:=Lib.hid (HCW.out _ (K3.out.trans (Kp.app R3.out hp8)))
     clear r8 k8 y8 hp8
     refine hK.out _ _ S8.out (fun hSn => ?_)
     try simp only [Act.put,pB,pC,pD]
     clear hK K'
     refine tE 10 ⟨some 24,.fieldAddr 95 (.tmp 3) 0,0,_,pa [] 10,none⟩ rfl S8.out ?_
     try simp only [Act.put,pB,pC,pD]
     refine wpAnyH_ready (rs:=[11]) (by kernel_rfl) (by simp) (AllReadyH.cons (o:=⟨none,.store 73 (.tmp 24) (.tmp 23),0, "ref.go:55",#[⟨10,.data⟩,⟨9,.data⟩,⟨9,.chain⟩,⟨0,.phase⟩,⟨1,.phase⟩,⟨2,.phase⟩,⟨3,.phase⟩,⟨4,.phase⟩,⟨5,.phase⟩,⟨6,.phase⟩,⟨7,.phase⟩,⟨8,.phase⟩,⟨9,.phase⟩],none⟩) rfl (fun K' hK => ?_) AllReadyH.nil)
     go_simp
     refine hK.out _ _ (HCW.out _ K8.out) (fun hSn => ?_)
     try simp only [Act.put,pB,pC,pD]
     clear hK K'
     refine wpAnyH_done (by kernel_rfl) ?_ _
     clear x3 x3a z8 z9 z7
     obtain ⟨vv2,hvv2⟩ : ∃ v : Value,v = .slice (some ⟨g8,0,none⟩) (VV.length + 1) cap8:=⟨_,rfl⟩
     clear S8 HP8
     rw [← hvv2] at R8 K8 ⊢
     obtain ⟨w9,hw9⟩ : ∃ W,W = w8.setCell ⟨g,0,none⟩ vv2:=⟨_,rfl⟩
     rw [← hw9] at R8 K8 ⊢
     have R9:=Lib.hid (R8.out.next ((Below.refl _ w9).drew))
     have K9:=Lib.hid (K8.out.trans (Kp.below (B:=B) (g:=g) (B':=w9.heap.size) ((Below.refl _ w9).drew) R8.out.size))
     have d0:=(HCW.out w9 K8.out).1
     have y1 : w9.cell? ⟨g,1,none⟩ = some va:=R8.out.row.cell 1
     have y1a : (w9.alloc (.cells #[.int .i64 (q2 : Int)] 3)).cell? ⟨g,1,none⟩ = some va:=(R8.out.next ((Below.refl _ w9).alloc (Nat.le_refl _) _)).row.cell 1
     have R9s:=R9.out.size
     clear hw9 hvv2 c0 c1 c2 c3 x0 x1 xd HRD RD SD KD K3 R3 hS0
     go_wp2_with fail
     go_region_law (refine stepSep (by rfl) _ _ (by rfl) Tryz.underlying73 (.int .i64 0) 1 8 infoInt (by rfl) (by decide) (by decide) B w9.drew va AA.length (AA.map Z1) [.int .i64 (q2 : Int)] (by rfl) (by intro u hu; simp only [List.mem_singleton] at hu; subst hu; rfl) (by rfl) R9.out.ats (by rfl) (by rfl) (by rw [HAL.out]; omega) R9.out.size ?_; intro v8 w10 hp8; obtain ⟨g9,cap9,rfl⟩:=app_shapeR hp8; obtain ⟨r8,k8,y8⟩:=R9.out.pushA hp8; have z8 : w10.cell? ⟨g,1,none⟩ = some va:=y8.cell 1; have z9:=y8.frozen 1; have z7:=y8.lt; have K10:=Lib.hid (K9.out.trans k8); have R10:=Lib.hid r8; clear r8 k8 y8 hp8)
     all_goals go_wp2_with fail
     all_goals go_roundw
     all_goals first
      | exact ⟨i + 1,vv2,_,by go_num,by omega,Lib.hid ⟨by rw [HTK.out,List.map_append,List.map_append,HVV.out,HAA.out]; exact R10.out,K10.out⟩⟩
      | (simp [RowKit.intOf]; omega)
  ·obtain rfl : i = n:=by omega
   have hnl : ¬ (i : Int) < (i : Int):=by omega
   have hall : L.take i = L:=List.take_of_length_le (by rw [HN.out]; exact Nat.le_refl _)
   have hrd:=HI.out.1
   rw [hall] at hrd
   obtain ⟨VV,hVV⟩ : ∃ VV,(L.map fun p => (p.1 : Int)) = VV:=⟨_,rfl⟩
   obtain ⟨AA,hAA⟩ : ∃ AA,(L.map fun p => (p.2.1 : Int)) = AA:=⟨_,rfl⟩
   have hvl : VV.length = i:=by rw [← hVV,List.length_map,HN.out]
   have hal : AA.length = i:=by rw [← hAA,List.length_map,HN.out]
   have hV2 : toZ (valsL l) ++ [-1] = VV ++ [-1]:=by
    rw [← HV.out,← hVV]
    unfold toZ
    rw [List.map_map]
    rfl
   have hA2 : toZ (atsL l) = AA ++ [(l.length : Int)]:=by
    rw [← HA.out,← hAA]
    unfold toZ
    rw [List.map_append,List.map_map]
    rfl
   rw [hVV,hAA] at hrd
   have HRD:=Lib.hid hrd
   have KD:=Lib.hid HI.out.2
   have HV2:=Lib.hid hV2
   have HA2:=Lib.hid hA2
   have HVL:=Lib.hid hvl
   have HAL:=Lib.hid hal
   have x0 : wr.cell? ⟨g,0,none⟩ = some vv:=hrd.row.cell 0
   clear hall hrd hVV hAA hvl hal hV2 hA2 hlt
   go_wp2_with (first
    | (at_builtin; (with_reducible show wpList _ _ _ (Oper.mk (some 38) _ _ _ _ _ :: _) _ _); refine appSep rfl _ _ rfl Tryz.underlying73 (.int .i64 0) 1 8 infoInt rfl (by decide) (by decide) B wr vv VV.length (VV.map Z1) [.int .i64 (-1)] rfl (by intro u hu; simp only [List.mem_singleton] at hu; subst hu; rfl) rfl HRD.out.vals rfl rfl (by rw [HVL.out]; omega) HRD.out.size ?_; intro v8 w8 hp8; obtain ⟨g8,cap8,rfl⟩:=app_shapeR hp8; obtain ⟨r8,k8,y8⟩:=HRD.out.pushV hp8; have z8 : w8.cell? ⟨g,0,none⟩ = some vv:=y8.cell 0; have z8b : w8.cell? ⟨g,1,none⟩ = some va:=y8.cell 1; have z9:=y8.frozen 0; have z7:=y8.lt; have K8:=Lib.hid (KD.out.trans k8); have R8:=Lib.hid r8; clear r8 k8 y8 hp8)
    | (at_builtin; (with_reducible show wpList _ _ _ (Oper.mk (some 45) _ _ _ _ _ :: _) _ _); refine appSep rfl _ _ rfl Tryz.underlying73 (.int .i64 0) 1 8 infoInt rfl (by decide) (by decide) B (w8.setCell ⟨g,0,none⟩ (.slice (some ⟨g8,0,none⟩) (VV.length + 1) cap8)) va AA.length (AA.map Z1) [.int .i64 (l.length : Int)] rfl (by intro u hu; simp only [List.mem_singleton] at hu; subst hu; rfl) rfl R8.out.ats (show Value.slice (some ⟨w8.heap.size,0,none⟩) 1 1 = Value.slice (some ⟨(w8.setCell ⟨g,0,none⟩ (.slice (some ⟨g8,0,none⟩) (VV.length + 1) cap8)).heap.size,0,none⟩) 1 1 by simp) rfl (by rw [HAL.out]; omega) R8.out.size ?_; intro v9 w9 hp9; obtain ⟨g9,cap9,rfl⟩:=app_shapeR hp9; obtain ⟨r9,k9,y9⟩:=R8.out.pushA hp9; have q8 : w9.cell? ⟨g,0,none⟩ = some (.slice (some ⟨g8,0,none⟩) (VV.length + 1) cap8):=y9.cell 0; have q8b : w9.cell? ⟨g,1,none⟩ = some va:=y9.cell 1; have q9:=y9.frozen 1; have q7:=y9.lt; have K9:=Lib.hid (K8.out.trans k9); have R9:=Lib.hid r9; have hrr : Row (w9.setCell ⟨g,1,none⟩ (.slice (some ⟨g9,0,none⟩) (AA.length + 1) cap9)) w.heap.size 95 [.slice none 0 0,.slice none 0 0]:=(K9.out.2.2.2.2 w.heap.size HWB.out HWG.out).trans (HR0.out.keep HB2.out (by omega)); have rf0:=hrr.frozen 0; have rf1:=hrr.frozen 1; have rc0:=hrr.cell 0; have rc1:=hrr.cell 1; have rl:=hrr.lt; have xx0:=R9.out.row.cell 0; have xx1:=R9.out.row.cell 1; have RR:=Lib.hid hrr; clear r9 k9 y9 hp9 hrr))
   have hR:=(RR.out.set 0 (.slice (some ⟨g8,0,none⟩) (VV.length + 1) cap8)).set 1 (.slice (some ⟨g9,0,none⟩) (AA.length + 1) cap9)
   refine bodyPost_ret (results_cell_row rfl _ _ w.heap.size 95 #[.slice (some ⟨g8,0,none⟩) (VV.length + 1) cap8,.slice (some ⟨g9,0,none⟩) (AA.length + 1) cap9] (0,0) _ rfl hR Tryz.underlying95 rfl (by kernel_rfl)) rfl ?_
   obtain ⟨v1,v2,v3,v4,v5,v6⟩:=R9.out
   have hk:=grown_then (grownBy_set (w9.setCell ⟨g,1,none⟩ (.slice (some ⟨g9,0,none⟩) (AA.length + 1) cap9)) w.heap.size 0 (.slice (some ⟨g8,0,none⟩) (VV.length + 1) cap8)) (grownBy_set ((w9.setCell ⟨g,1,none⟩ (.slice (some ⟨g9,0,none⟩) (AA.length + 1) cap9)).setCell ⟨w.heap.size,0,none⟩ (.slice (some ⟨g8,0,none⟩) (VV.length + 1) cap8)) w.heap.size 1 (.slice (some ⟨g9,0,none⟩) (AA.length + 1) cap9)) (fun j h => .inr h)
   have o1:=World.ownsRow.kept v4 hk (.inr (own_low v4 HWB.out).symm)
   have o2:=World.ownsRow.kept v5 hk (.inr (own_low v5 HWB.out).symm)
   obtain ⟨p1,d1,e1,i1,b1⟩:=ZOwn.shape (L:=VV ++ [-1]) o1 (by simp)
   obtain ⟨p2,d2,e2,i2,b2⟩:=ZOwn.shape (L:=AA ++ [(l.length : Int)]) o2 (by simp)
   obtain rfl : g8 = p1:=by
    simp only [Value.slice.injEq,Option.some.injEq,Addr.mk.injEq] at e1
    exact e1.1.1
   obtain rfl : g9 = p2:=by
    simp only [Value.slice.injEq,Option.some.injEq,Addr.mk.injEq] at e2
    exact e2.1.1
   have hb2:=HB0.out.trans (HB2.out.mono (by omega))
   have hbk : Below w.heap.size w (w9.setCell ⟨g,1,none⟩ (.slice (some ⟨g9,0,none⟩) (AA.length + 1) cap9)):=hb2.trans (K9.out.out (by have:=HWB.out; omega) (by have:=HG.out; omega))
   unfold ReaderP
   rw [HV2.out,HA2.out,← HLEN.out]
   refine ⟨g8,cap8,g9,cap9,by rw [HVL.out,HAL.out],i1,i2,?_,by have:=HWB.out; omega,by have:=HWB.out; omega,?_⟩
   ·exact (hbk.setCell (p:=⟨w.heap.size,0,none⟩) (Nat.le_refl _) _).setCell (p:=⟨w.heap.size,1,none⟩) (Nat.le_refl _) _
   ·rw [← HVL.out]
    have:=own_cap o1
    rwa [List.length_append,List.length_singleton] at this
end Go.Proofs.YtchdeboialbdiaaGreatDoor
