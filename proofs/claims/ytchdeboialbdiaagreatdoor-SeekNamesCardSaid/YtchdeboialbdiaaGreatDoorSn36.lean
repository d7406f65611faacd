/- Texts joined, one behind the other (SRefT, SAllP, SRefU). -/
import Derived.Test.YtchdeboialbdiaaGreatDoorSqy
import Derived.Test.YtchdeboialbdiaaGreatDoorSn35
namespace Go.Proofs.YtchdeboialbdiaaGreatDoor
set_option linter.unusedVariables false
set_option linter.unusedSimpArgs false
set_option maxHeartbeats 8000000
set_option maxRecDepth 100000
open Go.RowKit
open Go.Lib hiding intOf
theorem bools_one {n i : Nat} (h : i ≤ n) : (List.replicate (n + 1) (Value.bool false)).set i (.bool true) = boolsV n fun j => decide (j = i):=by
 refine List.ext_getElem? fun j => ?_
 rw [List.getElem?_set,List.getElem?_replicate,List.length_replicate]
 by_cases hj : j ≤ n
 ·rw [bools_at hj]
  by_cases hij : i = j
  ·subst hij
   rw [if_pos rfl,if_pos (by omega),decide_eq_true rfl]
  ·rw [if_neg hij,if_pos (by omega),decide_eq_false (fun e => hij e.symm)]
 ·rw [if_neg (by omega),if_neg (by omega),List.getElem?_eq_none (by rw [bools_len]; omega)]
structure LgW (w W : World) (pv tv : List Value) (g : Nat) (xs : List Value) : Prop where
 pat : Row W w.heap.size 54 pv
 txt : Row W (w.heap.size + 1) 106 tv
 to_ : Row W g 4 xs
 lt : w.heap.size + 2 ≤ g
 below : Below w.heap.size w W
theorem LgW.next {w W W' : World} {pv tv xs : List Value} {g : Nat} (h : LgW w W pv tv g xs) (hb : Below W.heap.size W W') : LgW w W' pv tv g xs :=
 ⟨h.pat.keep hb h.pat.lt,h.txt.keep hb h.txt.lt,h.to_.keep hb h.to_.lt,h.lt,h.below.trans (hb.mono h.below.size)⟩
theorem LgW.put {w W : World} {pv tv xs : List Value} {g : Nat} (h : LgW w W pv tv g xs) (i : Nat) (v : Value) : LgW w (W.setCell ⟨g,i,none⟩ v) pv tv g (xs.set i v):=by
 have hl:=h.lt
 exact ⟨h.pat.other (p:=⟨g,i,none⟩) (by show g ≠ w.heap.size; omega) v,h.txt.other (p:=⟨g,i,none⟩) (by show g ≠ w.heap.size + 1; omega) v,h.to_.set i v,h.lt,h.below.setCell (p:=⟨g,i,none⟩) (by show w.heap.size ≤ g; omega) v⟩
theorem LgW.new {w W W' : World} {pv tv xs ys : List Value} {g g' : Nat} (h : LgW w W pv tv g xs) (hb : Below W.heap.size W W') (hr : Row W' g' 4 ys) (hg : W.heap.size ≤ g') : LgW w W' pv tv g' ys:=by
 have h1:=h.txt.lt
 exact ⟨h.pat.keep hb h.pat.lt,h.txt.keep hb h.txt.lt,hr,by omega,h.below.trans (hb.mono h.below.size)⟩
theorem lg_heads (w : World) (pv tv : List Value) : Row ((w.alloc (.cells pv.toArray 54)).alloc (.cells tv.toArray 106)) w.heap.size 54 pv ∧ Row ((w.alloc (.cells pv.toArray 54)).alloc (.cells tv.toArray 106)) (w.heap.size + 1) 106 tv ∧ ((w.alloc (.cells pv.toArray 54)).alloc (.cells tv.toArray 106)).heap.size = w.heap.size + 2 ∧ Below w.heap.size w ((w.alloc (.cells pv.toArray 54)).alloc (.cells tv.toArray 106)):=by
 have r1 : Row (w.alloc (.cells pv.toArray 54)) w.heap.size 54 pv:=row_new w pv _
 have r2:=row_new (w.alloc (.cells pv.toArray 54)) tv 106
 rw [World.size_alloc] at r2
 exact ⟨r1.alloc _,r2,by simp,((Below.refl _ w).alloc (Nat.le_refl _) _).alloc (by simp) _⟩
def OkI (it : Itm) : Prop:=OkIt it ∧ it.least ≤ 1 ∧ it.els.length ≤ 1000000
theorem it_at {w : World} {a : Option Addr} {m c : Nat} {its : List Itm} (h : ItRd w (.slice a m c) its) {k : Nat} {it : Itm} (hk : its[k]? = some it) : ∃ gI ae ce,a = some ⟨gI,0,none⟩ ∧ gI < w.heap.size ∧ ElRd w (.slice ae it.els.length ce) it.els ∧ ∀ j u,(itCells (it,.slice ae it.els.length ce))[j]? = some u → w.cell? ⟨gI,k * 6 + j,none⟩ = some u:=by
 obtain ⟨L,hL,⟨a0,c0,h2,h3⟩,h4⟩:=h
 cases h2
 rw [← hL,List.getElem?_map] at hk
 cases hq : L[k]? with
 | none => rw [hq] at hk; cases hk
 | some q =>
  rw [hq] at hk
  obtain rfl : q.1 = it:=Option.some.inj hk
  obtain ⟨ae,ce,he,_⟩:=h4 q (List.mem_of_getElem? hq)
  have hkl : k < L.length:=(List.getElem?_eq_some_iff.1 hq).1
  obtain ⟨g,cur,h5,h6,h7⟩:=h3 (by omega)
  have hqe : q = (q.1,.slice ae q.1.els.length ce):=by rw [← he]
  refine ⟨g,ae,ce,h5,(Array.getElem?_eq_some_iff.1 h6).1,by rw [← he]; exact h4 q (List.mem_of_getElem? hq),fun j u hu => ?_⟩
  rw [← hqe] at hu
  have:=h7 k q j u hq hu
  simp only [World.cell?,h6]
  simpa using this
theorem it_len {w : World} {a : Option Addr} {m c : Nat} {its : List Itm} (h : ItRd w (.slice a m c) its) : m = its.length:=by
 obtain ⟨L,hL,⟨a0,c0,h2,h3⟩,h4⟩:=h
 cases h2
 rw [← hL,List.length_map]
def plZ : Option Nat → Int
 | none => -1
 | some j => (j : Int)
theorem longestR6 (w : World) (lp : List UInt8) (fo : Bool) (aI : Option Addr) (mI cI g1 c1 g2 c2 n : Nat) (V : List Nat) (its : List Itm) (i : Nat) (hn : V.length = n) (hI : IntsAt w g1 (toZ V ++ [-1])) (hV : OkV V) (hr : ItRd w (.slice aI mI cI) its) (hok : ∀ it ∈ its,OkI it) (hm : mI ≤ 1000000) (hnb : n ≤ 67108000) (hi : i ≤ n) :
  Calls Tryz.prog 39 #[.agg #[.string (bstr lp),.bool fo,.slice aI mI cI],txV g1 c1 g2 c2 n,.int .i64 (i : Int)] w fun e w' => e = .returned (.int .i64 (plZ (longestP fo V its i))) ∧ Below w.heap.size w w':=by
 obtain ⟨T,hT⟩ : ∃ T,longestP fo V its i = T:=⟨_,rfl⟩
 rw [hT]
 unfold longestP at hT
 rw [hn] at hT
 have HLD:=Lib.hid (fun W (hb : Below w.heap.size w W) (it : Itm) a m c af S => ledR6 W lp fo aI mI cI g1 c1 g2 c2 n V it a m c af S (n + 1) hn (hI.keep hb (Nat.le_refl _)) hV)
 unfold txV
 obtain ⟨q1,q2,q4,q5⟩:=lg_heads w [.string (bstr lp),.bool fo,.slice aI mI cI] [.slice (some ⟨g1,0,none⟩) n c1,.slice (some ⟨g2,0,none⟩) (n + 1) c2]
 obtain ⟨W0,hW0⟩ : ∃ W,W = (w.alloc (.cells #[.string (bstr lp),.bool fo,.slice aI mI cI] 54)).alloc (.cells #[.slice (some ⟨g1,0,none⟩) n c1,.slice (some ⟨g2,0,none⟩) (n + 1) c2] 106):=⟨_,rfl⟩
 have hq1 : Row W0 w.heap.size 54 [.string (bstr lp),.bool fo,.slice aI mI cI]:=by rw [hW0]; exact q1
 have hq2 : Row W0 (w.heap.size + 1) 106 [.slice (some ⟨g1,0,none⟩) n c1,.slice (some ⟨g2,0,none⟩) (n + 1) c2]:=by rw [hW0]; exact q2
 have hq4 : W0.heap.size = w.heap.size + 2:=by rw [hW0]; exact q4
 have hq5 : Below w.heap.size w W0:=by rw [hW0]; exact q5
 clear q1 q2 q4 q5
 obtain ⟨wm,hmk,hrow,hbm⟩:=makeBools W0 n (by omega)
 rw [hq4] at hmk hrow
 have hst : LgW w wm [.string (bstr lp),.bool fo,.slice aI mI cI] [.slice (some ⟨g1,0,none⟩) n c1,.slice (some ⟨g2,0,none⟩) (n + 1) c2] (w.heap.size + 2) (List.replicate (n + 1) (.bool false)):=⟨hq1.keep hbm hq1.lt,hq2.keep hbm hq2.lt,hrow,by omega,hq5.trans (hbm.mono hq5.size)⟩
 have ol:=hrow.lt
 have of_:=hrow.frozen i
 have oc : wm.cell? ⟨w.heap.size + 2,i,none⟩ = some (.bool false):=by rw [hrow.cell,List.getElem?_replicate,if_pos (by omega)]
 have HST : Hid (LgW w (wm.setCell ⟨w.heap.size + 2,i,none⟩ (.bool true)) [.string (bstr lp),.bool fo,.slice aI mI cI] [.slice (some ⟨g1,0,none⟩) n c1,.slice (some ⟨g2,0,none⟩) (n + 1) c2] (w.heap.size + 2) (boolsV n fun j => decide (j = i))):=Lib.hid (by
  have:=hst.put i (.bool true)
  rwa [bools_one hi] at this)
 have HW0:=Lib.hid hW0
 have t0 : W0.cell? ⟨w.heap.size + 1,0,none⟩ = some (.slice (some ⟨g1,0,none⟩) n c1):=hq2.cell 0
 have tl:=hq2.lt
 have HN:=Lib.hid hn
 have HR:=Lib.hid hr
 have HOK:=Lib.hid hok
 have HT:=Lib.hid hT
 have HML:=Lib.hid (it_len hr)
 have hii : (i : Int) ≤ (n : Int):=by omega
 have hii2 : (i : Int) < (n : Int) + 1:=by omega
 clear hn hI hV hr hok hT hq1 hq2 hq5 hst hrow hbm hW0
 go_enter Tryz.func39, Tryz.ntmps39
 go_upto_region 1 with fail
 rw [← HW0.out]
 go_wp2_with fail
 go_loopw [7,8] (fun ut uk wr => ∃ (g k : Nat) (S : Nat → Bool),ut = .slice (some ⟨g,0,none⟩) (n + 1) (n + 1) ∧ uk = .int .i64 (k : Int) ∧ k ≤ mI ∧ Hid (LgW w wr [.string (bstr lp),.bool fo,.slice aI mI cI] [.slice (some ⟨g1,0,none⟩) n c1,.slice (some ⟨g2,0,none⟩) (n + 1) c2] g (boolsV n S) ∧ lastTrue (reachP fo V (its.drop k) S) n = T)) (fun _ uk _ => mI + 1 - (RowKit.intOf uk).toNat)
 case atStart => exact ⟨w.heap.size + 2,0,_,rfl,rfl,Nat.zero_le _,Lib.hid ⟨HST.out,HT.out⟩⟩
 case round =>
  obtain ⟨g,k,S,rfl,rfl,hk,HL⟩:=hrel
  have pl:=HL.out.1.pat.lt
  have xl:=HL.out.1.txt.lt
  have p2 : wr.cell? ⟨w.heap.size,2,none⟩ = some (.slice aI mI cI):=HL.out.1.pat.cell 2
  have x0 : wr.cell? ⟨w.heap.size + 1,0,none⟩ = some (.slice (some ⟨g1,0,none⟩) n c1):=HL.out.1.txt.cell 0
  by_cases hlt : k < mI
  ·have hki : (k : Int) < (mI : Int):=by omega
   have hkl : k < its.length:=by rw [← HML.out]; exact hlt
   obtain ⟨it,hit⟩ : ∃ it,its[k]? = some it:=⟨_,List.getElem?_eq_getElem hkl⟩
   have hpe : its[k] = it:=Option.some.inj ((List.getElem?_eq_getElem hkl).symm.trans hit)
   have hT:=HL.out.2
   rw [List.drop_eq_getElem_cons hkl,hpe,reachP] at hT
   have HT2:=Lib.hid hT
   obtain ⟨gI,ae,ce,rfl,hgI,hel,hcells⟩:=it_at (HR.out) hit
   have hoki:=HOK.out it (List.mem_of_getElem? hit)
   have hlc:=fun W (hb : Below w.heap.size w W) (hf : Reads W (some ⟨g,0,none⟩) (n + 1) (boolsV n S)) => HLD.out W hb it ae it.els.length ce (some ⟨g,0,none⟩) S (hel.below hb) hoki.1 hoki.2.2 hnb hf hoki.2.1
   obtain ⟨wh,hwh⟩ : ∃ z : Int,(it.what : Int) = z:=⟨_,rfl⟩
   obtain ⟨ls,hls⟩ : ∃ z : Int,(it.least : Int) = z:=⟨_,rfl⟩
   obtain ⟨ng,hng⟩ : ∃ b,it.neg = b:=⟨_,rfl⟩
   obtain ⟨mn,hmn⟩ : ∃ b,it.many = b:=⟨_,rfl⟩
   obtain ⟨mb,hmb⟩ : ∃ b,maybeB it = b:=⟨_,rfl⟩
   obtain ⟨em,hem⟩ : ∃ x,it.els.length = x:=⟨_,rfl⟩
   have hIV : itCells (it,.slice ae it.els.length ce) = [.int .i64 wh,.bool ng,.slice ae em ce,.int .i64 ls,.bool mn,.bool mb]:=by
    rw [← hwh,← hls,← hng,← hmn,← hmb,← hem]
    rfl
   unfold itV at hlc
   rw [hIV] at hcells hlc
   have HCE:=Lib.hid hcells
   have HSp : Hid (∀ W,Below wr.heap.size wr W → W.cell? ⟨w.heap.size,0,none⟩ = some (.string (bstr lp)) ∧ W.cell? ⟨w.heap.size,1,none⟩ = some (.bool fo) ∧ W.cell? ⟨w.heap.size,2,none⟩ = some (.slice (some ⟨gI,0,none⟩) mI cI)):=Lib.hid (fun W hb => ⟨(HL.out.1.next hb).pat.cell 0,(HL.out.1.next hb).pat.cell 1,(HL.out.1.next hb).pat.cell 2⟩)
   have HSt : Hid (∀ W,Below wr.heap.size wr W → W.cell? ⟨w.heap.size + 1,0,none⟩ = some (.slice (some ⟨g1,0,none⟩) n c1) ∧ W.cell? ⟨w.heap.size + 1,1,none⟩ = some (.slice (some ⟨g2,0,none⟩) (n + 1) c2)):=Lib.hid (fun W hb => ⟨(HL.out.1.next hb).txt.cell 0,(HL.out.1.next hb).txt.cell 1⟩)
   have HSi : Hid (∀ W,Below wr.heap.size wr W → W.cell? ⟨gI,k * 6,none⟩ = some (.int .i64 wh) ∧ W.cell? ⟨gI,k * 6 + 1,none⟩ = some (.bool ng) ∧ W.cell? ⟨gI,k * 6 + 2,none⟩ = some (.slice ae em ce) ∧ W.cell? ⟨gI,k * 6 + 3,none⟩ = some (.int .i64 ls) ∧ W.cell? ⟨gI,k * 6 + 4,none⟩ = some (.bool mn) ∧ W.cell? ⟨gI,k * 6 + 5,none⟩ = some (.bool mb)):=Lib.hid (fun W hb => by
    have hb2:=(HL.out.1.next hb).below
    have key : ∀ j u,[Value.int .i64 wh,.bool ng,.slice ae em ce,.int .i64 ls,.bool mn,.bool mb][j]? = some u → W.cell? ⟨gI,k * 6 + j,none⟩ = some u:=fun j u hu => by rw [hb2.cell (p:=⟨gI,k * 6 + j,none⟩) hgI]; exact HCE.out j u hu
    exact ⟨key 0 _ rfl,key 1 _ rfl,key 2 _ rfl,key 3 _ rfl,key 4 _ rfl,key 5 _ rfl⟩)
   have HLC : Hid (∀ W,Below wr.heap.size wr W → Calls Tryz.prog 60 #[.agg #[.string (bstr lp),.bool fo,.slice (some ⟨gI,0,none⟩) mI cI],.agg #[.slice (some ⟨g1,0,none⟩) n c1,.slice (some ⟨g2,0,none⟩) (n + 1) c2],.agg #[.int .i64 wh,.bool ng,.slice ae em ce,.int .i64 ls,.bool mn,.bool mb],.slice (some ⟨g,0,none⟩) (n + 1) (n + 1)] W fun e w' => ∃ g',e = .returned (.slice (some ⟨g',0,none⟩) (n + 1) (n + 1)) ∧ W.heap.size ≤ g' ∧ Row w' g' 4 (boolsV n (ledP fo V it S)) ∧ Below W.heap.size W w'):=Lib.hid (fun W hb => by
    have hL:=HL.out.1.next hb
    refine hlc W hL.below ?_
    have:=hL.to_.reads 0 (n + 1) (by rw [bools_len]; omega)
    rwa [List.drop_zero,List.take_of_length_le (by rw [bools_len]; omega)] at this)
   clear hlc hcells hIV hwh hls hng hmn hmb hem hel hoki hpe hit hkl hT
   go_upto_region 6 with fail
   refine wp_region_held_drew (S:=(fun W => Below wr.heap.size wr W)) (by kernel_rfl) (Below.refl wr.heap.size wr).drew (fun hS0 => ?_)
   refine tC 0 ⟨some 25,.load 54 (.tmp 3), 54,_,#[],none⟩ ?_ rfl ?_ hS0 ?_; rotate_left; focus (rintro w2 s1; obtain ⟨e0,e1,e2⟩:=HSp.out w2 s1; go_simp; try with_reducible rfl)
   refine tC 1 ⟨some 26,.load 106 (.tmp 4), 106,_,#[],none⟩ ?_ rfl ?_ hS0 ?_; rotate_left; focus (rintro w2 s1; obtain ⟨e0,e1⟩:=HSt.out w2 s1; go_simp; try with_reducible rfl)
   refine tE 2 ⟨some 27,.fieldAddr 54 (.tmp 3) 2,0,_,#[],none⟩ rfl hS0 ?_
   try simp only [Act.put,pB,pC,pD]
   refine tC 3 ⟨some 28,.load 52 (.tmp 27), 52,_,#[⟨2,.data⟩],none⟩ ?_ rfl ?_ hS0 ?_; rotate_left; focus (rintro w2 s1; have e0:=(HSp.out w2 s1).2.2; go_simp; try with_reducible rfl)
   refine tE 4 ⟨some 29,.move (.tmp 8), 3,_,#[],none⟩ rfl hS0 ?_
   refine tE 5 ⟨some 30,.indexAddr 52 (.tmp 28) (.tmp 29),0,_,#[⟨3,.data⟩,⟨4,.data⟩],none⟩ rfl hS0 ?_
   try simp only [Act.put,pB,pC,pD]
   refine tC 6 ⟨some 31,.load 99 (.tmp 30), 99,_,#[⟨5,.data⟩],none⟩ ?_ rfl ?_ hS0 ?_; rotate_left; focus (rintro w2 s1; obtain ⟨e0,e1,e2,e3,e4,e5⟩:=HSi.out w2 s1; go_simp; try with_reducible rfl)
   refine tE 7 ⟨some 32,.move (.tmp 7), 115,_,#[],none⟩ rfl hS0 ?_
   try simp only [Act.put,pB,pC,pD]
   refine wpAnyH_ready (rs:=[8]) (by kernel_rfl) (by simp) (AllReadyH.cons (o:=⟨some 33,.call { callee:=Callee.value (Operand.func 60),args:=#[.tmp 25,.tmp 26,.tmp 31,.tmp 32],argTypes:=#[54, 106, 99, 115] }, 115, "ref.go:341",#[⟨0,.data⟩,⟨1,.data⟩,⟨6,.data⟩,⟨7,.data⟩],none⟩) rfl (fun K' hK => ?_) AllReadyH.nil)
   go_simp
   with_reducible refine (HLC.out _ (Below.refl wr.heap.size wr).drew).mono ?_
   rintro e wa ⟨g',rfl,hgg,hro,hbwa⟩
   have Bwa:=Lib.hid (((Below.refl wr.heap.size wr).drew).trans (hbwa.mono ((Below.refl wr.heap.size wr).drew).size))
   have HRO:=Lib.hid hro
   have HGG:=Lib.hid hgg
   clear hbwa hro hgg
   show K' _ _
   refine hK.out _ _ Bwa.out (fun hSn => ?_)
   try simp only [Act.put,pB,pC,pD]
   clear hK K'
   refine tE 9 ⟨some 7,.assign (.tmp 33), 115,_,pa [⟨8,.data⟩,⟨8,.chain⟩] 9,none⟩ rfl Bwa.out ?_
   try simp only [Act.put,pB,pC,pD]
   refine wpAnyH_done (by kernel_rfl) ?_ _
   go_wp2_with fail
   go_roundw
   case rel => exact ⟨g',k + 1,_,rfl,by go_num,by omega,Lib.hid ⟨HL.out.1.new Bwa.out HRO.out HGG.out,HT2.out⟩⟩
   case measure => simp [RowKit.intOf]; omega
  ·obtain rfl : k = mI:=by omega
   have hki : ¬ (k : Int) < (k : Int):=by omega
   have hT:=HL.out.2
   rw [List.drop_of_length_le (by rw [← HML.out]; exact Nat.le_refl _),reachP] at hT
   have HL1:=Lib.hid HL.out.1
   have HT2:=Lib.hid hT
   clear hT hlt hk HL
   obtain ⟨wq,hwq⟩ : ∃ x,x = wr:=⟨_,rfl⟩
   go_wp2_with fail
   go_loopw [9] (fun uj wz => ∃ z : Int,uj = .int .i64 z ∧ wz = wr ∧ Hid ((z = -1 ∧ T = none) ∨ ∃ e : Nat,z = (e : Int) ∧ e ≤ n ∧ lastTrue S e = T)) (fun uj _ => (RowKit.intOf uj + 1).toNat)
   case atStart => exact ⟨(n : Int),rfl,rfl,Lib.hid (.inr ⟨n,rfl,Nat.le_refl _,HT2.out⟩)⟩
   case round =>
    obtain ⟨z,rfl,rfl,HZ⟩:=hrel
    rcases HZ.out with ⟨rfl,hTn⟩ | ⟨e,rfl,hen,hTe⟩
    ·subst hTn
     go_wp2_with fail
     go_ret
     exact ⟨rfl,HL1.out.below⟩
    ·have cl:=HL1.out.to_.lt
     have hc : wr.cell? ⟨g,e,none⟩ = some (.bool (S e)):=(HL1.out.to_.cell e).trans (bools_at hen)
     have he0 : (0 : Int) ≤ (e : Int):=by omega
     have he1 : (e : Int) ≤ (n : Int):=by omega
     have he2 : (e : Int) < (n : Int) + 1:=by omega
     obtain ⟨b,hb⟩ : ∃ b,S e = b:=⟨_,rfl⟩
     rw [hb] at hc
     have HB:=Lib.hid hb
     have HTE:=Lib.hid hTe
     clear hb hTe
     cases b with
     | true =>
      go_wp2_with fail
      go_ret
      refine ⟨?_,HL1.out.below⟩
      have hTe:=HTE.out
      have hb:=HB.out
      cases e with
      | zero => unfold lastTrue at hTe; rw [if_pos hb] at hTe; rw [← hTe]; rfl
      | succ e => unfold lastTrue at hTe; rw [if_pos hb] at hTe; rw [← hTe]; rfl
     | false =>
      go_wp2_with fail
      go_roundw
      case rel =>
       have hTe:=HTE.out
       have hb:=HB.out
       refine ⟨(e : Int) - 1,by go_num,by first | rfl | trivial,Lib.hid ?_⟩
       cases e with
       | zero => unfold lastTrue at hTe; rw [if_neg (by rw [hb]; decide)] at hTe; exact .inl ⟨rfl,hTe.symm⟩
       | succ e => unfold lastTrue at hTe; rw [if_neg (by rw [hb]; decide)] at hTe; exact .inr ⟨e,by omega,by omega,hTe⟩
      case measure => first | (simp [RowKit.intOf]; done) | (simp [RowKit.intOf]; omega)
end Go.Proofs.YtchdeboialbdiaaGreatDoor
namespace Go.Proofs.YtchdeboialbdiaaGreatDoor
set_option linter.unusedVariables false
set_option linter.unusedSimpArgs false
set_option maxHeartbeats 8000000
set_option maxRecDepth 100000
open Go.Lib hiding intOf
def allGo (fo : Bool) (V : List Nat) (its : List Itm) (n : Nat) : Nat → Nat → List (Nat × Nat)
 | 0,_ => []
 | f + 1,i => if n < i then [] else match longestP fo V its i with
  | none => allGo fo V its n f (i + 1)
  | some j => (i,j) :: allGo fo V its n f (max (i + 1) j)
def allP (fo : Bool) (l : List UInt8) (its : List Itm) : List (Nat × Nat):=allGo fo (valsL l) its (valsL l).length ((valsL l).length + 1) 0
theorem allGo_none {fo : Bool} {V : List Nat} {its : List Itm} {n f i : Nat} (hi : ¬ n < i) (h : longestP fo V its i = none) : allGo fo V its n (f + 1) i = allGo fo V its n f (i + 1):=by rw [allGo,if_neg hi,h]
theorem allGo_some {fo : Bool} {V : List Nat} {its : List Itm} {n f i j : Nat} (hi : ¬ n < i) (h : longestP fo V its i = some j) : allGo fo V its n (f + 1) i = (i,j) :: allGo fo V its n f (max (i + 1) j):=by rw [allGo,if_neg hi,h]
theorem allGo_end {fo : Bool} {V : List Nat} {its : List Itm} {n f i : Nat} (hi : n < i) : allGo fo V its n f i = []:=by
 cases f with
 | zero => rfl
 | succ f => rw [allGo,if_pos hi]
theorem allGo_len (fo : Bool) (V : List Nat) (its : List Itm) (n : Nat) : ∀ f i,(allGo fo V its n f i).length ≤ f
 | 0,i => Nat.le_refl _
 | f + 1,i => by
  rw [allGo]
  split
  ·exact Nat.zero_le _
  ·split
   ·have:=allGo_len fo V its n f (i + 1); omega
   ·rename_i j _
    have:=allGo_len fo V its n f (max (i + 1) j)
    rw [List.length_cons]
    omega
theorem allGo_mem (fo : Bool) (V : List Nat) (its : List Itm) (n : Nat) : ∀ f i x,x ∈ allGo fo V its n f i → i ≤ x.1 ∧ x.1 ≤ n ∧ longestP fo V its x.1 = some x.2
 | 0,i,x,h => by cases h
 | f + 1,i,x,h => by
  rw [allGo] at h
  split at h
  ·cases h
  ·rename_i hi
   split at h
   ·have:=allGo_mem fo V its n f (i + 1) x h
    exact ⟨by omega,this.2⟩
   ·rename_i j hj
    rcases List.mem_cons.1 h with rfl | h
    ·exact ⟨Nat.le_refl _,by dsimp only; omega,hj⟩
    ·have:=allGo_mem fo V its n f _ x h
     exact ⟨by omega,this.2⟩
def lastGo (fo : Bool) (V A : List Nat) (its : List Itm) (tz : Int) : Nat → Option (Nat × Nat)
 | 0 => none
 | i + 1 => if (A.getD i 0 : Int) ≤ tz then (match longestP fo V its i with | some j => some (i,j) | none => lastGo fo V A its tz i) else lastGo fo V A its tz i
def lastP (fo : Bool) (l : List UInt8) (its : List Itm) (tz : Int) : Option (Nat × Nat):=lastGo fo (valsL l) (atsL l) its tz ((valsL l).length + 1)
end Go.Proofs.YtchdeboialbdiaaGreatDoor
namespace Go.Proofs.YtchdeboialbdiaaGreatDoor
set_option linter.unusedVariables false
set_option linter.unusedSimpArgs false
set_option maxHeartbeats 8000000
set_option maxRecDepth 100000
open Go.RowKit
open Go.Lib hiding intOf
structure TxW (w w2 W : World) (pv tv : List Value) : Prop where
 pat : Row W w.heap.size 54 pv
 txt : Row W w2.heap.size 106 tv
 b0 : Below w.heap.size w W
 b2 : Below w2.heap.size w2 W
theorem TxW.next {w w2 W W' : World} {pv tv : List Value} (h : TxW w w2 W pv tv) (hb : Below W.heap.size W W') : TxW w w2 W' pv tv :=
 ⟨h.pat.keep hb h.pat.lt,h.txt.keep hb h.txt.lt,h.b0.trans (hb.mono h.b0.size),h.b2.trans (hb.mono h.b2.size)⟩
theorem ints_at {w w2 W : World} {pv tv : List Value} {g : Nat} {A : List Nat} (h : TxW w w2 W pv tv) (hI : IntsAt w2 g (toZ A)) {k : Nat} (hk : k < A.length) : W.cell? ⟨g,k,none⟩ = some (.int .i64 ((A.getD k 0 : Nat) : Int)):=by
 have h1:=(hI.keep h.b2 (Nat.le_refl _)).2 k (A.getD k 0 : Nat)
 refine h1 ?_
 unfold toZ
 rw [List.getElem?_map,getD_at hk]
 rfl
theorem longest_n {fo : Bool} {V : List Nat} {its : List Itm} {i j n : Nat} (hn : V.length = n) (h : longestP fo V its i = some j) : j ≤ n:=by rw [← hn]; exact longest_le h
theorem matchR6 (w : World) (lp l : List UInt8) (fo : Bool) (its : List Itm) (aI : Option Addr) (mI cI : Nat) (p : Int) (hr : ItRd w (.slice aI mI cI) its) (hok : ∀ it ∈ its,OkI it) (hm : mI ≤ 1000000) (hlen : l.length ≤ 67108000) :
  Calls Tryz.prog 18 #[.agg #[.string (bstr lp),.bool fo,.slice aI mI cI],.string (bstr l),.int .i64 p] w fun e w' => e = .returned (placeV (matchP fo l its p)) ∧ Below w.heap.size w w':=by
 have hb0 : Below w.heap.size w (w.alloc (.cells #[.string (bstr lp),.bool fo,.slice aI mI cI] 54)):=(Below.refl _ w).alloc (Nat.le_refl _) _
 have hrow0 : Row (w.alloc (.cells #[.string (bstr lp),.bool fo,.slice aI mI cI] 54)) w.heap.size 54 [.string (bstr lp),.bool fo,.slice aI mI cI]:=row_new w [.string (bstr lp),.bool fo,.slice aI mI cI] _
 obtain ⟨W0,hW0⟩ : ∃ W,W = w.alloc (.cells #[.string (bstr lp),.bool fo,.slice aI mI cI] 54):=⟨_,rfl⟩
 rw [← hW0] at hb0 hrow0
 have hX:=textR6 W0 l (by omega)
 have hal:=ats_len l
 have hvl:=vals_lenR l
 have hok2:=vals_ok l
 unfold matchP
 obtain ⟨V,hV⟩ : ∃ V,valsL l = V:=⟨_,rfl⟩
 obtain ⟨A,hA⟩ : ∃ A,atsL l = A:=⟨_,rfl⟩
 obtain ⟨n,hn⟩ : ∃ n,V.length = n:=⟨_,rfl⟩
 rw [hV] at hX hvl hok2 hal ⊢
 rw [hA] at hX hal ⊢
 rw [hn] at hX hvl hal ⊢
 have HN:=Lib.hid hn
 have HAL:=Lib.hid hal
 have HOK:=Lib.hid hok2
 have HX:=Lib.hid hX
 have HW0:=Lib.hid hW0
 have HB0:=Lib.hid hb0
 have HR0:=Lib.hid hrow0
 have HIT:=Lib.hid hr
 have HOI:=Lib.hid hok
 obtain ⟨T,hT0⟩ : ∃ T,matchGo fo V A its p (n + 1) 0 = T:=⟨_,rfl⟩
 rw [hT0]
 have HT0:=Lib.hid hT0
 have hnb : n ≤ 67108000:=by omega
 clear hX hal hvl hok hok2 hV hA hn hr hT0 hlen hb0 hrow0 hW0
 go_enter Tryz.func18, Tryz.ntmps18
 go_upto_region 1 with fail
 rw [← HW0.out]
 go_wp2_with (go_at_call 38; refine (HX.out).mono ?_; rintro e w2 ⟨g1,c1,g2,c2,rfl,hi1,hi2,hb2⟩; have HI1:=Lib.hid hi1; have HI2:=Lib.hid hi2; have HB2:=Lib.hid hb2; clear hi1 hi2 hb2)
 have hw3 : ∀ W,W = w2.alloc (.cells #[.slice (some ⟨g1,0,none⟩) n c1,.slice (some ⟨g2,0,none⟩) (n + 1) c2] 106) → TxW w w2 W [.string (bstr lp),.bool fo,.slice aI mI cI] [.slice (some ⟨g1,0,none⟩) n c1,.slice (some ⟨g2,0,none⟩) (n + 1) c2]:=by
  rintro W rfl
  have hs:=HB0.out.size
  have h1:=HR0.out.keep HB2.out HR0.out.lt
  exact ⟨h1.alloc _,row_new w2 [.slice (some ⟨g1,0,none⟩) n c1,.slice (some ⟨g2,0,none⟩) (n + 1) c2] _,(HB0.out.trans (HB2.out.mono hs)).alloc (Nat.le_trans hs HB2.out.size) _,(Below.refl _ w2).alloc (Nat.le_refl _) _⟩
 have HW3:=Lib.hid hw3
 clear hw3
 go_loopw [9] (fun uk wr => ∃ k : Nat,uk = .int .i64 (k : Int) ∧ k ≤ n + 1 ∧ Hid (TxW w w2 wr [.string (bstr lp),.bool fo,.slice aI mI cI] [.slice (some ⟨g1,0,none⟩) n c1,.slice (some ⟨g2,0,none⟩) (n + 1) c2] ∧ matchGo fo V A its p (n + 1 - k) k = T)) (fun uk _ => n + 1 - (RowKit.intOf uk).toNat)
 case atStart => exact ⟨0,rfl,Nat.zero_le _,Lib.hid ⟨HW3.out _ rfl,HT0.out⟩⟩
 case round =>
  obtain ⟨k,rfl,hk,HR⟩:=hrel
  have p0:=HR.out.1.pat.cell 0
  have p1:=HR.out.1.pat.cell 1
  have p2:=HR.out.1.pat.cell 2
  have p3:=HR.out.1.pat.lt
  have t0:=HR.out.1.txt.cell 0
  have t1:=HR.out.1.txt.cell 1
  have t2:=HR.out.1.txt.lt
  by_cases hlt : k < n + 1
  ·have x0:=ints_at HR.out.1 HI2.out (k:=k) (by rw [HAL.out]; exact hlt)
   have hT1:=HR.out.2
   rw [show n + 1 - k = (n - k) + 1 by omega,matchGo] at hT1
   obtain ⟨x,hx⟩ : ∃ x : Int,((A.getD k 0 : Nat) : Int) = x:=⟨_,rfl⟩
   rw [hx] at x0 hT1
   clear hx
   have hlk : (k : Int) < ((n + 1 : Nat) : Int):=by omega
   have hlk2 : (k : Int) < (n : Int) + 1:=by omega
   by_cases hfr : x = p
   ·rw [if_pos hfr] at hT1
    subst hfr
    have hM:=longestR6 wr lp fo aI mI cI g1 c1 g2 c2 n V its k HN.out (HI1.out.keep HR.out.1.b2 (Nat.le_refl _)) HOK.out (HIT.out.below HR.out.1.b0) HOI.out hm hnb (by omega)
    unfold txV at hM
    cases hlo : longestP fo V its k with
    | none =>
     rw [hlo] at hM hT1
     dsimp only at hT1
     have HM : Hid (Calls Tryz.prog 39 #[.agg #[.string (bstr lp),.bool fo,.slice aI mI cI],.agg #[.slice (some ⟨g1,0,none⟩) n c1,.slice (some ⟨g2,0,none⟩) (n + 1) c2],.int .i64 (k : Int)] wr fun e w' => e = .returned (.int .i64 (-1)) ∧ Below wr.heap.size wr w'):=Lib.hid hM
     subst hT1
     clear hM hlo
     go_wp2_with (go_at_call 39; refine (HM.out).mono ?_; rintro e w5 ⟨rfl,hb5⟩; have HB5:=Lib.hid hb5; clear hb5)
     go_ret2
     exact ⟨rfl,(HR.out.1.next HB5.out).b0⟩
    | some j =>
     rw [hlo] at hM hT1
     dsimp only at hT1
     have hjn : j ≤ n:=longest_n HN.out hlo
     have HX1:=Lib.hid (fun W (h : TxW w w2 W [.string (bstr lp),.bool fo,.slice aI mI cI] [.slice (some ⟨g1,0,none⟩) n c1,.slice (some ⟨g2,0,none⟩) (n + 1) c2]) => ints_at h HI2.out (k:=j) (by rw [HAL.out]; omega))
     have HM : Hid (Calls Tryz.prog 39 #[.agg #[.string (bstr lp),.bool fo,.slice aI mI cI],.agg #[.slice (some ⟨g1,0,none⟩) n c1,.slice (some ⟨g2,0,none⟩) (n + 1) c2],.int .i64 (k : Int)] wr fun e w' => e = .returned (.int .i64 (j : Int)) ∧ Below wr.heap.size wr w'):=Lib.hid hM
     have hjl : (j : Int) < ((n + 1 : Nat) : Int):=by omega
     have hjl2 : (j : Int) < (n : Int) + 1:=by omega
     have hj0 : ¬ (j : Int) < 0:=by omega
     subst hT1
     clear hM hlo
     go_wp2_with (go_at_call 39; refine (HM.out).mono ?_; rintro e w5 ⟨rfl,hb5⟩; have h5:=HR.out.1.next hb5; have y0:=HX1.out w5 h5; have k1:=h5.txt.cell 1; have k2:=h5.txt.lt; have H5:=Lib.hid h5; clear hb5 h5)
     go_ret2
     exact ⟨rfl,H5.out.b0⟩
   ·rw [if_neg hfr] at hT1
    have HT1:=Lib.hid hT1
    have hfr2 : (x == p) = false:=by rw [beq_eq_false_iff_ne]; exact hfr
    clear hT1
    go_wp2_with fail
    go_roundw
    case rel => exact ⟨k + 1,by go_num,by omega,Lib.hid ⟨HR.out.1,by rw [show n + 1 - (k + 1) = n - k by omega]; exact HT1.out⟩⟩
    case measure => simp [RowKit.intOf]; omega
  ·obtain rfl : k = n + 1:=by omega
   have hnl : ¬ ((n + 1 : Nat) : Int) < ((n + 1 : Nat) : Int):=by omega
   have hT1:=HR.out.2
   rw [Nat.sub_self] at hT1
   change none = T at hT1
   subst hT1
   go_wp2_with fail
   go_ret2
   exact ⟨rfl,HR.out.1.b0⟩
end Go.Proofs.YtchdeboialbdiaaGreatDoor
