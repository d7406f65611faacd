/- Texts joined, one behind the other (LSeekAll). -/
import Derived.Test.YtchdeboialbdiaaGreatDoorSn41
import Derived.LaidEql
import Derived.Stop.Asserts
import Derived.RowKitTokens
import Derived.Deep.RegionHeld3
namespace Go.Proofs.YtchdeboialbdiaaGreatDoor
set_option linter.unusedVariables false
set_option linter.unusedSimpArgs false
set_option maxHeartbeats 8000000
set_option maxRecDepth 100000
open Go.RowKit Go.Shelf
open Go.Lib hiding intOf
attribute [local go_sem] Oper.semAt_some
attribute [local go_sem] Exit.noGoto
def OnlyN6 (K : Act → World → Prop) : Exit → Act → World → Prop
 | .normal,a,w => K a w
 | _,_,_ => False
theorem wpIn_only {F : Fence} {n : Nat} {P : Program} {c : Code} {Q : Exit → Act → World → Prop} {a : Act} {w : World} (h : c.wpIn F n P (OnlyN6 (Q .normal)) a w) : c.wpIn F n P Q a w:=by
 refine wpIn_mono h ?_
 intro e a' w' hq
 cases e with
 | normal => exact hq
 | _ => exact hq.elim
theorem seq_nil6 (gf : Nat) (lb : Array Value) (w : World) : (binOp .eql 44 (.func (.func gf) #[] lb) .nilFunc).run Tryz.prog w = .ok (.bool false) w:=by kernel_rfl
theorem all_bad (w : World) (l s : List UInt8) (i1 c q : Int) (hc0 : (c == 0) = false) (hT : Tabs w)
  (h1 : ∀ W,Below w.heap.size w W → Calls Tryz.prog 14 #[.string (bstr l)] W fun e w' => ∃ g,e = .returned (.tuple #[.pointer none,.iface 82 (.pointer (some ⟨g,0,none⟩))]) ∧ Below W.heap.size W w')
  (h2 : ∀ W,Calls Tryz.prog 15 #[.string (bstr l)] W fun e w' => e = .returned (.tuple #[.agg #[.string { data:=#[] },.bool false,.slice none 0 0],.int .i64 q,.int .i64 c]) ∧ Below W.heap.size W w') :
  Calls Tryz.prog 6 #[.string (bstr l),.string (bstr s),.int .i64 i1] w fun e w' => e = .returned (.bool true) ∧ Below w.heap.size w w':=by
 have H1:=Lib.hid (h1 w (Below.refl _ w))
 have H2:=Lib.hid h2
 have HT:=Lib.hid hT
 have hc1 : (c != 0) = true:=by simp only [bne,hc0]; rfl
 clear h1 h2 hT
 go_enter Tryz.func6, Tryz.ntmps6
 go_wp2_with (first
  | (go_at_call 14; refine (H1.out).mono ?_; rintro e w1 ⟨g,rfl,hb1⟩; have HB1:=Lib.hid hb1; clear hb1)
  | (go_at_call 15; refine (H2.out _).mono ?_; rintro e w2 ⟨rfl,hb2⟩; have HB2 : Hid (Below w.heap.size w (w2.alloc (.cells #[.string { data:=#[] },.bool false,.slice none 0 0] 54))):=Lib.hid (HB1.out.trans ((hb2.alloc hb2.size _).mono HB1.out.size)); clear hb2)
  | (go_at_call 13; refine (worksC _ (HT.out.next HB2.out)).mono ?_; rintro e w4 ⟨rfl,hb4⟩; have HB4:=Lib.hid (HB2.out.trans (hb4.mono HB2.out.size)); clear hb4))
 go_ret
 exact ⟨rfl,HB4.out⟩
theorem all_good (w : World) (l s : List UInt8) (i1 : Int) (fo : Bool) (its : List Itm) (hT : Tabs w) (hok : ∀ it ∈ its,OkI it) (hil : its.length ≤ 1000000)
  (h1 : ∀ W,Below w.heap.size w W → Calls Tryz.prog 14 #[.string (bstr l)] W fun e w' => ∃ g,e = .returned (.tuple #[.pointer (some ⟨g,0,none⟩),.nilIface]) ∧ PatFrom W.heap.size w' g l fo its ∧ Below W.heap.size W w')
  (h2 : ∀ W,Calls Tryz.prog 15 #[.string (bstr l)] W fun e w' => ∃ a m c,e = .returned (.tuple #[.agg #[.string (bstr l),.bool fo,.slice a m c],.int .i64 0,.int .i64 0]) ∧ ItRd w' (.slice a m c) its ∧ Below W.heap.size W w') :
  Calls Tryz.prog 6 #[.string (bstr l),.string (bstr s),.int .i64 i1] w fun e w' => e = .returned (.bool true) ∧ Below w.heap.size w w':=by
 have H1:=Lib.hid (h1 w (Below.refl _ w))
 have H2:=Lib.hid h2
 have HT:=Lib.hid hT
 have HOK:=Lib.hid hok
 clear h1 h2 hT hok
 obtain ⟨S,hS⟩ : ∃ S,s.take 300 = S:=⟨_,rfl⟩
 have hSl : S.length ≤ 300:=by rw [← hS,List.length_take]; omega
 have hcut : ∀ W,Calls Tryz.prog 17 #[.string (bstr s),.int .i64 300] W fun e w' => e = .returned (.string (bstr S)) ∧ w' = W:=fun W => by rw [← hS]; exact cutC W s 300 (by decide)
 have HCUT:=Lib.hid hcut
 have hnil:=fun lb w => seq_nil6 31 lb w
 clear hS hcut
 refine (callsIn_wide (n:=40)).1 ?_
 refine callsIn_of_wp_marks Tryz.func6 rfl trivial ?_ rfl
 simp only [Tryz.ntmps6,List.size_toArray,List.length_cons,List.length_nil,Nat.reduceAdd,Nat.reduceSub,Array.replicate_succ,Array.replicate_zero,List.push_toArray,List.append_toArray,List.nil_append,List.cons_append]
 gi_wp2_with (first
  | (refine ⟨trivial,?_⟩; gi_at_call 14; refine (callsIn_wide.2 H1.out).mono ?_; rintro e w1 ⟨g,rfl,hp1,hb1⟩; have HP1:=Lib.hid hp1; have HB1:=Lib.hid hb1; clear hp1 hb1)
  | (refine ⟨trivial,?_⟩; gi_at_call 15; refine (callsIn_wide.2 (H2.out _)).mono ?_; rintro e w2 ⟨a,m,c,rfl,hi2,hb2⟩; have HI2:=Lib.hid hi2; have HB2:=Lib.hid hb2; clear hi2 hb2)
  | (refine ⟨trivial,?_⟩; gi_at_call 17; refine (callsIn_wide.2 (HCUT.out _)).mono ?_; rintro e w3 ⟨rfl,rfl⟩)
  | (refine ⟨trivial,?_⟩; gi_at_call 21; refine (callsIn_wide.2 (allR6 _ l S fo its a m c (HI2.out.below ((Below.refl _ w2).alloc (Nat.le_refl _) _)) HOK.out (by have:=it_len HI2.out; omega) (by omega))).mono ?_; rintro e w4 ⟨vl,rfl,ho4,hb4⟩; have HO4:=Lib.hid ho4; have HB4:=Lib.hid hb4; obtain ⟨al,cl,rfl⟩:=own_slice6 ho4; clear ho4 hb4)
  | (refine ⟨trivial,?_⟩; gi_at_call 11; refine (callsIn_wide.2 (allPC _ _ _)).mono ?_; rintro e w5 ⟨rfl,hw5⟩))
 clear hnil
 obtain ⟨z,hz⟩ : ∃ z,z = w4.heap.size:=⟨_,rfl⟩
 have b0 : Below w2.heap.size w2 (w2.alloc (.cells #[.string (bstr l),.bool fo,.slice a m c] 54)):=(Below.refl _ w2).alloc (Nat.le_refl _) _
 have b5 : Below w4.heap.size w4 w5:=by rw [← hw5]; exact ((Below.refl _ w4).alloc (Nat.le_refl _) _).alloc (by simp) _
 have z5 : w5.heap.size = z + 2:=by rw [← hw5,hz]; simp
 have b24 : Below w2.heap.size w2 w4:=b0.trans (HB4.out.mono b0.size)
 have b25 : Below w2.heap.size w2 w5:=b24.trans (b5.mono b24.size)
 have b15 : Below w1.heap.size w1 w5:=HB2.out.trans (b25.mono HB2.out.size)
 have b05 : Below w.heap.size w w5:=HB1.out.trans (b15.mono HB1.out.size)
 have yp : Row w5 z 33 [.pointer (some ⟨g,0,none⟩)]:=by
  rw [← hw5,hz]
  exact (row_new w4 [.pointer (some ⟨g,0,none⟩)] 33).alloc _
 have ys : Row w5 (z + 1) 9 [.string (bstr S)]:=by
  rw [← hw5,hz]
  have:=row_new (w4.alloc (.cells #[.pointer (some ⟨g,0,none⟩)] 33)) [.string (bstr S)] 9
  rw [World.size_alloc] at this
  exact this
 have hT5:=HT.out.next b05
 have hal : ∀ W,Below w5.heap.size w5 W → AlW z (z + 1) g l fo its S W:=fun W hb =>
  ⟨((HP1.out.keep b15).keep hb).is,yp.keep hb yp.lt,ys.keep hb ys.lt,hT5.next hb⟩
 have hst : Stays (fun r => r < z + 2) w5 (AlW z (z + 1) g l fo its S):=fun W h1 h2 =>
  ⟨PatIs.rows (HP1.out.keep b15).is (fun r hr => h1 r (by show r < z + 2; omega)) h2,row_rows yp (h1 _ (by show z < z + 2; omega)),row_rows ys (h1 _ (by show z + 1 < z + 2; omega)),hT5.rows (fun r hr => h1 r (by have:=hT5.size; show r < z + 2; omega)) h2⟩
 have hll : (allP fo S its).length ≤ 301:=by
  have h1:=allGo_len fo (valsL S) its (valsL S).length ((valsL S).length + 1) 0
  have h2:=vals_len S
  unfold allP
  omega
 have hpc : PcOwn (w2.heap.size + 1) (.slice al (allP fo S its).length cl) (atsL S) (allP fo S its) w5:=own_below (by have:=HO4.out; rwa [World.size_alloc] at this) b5
 obtain ⟨L,hL⟩ : ∃ L,allP fo S its = L:=⟨_,rfl⟩
 have hsq:=fun m hm => allS1 m hm (fun r => r < z + 2) w5 z (z + 1) g l S fo its hst (by omega) (by omega)
 rw [hL] at hll hpc hsq ⊢
 obtain ⟨N,hN⟩ : ∃ N,L.length = N:=⟨_,rfl⟩
 rw [hN] at hll hpc ⊢
 obtain ⟨A,hA⟩ : ∃ A,atsL S = A:=⟨_,rfl⟩
 rw [hA] at hpc hsq
 have HSQ:=Lib.hid hsq
 have HPC:=Lib.hid hpc
 have HNL:=Lib.hid hN
 have HB5:=Lib.hid b05
 have HT5:=Lib.hid hT5
 have HZ5:=Lib.hid z5
 have hgz : w2.heap.size ≤ z:=by rw [hz]; exact b24.size
 obtain ⟨r2,hr2⟩ : ∃ r2,r2 = w2.heap.size:=⟨_,rfl⟩
 rw [← hz,← hr2]
 rw [← hr2] at HPC hgz
 have HHE:=Lib.hid (enters_of Tryz.func31 (by kernel_rfl) rfl)
 clear hsq hpc hN b05 hT5 z5 hst hal b0 b5 b24 b25 b15 yp ys hz hw5 HB4 HO4 HI2 HP1 HB1 HB2 H1 H2 HCUT hL hA hSl hr2 HT HOK
 refine wpIn_loop_rounds 3 ?_
 rw [roundsIn_succ]
 gi_wp2
 have bG : Below (z + 2) w5 (w5.alloc (.cells #[.slice none 0 0] 61)):=by have h:=(Below.refl w5.heap.size w5).alloc (Nat.le_refl _) (.cells #[.slice none 0 0] 61); exact h.mono (by rw [HZ5.out]; exact Nat.le_refl _)
 have rG : Row (w5.alloc (.cells #[.slice none 0 0] 61)) (z + 2) 61 [.slice none 0 0]:=by rw [← HZ5.out]; exact row_new w5 [.slice none 0 0] _
 have zG : (w5.alloc (.cells #[.slice none 0 0] 61)).heap.size = (z + 2) + 1:=by simp [HZ5.out]
 obtain ⟨wg1,hwg⟩ : ∃ W,W = w5.alloc (.cells #[.slice none 0 0] 61):=⟨_,rfl⟩
 rw [← hwg] at bG rG zG ⊢
 rw [HZ5.out]
 have BG1:=Lib.hid bG
 have RG1:=Lib.hid rG
 have ZG1:=Lib.hid zG
 clear bG rG zG hwg
 refine wpIn_rangeFunc_A rfl (by decide) (gf:=31) (lb:=#[.pointer (some ⟨z,0,none⟩),.pointer (some ⟨z + 1,0,none⟩)]) rfl trivial HHE.out (HSQ.out 39 (by decide)) (fun r hr => ⟨by have hr : r < z + 2:=hr; have:=HZ5.out; omega,BG1.out.block r hr⟩) (by have:=BG1.out.size; omega) (fun _ => rfl)
  (fun hi pre Wx => GI wg1 (z + 2) A hi pre Wx) (fun c hi pre Wx => False) ?hI ?hIx ?h0 (fun x => .cells #[.int .i64 ((A.getD x.1 0 : Nat) : Int),.int .i64 ((A.getD x.2 0 : Nat) : Int)] 40 (0,0))
  (fun x g' => { tmps:=#[.string (bstr l),.string (bstr S),.int .i64 i1,undef,undef,undef,.bool false,.pointer (some ⟨g,0,none⟩),.nilIface,.pointer (some ⟨r2,0,none⟩),.int .i64 0,.int .i64 0,.slice al N cl,.func (.func 31) #[] #[.pointer (some ⟨z,0,none⟩),.pointer (some ⟨z + 1,0,none⟩)],.int .i64 0,.pointer (some ⟨z + 2,0,none⟩),.pointer (some ⟨g',0,none⟩),undef,undef,undef,.tuple #[.pointer (some ⟨g,0,none⟩),.nilIface],.string (bstr l),.tuple #[.pointer (some ⟨g,0,none⟩),.nilIface],.pointer (some ⟨g,0,none⟩),.nilIface,.tuple #[.agg #[.string (bstr l),.bool fo,.slice a m c],.int .i64 0,.int .i64 0],.string (bstr l),.tuple #[.agg #[.string (bstr l),.bool fo,.slice a m c],.int .i64 0,.int .i64 0],.agg #[.string (bstr l),.bool fo,.slice a m c],.int .i64 0,.int .i64 0,.nilIface,.bool false,.bool false,.int .i64 0,.bool false,.bool false,undef,undef,undef,undef,undef,undef,undef,undef,undef,.string (bstr s),.string (bstr S),.agg #[.string (bstr l),.bool fo,.slice a m c],.string (bstr S),.slice al N cl,.pointer (some ⟨g,0,none⟩),.string (bstr S),.func (.func 31) #[] #[.pointer (some ⟨z,0,none⟩),.pointer (some ⟨z + 1,0,none⟩)],.func (.func 31) #[] #[.pointer (some ⟨z,0,none⟩),.pointer (some ⟨z + 1,0,none⟩)],.bool false,.int .i64 0,.bool true,undef,undef,.func (.func 31) #[] #[.pointer (some ⟨z,0,none⟩),.pointer (some ⟨z + 1,0,none⟩)],.agg #[.int .i64 ((A.getD x.1 0 : Nat) : Int),.int .i64 ((A.getD x.2 0 : Nat) : Int)],undef,undef,undef,undef,undef,undef,undef,undef,undef,undef,undef,undef,undef,undef,undef,undef,undef,undef,undef,undef,undef,undef,undef,undef,undef,undef,undef,undef,undef,undef,undef],defers:=[] }) ?assign ?body ?done ?stop
 case assign =>
  intro l' x Wx Kc hK
  obtain ⟨xa,xb⟩:=x
  unfold pieceA
  dsimp only at hK ⊢
  generalize ((A.getD xa 0 : Nat) : Int) = X at hK ⊢
  generalize ((A.getD xb 0 : Nat) : Int) = Y at hK ⊢
  gi_wp2
  exact hK
 case hI => exact fun hi => GI.abides (by rw [ZG1.out]; omega)
 case hIx => exact fun c hi pre B B' row h => h.elim
 case h0 => exact fun hi hh => ⟨⟨rfl,rfl,rfl,Nat.le_refl _,fun _ _ _ => rfl⟩,_,RG1.out,World.ownsRow_nil _ _ _ _⟩
 case body =>
  rintro l' hi g' pre x Wx hhi1 hhi2 hob hpx ⟨h1,v,h2,h3⟩
  obtain ⟨xa,xb⟩:=x
  have hpl : pre.length + 1 ≤ N:=by have:=(show pre ++ [(xa,xb)] <+: L from hpx).length_le; rw [List.length_append,List.length_singleton,HNL.out] at this; exact this
  obtain ⟨kl,hkl⟩ : ∃ kl,kl = pre.length:=⟨_,rfl⟩
  dsimp only at hob ⊢
  obtain ⟨X,hX⟩ : ∃ X : Int,((A.getD xa 0 : Nat) : Int) = X:=⟨_,rfl⟩
  obtain ⟨Y,hY⟩ : ∃ Y : Int,((A.getD xb 0 : Nat) : Int) = Y:=⟨_,rfl⟩
  have hpc : pcCells A (xa,xb) = [.int .i64 X,.int .i64 Y]:=by unfold pcCells; rw [hX,hY]
  rw [hX,hY] at hob ⊢
  have hrow : Row Wx g' 40 [.int .i64 X,.int .i64 Y]:=hob
  have c0x:=h2.cell 0
  have c0l:=h2.lt
  have d0:=hrow.cell 0
  have d1:=hrow.cell 1
  have d2:=hrow.lt
  have hzg:=ZG1.out
  have hkey : ∀ v' w1,w1.ownsRow hi 40 2 v' (kl + 1) (pre.flatMap (pcCells A) ++ [Value.int .i64 X,.int .i64 Y]) → (Wx.alloc (.cells #[.int .i64 X,.int .i64 Y] 40)).grownBy w1 v.ownBlock → _:=fun v' w1 ho hg => GI.next (K:=fun r => r < z + 2) (x:=(xa,xb)) (by omega) (fun r hr => ⟨by have hr : r < z + 2:=hr; omega,by have hr : r < z + 2:=hr; omega⟩) h1 h2 h3 hg (by rw [hpc,← hkl]; exact ho) (by omega) (by omega)
  rw [← hkl] at h3 hpl
  obtain ⟨i0,hi_,hz0,hz1,hz2⟩:=info_parts infoPc
  have HKEY:=Lib.hid hkey
  clear hkl hpc hrow hob hkey h1 h2 hX hY
  gi_wp2_with (gi_at_builtin; refine wpListIn_append_own _ rfl _ _ 61 rfl hi 40 i0 (.agg #[.int .i64 0,.int .i64 0]) 2 16 Tryz.underlying61 hi_ hz0 hz1 hz2 rfl (by decide) _ _ _ rfl (h3.alloc _) ⟨Wx.heap.size,0,none⟩ 1 1 [.int .i64 X,.int .i64 Y] rfl rfl (new_cells _ _ _) (by simp [Value.oneCell']) (by unfold maxLen; omega) (by omega) (by simp; omega) ?_; intro v' w1 hown' hgrow _; obtain ⟨u1,u2,u3,u4⟩:=HKEY.out v' w1 hown' hgrow; obtain ⟨gx,cx,rfl⟩:=ownsRow_succ hown'; clear hown' hgrow)
  have U4:=(by assumption : Hid (KeepsC _ wg1.heap.size hi Wx _ ∧ GI wg1 _ A hi _ _)).out
  exact ⟨U4.1,U4.2⟩
 case stop => exact fun D hi c pre W _ _ _ h => h.elim
 case done =>
  rintro D1 hi xs Wx hD hDh hxs ⟨q1,v,q2,q3⟩ hd
  obtain rfl : L = xs:=(show xs = L from hxs).symm
  obtain ⟨a1',c1',rfl⟩:=own_slice6 q3
  rw [HNL.out] at q2 q3
  have hzg:=ZG1.out
  have bX : Below (z + 2) w5 Wx:=⟨q1.os.trans BG1.out.os,q1.tape.trans BG1.out.tape,q1.output.trans BG1.out.output,Nat.le_trans BG1.out.size q1.size,fun r hr => (q1.block r (by omega) (fun e => by have:=Option.some.inj e; omega)).trans (BG1.out.block r hr)⟩
  have q4:=q2.cell 0
  have q5:=q2.lt
  have hpc1 : PcOwn hi (.slice a1' N c1') A L Wx:=by unfold PcOwn; rw [HNL.out]; exact q3
  have hpc2 : PcOwn (r2 + 1) (.slice al N cl) A L Wx:=own_below HPC.out (by rw [HZ5.out]; exact bX)
  have HEQ:=Lib.hid (eqC Wx A L hi (r2 + 1) a1' al N c1' cl hpc1 hpc2 HNL.out (by omega))
  have BX:=Lib.hid bX
  have SX : Hid (z + 3 ≤ Wx.heap.size):=Lib.hid (by have:=q1.size; omega)
  have DX1:=Lib.hid hd
  have DLX : Hid (D1 < Wx.heap.size):=Lib.hid (Array.getElem?_eq_some_iff.1 hd).1
  clear bX q1 q2 q3 hpc1 hpc2 hd
  gi_wp2_with (refine ⟨trivial,?_⟩; gi_at_call 22; refine (callsIn_wide.2 HEQ.out).mono ?_; rintro e W1 ⟨rfl,hq⟩; obtain ⟨mq,hmq⟩:=hq)
  obtain ⟨wn1,hwn⟩ : ∃ W,W = Wx.drewN mq:=⟨_,rfl⟩
  rw [← hwn]
  have qd : Quiet Wx wn1:=⟨mq,hwn⟩
  have BB1 : Hid (Below (z + 2) w5 wn1):=Lib.hid (BX.out.trans (qd.below _))
  have SB1 : Hid (z + 3 ≤ wn1.heap.size):=Lib.hid (by rw [hwn]; have:=SX.out; simpa using (by omega : z + 3 ≤ Wx.heap.size))
  have DH1_1 : Hid (wn1.heap[D1]? = some (.deferred (some []))):=Lib.hid (by rw [hwn]; exact DX1.out)
  have DL1_1 : Hid (D1 < wn1.heap.size):=Lib.hid (Array.getElem?_eq_some_iff.1 DH1_1.out).1
  have DB1 : Hid (z + 2 ≤ D1):=Lib.hid (by omega)
  clear HEQ BX SX DLX DX1 q4 q5 qd hwn hmq hD hDh hzg hxs
  obtain ⟨y2,hy2⟩ : ∃ y,y = wn1.heap.size:=⟨_,rfl⟩
  have HY2:=Lib.hid hy2
  clear hy2
  rw [roundsIn_succ]
  gi_wp2
  have bG : Below (z + 2) w5 (wn1.alloc (.cells #[.slice none 0 0] 61)):=by exact BB1.out.alloc (by have:=SB1.out; omega) _
  have hyz2 : z + 3 ≤ y2:=by rw [HY2.out]; exact SB1.out
  have rG : Row (wn1.alloc (.cells #[.slice none 0 0] 61)) y2 61 [.slice none 0 0]:=by rw [HY2.out]; exact row_new wn1 [.slice none 0 0] _
  have zG : (wn1.alloc (.cells #[.slice none 0 0] 61)).heap.size = y2 + 1:=by simp [HY2.out]
  have DG1_2 : Hid ((wn1.alloc (.cells #[.slice none 0 0] 61)).heap[D1]? = some (.deferred (some []))):=Lib.hid ((Below.heap_alloc wn1 _ D1 DL1_1.out).trans DH1_1.out)
  obtain ⟨wg2,hwg⟩ : ∃ W,W = wn1.alloc (.cells #[.slice none 0 0] 61):=⟨_,rfl⟩
  rw [← hwg] at bG rG zG DG1_2 ⊢
  rw [← HY2.out]
  have BG2:=Lib.hid bG
  have RG2:=Lib.hid rG
  have ZG2:=Lib.hid zG
  clear bG rG zG hwg
  refine wpIn_rangeFunc_A rfl (by decide) (gf:=31) (lb:=#[.pointer (some ⟨z,0,none⟩),.pointer (some ⟨z + 1,0,none⟩)]) rfl trivial HHE.out (HSQ.out 39 (by decide)) (fun r hr => ⟨by have hr : r < z + 2:=hr; have:=HZ5.out; omega,BG2.out.block r hr⟩) (by have:=BG2.out.size; omega) (fun _ => rfl)
   (fun hi pre Wx => GI wg2 y2 A hi pre Wx) (fun c hi pre Wx => False) ?hI ?hIx ?h0 (fun x => .cells #[.int .i64 ((A.getD x.1 0 : Nat) : Int),.int .i64 ((A.getD x.2 0 : Nat) : Int)] 40 (0,0))
   (fun x g' => { tmps:=#[.string (bstr l),.string (bstr S),.int .i64 i1,undef,undef,undef,.bool false,.pointer (some ⟨g,0,none⟩),.nilIface,.pointer (some ⟨r2,0,none⟩),.int .i64 0,.int .i64 0,.slice al N cl,.func (.func 31) #[] #[.pointer (some ⟨z,0,none⟩),.pointer (some ⟨z + 1,0,none⟩)],.int .i64 1,.pointer (some ⟨y2,0,none⟩),.pointer (some ⟨g',0,none⟩),undef,undef,undef,.tuple #[.pointer (some ⟨g,0,none⟩),.nilIface],.string (bstr l),.tuple #[.pointer (some ⟨g,0,none⟩),.nilIface],.pointer (some ⟨g,0,none⟩),.nilIface,.tuple #[.agg #[.string (bstr l),.bool fo,.slice a m c],.int .i64 0,.int .i64 0],.string (bstr l),.tuple #[.agg #[.string (bstr l),.bool fo,.slice a m c],.int .i64 0,.int .i64 0],.agg #[.string (bstr l),.bool fo,.slice a m c],.int .i64 0,.int .i64 0,.nilIface,.bool false,.bool false,.int .i64 0,.bool false,.bool false,undef,undef,undef,undef,undef,undef,undef,undef,undef,.string (bstr s),.string (bstr S),.agg #[.string (bstr l),.bool fo,.slice a m c],.string (bstr S),.slice al N cl,.pointer (some ⟨g,0,none⟩),.string (bstr S),.func (.func 31) #[] #[.pointer (some ⟨z,0,none⟩),.pointer (some ⟨z + 1,0,none⟩)],.func (.func 31) #[] #[.pointer (some ⟨z,0,none⟩),.pointer (some ⟨z + 1,0,none⟩)],.bool false,.int .i64 1,.bool true,.int .i64 0,.int .i64 1,.func (.func 31) #[] #[.pointer (some ⟨z,0,none⟩),.pointer (some ⟨z + 1,0,none⟩)],.agg #[.int .i64 ((A.getD x.1 0 : Nat) : Int),.int .i64 ((A.getD x.2 0 : Nat) : Int)],undef,undef,undef,undef,.slice a1' N c1',.slice al N cl,.bool true,.bool false,undef,undef,undef,undef,undef,undef,undef,undef,undef,undef,undef,undef,undef,undef,undef,undef,undef,undef,undef,undef,undef,undef,undef],defers:=[] }) ?assign ?body ?done ?stop
  case assign =>
   intro l' x Wx Kc hK
   obtain ⟨xa,xb⟩:=x
   unfold pieceA
   dsimp only at hK ⊢
   generalize ((A.getD xa 0 : Nat) : Int) = X at hK ⊢
   generalize ((A.getD xb 0 : Nat) : Int) = Y at hK ⊢
   gi_wp2
   exact hK
  case hI => exact fun hi => GI.abides (by rw [ZG2.out]; omega)
  case hIx => exact fun c hi pre B B' row h => h.elim
  case h0 => exact fun hi hh => ⟨⟨rfl,rfl,rfl,Nat.le_refl _,fun _ _ _ => rfl⟩,_,RG2.out,World.ownsRow_nil _ _ _ _⟩
  case body =>
   rintro l' hi g' pre x Wx hhi1 hhi2 hob hpx ⟨h1,v,h2,h3⟩
   obtain ⟨xa,xb⟩:=x
   have hpl : pre.length + 1 ≤ N:=by have:=(show pre ++ [(xa,xb)] <+: L from hpx).length_le; rw [List.length_append,List.length_singleton,HNL.out] at this; exact this
   obtain ⟨kl,hkl⟩ : ∃ kl,kl = pre.length:=⟨_,rfl⟩
   dsimp only at hob ⊢
   obtain ⟨X,hX⟩ : ∃ X : Int,((A.getD xa 0 : Nat) : Int) = X:=⟨_,rfl⟩
   obtain ⟨Y,hY⟩ : ∃ Y : Int,((A.getD xb 0 : Nat) : Int) = Y:=⟨_,rfl⟩
   have hpc : pcCells A (xa,xb) = [.int .i64 X,.int .i64 Y]:=by unfold pcCells; rw [hX,hY]
   rw [hX,hY] at hob ⊢
   have hrow : Row Wx g' 40 [.int .i64 X,.int .i64 Y]:=hob
   have c0x:=h2.cell 0
   have c0l:=h2.lt
   have d0:=hrow.cell 0
   have d1:=hrow.cell 1
   have d2:=hrow.lt
   have hzg:=ZG2.out
   have hkey : ∀ v' w1,w1.ownsRow hi 40 2 v' (kl + 1) (pre.flatMap (pcCells A) ++ [Value.int .i64 X,.int .i64 Y]) → (Wx.alloc (.cells #[.int .i64 X,.int .i64 Y] 40)).grownBy w1 v.ownBlock → _:=fun v' w1 ho hg => GI.next (K:=fun r => r < z + 2) (x:=(xa,xb)) (by omega) (fun r hr => ⟨by have hr : r < z + 2:=hr; omega,by have hr : r < z + 2:=hr; omega⟩) h1 h2 h3 hg (by rw [hpc,← hkl]; exact ho) (by omega) (by omega)
   rw [← hkl] at h3 hpl
   obtain ⟨i0,hi_,hz0,hz1,hz2⟩:=info_parts infoPc
   have HKEY:=Lib.hid hkey
   clear hkl hpc hrow hob hkey h1 h2 hX hY
   gi_wp2_with (gi_at_builtin; refine wpListIn_append_own _ rfl _ _ 61 rfl hi 40 i0 (.agg #[.int .i64 0,.int .i64 0]) 2 16 Tryz.underlying61 hi_ hz0 hz1 hz2 rfl (by decide) _ _ _ rfl (h3.alloc _) ⟨Wx.heap.size,0,none⟩ 1 1 [.int .i64 X,.int .i64 Y] rfl rfl (new_cells _ _ _) (by simp [Value.oneCell']) (by unfold maxLen; omega) (by omega) (by simp; omega) ?_; intro v' w1 hown' hgrow _; obtain ⟨u1,u2,u3,u4⟩:=HKEY.out v' w1 hown' hgrow; obtain ⟨gx,cx,rfl⟩:=ownsRow_succ hown'; clear hown' hgrow)
   have U4:=(by assumption : Hid (KeepsC _ wg2.heap.size hi Wx _ ∧ GI wg2 _ A hi _ _)).out
   exact ⟨U4.1,U4.2⟩
  case stop => exact fun D hi c pre W _ _ _ h => h.elim
  case done =>
   rintro D2 hi xs Wx hD hDh hxs ⟨q1,v,q2,q3⟩ hd
   obtain rfl : L = xs:=(show xs = L from hxs).symm
   obtain ⟨a2',c2',rfl⟩:=own_slice6 q3
   rw [HNL.out] at q2 q3
   have hzg:=ZG2.out
   have bX : Below (z + 2) w5 Wx:=⟨q1.os.trans BG2.out.os,q1.tape.trans BG2.out.tape,q1.output.trans BG2.out.output,Nat.le_trans BG2.out.size q1.size,fun r hr => (q1.block r (by omega) (fun e => by have:=Option.some.inj e; omega)).trans (BG2.out.block r hr)⟩
   have q4:=q2.cell 0
   have q5:=q2.lt
   have hpc1 : PcOwn hi (.slice a2' N c2') A L Wx:=by unfold PcOwn; rw [HNL.out]; exact q3
   have hpc2 : PcOwn (r2 + 1) (.slice al N cl) A L Wx:=own_below HPC.out (by rw [HZ5.out]; exact bX)
   have HEQ:=Lib.hid (eqC Wx A L hi (r2 + 1) a2' al N c2' cl hpc1 hpc2 HNL.out (by omega))
   have BX:=Lib.hid bX
   have SX : Hid (z + 3 ≤ Wx.heap.size):=Lib.hid (by have:=q1.size; have h2:=SB1.out; rw [← HY2.out] at h2; omega)
   have DX1 : Hid (Wx.heap[D1]? = some (.deferred (some []))):=Lib.hid ((q1.block D1 (by have:=DL1_1.out; rw [← HY2.out] at this; omega) (fun e => by have:=Option.some.inj e; have h2:=DL1_1.out; rw [← HY2.out] at h2; omega)).trans DG1_2.out)
   have DX2:=Lib.hid hd
   have DLX : Hid (D2 < Wx.heap.size):=Lib.hid (Array.getElem?_eq_some_iff.1 hd).1
   clear bX q1 q2 q3 hpc1 hpc2 hd
   gi_wp2_with (refine ⟨trivial,?_⟩; gi_at_call 22; refine (callsIn_wide.2 HEQ.out).mono ?_; rintro e W1 ⟨rfl,hq⟩; obtain ⟨mq,hmq⟩:=hq)
   obtain ⟨wn2,hwn⟩ : ∃ W,W = Wx.drewN mq:=⟨_,rfl⟩
   rw [← hwn]
   have qd : Quiet Wx wn2:=⟨mq,hwn⟩
   have BB2 : Hid (Below (z + 2) w5 wn2):=Lib.hid (BX.out.trans (qd.below _))
   have SB2 : Hid (z + 3 ≤ wn2.heap.size):=Lib.hid (by rw [hwn]; have:=SX.out; simpa using (by omega : z + 3 ≤ Wx.heap.size))
   have DH1_2 : Hid (wn2.heap[D1]? = some (.deferred (some []))):=Lib.hid (by rw [hwn]; exact DX1.out)
   have DL1_2 : Hid (D1 < wn2.heap.size):=Lib.hid (Array.getElem?_eq_some_iff.1 DH1_2.out).1
   have DH2_2 : Hid (wn2.heap[D2]? = some (.deferred (some []))):=Lib.hid (by rw [hwn]; exact DX2.out)
   have DL2_2 : Hid (D2 < wn2.heap.size):=Lib.hid (Array.getElem?_eq_some_iff.1 DH2_2.out).1
   have DN12 : Hid (D1 < D2):=Lib.hid (by have h1:=DL1_1.out; rw [← HY2.out] at h1; omega)
   clear HEQ BX SX DLX DX1 DX2 q4 q5 qd hwn hmq hD hDh hzg hxs
   obtain ⟨y3,hy3⟩ : ∃ y,y = wn2.heap.size:=⟨_,rfl⟩
   have HY3:=Lib.hid hy3
   clear hy3
   rw [roundsIn_succ]
   have HWI:=Lib.hid (withinC wn2 i1 ((N : Int) + 1) (by omega) (by omega))
   gi_wp2_with (refine ⟨trivial,?_⟩; gi_at_call 23; refine (callsIn_wide.2 HWI.out).mono ?_; rintro e W2 ⟨⟨q,rfl,hqN⟩,hw2⟩; obtain rfl : wn2 = W2:=hw2.symm)
   have hyz3 : z + 3 ≤ y3:=by rw [HY3.out]; exact SB2.out
   have bG : Below (z + 2) w5 ((wn2.alloc (.cells #[.int .i64 (q : Int)] 3)).alloc (.cells #[.slice none 0 0] 61)):=(BB2.out.alloc (by have:=SB2.out; omega) _).alloc (by have:=SB2.out; simp; omega) _
   have rG : Row ((wn2.alloc (.cells #[.int .i64 (q : Int)] 3)).alloc (.cells #[.slice none 0 0] 61)) (y3 + 1) 61 [.slice none 0 0]:=by have:=row_new (wn2.alloc (.cells #[.int .i64 (q : Int)] 3)) [.slice none 0 0] 61; rw [World.size_alloc,← HY3.out] at this; exact this
   have rN : Row ((wn2.alloc (.cells #[.int .i64 (q : Int)] 3)).alloc (.cells #[.slice none 0 0] 61)) y3 3 [.int .i64 (q : Int)]:=by rw [HY3.out]; exact (row_new wn2 [.int .i64 (q : Int)] 3).alloc _
   have zG : ((wn2.alloc (.cells #[.int .i64 (q : Int)] 3)).alloc (.cells #[.slice none 0 0] 61)).heap.size = y3 + 2:=by simp [HY3.out]
   have DG1_3 : Hid (((wn2.alloc (.cells #[.int .i64 (q : Int)] 3)).alloc (.cells #[.slice none 0 0] 61)).heap[D1]? = some (.deferred (some []))):=Lib.hid ((Below.heap_alloc _ _ D1 (by have:=DL1_2.out; simp; omega)).trans ((Below.heap_alloc wn2 _ D1 DL1_2.out).trans DH1_2.out))
   have DG2_3 : Hid (((wn2.alloc (.cells #[.int .i64 (q : Int)] 3)).alloc (.cells #[.slice none 0 0] 61)).heap[D2]? = some (.deferred (some []))):=Lib.hid ((Below.heap_alloc _ _ D2 (by have:=DL2_2.out; simp; omega)).trans ((Below.heap_alloc wn2 _ D2 DL2_2.out).trans DH2_2.out))
   obtain ⟨wg3,hwg⟩ : ∃ W,W = ((wn2.alloc (.cells #[.int .i64 (q : Int)] 3)).alloc (.cells #[.slice none 0 0] 61)):=⟨_,rfl⟩
   rw [← hwg] at bG rG rN zG DG1_3 DG2_3 ⊢
   rw [← HY3.out]
   have BG3:=Lib.hid bG
   have RG3:=Lib.hid rG
   have RN3:=Lib.hid rN
   have ZG3:=Lib.hid zG
   clear bG rG rN zG hwg
   refine wpIn_rangeFunc_A rfl (by decide) (gf:=31) (lb:=#[.pointer (some ⟨z,0,none⟩),.pointer (some ⟨z + 1,0,none⟩)]) rfl trivial HHE.out (HSQ.out 39 (by decide)) (fun r hr => ⟨by have hr : r < z + 2:=hr; have:=HZ5.out; omega,BG3.out.block r hr⟩) (by have:=BG3.out.size; omega) (fun _ => rfl)
    (fun hi pre Wx => pre.length ≤ q ∧ GI wg3 (y3 + 1) A hi pre Wx) (fun c hi pre Wx => c = .exit 4 ∧ ∃ pr x,pre = pr ++ [x] ∧ pr.length = q ∧ GI wg3 (y3 + 1) A hi pr Wx) ?hI ?hIx ?h0 (fun x => .cells #[.int .i64 ((A.getD x.1 0 : Nat) : Int),.int .i64 ((A.getD x.2 0 : Nat) : Int)] 40 (0,0))
    (fun x g' => { tmps:=#[.string (bstr l),.string (bstr S),.int .i64 i1,undef,undef,undef,.bool false,.pointer (some ⟨g,0,none⟩),.nilIface,.pointer (some ⟨r2,0,none⟩),.int .i64 0,.int .i64 0,.slice al N cl,.func (.func 31) #[] #[.pointer (some ⟨z,0,none⟩),.pointer (some ⟨z + 1,0,none⟩)],.int .i64 2,.pointer (some ⟨y2,0,none⟩),undef,.pointer (some ⟨y3,0,none⟩),.pointer (some ⟨y3 + 1,0,none⟩),.pointer (some ⟨g',0,none⟩),.tuple #[.pointer (some ⟨g,0,none⟩),.nilIface],.string (bstr l),.tuple #[.pointer (some ⟨g,0,none⟩),.nilIface],.pointer (some ⟨g,0,none⟩),.nilIface,.tuple #[.agg #[.string (bstr l),.bool fo,.slice a m c],.int .i64 0,.int .i64 0],.string (bstr l),.tuple #[.agg #[.string (bstr l),.bool fo,.slice a m c],.int .i64 0,.int .i64 0],.agg #[.string (bstr l),.bool fo,.slice a m c],.int .i64 0,.int .i64 0,.nilIface,.bool false,.bool false,.int .i64 0,.bool false,.bool false,undef,undef,undef,undef,undef,undef,undef,undef,undef,.string (bstr s),.string (bstr S),.agg #[.string (bstr l),.bool fo,.slice a m c],.string (bstr S),.slice al N cl,.pointer (some ⟨g,0,none⟩),.string (bstr S),.func (.func 31) #[] #[.pointer (some ⟨z,0,none⟩),.pointer (some ⟨z + 1,0,none⟩)],.func (.func 31) #[] #[.pointer (some ⟨z,0,none⟩),.pointer (some ⟨z + 1,0,none⟩)],.bool false,.int .i64 2,.bool false,.int .i64 1,.int .i64 2,.func (.func 31) #[] #[.pointer (some ⟨z,0,none⟩),.pointer (some ⟨z + 1,0,none⟩)],undef,undef,undef,undef,undef,.slice a2' N c2',.slice al N cl,.bool true,.bool false,.int .i64 i1,.slice al N cl,.int .i64 (N : Int),.int .i64 ((N : Int) + 1),.int .i64 (q : Int),.func (.func 31) #[] #[.pointer (some ⟨z,0,none⟩),.pointer (some ⟨z + 1,0,none⟩)],.agg #[.int .i64 ((A.getD x.1 0 : Nat) : Int),.int .i64 ((A.getD x.2 0 : Nat) : Int)],undef,undef,undef,undef,undef,undef,undef,undef,undef,undef,undef,undef,undef,undef,undef,undef],defers:=[] }) ?assign ?body ?done ?stop
   case assign =>
    intro l' x Wx Kc hK
    obtain ⟨xa,xb⟩:=x
    unfold pieceA
    dsimp only at hK ⊢
    generalize ((A.getD xa 0 : Nat) : Int) = X at hK ⊢
    generalize ((A.getD xb 0 : Nat) : Int) = Y at hK ⊢
    gi_wp2
    exact hK
   case hI => exact fun hi pre B B' row h hg ht => ⟨h.1,GI.abides (by rw [ZG3.out]; omega) pre B B' row h.2 hg ht⟩
   case hIx =>
    rintro c hi pre B B' row ⟨hc,pr,x,h1,h2,h3⟩ hg ht
    exact ⟨hc,pr,x,h1,h2,GI.abides (by rw [ZG3.out]; omega) pr B B' row h3 hg ht⟩
   case h0 => exact fun hi hh => ⟨Nat.zero_le _,⟨rfl,rfl,rfl,Nat.le_refl _,fun _ _ _ => rfl⟩,_,RG3.out,World.ownsRow_nil _ _ _ _⟩
   case body =>
    rintro l' hi g' pre x Wx hhi1 hhi2 hob hpx ⟨hq0,h1,v,h2,h3⟩
    obtain ⟨xa,xb⟩:=x
    have hpl : pre.length + 1 ≤ N:=by have:=(show pre ++ [(xa,xb)] <+: L from hpx).length_le; rw [List.length_append,List.length_singleton,HNL.out] at this; exact this
    obtain ⟨kl,hkl⟩ : ∃ kl,kl = pre.length:=⟨_,rfl⟩
    obtain ⟨a0,c0,rfl⟩:=own_slice6 h3
    dsimp only at hob ⊢
    obtain ⟨X,hX⟩ : ∃ X : Int,((A.getD xa 0 : Nat) : Int) = X:=⟨_,rfl⟩
    obtain ⟨Y,hY⟩ : ∃ Y : Int,((A.getD xb 0 : Nat) : Int) = Y:=⟨_,rfl⟩
    have hpc : pcCells A (xa,xb) = [.int .i64 X,.int .i64 Y]:=by unfold pcCells; rw [hX,hY]
    rw [hX,hY] at hob ⊢
    have hrow : Row Wx g' 40 [.int .i64 X,.int .i64 Y]:=hob
    have c0x:=h2.cell 0
    have c0l:=h2.lt
    have d0:=hrow.cell 0
    have d1:=hrow.cell 1
    have d2:=hrow.lt
    have hzg:=ZG3.out
    have hkey : ∀ v' w1,w1.ownsRow hi 40 2 v' (kl + 1) (pre.flatMap (pcCells A) ++ [Value.int .i64 X,.int .i64 Y]) → (Wx.alloc (.cells #[.int .i64 X,.int .i64 Y] 40)).grownBy w1 (Value.slice a0 pre.length c0).ownBlock → _:=fun v' w1 ho hg => GI.next (K:=fun r => r < z + 2) (x:=(xa,xb)) (by omega) (fun r hr => ⟨by have hr : r < z + 2:=hr; omega,by have hr : r < z + 2:=hr; omega⟩) h1 h2 h3 hg (by rw [hpc,← hkl]; exact ho) (by omega) (by omega)
    rw [← hkl] at h3 hpl c0x hkey hq0
    obtain ⟨i0,hi_,hz0,hz1,hz2⟩:=info_parts infoPc
    have HKEY:=Lib.hid hkey
    have HKL:=Lib.hid hkl
    have hrn : Row Wx y3 3 [.int .i64 (q : Int)]:=row_rows RN3.out (h1.block y3 (by omega) (fun e => by have:=Option.some.inj e; omega))
    have n0:=hrn.cell 0
    have n1:=hrn.lt
    by_cases hkq : kl = q
    ·have e1 : ((kl : Int) == (q : Int)) = true:=by rw [beq_iff_eq]; omega
     have H1:=Lib.hid (And.intro h1 (And.intro h2 h3))
     clear hkl hpc hrow hob hkey h1 h2 hX hY
     clear hrn
     gi_wp2
     exact ⟨KeepsC.refl _ _ _ _,rfl,pre,_,rfl,by rw [← HKL.out]; exact hkq,H1.out.1,_,H1.out.2.1,by rw [← HKL.out]; exact H1.out.2.2⟩
    have e1 : ((kl : Int) == (q : Int)) = false:=by rw [beq_eq_false_iff_ne]; omega
    clear hrn
    clear hkl hpc hrow hob hkey h1 h2 hX hY
    gi_wp2_with (gi_at_builtin; refine wpListIn_append_own _ rfl _ _ 61 rfl hi 40 i0 (.agg #[.int .i64 0,.int .i64 0]) 2 16 Tryz.underlying61 hi_ hz0 hz1 hz2 rfl (by decide) _ _ _ rfl (h3.alloc _) ⟨Wx.heap.size,0,none⟩ 1 1 [.int .i64 X,.int .i64 Y] rfl rfl (new_cells _ _ _) (by simp [Value.oneCell']) (by unfold maxLen; omega) (by omega) (by simp; omega) ?_; intro v' w1 hown' hgrow _; obtain ⟨u1,u2,u3,u4⟩:=HKEY.out v' w1 hown' hgrow; obtain ⟨gx,cx,rfl⟩:=ownsRow_succ hown'; clear hown' hgrow)
    have U4:=(by assumption : Hid (KeepsC _ wg3.heap.size hi Wx _ ∧ GI wg3 _ A hi _ _)).out
    exact ⟨U4.1,by rw [List.length_append,List.length_singleton,← HKL.out]; omega,U4.2⟩
   case' stop =>
    rintro D3 hi c pre Wx hD hDh hpre ⟨rfl,pr,x,rfl,hpr,q1,v,q2,q3⟩ hd
    obtain ⟨a3',c3',rfl⟩:=own_slice6 q3
    gi_wp2
    rename_i K9 hK9
    have hzg:=ZG3.out
    have htk : L.take q = pr:=by obtain ⟨r,hr⟩:=(show pr ++ [x] <+: L from hpre); rw [← hr,← hpr,List.append_assoc]; exact List.take_left
    rw [hpr] at q2 q3
    have hqn : q ≤ N:=by omega
    have hpc1 : PcOwn hi (.slice a3' q c3') A (L.take q) Wx:=by unfold PcOwn; rw [htk,hpr]; exact q3
    have hlen : (L.take q).length = q:=by rw [htk]; exact hpr
    clear hpre hpr
   case' done =>
    rintro D3 hi xs Wx hD hDh hxs ⟨hq1,q1,v,q2,q3⟩ hd
    obtain rfl : L = xs:=(show xs = L from hxs).symm
    obtain ⟨a3',c3',rfl⟩:=own_slice6 q3
    gi_wp2
    rename_i K9 hK9
    have hzg:=ZG3.out
    have hnl:=HNL.out
    have hqn : q ≤ N:=by omega
    have hqe : L.length = q:=by omega
    have htk : L.take q = L:=List.take_of_length_le (by omega)
    rw [hqe] at q2 q3
    have hpc1 : PcOwn hi (.slice a3' q c3') A (L.take q) Wx:=by unfold PcOwn; rw [htk,hqe]; exact q3
    have hlen : (L.take q).length = q:=by rw [htk]; exact hqe
    clear hxs hq1 hqe hnl
   all_goals
    have bX : Below (z + 2) w5 Wx:=⟨q1.os.trans BG3.out.os,q1.tape.trans BG3.out.tape,q1.output.trans BG3.out.output,Nat.le_trans BG3.out.size q1.size,fun r hr => (q1.block r (by omega) (fun e => by have:=Option.some.inj e; omega)).trans (BG3.out.block r hr)⟩
    have hpc2 : PcOwn (r2 + 1) (.slice al q cl) A (L.take q) Wx:=PcOwn.take (n:=N) (own_below HPC.out (by rw [HZ5.out]; exact bX)) HNL.out hqn
    have heq : ∀ W,Quiet Wx W → Calls Tryz.prog 22 #[.slice a3' q c3',.slice al q cl] W fun e w' => e = .returned (.bool true) ∧ Quiet W w':=fun W hW => eqC W A (L.take q) hi (r2 + 1) a3' al q c3' cl (hpc1.quiet hW) (hpc2.quiet hW) hlen (by omega)
    have hwk : ∀ W,Quiet Wx W → Calls Tryz.prog 13 #[] W fun e w' => e = .returned (.bool true) ∧ Below W.heap.size W w':=fun W hW => worksC W (HT5.out.next (by rw [HZ5.out]; exact bX.trans (hW.below _)))
    have q4:=q2.cell 0
    have q5:=q2.lt
    have hrn : Row Wx y3 3 [.int .i64 (q : Int)]:=row_rows RN3.out (q1.block y3 (by omega) (fun e => by have:=Option.some.inj e; omega))
    have n0:=hrn.cell 0
    have n1:=hrn.lt
    have dl1:=DL1_2.out
    have dl2:=DL2_2.out
    rw [← HY3.out] at dl1 dl2
    have DX1 : Hid (Wx.heap[D1]? = some (.deferred (some []))):=Lib.hid ((q1.block D1 (by omega) (fun e => by have:=Option.some.inj e; omega)).trans DG1_3.out)
    have DX2 : Hid (Wx.heap[D2]? = some (.deferred (some []))):=Lib.hid ((q1.block D2 (by omega) (fun e => by have:=Option.some.inj e; omega)).trans DG2_3.out)
    have DX3:=Lib.hid hd
    have DN:=Lib.hid (show D1 < D2 ∧ D2 < D3 from ⟨DN12.out,by omega⟩)
    have BX:=Lib.hid bX
    have HEQ:=Lib.hid heq
    have HWK:=Lib.hid hwk
    have hcap : (al = none ∧ N = 0 ∧ cl = 0) ∨ ∃ ga,al = some ⟨ga,0,none⟩ ∧ N ≤ cl:=by
     rcases HPC.out.2 with ⟨e0,e1⟩ | ⟨ga,cap,cur,e0,_,_,e1,_⟩
     ·cases e0; exact .inl ⟨rfl,rfl,rfl⟩
     ·cases e0; exact .inr ⟨ga,rfl,by have:=HNL.out; omega⟩
    clear heq hwk bX hpc1 hpc2 hd hlen htk q1 q2 q3 hrn dl1 dl2 hD hDh
    rcases hcap with hc | hc
   all_goals first | (obtain ⟨rfl,rfl,rfl⟩:=hc; obtain rfl : q = 0:=(by omega); rw [show ((0 : Nat) : Int) = 0 from rfl] at n0 ⊢; clear hqN hqn hll HWI HPC) | (obtain ⟨ga,rfl,hcl⟩:=hc)
   all_goals refine wpIn_only ?_
   all_goals gi_region_with (first
    | (refine ⟨trivial,?_⟩; gi_at_call 22; refine (callsIn_wide.2 (HEQ.out _ ((Quiet.refl Wx).drewN 1))).mono ?_; rintro e W8 ⟨rfl,hq8⟩; have HQ8:=Lib.hid (((Quiet.refl Wx).drewN 1).trans hq8); clear hq8)
    | (refine ⟨trivial,?_⟩; gi_at_call 13; refine (callsIn_wide.2 (HWK.out _ HQ8.out)).mono ?_; rintro e W9 ⟨rfl,hb9⟩; have HB9:=Lib.hid hb9; clear hb9))
   all_goals
    have hs8 : W8.heap = Wx.heap:=by obtain ⟨mm,rfl⟩:=HQ8.out; rfl
    have e1 : W9.heap[D1]? = some (.deferred (some [])):=(HB9.out.block D1 (by rw [hs8]; exact (Array.getElem?_eq_some_iff.1 DX1.out).1)).trans (by rw [hs8]; exact DX1.out)
    have e2 : W9.heap[D2]? = some (.deferred (some [])):=(HB9.out.block D2 (by rw [hs8]; exact (Array.getElem?_eq_some_iff.1 DX2.out).1)).trans (by rw [hs8]; exact DX2.out)
    have e3 : W9.heap[D3]? = some (.deferred (some [])):=(HB9.out.block D3 (by rw [hs8]; exact (Array.getElem?_eq_some_iff.1 DX3.out).1)).trans (by rw [hs8]; exact DX3.out)
    have hwz : w.heap.size ≤ z + 2:=by have:=HB5.out.size; rw [HZ5.out] at this; exact this
    have b9 : Below w.heap.size w W9:=HB5.out.trans ((BX.out.trans ((HQ8.out.below _).trans (HB9.out.mono (by rw [hs8]; have h:=BX.out.size; rw [HZ5.out] at h; exact h)))).mono hwz)
    have hdb:=DB1.out
    have hdn:=DN.out
    have l1:=(Array.getElem?_eq_some_iff.1 e1).1
    have HF:=Lib.hid (And.intro e1 (And.intro e2 (And.intro e3 b9)))
    clear e1 e2 e3 b9 hs8
    refine hK9 _ _ ?_
    refine wpIn_ret ?_
    change LeavesInM Fence.wide 40 Tryz.prog _ _ _ [{ target:=.collected D3,args:=#[] }, { target:=.collected D2,args:=#[] }, { target:=.collected D1,args:=#[] }] .returning W9
    refine ⟨by simp,.inl ⟨_,_,rfl,run_takeDeferred HF.out.2.2.1,?_⟩⟩
    refine ⟨by simp,.inl ⟨_,_,rfl,run_takeDeferred ((World.putObj_heap_other (by omega)).trans HF.out.2.1),?_⟩⟩
    refine ⟨by simp,.inl ⟨_,_,rfl,run_takeDeferred ((World.putObj_heap_other (by omega)).trans ((World.putObj_heap_other (by omega)).trans HF.out.1)),?_⟩⟩
    refine ⟨_,results_tmp rfl _ _ _,rfl,?_⟩
    exact ((HF.out.2.2.2.grown (grownBy_putObj' _ D3 _) (by omega) (fun r e => by cases e; omega)).grown (grownBy_putObj' _ D2 _) (by simp; omega) (fun r e => by cases e; omega)).grown (grownBy_putObj' _ D1 _) (by simp; omega) (fun r e => by cases e; omega)
theorem items_lenA : ∀ (V : List Nat) (f i : Nat) (acc its : List Itm),itemsGo V f i acc = .inr its → its.length ≤ acc.length + f
 | V,0,i,acc,its,h => by
  rw [itemsGo] at h
  simp only [Sum.inr.injEq] at h
  rw [← h]; exact Nat.le_refl _
 | V,f + 1,i,acc,its,h => by
  rw [itemsGo] at h
  split at h
  ·simp only [Sum.inr.injEq] at h
   rw [← h]; omega
  ·split at h
   ·cases h
   ·have:=items_lenA V f _ _ _ h
    rw [List.length_append,List.length_singleton] at this
    omega
theorem seekAll_walk (w : World) (l : List UInt8) (hm : l.length ≤ 140737488351232) (s : List UInt8) (hs : s.length ≤ 140737488351232) (i1 : Int) (hi : (Lit.int .i64 i1).wf = true) (hT : Tabs w) :
  Calls Tryz.prog 6 #[.string (bstr l),.string (bstr s),.int .i64 i1] w fun e w' => e = .returned (.bool true) ∧ Below w.heap.size w w':=by
 have hC:=fun W (h : Below w.heap.size w W) => compileF W l (by omega) (hT.next h)
 have hR:=fun W => compR6 W l (by omega)
 unfold CompF at hC
 unfold RComp at hR
 by_cases hbig : 256 < l.length
 ·simp only [if_pos hbig] at hC hR
  refine all_bad w l s i1 4 0 rfl hT (fun W h => (hC W h).mono ?_) (fun W => (hR W).mono ?_)
  ·rintro e w' ⟨hb,g,rfl,_,hr⟩
   exact ⟨g,rfl,hb⟩
  ·rintro e w' ⟨hb,rfl⟩
   exact ⟨rfl,hb⟩
 ·simp only [if_neg hbig] at hC hR
  cases hI : itemsP (valsL l) with
  | inl b =>
   simp only [hI] at hC hR
   refine all_bad w l s i1 60 ((atsL l).getD b 0 : Int) rfl hT (fun W h => (hC W h).mono ?_) (fun W => (hR W).mono ?_)
   ·rintro e w' ⟨hb,g,rfl,_,hr⟩
    exact ⟨g,rfl,hb⟩
   ·rintro e w' ⟨hb,rfl⟩
    exact ⟨rfl,hb⟩
  | inr its =>
   simp only [hI] at hC hR
   have hvl:=vals_len l
   have hil:=items_lenA _ _ _ _ _ hI
   rw [List.length_nil] at hil
   refine all_good w l s i1 (foldedP (valsL l)) its hT (items_ok (vals_ok l) (by omega) hI) (by omega) (fun W h => (hC W h).mono ?_) (fun W => (hR W).mono ?_)
   ·rintro e w' ⟨hb,g,rfl,_,hp⟩
    exact ⟨g,rfl,hp,hb⟩
   ·rintro e w' ⟨hb,a,m,c,rfl,hi⟩
    exact ⟨a,m,c,rfl,hi,hb⟩
end Go.Proofs.YtchdeboialbdiaaGreatDoor
