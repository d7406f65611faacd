/- Texts joined, one behind the other (SAllC, SGather). -/
import Derived.Test.YtchdeboialbdiaaGreatDoorSn40
namespace Go.Proofs.YtchdeboialbdiaaGreatDoor
set_option linter.unusedVariables false
set_option linter.unusedSimpArgs false
set_option maxHeartbeats 8000000
set_option maxRecDepth 100000
open Go.RowKit Go.Shelf
open Go.Lib hiding intOf
attribute [local go_sem] Oper.semAt_some
attribute [local go_sem] Exit.noGoto
theorem allPC (w : World) (p : Option Addr) (s : ByteArray) : Calls Tryz.prog 11 #[.pointer p,.string s] w fun e w' => e = .returned (.func (.func 31) #[] #[.pointer (some ⟨w.heap.size,0,none⟩),.pointer (some ⟨w.heap.size + 1,0,none⟩)]) ∧ (w.alloc (.cells #[.pointer p] 33)).alloc (.cells #[.string s] 9) = w':=by
 go_enter Tryz.func11, Tryz.ntmps11
 go_wp2
 go_ret
 exact ⟨rfl,rfl⟩
theorem foundC (w : World) (p : Option Addr) (tv : Value) (x y : Value) (h : tv = .agg #[x,y]) : Calls Tryz.prog 32 #[.pointer p,tv] w fun e w' => e = .returned (.func (.func 47) #[] #[.pointer (some ⟨w.heap.size + 1,0,none⟩),.pointer (some ⟨w.heap.size,0,none⟩)]) ∧ (w.alloc (.cells #[.pointer p] 33)).alloc (.cells #[x,y] 75) = w':=by
 subst h
 go_enter Tryz.func32, Tryz.ntmps32
 go_wp2
 go_ret
 exact ⟨rfl,rfl⟩
def pieceA (A : List Nat) (x : Nat × Nat) : Array Value:=#[.agg #[.int .i64 ((A.getD x.1 0 : Nat) : Int),.int .i64 ((A.getD x.2 0 : Nat) : Int)]]
def AlW (bp bs g : Nat) (lp : List UInt8) (fo : Bool) (its : List Itm) (l : List UInt8) (W : World) : Prop :=
 PatIs W g lp fo its ∧ Row W bp 33 [.pointer (some ⟨g,0,none⟩)] ∧ Row W bs 9 [.string (bstr l)] ∧ Tabs W
theorem ReadsTok.rowsA {w W : World} {a : Option Addr} {n : Nat} {V : List Nat} (h : ReadsTok w a n V) (hr : ∀ ad,a = some ad → W.heap[ad.block]? = w.heap[ad.block]?) (hs : w.heap.size ≤ W.heap.size) : ReadsTok W a n V:=by
 obtain ⟨hl,h⟩:=h
 refine ⟨hl,fun hn => ?_⟩
 obtain ⟨b,off,ha,hlt,hc⟩:=h hn
 have hb:=hr _ ha
 refine ⟨b,off,ha,Nat.lt_of_lt_of_le hlt hs,fun i v hv => ?_⟩
 obtain ⟨h1,h2⟩:=hc i v hv
 exact ⟨(World.cell?_of_block (a:=⟨b,off + i * 2,none⟩) hb).trans h1,(World.cell?_of_block (a:=⟨b,off + i * 2 + 1,none⟩) hb).trans h2⟩
theorem ReadsTok.blk {w : World} {a : Option Addr} {n : Nat} {V : List Nat} (h : ReadsTok w a n V) (hn : 0 < n) {ad : Addr} (ha : a = some ad) : ad.block < w.heap.size:=by
 obtain ⟨b,off,h1,h2,_⟩:=h.2 hn
 rw [ha] at h1
 cases h1
 exact h2
theorem allS1 (m : Nat) (hm : 8 ≤ m) (K : Nat → Prop) (w0 : World) (bp bs g : Nat) (lp l : List UInt8) (fo : Bool) (its : List Itm) (hK : Stays K w0 (AlW bp bs g lp fo its l)) (hlen : l.length ≤ 67108000) (hl : its.length ≤ 67108864) :
  SeqC Fence.wide m Tryz.prog 31 #[.pointer (some ⟨bp,0,none⟩),.pointer (some ⟨bs,0,none⟩)] (pieceA (atsL l)) K w0 (fun xs => xs = allP fo l its) (fun pre => pre <+: allP fo l its):=by
 intro l0 J Jx W hW hn0 hJ hJx hY h0
 have hal:=ats_len l
 have hvl:=vals_len l
 have hok:=vals_ok l
 unfold allP at hY ⊢
 have hA0:=hK W (fun r hr => (hW r hr).2) hn0
 have hX:=textOfF (W.alloc (.cells #[.func (.yield l0) #[] #[]] 78)) l (by omega) (hA0.2.2.2.below ((Below.refl _ W).alloc (Nat.le_refl _) _) hA0.2.2.2.size)
 unfold TextF at hX
 rw [World.size_alloc] at hX
 obtain ⟨V,hV⟩ : ∃ V,valsL l = V:=⟨_,rfl⟩
 obtain ⟨A,hA⟩ : ∃ A,atsL l = A:=⟨_,rfl⟩
 obtain ⟨n,hn⟩ : ∃ n,V.length = n:=⟨_,rfl⟩
 rw [hV] at hX hvl hok hal hY ⊢
 rw [hA] at hX hal hY
 rw [hn] at hX hvl hal hY ⊢
 have HN:=Lib.hid hn
 have HAL:=Lib.hid hal
 have HOK:=Lib.hid hok
 obtain ⟨lo,hlo⟩ : ∃ lo,lo = W.heap.size:=⟨_,rfl⟩
 obtain ⟨vm,Lm,Bm,hrow,_⟩:=id hA0.1
 have p0:=hA0.2.1.cell 0
 have pl:=hA0.2.1.lt
 have s0:=hA0.2.2.1.cell 0
 have sl:=hA0.2.2.1.lt
 have g1:=hrow.cell 1
 have gl:=hrow.lt
 have HKL : Hid (∀ r,K r → r < W.heap.size):=Lib.hid (fun r hr => by have:=(hW r hr).1; omega)
 have HKW : Hid (∀ W',(∀ r,K r → W'.heap[r]? = W.heap[r]?) → W.heap.size ≤ W'.heap.size → AlW bp bs g lp fo its l W'):=Lib.hid (fun W' h1 h2 => hK W' (fun r hr => (h1 r hr).trans (hW r hr).2) (Nat.le_trans hn0 h2))
 have HX:=Lib.hid hX
 have HJ:=Lib.hid hJ
 have HJX:=Lib.hid hJx
 have HY:=Lib.hid hY
 have H0:=Lib.hid h0
 have hnb : n ≤ 67108000:=by omega
 clear hJ hJx hY h0 hX hW hn0 hK hA0 hal hvl hok hn hV hA hrow
 have hm1 : 1 ≤ m:=by omega
 refine callsIn_of_wp_marks Tryz.func31 rfl trivial ?_ rfl
 simp only [Tryz.ntmps31,List.size_toArray,List.length_cons,List.length_nil,Nat.reduceAdd,Nat.reduceSub,Array.replicate_succ,Array.replicate_zero,List.push_toArray,List.append_toArray,List.nil_append,List.cons_append]
 gi_wp2_with (first
  | (refine ⟨trivial,?_⟩; gi_at_call 29; refine (callsIn_wide.2 HX.out).mono ?_; rintro e w2 ⟨a,c,a2,c2,rfl,hrt,hai,hb2,n1,n2⟩; have hbW : Below W.heap.size W w2:=((Below.refl _ W).alloc (Nat.le_refl _) _).trans (hb2.mono (by simp)); have p2 : w2.cell? ⟨bp,0,none⟩ = some (.pointer (some ⟨g,0,none⟩)):=(World.cell?_of_block (a:=⟨bp,0,none⟩) (hbW.block bp pl)).trans p0; have pl2 : bp < w2.heap.size:=Nat.lt_of_lt_of_le pl hbW.size; have HBW:=Lib.hid hbW; have HB2:=Lib.hid hb2; have HRT:=Lib.hid hrt; have HAI:=Lib.hid hai; have HNA:=Lib.hid (And.intro n1 n2); clear hbW hb2 hrt hai n1 n2)
  | (refine ⟨trivial,?_⟩; gi_at_call 32; refine (callsIn_wide.2 (foundC _ _ _ _ _ rfl)).mono ?_; rintro e w' ⟨rfl,hw'⟩))
 clear p0 s0 g1
 obtain ⟨z,hz⟩ : ∃ z,z = w2.heap.size:=⟨_,rfl⟩
 have hz1 : lo + 1 ≤ z:=by have:=HB2.out.size; rw [World.size_alloc] at this; omega
 have zw : w'.heap.size = z + 3:=by rw [← hw',hz]; simp
 have b3 : Below w2.heap.size w2 w':=by rw [← hw']; exact (((Below.refl _ w2).alloc (Nat.le_refl _) _).alloc (by simp) _).alloc (by simp; omega) _
 have yt : Row w' z 75 [.slice a n c,.slice a2 (n + 1) c2]:=by rw [← hw',hz]; exact (Row.alloc (row_new w2 [.slice a n c,.slice a2 (n + 1) c2] _) _).alloc _
 have yp : Row w' (z + 1) 33 [.pointer (some ⟨g,0,none⟩)]:=by
  rw [← hw',hz]
  have:=row_new (w2.alloc (.cells #[.slice a n c,.slice a2 (n + 1) c2] 75)) [.pointer (some ⟨g,0,none⟩)] 33
  rw [World.size_alloc] at this
  exact this.alloc _
 have yt2 : Row w' (z + 2) 75 [.slice a n c,.slice a2 (n + 1) c2]:=by
  rw [← hw',hz]
  have:=row_new ((w2.alloc (.cells #[.slice a n c,.slice a2 (n + 1) c2] 75)).alloc (.cells #[.pointer (some ⟨g,0,none⟩)] 33)) [.slice a n c,.slice a2 (n + 1) c2] 75
  rw [World.size_alloc,World.size_alloc] at this
  exact this
 have y0 : Row w2 lo 78 [.func (.yield l0) #[] #[]]:=by
  rw [hlo]
  have h:=row_new W [.func (.yield l0) #[] #[]] 78
  exact h.keep HB2.out (Nat.lt_succ_self _)
 have y1 : Row w' lo 78 [.func (.yield l0) #[] #[]]:=y0.keep b3 y0.lt
 have hBW : Below W.heap.size W w':=HBW.out.trans (b3.mono HBW.out.size)
 have HRT' : Hid (ReadsTok w' a n V):=Lib.hid (HRT.out.keep b3 (Nat.le_refl _))
 obtain ⟨g2,rfl,g2l,hat⟩:=HAI.out.keep b3
 have hg2 : lo ≤ g2:=by have:=HNA.out.2 _ rfl; rw [hlo]; simp at this; omega
 have hKw : Stays (fun r => K r ∨ (lo ≤ r ∧ r < z + 3)) w' (FoW (z + 2) (z + 1) g lp fo its a n c (some ⟨g2,0,none⟩) c2 V):=fun W2 h1 h2 => by
  refine ⟨(HKW.out W2 (fun r hr => (h1 r (.inl hr)).trans (hBW.block r (HKL.out r hr))) (Nat.le_trans hBW.size h2)).1,row_rows yt2 (h1 _ (.inr ⟨by omega,by omega⟩)),?_,row_rows yp (h1 _ (.inr ⟨by omega,by omega⟩))⟩
  rcases Nat.eq_zero_or_pos n with h0 | h0
  ·exact ⟨HRT'.out.1,fun h => absurd h (by omega)⟩
  ·exact HRT'.out.rowsA (fun ad h => h1 _ (.inr ⟨by have:=HNA.out.1 ad h; omega,by have:=HRT'.out.blk h0 h; omega⟩)) h2
 rw [← hlo] at HKL HJ HJX HY H0 hBW ⊢
 rw [← hz]
 have gW : W.grownBy w' none:=below_other (hlo ▸ hBW)
 have HAT : Hid (∀ (k x : Nat),A[k]? = some x → w'.cell? ⟨g2,k,none⟩ = some (.int .i64 (x : Int))):=Lib.hid hat
 have HSQ:=Lib.hid (found1 (m - 1) (by omega) (fun r => K r ∨ (lo ≤ r ∧ r < z + 3)) w' (z + 2) (z + 1) g lp fo its a (some ⟨g2,0,none⟩) n c c2 V hKw HOK.out HN.out hnb hl)
 have HLO:=Lib.hid hlo
 have HG2 : Hid (g2 < z + 3):=Lib.hid (by omega)
 clear hat hKw hw' b3 y0 hz p2 pl2 hlo yp yt2 hBW
 refine wpIn_rangeFunc_C rfl hm1 (gf:=47) (lb:=#[.pointer (some ⟨z + 2,0,none⟩),.pointer (some ⟨z + 1,0,none⟩)]) rfl trivial (enters_of Tryz.func47 (by kernel_rfl) rfl)
  HSQ.out (fun r hr => ⟨(show K r ∨ (lo ≤ r ∧ r < z + 3) from hr).elim (fun h => (by have:=HKL.out r h; omega)) (fun h => (by omega)),rfl⟩) (Nat.le_refl _) (fun _ => rfl)
  (fun hi pre Wx => J hi pre Wx ∧ Row Wx lo 78 [.func (.yield l0) #[] #[]] ∧ Row Wx z 75 [.slice a n c,.slice (some ⟨g2,0,none⟩) (n + 1) c2] ∧ ∀ (k x : Nat),A[k]? = some x → Wx.cell? ⟨g2,k,none⟩ = some (.int .i64 (x : Int)))
  (fun c hi pre Wx => c = .ret ∧ Jx hi pre Wx) ?hI ?hIx ?h0
  (fun x => { tmps:=#[.func (.yield l0) #[] #[],.pointer (some ⟨bp,0,none⟩),.pointer (some ⟨bs,0,none⟩),.pointer (some ⟨lo,0,none⟩),.pointer (some ⟨z,0,none⟩),.int .i64 (x.1 : Int),.int .i64 (x.2 : Int),.pointer (some ⟨g,0,none⟩),.bool false,.bool false,.pointer (some ⟨g,0,none⟩),.pointer (some ⟨g,0,none⟩),.pointer (some ⟨g,1,none⟩),.bool true,.bool false,.bool false,.string (bstr l),.agg #[.slice a n c,.slice (some ⟨g2,0,none⟩) (n + 1) c2],.pointer (some ⟨g,0,none⟩),.agg #[.slice a n c,.slice (some ⟨g2,0,none⟩) (n + 1) c2],.func (.func 47) #[] #[.pointer (some ⟨z + 1 + 1,0,none⟩),.pointer (some ⟨z + 1,0,none⟩)],.int .i64 (x.1 : Int),.int .i64 (x.2 : Int),undef,undef,undef,undef,undef,undef,undef,undef,undef,undef,undef,undef,undef,undef],defers:=[] }) ?assign ?body ?done ?stop
 case assign =>
  intro l' x Wx K hK
  obtain ⟨xa,xb⟩:=x
  unfold twoV
  gi_wp2
  exact hK
 case hI =>
  rintro hi pre B B' row ⟨h1,h2,h3,h4⟩ hg ht
  have ne : ∀ k,k < z + 3 → some k ≠ row:=fun k hk e => by have:=(ht k e.symm).1; omega
  exact ⟨HJ.out hi _ B B' row h1 hg (fun r e => ⟨by have:=(ht r e).1; omega,(ht r e).2⟩),(hg.block _ h2.lt (ne _ (by omega))).trans h2,(hg.block _ h3.lt (ne _ (by omega))).trans h3,fun k x hx => hg.cell (h4 k x hx) (ne _ HG2.out)⟩
 case hIx =>
  rintro c hi pre B B' row ⟨h1,h2⟩ hg ht
  exact ⟨h1,HJX.out hi _ B B' row h2 hg (fun r e => ⟨by have:=(ht r e).1; omega,(ht r e).2⟩)⟩
 case h0 =>
  intro hi hh
  exact ⟨HJ.out hi _ W _ none (H0.out hi (by omega)) gW (fun r e => by cases e),y1,yt,HAT.out⟩
 case done =>
  rintro D hi xs Wx hD hDh rfl ⟨q1,q2,q3,q4⟩ hd
  gi_wp2
  refine ⟨by simp,.inl ⟨_,_,rfl,run_takeDeferred hd,?_⟩⟩
  refine ⟨_,results_none rfl _ _ _,⟨_,rfl⟩,hi,by have:=HLO.out; omega,.inl ⟨_,rfl,?_⟩⟩
  exact HJ.out hi _ Wx _ (some D) q1 (grownBy_putObj' Wx D _) (fun r e => by cases e; exact ⟨by omega,.inl hDh⟩)
 case stop =>
  rintro D hi c pre Wx hD hDh hpre ⟨rfl,q1⟩ hd
  gi_wp2
  refine ⟨by simp,.inl ⟨_,_,rfl,run_takeDeferred hd,?_⟩⟩
  exact ⟨_,results_none rfl _ _ _,⟨_,rfl⟩,hi,by have:=HLO.out; omega,.inr ⟨_,hpre,HJX.out hi _ Wx _ (some D) q1 (grownBy_putObj' Wx D _) (fun r e => by cases e; exact ⟨by omega,.inl hDh⟩)⟩⟩
 case body =>
  rintro l' hi pre x Wx hhi1 hhi2 hpx ⟨hj,y1,y2,y3⟩
  have hpx : pre ++ [x] <+: allGo fo V its n (n + 1) 0:=hpx
  obtain ⟨_,hxn,hxl⟩:=allGo_mem fo V its n _ _ x (hpx.subset (List.mem_append_right _ (List.mem_singleton_self _)))
  have hyn : x.2 ≤ n:=by have:=longest_le hxl; have:=HN.out; omega
  obtain ⟨i,j⟩:=x
  simp only at hxn hyn
  have ci:=y3 i _ (getD_at (by rw [HAL.out]; omega))
  have cj:=y3 j _ (getD_at (by rw [HAL.out]; omega))
  obtain ⟨X,hX⟩ : ∃ X : Int,((A.getD i 0 : Nat) : Int) = X:=⟨_,rfl⟩
  obtain ⟨Y,hY⟩ : ∃ Y : Int,((A.getD j 0 : Nat) : Int) = Y:=⟨_,rfl⟩
  have hrow : pieceA A (i,j) = #[.agg #[.int .i64 X,.int .i64 Y]]:=by unfold pieceA; rw [hX,hY]
  rw [hX] at ci
  rw [hY] at cj
  have i1 : (i : Int) < (n : Int) + 1:=by omega
  have j1 : (j : Int) < (n : Int) + 1:=by omega
  have hbd : Below Wx.heap.size Wx Wx.drew:=(Below.refl _ Wx).drew
  have gd : Wx.grownBy Wx.drew none:=below_other hbd
  obtain ⟨fn,tmps,assign,body,hy,hR⟩:=HY.out hi pre (i,j) Wx.drew (HJ.out hi _ Wx Wx.drew none hj gd (fun r e => by cases e)) hpx (by omega) hhi2
  rw [hrow] at hy
  have hR2 : RoundIn Fence.wide (m - 1) Tryz.prog l0 fn tmps assign body Wx.drew fun e W' => ∃ b : Bool,e = .returned (.bool b) ∧ KeepsC K lo hi Wx.drew W' ∧ (b = true → J hi (pre ++ [(i,j)]) W') ∧ (b = false → Jx hi (pre ++ [(i,j)]) W'):=hR.mono (by
   rintro e W' (⟨rfl,h1,h2⟩ | ⟨rfl,h1,h2⟩)
   ·exact ⟨true,rfl,h2,fun _ => h1,fun h => (by cases h)⟩
   ·exact ⟨false,rfl,h2,fun h => (by cases h),fun _ => h1⟩)
  have HR:=Lib.hid (RoundIn_any (l':=l') (m':=m - 1 - 1 - 1) rfl hR2)
  have c3:=y1.cell 0
  have c4:=y2.cell 1
  have FIN : Hid (∀ W4,KeepsC K lo hi Wx.drew W4 → KeepsC (fun r => K r ∨ (lo ≤ r ∧ r < z + 3)) (z + 3) hi Wx W4 ∧ Row W4 lo 78 [.func (.yield l0) #[] #[]] ∧ Row W4 z 75 [.slice a n c,.slice (some ⟨g2,0,none⟩) (n + 1) c2] ∧ (∀ (k x : Nat),A[k]? = some x → (W4.cell? ⟨g2,k,none⟩ = some (.int .i64 (x : Int)))) ∧ W4.cell? ⟨g2,i,none⟩ = some (.int .i64 X) ∧ W4.cell? ⟨g2,j,none⟩ = some (.int .i64 Y)):=Lib.hid (fun W4 hk4 => by
   have hkd : KeepsC K lo hi Wx Wx.drew:=KeepsC.grown gd (fun r hr => by have:=HKL.out r hr; omega) hhi2 (fun r e => by cases e)
   have hk:=hkd.trans hk4
   refine ⟨hk.sub2 (by omega) (fun r hr => ?_),(hk.rows lo (.inr ⟨Nat.le_refl _,by omega⟩)).trans y1,(hk.rows z (.inr ⟨by omega,by omega⟩)).trans y2,fun k x hx => ?_,(World.cell?_of_block (a:=⟨g2,i,none⟩) (hk.rows g2 (.inr ⟨hg2,by have:=HG2.out; omega⟩))).trans ci,(World.cell?_of_block (a:=⟨g2,j,none⟩) (hk.rows g2 (.inr ⟨hg2,by have:=HG2.out; omega⟩))).trans cj⟩
   ·rcases (show K r ∨ (lo ≤ r ∧ r < z + 3) from hr) with h | h
    ·exact .inl h
    ·exact .inr ⟨by omega,by omega⟩
   ·exact (World.cell?_of_block (a:=⟨g2,k,none⟩) (hk.rows g2 (.inr ⟨hg2,by have:=HG2.out; omega⟩))).trans (y3 k x hx))
  clear hR hR2 hrow hX hY hxl hj y1 y2 y3 gd hbd yt
  gi_wp2
  have hS0 : (fun W : World => W.cell? ⟨lo,0,none⟩ = some (.func (.yield l0) #[] #[]) ∧ W.cell? ⟨z,1,none⟩ = some (.slice (some ⟨g2,0,none⟩) (n + 1) c2) ∧ W.cell? ⟨g2,i,none⟩ = some (.int .i64 X) ∧ W.cell? ⟨g2,j,none⟩ = some (.int .i64 Y)) Wx.drew:=⟨c3,c4,ci,cj⟩
  refine wpIn_round_heldI (S:=(fun W : World => W.cell? ⟨lo,0,none⟩ = some (.func (.yield l0) #[] #[]) ∧ W.cell? ⟨z,1,none⟩ = some (.slice (some ⟨g2,0,none⟩) (n + 1) c2) ∧ W.cell? ⟨g2,i,none⟩ = some (.int .i64 X) ∧ W.cell? ⟨g2,j,none⟩ = some (.int .i64 Y))) (by kernel_rfl) ?_
  refine tkI (i:=0) (oi:=⟨some 23,.load 78 (.tmp 3), 78, "seek.go:440",#[],none⟩) (v:=?v0) rfl ?y0 hS0 ?r0
  case y0 => (rintro w2_ ⟨s1,s2,s3,s4⟩; go_simp; try with_reducible rfl)
  try simp only [Act.put,pB,pC,pD]
  refine tkI (i:=1) (oi:=⟨some 24,.fieldAddr 75 (.tmp 4) 1,0, "seek.go:440",#[],none⟩) (v:=?v1) rfl ?y1 hS0 ?r1
  case y1 => (rintro w2_ ⟨s1,s2,s3,s4⟩; go_simp; try with_reducible rfl)
  try simp only [Act.put,pB,pC,pD]
  refine tkI (i:=2) (oi:=⟨some 25,.load 73 (.tmp 24), 73, "seek.go:440",#[⟨1,.data⟩],none⟩) (v:=?v2) rfl ?y2 hS0 ?r2
  case y2 => (rintro w2_ ⟨s1,s2,s3,s4⟩; go_simp; try with_reducible rfl)
  try simp only [Act.put,pB,pC,pD]
  refine tkI (i:=3) (oi:=⟨some 26,.move (.tmp 5), 3, "seek.go:440",#[],none⟩) (v:=?v3) rfl ?y3 hS0 ?r3
  case y3 => (rintro w2_ ⟨s1,s2,s3,s4⟩; go_simp; try with_reducible rfl)
  try simp only [Act.put,pB,pC,pD]
  refine tkI (i:=4) (oi:=⟨some 27,.indexAddr 73 (.tmp 25) (.tmp 26),0, "seek.go:440",#[⟨2,.data⟩,⟨3,.data⟩],none⟩) (v:=?v4) rfl ?y4 hS0 ?r4
  case y4 => (rintro w2_ ⟨s1,s2,s3,s4⟩; have e1:=i1; go_simp; try with_reducible rfl)
  try simp only [Act.put,pB,pC,pD]
  refine tkI (i:=5) (oi:=⟨some 28,.load 3 (.tmp 27), 3, "seek.go:440",#[⟨4,.data⟩],none⟩) (v:=?v5) rfl ?y5 hS0 ?r5
  case y5 => (rintro w2_ ⟨s1,s2,s3,s4⟩; go_simp; try with_reducible rfl)
  try simp only [Act.put,pB,pC,pD]
  refine tkI (i:=6) (oi:=⟨some 29,.fieldAddr 75 (.tmp 4) 1,0, "seek.go:440",#[],none⟩) (v:=?v6) rfl ?y6 hS0 ?r6
  case y6 => (rintro w2_ ⟨s1,s2,s3,s4⟩; go_simp; try with_reducible rfl)
  try simp only [Act.put,pB,pC,pD]
  refine tkI (i:=7) (oi:=⟨some 30,.load 73 (.tmp 29), 73, "seek.go:440",#[⟨6,.data⟩],none⟩) (v:=?v7) rfl ?y7 hS0 ?r7
  case y7 => (rintro w2_ ⟨s1,s2,s3,s4⟩; go_simp; try with_reducible rfl)
  try simp only [Act.put,pB,pC,pD]
  refine tkI (i:=8) (oi:=⟨some 31,.move (.tmp 6), 3, "seek.go:440",#[],none⟩) (v:=?v8) rfl ?y8 hS0 ?r8
  case y8 => (rintro w2_ ⟨s1,s2,s3,s4⟩; go_simp; try with_reducible rfl)
  try simp only [Act.put,pB,pC,pD]
  refine tkI (i:=9) (oi:=⟨some 32,.indexAddr 73 (.tmp 30) (.tmp 31),0, "seek.go:440",#[⟨7,.data⟩,⟨8,.data⟩],none⟩) (v:=?v9) rfl ?y9 hS0 ?r9
  case y9 => (rintro w2_ ⟨s1,s2,s3,s4⟩; have e1:=j1; go_simp; try with_reducible rfl)
  try simp only [Act.put,pB,pC,pD]
  refine tkI (i:=10) (oi:=⟨some 33,.load 3 (.tmp 32), 3, "seek.go:440",#[⟨9,.data⟩],none⟩) (v:=?v10) rfl ?y10 hS0 ?r10
  case y10 => (rintro w2_ ⟨s1,s2,s3,s4⟩; go_simp; try with_reducible rfl)
  try simp only [Act.put,pB,pC,pD]
  refine tkI (i:=11) (oi:=⟨some 34,.build 40 #[(0,.tmp 28),(1,.tmp 33)], 40, "seek.go:440",#[⟨5,.data⟩,⟨10,.data⟩],none⟩) (v:=?v11) rfl ?y11 hS0 ?r11
  case y11 => (rintro w2_ ⟨s1,s2,s3,s4⟩; go_simp; try with_reducible rfl)
  try simp only [Act.put,pB,pC,pD]
  refine oneI (i:=12) (oi:=⟨some 35,.call { callee:=Callee.value (.tmp 23),args:=#[.tmp 34],argTypes:=#[40] }, 4, "seek.go:440",#[⟨0,.data⟩,⟨11,.data⟩],none⟩) (r:=.ok (.round l0 fn tmps assign body) Wx.drew) rfl (by kernel_rfl) (by kernel_rfl) (by kernel_rfl) (by go_simp <;> exact hy) ?_
  refine ⟨fun h => (by cases h),HR.out.mono ?_⟩
  rintro e W4 ⟨b,rfl,hk4,ht4,hf4⟩
  obtain ⟨q1,q2,q3,q4,q5,q6⟩:=FIN.out _ hk4
  have hS4 : (fun W : World => W.cell? ⟨lo,0,none⟩ = some (.func (.yield l0) #[] #[]) ∧ W.cell? ⟨z,1,none⟩ = some (.slice (some ⟨g2,0,none⟩) (n + 1) c2) ∧ W.cell? ⟨g2,i,none⟩ = some (.int .i64 X) ∧ W.cell? ⟨g2,j,none⟩ = some (.int .i64 Y)) W4:=⟨q2.cell 0,q3.cell 1,q5,q6⟩
  have H4:=Lib.hid (And.intro hk4 (And.intro ht4 (And.intro hf4 (And.intro q1 (And.intro q2 (And.intro q3 q4))))))
  clear hk4 ht4 hf4 q1 q2 q3 q4 q5 q6
  refine ⟨hS4,?_⟩
  try simp only [Act.put,pB,pC,pD]
  refine tkI (i:=13) (oi:=⟨some 36,.unOp UnOp.not 4 (.tmp 35), 4, "seek.go:440",#[⟨12,.data⟩],none⟩) (v:=?v13) rfl ?y13 hS4 ?r13
  case y13 => (rintro w2_ ⟨s1,s2,s3,s4⟩; go_simp; try with_reducible rfl)
  try simp only [Act.put,pB,pC,pD]
  refine doneI (by kernel_rfl) ?_ _
  rcases b with _ | _
  all_goals gi_wp2
  all_goals
   obtain ⟨k4,t4,f4,q1,q2,q3,q4⟩:=H4.out
   first
    | exact ⟨(by first | exact q1 | (rw [zw]; exact q1)),rfl,f4 (by first | rfl | trivial)⟩
    | exact ⟨(by first | exact q1 | (rw [zw]; exact q1)),t4 (by first | rfl | trivial),q2,q3,q4⟩
end Go.Proofs.YtchdeboialbdiaaGreatDoor
namespace Go.Proofs.YtchdeboialbdiaaGreatDoor
set_option linter.unusedVariables false
set_option linter.unusedSimpArgs false
set_option maxHeartbeats 8000000
set_option maxRecDepth 100000
open Go.RowKit Go.Shelf
open Go.Lib
theorem own_abides2 {lo hi : Nat} {A A' : World} {row : Option Nat} {e : TypeId} {size : Nat} {v : Value} {n : Nat} {xs : List Value} (h : A.ownsRow hi e size v n xs) (hg : A.grownBy A' row) (ht : MayTurn lo hi A row) : A'.ownsRow hi e size v n xs:=by
 refine h.kept hg ?_
 rcases h.2 with ⟨rfl,_⟩ | ⟨g,cap,cur,rfl,hb,hgr,_⟩
 ·exact .inl rfl
 ·refine .inr fun e' => ?_
  have e' : some g = row:=e'
  obtain ⟨h1,h2 | ⟨o,ho,hc⟩⟩:=ht g e'.symm
  ·omega
  ·rw [hgr] at ho; cases ho; cases hc
def GI (w : World) (gb : Nat) (A : List Nat) (hi : Nat) (pre : List (Nat × Nat)) (W : World) : Prop :=
 w.grownBy W (some gb) ∧ ∃ v,Row W gb 61 [v] ∧ W.ownsRow hi 40 2 v pre.length (pre.flatMap (pcCells A))
theorem GI.abides {w : World} {gb hi : Nat} {A : List Nat} (hgb : gb < w.heap.size) : AbidesC w.heap.size hi (GI w gb A hi):=by
 rintro pre B B' row ⟨h1,v,h2,h3⟩ hg ht
 have ne : ∀ k,k < w.heap.size → some k ≠ row:=fun k hk e => by have:=(ht k e.symm).1; omega
 refine ⟨⟨hg.os.trans h1.os,hg.tape.trans h1.tape,hg.output.trans h1.output,Nat.le_trans h1.size hg.size,fun k hk hn => (hg.block k (Nat.lt_of_lt_of_le hk h1.size) (ne k hk)).trans (h1.block k hk hn)⟩,v,(hg.block gb (Nat.lt_of_lt_of_le hgb h1.size) (ne gb hgb)).trans h2,own_abides2 h3 hg ht⟩
theorem GI.next {K : Nat → Prop} {w W w1 : World} {gb hi : Nat} {A : List Nat} {v v' : Value} {pre : List (Nat × Nat)} {x : Nat × Nat} {o : Obj} (hgb : gb < w.heap.size) (hK : ∀ r,K r → r < w.heap.size ∧ r ≠ gb) (h1 : w.grownBy W (some gb)) (h2 : Row W gb 61 [v]) (h3 : W.ownsRow hi 40 2 v pre.length (pre.flatMap (pcCells A)))
  (hg : (W.alloc o).grownBy w1 v.ownBlock) (hown' : w1.ownsRow hi 40 2 v' (pre.length + 1) (pre.flatMap (pcCells A) ++ pcCells A x)) (hhi : w.heap.size ≤ hi) (hW : hi ≤ W.heap.size) :
  w1.cell? ⟨gb,0,none⟩ = some v ∧ w1.frozen? ⟨gb,0,none⟩ = false ∧ gb < w1.heap.size ∧ Hid (KeepsC K w.heap.size hi W (w1.setCell ⟨gb,0,none⟩ v') ∧ GI w gb A hi (pre ++ [x]) (w1.setCell ⟨gb,0,none⟩ v')):=by
 have hz : ∀ b,b < w.heap.size → w1.heap[b]? = W.heap[b]?:=fun b hb => by
  refine (hg.block b (by simp; omega) (fun e => ?_)).trans (Below.heap_alloc W o b (by omega))
  have:=(h3.lt b e.symm).1
  omega
 have r1 : Row w1 gb 61 [v]:=(hz gb hgb).trans h2
 have g1 : KeepsC K w.heap.size hi W (W.alloc o):=KeepsC.grown (World.grownBy_alloc W o none) (fun r hr => by have:=hK r hr; omega) hW (fun r e => by cases e)
 have g2 : KeepsC K w.heap.size hi (W.alloc o) w1:=by
  refine KeepsC.grown hg (fun r hr => by have:=hK r hr; simp; omega) (by simp; omega) (fun r e => ?_)
  have hl:=h3.lt r e
  refine ⟨fun h => by have:=hK r h; omega,.inr ⟨hl.1,fun o' ho => ?_⟩⟩
  rw [Below.heap_alloc W o r hl.2] at ho
  rcases h3.2 with ⟨rfl,_⟩ | ⟨g,cap,cur,rfl,_,hgr,_⟩
  ·cases e
  ·cases e; rw [hgr] at ho; cases ho; rfl
 have z1:=g1.size
 have z2:=g2.size
 have gs : w1.grownBy (w1.setCell ⟨gb,0,none⟩ v') (some gb):=grownBy_setCell' w1 gb v'
 have g3 : KeepsC K w.heap.size hi w1 (w1.setCell ⟨gb,0,none⟩ v'):=KeepsC.grown gs (fun r hr => by have:=hK r hr; omega) (by omega) (fun r e => by cases e; exact ⟨fun h => (hK _ h).2 rfl,.inl hgb⟩)
 refine ⟨r1.cell 0,r1.frozen 0,r1.lt,Lib.hid ⟨(g1.trans g2).trans g3,⟨?_,?_,?_,?_,fun k hk hn => ?_⟩,v',r1.set 0 v',?_⟩⟩
 ·exact (gs.os.trans hg.os).trans h1.os
 ·exact (gs.tape.trans hg.tape).trans h1.tape
 ·exact (gs.output.trans hg.output).trans h1.output
 ·have:=h1.size; have:=gs.size; omega
 ·exact (gs.block k (by omega) hn).trans ((hz k hk).trans (h1.block k hk hn))
 ·rw [List.length_append,List.length_singleton,List.flatMap_append]
  have:=own_abides2 (lo:=0) hown' gs (fun r e => by cases e; exact ⟨Nat.zero_le _,.inl (by omega)⟩)
  simpa using this
end Go.Proofs.YtchdeboialbdiaaGreatDoor
