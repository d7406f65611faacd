/- Texts joined, one behind the other (SGoesC). -/
import Derived.Test.YtchdeboialbdiaaGreatDoorSqy
import Derived.Test.YtchdeboialbdiaaGreatDoorSn44
namespace Go.Proofs.YtchdeboialbdiaaGreatDoor
set_option linter.unusedVariables false
set_option linter.unusedSimpArgs false
set_option maxHeartbeats 8000000
set_option maxRecDepth 100000
open Go.RowKit
open Go.Lib hiding intOf
theorem rowP_at (V : List Nat) (i n k : Nat) (b : BitN) (r : List BitN) (hk : k < n) : rowP V i n (b :: r) k = if b.how = 1 then rowP V i n r k || (hereB V b (i + k) && rowP V i n r (k + 1)) else if b.how = 2 then rowP V i n r k || (hereB V b (i + k) && rowP V i n (b :: r) (k + 1)) else if b.how = 3 then hereB V b (i + k) && (rowP V i n r (k + 1) || rowP V i n (b :: r) (k + 1)) else hereB V b (i + k) && rowP V i n r (k + 1):=by
 obtain ⟨d,hd⟩ : ∃ d,n - k = d + 1:=⟨n - k - 1,by omega⟩
 have h1 : rowP V i n (b :: r) k = nxt V i n b (rowP V i n r) (d + 1):=by rw [rowP,hd]
 have h2 : rowP V i n (b :: r) (k + 1) = nxt V i n b (rowP V i n r) d:=by rw [rowP,show n - (k + 1) = d by omega]
 rw [h1,h2,nxt,show n - (d + 1) = k by omega,show n - d = k + 1 by omega]
theorem rowP_end (V : List Nat) (i n : Nat) (b : BitN) (r : List BitN) : rowP V i n (b :: r) n = if b.how = 1 ∨ b.how = 2 then rowP V i n r n else false:=by
 rw [rowP,Nat.sub_self,nxt]
structure GoW (w W : World) (g1 g2 : Nat) (xs ys : List Value) : Prop where
 r1 : Row W g1 4 xs
 r2 : Row W g2 4 ys
 ne : g1 ≠ g2
 lo1 : w.heap.size ≤ g1
 lo2 : w.heap.size ≤ g2
 below : Below w.heap.size w W
theorem GoW.next {w W W' : World} {g1 g2 : Nat} {xs ys : List Value} (h : GoW w W g1 g2 xs ys) (hb : Below W.heap.size W W') : GoW w W' g1 g2 xs ys :=
 ⟨h.r1.keep hb h.r1.lt,h.r2.keep hb h.r2.lt,h.ne,h.lo1,h.lo2,h.below.trans (hb.mono h.below.size)⟩
theorem GoW.put {w W : World} {g1 g2 : Nat} {xs ys : List Value} (h : GoW w W g1 g2 xs ys) (k : Nat) (v : Value) : GoW w (W.setCell ⟨g2,k,none⟩ v) g1 g2 xs (ys.set k v) :=
 ⟨h.r1.other (p:=⟨g2,k,none⟩) (by show g2 ≠ g1; exact fun e => h.ne e.symm) v,h.r2.set k v,h.ne,h.lo1,h.lo2,h.below.setCell (p:=⟨g2,k,none⟩) (by show w.heap.size ≤ g2; exact h.lo2) v⟩
theorem goesC (w : World) (l : List BitN) (V : List Nat) (L : List (Nat × Nat × Nat)) (aB : Option Addr) (m cB : Nat) (aC : Option Addr) (nC cC i n : Nat) (hB : ReadsBit w aB m l) (hC : ReadsCh w aC nC L) (hV : L.map (fun p => p.1) = V) (hVo : ∀ p ∈ L,OkC p.1) (hr : ∀ b ∈ l,b.r < wrongN ∧ b.how < 4) (hj : i + n ≤ nC) (hn : nC ≤ 67108000) (hm : m ≤ 1000000) :
  Calls Tryz.prog 27 #[.slice aB m cB,.slice aC nC cC,.int .i64 (i : Int),.int .i64 ((i + n : Nat) : Int)] w fun e w' => e = .returned (.bool (goesP V l i (i + n))) ∧ Below w.heap.size w w':=by
 obtain ⟨zi,hzi⟩ : ∃ z : Int,(i : Int) = z:=⟨_,rfl⟩
 obtain ⟨zj,hzj⟩ : ∃ z : Int,((i + n : Nat) : Int) = z:=⟨_,rfl⟩
 have hw1 : zj - zi = (n : Int):=by omega
 have hzb : 0 ≤ zi ∧ zi ≤ 67108000 ∧ 0 ≤ zj ∧ zj ≤ 67108000:=by omega
 obtain ⟨hzb1,hzb2,hzb3,hzb4⟩:=hzb
 rw [hzi,hzj]
 obtain ⟨wm,hmk,hrow,hbm⟩:=makeBs w n (by omega)
 obtain ⟨g0,hg0⟩ : ∃ g,g = w.heap.size:=⟨_,rfl⟩
 rw [← hg0] at hmk hrow
 have HG0:=Lib.hid hg0
 have x0 : wm.cell? ⟨g0,n,none⟩ = some (.bool false):=(hrow.cell n).trans (by rw [List.getElem?_replicate,if_pos (by omega)])
 have xl:=hrow.lt
 have xf:=hrow.frozen n
 have HR0 : Hid (Row (wm.setCell ⟨g0,n,none⟩ (.bool true)) g0 4 (bsV n (rowP V i n (l.drop m))) ∧ w.heap.size ≤ g0 ∧ Below w.heap.size w (wm.setCell ⟨g0,n,none⟩ (.bool true))):=Lib.hid (by
  refine ⟨?_,Nat.le_of_eq hg0.symm,hbm.setCell (p:=⟨g0,n,none⟩) (Nat.le_of_eq hg0.symm) _⟩
  have:=hrow.set n (.bool true)
  rw [rep_set] at this
  rw [List.drop_of_length_le (Nat.le_of_eq hB.1)]
  exact this)
 have HB:=Lib.hid hB
 have HC:=Lib.hid hC
 have HV:=Lib.hid hV
 have HVO:=Lib.hid hVo
 have HR:=Lib.hid hr
 have HZI:=Lib.hid hzi
 have HJ:=Lib.hid hj
 have HW1:=Lib.hid hw1
 have hnn : n ≤ 67108000:=by omega
 clear hB hC hV hVo hr hzi hzj hrow hbm hg0 hw1 hj
 go_enter Tryz.func27, Tryz.ntmps27
 go_upto_region 2 with fail
 rw [HW1.out]
 go_wp2_with fail
 go_loopw [10,11] (fun ur up wr => ∃ k g : Nat,ur = .slice (some ⟨g,0,none⟩) (n + 1) (n + 1) ∧ up = .int .i64 ((k : Int) - 1) ∧ k ≤ m ∧ Hid (Row wr g 4 (bsV n (rowP V i n (l.drop k))) ∧ w.heap.size ≤ g ∧ Below w.heap.size w wr)) (fun ur up _ => (RowKit.intOf up + 1).toNat)
 case atStart => exact ⟨m,g0,rfl,rfl,Nat.le_refl _,HR0⟩
 case round =>
  clear x0 xl xf HR0 hmk
  obtain ⟨k,g1,rfl,rfl,hkm,HL⟩:=hrel
  have gl:=HL.out.1.lt
  by_cases hk0 : k = 0
  ·subst hk0
   have y0 : wr.cell? ⟨g1,0,none⟩ = some (.bool (rowP V i n l 0)):=(HL.out.1.cell 0).trans (bs_at (Nat.zero_le _))
   have HGO : Hid (goesP V l i (i + n) = rowP V i n l 0):=Lib.hid (by unfold goesP; rw [Nat.add_sub_cancel_left])
   go_wp2_with fail
   go_ret
   exact ⟨by rw [HGO.out]; rfl,HL.out.2.2⟩
  ·obtain ⟨p,rfl⟩ : ∃ p,k = p + 1:=⟨k - 1,by omega⟩
   have hpp : (((p + 1 : Nat) : Int)) - 1 = (p : Int):=by omega
   rw [hpp]
   have hpm : (p : Int) < (m : Int):=by omega
   obtain ⟨b,hb⟩ : ∃ b,l[p]? = some b:=⟨_,List.getElem?_eq_getElem (by rw [HB.out.1]; omega)⟩
   have hdr : l.drop p = b :: l.drop (p + 1):=by
    obtain ⟨h1,h2⟩:=List.getElem?_eq_some_iff.1 hb
    rw [List.drop_eq_getElem_cons h1,h2]
   obtain ⟨hrb,hhb⟩:=HR.out b (List.mem_of_getElem? hb)
   obtain ⟨R,hR⟩ : ∃ R,R = rowP V i n (l.drop (p + 1)):=⟨_,rfl⟩
   obtain ⟨T,hT⟩ : ∃ T,T = rowP V i n (l.drop p):=⟨_,rfl⟩
   obtain ⟨bb,hbb⟩ : ∃ bb,aB = some ⟨bb,0,none⟩:=by
    obtain ⟨bb,h,_⟩:=HB.out.2 (by omega)
    exact ⟨bb,h⟩
   have HBC : Hid (∀ W,Below w.heap.size w W → bb < W.heap.size ∧ W.cell? ⟨bb,p * 3,none⟩ = some (.int .i32 (b.r : Int)) ∧ W.cell? ⟨bb,p * 3 + 1,none⟩ = some (.bool b.any) ∧ W.cell? ⟨bb,p * 3 + 2,none⟩ = some (.int .i64 (b.how : Int))):=Lib.hid (fun W hW => by
    obtain ⟨b2,h1,h2,h3⟩:=(HB.out.keep hW (Nat.le_refl _)).2 (by omega)
    rw [hbb] at h1
    cases h1
    exact ⟨h2,h3 p b hb⟩)
   have HDR:=Lib.hid hdr
   have HRR:=Lib.hid hR
   have HTT:=Lib.hid hT
   have HRB:=Lib.hid hrb
   obtain ⟨hw,hhw⟩ : ∃ x,b.how = x:=⟨_,rfl⟩
   obtain ⟨br,hbr⟩ : ∃ x : Int,(b.r : Int) = x:=⟨_,rfl⟩
   obtain ⟨ba,hba⟩ : ∃ x,b.any = x:=⟨_,rfl⟩
   obtain ⟨zh,hzh⟩ : ∃ x : Int,(hw : Int) = x:=⟨_,rfl⟩
   rw [hhw] at hhb
   rw [hhw,hbr,hba,hzh] at HBC
   have HFI : Hid (∀ (W : World) (q : Nat × Nat × Nat),OkC q.1 → Calls Tryz.prog 43 #[.agg #[.int .i32 br,.bool ba,.int .i64 zh],.agg (chCells q).toArray] W fun e w' => e = .returned (.bool (fitsV b q.1)) ∧ Below W.heap.size W w'):=Lib.hid (fun W q hq => by
    have:=fitsC W b q hq HRB.out
    unfold bitVal at this
    rw [hhw,hbr,hba,hzh] at this
    exact this)
   have HHW:=Lib.hid hhw
   have HZH:=Lib.hid hzh
   have HHB:=Lib.hid hhb
   have HLR : Hid (Row wr g1 4 (bsV n R)):=Lib.hid (by rw [HRR.out]; exact HL.out.1)
   obtain ⟨wm2,hmk2,hrow2,hbm2⟩:=makeBs wr n (by omega)
   have HL0 : Hid (GoW w wm2 g1 wr.heap.size (bsV n R) (bsV n (backB T (n + 1)))):=Lib.hid ⟨HLR.out.keep hbm2 HLR.out.lt,by rw [back_none]; exact hrow2,Nat.ne_of_lt HLR.out.lt,HL.out.2.1,HL.out.2.2.size,HL.out.2.2.trans (hbm2.mono HL.out.2.2.size)⟩
   obtain ⟨g2,hg2⟩ : ∃ g,g = wr.heap.size:=⟨_,rfl⟩
   rw [← hg2] at hmk2 HL0
   clear hrow2 hbm2 hb hdr hhb hhw hbr hba hzh hrb hR hT hg2
   subst hbb
   go_wp2_with fail
   go_loopw [13] (fun ui wr => ∃ q : Nat,ui = .int .i64 ((q : Int) - 1) ∧ q ≤ n + 1 ∧ Hid (GoW w wr g1 g2 (bsV n R) (bsV n (backB T q)))) (fun ui _ => (RowKit.intOf ui + 1).toNat)
   case atStart => exact ⟨n + 1,by rw [show (((n + 1 : Nat) : Int)) - 1 = (n : Int) by omega],Nat.le_refl _,HL0⟩
   case round =>
    clear hmk2
    obtain ⟨q,rfl,hqn,HQ⟩:=hrel
    have ql:=HQ.out.r1.lt
    have ql2:=HQ.out.r2.lt
    by_cases hq0 : q = 0
    ·subst hq0
     have HNX : Hid (Row wr g2 4 (bsV n (rowP V i n (l.drop p))) ∧ w.heap.size ≤ g2 ∧ Below w.heap.size w wr):=Lib.hid (by
      have:=HQ.out.r2
      rw [back_all,HTT.out] at this
      exact ⟨this,HQ.out.lo2,HQ.out.below⟩)
     go_wp2_with fail
     go_roundw
     case rel => exact ⟨p,g2,rfl,by go_num,by omega,HNX⟩
     case measure => simp [RowKit.intOf]; try omega
    ·obtain ⟨k,rfl⟩ : ∃ p,q = p + 1:=⟨q - 1,by omega⟩
     have hkk : (((k + 1 : Nat) : Int)) - 1 = (k : Int):=by omega
     rw [hkk]
     have hkn : k ≤ n:=by omega
     have HKN:=Lib.hid hkn
     have hki : (k : Int) < (n : Int) + 1:=by omega
     obtain ⟨bl,c0,c1,c2⟩:=HBC.out wr HQ.out.below
     go_upto_region 12 with fail
     obtain ⟨W1,hW1⟩ : ∃ W,W = wr.alloc (.cells #[.int .i32 br,.bool ba,.int .i64 zh] 30):=⟨_,rfl⟩
     rw [← hW1]
     have hrw : Row W1 wr.heap.size 30 [.int .i32 br,.bool ba,.int .i64 zh]:=by rw [hW1]; exact row_new wr [.int .i32 br,.bool ba,.int .i64 zh] _
     have hl1 : GoW w W1 g1 g2 (bsV n R) (bsV n (backB T (k + 1))):=by rw [hW1]; exact HQ.out.next ((Below.refl _ wr).alloc (Nat.le_refl _) _)
     have HL1:=Lib.hid hl1
     have HB0 : Hid (∀ W,Below W1.heap.size W1 W → W.cell? ⟨wr.heap.size,0,none⟩ = some (.int .i32 br) ∧ W.cell? ⟨wr.heap.size,1,none⟩ = some (.bool ba) ∧ W.cell? ⟨wr.heap.size,2,none⟩ = some (.int .i64 zh) ∧ wr.heap.size < W.heap.size):=Lib.hid (fun W hb => ⟨(hrw.keep hb hrw.lt).cell 0,(hrw.keep hb hrw.lt).cell 1,(hrw.keep hb hrw.lt).cell 2,(hrw.keep hb hrw.lt).lt⟩)
     have HBW : Hid (∀ W,Below W1.heap.size W1 W → Below w.heap.size w W):=Lib.hid (fun W hb => HL1.out.below.trans (hb.mono HL1.out.below.size))
     obtain ⟨b0,hb0⟩ : ∃ x,R k = x:=⟨_,rfl⟩
     have HC0 : Hid (∀ W,Below W1.heap.size W1 W → W.cell? ⟨g1,k,none⟩ = some (.bool b0) ∧ W.cell? ⟨g2,k,none⟩ = some (.bool (backB T (k + 1) k)) ∧ W.frozen? ⟨g2,k,none⟩ = false ∧ g1 < W.heap.size ∧ g2 < W.heap.size):=Lib.hid (fun W hb => by
      have h:=HL1.out.next hb
      exact ⟨(h.r1.cell k).trans (by rw [bs_at HKN.out,hb0]),(h.r2.cell k).trans (bs_at HKN.out),h.r2.frozen k,h.r1.lt,h.r2.lt⟩)
     have HR0:=Lib.hid hb0
     have HSET : Hid (∀ W,Below W1.heap.size W1 W → ∀ v,T k = v → GoW w (W.setCell ⟨g2,k,none⟩ (.bool v)) g1 g2 (bsV n R) (bsV n (backB T k))):=Lib.hid (fun W hb v hv => by
      have h:=(HL1.out.next hb).put k (.bool (T k))
      rw [back_set HKN.out,hv] at h
      exact h)
     clear hrw hl1 hW1 bl c0 c1 c2 hb0
     by_cases hkl : k < n
     ·have hki2 : (k : Int) < (n : Int):=by omega
      obtain ⟨b1,hb1⟩ : ∃ x,R (k + 1) = x:=⟨_,rfl⟩
      obtain ⟨x1,hx1⟩ : ∃ x,T (k + 1) = x:=⟨_,rfl⟩
      have HC1 : Hid (∀ W,Below W1.heap.size W1 W → W.cell? ⟨g1,k + 1,none⟩ = some (.bool b1) ∧ W.cell? ⟨g2,k + 1,none⟩ = some (.bool x1)):=Lib.hid (fun W hb => by
       have h:=HL1.out.next hb
       exact ⟨(h.r1.cell (k + 1)).trans (by rw [bs_at (by omega),hb1]),(h.r2.cell (k + 1)).trans (by rw [bs_at (by omega),back_at (Nat.le_refl _),hx1])⟩)
      obtain ⟨t,ht⟩ : ∃ t,i + k = t:=⟨_,rfl⟩
      have htn : t < nC:=by have:=HJ.out; omega
      obtain ⟨q,hq⟩ : ∃ q,L[t]? = some q:=⟨_,List.getElem?_eq_getElem (by rw [HC.out.1]; exact htn)⟩
      have hqo:=HVO.out q (List.mem_of_getElem? hq)
      obtain ⟨hq2,hhq⟩ : ∃ x,fitsV b q.1 = x:=⟨_,rfl⟩
      have hhe : hereB V b (i + k) = hq2:=by
       rw [ht,here_fits V b t q.1 HRB.out (by rw [← HV.out,List.getElem?_map,hq]; rfl),hhq]
      have HT : Hid (T k = if hw = 1 then b0 || (hq2 && b1) else if hw = 2 then b0 || (hq2 && x1) else if hw = 3 then hq2 && (b1 || x1) else hq2 && b1):=Lib.hid (by
       have h:=rowP_at V i n k b (l.drop (p + 1)) hkl
       rw [← HDR.out,← HTT.out,← HRR.out,HHW.out,hhe,HR0.out,hb1,hx1] at h
       exact h)
      obtain ⟨cb,hcb⟩ : ∃ cb,aC = some ⟨cb,0,none⟩:=by
       obtain ⟨cb,h,_⟩:=HC.out.2 (by omega)
       exact ⟨cb,h⟩
      have HCC : Hid (∀ W,Below W1.heap.size W1 W → cb < W.heap.size ∧ W.cell? ⟨cb,t * 4,none⟩ = some (.int .i64 (q.2.1 : Int)) ∧ W.cell? ⟨cb,t * 4 + 1,none⟩ = some (.int .i32 (tokR q.1 : Int)) ∧ W.cell? ⟨cb,t * 4 + 2,none⟩ = some (.int .i64 (q.2.2 : Int)) ∧ W.cell? ⟨cb,t * 4 + 3,none⟩ = some (.bool (decide (q.1 < wrongN)))):=Lib.hid (fun W hb => by
       obtain ⟨b2,h1,h2,h3⟩:=(HC.out.keep (HBW.out W hb) (Nat.le_refl _)).2 (by omega)
       rw [hcb] at h1
       cases h1
       exact ⟨h2,h3 t q hq⟩)
      have HIC : Hid (∀ W,Calls Tryz.prog 43 #[.agg #[.int .i32 br,.bool ba,.int .i64 zh],.agg (chCells q).toArray] W fun e w' => e = .returned (.bool hq2) ∧ Below W.heap.size W w'):=Lib.hid (fun W => by
       have:=HFI.out W q hqo
       rw [hhq] at this
       exact this)
      unfold chCells at HIC
      obtain ⟨y1,hy1⟩ : ∃ y : Int,(q.2.1 : Int) = y:=⟨_,rfl⟩
      obtain ⟨y2,hy2⟩ : ∃ y : Int,(tokR q.1 : Int) = y:=⟨_,rfl⟩
      obtain ⟨y3,hy3⟩ : ∃ y : Int,(q.2.2 : Int) = y:=⟨_,rfl⟩
      obtain ⟨y4,hy4⟩ : ∃ y,decide (q.1 < wrongN) = y:=⟨_,rfl⟩
      rw [hy1,hy2,hy3,hy4] at HCC HIC
      have HTI : Hid (zi + (k : Int) = (t : Int)):=Lib.hid (by have:=HZI.out; omega)
      have HTW : Hid (IntKind.i64.wrap (t : Int) = (t : Int)):=Lib.hid (IntWalk.i64_in _ (by omega))
      subst hcb
      clear hb1 hx1 ht hq hqo hhq hhe hy1 hy2 hy3 hy4
      refine wp_region_held_drew (S:=(fun W => Below W1.heap.size W1 W)) (by kernel_rfl) ((Below.refl W1.heap.size W1).drew) (fun hS0 => ?_)
      refine tE 0 ⟨some 44,.move (.tmp 13), 3,_,#[],none⟩ rfl hS0 ?_
      refine tE 1 ⟨some 45,.move (.tmp 9), 3,_,#[],none⟩ rfl hS0 ?_
      refine tE 2 ⟨some 46,.binOp BinOp.lss 3 (.tmp 44) (.tmp 45) 3, 4,_,#[⟨0,.data⟩,⟨1,.data⟩],none⟩ rfl hS0 ?_
      try simp only [Act.put,pB,pC,pD]
      refine tE 3 ⟨some 47,.move (.tmp 46), 4,_,#[⟨2,.data⟩],none⟩ rfl hS0 ?_
      refine tC 4 ⟨some 48,.load 30 (.tmp 14), 30,_,#[⟨3,.guard⟩],some (3,true)⟩ ?_ rfl ?_ hS0 ?_; rotate_left; focus (rintro w2 s1; obtain ⟨e0,e1,e2,e3⟩:=HB0.out w2 s1; go_simp; try with_reducible rfl)
      refine tE 5 ⟨some 49,.move (.tmp 1), 67,_,#[⟨3,.guard⟩],some (3,true)⟩ rfl hS0 ?_
      try simp only [Act.put,pB,pC,pD]
      refine tE 6 ⟨some 50,.move (.tmp 2), 3,_,#[⟨3,.guard⟩],some (3,true)⟩ rfl hS0 ?_
      refine tE 7 ⟨some 51,.move (.tmp 13), 3,_,#[⟨3,.guard⟩],some (3,true)⟩ rfl hS0 ?_
      refine tC 8 ⟨some 52,.binOp BinOp.add 3 (.tmp 50) (.tmp 51) 3, 3,_,#[⟨6,.data⟩,⟨7,.data⟩,⟨3,.guard⟩],some (3,true)⟩ ?_ rfl ?_ hS0 ?_; rotate_left; focus (rintro w2 s1; have e0:=HTW.out; have e1:=HTI.out; go_simp; try with_reducible rfl)
      try simp only [Act.put,pB,pC,pD]
      refine tC 9 ⟨some 53,.indexAddr 67 (.tmp 49) (.tmp 52),0,_,#[⟨5,.data⟩,⟨8,.data⟩,⟨3,.guard⟩],some (3,true)⟩ ?_ rfl ?_ hS0 ?_; rotate_left; focus (rintro w2 s1; have e0 : (t : Int) < (nC : Int):=(by omega); go_simp; try with_reducible rfl)
      refine tC 10 ⟨some 54,.load 114 (.tmp 53), 114,_,#[⟨9,.data⟩,⟨3,.guard⟩],some (3,true)⟩ ?_ rfl ?_ hS0 ?_; rotate_left; focus (rintro w2 s1; obtain ⟨e0,e1,e2,e3,e4⟩:=HCC.out w2 s1; go_simp; try with_reducible rfl)
      try simp only [Act.put,pB,pC,pD]
      refine wpAnyH_ready (rs:=[11]) (by kernel_rfl) (by simp) (AllReadyH.cons (o:=⟨some 55,.call { callee:=Callee.value (Operand.func 43),args:=#[.tmp 48,.tmp 54],argTypes:=#[30, 114] }, 4, "law.go:265",#[⟨4,.data⟩,⟨10,.data⟩,⟨3,.chain⟩,⟨3,.guard⟩],some (3,true)⟩) rfl (fun K' hK => ?_) AllReadyH.nil)
      go_simp
      with_reducible refine (HIC.out _).mono ?_
      rintro e wa ⟨rfl,hbwa⟩
      have Bwa:=Lib.hid (((Below.refl W1.heap.size W1).drew).trans (hbwa.mono ((Below.refl W1.heap.size W1).drew).size))
      clear hbwa
      show K' _ _
      refine hK.out _ _ Bwa.out (fun hSn => ?_)
      try simp only [Act.put,pB,pC,pD]
      clear hK K'
      refine tE 12 ⟨some 56,.pick (.tmp 47) (.tmp 55) (Operand.const (Value.bool false)), 4,_,#[⟨3,.data⟩,⟨11,.data⟩],none⟩ rfl Bwa.out ?_
      refine tE 13 ⟨some 15,.assign (.tmp 56), 4,_,pa [⟨12,.data⟩,⟨11,.chain⟩] 13,none⟩ rfl Bwa.out ?_
      try simp only [Act.put,pB,pC,pD]
      refine wpAnyH_done (by kernel_rfl) ?_ _
      have fB:=HB0.out wa Bwa.out
      have fC:=HC0.out wa Bwa.out
      obtain ⟨_,_,d2,d3⟩:=fB
      obtain ⟨e0,e1,e2,e3,e4⟩:=fC
      obtain ⟨f0,f1⟩:=HC1.out wa Bwa.out
      have HSW:=Lib.hid (HSET.out wa Bwa.out)
      have hh4:=HHB.out
      rcases (show hw = 0 ∨ hw = 1 ∨ hw = 2 ∨ hw = 3 by omega) with rfl | rfl | rfl | rfl
      ·cases hq2 with
       | true =>
        have HV1 : Hid (T k = b1):=Lib.hid (by rw [HT.out]; simp)
        obtain rfl : zh = 0:=HZH.out.symm
        go_wp2_with fail
        go_roundw
        case rel => exact ⟨k,by go_num,by omega,Lib.hid (HSW.out _ HV1.out)⟩
        case measure => simp [RowKit.intOf]; try omega
       | false =>
        have HV1 : Hid (T k = false):=Lib.hid (by rw [HT.out]; simp)
        obtain rfl : zh = 0:=HZH.out.symm
        go_wp2_with fail
        go_roundw
        case rel => exact ⟨k,by go_num,by omega,Lib.hid (HSW.out _ HV1.out)⟩
        case measure => simp [RowKit.intOf]; try omega
      ·cases b0 with
       | true =>
        have HV1 : Hid (T k = true):=Lib.hid (by rw [HT.out]; simp)
        obtain rfl : zh = 1:=HZH.out.symm
        go_wp2_with fail
        go_roundw
        case rel => exact ⟨k,by go_num,by omega,Lib.hid (HSW.out _ HV1.out)⟩
        case measure => simp [RowKit.intOf]; try omega
       | false =>
        cases hq2 with
        | true =>
         have HV1 : Hid (T k = b1):=Lib.hid (by rw [HT.out]; simp)
         obtain rfl : zh = 1:=HZH.out.symm
         go_wp2_with fail
         go_roundw
         case rel => exact ⟨k,by go_num,by omega,Lib.hid (HSW.out _ HV1.out)⟩
         case measure => simp [RowKit.intOf]; try omega
        | false =>
         have HV1 : Hid (T k = false):=Lib.hid (by rw [HT.out]; simp)
         obtain rfl : zh = 1:=HZH.out.symm
         go_wp2_with fail
         go_roundw
         case rel => exact ⟨k,by go_num,by omega,Lib.hid (HSW.out _ HV1.out)⟩
         case measure => simp [RowKit.intOf]; try omega
      ·cases b0 with
       | true =>
        have HV1 : Hid (T k = true):=Lib.hid (by rw [HT.out]; simp)
        obtain rfl : zh = 2:=HZH.out.symm
        go_wp2_with fail
        go_roundw
        case rel => exact ⟨k,by go_num,by omega,Lib.hid (HSW.out _ HV1.out)⟩
        case measure => simp [RowKit.intOf]; try omega
       | false =>
        cases hq2 with
        | true =>
         have HV1 : Hid (T k = x1):=Lib.hid (by rw [HT.out]; simp)
         obtain rfl : zh = 2:=HZH.out.symm
         go_wp2_with fail
         go_roundw
         case rel => exact ⟨k,by go_num,by omega,Lib.hid (HSW.out _ HV1.out)⟩
         case measure => simp [RowKit.intOf]; try omega
        | false =>
         have HV1 : Hid (T k = false):=Lib.hid (by rw [HT.out]; simp)
         obtain rfl : zh = 2:=HZH.out.symm
         go_wp2_with fail
         go_roundw
         case rel => exact ⟨k,by go_num,by omega,Lib.hid (HSW.out _ HV1.out)⟩
         case measure => simp [RowKit.intOf]; try omega
      ·cases hq2 with
       | true =>
        cases b1 with
        | true =>
         have HV1 : Hid (T k = true):=Lib.hid (by rw [HT.out]; simp)
         obtain rfl : zh = 3:=HZH.out.symm
         go_wp2_with fail
         go_roundw
         case rel => exact ⟨k,by go_num,by omega,Lib.hid (HSW.out _ HV1.out)⟩
         case measure => simp [RowKit.intOf]; try omega
        | false =>
         have HV1 : Hid (T k = x1):=Lib.hid (by rw [HT.out]; simp)
         obtain rfl : zh = 3:=HZH.out.symm
         go_wp2_with fail
         go_roundw
         case rel => exact ⟨k,by go_num,by omega,Lib.hid (HSW.out _ HV1.out)⟩
         case measure => simp [RowKit.intOf]; try omega
       | false =>
        have HV1 : Hid (T k = false):=Lib.hid (by rw [HT.out]; simp)
        obtain rfl : zh = 3:=HZH.out.symm
        go_wp2_with fail
        go_roundw
        case rel => exact ⟨k,by go_num,by omega,Lib.hid (HSW.out _ HV1.out)⟩
        case measure => simp [RowKit.intOf]; try omega
     ·have hki2 : ¬ (k : Int) < (n : Int):=by omega
      have HT : Hid (T k = if hw = 1 ∨ hw = 2 then b0 else false):=Lib.hid (by
       have hkn : k = n:=by have:=HKN.out; omega
       have h:=rowP_end V i n b (l.drop (p + 1))
       rw [← HDR.out,← HTT.out,← HRR.out,HHW.out,← hkn,HR0.out] at h
       exact h)
      refine wp_region_held_drew (S:=(fun W => Below W1.heap.size W1 W)) (by kernel_rfl) ((Below.refl W1.heap.size W1).drew) (fun hS0 => ?_)
      refine tE 0 ⟨some 44,.move (.tmp 13), 3,_,#[],none⟩ rfl hS0 ?_
      try simp only [Act.put,pB,pC,pD]
      refine tE 1 ⟨some 45,.move (.tmp 9), 3,_,#[],none⟩ rfl hS0 ?_
      refine tE 2 ⟨some 46,.binOp BinOp.lss 3 (.tmp 44) (.tmp 45) 3, 4,_,#[⟨0,.data⟩,⟨1,.data⟩],none⟩ rfl hS0 ?_
      refine tE 3 ⟨some 47,.move (.tmp 46), 4,_,#[⟨2,.data⟩],none⟩ rfl hS0 ?_
      try simp only [Act.put,pB,pC,pD]
      refine tD 4 ⟨some 48,.load 30 (.tmp 14), 30,_,#[⟨3,.guard⟩],some (3,true)⟩ rfl hS0 ?_
      refine tD 5 ⟨some 49,.move (.tmp 1), 67,_,#[⟨3,.guard⟩],some (3,true)⟩ rfl hS0 ?_
      refine tD 6 ⟨some 50,.move (.tmp 2), 3,_,#[⟨3,.guard⟩],some (3,true)⟩ rfl hS0 ?_
      try simp only [Act.put,pB,pC,pD]
      refine tD 7 ⟨some 51,.move (.tmp 13), 3,_,#[⟨3,.guard⟩],some (3,true)⟩ rfl hS0 ?_
      refine tD 8 ⟨some 52,.binOp BinOp.add 3 (.tmp 50) (.tmp 51) 3, 3,_,#[⟨6,.data⟩,⟨7,.data⟩,⟨3,.guard⟩],some (3,true)⟩ rfl hS0 ?_
      refine tD 9 ⟨some 53,.indexAddr 67 (.tmp 49) (.tmp 52),0,_,#[⟨5,.data⟩,⟨8,.data⟩,⟨3,.guard⟩],some (3,true)⟩ rfl hS0 ?_
      try simp only [Act.put,pB,pC,pD]
      refine tD 10 ⟨some 54,.load 114 (.tmp 53), 114,_,#[⟨9,.data⟩,⟨3,.guard⟩],some (3,true)⟩ rfl hS0 ?_
      refine tD 11 ⟨some 55,.call { callee:=Callee.value (Operand.func 43),args:=#[.tmp 48,.tmp 54],argTypes:=#[30, 114] }, 4,_,#[⟨4,.data⟩,⟨10,.data⟩,⟨3,.chain⟩,⟨3,.guard⟩],some (3,true)⟩ rfl hS0 ?_
      refine tE 12 ⟨some 56,.pick (.tmp 47) (.tmp 55) (Operand.const (Value.bool false)), 4,_,#[⟨3,.data⟩,⟨11,.data⟩],none⟩ rfl hS0 ?_
      try simp only [Act.put,pB,pC,pD]
      refine tE 13 ⟨some 15,.assign (.tmp 56), 4,_,pa [⟨12,.data⟩,⟨11,.chain⟩] 13,none⟩ rfl hS0 ?_
      try simp only [Act.put,pB,pC,pD]
      refine wpAnyH_done (by kernel_rfl) ?_ _
      have fB:=HB0.out W1.drew ((Below.refl W1.heap.size W1).drew)
      have fC:=HC0.out W1.drew ((Below.refl W1.heap.size W1).drew)
      obtain ⟨_,_,d2,d3⟩:=fB
      obtain ⟨e0,e1,e2,e3,e4⟩:=fC
      have HSW:=Lib.hid (HSET.out W1.drew ((Below.refl W1.heap.size W1).drew))
      have hh4:=HHB.out
      rcases (show hw = 0 ∨ hw = 1 ∨ hw = 2 ∨ hw = 3 by omega) with rfl | rfl | rfl | rfl
      ·have HV1 : Hid (T k = false):=Lib.hid (by rw [HT.out]; simp)
       obtain rfl : zh = 0:=HZH.out.symm
       go_wp2_with fail
       go_roundw
       case rel => exact ⟨k,by go_num,by omega,Lib.hid (HSW.out _ HV1.out)⟩
       case measure => simp [RowKit.intOf]; try omega
      ·cases b0 with
       | true =>
        have HV1 : Hid (T k = true):=Lib.hid (by rw [HT.out]; simp)
        obtain rfl : zh = 1:=HZH.out.symm
        go_wp2_with fail
        go_roundw
        case rel => exact ⟨k,by go_num,by omega,Lib.hid (HSW.out _ HV1.out)⟩
        case measure => simp [RowKit.intOf]; try omega
       | false =>
        have HV1 : Hid (T k = false):=Lib.hid (by rw [HT.out]; simp)
        obtain rfl : zh = 1:=HZH.out.symm
        go_wp2_with fail
        go_roundw
        case rel => exact ⟨k,by go_num,by omega,Lib.hid (HSW.out _ HV1.out)⟩
        case measure => simp [RowKit.intOf]; try omega
      ·cases b0 with
       | true =>
        have HV1 : Hid (T k = true):=Lib.hid (by rw [HT.out]; simp)
        obtain rfl : zh = 2:=HZH.out.symm
        go_wp2_with fail
        go_roundw
        case rel => exact ⟨k,by go_num,by omega,Lib.hid (HSW.out _ HV1.out)⟩
        case measure => simp [RowKit.intOf]; try omega
       | false =>
        have HV1 : Hid (T k = false):=Lib.hid (by rw [HT.out]; simp)
        obtain rfl : zh = 2:=HZH.out.symm
        go_wp2_with fail
        go_roundw
        case rel => exact ⟨k,by go_num,by omega,Lib.hid (HSW.out _ HV1.out)⟩
        case measure => simp [RowKit.intOf]; try omega
      ·have HV1 : Hid (T k = false):=Lib.hid (by rw [HT.out]; simp)
       obtain rfl : zh = 3:=HZH.out.symm
       go_wp2_with fail
       go_roundw
       case rel => exact ⟨k,by go_num,by omega,Lib.hid (HSW.out _ HV1.out)⟩
       case measure => simp [RowKit.intOf]; try omega
end Go.Proofs.YtchdeboialbdiaaGreatDoor
