/- Texts joined, one behind the other (SCompF, SWorks). -/
import Derived.Test.YtchdeboialbdiaaGreatDoorSn21
namespace Go.Proofs.YtchdeboialbdiaaGreatDoor
set_option linter.unusedVariables false
set_option linter.unusedSimpArgs false
set_option maxHeartbeats 8000000
set_option maxRecDepth 100000
open Go.RowKit
open Go.Lib hiding intOf
def PatFrom (B0 : Nat) (w : World) (g : Nat) (l : List UInt8) (fo : Bool) (its : List Itm) : Prop :=
 ∃ (v : Value) (L : List (Itm × Value)) (B : Nat),B0 ≤ B ∧ Row w g 36 [.string (bstr l),.bool true,v] ∧ L.map Prod.fst = its ∧ PartsOwn fo B v L w
theorem PatFrom.is {B0 : Nat} {w : World} {g : Nat} {l : List UInt8} {fo : Bool} {its : List Itm} (h : PatFrom B0 w g l fo its) : PatIs w g l fo its:=by
 obtain ⟨v,L,B,_,h1,h2,h3⟩:=h
 exact ⟨v,L,B,h1,h2,h3⟩
theorem PatFrom.grown {B0 p : Nat} {w : World} {g : Nat} {l : List UInt8} {fo : Bool} {its : List Itm} (h : PatFrom B0 w g l fo its) (i : Nat) (u : Value) (hp : p < B0) (hg : p ≠ g) : PatFrom B0 (w.setCell ⟨p,i,none⟩ u) g l fo its:=by
 obtain ⟨v,L,B,h0,h1,h2,h3⟩:=h
 exact ⟨v,L,B,h0,h1.other (p:=⟨p,i,none⟩) hg u,h2,h3.grown (grownBy_set w p i u) (by omega)⟩
def CompF (w : World) (l : List UInt8) (e : Ending) (w' : World) : Prop :=
 Below w.heap.size w w' ∧ if 256 < l.length then ∃ g,e = .returned (.tuple #[.pointer none,.iface 82 (.pointer (some ⟨g,0,none⟩))]) ∧ w.heap.size ≤ g ∧ Row w' g 84 [.int .i64 4,.int .i64 0] else
  match itemsP (valsL l) with
  | .inl b => ∃ g,e = .returned (.tuple #[.pointer none,.iface 82 (.pointer (some ⟨g,0,none⟩))]) ∧ w.heap.size ≤ g ∧ Row w' g 84 [.int .i64 60,.int .i64 ((atsL l).getD b 0 : Int)]
  | .inr its => ∃ g,e = .returned (.tuple #[.pointer (some ⟨g,0,none⟩),.nilIface]) ∧ w.heap.size ≤ g ∧ PatFrom w.heap.size w' g l (foldedP (valsL l)) its
theorem compileF (w : World) (l : List UInt8) (hm : l.length ≤ 140737488355328) (hT : Tabs w) :
  Calls Tryz.prog 14 #[.string (bstr l)] w (CompF w l):=by
 by_cases hl : 256 < l.length
 ·have h1 : (256 : Int) < (l.length : Int):=by omega
  have h2 : ¬ (l.length : Int) ≤ 256:=by omega
  have HL:=Lib.hid hl
  clear hl hT
  go_enter Tryz.func14, Tryz.ntmps14
  go_wp2_with fail
  go_ret2
  unfold CompF
  rw [if_pos HL.out]
  exact ⟨(Below.refl _ w).alloc (Nat.le_refl _) _,w.heap.size,rfl,Nat.le_refl _,row_new w [.int .i64 4,.int .i64 0] 84⟩
 have h1 : ¬ (256 : Int) < (l.length : Int):=by omega
 have h2 : (l.length : Int) ≤ 256:=by omega
 have hC:=charsC w l (by omega) hT
 have HL:=Lib.hid hl
 have hC2 : Calls Tryz.prog 33 #[.string (bstr l)] w fun e w' => ∃ a c a2 c2,e = .returned (.tuple #[.slice a (valsL l).length c,.slice a2 (atsL l).length c2]) ∧ ReadsTok w' a (valsL l).length (valsL l) ∧ (∀ ad,a = some ad → w.heap.size ≤ ad.block ∧ ad.block < w'.heap.size) ∧ (0 < (valsL l).length → ∃ g,a = some ⟨g,0,none⟩) ∧ (0 < (atsL l).length → ∃ g,a2 = some ⟨g,0,none⟩ ∧ w.heap.size ≤ g ∧ g < w'.heap.size ∧ ∀ (k x : Nat),(atsL l)[k]? = some x → w'.cell? ⟨g,k,none⟩ = some (.int .i64 (x : Int))) ∧ Below w.heap.size w w':=hC.mono (by
  rintro e w' ⟨vl,va,rfl,ht,hi,hb⟩
  obtain ⟨a,c,rfl,r1,r2,r3⟩:=ht.shape
  obtain ⟨a2,c2,rfl,s1,s2⟩:=hi.shape
  exact ⟨a,c,a2,c2,rfl,r1,r2,r3,s2,hb⟩)
 have hvl:=vals_len l
 have hal:=ats_len l
 have hok:=vals_ok l
 obtain ⟨V,hV⟩ : ∃ V,valsL l = V:=⟨_,rfl⟩
 obtain ⟨n,hn⟩ : ∃ n,V.length = n:=⟨_,rfl⟩
 rw [hV] at hvl hal hok hC2
 rw [hn] at hvl hal hC2
 obtain ⟨A,hA⟩ : ∃ A,atsL l = A:=⟨_,rfl⟩
 rw [hA] at hal hC2
 rw [hal] at hC2
 have HC:=Lib.hid hC2
 have HAT:=Lib.hid hA
 have HV:=Lib.hid hV
 have HN:=Lib.hid hn
 have HOK:=Lib.hid hok
 have hn256 : n ≤ 256:=by omega
 have hPT0 : ∀ (i : Nat) (fo : Bool),i ≤ n → ∀ (W : World) (p : Nat) (a : Option Addr) (c : Nat),Scan W p a n c V i fo → (∀ ad,a = some ad → ad.block < W.heap.size) → Calls Tryz.prog 34 #[.pointer (some ⟨p,0,none⟩)] W (PatP W p a n c V fo (itemsGo V (V.length + 1) i [])):=fun i fo hi W p a c hs ha => patternC W p a n c V i fo hs HOK.out hi (by omega) ha
 have HPT0:=Lib.hid hPT0
 have HAL:=Lib.hid hal
 clear hl hT hC hvl hok hV hn hPT0 hC2 hA hal
 by_cases hf1 : 1 < n
 ·have hf1i : (1 : Int) < (n : Int):=by omega
  have hf1j : ¬ (n : Int) ≤ 1:=by omega
  have hf1k : (0 : Int) < (n : Int):=by omega
  obtain ⟨v0,hv0⟩ : ∃ v,V[0]? = some v:=⟨_,List.getElem?_eq_getElem (by have:=HN.out; omega)⟩
  obtain ⟨v1,hv1⟩ : ∃ v,V[1]? = some v:=⟨_,List.getElem?_eq_getElem (by have:=HN.out; omega)⟩
  have okc : ∀ {k v : Nat},V[k]? = some v → OkC v:=fun {k v} h => by
   have:=HOK.out v (List.mem_of_getElem? h)
   unfold OkC
   omega
  have hq0 : ∀ w',(binOp .eql 91 (.agg #[.int .i32 (tokR v0 : Int),.int .i64 (tokW v0 : Int)]) (.agg #[.int .i32 92,.int .i64 0])).run Tryz.prog w' = .ok (.bool (decide (v0 = 92))) w':=fun w' => by
   rw [tokQl]
   exact congrArg (fun b => Result.ok (Value.bool b) w') (tok_eq (okc hv0) (u:=92) (.inl (by decide)))
  have hq1 : ∀ w',(binOp .eql 91 (.agg #[.int .i32 (tokR v1 : Int),.int .i64 (tokW v1 : Int)]) (.agg #[.int .i32 105,.int .i64 0])).run Tryz.prog w' = .ok (.bool (decide (v1 = 105))) w':=fun w' => by
   rw [tokQl]
   exact congrArg (fun b => Result.ok (Value.bool b) w') (tok_eq (okc hv1) (u:=105) (.inl (by decide)))
  have HV0:=Lib.hid hv0
  have HV1:=Lib.hid hv1
  clear okc
  by_cases hf2 : v0 = 92 ∧ v1 = 105
  ·have hfo : foldedP V = true:=decide_eq_true ⟨by rw [hv0,hf2.1],by rw [hv1,hf2.2]⟩
   rw [decide_eq_true hf2.1] at hq0
   rw [decide_eq_true hf2.2] at hq1
   have hPT:=HPT0.out 2 true hf1
   have hI0 : itemsP V = itemsGo V (V.length + 1) 2 []:=by
    unfold itemsP
    rw [hfo]
    rfl
   have HFO:=Lib.hid hfo
   clear hf1 hfo HPT0 hv0 hv1 hf2
   cases hI : itemsGo V (V.length + 1) 2 [] with
   | inl b =>
    rw [hI] at hPT hI0
    have HI0:=Lib.hid hI0
    have HPT:=Lib.hid hPT
    have hbn : b < A.length:=by
     have:=itemsGo_le V HOK.out _ _ _ (by have:=HN.out; omega) b hI
     have:=HN.out
     rw [HAL.out]
     omega
    have hbi : (b : Int) < ((n + 1 : Nat) : Int):=by rw [HAL.out] at hbn; omega
    have hbi2 : (b : Int) < (n : Int) + 1:=by omega
    have hbi3 : b < n + 1:=by omega
    obtain ⟨A0,hA0⟩ : ∃ x,A.getD b 0 = x:=⟨_,rfl⟩
    have HA0:=Lib.hid hA0
    clear hA0
    clear hPT hI hI0
    go_enter Tryz.func14, Tryz.ntmps14
    go_wp2_with (first | (go_at_call 33; refine (HC.out).mono ?_; rintro e w1 ⟨a,c,a2,c2,rfl,hrt,hab,hcl,hcell,hb⟩; have hsc:=scan_new (c:=c) hrt hab; have hsf:=scan_newF (c:=c) hrt hab; obtain ⟨bb,ha⟩:=hcl (by omega); subst ha; have hl0:=tok_at0 hsc.toks HV0.out; have hl1:=tok_at1 hsc.toks HV1.out; obtain ⟨u1,u2⟩:=hl0; obtain ⟨u3,u4⟩:=hl1; have HSF:=Lib.hid hsf; clear hsf; have q1:=hsc.row.lt; have q2:=hsc.row.frozen 1; have q3:=hsc.row.frozen 2; have HB:=Lib.hid hb; have HSC:=Lib.hid hsc; have HAB:=Lib.hid hab; have HCE:=Lib.hid hcell; clear hrt hb hab hcl hcell hsc) | (go_at_call 34; refine (HPT.out (w1.alloc (.cells #[.slice (some ⟨bb,0,none⟩) n c,.int .i64 2,.bool true] 89)) _ _ c HSF.out (fun ad h => by have:=(HAB.out ad h).2; rw [World.size_alloc]; omega)).mono ?_; rintro e w4 ⟨hg4,rfl,hs4⟩; have i1 : w4.cell? ⟨w1.heap.size,1,none⟩ = some (.int .i64 (b : Int)):=hs4.row.cell 1; obtain ⟨g2,ha2,hg21,hg22,hcc⟩:=HCE.out (by omega); subst ha2; have i2:=at_cell ((Below.refl w1.heap.size w1).alloc (Nat.le_refl _) _) hg4 hg22 hcc hbn; rw [HA0.out] at i2; have i3:=hs4.row.lt; have i4 : g2 < w4.heap.size:=Nat.lt_of_lt_of_le (Nat.lt_of_lt_of_le hg22 (by rw [World.size_alloc]; exact Nat.le_succ _)) hg4.size; have HG4:=Lib.hid hg4; clear hg4 hs4 hcc))
    go_region
    all_goals go_wp2_with fail
    go_ret2
    have hbb:=comp_below HB.out ((Below.refl w1.heap.size w1).alloc (Nat.le_refl _) _) HG4.out
    have hsz:=hbb.size
    have hr : Row (w4.alloc (.cells #[.int .i64 60,.int .i64 ((A0 : Nat) : Int)] 84)) w4.heap.size 84 [.int .i64 60,.int .i64 ((A0 : Nat) : Int)]:=row_new w4 _ _
    unfold CompF
    rw [if_neg HL.out,HV.out,HI0.out,HAT.out]
    dsimp only
    rw [HA0.out]
    exact ⟨(hbb.alloc hsz _).trans (Quiet.below ⟨1,rfl⟩ _),w4.heap.size,rfl,hsz,hr.keep (Quiet.below (w':=(w4.alloc _).drew) ⟨1,rfl⟩ _) hr.lt⟩
   | inr its =>
    rw [hI] at hPT hI0
    have HI0:=Lib.hid hI0
    have HPT:=Lib.hid hPT
    clear hPT hI hI0
    go_enter Tryz.func14, Tryz.ntmps14
    go_wp2_with (first | (go_at_call 33; refine (HC.out).mono ?_; rintro e w1 ⟨a,c,a2,c2,rfl,hrt,hab,hcl,hcell,hb⟩; have hsc:=scan_new (c:=c) hrt hab; have hsf:=scan_newF (c:=c) hrt hab; obtain ⟨bb,ha⟩:=hcl (by omega); subst ha; have hl0:=tok_at0 hsc.toks HV0.out; have hl1:=tok_at1 hsc.toks HV1.out; obtain ⟨u1,u2⟩:=hl0; obtain ⟨u3,u4⟩:=hl1; have HSF:=Lib.hid hsf; clear hsf; have q1:=hsc.row.lt; have q2:=hsc.row.frozen 1; have q3:=hsc.row.frozen 2; have HB:=Lib.hid hb; have HSC:=Lib.hid hsc; have HAB:=Lib.hid hab; have HCE:=Lib.hid hcell; clear hrt hb hab hcl hcell hsc) | (go_at_call 34; refine (HPT.out (w1.alloc (.cells #[.slice (some ⟨bb,0,none⟩) n c,.int .i64 2,.bool true] 89)) _ _ c HSF.out (fun ad h => by have:=(HAB.out ad h).2; rw [World.size_alloc]; omega)).mono ?_; rintro e w4 ⟨hg4,v,L,rfl,hL,hP⟩; obtain ⟨a3,c3,rfl⟩:=parts_shape hP; have HG4:=Lib.hid hg4; have HL4:=Lib.hid hL; have HP4:=Lib.hid hP; clear hg4 hL hP))
    go_ret2
    have hbb:=comp_below HB.out ((Below.refl w1.heap.size w1).alloc (Nat.le_refl _) _) HG4.out
    have hsz:=hbb.size
    have hal : Below w4.heap.size w4 (w4.alloc (.cells #[.string (bstr l),.bool true,.slice a3 L.length c3] 36)):=(Below.refl _ w4).alloc (Nat.le_refl _) _
    unfold CompF
    rw [if_neg HL.out,HV.out,HI0.out,HFO.out]
    exact ⟨hbb.alloc hsz _,w4.heap.size,rfl,hsz,_,L,_,(by have h7:=HB.out.size; first | omega | (simp only [World.size_alloc]; omega)),row_new w4 [.string (bstr l),.bool true,.slice a3 L.length c3] _,HL4.out,HP4.out.grown (grown_of_below hal (some w1.heap.size)) (by rw [World.size_alloc]; omega)⟩
  ·have hfo : foldedP V = false:=by
    refine decide_eq_false ?_
    rw [hv0,hv1]
    rintro ⟨h,h'⟩
    exact hf2 ⟨Option.some.inj h,Option.some.inj h'⟩
   have hPT:=HPT0.out 0 false (Nat.zero_le _)
   have hI0 : itemsP V = itemsGo V (V.length + 1) 0 []:=by
    unfold itemsP
    rw [hfo]
    rfl
   have HFO:=Lib.hid hfo
   obtain ⟨b0,hb0⟩ : ∃ b,decide (v0 = 92) = b:=⟨_,rfl⟩
   obtain ⟨b1,hb1⟩ : ∃ b,decide (v1 = 105) = b:=⟨_,rfl⟩
   rw [hb0] at hq0
   rw [hb1] at hq1
   have hbb : b0 = false ∨ (b0 = true ∧ b1 = false):=by
    cases b0 with
    | false => exact .inl rfl
    | true =>
     cases b1 with
     | false => exact .inr ⟨rfl,rfl⟩
     | true => exact absurd ⟨of_decide_eq_true hb0,of_decide_eq_true hb1⟩ hf2
   clear hf1 hfo HPT0 hv0 hv1 hf2 hb0 hb1
   rcases hbb with rfl | ⟨rfl,rfl⟩
   ·cases hI : itemsGo V (V.length + 1) 0 [] with
    | inl b =>
     rw [hI] at hPT hI0
     have HI0:=Lib.hid hI0
     have HPT:=Lib.hid hPT
     have hbn : b < A.length:=by
      have:=itemsGo_le V HOK.out _ _ _ (by have:=HN.out; omega) b hI
      have:=HN.out
      rw [HAL.out]
      omega
     have hbi : (b : Int) < ((n + 1 : Nat) : Int):=by rw [HAL.out] at hbn; omega
     have hbi2 : (b : Int) < (n : Int) + 1:=by omega
     have hbi3 : b < n + 1:=by omega
     obtain ⟨A0,hA0⟩ : ∃ x,A.getD b 0 = x:=⟨_,rfl⟩
     have HA0:=Lib.hid hA0
     clear hA0
     clear hPT hI hI0
     go_enter Tryz.func14, Tryz.ntmps14
     go_wp2_with (first | (go_at_call 33; refine (HC.out).mono ?_; rintro e w1 ⟨a,c,a2,c2,rfl,hrt,hab,hcl,hcell,hb⟩; have hsc:=scan_new (c:=c) hrt hab; obtain ⟨bb,ha⟩:=hcl (by omega); subst ha; have hl0:=tok_at0 hsc.toks HV0.out; have hl1:=tok_at1 hsc.toks HV1.out; obtain ⟨u1,u2⟩:=hl0; obtain ⟨u3,u4⟩:=hl1; have q1:=hsc.row.lt; have q2:=hsc.row.frozen 1; have q3:=hsc.row.frozen 2; have HB:=Lib.hid hb; have HSC:=Lib.hid hsc; have HAB:=Lib.hid hab; have HCE:=Lib.hid hcell; clear hrt hb hab hcl hcell hsc) | (go_at_call 34; refine (HPT.out (w1.alloc (.cells #[.slice (some ⟨bb,0,none⟩) n c,.int .i64 0,.bool false] 89)) _ _ c HSC.out (fun ad h => by have:=(HAB.out ad h).2; rw [World.size_alloc]; omega)).mono ?_; rintro e w4 ⟨hg4,rfl,hs4⟩; have i1 : w4.cell? ⟨w1.heap.size,1,none⟩ = some (.int .i64 (b : Int)):=hs4.row.cell 1; obtain ⟨g2,ha2,hg21,hg22,hcc⟩:=HCE.out (by omega); subst ha2; have i2:=at_cell ((Below.refl w1.heap.size w1).alloc (Nat.le_refl _) _) hg4 hg22 hcc hbn; rw [HA0.out] at i2; have i3:=hs4.row.lt; have i4 : g2 < w4.heap.size:=Nat.lt_of_lt_of_le (Nat.lt_of_lt_of_le hg22 (by rw [World.size_alloc]; exact Nat.le_succ _)) hg4.size; have HG4:=Lib.hid hg4; clear hg4 hs4 hcc))
     go_region
     all_goals go_wp2_with fail
     go_ret2
     have hbb:=comp_below HB.out ((Below.refl w1.heap.size w1).alloc (Nat.le_refl _) _) HG4.out
     have hsz:=hbb.size
     have hr : Row (w4.alloc (.cells #[.int .i64 60,.int .i64 ((A0 : Nat) : Int)] 84)) w4.heap.size 84 [.int .i64 60,.int .i64 ((A0 : Nat) : Int)]:=row_new w4 _ _
     unfold CompF
     rw [if_neg HL.out,HV.out,HI0.out,HAT.out]
     dsimp only
     rw [HA0.out]
     exact ⟨(hbb.alloc hsz _).trans (Quiet.below ⟨1,rfl⟩ _),w4.heap.size,rfl,hsz,hr.keep (Quiet.below (w':=(w4.alloc _).drew) ⟨1,rfl⟩ _) hr.lt⟩
    | inr its =>
     rw [hI] at hPT hI0
     have HI0:=Lib.hid hI0
     have HPT:=Lib.hid hPT
     clear hPT hI hI0
     go_enter Tryz.func14, Tryz.ntmps14
     go_wp2_with (first | (go_at_call 33; refine (HC.out).mono ?_; rintro e w1 ⟨a,c,a2,c2,rfl,hrt,hab,hcl,hcell,hb⟩; have hsc:=scan_new (c:=c) hrt hab; obtain ⟨bb,ha⟩:=hcl (by omega); subst ha; have hl0:=tok_at0 hsc.toks HV0.out; have hl1:=tok_at1 hsc.toks HV1.out; obtain ⟨u1,u2⟩:=hl0; obtain ⟨u3,u4⟩:=hl1; have q1:=hsc.row.lt; have q2:=hsc.row.frozen 1; have q3:=hsc.row.frozen 2; have HB:=Lib.hid hb; have HSC:=Lib.hid hsc; have HAB:=Lib.hid hab; have HCE:=Lib.hid hcell; clear hrt hb hab hcl hcell hsc) | (go_at_call 34; refine (HPT.out (w1.alloc (.cells #[.slice (some ⟨bb,0,none⟩) n c,.int .i64 0,.bool false] 89)) _ _ c HSC.out (fun ad h => by have:=(HAB.out ad h).2; rw [World.size_alloc]; omega)).mono ?_; rintro e w4 ⟨hg4,v,L,rfl,hL,hP⟩; obtain ⟨a3,c3,rfl⟩:=parts_shape hP; have HG4:=Lib.hid hg4; have HL4:=Lib.hid hL; have HP4:=Lib.hid hP; clear hg4 hL hP))
     go_ret2
     have hbb:=comp_below HB.out ((Below.refl w1.heap.size w1).alloc (Nat.le_refl _) _) HG4.out
     have hsz:=hbb.size
     have hal : Below w4.heap.size w4 (w4.alloc (.cells #[.string (bstr l),.bool true,.slice a3 L.length c3] 36)):=(Below.refl _ w4).alloc (Nat.le_refl _) _
     unfold CompF
     rw [if_neg HL.out,HV.out,HI0.out,HFO.out]
     exact ⟨hbb.alloc hsz _,w4.heap.size,rfl,hsz,_,L,_,(by have h7:=HB.out.size; first | omega | (simp only [World.size_alloc]; omega)),row_new w4 [.string (bstr l),.bool true,.slice a3 L.length c3] _,HL4.out,HP4.out.grown (grown_of_below hal (some w1.heap.size)) (by rw [World.size_alloc]; omega)⟩
   ·cases hI : itemsGo V (V.length + 1) 0 [] with
    | inl b =>
     rw [hI] at hPT hI0
     have HI0:=Lib.hid hI0
     have HPT:=Lib.hid hPT
     have hbn : b < A.length:=by
      have:=itemsGo_le V HOK.out _ _ _ (by have:=HN.out; omega) b hI
      have:=HN.out
      rw [HAL.out]
      omega
     have hbi : (b : Int) < ((n + 1 : Nat) : Int):=by rw [HAL.out] at hbn; omega
     have hbi2 : (b : Int) < (n : Int) + 1:=by omega
     have hbi3 : b < n + 1:=by omega
     obtain ⟨A0,hA0⟩ : ∃ x,A.getD b 0 = x:=⟨_,rfl⟩
     have HA0:=Lib.hid hA0
     clear hA0
     clear hPT hI hI0
     go_enter Tryz.func14, Tryz.ntmps14
     go_wp2_with (first | (go_at_call 33; refine (HC.out).mono ?_; rintro e w1 ⟨a,c,a2,c2,rfl,hrt,hab,hcl,hcell,hb⟩; have hsc:=scan_new (c:=c) hrt hab; obtain ⟨bb,ha⟩:=hcl (by omega); subst ha; have hl0:=tok_at0 hsc.toks HV0.out; have hl1:=tok_at1 hsc.toks HV1.out; obtain ⟨u1,u2⟩:=hl0; obtain ⟨u3,u4⟩:=hl1; have q1:=hsc.row.lt; have q2:=hsc.row.frozen 1; have q3:=hsc.row.frozen 2; have HB:=Lib.hid hb; have HSC:=Lib.hid hsc; have HAB:=Lib.hid hab; have HCE:=Lib.hid hcell; clear hrt hb hab hcl hcell hsc) | (go_at_call 34; refine (HPT.out (w1.alloc (.cells #[.slice (some ⟨bb,0,none⟩) n c,.int .i64 0,.bool false] 89)) _ _ c HSC.out (fun ad h => by have:=(HAB.out ad h).2; rw [World.size_alloc]; omega)).mono ?_; rintro e w4 ⟨hg4,rfl,hs4⟩; have i1 : w4.cell? ⟨w1.heap.size,1,none⟩ = some (.int .i64 (b : Int)):=hs4.row.cell 1; obtain ⟨g2,ha2,hg21,hg22,hcc⟩:=HCE.out (by omega); subst ha2; have i2:=at_cell ((Below.refl w1.heap.size w1).alloc (Nat.le_refl _) _) hg4 hg22 hcc hbn; rw [HA0.out] at i2; have i3:=hs4.row.lt; have i4 : g2 < w4.heap.size:=Nat.lt_of_lt_of_le (Nat.lt_of_lt_of_le hg22 (by rw [World.size_alloc]; exact Nat.le_succ _)) hg4.size; have HG4:=Lib.hid hg4; clear hg4 hs4 hcc))
     go_region
     all_goals go_wp2_with fail
     go_ret2
     have hbb:=comp_below HB.out ((Below.refl w1.heap.size w1).alloc (Nat.le_refl _) _) HG4.out
     have hsz:=hbb.size
     have hr : Row (w4.alloc (.cells #[.int .i64 60,.int .i64 ((A0 : Nat) : Int)] 84)) w4.heap.size 84 [.int .i64 60,.int .i64 ((A0 : Nat) : Int)]:=row_new w4 _ _
     unfold CompF
     rw [if_neg HL.out,HV.out,HI0.out,HAT.out]
     dsimp only
     rw [HA0.out]
     exact ⟨(hbb.alloc hsz _).trans (Quiet.below ⟨1,rfl⟩ _),w4.heap.size,rfl,hsz,hr.keep (Quiet.below (w':=(w4.alloc _).drew) ⟨1,rfl⟩ _) hr.lt⟩
    | inr its =>
     rw [hI] at hPT hI0
     have HI0:=Lib.hid hI0
     have HPT:=Lib.hid hPT
     clear hPT hI hI0
     go_enter Tryz.func14, Tryz.ntmps14
     go_wp2_with (first | (go_at_call 33; refine (HC.out).mono ?_; rintro e w1 ⟨a,c,a2,c2,rfl,hrt,hab,hcl,hcell,hb⟩; have hsc:=scan_new (c:=c) hrt hab; obtain ⟨bb,ha⟩:=hcl (by omega); subst ha; have hl0:=tok_at0 hsc.toks HV0.out; have hl1:=tok_at1 hsc.toks HV1.out; obtain ⟨u1,u2⟩:=hl0; obtain ⟨u3,u4⟩:=hl1; have q1:=hsc.row.lt; have q2:=hsc.row.frozen 1; have q3:=hsc.row.frozen 2; have HB:=Lib.hid hb; have HSC:=Lib.hid hsc; have HAB:=Lib.hid hab; have HCE:=Lib.hid hcell; clear hrt hb hab hcl hcell hsc) | (go_at_call 34; refine (HPT.out (w1.alloc (.cells #[.slice (some ⟨bb,0,none⟩) n c,.int .i64 0,.bool false] 89)) _ _ c HSC.out (fun ad h => by have:=(HAB.out ad h).2; rw [World.size_alloc]; omega)).mono ?_; rintro e w4 ⟨hg4,v,L,rfl,hL,hP⟩; obtain ⟨a3,c3,rfl⟩:=parts_shape hP; have HG4:=Lib.hid hg4; have HL4:=Lib.hid hL; have HP4:=Lib.hid hP; clear hg4 hL hP))
     go_ret2
     have hbb:=comp_below HB.out ((Below.refl w1.heap.size w1).alloc (Nat.le_refl _) _) HG4.out
     have hsz:=hbb.size
     have hal : Below w4.heap.size w4 (w4.alloc (.cells #[.string (bstr l),.bool true,.slice a3 L.length c3] 36)):=(Below.refl _ w4).alloc (Nat.le_refl _) _
     unfold CompF
     rw [if_neg HL.out,HV.out,HI0.out,HFO.out]
     exact ⟨hbb.alloc hsz _,w4.heap.size,rfl,hsz,_,L,_,(by have h7:=HB.out.size; first | omega | (simp only [World.size_alloc]; omega)),row_new w4 [.string (bstr l),.bool true,.slice a3 L.length c3] _,HL4.out,HP4.out.grown (grown_of_below hal (some w1.heap.size)) (by rw [World.size_alloc]; omega)⟩
 ·have hf1i : ¬ (1 : Int) < (n : Int):=by omega
  have hf1j : (n : Int) ≤ 1:=by omega
  have hfo : foldedP V = false:=by
   refine decide_eq_false ?_
   rintro ⟨_,h⟩
   have:=lt_of_some h
   have:=HN.out
   omega
  have hPT:=HPT0.out 0 false (Nat.zero_le _)
  have hI0 : itemsP V = itemsGo V (V.length + 1) 0 []:=by
   unfold itemsP
   rw [hfo]
   rfl
  have HFO:=Lib.hid hfo
  clear hf1 hfo HPT0
  cases hI : itemsGo V (V.length + 1) 0 [] with
  | inl b =>
   rw [hI] at hPT hI0
   have HI0:=Lib.hid hI0
   have HPT:=Lib.hid hPT
   have hbn : b < A.length:=by
    have:=itemsGo_le V HOK.out _ _ _ (by have:=HN.out; omega) b hI
    have:=HN.out
    rw [HAL.out]
    omega
   have hbi : (b : Int) < ((n + 1 : Nat) : Int):=by rw [HAL.out] at hbn; omega
   have hbi2 : (b : Int) < (n : Int) + 1:=by omega
   have hbi3 : b < n + 1:=by omega
   obtain ⟨A0,hA0⟩ : ∃ x,A.getD b 0 = x:=⟨_,rfl⟩
   have HA0:=Lib.hid hA0
   clear hA0
   clear hPT hI hI0
   go_enter Tryz.func14, Tryz.ntmps14
   go_wp2_with (first | (go_at_call 33; refine (HC.out).mono ?_; rintro e w1 ⟨a,c,a2,c2,rfl,hrt,hab,hcl,hcell,hb⟩; have hsc:=scan_new (c:=c) hrt hab; have q1:=hsc.row.lt; have q2:=hsc.row.frozen 1; have q3:=hsc.row.frozen 2; have HB:=Lib.hid hb; have HSC:=Lib.hid hsc; have HAB:=Lib.hid hab; have HCE:=Lib.hid hcell; clear hrt hb hab hcl hcell hsc) | (go_at_call 34; refine (HPT.out (w1.alloc (.cells #[.slice a n c,.int .i64 0,.bool false] 89)) _ a c HSC.out (fun ad h => by have:=(HAB.out ad h).2; rw [World.size_alloc]; omega)).mono ?_; rintro e w4 ⟨hg4,rfl,hs4⟩; have i1 : w4.cell? ⟨w1.heap.size,1,none⟩ = some (.int .i64 (b : Int)):=hs4.row.cell 1; obtain ⟨g2,ha2,hg21,hg22,hcc⟩:=HCE.out (by omega); subst ha2; have i2:=at_cell ((Below.refl w1.heap.size w1).alloc (Nat.le_refl _) _) hg4 hg22 hcc hbn; rw [HA0.out] at i2; have i3:=hs4.row.lt; have i4 : g2 < w4.heap.size:=Nat.lt_of_lt_of_le (Nat.lt_of_lt_of_le hg22 (by rw [World.size_alloc]; exact Nat.le_succ _)) hg4.size; have HG4:=Lib.hid hg4; clear hg4 hs4 hcc))
   go_region
   all_goals go_wp2_with fail
   go_ret2
   have hbb:=comp_below HB.out ((Below.refl w1.heap.size w1).alloc (Nat.le_refl _) _) HG4.out
   have hsz:=hbb.size
   have hr : Row (w4.alloc (.cells #[.int .i64 60,.int .i64 ((A0 : Nat) : Int)] 84)) w4.heap.size 84 [.int .i64 60,.int .i64 ((A0 : Nat) : Int)]:=row_new w4 _ _
   unfold CompF
   rw [if_neg HL.out,HV.out,HI0.out,HAT.out]
   dsimp only
   rw [HA0.out]
   exact ⟨(hbb.alloc hsz _).trans (Quiet.below ⟨1,rfl⟩ _),w4.heap.size,rfl,hsz,hr.keep (Quiet.below (w':=(w4.alloc _).drew) ⟨1,rfl⟩ _) hr.lt⟩
  | inr its =>
   rw [hI] at hPT hI0
   have HI0:=Lib.hid hI0
   have HPT:=Lib.hid hPT
   clear hPT hI hI0
   go_enter Tryz.func14, Tryz.ntmps14
   go_wp2_with (first | (go_at_call 33; refine (HC.out).mono ?_; rintro e w1 ⟨a,c,a2,c2,rfl,hrt,hab,hcl,hcell,hb⟩; have hsc:=scan_new (c:=c) hrt hab; have q1:=hsc.row.lt; have q2:=hsc.row.frozen 1; have q3:=hsc.row.frozen 2; have HB:=Lib.hid hb; have HSC:=Lib.hid hsc; have HAB:=Lib.hid hab; have HCE:=Lib.hid hcell; clear hrt hb hab hcl hcell hsc) | (go_at_call 34; refine (HPT.out (w1.alloc (.cells #[.slice a n c,.int .i64 0,.bool false] 89)) _ a c HSC.out (fun ad h => by have:=(HAB.out ad h).2; rw [World.size_alloc]; omega)).mono ?_; rintro e w4 ⟨hg4,v,L,rfl,hL,hP⟩; obtain ⟨a3,c3,rfl⟩:=parts_shape hP; have HG4:=Lib.hid hg4; have HL4:=Lib.hid hL; have HP4:=Lib.hid hP; clear hg4 hL hP))
   go_ret2
   have hbb:=comp_below HB.out ((Below.refl w1.heap.size w1).alloc (Nat.le_refl _) _) HG4.out
   have hsz:=hbb.size
   have hal : Below w4.heap.size w4 (w4.alloc (.cells #[.string (bstr l),.bool true,.slice a3 L.length c3] 36)):=(Below.refl _ w4).alloc (Nat.le_refl _) _
   unfold CompF
   rw [if_neg HL.out,HV.out,HI0.out,HFO.out]
   exact ⟨hbb.alloc hsz _,w4.heap.size,rfl,hsz,_,L,_,(by have h7:=HB.out.size; first | omega | (simp only [World.size_alloc]; omega)),row_new w4 [.string (bstr l),.bool true,.slice a3 L.length c3] _,HL4.out,HP4.out.grown (grown_of_below hal (some w1.heap.size)) (by rw [World.size_alloc]; omega)⟩
theorem compileC (w : World) (l : List UInt8) (hm : l.length ≤ 140737488355328) (hT : Tabs w) :
  Calls Tryz.prog 14 #[.string (bstr l)] w (CompP w l):=(compileF w l hm hT).mono (by
 rintro e w' ⟨hb,h⟩
 refine ⟨hb,?_⟩
 by_cases hbig : 256 < l.length
 ·rw [if_pos hbig] at h ⊢
  exact h
 ·rw [if_neg hbig] at h ⊢
  cases hI : itemsP (valsL l) with
  | inl b =>
   rw [hI] at h
   exact h
  | inr its =>
   rw [hI] at h
   obtain ⟨g,h1,h2,h3⟩:=h
   exact ⟨g,h1,h2,h3.is⟩)
def pat0 : List UInt8:=[91,97,45,99,93,43,92,46]
def its0 : List Itm:=[⟨91,false,[.rng 97 99],1,true⟩,⟨99,false,[.rng 46 46],1,false⟩]
theorem pat0_items : itemsP (valsL pat0) = .inr its0:=by kernel_rfl
theorem pat0_fold : foldedP (valsL pat0) = false:=by kernel_rfl
theorem pat0_match : matchP false [120,97,98,46,99] its0 1 = some 4:=by kernel_rfl
theorem pat0_find : pieceV (atsL [255,97,98,46,99]) (findP false [255,97,98,46,99] its0 0) = .tuple #[.agg #[.int .i64 1,.int .i64 4],.bool true]:=by kernel_rfl
theorem pat0_none : pieceV (atsL [97,98]) (findP false [97,98] its0 0) = .tuple #[.agg #[.int .i64 0,.int .i64 0],.bool false]:=by kernel_rfl
theorem pieceQl (w : World) (x y a b : Int) : (binOp .eql 40 (.agg #[.int .i64 x,.int .i64 y]) (.agg #[.int .i64 a,.int .i64 b])).run Tryz.prog w = .ok (.bool (x == a && y == b)) w:=by
 rw [run_eql_struct]
 by_cases h1 : x = a
 ·by_cases h2 : y = b
  ·subst h1 h2
   go_simp
  ·have q : (y == b) = false:=by simpa using h2
   subst h1
   rw [q]
   go_simp
 ·have q : (x == a) = false:=by simpa using h1
  rw [q]
  go_simp
theorem worksC (w : World) (hT : Tabs w) : Calls Tryz.prog 13 #[] w fun e w' => e = .returned (.bool true) ∧ Below w.heap.size w w':=by
 have h1 : Calls Tryz.prog 14 #[.string { data:=#[91,97,45,99,93,43,92,46] }] w fun e w' => ∃ g,e = .returned (.tuple #[.pointer (some ⟨g,0,none⟩),.nilIface]) ∧ PatIs w' g pat0 false its0 ∧ Below w.heap.size w w':=(compileC w pat0 (by decide) hT).mono (by
  rintro e w' ⟨hb,h⟩
  rw [if_neg (by decide),pat0_items,pat0_fold] at h
  obtain ⟨g,rfl,_,hp⟩:=h
  exact ⟨g,rfl,hp,hb⟩)
 have h2 : ∀ (W : World) (g : Nat),PatIs W g pat0 false its0 → Below w.heap.size w W → Calls Tryz.prog 8 #[.pointer (some ⟨g,0,none⟩),.string { data:=#[120,97,98,46,99] },.int .i64 1] W fun e w' => e = .returned (.tuple #[.int .i64 4,.bool true]) ∧ Below W.heap.size W w':=fun W g hp hb => by
  have:=matchPC W g pat0 [120,97,98,46,99] false its0 1 hp (by decide) (by decide) (hT.below hb hT.size)
  rw [pat0_match] at this
  exact this
 have h3 : ∀ (W : World) (g : Nat),PatIs W g pat0 false its0 → Below w.heap.size w W → Calls Tryz.prog 9 #[.pointer (some ⟨g,0,none⟩),.string { data:=#[255,97,98,46,99] },.int .i64 0] W fun e w' => e = .returned (.tuple #[.agg #[.int .i64 1,.int .i64 4],.bool true]) ∧ Below W.heap.size W w':=fun W g hp hb => by
  have:=findC W g pat0 [255,97,98,46,99] false its0 0 hp (by decide) (by decide) (hT.below hb hT.size)
  rw [pat0_find] at this
  exact this
 have h4 : ∀ (W : World) (g : Nat),PatIs W g pat0 false its0 → Below w.heap.size w W → Calls Tryz.prog 9 #[.pointer (some ⟨g,0,none⟩),.string { data:=#[97,98] },.int .i64 0] W fun e w' => e = .returned (.tuple #[.agg #[.int .i64 0,.int .i64 0],.bool false]) ∧ Below W.heap.size W w':=fun W g hp hb => by
  have:=findC W g pat0 [97,98] false its0 0 hp (by decide) (by decide) (hT.below hb hT.size)
  rw [pat0_none] at this
  exact this
 have pq:=fun w => pieceQl w 1 4 1 4
 have H1:=Lib.hid h1
 have H2:=Lib.hid h2
 have H3:=Lib.hid h3
 have H4:=Lib.hid h4
 clear h1 h2 h3 h4 hT
 go_enter Tryz.func13, Tryz.ntmps13
 go_wp2_with (first
  | (go_at_call 14; with_reducible refine (H1.out).mono ?_; rintro e w1 ⟨g,rfl,hp1,hb1⟩; have HP1:=Lib.hid hp1; have HB1:=Lib.hid hb1; clear hp1 hb1)
  | (go_at_call 8; with_reducible refine (H2.out _ _ HP1.out HB1.out).mono ?_; rintro e w2 ⟨rfl,hb2⟩; have HP2:=Lib.hid (HP1.out.keep hb2); have HB2:=Lib.hid (HB1.out.trans (hb2.mono HB1.out.size)); clear hb2)
  | (go_at_call 9; with_reducible refine (H3.out _ _ HP2.out HB2.out).mono ?_; rintro e w3 ⟨rfl,hb3⟩; have HP3:=Lib.hid (HP2.out.keep hb3); have HB3:=Lib.hid (HB2.out.trans (hb3.mono HB2.out.size)); clear hb3)
  | (go_at_call 9; go_loud (with_reducible refine (H4.out (w3.alloc (.cells #[.int .i64 1,.int .i64 4] 40)) _ (HP3.out.keep ((Below.refl _ w3).alloc (Nat.le_refl _) _)) (HB3.out.alloc HB3.out.size _)).mono ?_); go_loud (rintro e w4 ⟨rfl,hb4⟩); go_loud (have c0 : w4.cell? ⟨w3.heap.size,0,none⟩ = some (.int .i64 1):=(((row_new w3 [.int .i64 1,.int .i64 4] 40)).keep hb4 (by rw [World.size_alloc]; omega)).cell 0); go_loud (have c1 : w4.cell? ⟨w3.heap.size,1,none⟩ = some (.int .i64 4):=(((row_new w3 [.int .i64 1,.int .i64 4] 40)).keep hb4 (by rw [World.size_alloc]; omega)).cell 1); go_loud (have hsl : w3.heap.size < w4.heap.size:=(by have:=hb4.size; rw [World.size_alloc] at this; omega)); go_loud (have HB4:=Lib.hid ((HB3.out.alloc HB3.out.size (.cells #[.int .i64 1,.int .i64 4] 40)).trans (hb4.mono (by have:=HB3.out.size; rw [World.size_alloc]; omega)))); clear hb4))
 go_ret
 exact ⟨rfl,HB4.out.alloc HB4.out.size _⟩
end Go.Proofs.YtchdeboialbdiaaGreatDoor
