/- Texts joined, one behind the other (LSeekMeans, SNil, SNilA). -/
import Derived.Test.YtchdeboialbdiaaGreatDoorSn46
import Derived.LaidEql
import Derived.Stop.Asserts
import Derived.RowKitTokens
import Derived.Deep.RegionHeld3
namespace Go.Proofs.YtchdeboialbdiaaGreatDoor
set_option linter.unusedVariables false
set_option linter.unusedSimpArgs false
set_option maxHeartbeats 8000000
set_option maxRecDepth 100000
open Go.RowKit
open Go.Lib hiding intOf
def wantV (A : List Nat) (o : Option (Nat × Nat)) : List Value:=match o with
 | some (i,j) => [.int .i64 ((A.getD i 0 : Nat) : Int),.int .i64 ((A.getD j 0 : Nat) : Int)]
 | none => [.int .i64 0,.int .i64 0]
structure MnW (w3 W : World) (A : List Nat) (o : Option (Nat × Nat)) : Prop where
 want : Row W w3.heap.size 40 (wantV A o)
 below : Below w3.heap.size w3 W
theorem MnW.next {w3 W W' : World} {A : List Nat} {o : Option (Nat × Nat)} (h : MnW w3 W A o) (hb : Below W.heap.size W W') : MnW w3 W' A o :=
 ⟨h.want.keep hb h.want.lt,h.below.trans (hb.mono h.below.size)⟩
theorem MnW.put {w3 W : World} {A : List Nat} {i j : Nat} (h : MnW w3 W A none) : MnW w3 ((W.setCell ⟨w3.heap.size,0,none⟩ (.int .i64 ((A.getD i 0 : Nat) : Int))).setCell ⟨w3.heap.size,1,none⟩ (.int .i64 ((A.getD j 0 : Nat) : Int))) A (some (i,j)) :=
 ⟨(h.want.set 0 _).set 1 _,(h.below.setCell (p:=⟨w3.heap.size,0,none⟩) (Nat.le_refl _) _).setCell (p:=⟨w3.heap.size,1,none⟩) (Nat.le_refl _) _⟩
def FoundTo (S : List UInt8) (its : List Itm) (fr : Int) (k : Nat) : Option (Nat × Nat) → Prop
 | none => findP false S its fr = findGo false (valsL S) (atsL S) its fr ((valsL S).length + 1 - k) k
 | some p => findP false S its fr = some p
theorem found_past {S : List UInt8} {its : List Itm} {fr : Int} {k : Nat} (hk : k ≤ (valsL S).length) (h : FoundTo S its fr k none) (hl : ((atsL S).getD k 0 : Int) < fr) : FoundTo S its fr (k + 1) none:=by
 have h1 : findP false S its fr = findGo false (valsL S) (atsL S) its fr ((valsL S).length + 1 - k) k:=h
 show findP false S its fr = _
 rw [h1,show (valsL S).length + 1 - k = ((valsL S).length + 1 - (k + 1)) + 1 by omega,findGo,if_neg (by omega)]
theorem found_not {S : List UInt8} {bs : List BitN} {fr : Int} {k : Nat} (hk : k ≤ (valsL S).length) (h : FoundTo S (bs.map itB) fr k none) (hn : ∀ t,k ≤ t → t ≤ (valsL S).length → goesP (valsL S) bs k t = false) : FoundTo S (bs.map itB) fr (k + 1) none:=by
 have h1 : findP false S (bs.map itB) fr = findGo false (valsL S) (atsL S) (bs.map itB) fr ((valsL S).length + 1 - k) k:=h
 show findP false S (bs.map itB) fr = _
 rw [h1,show (valsL S).length + 1 - k = ((valsL S).length + 1 - (k + 1)) + 1 by omega,findGo,longest_not _ _ _ hk hn]
 simp
theorem found_yes {S : List UInt8} {bs : List BitN} {fr : Int} {k t : Nat} (hkt : k ≤ t) (ht : t ≤ (valsL S).length) (h : FoundTo S (bs.map itB) fr k none) (hl : ¬ ((atsL S).getD k 0 : Int) < fr) (hg : goesP (valsL S) bs k t = true) (hn : ∀ q,t + 1 ≤ q → q ≤ (valsL S).length → goesP (valsL S) bs k q = false) : findP false S (bs.map itB) fr = some (k,t):=by
 have h1 : findP false S (bs.map itB) fr = findGo false (valsL S) (atsL S) (bs.map itB) fr ((valsL S).length + 1 - k) k:=h
 rw [h1,show (valsL S).length + 1 - k = ((valsL S).length + 1 - (k + 1)) + 1 by omega,findGo,if_pos (by omega),longest_found _ _ _ _ hkt ht hg (fun q hq => hn q (by omega))]
theorem found_end {S : List UInt8} {its : List Itm} {fr : Int} (h : FoundTo S its fr ((valsL S).length + 1) none) : findP false S its fr = none:=by
 have h1 : findP false S its fr = findGo false (valsL S) (atsL S) its fr ((valsL S).length + 1 - ((valsL S).length + 1)) ((valsL S).length + 1):=h
 rw [h1,Nat.sub_self,findGo]
theorem seekMeans_walk (w : World) (aR : Option Addr) (nR cR : Nat) (X : List RawB) (hX : ReadsRaw w aR nR X) (hnc : nR ≤ cR) (hcm : cR ≤ maxLen) (s : List UInt8) (hs : s.length ≤ 140737488351232) (fr : Int) (hfr : (Lit.int .i64 fr).wf = true) (hT : Tabs w) :
  Calls Tryz.prog 7 #[.slice aR nR cR,.string (bstr s),.int .i64 fr] w fun e w' => e = .returned (.bool true) ∧ Below w.heap.size w w':=by
 have hn : nR ≤ 9223372036854775807:=by unfold maxLen at hcm; omega
 have HWR : Hid (Calls Tryz.prog 24 #[.slice aR nR cR] w fun e w' => ∃ (acc : List BitN) (T : List UInt8) (a : Option Addr) (m c : Nat),e = .returned (.tuple #[.string (bstr T),.slice a m c]) ∧ T.length ≤ 100 ∧ m ≤ 20 ∧ Hid (T = writL acc ∧ acc.length = m ∧ (∀ b ∈ acc,OkBit b) ∧ ReadsBit w' a m acc) ∧ Below w.heap.size w w'):=Lib.hid ((writtenC w aR nR cR X hX hn).mono (by
  rintro e w' ⟨acc,v,rfl,h1,h2,h3,h4⟩
  obtain ⟨a,c,rfl,h5,_⟩:=h3.shape
  have h6:=writL_len acc (fun b hb => (h2 b hb).1)
  exact ⟨acc,_,a,_,c,rfl,by omega,h1,Lib.hid ⟨rfl,rfl,h2,h5⟩,h4⟩))
 have HCO : Hid (∀ (W : World) (acc : List BitN) (T : List UInt8),Tabs W → T = writL acc → (∀ b ∈ acc,OkBit b) → T.length ≤ 100 → Calls Tryz.prog 14 #[.string (bstr T)] W fun e w' => ∃ g,e = .returned (.tuple #[.pointer (some ⟨g,0,none⟩),.nilIface]) ∧ PatFrom W.heap.size w' g T false (acc.map itB) ∧ Below W.heap.size W w'):=Lib.hid (fun W acc T h1 h2 h3 h4 => (compileF W T (by omega) h1).mono (by
  rintro e w' ⟨hb,h⟩
  obtain ⟨h5,h6⟩:=writ_items acc (fun b hb => (h3 b hb).1)
  rw [← h2] at h5 h6
  rw [if_neg (by omega),h5,h6] at h
  obtain ⟨g,h7,_,h8⟩:=h
  exact ⟨g,h7,h8,hb⟩))
 obtain ⟨S,hS⟩ : ∃ S,s.take 100 = S:=⟨_,rfl⟩
 have hSl : S.length ≤ 100:=by rw [← hS,List.length_take]; omega
 have HCUT : Hid (∀ W,Calls Tryz.prog 17 #[.string (bstr s),.int .i64 100] W fun e w' => e = .returned (.string (bstr S)) ∧ w' = W):=Lib.hid (fun W => by rw [← hS]; exact cutC W s 100 (by decide))
 have hvl:=vals_len S
 obtain ⟨N,hN⟩ : ∃ N,(valsL S).length = N:=⟨_,rfl⟩
 have hNl : N ≤ 100:=by omega
 have HCH : Hid (∀ W,Calls Tryz.prog 25 #[.string (bstr S)] W fun e w' => ∃ (a : Option Addr) (c : Nat),e = .returned (.slice a N c) ∧ Hid (ReadsCh w' a N (charsW S)) ∧ Below W.heap.size W w'):=Lib.hid (fun W => (charsR6 W S (by omega)).mono (by
  rintro e w' ⟨v,rfl,h1,h2⟩
  obtain ⟨a,c,rfl,h3,_⟩:=h1.shape
  rw [charsW_len,hN] at h3 ⊢
  exact ⟨a,c,rfl,Lib.hid h3,h2⟩))
 obtain ⟨A,hA⟩ : ∃ A,atsL S = A:=⟨_,rfl⟩
 have HN:=Lib.hid hN
 have HA:=Lib.hid hA
 have HT:=Lib.hid hT
 clear hS hX hT hN hA hvl
 go_enter Tryz.func7, Tryz.ntmps7
 go_wp2_with (first
  | (go_at_call 24; refine (HWR.out).mono ?_; rintro e w1 ⟨acc,T,aB,m,cB,rfl,hT1,hm,HW1,hb1⟩; have HB1:=Lib.hid hb1; clear hb1)
  | (go_at_call 14; refine (HCO.out w1 acc T (HT.out.next HB1.out) HW1.out.1 HW1.out.2.2.1 hT1).mono ?_; rintro e w2 ⟨g,rfl,hp,hb2⟩; have HP2:=Lib.hid hp; have HB2:=Lib.hid hb2; clear hp hb2)
  | (go_at_call 17; refine (HCUT.out _).mono ?_; rintro e wc ⟨rfl,hwc⟩; obtain rfl:=hwc.symm)
  | (go_at_call 25; refine (HCH.out _).mono ?_; rintro e w3 ⟨aC,cC,rfl,HC3,hb3⟩; have HB3:=Lib.hid hb3; clear hb3))
 have HBIT : Hid (∀ W,Below w3.heap.size w3 W → ReadsBit W aB m acc):=Lib.hid (fun W hb => ((HW1.out.2.2.2.keep HB2.out (Nat.le_refl _)).keep HB3.out (Nat.le_refl _)).keep hb (Nat.le_refl _))
 have HPAT : Hid (∀ W,Below w3.heap.size w3 W → PatIs W g T false (acc.map itB)):=Lib.hid (fun W hb => (HP2.out.is.keep HB3.out).keep hb)
 have HTB : Hid (∀ W,Below w3.heap.size w3 W → Tabs W ∧ Below w.heap.size w W):=Lib.hid (fun W hb => by
  have h1:=HB1.out.trans (HB2.out.mono HB1.out.size)
  have h2:=h1.trans (HB3.out.mono h1.size)
  have h3:=h2.trans (hb.mono h2.size)
  exact ⟨HT.out.next h3,h3⟩)
 have HPL : Hid (∀ W,Below w3.heap.size w3 W → ∀ k : Nat,k ≤ N → Calls Tryz.prog 26 #[.string (bstr S),.slice aC N cC,.int .i64 (k : Int)] W fun e w' => e = .returned (.int .i64 ((A.getD k 0 : Nat) : Int)) ∧ w' = W):=Lib.hid (fun W hb k hk => by
  have h1:=placeC W S aC N cC k (charsW S) (HC3.out.keep hb (Nat.le_refl _)) hk (by omega) (by omega)
  have h2:=place_ats S k (by rw [charsW_len,HN.out]; exact hk)
  rw [charsW_len,HN.out,HA.out] at h2
  rw [h2] at h1
  exact h1)
 have HGO : Hid (∀ W,Below w3.heap.size w3 W → ∀ k t : Nat,k ≤ t → t ≤ N → Calls Tryz.prog 27 #[.slice aB m cB,.slice aC N cC,.int .i64 (k : Int),.int .i64 (t : Int)] W fun e w' => e = .returned (.bool (goesP (valsL S) acc k t)) ∧ Below W.heap.size W w'):=Lib.hid (fun W hb k t hk ht => by
  have h1:=goesC W acc (valsL S) (charsW S) aB m cB aC N cC k (t - k) (HBIT.out W hb) (HC3.out.keep hb (Nat.le_refl _)) (charsW_vals S) (fun p hp => by
    have h2 : p.1 ∈ valsL S:=by rw [← charsW_vals]; exact List.mem_map_of_mem hp
    rcases vals_ok S _ h2 with ⟨h,_⟩ | h
    ·exact Or.inl h
    ·exact Or.inr h) (fun b hb => by
    obtain ⟨⟨h2,_⟩,h3⟩:=HW1.out.2.2.1 b hb
    exact ⟨h2,h3⟩) (by omega) (by omega) (by omega)
  rw [show k + (t - k) = t by omega] at h1
  exact h1)
 have HIL : Hid ((acc.map itB).length ≤ 20):=Lib.hid (by rw [List.length_map,HW1.out.2.1]; exact hm)
 have HFD : Hid (∀ W,Below w3.heap.size w3 W → Calls Tryz.prog 9 #[.pointer (some ⟨g,0,none⟩),.string (bstr S),.int .i64 fr] W fun e w' => e = .returned (pieceV A (findP false S (acc.map itB) fr)) ∧ Below W.heap.size W w'):=Lib.hid (fun W hb => by
  have:=findC W g T S false (acc.map itB) fr (HPAT.out W hb) (by omega) (by have:=HIL.out; omega) (HTB.out W hb).1
  rw [HA.out] at this
  exact this)
 have HM0 : Hid (MnW w3 (w3.alloc (.cells #[.int .i64 0,.int .i64 0] 40)) A none):=Lib.hid ⟨row_new w3 [.int .i64 0,.int .i64 0] _,(Below.refl _ w3).alloc (Nat.le_refl _) _⟩
 have HF0 : Hid (FoundTo S (acc.map itB) fr 0 none):=Lib.hid rfl
 clear hm hT1
 go_loopw [13,14] (fun us uk wr => ∃ (o : Option (Nat × Nat)) (k : Nat),us = .bool o.isSome ∧ uk = .int .i64 (k : Int) ∧ k ≤ N + 1 ∧ Hid (MnW w3 wr A o ∧ FoundTo S (acc.map itB) fr k o)) (fun us uk _ => N + 2 - (RowKit.intOf uk).toNat)
 case atStart => exact ⟨none,0,rfl,rfl,Nat.zero_le _,Lib.hid ⟨HM0.out,HF0.out⟩⟩
 case round =>
  clear HM0 HF0
  obtain ⟨o,k,rfl,rfl,hk,HR⟩:=hrel
  have wl:=HR.out.1.want.lt
  cases o with
  | none =>
   by_cases hlt : k ≤ N
   ·have hki : (k : Int) ≤ (N : Int):=by omega
    obtain ⟨y,hy⟩ : ∃ y : Int,((A.getD k 0 : Nat) : Int) = y:=⟨_,rfl⟩
    have HY:=Lib.hid hy
    have HPK : Hid (∀ W,Below w3.heap.size w3 W → Calls Tryz.prog 26 #[.string (bstr S),.slice aC N cC,.int .i64 (k : Int)] W fun e w' => e = .returned (.int .i64 y) ∧ w' = W):=Lib.hid (fun W hb => by rw [← hy]; exact HPL.out W hb k hlt)
    clear hy
    by_cases hfr : y < fr
    ·have HNX : Hid (MnW w3 wr A none ∧ FoundTo S (acc.map itB) fr (k + 1) none):=Lib.hid ⟨HR.out.1,found_past (by rw [HN.out]; exact hlt) HR.out.2 (by rw [HA.out,HY.out]; exact hfr)⟩
     go_wp2_with (go_at_call 26; refine (HPK.out _ HR.out.1.below).mono ?_; rintro e wp ⟨rfl,hwp⟩; obtain rfl:=hwp.symm)
     go_roundw
     case rel => exact ⟨none,k + 1,rfl,by go_num,by omega,HNX⟩
     case measure => simp [RowKit.intOf]; omega
    ·have HFR : Hid (¬ ((atsL S).getD k 0 : Int) < fr):=Lib.hid (by rw [HA.out,HY.out]; exact hfr)
     have HG0 : Hid (∀ t,N + 1 ≤ t → t ≤ N → goesP (valsL S) acc k t = false):=Lib.hid (fun t h1 h2 => by omega)
     go_wp2_with (go_at_call 26; refine (HPK.out _ HR.out.1.below).mono ?_; rintro e wp ⟨rfl,hwp⟩; obtain rfl:=hwp.symm)
     go_loopw [13,15] (fun us uj wr => ∃ (o : Option (Nat × Nat)) (q : Nat),us = .bool o.isSome ∧ uj = .int .i64 ((q : Int) - 1) ∧ k ≤ q ∧ q ≤ N + 1 ∧ Hid (MnW w3 wr A o ∧ (match o with | none => ∀ t,q ≤ t → t ≤ N → goesP (valsL S) acc k t = false | some p => findP false S (acc.map itB) fr = some p))) (fun us uj _ => (RowKit.intOf uj + 1).toNat)
     case atStart => exact ⟨none,N + 1,rfl,by rw [show (((N + 1 : Nat) : Int)) - 1 = (N : Int) by omega],by omega,Nat.le_refl _,Lib.hid ⟨HR.out.1,HG0.out⟩⟩
     case round =>
      obtain ⟨o2,q,rfl,rfl,hkq,hqN,HQ⟩:=hrel
      cases o2 with
      | none =>
       by_cases hqk : q = k
       ·subst hqk
        have hne : ¬ (q : Int) ≤ (q : Int) - 1:=by omega
        have HNX : Hid (MnW w3 wr A none ∧ FoundTo S (acc.map itB) fr (q + 1) none):=Lib.hid ⟨HQ.out.1,found_not (by rw [HN.out]; exact hlt) HR.out.2 (by rw [HN.out]; exact HQ.out.2)⟩
        go_wp2_with fail
        go_roundw
        case rel => exact ⟨none,q + 1,rfl,by go_num,by omega,HNX⟩
        case measure => simp [RowKit.intOf]; omega
       ·obtain ⟨t,rfl⟩ : ∃ t,q = t + 1:=⟨q - 1,by omega⟩
        have htt : (((t + 1 : Nat) : Int)) - 1 = (t : Int):=by omega
        rw [htt]
        have hkt : k ≤ t:=by omega
        have htN : t ≤ N:=by omega
        have hkt2 : (k : Int) ≤ (t : Int):=by omega
        obtain ⟨gb,hgb⟩ : ∃ b,goesP (valsL S) acc k t = b:=⟨_,rfl⟩
        have hgc:=HGO.out wr HQ.out.1.below k t hkt htN
        rw [hgb] at hgc
        have HGC:=Lib.hid hgc
        have HGB:=Lib.hid hgb
        clear hgb hgc
        cases gb with
        | false =>
         go_wp2_with (go_at_call 27; refine (HGC.out).mono ?_; rintro e wg ⟨rfl,hbg⟩; have HBG:=Lib.hid hbg; clear hbg)
         have HNX : Hid (MnW w3 wg A none ∧ ∀ u,t ≤ u → u ≤ N → goesP (valsL S) acc k u = false):=Lib.hid ⟨HQ.out.1.next HBG.out,fun u h1 h2 => by
          by_cases h : u = t
          ·subst h; exact HGB.out
          ·exact HQ.out.2 u (by omega) h2⟩
         go_roundw
         case rel => exact ⟨none,t,rfl,by go_num,by omega,by omega,HNX⟩
         case measure => simp [RowKit.intOf]; try omega
        | true =>
         obtain ⟨y2,hy2⟩ : ∃ y : Int,((A.getD t 0 : Nat) : Int) = y:=⟨_,rfl⟩
         have HY2:=Lib.hid hy2
         have HPT : Hid (∀ W,Below w3.heap.size w3 W → Calls Tryz.prog 26 #[.string (bstr S),.slice aC N cC,.int .i64 (t : Int)] W fun e w' => e = .returned (.int .i64 y2) ∧ w' = W):=Lib.hid (fun W hb => by rw [← hy2]; exact HPL.out W hb t htN)
         clear hy2
         have HFO : Hid (findP false S (acc.map itB) fr = some (k,t)):=Lib.hid (found_yes hkt (by rw [HN.out]; exact htN) HR.out.2 (by have:=HFR.out; omega) HGB.out (by rw [HN.out]; exact HQ.out.2))
         have hmn : k ≠ t ∨ k = t:=by omega
         go_wp2_with (first
          | (go_at_call 27; refine (HGC.out).mono ?_; rintro e wg ⟨rfl,hbg⟩; have h5:=HQ.out.1.next hbg; have v0 : wg.cell? ⟨w3.heap.size,0,none⟩ = some (.int .i64 0):=h5.want.cell 0; have v1 : wg.cell? ⟨w3.heap.size,1,none⟩ = some (.int .i64 0):=h5.want.cell 1; have v2:=h5.want.lt; have v3:=h5.want.frozen 0; have v4:=h5.want.frozen 1; have HWG:=Lib.hid h5; clear hbg h5)
          | (go_at_call 26; (with_reducible refine (HPK.out _ HWG.out.below).mono ?_); rintro e wp ⟨rfl,hwp⟩; obtain rfl:=hwp.symm)
          | (go_at_call 26; (with_reducible refine (HPT.out _ HWG.out.below).mono ?_); rintro e wp ⟨rfl,hwp⟩; obtain rfl:=hwp.symm))
         have HNX : Hid (MnW w3 ((wg.setCell ⟨w3.heap.size,0,none⟩ (.int .i64 y)).setCell ⟨w3.heap.size,1,none⟩ (.int .i64 y2)) A (some (k,t)) ∧ findP false S (acc.map itB) fr = some (k,t)):=Lib.hid ⟨by rw [← HY.out,← HY2.out]; exact HWG.out.put,HFO.out⟩
         go_roundw
         case rel => exact ⟨some (k,t),t,rfl,by go_num,by omega,by omega,HNX⟩
         case measure => simp [RowKit.intOf]; try omega
      | some p =>
       have HNX : Hid (MnW w3 wr A (some p) ∧ FoundTo S (acc.map itB) fr (k + 1) (some p)):=Lib.hid ⟨HQ.out.1,HQ.out.2⟩
       by_cases hqk : q = k
       ·subst hqk
        have hne : ¬ (q : Int) ≤ (q : Int) - 1:=by omega
        go_wp2_with fail
        go_roundw
        case rel => exact ⟨some p,q + 1,rfl,by go_num,by omega,HNX⟩
        case measure => simp [RowKit.intOf]; omega
       ·have hne : (k : Int) ≤ (q : Int) - 1:=by omega
        go_wp2_with fail
        go_roundw
        case rel => exact ⟨some p,k + 1,rfl,by go_num,by omega,HNX⟩
        case measure => simp [RowKit.intOf]; omega
   ·obtain rfl : k = N + 1:=by omega
    have hki : ¬ ((N : Int) + 1) ≤ (N : Int):=by omega
    have HFI : Hid (findP false S (acc.map itB) fr = none):=Lib.hid (found_end (by rw [HN.out]; exact HR.out.2))
    have hwv : wantV A none = [.int .i64 0,.int .i64 0]:=rfl
    have hpv : pieceV A none = .tuple #[.agg #[.int .i64 0,.int .i64 0],.bool false]:=rfl
    have hfd:=HFD.out
    rw [HFI.out,hpv] at hfd
    have HFC:=Lib.hid hfd
    have HWV:=Lib.hid hwv
    have e1 : ((0 : Int) == 0) = true:=by simp
    clear hwv hpv hfd
    go_wp2_with (first
     | (go_at_call 9; refine (HFC.out wr HR.out.1.below).mono ?_; rintro e w7 ⟨rfl,hb7⟩; have h7:=HR.out.1.next hb7; have ha : Below w7.heap.size w7 (w7.alloc (.cells #[.int .i64 0,.int .i64 0] 40)):=(Below.refl _ w7).alloc (Nat.le_refl _) _; have h8:=h7.next ha; have v0 : (w7.alloc (.cells #[.int .i64 0,.int .i64 0] 40)).cell? ⟨w3.heap.size,0,none⟩ = some (.int .i64 0):=(h8.want.cell 0).trans (by rw [HWV.out]; rfl); have v1 : (w7.alloc (.cells #[.int .i64 0,.int .i64 0] 40)).cell? ⟨w3.heap.size,1,none⟩ = some (.int .i64 0):=(h8.want.cell 1).trans (by rw [HWV.out]; rfl); have v2:=h7.want.lt; have H8:=Lib.hid h8; clear h7 h8 ha hb7)
     | (go_at_call 13; refine (worksC _ (HTB.out _ H8.out.below).1).mono ?_; rintro e w9 ⟨rfl,hb9⟩; have HBE:=Lib.hid ((HTB.out _ H8.out.below).2.trans (hb9.mono (HTB.out _ H8.out.below).2.size)); clear hb9))
    go_ret
    exact ⟨rfl,HBE.out⟩
  | some p =>
   have HFI : Hid (findP false S (acc.map itB) fr = some p):=Lib.hid HR.out.2
   obtain ⟨pi,pj⟩:=p
   by_cases hlt : k ≤ N
   ·have hki : (k : Int) ≤ (N : Int):=by omega
    obtain ⟨x1,hx1⟩ : ∃ x : Int,((A.getD pi 0 : Nat) : Int) = x:=⟨_,rfl⟩
    obtain ⟨x2,hx2⟩ : ∃ x : Int,((A.getD pj 0 : Nat) : Int) = x:=⟨_,rfl⟩
    have hwv : wantV A (some (pi,pj)) = [.int .i64 x1,.int .i64 x2]:=by unfold wantV; rw [← hx1,← hx2]
    have hpv : pieceV A (some (pi,pj)) = .tuple #[.agg #[.int .i64 x1,.int .i64 x2],.bool true]:=by unfold pieceV; rw [← hx1,← hx2]
    have hfd:=HFD.out
    rw [HFI.out,hpv] at hfd
    have HFC:=Lib.hid hfd
    have HWV:=Lib.hid hwv
    have e1 : ((x1 : Int) == x1) = true:=by simp
    have e2 : ((x2 : Int) == x2) = true:=by simp
    clear hx1 hx2
    clear hwv hpv hfd
    go_wp2_with (first
     | (go_at_call 9; refine (HFC.out wr HR.out.1.below).mono ?_; rintro e w7 ⟨rfl,hb7⟩; have h7:=HR.out.1.next hb7; have ha : Below w7.heap.size w7 (w7.alloc (.cells #[.int .i64 x1,.int .i64 x2] 40)):=(Below.refl _ w7).alloc (Nat.le_refl _) _; have h8:=h7.next ha; have v0 : (w7.alloc (.cells #[.int .i64 x1,.int .i64 x2] 40)).cell? ⟨w3.heap.size,0,none⟩ = some (.int .i64 x1):=(h8.want.cell 0).trans (by rw [HWV.out]; rfl); have v1 : (w7.alloc (.cells #[.int .i64 x1,.int .i64 x2] 40)).cell? ⟨w3.heap.size,1,none⟩ = some (.int .i64 x2):=(h8.want.cell 1).trans (by rw [HWV.out]; rfl); have v2:=h7.want.lt; have H8:=Lib.hid h8; clear h7 h8 ha hb7)
     | (go_at_call 13; refine (worksC _ (HTB.out _ H8.out.below).1).mono ?_; rintro e w9 ⟨rfl,hb9⟩; have HBE:=Lib.hid ((HTB.out _ H8.out.below).2.trans (hb9.mono (HTB.out _ H8.out.below).2.size)); clear hb9))
    go_ret
    exact ⟨rfl,HBE.out⟩
   ·have hki : ¬ (k : Int) ≤ (N : Int):=by omega
    obtain ⟨x1,hx1⟩ : ∃ x : Int,((A.getD pi 0 : Nat) : Int) = x:=⟨_,rfl⟩
    obtain ⟨x2,hx2⟩ : ∃ x : Int,((A.getD pj 0 : Nat) : Int) = x:=⟨_,rfl⟩
    have hwv : wantV A (some (pi,pj)) = [.int .i64 x1,.int .i64 x2]:=by unfold wantV; rw [← hx1,← hx2]
    have hpv : pieceV A (some (pi,pj)) = .tuple #[.agg #[.int .i64 x1,.int .i64 x2],.bool true]:=by unfold pieceV; rw [← hx1,← hx2]
    have hfd:=HFD.out
    rw [HFI.out,hpv] at hfd
    have HFC:=Lib.hid hfd
    have HWV:=Lib.hid hwv
    have e1 : ((x1 : Int) == x1) = true:=by simp
    have e2 : ((x2 : Int) == x2) = true:=by simp
    clear hx1 hx2
    clear hwv hpv hfd
    go_wp2_with (first
     | (go_at_call 9; refine (HFC.out wr HR.out.1.below).mono ?_; rintro e w7 ⟨rfl,hb7⟩; have h7:=HR.out.1.next hb7; have ha : Below w7.heap.size w7 (w7.alloc (.cells #[.int .i64 x1,.int .i64 x2] 40)):=(Below.refl _ w7).alloc (Nat.le_refl _) _; have h8:=h7.next ha; have v0 : (w7.alloc (.cells #[.int .i64 x1,.int .i64 x2] 40)).cell? ⟨w3.heap.size,0,none⟩ = some (.int .i64 x1):=(h8.want.cell 0).trans (by rw [HWV.out]; rfl); have v1 : (w7.alloc (.cells #[.int .i64 x1,.int .i64 x2] 40)).cell? ⟨w3.heap.size,1,none⟩ = some (.int .i64 x2):=(h8.want.cell 1).trans (by rw [HWV.out]; rfl); have v2:=h7.want.lt; have H8:=Lib.hid h8; clear h7 h8 ha hb7)
     | (go_at_call 13; refine (worksC _ (HTB.out _ H8.out.below).1).mono ?_; rintro e w9 ⟨rfl,hb9⟩; have HBE:=Lib.hid ((HTB.out _ H8.out.below).2.trans (hb9.mono (HTB.out _ H8.out.below).2.size)); clear hb9))
    go_ret
    exact ⟨rfl,HBE.out⟩
def NoPat (w : World) (pv : Option Addr) : Prop:=pv = none ∨ ∃ g l v,pv = some ⟨g,0,none⟩ ∧ Row w g 36 [.string l,.bool false,v]
theorem matchN (w : World) (pv : Option Addr) (s : ByteArray) (z : Int) (h : NoPat w pv) :
  Calls Tryz.prog 8 #[.pointer pv,.string s,.int .i64 z] w fun e w' => e = .returned (.tuple #[.int .i64 0,.bool false]) ∧ Below w.heap.size w w':=by
 rcases h with rfl | ⟨g,l,v,rfl,hr⟩
 ·go_enter Tryz.func8, Tryz.ntmps8
  go_wp2
  go_ret2
  exact ⟨rfl,Below.refl _ _⟩
 ·have c1:=hr.cell 1
  have c2:=hr.lt
  clear hr
  go_enter Tryz.func8, Tryz.ntmps8
  go_wp2
  go_ret2
  exact ⟨rfl,Below.refl _ _⟩
theorem textN (w : World) (pv : Option Addr) (h : NoPat w pv) (hs : ∀ g,pv = some g → w.cell? ⟨g.block,0,none⟩ = some (.string { data:=#[] })) :
  Calls Tryz.prog 12 #[.pointer pv] w fun e w' => e = .returned (.string { data:=#[] }) ∧ Below w.heap.size w w':=by
 rcases h with rfl | ⟨g,l,v,rfl,hr⟩
 ·go_enter Tryz.func12, Tryz.ntmps12
  go_wp2
  go_ret
  exact ⟨rfl,Below.refl _ _⟩
 ·have c0:=hs _ rfl
  have c2:=hr.lt
  clear hr hs
  go_enter Tryz.func12, Tryz.ntmps12
  go_wp2
  go_ret
  exact ⟨rfl,Below.refl _ _⟩
theorem findN (w : World) (pv : Option Addr) (s : ByteArray) (z : Int) (h : NoPat w pv) :
  Calls Tryz.prog 9 #[.pointer pv,.string s,.int .i64 z] w fun e w' => e = .returned (.tuple #[.agg #[.int .i64 0,.int .i64 0],.bool false]) ∧ Below w.heap.size w w':=by
 have hb0 : Below w.heap.size w (w.alloc (.cells #[.int .i64 0,.int .i64 0] 40)):=(Below.refl _ w).alloc (Nat.le_refl _) _
 have hrow0 : Row (w.alloc (.cells #[.int .i64 0,.int .i64 0] 40)) w.heap.size 40 [.int .i64 0,.int .i64 0]:=row_new w [.int .i64 0,.int .i64 0] _
 have HB:=Lib.hid hb0
 have HR:=Lib.hid hrow0
 clear hb0 hrow0
 rcases h with rfl | ⟨g,l,v,rfl,hr⟩
 ·go_enter Tryz.func9, Tryz.ntmps9
  go_wp2
  refine bodyPost_ret (results_row_one rfl _ _ w.heap.size 40 #[.int .i64 0,.int .i64 0] (0,0) _ _ rfl rfl HR.out Tryz.underlying40 rfl (by kernel_rfl)) rfl ?_
  exact ⟨rfl,HB.out⟩
 ·have c1:=hr.cell 1
  have c2:=hr.lt
  clear hr
  go_enter Tryz.func9, Tryz.ntmps9
  go_wp2
  refine bodyPost_ret (results_row_one rfl _ _ w.heap.size 40 #[.int .i64 0,.int .i64 0] (0,0) _ _ rfl rfl HR.out Tryz.underlying40 rfl (by kernel_rfl)) rfl ?_
  exact ⟨rfl,HB.out⟩
theorem lastN (w : World) (pv : Option Addr) (s : ByteArray) (z : Int) (h : NoPat w pv) :
  Calls Tryz.prog 10 #[.pointer pv,.string s,.int .i64 z] w fun e w' => e = .returned (.tuple #[.agg #[.int .i64 0,.int .i64 0],.bool false]) ∧ Below w.heap.size w w':=by
 have hb0 : Below w.heap.size w (w.alloc (.cells #[.int .i64 0,.int .i64 0] 40)):=(Below.refl _ w).alloc (Nat.le_refl _) _
 have hrow0 : Row (w.alloc (.cells #[.int .i64 0,.int .i64 0] 40)) w.heap.size 40 [.int .i64 0,.int .i64 0]:=row_new w [.int .i64 0,.int .i64 0] _
 have HB:=Lib.hid hb0
 have HR:=Lib.hid hrow0
 clear hb0 hrow0
 rcases h with rfl | ⟨g,l,v,rfl,hr⟩
 ·go_enter Tryz.func10, Tryz.ntmps10
  go_wp2
  refine bodyPost_ret (results_row_one rfl _ _ w.heap.size 40 #[.int .i64 0,.int .i64 0] (0,0) _ _ rfl rfl HR.out Tryz.underlying40 rfl (by kernel_rfl)) rfl ?_
  exact ⟨rfl,HB.out⟩
 ·have c1:=hr.cell 1
  have c2:=hr.lt
  clear hr
  go_enter Tryz.func10, Tryz.ntmps10
  go_wp2
  refine bodyPost_ret (results_row_one rfl _ _ w.heap.size 40 #[.int .i64 0,.int .i64 0] (0,0) _ _ rfl rfl HR.out Tryz.underlying40 rfl (by kernel_rfl)) rfl ?_
  exact ⟨rfl,HB.out⟩
end Go.Proofs.YtchdeboialbdiaaGreatDoor
namespace Go.Proofs.YtchdeboialbdiaaGreatDoor
set_option linter.unusedVariables false
set_option linter.unusedSimpArgs false
set_option maxHeartbeats 8000000
set_option maxRecDepth 100000
open Go.RowKit Go.Shelf
open Go.Lib hiding intOf
attribute [local go_sem] Oper.semAt_some
attribute [local go_sem] Exit.noGoto
def NoAl (bp : Nat) (pv : Option Addr) (W : World) : Prop:=NoPat W pv ∧ Row W bp 33 [.pointer pv]
theorem allN1 (m : Nat) (hm : 8 ≤ m) (K : Nat → Prop) (w0 : World) (bp bs : Nat) (pv : Option Addr) (A : List Nat) (hK : Stays K w0 (NoAl bp pv)) :
  SeqC Fence.wide m Tryz.prog 31 #[.pointer (some ⟨bp,0,none⟩),.pointer (some ⟨bs,0,none⟩)] (pieceA A) K w0 (fun xs => xs = []) (fun pre => False):=by
 intro l0 J Jx W hW hn0 hJ hJx hY h0
 obtain ⟨hN,hB⟩:=hK W (fun r hr => (hW r hr).2) hn0
 have p0:=hB.cell 0
 have pl:=hB.lt
 have hs : W.heap.size ≤ W.heap.size:=Nat.le_refl _
 have HJ:=Lib.hid (fun W' (hg : W.grownBy W' none) => hJ W.heap.size [] W W' none (h0 W.heap.size hs) hg (fun r e => by cases e))
 clear hW hJ hJx hY h0 hK hB hn0
 rcases hN with rfl | ⟨g,l,v,rfl,hr⟩
 ·refine callsIn_of_wp_marks Tryz.func31 rfl trivial ?_ rfl
  simp only [Tryz.ntmps31,List.size_toArray,List.length_cons,List.length_nil,Nat.reduceAdd,Nat.reduceSub,Array.replicate_succ,Array.replicate_zero,List.push_toArray,List.append_toArray,List.nil_append,List.cons_append]
  gi_wp2
  refine ⟨_,results_none rfl _ _ _,⟨_,rfl⟩,W.heap.size,hs,.inl ⟨_,rfl,HJ.out _ (World.grownBy_alloc W _ none)⟩⟩
 ·have c1:=hr.cell 1
  have c2:=hr.lt
  clear hr
  refine callsIn_of_wp_marks Tryz.func31 rfl trivial ?_ rfl
  simp only [Tryz.ntmps31,List.size_toArray,List.length_cons,List.length_nil,Nat.reduceAdd,Nat.reduceSub,Array.replicate_succ,Array.replicate_zero,List.push_toArray,List.append_toArray,List.nil_append,List.cons_append]
  gi_wp2
  refine ⟨_,results_none rfl _ _ _,⟨_,rfl⟩,W.heap.size,hs,.inl ⟨_,rfl,HJ.out _ (World.grownBy_alloc W _ none)⟩⟩
end Go.Proofs.YtchdeboialbdiaaGreatDoor
