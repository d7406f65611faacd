/- Texts joined, one behind the other (SFirP, SekP, SSep, SGen). -/
import Derived.Test.YtchdeboialbdiaaGreatDoorSn03
import Derived.ArgAppend
import Derived.Deep.DeepCutAuto
import Derived.Deep.CutBlock
import Derived.Deep.RegionHeld3
import Derived.BigRegion
namespace Go.Proofs.YtchdeboialbdiaaGreatDoor
set_option linter.unusedVariables false
set_option linter.unusedSimpArgs false
set_option maxHeartbeats 8000000
set_option maxRecDepth 100000
open Go.Lib
def seqN (n : Nat) : List Nat :=
 if n < 128 then [n] else if n < 2048 then [192 + n / 64,128 + n % 64] else if n < 65536 then [224 + n / 4096,128 + n / 64 % 64,128 + n % 64] else [240 + n / 262144,128 + n / 4096 % 64,128 + n / 64 % 64,128 + n % 64]
def mayI (r : Int) : Bool:=decide (0 ≤ r) && decide (r ≤ 1114111) && (decide (r < 55296) || decide (57343 < r))
def bN (l : List UInt8) (i : Nat) : Nat:=(l.getD i 0).toNat
def numI (l : List UInt8) (w : Nat) : Int :=
 if w = 1 then bN l 0 else if w = 2 then ((bN l 0 : Int) - 192) * 64 + bN l 1 % 64 else if w = 3 then (((bN l 0 : Int) - 224) * 64 + bN l 1 % 64) * 64 + bN l 2 % 64 else ((((bN l 0 : Int) - 240) * 64 + bN l 1 % 64) * 64 + bN l 2 % 64) * 64 + bN l 3 % 64
def begN (l : List UInt8) (s : List Nat) : Bool:=decide (s.length ≤ l.length) && (List.range s.length).all fun i => decide (bN l i = s.getD i 0)
def condW (l : List UInt8) (w : Nat) : Bool:=mayI (numI l w) && begN l (seqN (numI l w).toNat) && decide ((seqN (numI l w).toNat).length = w)
def firstGo (l : List UInt8) : Nat → Nat → Int × Nat × Bool
 | 0,_ => (65533,1,false)
 | f + 1,w => if w ≤ 4 ∧ w ≤ l.length then (if condW l w = true then (numI l w,w,true) else firstGo l f (w + 1)) else (65533,1,false)
def firstR (l : List UInt8) : Int × Nat × Bool:=firstGo l 4 1
theorem bN_lt (l : List UInt8) (i : Nat) : bN l i < 256:=UInt8.toNat_lt _
theorem cond1 (l : List UInt8) (h : 1 ≤ l.length) : condW l 1 = decide (bN l 0 < 128):=by
 have b0:=bN_lt l 0
 have hn : numI l 1 = (bN l 0 : Int):=rfl
 unfold condW
 rw [hn,Int.toNat_natCast]
 by_cases h1 : bN l 0 < 128
 ·have hs : seqN (bN l 0) = [bN l 0]:=by unfold seqN; rw [if_pos h1]
  rw [hs]
  simp [mayI,begN,h1,h]
  omega
 ·have hs : (seqN (bN l 0)).length ≠ 1:=by
   unfold seqN
   rw [if_neg h1]
   repeat' split
   all_goals simp
  simp [hs,h1]
theorem cond2 (l : List UInt8) (h : 2 ≤ l.length) (h0 : ¬ bN l 0 < 128) : condW l 2 = decide (bN l 0 / 32 = 6 ∧ bN l 1 / 64 = 2 ∧ 128 ≤ (bN l 0 % 32) * 64 + bN l 1 % 64):=by
 have b0:=bN_lt l 0
 have b1:=bN_lt l 1
 have hn : numI l 2 = ((bN l 0 : Int) - 192) * 64 + bN l 1 % 64:=rfl
 rw [Bool.eq_iff_iff,decide_eq_true_iff]
 unfold condW
 rw [hn]
 constructor
 ·intro hc
  simp only [Bool.and_eq_true,decide_eq_true_iff,mayI,Bool.or_eq_true] at hc
  obtain ⟨⟨⟨⟨m1,m2⟩,m3⟩,hb⟩,hl⟩:=hc
  obtain ⟨n,hN⟩ : ∃ n : Nat,((bN l 0 : Int) - 192) * 64 + bN l 1 % 64 = n:=⟨(((bN l 0 : Int) - 192) * 64 + bN l 1 % 64).toNat,by omega⟩
  rw [hN,Int.toNat_natCast] at hb hl
  unfold seqN at hb hl
  split at hl
  ·simp at hl
  ·split at hl
   ·rename_i q1 q2
    rw [if_neg q1,if_pos q2] at hb
    simp [begN,List.range_succ] at hb
    omega
   ·split at hl <;> simp at hl
 ·rintro ⟨c1,c2,c3⟩
  have hN : ((bN l 0 : Int) - 192) * 64 + bN l 1 % 64 = (((bN l 0 % 32) * 64 + bN l 1 % 64 : Nat) : Int):=by omega
  rw [hN,Int.toNat_natCast]
  obtain ⟨n,hn2⟩ : ∃ n,n = (bN l 0 % 32) * 64 + bN l 1 % 64:=⟨_,rfl⟩
  rw [← hn2] at c3 ⊢
  have hs : seqN n = [192 + n / 64,128 + n % 64]:=by unfold seqN; rw [if_neg (by omega),if_pos (by omega)]
  rw [hs]
  simp [mayI,begN,List.range_succ]
  omega
theorem cond3 (l : List UInt8) (h : 3 ≤ l.length) (h0 : ¬ bN l 0 < 128) : condW l 3 = decide (bN l 0 / 16 = 14 ∧ bN l 1 / 64 = 2 ∧ bN l 2 / 64 = 2 ∧ 2048 ≤ (bN l 0 % 16) * 4096 + (bN l 1 % 64) * 64 + bN l 2 % 64 ∧ ¬ (55296 ≤ (bN l 0 % 16) * 4096 + (bN l 1 % 64) * 64 + bN l 2 % 64 ∧ (bN l 0 % 16) * 4096 + (bN l 1 % 64) * 64 + bN l 2 % 64 ≤ 57343)):=by
 have b0:=bN_lt l 0
 have b1:=bN_lt l 1
 have b2:=bN_lt l 2
 have hn : numI l 3 = (((bN l 0 : Int) - 224) * 64 + bN l 1 % 64) * 64 + bN l 2 % 64:=rfl
 rw [Bool.eq_iff_iff,decide_eq_true_iff]
 unfold condW
 rw [hn]
 constructor
 ·intro hc
  simp only [Bool.and_eq_true,decide_eq_true_iff,mayI,Bool.or_eq_true] at hc
  obtain ⟨⟨⟨⟨m1,m2⟩,m3⟩,hb⟩,hl⟩:=hc
  obtain ⟨n,hN⟩ : ∃ n : Nat,(((bN l 0 : Int) - 224) * 64 + bN l 1 % 64) * 64 + bN l 2 % 64 = n:=⟨((((bN l 0 : Int) - 224) * 64 + bN l 1 % 64) * 64 + bN l 2 % 64).toNat,by omega⟩
  rw [hN,Int.toNat_natCast] at hb hl
  unfold seqN at hb hl
  split at hl
  ·simp at hl
  ·split at hl
   ·simp at hl
   ·split at hl
    ·rename_i q1 q2 q3
     rw [if_neg q1,if_neg q2,if_pos q3] at hb
     simp [begN,List.range_succ] at hb
     omega
    ·simp at hl
 ·rintro ⟨c1,c2,c3,c4,c5⟩
  have hN : (((bN l 0 : Int) - 224) * 64 + bN l 1 % 64) * 64 + bN l 2 % 64 = (((bN l 0 % 16) * 4096 + (bN l 1 % 64) * 64 + bN l 2 % 64 : Nat) : Int):=by omega
  rw [hN,Int.toNat_natCast]
  obtain ⟨n,hn2⟩ : ∃ n,n = (bN l 0 % 16) * 4096 + (bN l 1 % 64) * 64 + bN l 2 % 64:=⟨_,rfl⟩
  rw [← hn2] at c4 c5 ⊢
  have hs : seqN n = [224 + n / 4096,128 + n / 64 % 64,128 + n % 64]:=by unfold seqN; rw [if_neg (by omega),if_neg (by omega),if_pos (by omega)]
  rw [hs]
  simp [mayI,begN,List.range_succ]
  omega
theorem cond4 (l : List UInt8) (h : 4 ≤ l.length) (h0 : ¬ bN l 0 < 128) : condW l 4 = decide (bN l 0 / 8 = 30 ∧ bN l 1 / 64 = 2 ∧ bN l 2 / 64 = 2 ∧ bN l 3 / 64 = 2 ∧ 65536 ≤ (bN l 0 % 8) * 262144 + (bN l 1 % 64) * 4096 + (bN l 2 % 64) * 64 + bN l 3 % 64 ∧ (bN l 0 % 8) * 262144 + (bN l 1 % 64) * 4096 + (bN l 2 % 64) * 64 + bN l 3 % 64 ≤ 1114111):=by
 have b0:=bN_lt l 0
 have b1:=bN_lt l 1
 have b2:=bN_lt l 2
 have b3:=bN_lt l 3
 have hn : numI l 4 = ((((bN l 0 : Int) - 240) * 64 + bN l 1 % 64) * 64 + bN l 2 % 64) * 64 + bN l 3 % 64:=rfl
 rw [Bool.eq_iff_iff,decide_eq_true_iff]
 unfold condW
 rw [hn]
 constructor
 ·intro hc
  simp only [Bool.and_eq_true,decide_eq_true_iff,mayI,Bool.or_eq_true] at hc
  obtain ⟨⟨⟨⟨m1,m2⟩,m3⟩,hb⟩,hl⟩:=hc
  obtain ⟨n,hN⟩ : ∃ n : Nat,((((bN l 0 : Int) - 240) * 64 + bN l 1 % 64) * 64 + bN l 2 % 64) * 64 + bN l 3 % 64 = n:=⟨(((((bN l 0 : Int) - 240) * 64 + bN l 1 % 64) * 64 + bN l 2 % 64) * 64 + bN l 3 % 64).toNat,by omega⟩
  rw [hN,Int.toNat_natCast] at hb hl
  unfold seqN at hb hl
  split at hl
  ·simp at hl
  ·split at hl
   ·simp at hl
   ·split at hl
    ·simp at hl
    ·rename_i q1 q2 q3
     rw [if_neg q1,if_neg q2,if_neg q3] at hb
     simp [begN,List.range_succ] at hb
     omega
 ·rintro ⟨c1,c2,c3,c4,c5,c6⟩
  have hN : ((((bN l 0 : Int) - 240) * 64 + bN l 1 % 64) * 64 + bN l 2 % 64) * 64 + bN l 3 % 64 = (((bN l 0 % 8) * 262144 + (bN l 1 % 64) * 4096 + (bN l 2 % 64) * 64 + bN l 3 % 64 : Nat) : Int):=by omega
  rw [hN,Int.toNat_natCast]
  obtain ⟨n,hn2⟩ : ∃ n,n = (bN l 0 % 8) * 262144 + (bN l 1 % 64) * 4096 + (bN l 2 % 64) * 64 + bN l 3 % 64:=⟨_,rfl⟩
  rw [← hn2] at c5 c6 ⊢
  have hs : seqN n = [240 + n / 262144,128 + n / 4096 % 64,128 + n / 64 % 64,128 + n % 64]:=by unfold seqN; rw [if_neg (by omega),if_neg (by omega),if_neg (by omega)]
  rw [hs]
  simp [mayI,begN,List.range_succ]
  omega
theorem go1 (l : List UInt8) (h : 1 ≤ l.length) : firstR l = if condW l 1 = true then (numI l 1,1,true) else firstGo l 3 2:=by unfold firstR; rw [firstGo,if_pos ⟨by decide,h⟩]
theorem go2 (l : List UInt8) (h : 2 ≤ l.length) : firstGo l 3 2 = if condW l 2 = true then (numI l 2,2,true) else firstGo l 2 3:=by rw [firstGo,if_pos ⟨by decide,h⟩]
theorem go3 (l : List UInt8) (h : 3 ≤ l.length) : firstGo l 2 3 = if condW l 3 = true then (numI l 3,3,true) else firstGo l 1 4:=by rw [firstGo,if_pos ⟨by decide,h⟩]
theorem go4 (l : List UInt8) (h : 4 ≤ l.length) : firstGo l 1 4 = if condW l 4 = true then (numI l 4,4,true) else (65533,1,false):=by rw [firstGo,if_pos ⟨by decide,h⟩]; rfl
theorem goN (l : List UInt8) (f w : Nat) (h : l.length < w) : firstGo l f w = (65533,1,false):=by
 cases f with
 | zero => rfl
 | succ f => rw [firstGo,if_neg (by omega)]
theorem firstR_eq (l : List UInt8) (hl : l ≠ []) : firstR l = if RightD (decodeL l) then (((decodeL l).1 : Int),(decodeL l).2,true) else (65533,1,false):=by
 have h1 : 1 ≤ l.length:=List.length_pos_iff.2 hl
 have b0:=bN_lt l 0
 have b1:=bN_lt l 1
 have b2:=bN_lt l 2
 have b3:=bN_lt l 3
 have hd : decodeL l = decodeN l.length (bN l 0) (bN l 1) (bN l 2) (bN l 3):=decodeL_N l
 rw [hd,go1 l h1,cond1 l h1]
 by_cases a0 : bN l 0 < 128
 ·have e : decodeN l.length (bN l 0) (bN l 1) (bN l 2) (bN l 3) = (bN l 0,1):=by unfold decodeN; rw [if_pos a0]
  rw [e,decide_eq_true a0,if_pos rfl,if_pos (by unfold RightD; left; show bN l 0 ≠ 65533; omega)]
  rfl
 ·rw [decide_eq_false a0,if_neg (by decide)]
  by_cases p2 : 2 ≤ l.length ∧ bN l 0 / 32 = 6 ∧ bN l 1 / 64 = 2 ∧ 128 ≤ (bN l 0 % 32) * 64 + bN l 1 % 64
  ·obtain ⟨n2,q⟩:=p2
   have e : decodeN l.length (bN l 0) (bN l 1) (bN l 2) (bN l 3) = (bN l 0 % 32 * 64 + bN l 1 % 64,2):=by
    unfold decodeN
    rw [if_neg a0,if_pos ⟨q.1,by omega,q.2.1⟩,if_pos q.2.2]
   rw [e,go2 l n2,cond2 l n2 a0,decide_eq_true q,if_pos rfl,if_pos (by unfold RightD; right; show 1 < 2; decide)]
   have hn : numI l 2 = ((bN l 0 : Int) - 192) * 64 + bN l 1 % 64:=rfl
   rw [hn]
   refine Prod.ext ?_ rfl
   show ((bN l 0 : Int) - 192) * 64 + bN l 1 % 64 = ((bN l 0 % 32 * 64 + bN l 1 % 64 : Nat) : Int)
   have:=q.1
   omega
  ·have e2 : firstGo l 3 2 = firstGo l 2 3:=by
    by_cases n2 : 2 ≤ l.length
    ·rw [go2 l n2,cond2 l n2 a0,decide_eq_false (fun h => p2 ⟨n2,h⟩),if_neg (by decide)]
    ·rw [goN l 3 2 (by omega),goN l 2 3 (by omega)]
   rw [e2]
   by_cases p3 : 3 ≤ l.length ∧ bN l 0 / 16 = 14 ∧ bN l 1 / 64 = 2 ∧ bN l 2 / 64 = 2 ∧ 2048 ≤ (bN l 0 % 16) * 4096 + (bN l 1 % 64) * 64 + bN l 2 % 64 ∧ ¬ (55296 ≤ (bN l 0 % 16) * 4096 + (bN l 1 % 64) * 64 + bN l 2 % 64 ∧ (bN l 0 % 16) * 4096 + (bN l 1 % 64) * 64 + bN l 2 % 64 ≤ 57343)
   ·obtain ⟨n3,q⟩:=p3
    have e : decodeN l.length (bN l 0) (bN l 1) (bN l 2) (bN l 3) = (bN l 0 % 16 * 4096 + bN l 1 % 64 * 64 + bN l 2 % 64,3):=by
     unfold decodeN
     rw [if_neg a0,if_neg (by have:=q.1; omega),if_pos ⟨q.1,⟨by omega,q.2.1⟩,by omega,q.2.2.1⟩,if_pos (by have:=q.2.2.2; omega)]
    rw [e,go3 l n3,cond3 l n3 a0,decide_eq_true q,if_pos rfl,if_pos (by unfold RightD; right; show 1 < 3; decide)]
    have hn : numI l 3 = (((bN l 0 : Int) - 224) * 64 + bN l 1 % 64) * 64 + bN l 2 % 64:=rfl
    rw [hn]
    refine Prod.ext ?_ rfl
    show (((bN l 0 : Int) - 224) * 64 + bN l 1 % 64) * 64 + bN l 2 % 64 = ((bN l 0 % 16 * 4096 + bN l 1 % 64 * 64 + bN l 2 % 64 : Nat) : Int)
    have:=q.1
    omega
   ·have e3 : firstGo l 2 3 = firstGo l 1 4:=by
     by_cases n3 : 3 ≤ l.length
     ·rw [go3 l n3,cond3 l n3 a0,decide_eq_false (fun h => p3 ⟨n3,h⟩),if_neg (by decide)]
     ·rw [goN l 2 3 (by omega),goN l 1 4 (by omega)]
    rw [e3]
    by_cases p4 : 4 ≤ l.length ∧ bN l 0 / 8 = 30 ∧ bN l 1 / 64 = 2 ∧ bN l 2 / 64 = 2 ∧ bN l 3 / 64 = 2 ∧ 65536 ≤ (bN l 0 % 8) * 262144 + (bN l 1 % 64) * 4096 + (bN l 2 % 64) * 64 + bN l 3 % 64 ∧ (bN l 0 % 8) * 262144 + (bN l 1 % 64) * 4096 + (bN l 2 % 64) * 64 + bN l 3 % 64 ≤ 1114111
    ·obtain ⟨n4,q⟩:=p4
     have e : decodeN l.length (bN l 0) (bN l 1) (bN l 2) (bN l 3) = (bN l 0 % 8 * 262144 + bN l 1 % 64 * 4096 + bN l 2 % 64 * 64 + bN l 3 % 64,4):=by
      unfold decodeN
      rw [if_neg a0,if_neg (by have:=q.1; omega),if_neg (by have:=q.1; omega),if_pos ⟨q.1,⟨by omega,q.2.1⟩,⟨by omega,q.2.2.1⟩,by omega,q.2.2.2.1⟩,if_pos (by have:=q.2.2.2.2; omega)]
     rw [e,go4 l n4,cond4 l n4 a0,decide_eq_true q,if_pos rfl,if_pos (by unfold RightD; right; show 1 < 4; decide)]
     have hn : numI l 4 = ((((bN l 0 : Int) - 240) * 64 + bN l 1 % 64) * 64 + bN l 2 % 64) * 64 + bN l 3 % 64:=rfl
     rw [hn]
     refine Prod.ext ?_ rfl
     show ((((bN l 0 : Int) - 240) * 64 + bN l 1 % 64) * 64 + bN l 2 % 64) * 64 + bN l 3 % 64 = ((bN l 0 % 8 * 262144 + bN l 1 % 64 * 4096 + bN l 2 % 64 * 64 + bN l 3 % 64 : Nat) : Int)
     have:=q.1
     omega
    ·have e4 : firstGo l 1 4 = (65533,1,false):=by
      by_cases n4 : 4 ≤ l.length
      ·rw [go4 l n4,cond4 l n4 a0,decide_eq_false (fun h => p4 ⟨n4,h⟩),if_neg (by decide)]
      ·exact goN l 1 4 (by omega)
     have e : decodeN l.length (bN l 0) (bN l 1) (bN l 2) (bN l 3) = (65533,1):=by
      unfold decodeN
      rw [if_neg a0]
      split
      ·rename_i h
       rw [if_neg (by omega)]
      ·split
       ·rename_i h
        rw [if_neg (by omega)]
       ·split
        ·rename_i h
         rw [if_neg (by omega)]
        ·rfl
     rw [e,e4,if_neg (by unfold RightD; show ¬ ((65533 : Nat) ≠ 65533 ∨ 1 < 1); omega)]
def wrongN : Nat:=1114112
def chr1 (l : List UInt8) : Nat × Nat:=if RightD (decodeL l) then decodeL l else (wrongN + bN l 0,1)
def charsGo : Nat → List UInt8 → Nat → List (Nat × Nat)
 | 0,_,_ => []
 | f + 1,l,at_ => if l = [] then [] else ((chr1 l).1,at_) :: charsGo f (l.drop (chr1 l).2) (at_ + (chr1 l).2)
def charsL (l : List UInt8) : List (Nat × Nat):=charsGo l.length l 0
def valsL (l : List UInt8) : List Nat:=(charsL l).map Prod.fst
def atsL (l : List UInt8) : List Nat:=(charsL l).map Prod.snd ++ [l.length]
def tokR (v : Nat) : Nat:=if v < wrongN then v else 65533
def tokW (v : Nat) : Nat:=if v < wrongN then 0 else v - wrongN
def inRanges (r : Nat) : List (Nat × Nat) → Bool
 | [] => false
 | p :: l => (decide (p.1 ≤ r) && decide (r ≤ p.2)) || inRanges r l
def wordsR : List (Nat × Nat):=[(0x30,0x39),(0x41,0x5a),(0x5f,0x5f),(0x61,0x7a),(0xaa,0xaa),(0xb5,0xb5),(0xba,0xba),(0xc0,0xd6),(0xd8,0xf6),(0xf8,0x37d),(0x37f,0x386),(0x388,0x52f),(0x531,0x556),(0x561,0x587),(0x5d0,0x5ea),(0x620,0x669),(0x904,0x939),(0xe01,0xe30),(0x10a0,0x10ff),(0x1e00,0x1fff),(0x3041,0x3096),(0x30a1,0x30fa),(0x3400,0x4dbf),(0x4e00,0x9fff),(0xac00,0xd7a3),(0xf900,0xfaff),(0xff10,0xff19),(0xff21,0xff3a),(0xff41,0xff5a),(0xff66,0xff9d),(0x10400,0x1044f),(0x1d400,0x1d7ff),(0x20000,0x2fa1f)]
def blanksR : List (Nat × Nat):=[(0x9,0xd),(0x20,0x20),(0x85,0x85),(0xa0,0xa0),(0x1680,0x1680),(0x2000,0x200a),(0x2028,0x2029),(0x202f,0x202f),(0x205f,0x205f),(0x3000,0x3000)]
def wordB (r : Nat) : Bool:=inRanges r wordsR
def blankB (r : Nat) : Bool:=inRanges r blanksR
def endsB (r : Nat) : Bool:=decide (r = 10) || decide (r = 13) || decide (r = 133) || decide (r = 8232) || decide (r = 8233)
def foldsR : List (Nat × Nat × Nat × Int):=[(0x41,0x5a,1,0x20),(0xc0,0xd6,1,0x20),(0xd8,0xde,1,0x20),(0x100,0x12e,2,0x1),(0x132,0x136,2,0x1),(0x139,0x147,2,0x1),(0x14a,0x176,2,0x1),(0x178,0x178,1, -0x79),(0x179,0x17d,2,0x1),(0x17f,0x17f,1, -0x10c),(0x386,0x386,1,0x26),(0x388,0x38a,1,0x25),(0x38c,0x38c,1,0x40),(0x38e,0x38f,1,0x3f),(0x391,0x3a1,1,0x20),(0x3a3,0x3ab,1,0x20),(0x3c2,0x3c2,1,0x1),(0x3d8,0x3ee,2,0x1),(0x400,0x40f,1,0x50),(0x410,0x42f,1,0x20),(0x460,0x480,2,0x1),(0x48a,0x4be,2,0x1),(0x4c1,0x4cd,2,0x1),(0x4d0,0x52e,2,0x1),(0x531,0x556,1,0x30),(0x1e00,0x1e94,2,0x1),(0x1e9e,0x1e9e,1, -0x1dbf),(0x1ea0,0x1efe,2,0x1),(0x2126,0x2126,1, -0x1d5d),(0x212a,0x212a,1, -0x20bf),(0x212b,0x212b,1, -0x2046),(0x2160,0x216f,1,0x10),(0x24b6,0x24cf,1,0x1a),(0xff21,0xff3a,1,0x20),(0x10400,0x10427,1,0x28)]
def foldGo (r : Nat) : List (Nat × Nat × Nat × Int) → Nat
 | [] => r
 | (a,b,m,d) :: l => if a ≤ r ∧ r ≤ b ∧ (r - a) % m = 0 then ((r : Int) + d).toNat else foldGo r l
def foldN (r : Nat) : Nat:=foldGo r foldsR
inductive El where
 | kind (k : Nat)
 | rng (lo hi : Nat)
def elHas : El → Nat → Bool
 | .kind k,v => if k = 119 then decide (v < wrongN) && wordB v else if k = 87 then !(decide (v < wrongN) && wordB v) else if k = 115 then decide (v < wrongN) && blankB v else !(decide (v < wrongN) && blankB v)
 | .rng lo hi,v => decide (lo ≤ v) && decide (v ≤ hi)
structure Itm where
 what : Nat
 neg : Bool
 els : List El
 least : Nat
 many : Bool
def hasV (els : List El) (v : Nat) : Bool:=els.any fun e => elHas e v
def atomIs (folded : Bool) (it : Itm) (v : Nat) : Bool :=
 if it.what = 46 then !(decide (v < wrongN) && endsB v)
 else if it.what = 91 then (hasV it.els v || (folded && decide (v < wrongN) && hasV it.els (foldN v))) != it.neg
 else match it.els with
  | [.rng lo hi] => if folded = true ∧ lo < wrongN then decide (v < wrongN) && decide (foldN v = foldN lo) else elHas (.rng lo hi) v
  | e :: _ => elHas e v
  | [] => false
def markN (v : Nat) : Bool:=(decide (33 ≤ v) && decide (v ≤ 47)) || (decide (58 ≤ v) && decide (v ≤ 64)) || (decide (91 ≤ v) && decide (v ≤ 96)) || (decide (123 ≤ v) && decide (v ≤ 126))
def digN (v : Nat) : Option Nat:=if 48 ≤ v ∧ v ≤ 57 then some (v - 48) else if 97 ≤ v ∧ v ≤ 102 then some (v - 97 + 10) else if 65 ≤ v ∧ v ≤ 70 then some (v - 65 + 10) else none
def digO (V : List Nat) (i : Nat) : Option Nat:=(V[i]?).bind digN
abbrev Got:=Nat ⊕ (Nat × Nat × Nat)
def hexP (V : List Nat) (i : Nat) : Got :=
 match digO V i with
 | none => .inl i
 | some d => match digO V (i + 1) with
  | none => .inl (i + 1)
  | some e => .inr (0,if 128 ≤ 16 * d + e then wrongN + (16 * d + e) else 16 * d + e,i + 2)
def digsGo (V : List Nat) : Nat → Nat → Nat → Nat × Nat
 | 0,k,n => (k,n)
 | f + 1,k,n => match digO V k with
  | none => (k,n)
  | some d => digsGo V f (k + 1) (16 * n + d)
def mayN (n : Nat) : Bool:=decide (n ≤ 1114111) && (decide (n < 55296) || decide (57343 < n))
def runeP (V : List Nat) (i : Nat) : Got :=
  if V[i]? = some 123 then
    (let d:=digsGo V 6 (i + 1) 0
     if d.1 = i + 1 ∨ V[d.1]? ≠ some 125 ∨ mayN d.2 = false then .inl d.1 else .inr (0,d.2,d.1 + 1))
  else .inl i
def oneP (V : List Nat) (i : Nat) : Got :=
 match V[i]? with
 | none => .inl i
 | some c =>
  if c = 92 then
   match V[i + 1]? with
   | none => .inl (i + 1)
   | some v =>
    if markN v = true then .inr (0,v,i + 2)
    else if v = 110 then .inr (0,10,i + 2)
    else if v = 114 then .inr (0,13,i + 2)
    else if v = 116 then .inr (0,9,i + 2)
    else if v = 119 ∨ v = 87 ∨ v = 115 ∨ v = 83 then .inr (v,0,i + 2)
    else if v = 120 then hexP V (i + 2)
    else if v = 117 then runeP V (i + 2)
    else .inl (i + 1)
  else .inr (0,c,i + 1)
def highP (V : List Nat) (i lo : Nat) : Nat ⊕ (Nat × Nat) :=
 if V[i]? = none ∨ V[i]? = some 45 ∨ V[i]? = some 93 then .inl i
 else match oneP V i with
  | .inl b => .inl b
  | .inr (k,v,j) => if k ≠ 0 ∨ v < lo ∨ wrongN ≤ v ∨ wrongN ≤ lo then .inl (j - 1) else .inr (v,j)
def setGo (V : List Nat) : Nat → Nat → List El → Nat ⊕ (List El × Nat)
 | 0,i,_ => .inl i
 | f + 1,i,els =>
  if V[i]? = none ∨ V[i]? = some 45 then .inl i
  else if V[i]? = some 93 then (if els = [] then .inl i else .inr (els,i + 1))
  else match oneP V i with
   | .inl b => .inl b
   | .inr (k,v,j) =>
    if k = 0 then
     (if V[j]? = some 45 then match highP V (j + 1) v with
      | .inl b => .inl b
      | .inr (hv,j2) => setGo V f j2 (els ++ [.rng v hv])
     else setGo V f j (els ++ [.rng v v]))
    else setGo V f j (els ++ [.kind k])
def setP (V : List Nat) (i : Nat) : Nat ⊕ (Bool × List El × Nat) :=
 if V[i]? = some 94 then (match setGo V V.length (i + 1) [] with | .inl b => .inl b | .inr (e,j) => .inr (true,e,j))
 else (match setGo V V.length i [] with | .inl b => .inl b | .inr (e,j) => .inr (false,e,j))
def countP (V : List Nat) (i : Nat) : Nat × Bool × Nat :=
 if V[i]? = some 42 then (0,true,i + 1) else if V[i]? = some 43 then (1,true,i + 1) else if V[i]? = some 63 then (0,false,i + 1) else (1,false,i)
def withCount (V : List Nat) (what : Nat) (neg : Bool) (els : List El) (i : Nat) : Itm × Nat:=(⟨what,neg,els,(countP V i).1,(countP V i).2.1⟩,(countP V i).2.2)
def itemP (V : List Nat) (i : Nat) : Nat ⊕ (Itm × Nat) :=
 match V[i]? with
 | none => .inl i
 | some c =>
  if c = 42 ∨ c = 43 ∨ c = 63 then .inl i
  else if c = 94 ∨ c = 36 then .inr (⟨c,false,[],1,false⟩,i + 1)
  else if c = 46 then .inr (withCount V 46 false [] (i + 1))
  else if c = 91 then (match setP V (i + 1) with | .inl b => .inl b | .inr (n,e,j) => .inr (withCount V 91 n e j))
  else match oneP V i with
   | .inl b => .inl b
   | .inr (k,v,j) => .inr (withCount V 99 false [if k = 0 then .rng v v else .kind k] j)
def itemsGo (V : List Nat) : Nat → Nat → List Itm → Nat ⊕ List Itm
 | 0,_,acc => .inr acc
 | f + 1,i,acc => if V.length ≤ i then .inr acc else match itemP V i with
  | .inl b => .inl b
  | .inr (it,j) => itemsGo V f j (acc ++ [it])
def foldedP (V : List Nat) : Bool:=decide (V[0]? = some 92 ∧ V[1]? = some 105)
def itemsP (V : List Nat) : Nat ⊕ List Itm:=itemsGo V (V.length + 1) (if foldedP V = true then 2 else 0) []
def endsAt (V : List Nat) (i : Nat) : Bool:=match V[i]? with | none => false | some v => decide (v < wrongN) && endsB v
def holdsP (V : List Nat) (what i : Nat) : Bool :=
 if what = 94 then decide (i = 0) || (endsAt V (i - 1) && !(decide (V[i - 1]? = some 13) && decide (V[i]? = some 10)))
 else decide (V.length ≤ i) || (endsAt V i && !(decide (V[i]? = some 10) && decide (0 < i) && decide (V[i - 1]? = some 13)))
def onRun (folded : Bool) (V : List Nat) (it : Itm) (S : Nat → Bool) : Nat → Bool
 | 0 => false
 | i + 1 => (S i || (onRun folded V it S i && it.many)) && (match V[i]? with | none => false | some v => atomIs folded it v)
def ledP (folded : Bool) (V : List Nat) (it : Itm) (S : Nat → Bool) (i : Nat) : Bool :=
 if it.what = 94 ∨ it.what = 36 then S i && holdsP V it.what i else onRun folded V it S i || (S i && decide (it.least = 0))
def reachP (folded : Bool) (V : List Nat) : List Itm → (Nat → Bool) → Nat → Bool
 | [],S => S
 | it :: r,S => reachP folded V r (ledP folded V it S)
def lastTrue (S : Nat → Bool) : Nat → Option Nat
 | 0 => if S 0 = true then some 0 else none
 | n + 1 => if S (n + 1) = true then some (n + 1) else lastTrue S n
def longestP (folded : Bool) (V : List Nat) (its : List Itm) (i : Nat) : Option Nat:=lastTrue (reachP folded V its fun j => decide (j = i)) V.length
end Go.Proofs.YtchdeboialbdiaaGreatDoor
namespace Go.Proofs.YtchdeboialbdiaaGreatDoor
set_option linter.unusedVariables false
set_option linter.unusedSimpArgs false
set_option maxHeartbeats 8000000
set_option maxRecDepth 100000
open Go.RowKit
open Go.Lib
theorem run_append_sep {P : Program} (w : World) (B : Nat) (t ty e : TypeId) (i : TypeInfo) (z : Value) (size bytes : Nat) (ht : P.underlying t = some (.slice e)) (hi : P.info? e = some i) (hz : i.zero = some z)
  (hsize : i.size = size) (hby : i.bytes = bytes) (hzs : z.cells.size = size) (hsz : 0 < size)
  (v : Value) (n : Nat) (xs : List Value) (hown : w.ownsRow B e size v n xs)
  (a : Addr) (m c : Nat) (news : List Value) (hm : 0 < m) (hl : news.length = m * size) (hnews : ∀ j u,news[j]? = some u → w.cell? (a.add j) = some u) (h1 : ∀ u ∈ news,u.oneCell' = true)
  (h63 : n + m ≤ maxLen) (hbytes : (n + m) * bytes ≤ 140737488355328) (hbase : B ≤ w.heap.size) :
  ∃ v' w',(Builtin.append_ #[t,t] ty #[v,.slice (some a) m c]).run P w = .ok v' w' ∧ w'.ownsRow B e size v' (n + m) (xs ++ news) ∧ w.grownBy w' v.ownBlock ∧ (v'.ownBlock = v.ownBlock ∨ ∀ b,v'.ownBlock = some b → w.heap.size ≤ b):=by
 have hxl:=hown.1
 rcases hown.2 with ⟨rfl,rfl⟩ | ⟨g,cap,cur,rfl,_⟩
 ·obtain rfl : xs = []:=List.eq_nil_of_length_eq_zero (by simpa using hxl)
  obtain ⟨v',w',hrun,r1,r2,_⟩:=run_append_own (P:=P) w w.heap.size t ty e i z size bytes ht hi hz hsize hby hzs hsz (.slice none 0 0) 0 [] (World.ownsRow_nil _ _ _ _) a m c news hl hnews h1 h63 hbytes (Nat.le_refl _)
  exact ⟨v',w',hrun,own_mono_size r1 hbase,r2,.inr fun b hb => (r1.lt b hb).1⟩
 ·by_cases hroom : n + m ≤ cap
  ·obtain ⟨w',hrun,r1,r2⟩:=run_append_fits (P:=P) w B t ty e i size ht hi hsize g n cap xs hown a m c news hl hnews h1 hroom
   exact ⟨_,w',hrun,r1,r2,.inl rfl⟩
  ·obtain ⟨v',w',hrun,r1,r2⟩:=run_append_arg_grows (P:=P) w t ty e i z size bytes ht hi hz hsize hby hzs hsz ⟨g,0,none⟩ n cap xs hxl (hown.cells rfl) a m c news hl hnews (by omega) h63 hbytes
   exact ⟨v',w',hrun,own_mono_size r1 hbase,⟨r2.os,r2.tape,r2.output,r2.size,fun k hk _ => r2.block k hk (by simp)⟩,.inr fun b hb => (r1.lt b hb).1⟩
def AppPost (wp : World) (B : Nat) (e : TypeId) (size : Nat) (v : Value) (n : Nat) (xs cs : List Value) (v' : Value) (w' : World) : Prop :=
 w'.ownsRow B e size v' (n + 1) (xs ++ cs) ∧ wp.grownBy w' v.ownBlock ∧ (v'.ownBlock = v.ownBlock ∨ ∀ b,v'.ownBlock = some b → wp.heap.size ≤ b)
theorem run_append_one {P : Program} {T ty e : TypeId} (hT : P.underlying T = some (.slice e)) (z : Value) (size bytes : Nat) (hinfo : (P.info? e).map (fun i => (i.zero,i.size,i.bytes)) = some (some z,size,bytes)) (hz : z.cells.size = size) (hs0 : 0 < size) (hby : bytes ≤ 4096)
  (B : Nat) (wp : World) (v : Value) (n : Nat) (xs cs : List Value) (hcs : cs.length = size) (hone : ∀ u ∈ cs,u.oneCell' = true) (hown : wp.ownsRow B e size v n xs) (hl : n ≤ 1073741824) (hB : B ≤ wp.heap.size) :
  ∃ v' w',(Builtin.append_ #[T,T] ty #[v,.slice (some ⟨wp.heap.size,0,none⟩) 1 1]).run P (wp.alloc (.cells cs.toArray e)) = .ok v' w' ∧ AppPost wp B e size v n xs cs v' w':=by
 obtain ⟨i0,hi,hz0,hz1,hz2⟩:=info_parts hinfo
 have hsz : (wp.alloc (.cells cs.toArray e)).heap.size = wp.heap.size + 1:=by simp
 have hbt : (n + 1) * bytes ≤ 140737488355328:=by
  calc (n + 1) * bytes ≤ (n + 1) * 4096:=Nat.mul_le_mul (Nat.le_refl _) hby
   _ ≤ 140737488355328:=by omega
 obtain ⟨v',w',hrun,r1,r2,r3⟩:=run_append_sep (P:=P) (wp.alloc (.cells cs.toArray e)) B T ty e i0 z size bytes hT hi hz0 hz1 hz2 hz hs0 v n xs (World.ownsRow.alloc hown _) ⟨wp.heap.size,0,none⟩ 1 1 cs (by decide) (by rw [hcs,Nat.one_mul]) (new_cells _ _ _) hone (by unfold maxLen; omega) hbt (by omega)
 exact ⟨v',w',hrun,r1,grownBy_trans (grownBy_below ((Below.refl _ wp).alloc (Nat.le_refl _) _) _) r2,r3.imp id fun h b hb => by have:=h b hb; omega⟩
theorem appSep {T e : TypeId} {ops : Array Oper} {rest : List Oper} {o : Oper} {a : Act} {w : World} {Q : Exit → Act → World → Prop} (hgd : o.guard = none) (sl x : Operand) (ho : o.op = .call { callee:=.builtin .append,args:=#[sl,x],argTypes:=#[T,T] })
  (hT : Tryz.prog.underlying T = some (.slice e)) (z : Value) (size bytes : Nat) (hinfo : (Tryz.prog.info? e).map (fun i => (i.zero,i.size,i.bytes)) = some (some z,size,bytes)) (hz : z.cells.size = size) (hs0 : 0 < size) (hby : bytes ≤ 4096)
  (B : Nat) (wp : World) (v : Value) (n : Nat) (xs cs : List Value) (hcs : cs.length = size) (hone : ∀ u ∈ cs,u.oneCell' = true) (hs : a.eval sl = v) (hown : wp.ownsRow B e size v n xs) (hx : a.eval x = .slice (some ⟨wp.heap.size,0,none⟩) 1 1) (hw : w = wp.alloc (.cells cs.toArray e)) (hl : n ≤ 1073741824) (hB : B ≤ wp.heap.size)
  (h : ∀ v' w',AppPost wp B e size v n xs cs v' w' → wpList Tryz.prog ops Q rest (a.put o.dst v') w') : wpList Tryz.prog ops Q (o :: rest) a w:=by
 subst hw
 obtain ⟨v',w',hrun,hp⟩:=run_append_one (ty:=o.type) hT z size bytes hinfo hz hs0 hby B wp v n xs cs hcs hone hown hl hB
 refine wpList_plain hgd fun K hK => ?_
 unfold Oper.wp
 simp [execOp,ho,resolve,invoke,builtin,hs,hx,hrun,Result.andThen]
 exact hK _ _ (h v' w' hp)
theorem stepSep {T e : TypeId} {w : World} {ops : Array Oper} {o : Oper} {a : Act} {K : Act → World → Prop} {Q : Exit → Act → World → Prop} {E : Prop} (hgd : o.guard = none) (sl x : Operand) (ho : o.op = .call { callee:=.builtin .append,args:=#[sl,x],argTypes:=#[T,T] })
  (hT : Tryz.prog.underlying T = some (.slice e)) (z : Value) (size bytes : Nat) (hinfo : (Tryz.prog.info? e).map (fun i => (i.zero,i.size,i.bytes)) = some (some z,size,bytes)) (hz : z.cells.size = size) (hs0 : 0 < size) (hby : bytes ≤ 4096)
  (B : Nat) (wp : World) (v : Value) (n : Nat) (xs cs : List Value) (hcs : cs.length = size) (hone : ∀ u ∈ cs,u.oneCell' = true) (hs : a.eval sl = v) (hown : wp.ownsRow B e size v n xs) (hx : a.eval x = .slice (some ⟨wp.heap.size,0,none⟩) 1 1) (hw : w = wp.alloc (.cells cs.toArray e)) (hl : n ≤ 1073741824) (hB : B ≤ wp.heap.size)
  (h : ∀ v' w',AppPost wp B e size v n xs cs v' w' → K (a.put o.dst v') w') : if Region.wanted o (yielded ops a.tmps) = true then Oper.wp Tryz.prog o a w K Q else E:=by
 subst hw
 obtain ⟨v',w',hrun,hp⟩:=run_append_one (ty:=o.type) hT z size bytes hinfo hz hs0 hby B wp v n xs cs hcs hone hown hl hB
 have hwd : Region.wanted o (yielded ops a.tmps) = true:=by simp [Region.wanted,hgd]
 rw [if_pos hwd]
 unfold Oper.wp
 simp [execOp,ho,resolve,invoke,builtin,hs,hx,hrun,Result.andThen]
 exact h v' w' hp
theorem own_block {w : World} {B : Nat} {e : TypeId} {size : Nat} {v : Value} {n : Nat} {xs : List Value} (h : w.ownsRow B e size v n xs) {b : Nat} (hb : v.ownBlock = some b) : B ≤ b ∧ ∃ cur,w.heap[b]? = some (.cells cur e (0,0)):=by
 rcases h.2 with ⟨rfl,_⟩ | ⟨g,cap,cur,rfl,hB,hg,_⟩
 ·cases hb
 ·cases hb
  exact ⟨hB,cur,hg⟩
theorem own_apart_ty {w : World} {B B' : Nat} {e e' : TypeId} {size size' : Nat} {v v' : Value} {n n' : Nat} {xs xs' : List Value} (h : w.ownsRow B e size v n xs) (h' : w.ownsRow B' e' size' v' n' xs') (he : e ≠ e') : v.ownBlock = none ∨ v.ownBlock ≠ v'.ownBlock:=by
 cases hb : v.ownBlock with
 | none => exact .inl rfl
 | some b =>
  refine .inr fun e1 => he ?_
  obtain ⟨_,c1,h1⟩:=own_block h hb
  obtain ⟨_,c2,h2⟩:=own_block h' e1.symm
  rw [h1] at h2
  cases h2
  rfl
theorem getElem?_snoc {α : Type} {l : List α} {x y : α} {i : Nat} (h : (l ++ [x])[i]? = some y) : (i < l.length ∧ l[i]? = some y) ∨ (i = l.length ∧ y = x):=by
 rcases Nat.lt_or_ge i l.length with h1 | h1
 ·rw [List.getElem?_append_left h1] at h
  exact .inl ⟨h1,h⟩
 ·have h2:=(List.getElem?_eq_some_iff.1 h).1
  rw [List.length_append,List.length_singleton] at h2
  obtain rfl : i = l.length:=by omega
  rw [List.getElem?_concat_length] at h
  exact .inr ⟨rfl,(Option.some.inj h).symm⟩
theorem below_next {B : Nat} {w4 W w9 : World} (h : Below B w4 W) (hB : B ≤ w4.heap.size) (hb : Below W.heap.size W w9) : Below B w4 w9:=h.trans (hb.mono (Nat.le_trans hB h.size))
theorem AppPost.below {w w' : World} {B : Nat} {e : TypeId} {size n : Nat} {v v' : Value} {xs cs : List Value} (hp : AppPost w B e size v n xs cs v' w') (hown : w.ownsRow B e size v n xs) (hB : B ≤ w.heap.size) : Below B w w' :=
 (Below.refl B w).grown hp.2.1 hB (fun k hk => (hown.lt k hk).1)
theorem grownBy_set (w : World) (b k : Nat) (v : Value) : w.grownBy (w.setCell ⟨b,k,none⟩ v) (some b) :=
 ⟨rfl,rfl,rfl,by simp [World.setCell],fun j _ hne => Below.heap_setCell _ _ _ _ (fun e => hne (by rw [e]))⟩
end Go.Proofs.YtchdeboialbdiaaGreatDoor
