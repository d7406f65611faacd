/- Texts joined, one behind the other (SRefA, SRefB, SRefC, SRefD). -/
import Derived.Test.YtchdeboialbdiaaGreatDoorSn22
namespace Go.Proofs.YtchdeboialbdiaaGreatDoor
set_option linter.unusedVariables false
set_option linter.unusedSimpArgs false
set_option maxHeartbeats 8000000
set_option maxRecDepth 100000
open Go.RowKit
open Go.Lib hiding intOf
abbrev U1 (n : Nat) : Value:=.int .u8 (n : Int)
theorem mayR6 (w : World) (r : Int) : Calls Tryz.prog 40 #[.int .i32 r] w fun e w' => e = .returned (.bool (mayI r)) ∧ w' = w:=by
 unfold mayI
 by_cases a : 0 ≤ r
 ·by_cases b : r ≤ 1114111
  ·by_cases c : r < 55296
   ·rw [decide_eq_true a,decide_eq_true b,decide_eq_true c]
    go_enter Tryz.func40, Tryz.ntmps40
    go_wp2_with fail
    go_ret
    exact ⟨rfl,rfl⟩
   ·by_cases d : 57343 < r
    ·rw [decide_eq_true a,decide_eq_true b,decide_eq_false c,decide_eq_true d]
     go_enter Tryz.func40, Tryz.ntmps40
     go_wp2_with fail
     go_ret
     exact ⟨rfl,rfl⟩
    ·rw [decide_eq_true a,decide_eq_true b,decide_eq_false c,decide_eq_false d]
     go_enter Tryz.func40, Tryz.ntmps40
     go_wp2_with fail
     go_ret
     exact ⟨rfl,rfl⟩
  ·rw [decide_eq_true a,decide_eq_false b,Bool.and_false,Bool.false_and]
   go_enter Tryz.func40, Tryz.ntmps40
   go_wp2_with fail
   go_ret
   exact ⟨rfl,rfl⟩
 ·rw [decide_eq_false a,Bool.false_and,Bool.false_and]
  go_enter Tryz.func40, Tryz.ntmps40
  go_wp2_with fail
  go_ret
  exact ⟨rfl,rfl⟩
def numPart (l : List UInt8) (b : Int) : Nat → Int
 | 0 => 0
 | 1 => (bN l 0 : Int) - b
 | i + 1 => numPart l b i * 64 + bN l i % 64
theorem byte_at {l : List UInt8} {i : Nat} (h : i < l.length) : ∃ x : UInt8,l[i]? = some x ∧ bN l i = x.toNat:=by
 obtain ⟨x,hx⟩:=some_at h
 exact ⟨x,hx,by unfold bN; rw [List.getD_eq_getElem?_getD,hx]; rfl⟩
theorem part_next (l : List UInt8) (b : Int) (i : Nat) (h : 1 ≤ i) : numPart l b (i + 1) = numPart l b i * 64 + bN l i % 64:=by
 obtain ⟨j,rfl⟩ : ∃ j,i = j + 1:=⟨i - 1,by omega⟩
 rfl
theorem part_bound (l : List UInt8) (b : Int) (h0 : 0 ≤ b) (h1 : b ≤ 256) (i : Nat) (hi : 1 ≤ i) (h4 : i ≤ 4) : -100000000 ≤ numPart l b i ∧ numPart l b i ≤ 100000000:=by
 have b0:=bN_lt l 0
 have b1:=bN_lt l 1
 have b2:=bN_lt l 2
 have b3:=bN_lt l 3
 have h : i = 1 ∨ i = 2 ∨ i = 3 ∨ i = 4:=by omega
 rcases h with rfl | rfl | rfl | rfl
 ·show -100000000 ≤ (bN l 0 : Int) - b ∧ (bN l 0 : Int) - b ≤ _; omega
 ·show -100000000 ≤ ((bN l 0 : Int) - b) * 64 + bN l 1 % 64 ∧ ((bN l 0 : Int) - b) * 64 + bN l 1 % 64 ≤ _; omega
 ·show -100000000 ≤ (((bN l 0 : Int) - b) * 64 + bN l 1 % 64) * 64 + bN l 2 % 64 ∧ (((bN l 0 : Int) - b) * 64 + bN l 1 % 64) * 64 + bN l 2 % 64 ≤ _; omega
 ·show -100000000 ≤ ((((bN l 0 : Int) - b) * 64 + bN l 1 % 64) * 64 + bN l 2 % 64) * 64 + bN l 3 % 64 ∧ ((((bN l 0 : Int) - b) * 64 + bN l 1 % 64) * 64 + bN l 2 % 64) * 64 + bN l 3 % 64 ≤ _; omega
theorem part_num (l : List UInt8) (k : Nat) (hk : k = 2 ∨ k = 3 ∨ k = 4) : numI l k = numPart l (if k = 2 then 192 else if k = 3 then 224 else 240) k:=by
 rcases hk with rfl | rfl | rfl <;> rfl
theorem numberR6 (w : World) (l : List UInt8) (k : Nat) (h1 : 1 ≤ k) (h4 : k ≤ 4) (hl : k ≤ l.length) (hm : l.length ≤ 140737488355328) : Calls Tryz.prog 64 #[.string (bstr l),.int .i64 (k : Int)] w fun e w' => e = .returned (.int .i32 (numI l k)) ∧ Quiet w w':=by
 have hsz : (bstr l).size = l.length:=bstr_size l
 obtain ⟨x,hx,hb⟩:=byte_at (l:=l) (i:=0) (by omega)
 have i1 : 0 < (bstr l).size:=by rw [hsz]; omega
 have hxa : (bstr l)[0]'i1 = x:=bstr_at hx _
 have hxl:=x.toNat_lt
 have hli : (0 : Int) < (l.length : Int):=by omega
 by_cases hk1 : k = 1
 ·subst hk1
  have e : numI l 1 = (x.toNat : Int):=by show (bN l 0 : Int) = _; rw [hb]
  rw [e]
  clear e hx hb
  go_enter Tryz.func64, Tryz.ntmps64
  go_wp2_with fail
  go_ret
  exact ⟨rfl,Quiet.refl _⟩
 have hk : k = 2 ∨ k = 3 ∨ k = 4:=by omega
 obtain ⟨b,hbb,hb0,hb1⟩ : ∃ b : Int,b = (if k = 2 then 192 else if k = 3 then 224 else 240) ∧ 0 ≤ b ∧ b ≤ 256:=⟨_,rfl,by rcases hk with rfl | rfl | rfl <;> decide,by rcases hk with rfl | rfl | rfl <;> decide⟩
 rw [part_num l k hk,← hbb]
 have HP1 : Hid (numPart l b 1 = (x.toNat : Int) - b):=Lib.hid (by show (bN l 0 : Int) - b = _; rw [hb])
 have HPN:=Lib.hid (part_next l b)
 have HPB:=Lib.hid (part_bound l b hb0 hb1)
 have hk1f : ((k : Int) == 1) = false:=by rw [beq_eq_false_iff_ne]; omega
 have hw : IntKind.i64.wrap ((256 : Int) - (256 : Int) / 2 ^ k) = b:=by
  rw [hbb]
  rcases hk with rfl | rfl | rfl <;> decide
 have hw2 : (256 : Int) - (256 : Int) / 2 ^ k = b:=by
  rw [hbb]
  rcases hk with rfl | rfl | rfl <;> decide
 clear hx hb hbb
 go_enter Tryz.func64, Tryz.ntmps64
 go_wp2_with fail
 go_quiet (fail)
 go_wp2_with fail
 go_loopw [5,6] (fun un ui wr => ∃ i : Nat,ui = .int .i64 (i : Int) ∧ un = .int .i64 (numPart l b i) ∧ 1 ≤ i ∧ i ≤ k ∧ wr = w.drewN nq) (fun _ ui _ => k - (RowKit.intOf ui).toNat)
 case atStart => exact ⟨1,rfl,by rw [HP1.out],Nat.le_refl _,h1,rfl⟩
 case round =>
  obtain ⟨i,rfl,rfl,hi1,hik,rfl⟩:=hrel
  have hpb:=HPB.out i hi1 (by omega)
  by_cases hlt : i < k
  ·obtain ⟨y,hy,hby⟩:=byte_at (l:=l) (i:=i) (by omega)
   have i2 : i < (bstr l).size:=by rw [hsz]; omega
   have hya : (bstr l)[i]'i2 = y:=bstr_at hy _
   have hyl:=y.toNat_lt
   have hik2 : (i : Int) < (k : Int):=by omega
   have hil : (i : Int) < (l.length : Int):=by omega
   have hn:=HPN.out i hi1
   have hnb:=HPB.out (i + 1) (by omega) (by omega)
   rw [hby] at hn
   have hmd : (y.toNat : Int).tmod 64 = (y.toNat : Int) % 64:=Int.tmod_eq_emod_of_nonneg (by omega)
   obtain ⟨r,hr⟩ : ∃ r,(y.toNat : Int) % 64 = r:=⟨_,rfl⟩
   rw [hr] at hn hmd
   have hrb : 0 ≤ r ∧ r < 64:=by omega
   obtain ⟨hr0,hr1⟩:=hrb
   obtain ⟨P,hP⟩ : ∃ P,numPart l b i = P:=⟨_,rfl⟩
   obtain ⟨P2,hP2⟩ : ∃ P,numPart l b (i + 1) = P:=⟨_,rfl⟩
   rw [hP] at hn hpb ⊢
   rw [hP2] at hn hnb
   have HN:=Lib.hid hn
   have HP2:=Lib.hid hP2
   clear hr hn hy hby hP hP2
   go_wp2_with fail
   go_roundw
   case rel => exact ⟨i + 1,by go_num,by rw [HP2.out,HN.out],by omega,by omega,by first | rfl | trivial⟩
   case measure => simp [RowKit.intOf]; omega
  ·obtain rfl : i = k:=by omega
   have hnl : ¬ (i : Int) < (i : Int):=by omega
   obtain ⟨P,hP⟩ : ∃ P,numPart l b i = P:=⟨_,rfl⟩
   rw [hP] at hpb ⊢
   have HP:=Lib.hid hP
   clear hP hlt
   go_wp2_with fail
   go_ret
   exact ⟨by rw [HP.out]; rfl,⟨nq,rfl⟩⟩
def begU (l : List UInt8) (X : List Nat) (i : Nat) : Prop:=∀ k,k < i → bN l k = X.getD k 0
theorem beg_true {l : List UInt8} {X : List Nat} (h : X.length ≤ l.length) (hb : begU l X X.length) : begN l X = true:=by
 unfold begN
 rw [Bool.and_eq_true]
 refine ⟨decide_eq_true h,List.all_eq_true.2 fun k hk => decide_eq_true (hb k (List.mem_range.1 hk))⟩
theorem beg_false {l : List UInt8} {X : List Nat} {k : Nat} (hk : k < X.length) (h : bN l k ≠ X.getD k 0) : begN l X = false:=by
 unfold begN
 rw [Bool.and_eq_false_iff]
 right
 rw [List.all_eq_false]
 exact ⟨k,List.mem_range.2 hk,by simpa using h⟩
theorem beginsR6 (w : World) (l : List UInt8) (a : Option Addr) (n c : Nat) (X : List Nat) (hX : X.length = n) (hr : Reads w a n (X.map U1)) (hn : n ≤ 8) (hm : l.length ≤ 140737488355328) : Calls Tryz.prog 65 #[.string (bstr l),.slice a n c] w fun e w' => e = .returned (.bool (begN l X)) ∧ Quiet w w':=by
 have hsz : (bstr l).size = l.length:=bstr_size l
 by_cases hll : l.length < n
 ·have e : begN l X = false:=by unfold begN; rw [decide_eq_false (by omega),Bool.false_and]
  have h1 : (l.length : Int) < (n : Int):=by omega
  rw [e]
  clear e hr
  go_enter Tryz.func65, Tryz.ntmps65
  go_wp2_with fail
  go_ret
  exact ⟨rfl,Quiet.refl _⟩
 have h1 : ¬ (l.length : Int) < (n : Int):=by omega
 have HX:=Lib.hid hX
 have HR:=Lib.hid hr
 clear hX hr
 go_enter Tryz.func65, Tryz.ntmps65
 go_wp2_with fail
 go_loopw [5] (fun ui wr => ∃ i : Nat,ui = .int .i64 (i : Int) ∧ i ≤ n ∧ Hid (begU l X i ∧ Quiet w wr)) (fun ui _ => n - (RowKit.intOf ui).toNat)
 case atStart => exact ⟨0,rfl,Nat.zero_le _,Lib.hid ⟨fun k hk => by omega,Quiet.refl _⟩⟩
 case round =>
  obtain ⟨i,rfl,hi,HI⟩:=hrel
  by_cases hlt : i < n
  ·obtain ⟨y,hy,hby⟩:=byte_at (l:=l) (i:=i) (by omega)
   have i2 : i < (bstr l).size:=by rw [hsz]; omega
   have hya : (bstr l)[i]'i2 = y:=bstr_at hy _
   have hin : (i : Int) < (n : Int):=by omega
   have hil : (i : Int) < (l.length : Int):=by omega
   obtain ⟨b1,o1,x,rfl,hb1,hx,hcx⟩:=(HR.out.quiet HI.out.2).at (k:=i) hlt
   rw [List.getElem?_map] at hx
   obtain ⟨z,hz⟩ : ∃ z,X.getD i 0 = z:=⟨_,rfl⟩
   have hxz : x = U1 z:=by
    rw [List.getElem?_eq_getElem (by rw [HX.out]; exact hlt)] at hx
    have h2:=Option.some.inj hx
    rw [List.getD_eq_getElem?_getD,List.getElem?_eq_getElem (by rw [HX.out]; exact hlt)] at hz
    rw [← h2,← hz]
    rfl
   subst hxz
   have HZ:=Lib.hid hz
   have HBY:=Lib.hid hby
   clear hx hz hby hy
   by_cases he : y.toNat = z
   ·have hbe : ((y.toNat : Int) != (z : Int)) = false:=by simp; omega
    have HE:=Lib.hid he
    clear he
    go_wp2_with fail
    go_quiet (fail)
    go_wp2_with fail
    go_roundw
    case rel => exact ⟨i + 1,by go_num,by omega,Lib.hid ⟨fun k hk => by
     by_cases hki : k = i
     ·rw [hki,HBY.out,HZ.out,HE.out]
     ·exact HI.out.1 k (by omega),HI.out.2.drewN _⟩⟩
    case measure => simp [RowKit.intOf]; omega
   ·have hbe : ((y.toNat : Int) != (z : Int)) = true:=by simp; omega
    have e : begN l X = false:=beg_false (k:=i) (by rw [HX.out]; exact hlt) (by rw [HBY.out,HZ.out]; exact he)
    have HE:=Lib.hid e
    clear e he
    go_wp2_with fail
    go_quiet (fail)
    go_wp2_with fail
    go_ret
    exact ⟨by rw [HE.out]; rfl,HI.out.2.drewN _⟩
  ·obtain rfl : i = n:=by omega
   have hnl : ¬ (i : Int) < (i : Int):=by omega
   have e : begN l X = true:=beg_true (by rw [HX.out]; omega) (by rw [HX.out]; exact HI.out.1)
   have HE:=Lib.hid e
   clear e hlt
   go_wp2_with fail
   go_ret
   exact ⟨by rw [HE.out]; rfl,HI.out.2⟩
theorem div_nat (n k : Nat) (hk : 0 < k) : (n : Int).tdiv (k : Int) = ((n / k : Nat) : Int):=by
 rw [Int.tdiv_eq_ediv_of_nonneg (by omega)]
 rfl
theorem mod_nat (n k : Nat) : (n : Int).tmod (k : Int) = ((n % k : Nat) : Int):=by
 rw [Int.tmod_eq_emod_of_nonneg (by omega)]
 rfl
theorem u_reads {W : World} {g : Nat} {t : TypeId} {xs : List Value} {X : List Nat} (hR : Row W g t xs) (hx : xs = X.map U1) : Reads W (some ⟨g,0,none⟩) X.length (X.map U1):=by
 have:=hR.reads 0 xs.length (by omega)
 rw [List.drop_zero,List.take_length] at this
 subst hx
 rwa [List.length_map] at this
def SeqR (w : World) (X : List Nat) (e : Ending) (w' : World) : Prop :=
 ∃ a,e = .returned (.slice a X.length X.length) ∧ Reads w' a X.length (X.map U1) ∧ Below w.heap.size w w'
theorem seqR6 (w : World) (n : Nat) (hn : n ≤ 1114111) : Calls Tryz.prog 66 #[.int .i32 (n : Int)] w (SeqR w (seqN n)):=by
 unfold seqN
 by_cases h1 : n < 128
 ·rw [if_pos h1]
  have i1 : (n : Int) < 128:=by omega
  go_enter Tryz.func66, Tryz.ntmps66
  go_wp2_with fail
  go_ret
  exact ⟨_,rfl,u_reads (row_new w [U1 n] _) rfl,(Below.refl _ w).alloc (Nat.le_refl _) _⟩
 rw [if_neg h1]
 have i1 : ¬ (n : Int) < 128:=by omega
 by_cases h2 : n < 2048
 ·rw [if_pos h2]
  have i2 : (n : Int) < 2048:=by omega
  have q1:=div_nat n 64 (by decide)
  have q2:=mod_nat n 64
  obtain ⟨q,hq⟩ : ∃ q,n / 64 = q:=⟨_,rfl⟩
  obtain ⟨r,hr⟩ : ∃ r,n % 64 = r:=⟨_,rfl⟩
  have hqb : q < 32:=by omega
  have hrb : r < 64:=by omega
  rw [hq] at q1 ⊢
  rw [hr] at q2 ⊢
  rw [show ((64 : Nat) : Int) = 64 from rfl] at q1 q2
  clear hq hr
  go_enter Tryz.func66, Tryz.ntmps66
  go_wp2_with fail
  go_ret
  exact ⟨_,rfl,u_reads (row_new w _ _) rfl,(Below.refl _ w).alloc (Nat.le_refl _) _⟩
 rw [if_neg h2]
 have i2 : ¬ (n : Int) < 2048:=by omega
 by_cases h3 : n < 65536
 ·rw [if_pos h3]
  have i3 : (n : Int) < 65536:=by omega
  have q1:=div_nat n 4096 (by decide)
  have q3:=div_nat n 64 (by decide)
  have q2:=mod_nat n 64
  have q4:=mod_nat (n / 64) 64
  obtain ⟨q,hq⟩ : ∃ q,n / 4096 = q:=⟨_,rfl⟩
  obtain ⟨r,hr⟩ : ∃ r,n % 64 = r:=⟨_,rfl⟩
  obtain ⟨s,hs⟩ : ∃ s,n / 64 % 64 = s:=⟨_,rfl⟩
  obtain ⟨u,hu⟩ : ∃ u,n / 64 = u:=⟨_,rfl⟩
  have hqb : q < 16:=by omega
  have hrb : r < 64:=by omega
  have hsb : s < 64:=by omega
  have hub : u < 1024:=by omega
  rw [hq] at q1 ⊢
  rw [hr] at q2 ⊢
  rw [hs] at q4 ⊢
  rw [hu] at q3 q4
  rw [show ((64 : Nat) : Int) = 64 from rfl] at q2 q3 q4
  rw [show ((4096 : Nat) : Int) = 4096 from rfl] at q1
  clear hq hr hs hu
  go_enter Tryz.func66, Tryz.ntmps66
  go_wp2_with fail
  go_ret
  exact ⟨_,rfl,u_reads (row_new w _ _) rfl,(Below.refl _ w).alloc (Nat.le_refl _) _⟩
 rw [if_neg h3]
 have i3 : ¬ (n : Int) < 65536:=by omega
 have q1:=div_nat n 262144 (by decide)
 have q2:=mod_nat n 64
 have q3:=div_nat n 64 (by decide)
 have q4:=mod_nat (n / 64) 64
 have q5:=div_nat n 4096 (by decide)
 have q6:=mod_nat (n / 4096) 64
 obtain ⟨q,hq⟩ : ∃ q,n / 262144 = q:=⟨_,rfl⟩
 obtain ⟨r,hr⟩ : ∃ r,n % 64 = r:=⟨_,rfl⟩
 obtain ⟨s,hs⟩ : ∃ s,n / 64 % 64 = s:=⟨_,rfl⟩
 obtain ⟨t,ht⟩ : ∃ t,n / 4096 % 64 = t:=⟨_,rfl⟩
 obtain ⟨u,hu⟩ : ∃ u,n / 64 = u:=⟨_,rfl⟩
 obtain ⟨v,hv⟩ : ∃ v,n / 4096 = v:=⟨_,rfl⟩
 have hqb : q < 8:=by omega
 have hrb : r < 64:=by omega
 have hsb : s < 64:=by omega
 have htb : t < 64:=by omega
 have hub : u < 65536:=by omega
 have hvb : v < 65536:=by omega
 rw [hq] at q1 ⊢
 rw [hr] at q2 ⊢
 rw [hs] at q4 ⊢
 rw [ht] at q6 ⊢
 rw [hu] at q3 q4
 rw [hv] at q5 q6
 rw [show ((64 : Nat) : Int) = 64 from rfl] at q2 q3 q4 q6
 rw [show ((4096 : Nat) : Int) = 4096 from rfl] at q5
 rw [show ((262144 : Nat) : Int) = 262144 from rfl] at q1
 clear hq hr hs ht hu hv
 go_enter Tryz.func66, Tryz.ntmps66
 go_wp2_with fail
 go_ret
 exact ⟨_,rfl,u_reads (row_new w _ _) rfl,(Below.refl _ w).alloc (Nat.le_refl _) _⟩
theorem seq_len (n : Nat) : (seqN n).length ≤ 4:=by
 unfold seqN
 repeat' split
 all_goals (simp only [List.length_cons,List.length_nil]; omega)
theorem may_nat {z : Int} (h : mayI z = true) : ∃ m : Nat,z = (m : Int) ∧ m ≤ 1114111:=by
 unfold mayI at h
 simp only [Bool.and_eq_true,decide_eq_true_iff] at h
 exact ⟨z.toNat,by omega,by omega⟩
theorem firstR6 (w : World) (l : List UInt8) (hl : l ≠ []) (hm : l.length ≤ 140737488355328) : Calls Tryz.prog 42 #[.string (bstr l)] w fun e w' => e = .returned (.tuple #[.int .i32 (firstR l).1,.int .i64 ((firstR l).2.1 : Int),.bool (firstR l).2.2]) ∧ Below w.heap.size w w':=by
 have h1 : 1 ≤ l.length:=List.length_pos_iff.2 hl
 obtain ⟨⟨A,B,C⟩,hT⟩ : ∃ T,firstR l = T:=⟨_,rfl⟩
 rw [hT]
 have HT : Hid (firstGo l 4 1 = (A,B,C)):=Lib.hid hT
 have hnz : ((l.length : Int) == 0) = false:=by rw [beq_eq_false_iff_ne]; omega
 have HNU:=Lib.hid (fun (W : World) (k : Nat) (a : 1 ≤ k) (b : k ≤ 4) (c : k ≤ l.length) => numberR6 W l k a b c hm)
 have HBE:=Lib.hid (fun (W : World) (a : Option Addr) (n : Nat) (X : List Nat) (hX : X.length = n) (hr : Reads W a n (X.map U1)) (hn : n ≤ 8) => beginsR6 W l a n n X hX hr hn hm)
 clear hT hl
 go_enter Tryz.func42, Tryz.ntmps42
 go_wp2_with fail
 go_loopw [5] (fun ui wr => ∃ k : Nat,ui = .int .i64 (k : Int) ∧ 1 ≤ k ∧ k ≤ 5 ∧ Hid (Below w.heap.size w wr ∧ firstGo l (5 - k) k = (A,B,C))) (fun ui _ => 5 - (RowKit.intOf ui).toNat)
 case atStart => exact ⟨1,rfl,Nat.le_refl _,by omega,Lib.hid ⟨Below.refl _ _,HT.out⟩⟩
 case round =>
  obtain ⟨k,rfl,hk1,hk5,HI⟩:=hrel
  by_cases hgo : k ≤ 4 ∧ k ≤ l.length
  ·obtain ⟨hk4,hkl⟩:=hgo
   have hg:=HI.out.2
   rw [show 5 - k = (4 - k) + 1 by omega,firstGo,if_pos ⟨hk4,hkl⟩] at hg
   have hk4i : (k : Int) ≤ 4:=by omega
   have hkli : (k : Int) ≤ (l.length : Int):=by omega
   have HN:=Lib.hid (HNU.out wr k hk1 hk4 hkl)
   obtain ⟨z,hz⟩ : ∃ z,numI l k = z:=⟨_,rfl⟩
   have hc : condW l k = (mayI z && begN l (seqN z.toNat) && decide ((seqN z.toNat).length = k)):=by unfold condW; rw [hz]
   rw [hz] at HN hg
   rw [hc] at hg
   clear hc hz
   have HM:=Lib.hid (fun W => mayR6 W z)
   obtain ⟨bm,hbm⟩ : ∃ b,mayI z = b:=⟨_,rfl⟩
   rw [hbm] at hg HM
   cases bm with
   | false =>
    rw [Bool.false_and,Bool.false_and,if_neg (by decide)] at hg
    have HG:=Lib.hid hg
    clear hg hbm
    go_wp2_with (first
     | (go_at_call 64; refine (HN.out).mono ?_; rintro e w1 ⟨rfl,hq1⟩; have HQ1:=Lib.hid hq1; clear hq1)
     | (go_at_call 40; refine (HM.out _).mono ?_; rintro e w2 ⟨rfl,rfl⟩))
    go_roundw
    case rel => exact ⟨k + 1,by go_num,by omega,by omega,Lib.hid ⟨HI.out.1.trans (HQ1.out.below _),by rw [show 5 - (k + 1) = 4 - k by omega]; exact HG.out⟩⟩
    case measure => simp [RowKit.intOf]; omega
   | true =>
    obtain ⟨m,rfl,hmb⟩:=may_nat hbm
    rw [Int.toNat_natCast] at hg
    have hsq:=fun W => seqR6 W m hmb
    have hsl:=seq_len m
    obtain ⟨X,hX⟩ : ∃ X,seqN m = X:=⟨_,rfl⟩
    rw [hX] at hg hsq hsl
    obtain ⟨n0,hn0⟩ : ∃ n,X.length = n:=⟨_,rfl⟩
    unfold SeqR at hsq
    rw [hn0] at hg hsq hsl
    have HS:=Lib.hid hsq
    have HN0:=Lib.hid hn0
    clear hsq hX hn0 hbm
    obtain ⟨bb,hbb⟩ : ∃ b,begN l X = b:=⟨_,rfl⟩
    have HB2 : Hid (∀ (W : World) (a : Option Addr) (hr : Reads W a n0 (X.map U1)),Calls Tryz.prog 65 #[.string (bstr l),.slice a n0 n0] W fun e w' => e = .returned (.bool bb) ∧ Quiet W w'):=Lib.hid (fun W a hr => by have:=HBE.out W a n0 X HN0.out hr (by omega); rw [hbb] at this; exact this)
    rw [hbb] at hg
    clear hbb
    cases bb with
    | false =>
     rw [Bool.and_false,Bool.false_and,if_neg (by decide)] at hg
     have HG:=Lib.hid hg
     clear hg
     go_wp2_with (first
      | (go_at_call 64; refine (HN.out).mono ?_; rintro e w1 ⟨rfl,hq1⟩; have HQ1:=Lib.hid hq1; clear hq1)
      | (go_at_call 40; refine (HM.out _).mono ?_; rintro e w2 ⟨rfl,rfl⟩)
      | (go_at_call 66; refine (HS.out _).mono ?_; rintro e w3 ⟨a3,rfl,hr3,hb3⟩; have HR3:=Lib.hid hr3; have HB3:=Lib.hid hb3; clear hr3 hb3)
      | (go_at_call 65; refine (HB2.out _ _ HR3.out).mono ?_; rintro e w4 ⟨rfl,hq4⟩; have HQ4:=Lib.hid hq4; clear hq4))
     go_roundw
     case rel => exact ⟨k + 1,by go_num,by omega,by omega,Lib.hid ⟨((HI.out.1.trans (HQ1.out.below _)).trans (HB3.out.mono (HI.out.1.trans (HQ1.out.below _)).size)).trans (HQ4.out.below _),by rw [show 5 - (k + 1) = 4 - k by omega]; exact HG.out⟩⟩
     case measure => simp [RowKit.intOf]; omega
    | true =>
     by_cases hnk : n0 = k
     ·have hq : ((n0 : Int) == (k : Int)) = true:=by rw [beq_iff_eq]; omega
      rw [decide_eq_true hnk,if_pos (by decide)] at hg
      have HG:=Lib.hid hg
      clear hg hnk
      go_wp2_with (first
       | (go_at_call 64; refine (HN.out).mono ?_; rintro e w1 ⟨rfl,hq1⟩; have HQ1:=Lib.hid hq1; clear hq1)
       | (go_at_call 40; refine (HM.out _).mono ?_; rintro e w2 ⟨rfl,rfl⟩)
       | (go_at_call 66; (with_reducible show Calls _ _ _ w2 _); refine (HS.out _).mono ?_; rintro e w3 ⟨a3,rfl,hr3,hb3⟩; have HR3:=Lib.hid hr3; have HB3:=Lib.hid hb3; clear hr3 hb3)
       | (go_at_call 65; refine (HB2.out _ _ HR3.out).mono ?_; rintro e w4 ⟨rfl,hq4⟩; have HQ4:=Lib.hid hq4; clear hq4)
       | (go_at_call 66; (with_reducible show Calls _ _ _ w4 _); refine (HS.out _).mono ?_; rintro e w5 ⟨a5,rfl,hr5,hb5⟩; have HB5:=Lib.hid hb5; clear hr5 hb5))
      go_ret3
      have hw4:=((HI.out.1.trans (HQ1.out.below _)).trans (HB3.out.mono (HI.out.1.trans (HQ1.out.below _)).size)).trans (HQ4.out.below _)
      have hg:=HG.out
      simp only [Prod.mk.injEq] at hg
      obtain ⟨g1,g2,g3⟩:=hg
      subst g1 g2 g3
      exact ⟨rfl,hw4.trans (HB5.out.mono hw4.size)⟩
     ·have hq : ((n0 : Int) == (k : Int)) = false:=by rw [beq_eq_false_iff_ne]; omega
      rw [decide_eq_false hnk,if_neg (by decide)] at hg
      have HG:=Lib.hid hg
      clear hg hnk
      go_wp2_with (first
       | (go_at_call 64; refine (HN.out).mono ?_; rintro e w1 ⟨rfl,hq1⟩; have HQ1:=Lib.hid hq1; clear hq1)
       | (go_at_call 40; refine (HM.out _).mono ?_; rintro e w2 ⟨rfl,rfl⟩)
       | (go_at_call 66; (with_reducible show Calls _ _ _ w2 _); refine (HS.out _).mono ?_; rintro e w3 ⟨a3,rfl,hr3,hb3⟩; have HR3:=Lib.hid hr3; have HB3:=Lib.hid hb3; clear hr3 hb3)
       | (go_at_call 65; refine (HB2.out _ _ HR3.out).mono ?_; rintro e w4 ⟨rfl,hq4⟩; have HQ4:=Lib.hid hq4; clear hq4)
       | (go_at_call 66; (with_reducible show Calls _ _ _ w4 _); refine (HS.out _).mono ?_; rintro e w5 ⟨a5,rfl,hr5,hb5⟩; have HB5:=Lib.hid hb5; clear hr5 hb5))
      have hw4:=((HI.out.1.trans (HQ1.out.below _)).trans (HB3.out.mono (HI.out.1.trans (HQ1.out.below _)).size)).trans (HQ4.out.below _)
      have HW5:=Lib.hid (hw4.trans (HB5.out.mono hw4.size))
      clear hw4
      go_roundw
      case rel => exact ⟨k + 1,by go_num,by omega,by omega,Lib.hid ⟨HW5.out,by rw [show 5 - (k + 1) = 4 - k by omega]; exact HG.out⟩⟩
      case measure => simp [RowKit.intOf]; omega
  ·have hg:=HI.out.2
   have hT2 : (A,B,C) = ((65533 : Int),1,false):=by
    rw [← hg]
    cases hf : 5 - k with
    | zero => rfl
    | succ f => rw [firstGo,if_neg hgo]
   simp only [Prod.mk.injEq] at hT2
   obtain ⟨g1,g2,g3⟩:=hT2
   subst g1 g2 g3
   clear hg
   by_cases hk4 : k ≤ 4
   ·have hk4i : (k : Int) ≤ 4:=by omega
    have hkli : ¬ (k : Int) ≤ (l.length : Int):=by omega
    have hkli2 : (l.length : Int) < (k : Int):=by omega
    go_wp2_with fail
    go_ret3
    exact ⟨rfl,HI.out.1⟩
   ·have hk4i : ¬ (k : Int) ≤ 4:=by omega
    have hk4j : (4 : Int) < (k : Int):=by omega
    go_wp2_with fail
    go_ret3
    exact ⟨rfl,HI.out.1⟩
def charsWGo : Nat → List UInt8 → Nat → List (Nat × Nat × Nat)
 | 0,_,_ => []
 | f + 1,l,a => if l = [] then [] else ((chr1 l).1,a,(chr1 l).2) :: charsWGo f (l.drop (chr1 l).2) (a + (chr1 l).2)
def charsW (l : List UInt8) : List (Nat × Nat × Nat):=charsWGo l.length l 0
theorem charsWGo_next {f : Nat} {l : List UInt8} (hl : l ≠ []) (a : Nat) : charsWGo (f + 1) l a = ((chr1 l).1,a,(chr1 l).2) :: charsWGo f (l.drop (chr1 l).2) (a + (chr1 l).2):=by rw [charsWGo,if_neg hl]
theorem charsWGo_stop (f : Nat) (a : Nat) : charsWGo f [] a = []:=by cases f <;> simp [charsWGo]
theorem charsW_go : ∀ (f : Nat) (l : List UInt8) (a : Nat),(charsWGo f l a).map (fun p => (p.1,p.2.1)) = charsGo f l a
 | 0,l,a => rfl
 | f + 1,l,a => by
  by_cases hl : l = []
  ·subst hl; rw [charsWGo_stop,charsGo_stop]; rfl
  ·rw [charsWGo_next hl,charsGo_next hl,List.map_cons,charsW_go f]
theorem charsW_L (l : List UInt8) : (charsW l).map (fun p => (p.1,p.2.1)) = charsL l:=charsW_go _ _ _
theorem charsW_vals (l : List UInt8) : (charsW l).map (fun p => p.1) = valsL l:=by
 unfold valsL
 rw [← charsW_L,List.map_map]
 rfl
theorem charsW_ats (l : List UInt8) : (charsW l).map (fun p => p.2.1) ++ [l.length] = atsL l:=by
 unfold atsL
 rw [← charsW_L,List.map_map]
 rfl
theorem charsW_len (l : List UInt8) : (charsW l).length = (valsL l).length:=by rw [← charsW_vals,List.length_map]
def chCells (p : Nat × Nat × Nat) : List Value:=[.int .i64 (p.2.1 : Int),.int .i32 (tokR p.1 : Int),.int .i64 (p.2.2 : Int),.bool (decide (p.1 < wrongN))]
theorem infoChar : (Tryz.prog.info? 114).map (fun i => (i.zero,i.size,i.bytes)) = some (some (.agg #[.int .i64 0,.int .i32 0,.int .i64 0,.bool false]),4,32):=by kernel_rfl
def ChOwnR (B : Nat) (v : Value) (L : List (Nat × Nat × Nat)) (w : World) : Prop:=w.ownsRow B 114 4 v L.length (L.flatMap chCells)
theorem ChOwnR.push {B : Nat} {v : Value} {L : List (Nat × Nat × Nat)} {x : Nat × Nat × Nat} {w : World} (h : w.ownsRow B 114 4 v (L.length + 1) (L.flatMap chCells ++ chCells x)) : ChOwnR B v (L ++ [x]) w:=by
 unfold ChOwnR
 rw [List.length_append,List.flatMap_append]
 simpa using h
theorem first_chr {D : List UInt8} (hD : D ≠ []) : firstR D = ((tokR (chr1 D).1 : Int),(chr1 D).2,decide ((chr1 D).1 < wrongN)):=by
 rw [firstR_eq D hD]
 by_cases h : RightD (decodeL D)
 ·have hc : chr1 D = decodeL D:=by unfold chr1; rw [if_pos h]
  have:=dec_rune_le (l:=D)
  have hlt : (decodeL D).1 < wrongN:=by unfold wrongN; omega
  rw [if_pos h,hc]
  unfold tokR
  rw [if_pos hlt,decide_eq_true hlt]
 ·have hc : chr1 D = (wrongN + bN D 0,1):=by unfold chr1; rw [if_neg h]
  rw [if_neg h,hc]
  unfold tokR
  rw [if_neg (by dsimp only; omega),decide_eq_false (by dsimp only; omega)]
  rfl
def CharsR (w : World) (l : List UInt8) (e : Ending) (w' : World) : Prop :=
 ∃ v,e = .returned v ∧ ChOwnR w.heap.size v (charsW l) w' ∧ Below w.heap.size w w'
theorem charsR6 (w : World) (l : List UInt8) (hm : l.length ≤ 67108864) :
  Calls Tryz.prog 25 #[.string (bstr l)] w (CharsR w l):=by
 obtain ⟨n,hn⟩ : ∃ n,n = l.length:=⟨_,rfl⟩
 have hsz : (bstr l).size = n:=by rw [bstr_size,hn]
 rw [← hn] at hm
 have HN:=Lib.hid hn
 clear hn
 go_enter Tryz.func25, Tryz.ntmps25
 go_wp2_with fail
 go_loopw [3,4] (fun vl ui wr => ∃ (i f : Nat) (acc : List (Nat × Nat × Nat)),ui = .int .i64 (i : Int) ∧ i ≤ n ∧ acc.length ≤ i ∧ Hid (n ≤ i + f ∧ acc ++ charsWGo f (l.drop i) i = charsW l ∧ ChOwnR w.heap.size vl acc wr ∧ Below w.heap.size w wr)) (fun _ ui _ => n - (RowKit.intOf ui).toNat)
 case atStart => exact ⟨0,l.length,[],rfl,Nat.zero_le _,Nat.le_refl _,Lib.hid ⟨by rw [HN.out]; omega,rfl,World.ownsRow_nil _ _ _ _,Below.refl _ _⟩⟩
 case round =>
  obtain ⟨i,f,acc,rfl,hi,hal,HR⟩:=hrel
  obtain ⟨vl,rfl⟩ : ∃ v : Value,v = u3:=⟨_,rfl⟩
  by_cases hlt : i < n
  ·obtain ⟨f,rfl⟩ : ∃ g,f = g + 1:=⟨f - 1,by have:=HR.out.1; omega⟩
   obtain ⟨D,hD⟩ : ∃ D,l.drop i = D:=⟨_,rfl⟩
   have hDl : D.length = n - i:=by rw [← hD,List.length_drop,HN.out]
   have hDn : D ≠ []:=by rintro rfl; simp at hDl; omega
   have hDt : D.take (n - i) = D:=List.take_of_length_le (by omega)
   have hF:=firstR6 wr D hDn (by omega)
   rw [first_chr hDn] at hF
   have hgo:=HR.out.2.1
   rw [hD,charsWGo_next hDn] at hgo
   have hwd:=chr1_width hDn
   have hit : (i : Int) < (n : Int):=by omega
   have hit2 : (i : Int) ≤ (n : Int):=by omega
   obtain ⟨v,hv⟩ : ∃ v,(chr1 D).1 = v:=⟨_,rfl⟩
   obtain ⟨K,hK⟩ : ∃ K,(chr1 D).2 = K:=⟨_,rfl⟩
   rw [hv,hK] at hF hgo
   rw [hK] at hwd
   have hcs : chCells (v,i,K) = [.int .i64 (i : Int),.int .i32 (tokR v : Int),.int .i64 (K : Int),.bool (decide (v < wrongN))]:=rfl
   obtain ⟨R,hR⟩ : ∃ R,tokR v = R:=⟨_,rfl⟩
   obtain ⟨bw,hbw⟩ : ∃ b,decide (v < wrongN) = b:=⟨_,rfl⟩
   rw [hR,hbw] at hcs
   dsimp only at hF
   rw [hR,hbw] at hF
   have HF:=Lib.hid hF
   have HGO:=Lib.hid hgo
   have HCS:=Lib.hid hcs
   have hDD:=Lib.hid hD
   have HO:=Lib.hid HR.out.2.2.1
   have HB0:=Lib.hid HR.out.2.2.2
   have hs0:=HB0.out.size
   clear hF hgo hcs hv hK hR hbw
   go_wp2_with (first
    | (go_at_call 42; refine (HF.out).mono ?_; rintro e w1 ⟨rfl,hb1⟩; have HO1:=Lib.hid (own_below HO.out hb1); have hs1:=hb1.size; have HB1:=Lib.hid (HB0.out.trans (hb1.mono HB0.out.size)); clear hb1)
    | (at_builtin; (with_reducible show wpList _ _ _ (Oper.mk (some 27) _ _ _ _ _ :: _) _ _); refine appSep rfl _ _ rfl Tryz.underlying67 (.agg #[.int .i64 0,.int .i32 0,.int .i64 0,.bool false]) 4 32 infoChar rfl (by decide) (by decide) w.heap.size w1 vl acc.length (acc.flatMap chCells) [.int .i64 (i : Int),.int .i32 (R : Int),.int .i64 (K : Int),.bool bw] rfl (by intro u hu; simp only [List.mem_cons,List.not_mem_nil,or_false] at hu; rcases hu with rfl | rfl | rfl | rfl <;> rfl) rfl HO1.out rfl rfl (by omega) (by omega) ?_; intro v8 w8 hp8; have HP8:=Lib.hid hp8; clear hp8))
   have HNX : Hid (n ≤ i + K + f ∧ (acc ++ [(v,i,K)]) ++ charsWGo f (l.drop (i + K)) (i + K) = charsW l ∧ ChOwnR w.heap.size v8 (acc ++ [(v,i,K)]) w8 ∧ Below w.heap.size w w8):=Lib.hid (by
    refine ⟨by have:=HR.out.1; omega,?_,?_,HB1.out.trans (HP8.out.below HO1.out (by omega))⟩
    ·rw [← HGO.out,← hDD.out,List.drop_drop]
     simp
    ·have h1:=HP8.out.1
     rw [← HCS.out] at h1
     exact ChOwnR.push h1)
   go_roundw
   case rel => exact ⟨i + K,f,acc ++ [(v,i,K)],by go_num,by omega,by rw [List.length_append,List.length_singleton]; omega,HNX⟩
   case measure => simp [RowKit.intOf]; omega
  ·obtain rfl : i = n:=by omega
   have hnl : ¬ (i : Int) < (i : Int):=by omega
   have hd : l.drop i = []:=List.drop_of_length_le (by rw [← HN.out]; exact Nat.le_refl _)
   have hgo:=HR.out.2.1
   rw [hd,charsWGo_stop,List.append_nil] at hgo
   have HGO:=Lib.hid hgo
   clear hd hgo hlt
   go_wp2_with fail
   go_ret
   exact ⟨vl,rfl,by rw [← HGO.out]; exact HR.out.2.2.1,HR.out.2.2.2⟩
def ReadsCh (w : World) (a : Option Addr) (n : Nat) (L : List (Nat × Nat × Nat)) : Prop :=
 L.length = n ∧ (0 < n → ∃ b,a = some ⟨b,0,none⟩ ∧ b < w.heap.size ∧ ∀ i p,L[i]? = some p → w.cell? ⟨b,i * 4,none⟩ = some (.int .i64 (p.2.1 : Int)) ∧ w.cell? ⟨b,i * 4 + 1,none⟩ = some (.int .i32 (tokR p.1 : Int)) ∧ w.cell? ⟨b,i * 4 + 2,none⟩ = some (.int .i64 (p.2.2 : Int)) ∧ w.cell? ⟨b,i * 4 + 3,none⟩ = some (.bool (decide (p.1 < wrongN))))
theorem ReadsCh.keep {B : Nat} {w w' : World} {a : Option Addr} {n : Nat} {L : List (Nat × Nat × Nat)} (h : ReadsCh w a n L) (hb : Below B w w') (hB : w.heap.size ≤ B) : ReadsCh w' a n L:=by
 obtain ⟨hl,h⟩:=h
 refine ⟨hl,fun hn => ?_⟩
 obtain ⟨b,ha,hlt,hc⟩:=h hn
 have hbk:=hb.block b (by omega)
 refine ⟨b,ha,Nat.lt_of_lt_of_le hlt hb.size,fun i p hp => ?_⟩
 obtain ⟨h1,h2,h3,h4⟩:=hc i p hp
 exact ⟨by rw [World.cell?_of_block (a:=⟨b,i * 4,none⟩) hbk]; exact h1,by rw [World.cell?_of_block (a:=⟨b,i * 4 + 1,none⟩) hbk]; exact h2,by rw [World.cell?_of_block (a:=⟨b,i * 4 + 2,none⟩) hbk]; exact h3,by rw [World.cell?_of_block (a:=⟨b,i * 4 + 3,none⟩) hbk]; exact h4⟩
theorem flatR_at {α : Type} (f : α → List Value) (m : Nat) (hf : ∀ x,(f x).length = m) : ∀ (L : List α) (i k : Nat) (p : α),L[i]? = some p → k < m → (L.flatMap f)[i * m + k]? = (f p)[k]?
 | [],i,k,p,h,_ => by simp at h
 | x :: L,0,k,p,h,hk => by
  simp only [List.getElem?_cons_zero,Option.some.injEq] at h
  subst h
  rw [List.flatMap_cons,Nat.zero_mul,Nat.zero_add,List.getElem?_append_left (by rw [hf]; exact hk)]
 | x :: L,i + 1,k,p,h,hk => by
  rw [List.getElem?_cons_succ] at h
  rw [List.flatMap_cons,List.getElem?_append_right (by rw [hf,Nat.add_mul]; omega),hf,show (i + 1) * m + k - m = i * m + k by rw [Nat.add_mul]; omega]
  exact flatR_at f m hf L i k p h hk
theorem ChOwnR.shape {B : Nat} {v : Value} {L : List (Nat × Nat × Nat)} {w : World} (h : ChOwnR B v L w) : ∃ a c,v = .slice a L.length c ∧ ReadsCh w a L.length L ∧ (∀ ad,a = some ad → B ≤ ad.block ∧ ad.block < w.heap.size):=by
 rcases h.2 with ⟨rfl,h0⟩ | ⟨g,cap,cur,rfl,hB,hg,hc1,hc2,hc3,hc4⟩
 ·exact ⟨none,0,by rw [h0],⟨rfl,fun h => by omega⟩,fun ad h => by cases h⟩
 ·have hgl:=(Array.getElem?_eq_some_iff.1 hg).1
  refine ⟨_,_,rfl,⟨rfl,fun hn => ⟨g,rfl,hgl,fun i p hp => ?_⟩⟩,fun ad h => by cases h; exact ⟨hB,hgl⟩⟩
  have hi : i < L.length:=(List.getElem?_eq_some_iff.1 hp).1
  have key : ∀ k,k < 4 → ∀ u,(chCells p)[k]? = some u → w.cell? ⟨g,i * 4 + k,none⟩ = some u:=by
   intro k hk u hu
   have h1:=flatR_at chCells 4 (fun _ => rfl) L i k p hp hk
   rw [hu,← hc4,List.getElem?_take] at h1
   rw [if_pos (by omega)] at h1
   simp only [World.cell?,hg]
   simpa using h1
  exact ⟨key 0 (by decide) _ rfl,key 1 (by decide) _ rfl,key 2 (by decide) _ rfl,key 3 (by decide) _ rfl⟩
theorem charsWGo_mem : ∀ (f : Nat) (l : List UInt8) (a : Nat) (p : Nat × Nat × Nat),p ∈ charsWGo f l a → a ≤ p.2.1 ∧ p.2.1 < a + l.length ∧ ((p.1 < wrongN ∧ (p.1 < 55296 ∨ 57343 < p.1)) ∨ p.1 = wrongN + bN l (p.2.1 - a)) ∧ p.1 < wrongN + 256
 | 0,l,a,p,h => by cases h
 | f + 1,l,a,p,h => by
  by_cases hl : l = []
  ·subst hl; rw [charsWGo_stop] at h; cases h
  ·have hw:=chr1_width hl
   rw [charsWGo_next hl] at h
   rcases List.mem_cons.1 h with rfl | h
   ·refine ⟨Nat.le_refl _,by show a < a + l.length; omega,?_,?_⟩
    ·dsimp only
     rw [Nat.sub_self]
     rcases chr1_ok hl with h1 | h1
     ·exact .inl h1
     ·right
      unfold chr1 at h1 ⊢
      split
      ·rename_i hr
       rw [if_pos hr] at h1
       have:=dec_rune_le (l:=l)
       have h2 : wrongN = 1114112:=rfl
       omega
      ·rfl
    ·dsimp only
     rcases chr1_ok hl with h1 | h1 <;> omega
   ·obtain ⟨h1,h2,h3,h4⟩:=charsWGo_mem f _ _ p h
    rw [List.length_drop] at h2
    refine ⟨by omega,by omega,?_,h4⟩
    rcases h3 with h3 | h3
    ·exact .inl h3
    ·right
     rw [h3]
     unfold bN
     rw [getD_drop]
     congr 3
     omega
theorem charsW_mem {l : List UInt8} {p : Nat × Nat × Nat} (h : p ∈ charsW l) : p.2.1 < l.length ∧ ((p.1 < wrongN ∧ (p.1 < 55296 ∨ 57343 < p.1)) ∨ p.1 = wrongN + bN l p.2.1) ∧ p.1 < wrongN + 256:=by
 obtain ⟨h1,h2,h3,h4⟩:=charsWGo_mem _ _ _ p h
 rw [Nat.sub_zero] at h3
 exact ⟨by omega,h3,h4⟩
theorem valueR6 (w : World) (l : List UInt8) (p : Nat × Nat × Nat) (hp : p ∈ charsW l) (hm : l.length ≤ 67108864) :
  Calls Tryz.prog 53 #[.string (bstr l),.agg #[.int .i64 (p.2.1 : Int),.int .i32 (tokR p.1 : Int),.int .i64 (p.2.2 : Int),.bool (decide (p.1 < wrongN))]] w fun e w' => e = .returned (.int .i64 (p.1 : Int)) ∧ Below w.heap.size w w':=by
 obtain ⟨h1,h2,h3⟩:=charsW_mem hp
 obtain ⟨v,a,k⟩:=p
 dsimp only at h1 h2 h3 ⊢
 have hsz : (bstr l).size = l.length:=bstr_size l
 have hb0 : ∀ x,Below w.heap.size w (w.alloc (.cells #[.int .i64 (a : Int),.int .i32 x,.int .i64 (k : Int),.bool (decide (v < wrongN))] 114)):=fun x => (Below.refl _ w).alloc (Nat.le_refl _) _
 by_cases hv : v < wrongN
 ·have e : tokR v = v:=by unfold tokR; rw [if_pos hv]
  have hvb : v ≤ 1114111:=by unfold wrongN at hv; omega
  rw [e]
  have HB:=Lib.hid (hb0 (v : Int))
  rw [decide_eq_true hv] at HB ⊢
  clear hb0 hv h1 h2 h3 hp e
  go_enter Tryz.func53, Tryz.ntmps53
  go_wp2_with fail
  go_ret
  exact ⟨rfl,HB.out⟩
 ·have e : tokR v = 65533:=by unfold tokR; rw [if_neg hv]
  rw [e]
  obtain ⟨x,hx,hbx⟩:=byte_at h1
  have ev : v = wrongN + x.toNat:=by
   rcases h2 with h2 | h2
   ·exact absurd h2.1 hv
   ·rw [h2,hbx]
  have i1 : a < (bstr l).size:=by rw [hsz]; exact h1
  have hxa : (bstr l)[a]'i1 = x:=bstr_at hx _
  have hxl:=x.toNat_lt
  have hai : (a : Int) < (l.length : Int):=by omega
  have HB:=Lib.hid (hb0 65533)
  rw [decide_eq_false hv] at HB ⊢
  have HEV : Hid ((v : Int) = 1114112 + (x.toNat : Int)):=Lib.hid (by rw [ev]; unfold wrongN; omega)
  have hal : a < l.length:=h1
  have hvv : v < 2000000:=by unfold wrongN at h3; omega
  clear hb0 hv h2 h3 hp e hx hbx ev
  go_enter Tryz.func53, Tryz.ntmps53
  go_wp2_with fail
  go_ret
  exact ⟨by rw [HEV.out]; rfl,HB.out⟩
end Go.Proofs.YtchdeboialbdiaaGreatDoor
