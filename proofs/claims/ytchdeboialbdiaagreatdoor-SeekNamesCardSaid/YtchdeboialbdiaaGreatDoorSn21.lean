/- Texts joined, one behind the other (SBegP, SMatch). -/
import Derived.Test.YtchdeboialbdiaaGreatDoorSn20
namespace Go.Proofs.YtchdeboialbdiaaGreatDoor
set_option linter.unusedVariables false
set_option linter.unusedSimpArgs false
set_option maxHeartbeats 8000000
set_option maxRecDepth 100000
open Go.RowKit
open Go.Lib hiding intOf
def folB (x : Nat) : Bool:=decide (x / 64 = 2)
def begGo (l : List UInt8) (p : Nat) : Nat → Nat → Bool
 | 0,_ => true
 | f + 1,b => if b ≤ p then (if folB (bN l (p - b)) = true then begGo l p f (b + 1) else decide ((decodeL (l.drop (p - b))).2 ≤ b)) else true
def begB (l : List UInt8) (p : Nat) : Bool:=if l.length ≤ p then decide (p = l.length) else if folB (bN l p) = true then begGo l p 3 1 else true
theorem dec_inner {X : List UInt8} {j : Nat} (h0 : 0 < j) (hj : j < (decodeL X).2) : folB (bN X j) = true:=by
 rw [decodeL_N] at hj
 unfold decodeN at hj
 refine decide_eq_true ?_
 unfold bN
 have h4 : j = 1 ∨ j = 2 ∨ j = 3 ∨ 4 ≤ j:=by omega
 revert hj
 repeat' split
 all_goals intro hj
 all_goals dsimp only at hj
 all_goals rcases h4 with rfl | rfl | rfl | h4
 all_goals omega
theorem chars_ge : ∀ (f : Nat) (l : List UInt8) (a p : Nat),p ∈ (charsGo f l a).map Prod.snd → a ≤ p
 | 0,l,a,p,h => by simp [charsGo] at h
 | f + 1,l,a,p,h => by
  by_cases hl : l = []
  ·subst hl; simp [charsGo] at h
  ·rw [charsGo_next hl,List.map_cons] at h
   rcases List.mem_cons.1 h with rfl | h
   ·exact Nat.le_refl _
   ·have:=chars_ge f _ _ p h
    omega
theorem dec_le_chr {l : List UInt8} (hl : l ≠ []) : (decodeL l).2 ≤ (chr1 l).2:=by
 unfold chr1
 split
 ·exact Nat.le_refl _
 ·rename_i h
  exact Nat.le_of_eq (not_right hl h).2
theorem chr_inner {l : List UInt8} {j : Nat} (h0 : 0 < j) (hj : j < (chr1 l).2) : folB (bN l j) = true:=by
 unfold chr1 at hj
 split at hj
 ·exact dec_inner h0 hj
 ·dsimp only at hj; omega
theorem bN_drop (l : List UInt8) (k j : Nat) : bN (l.drop k) j = bN l (k + j):=by
 unfold bN
 rw [List.getD_eq_getElem?_getD,List.getD_eq_getElem?_getD,List.getElem?_drop]
theorem chars_back : ∀ (f : Nat) (l : List UInt8) (a p t : Nat),l.length ≤ f → (p ∈ (charsGo f l a).map Prod.snd ∨ p = a + l.length) → a ≤ t → t < p → folB (bN l (t - a)) = false → (decodeL (l.drop (t - a))).2 + t ≤ p
 | 0,l,a,p,t,hf,hp,ha,ht,_ => by
  have : l.length = 0:=by omega
  rcases hp with h | h
  ·simp [charsGo] at h
  ·omega
 | f + 1,l,a,p,t,hf,hp,ha,ht,hfol => by
  by_cases hl : l = []
  ·subst hl
   rcases hp with h | h
   ·simp [charsGo] at h
   ·simp at h; omega
  ·have hw:=chr1_width hl
   rw [charsGo_next hl,List.map_cons] at hp
   have hp2 : p ∈ (charsGo f (l.drop (chr1 l).2) (a + (chr1 l).2)).map Prod.snd ∨ p = a + (chr1 l).2 + (l.drop (chr1 l).2).length:=by
    rcases hp with h | h
    ·rcases List.mem_cons.1 h with h | h
     ·omega
     ·exact .inl h
    ·right
     rw [List.length_drop]
     omega
   have hge : a + (chr1 l).2 ≤ p:=by
    rcases hp2 with h | h
    ·exact chars_ge f _ _ p h
    ·omega
   by_cases h1 : t = a
   ·subst h1
    rw [Nat.sub_self,List.drop_zero]
    have:=dec_le_chr hl
    omega
   ·by_cases h2 : t < a + (chr1 l).2
    ·have:=chr_inner (l:=l) (j:=t - a) (by omega) (by omega)
     rw [hfol] at this
     cases this
    ·have ih:=chars_back f (l.drop (chr1 l).2) (a + (chr1 l).2) p t (by rw [List.length_drop]; omega) hp2 (by omega) ht (by rw [bN_drop,show (chr1 l).2 + (t - (a + (chr1 l).2)) = t - a by omega]; exact hfol)
     rw [List.drop_drop,show (chr1 l).2 + (t - (a + (chr1 l).2)) = t - a by omega] at ih
     exact ih
theorem begGo_true (l : List UInt8) (p : Nat) (hp : p ∈ atsL l) : ∀ f b,1 ≤ b → begGo l p f b = true
 | 0,b,_ => rfl
 | f + 1,b,hb => by
  rw [begGo]
  by_cases h1 : b ≤ p
  ·rw [if_pos h1]
   by_cases h2 : folB (bN l (p - b)) = true
   ·rw [if_pos h2]
    exact begGo_true l p hp f (b + 1) (by omega)
   ·rw [if_neg h2]
    refine decide_eq_true ?_
    have hpp : p ∈ (charsGo l.length l 0).map Prod.snd ∨ p = 0 + l.length:=by
     unfold atsL at hp
     rcases List.mem_append.1 hp with h | h
     ·exact .inl h
     ·rw [List.mem_singleton] at h
      exact .inr (by omega)
    have:=chars_back l.length l 0 p (p - b) (Nat.le_refl _) hpp (Nat.zero_le _) (by omega) (by rw [Nat.sub_zero]; simpa using h2)
    rw [Nat.sub_zero] at this
    omega
  ·rw [if_neg h1]
theorem begB_true {l : List UInt8} {p : Nat} (hp : p ∈ atsL l) (hl : p ≤ l.length) : begB l p = true:=by
 unfold begB
 by_cases h1 : l.length ≤ p
 ·rw [if_pos h1]
  exact decide_eq_true (by omega)
 ·rw [if_neg h1]
  by_cases h2 : folB (bN l p) = true
  ·rw [if_pos h2]
   exact begGo_true l p hp 3 1 (Nat.le_refl _)
  ·rw [if_neg h2]
theorem fol_tab : ∀ x : Fin 256,(bits BinOp.and IntKind.u8 ((x.val : Nat) : Int) 192 == 128) = folB x.val:=by decide +kernel
theorem followsC (w : World) (x : UInt8) : Calls Tryz.prog 44 #[.int .u8 (x.toNat : Int)] w fun e w' => e = .returned (.bool (folB x.toNat)) ∧ w' = w:=by
 have h:=fol_tab ⟨x.toNat,x.toNat_lt⟩
 have hx:=x.toNat_lt
 have HH:=Lib.hid h
 clear h
 go_enter Tryz.func44, Tryz.ntmps44
 go_wp2_with fail
 go_ret
 refine ⟨?_,rfl⟩
 rw [← HH.out]
 rfl
theorem beginsC (w : World) (l : List UInt8) (p : Nat) (hp : p ≤ l.length) (hm : l.length ≤ 67108864) (hT : Tabs w) : Calls Tryz.prog 28 #[.string (bstr l),.int .i64 (p : Int)] w fun e w' => e = .returned (.bool (begB l p)) ∧ Below w.heap.size w w':=by
 have hp0 : ¬ (p : Int) < 0:=by omega
 have hsz : (bstr l).size = l.length:=bstr_size l
 by_cases hend : p = l.length
 ·have e : begB l p = true:=by unfold begB; rw [if_pos (by omega)]; exact decide_eq_true hend
  rw [e]
  have h1 : (l.length : Int) ≤ (p : Int):=by omega
  have h2 : ((p : Int) == (l.length : Int)) = true:=by rw [beq_iff_eq]; omega
  clear e hend hT
  go_enter Tryz.func28, Tryz.ntmps28
  go_wp2_with fail
  go_ret
  exact ⟨rfl,Below.refl _ _⟩
 have hlt : p < l.length:=by omega
 obtain ⟨x,hx⟩:=some_at hlt
 have i1 : p < (bstr l).size:=by rw [hsz]; exact hlt
 have hxa : (bstr l)[p]'i1 = x:=bstr_at hx _
 have hb : bN l p = x.toNat:=by unfold bN; rw [List.getD_eq_getElem?_getD,hx]; rfl
 have h1 : ¬ (l.length : Int) ≤ (p : Int):=by omega
 have h1' : (p : Int) < (l.length : Int):=by omega
 have hxl:=x.toNat_lt
 have HFX:=Lib.hid (fun w => followsC w x)
 obtain ⟨fb,hfb⟩ : ∃ b,folB x.toNat = b:=⟨_,rfl⟩
 rw [hfb] at HFX
 cases fb with
 | false =>
  have e : begB l p = true:=by unfold begB; rw [if_neg (by omega),hb,if_neg (by rw [hfb]; decide)]
  rw [e]
  clear e hfb hT hx hb
  go_enter Tryz.func28, Tryz.ntmps28
  go_wp2_with (go_at_call 44; refine (HFX.out _).mono ?_; rintro e w' ⟨rfl,rfl⟩)
  go_ret
  exact ⟨rfl,Below.refl _ _⟩
 | true =>
  have e : begB l p = begGo l p 3 1:=by unfold begB; rw [if_neg (by omega),hb,if_pos hfb]
  obtain ⟨T,hT0⟩ : ∃ T,begGo l p 3 1 = T:=⟨_,rfl⟩
  rw [e,hT0]
  have HT0:=Lib.hid hT0
  have HT:=Lib.hid hT
  clear e hfb hT hx hb hT0
  go_enter Tryz.func28, Tryz.ntmps28
  go_wp2_with (go_at_call 44; refine (HFX.out _).mono ?_; rintro e w' ⟨rfl,rfl⟩)
  go_loopw [5] (fun ub wr => ∃ b : Nat,ub = .int .i64 (b : Int) ∧ 1 ≤ b ∧ b ≤ 4 ∧ wr = w' ∧ Hid (begGo l p (4 - b) b = T)) (fun ub _ => 4 - (RowKit.intOf ub).toNat)
  case atStart => exact ⟨1,rfl,by omega,by omega,rfl,HT0⟩
  case round =>
   obtain ⟨b,rfl,hb1,hb4,rfl,HI⟩:=hrel
   by_cases hgo : b < 4 ∧ b ≤ p
   ·obtain ⟨hb,hbp⟩:=hgo
    obtain ⟨q,hq⟩ : ∃ q,p - b = q:=⟨_,rfl⟩
    have hq1 : (p : Int) - (b : Int) = (q : Int):=by omega
    have hq2 : IntKind.i64.wrap ((p : Int) - (b : Int)) = (q : Int):=by rw [hq1]; exact IntWalk.i64_in _ (by omega)
    have hql : q < l.length:=by omega
    obtain ⟨y,hy⟩:=some_at hql
    have i2 : q < (bstr l).size:=by rw [hsz]; exact hql
    have hya : (bstr l)[q]'i2 = y:=bstr_at hy _
    have hby : bN l q = y.toNat:=by unfold bN; rw [List.getD_eq_getElem?_getD,hy]; rfl
    have hqi : (q : Int) < (l.length : Int):=by omega
    have hqle : (q : Int) ≤ (l.length : Int):=by omega
    have hbi : (b : Int) < 4:=by omega
    have hbpi : (b : Int) ≤ (p : Int):=by omega
    have hyl:=y.toNat_lt
    have hI:=HI.out
    rw [show 4 - b = (3 - b) + 1 by omega,begGo,if_pos hbp,hq,hby] at hI
    have HFY:=Lib.hid (fun w => followsC w y)
    obtain ⟨fy,hfy⟩ : ∃ b,folB y.toNat = b:=⟨_,rfl⟩
    rw [hfy] at HFY hI
    cases fy with
    | true =>
     rw [if_pos rfl] at hI
     have HIN:=Lib.hid hI
     clear hI hfy hby hy hq
     go_wp2_with (go_at_call 44; refine (HFY.out _).mono ?_; rintro e w9 ⟨rfl,rfl⟩)
     go_roundw
     case rel => exact ⟨b + 1,by go_num,by omega,by omega,by first | rfl | trivial,by rw [show 4 - (b + 1) = 3 - b by omega]; exact HIN⟩
     case measure => simp [RowKit.intOf]; omega
    | false =>
     rw [if_neg (by decide)] at hI
     obtain ⟨D,hD⟩ : ∃ D,l.drop q = D:=⟨_,rfl⟩
     have hDn : D ≠ []:=by rw [← hD]; intro e; have:=congrArg List.length e; simp at this; omega
     have hDl : D.length = l.length - q:=by rw [← hD,List.length_drop]
     have hDt : D.take (l.length - q) = D:=List.take_of_length_le (by omega)
     rw [hD] at hI
     have HF:=Lib.hid (fun (W : World) (h : Tabs W) => firstC W D hDn h)
     obtain ⟨K,hK⟩ : ∃ K,(decodeL D).2 = K:=⟨_,rfl⟩
     obtain ⟨RR,hRR⟩ : ∃ R,(decodeL D).1 = R:=⟨_,rfl⟩
     have hKw:=dec_width_four (l:=D)
     rw [hK] at hI hKw
     rw [hK,hRR] at HF
     generalize decide (RightD (decodeL D)) = rb at *
     have hKb : decide (K ≤ b) = decide ((K : Int) ≤ (b : Int)):=by rw [decide_eq_decide]; omega
     have HKB:=Lib.hid hKb
     have HIN:=Lib.hid hI
     clear hI hfy hby hy hq hK hRR hKb
     go_wp2_with (first
      | (go_at_call 44; refine (HFY.out _).mono ?_; rintro e w9 ⟨rfl,rfl⟩)
      | (go_at_call 45; refine (HF.out _ HT.out).mono ?_; rintro e w8 ⟨rfl,hb8⟩))
     go_ret
     exact ⟨by first | (rw [← HIN.out]; rfl) | (rw [← HIN.out,HKB.out]; rfl),hb8⟩
   ·have hI : T = true:=by
     rw [← HI.out]
     by_cases hb : b < 4
     ·rw [show 4 - b = (3 - b) + 1 by omega,begGo,if_neg (by omega)]
     ·rw [show 4 - b = 0 by omega,begGo]
    subst hI
    by_cases hb : b < 4
    ·have hbi : (b : Int) < 4:=by omega
     have hbp : ¬ (b : Int) ≤ (p : Int):=by omega
     have hbp2 : (p : Int) < (b : Int):=by omega
     go_wp2_with fail
     go_ret
     exact ⟨rfl,Below.refl _ _⟩
    ·have hbi : ¬ (b : Int) < 4:=by omega
     have hbi2 : (4 : Int) ≤ (b : Int):=by omega
     go_wp2_with fail
     go_ret
     exact ⟨rfl,Below.refl _ _⟩
def matchGo (fo : Bool) (V A : List Nat) (its : List Itm) (p : Int) : Nat → Nat → Option Nat
 | 0,_ => none
 | f + 1,i => if (A.getD i 0 : Int) = p then (match longestP fo V its i with | some j => some (A.getD j 0) | none => none) else matchGo fo V A its p f (i + 1)
def matchP (fo : Bool) (l : List UInt8) (its : List Itm) (p : Int) : Option Nat:=matchGo fo (valsL l) (atsL l) its p ((valsL l).length + 1) 0
def placeV (o : Option Nat) : Value:=match o with
 | some y => .tuple #[.int .i64 (y : Int),.bool true]
 | none => .tuple #[.int .i64 0,.bool false]
theorem chars_lt : ∀ (f : Nat) (l : List UInt8) (a p : Nat),p ∈ (charsGo f l a).map Prod.snd → p < a + l.length
 | 0,l,a,p,h => by simp [charsGo] at h
 | f + 1,l,a,p,h => by
  by_cases hl : l = []
  ·subst hl; simp [charsGo] at h
  ·have hw:=chr1_width hl
   rw [charsGo_next hl,List.map_cons] at h
   rcases List.mem_cons.1 h with rfl | h
   ·omega
   ·have:=chars_lt f _ _ p h
    rw [List.length_drop] at this
    omega
theorem ats_le {l : List UInt8} {x : Nat} (h : x ∈ atsL l) : x ≤ l.length:=by
 unfold atsL at h
 rcases List.mem_append.1 h with h | h
 ·have:=chars_lt _ _ _ _ h
  omega
 ·rw [List.mem_singleton] at h
  omega
theorem matchGo_none {fo : Bool} {V A : List Nat} {its : List Itm} {p : Int} (h : ∀ x ∈ A,(x : Int) ≠ p) : ∀ f i,i + f ≤ A.length → matchGo fo V A its p f i = none
 | 0,i,_ => rfl
 | f + 1,i,hi => by
  have hx:=getD_at (A:=A) (k:=i) (by omega)
  rw [matchGo,if_neg (h _ (List.mem_of_getElem? hx))]
  exact matchGo_none h f (i + 1) (by omega)
theorem match_none {fo : Bool} {l : List UInt8} {its : List Itm} {p : Int} (h : ∀ x ∈ atsL l,(x : Int) ≠ p) : matchP fo l its p = none:=matchGo_none h _ _ (by rw [ats_len]; omega)
theorem matchPC (w : World) (g : Nat) (lp l : List UInt8) (fo : Bool) (its : List Itm) (at_ : Int) (hP : PatIs w g lp fo its) (hm : l.length ≤ 67108000) (hl : its.length ≤ 67108864) (hT : Tabs w) :
  Calls Tryz.prog 8 #[.pointer (some ⟨g,0,none⟩),.string (bstr l),.int .i64 at_] w fun e w' => e = .returned (placeV (matchP fo l its at_)) ∧ Below w.heap.size w w':=by
 obtain ⟨vm,Lm,Bm,hrow,hrest⟩:=id hP
 have p1 : w.cell? ⟨g,1,none⟩ = some (.bool true):=hrow.cell 1
 have p2:=hrow.lt
 by_cases hneg : at_ < 0
 ·rw [match_none (fun x _ => by omega)]
  clear hP hrow hrest hT
  go_enter Tryz.func8, Tryz.ntmps8
  go_wp2_with fail
  go_ret2
  exact ⟨rfl,Below.refl _ _⟩
 by_cases hbig : (l.length : Int) < at_
 ·rw [match_none (fun x hx => by have:=ats_le hx; omega)]
  clear hP hrow hrest hT
  have hnn : 0 ≤ at_:=by omega
  have hb2 : ¬ at_ ≤ (l.length : Int):=by omega
  go_enter Tryz.func8, Tryz.ntmps8
  go_wp2_with fail
  go_ret2
  exact ⟨rfl,Below.refl _ _⟩
 obtain ⟨p,rfl⟩ : ∃ p : Nat,(p : Int) = at_:=⟨at_.toNat,by omega⟩
 have hpl : p ≤ l.length:=by omega
 have hBg:=beginsC w l p hpl (by omega) hT
 have hle : (p : Int) ≤ (l.length : Int):=by omega
 have hnlt : ¬ (l.length : Int) < (p : Int):=by omega
 obtain ⟨bg,hbg⟩ : ∃ b,begB l p = b:=⟨_,rfl⟩
 rw [hbg] at hBg
 cases bg with
 | false =>
  rw [match_none (fun x hx => by
   intro e
   obtain rfl : x = p:=by omega
   rw [begB_true hx hpl] at hbg
   cases hbg)]
  have HBG:=Lib.hid hBg
  clear hP hrow hrest hT hBg hbg
  go_enter Tryz.func8, Tryz.ntmps8
  go_wp2_with (go_at_call 28; refine (HBG.out).mono ?_; rintro e w1 ⟨rfl,hb1⟩)
  go_ret2
  exact ⟨rfl,hb1⟩
 | true =>
  have HBG:=Lib.hid hBg
  have hX:=fun (W : World) (h : Below w.heap.size w W) => textOfC W l (by omega) (hT.below h hT.size)
  have hal:=ats_len l
  have hvl:=vals_len l
  have hok:=vals_ok l
  unfold matchP
  unfold TextP at hX
  obtain ⟨V,hV⟩ : ∃ V,valsL l = V:=⟨_,rfl⟩
  obtain ⟨A,hA⟩ : ∃ A,atsL l = A:=⟨_,rfl⟩
  obtain ⟨n,hn⟩ : ∃ n,V.length = n:=⟨_,rfl⟩
  rw [hV] at hX hvl hok hal ⊢
  rw [hA] at hX hal ⊢
  rw [hn] at hX hvl hal ⊢
  have HN:=Lib.hid hn
  have HAL:=Lib.hid hal
  have HOK:=Lib.hid hok
  have HX:=Lib.hid hX
  have HP:=Lib.hid hP
  obtain ⟨T,hT0⟩ : ∃ T,matchGo fo V A its (p : Int) (n + 1) 0 = T:=⟨_,rfl⟩
  rw [hT0]
  have HT0:=Lib.hid hT0
  have hnb : n ≤ 67108000:=by omega
  clear hX hal hvl hok hV hA hn hP hrow hrest hT hT0 hm hBg hbg hneg hbig
  go_enter Tryz.func8, Tryz.ntmps8
  go_wp2_with (first
   | (go_at_call 28; refine (HBG.out).mono ?_; rintro e w1 ⟨rfl,hb1⟩; have HB1:=Lib.hid hb1; clear hb1)
   | (go_at_call 29; refine (HX.out w1 HB1.out).mono ?_; rintro e w2 ⟨a,c,a2,c2,rfl,hrt,hai,hb2⟩; have HRT:=Lib.hid hrt; have HAI:=Lib.hid hai; have HB2:=Lib.hid (HB1.out.trans (hb2.mono HB1.out.size)); clear hrt hai hb2))
  have hw3 : ∀ W,W = w2.alloc (.cells #[.slice a n c,.slice a2 (n + 1) c2] 75) → Below w.heap.size w W ∧ Row W w2.heap.size 75 [.slice a n c,.slice a2 (n + 1) c2]:=by
   rintro W rfl
   exact ⟨HB2.out.alloc HB2.out.size _,row_new w2 [.slice a n c,.slice a2 (n + 1) c2] _⟩
  have HW3:=Lib.hid hw3
  clear hw3
  go_loopw [42] (fun uk wr => ∃ k : Nat,uk = .int .i64 (k : Int) ∧ k ≤ n + 1 ∧ Hid (Below w.heap.size w wr ∧ Below w2.heap.size w2 wr ∧ Row wr w2.heap.size 75 [.slice a n c,.slice a2 (n + 1) c2] ∧ matchGo fo V A its (p : Int) (n + 1 - k) k = T)) (fun uk _ => n + 1 - (RowKit.intOf uk).toNat)
  case atStart =>
   obtain ⟨h1,h3⟩:=HW3.out _ rfl
   exact ⟨0,rfl,Nat.zero_le _,Lib.hid ⟨h1,(Below.refl _ w2).alloc (Nat.le_refl _) _,h3,HT0.out⟩⟩
  case round =>
   obtain ⟨k,rfl,hk,HR⟩:=hrel
   have t0:=HR.out.2.2.1.cell 0
   have t1:=HR.out.2.2.1.cell 1
   have t2:=HR.out.2.2.1.lt
   by_cases hlt : k < n + 1
   ·obtain ⟨ga,rfl,hga,hac⟩:=HAI.out
    have x0 : wr.cell? ⟨ga,k,none⟩ = some (.int .i64 ((A.getD k 0 : Nat) : Int)):=by
     rw [World.cell?_of_block (a:=⟨ga,k,none⟩) (HR.out.2.1.block ga hga)]
     exact hac _ _ (getD_at (by rw [HAL.out]; exact hlt))
    have hT1:=HR.out.2.2.2
    rw [show n + 1 - k = (n - k) + 1 by omega,matchGo] at hT1
    obtain ⟨x,hx⟩ : ∃ x,A.getD k 0 = x:=⟨_,rfl⟩
    rw [hx] at x0 hT1
    clear hx
    have hlk : (k : Int) < ((n + 1 : Nat) : Int):=by omega
    have hlk2 : (k : Int) < (n : Int) + 1:=by omega
    by_cases hfr : (x : Int) = (p : Int)
    ·rw [if_pos hfr] at hT1
     have hfr2 : ((x : Int) == (p : Int)) = true:=by rw [beq_iff_eq]; exact hfr
     have hM:=matchC wr g lp fo its a (some ⟨ga,0,none⟩) n c (n + 1) c2 V k (HP.out.keep HR.out.1) (HRT.out.keep HR.out.2.1 (Nat.le_refl _)) HOK.out (by omega) (by omega) hl
     clear hfr
     cases hlo : longestP fo V its k with
     | none =>
      rw [hlo] at hM hT1
      dsimp only at hT1
      subst hT1
      have HM2 : Hid (Calls Tryz.prog 30 #[.pointer (some ⟨g,0,none⟩),.agg #[.slice a n c,.slice (some ⟨ga,0,none⟩) (n + 1) c2],.int .i64 (k : Int)] wr fun e w' => e = .returned (.int .i64 (-1)) ∧ Below wr.heap.size wr w'):=Lib.hid hM
      clear hM hlo hac
      go_wp2_with (go_at_call 30; refine (HM2.out).mono ?_; rintro e w5 ⟨rfl,hb5⟩; have HB5:=Lib.hid hb5; clear hb5)
      go_ret2
      exact ⟨rfl,HR.out.1.trans (HB5.out.mono HR.out.1.size)⟩
     | some j =>
      rw [hlo] at hM hT1
      dsimp only at hT1
      have hjn : j ≤ n:=by have:=longest_le hlo; have:=HN.out; omega
      have x1 : ∀ W,Below w2.heap.size w2 W → W.cell? ⟨ga,j,none⟩ = some (.int .i64 ((A.getD j 0 : Nat) : Int)):=fun W hW => by
       rw [World.cell?_of_block (a:=⟨ga,j,none⟩) (hW.block ga hga)]
       exact hac _ _ (getD_at (by rw [HAL.out]; omega))
      obtain ⟨y,hy⟩ : ∃ y,A.getD j 0 = y:=⟨_,rfl⟩
      rw [hy] at x1 hT1
      subst hT1
      have HX1:=Lib.hid x1
      have HM : Hid (Calls Tryz.prog 30 #[.pointer (some ⟨g,0,none⟩),.agg #[.slice a n c,.slice (some ⟨ga,0,none⟩) (n + 1) c2],.int .i64 (k : Int)] wr fun e w' => e = .returned (.int .i64 (j : Int)) ∧ Below wr.heap.size wr w'):=Lib.hid hM
      have hjl : (j : Int) < ((n + 1 : Nat) : Int):=by omega
      have hjl2 : (j : Int) < (n : Int) + 1:=by omega
      clear hM hlo hac hy x1
      go_wp2_with (go_at_call 30; refine (HM.out).mono ?_; rintro e w5 ⟨rfl,hb5⟩; have y0:=HX1.out w5 (HR.out.2.1.trans (hb5.mono HR.out.2.1.size)); have k1:=HR.out.2.2.1.keep hb5 HR.out.2.2.1.lt; have k2:=k1.cell 1; have HB5:=Lib.hid hb5; clear hb5 k1)
      go_ret2
      exact ⟨rfl,HR.out.1.trans (HB5.out.mono HR.out.1.size)⟩
    ·rw [if_neg hfr] at hT1
     have hfr2 : ((x : Int) == (p : Int)) = false:=by rw [beq_eq_false_iff_ne]; exact hfr
     have HT1:=Lib.hid hT1
     clear hT1 hac hfr
     go_wp2_with fail
     go_roundw
     case rel => exact ⟨k + 1,by go_num,by omega,Lib.hid ⟨HR.out.1,HR.out.2.1,HR.out.2.2.1,by rw [show n + 1 - (k + 1) = n - k by omega]; exact HT1.out⟩⟩
     case measure => simp [RowKit.intOf]; omega
   ·obtain rfl : k = n + 1:=by omega
    have hnl : ¬ ((n + 1 : Nat) : Int) < ((n + 1 : Nat) : Int):=by omega
    have hT1:=HR.out.2.2.2
    rw [Nat.sub_self,matchGo] at hT1
    subst hT1
    clear hlt hk
    go_wp2_with fail
    go_ret2
    exact ⟨rfl,HR.out.1⟩
end Go.Proofs.YtchdeboialbdiaaGreatDoor
