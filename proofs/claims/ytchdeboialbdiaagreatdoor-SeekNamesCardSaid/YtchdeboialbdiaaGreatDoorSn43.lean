/- Texts joined, one behind the other (SWByte, SQuote, SChrP, SPartP). -/
import Derived.Test.YtchdeboialbdiaaGreatDoorSn42
import Derived.Shelf.Strings.BuilderK
import Derived.Lib.IndexAny
import Derived.Lib.MapLaws
namespace Go.Proofs.YtchdeboialbdiaaGreatDoor
set_option linter.unusedVariables false
set_option linter.unusedSimpArgs false
set_option maxHeartbeats 8000000
set_option maxRecDepth 100000
open Go.Shelf
open Go.RowKit
def wb_ren : Go.Shelf.Ren:=⟨fun | 167 => 62 | 240 => 89 | 276 => 107 | n => n,fun | 0 => 0 | 3 => 3 | 4 => 4 | 5 => 5 | 9 => 9 | 20 => 20 | 37 => 32 | 70 => 143 | 72 => 145 | 75 => 49 | 80 => 46 | 164 => 130 | n => n,fun | n => n⟩
theorem wb_lays : Go.Proofs.Lays.n167 Tryz.prog wb_ren:={
 mixed:=by kernel_rfl
 f167:=Tryz.func62.trans (congrArg some (by kernel_rfl))
 f240:=Tryz.func89.trans (congrArg some (by kernel_rfl))
 f276:=Tryz.func107.trans (congrArg some (by kernel_rfl))
 t0:=Tryz.underlying0
 a0:=Tryz.isAgg0
 z0:=Tryz.sizeOf0
 v0:=Tryz.zeroValue0
 t4:=Tryz.underlying4
 a4:=Tryz.isAgg4
 z4:=Tryz.sizeOf4
 v4:=Tryz.zeroValue4
 t5:=Tryz.underlying5
 a5:=Tryz.isAgg5
 z5:=Tryz.sizeOf5
 v5:=Tryz.zeroValue5
 t9:=Tryz.underlying9
 a9:=Tryz.isAgg9
 z9:=Tryz.sizeOf9
 v9:=Tryz.zeroValue9
 t20:=Tryz.underlying20
 a20:=Tryz.isAgg20
 z20:=Tryz.sizeOf20
 v20:=Tryz.zeroValue20
 t37:=Tryz.underlying32
 a37:=Tryz.isAgg32
 z37:=Tryz.sizeOf32
 v37:=Tryz.zeroValue32
 t70:=Tryz.underlying143
 a70:=Tryz.isAgg143
 z70:=Tryz.sizeOf143
 v70:=Tryz.zeroValue143
 t72:=Tryz.underlying145
 a72:=Tryz.isAgg145
 z72:=Tryz.sizeOf145
 v72:=Tryz.zeroValue145
 t75:=Tryz.underlying49
 a75:=Tryz.isAgg49
 z75:=Tryz.sizeOf49
 v75:=Tryz.zeroValue49
 t164:=Tryz.underlying130
 a164:=Tryz.isAgg130
 z164:=Tryz.sizeOf130
 v164:=Tryz.zeroValue130
}
theorem wb_extra : Builder.Extra Tryz.prog wb_ren:={
 sizeBuilder:=by kernel_rfl
 liesBuilder:=by kernel_rfl
 t5:=Tryz.underlying5
 a5:=Tryz.isAgg5
 z5:=Tryz.sizeOf5
 v5:=Tryz.zeroValue5
 infoByte:=by kernel_rfl
 cellsByte:=by kernel_rfl
 sizeByte:=by kernel_rfl
 neB5:=by decide }
theorem writeByteC (B b : Nat) (bs : List Value) (c : Int) (w : World) (h : Lib.IsBuilderF 145 5 B b bs w) (hlen : bs.length + 1 ≤ 140737488355328) (hBw : B ≤ w.heap.size) :
  Calls Tryz.prog 62 #[.pointer (some ⟨b,0,none⟩),.int .u8 c] w fun e w' => e = .returned .nilIface ∧ (Lib.BuilderAtF 145 5 B b (.pointer (some ⟨b,0,none⟩)) (bs ++ [.int .u8 c]) w' ∧ Below B w w' ∧ Lib.OthersKept 5 (some b) w w'):=Any.Builder_WriteByte_k wb_lays wb_extra B b bs c w h hlen hBw
end Go.Proofs.YtchdeboialbdiaaGreatDoor
namespace Go.Proofs.YtchdeboialbdiaaGreatDoor
set_option linter.unusedVariables false
set_option linter.unusedSimpArgs false
set_option maxHeartbeats 8000000
set_option maxRecDepth 100000
open Go.RowKit
open Go.Lib hiding intOf
def qMarks : List UInt8:=[46,91,93,42,43,63,94,36,92]
def qm (x : UInt8) : Bool:=qMarks.contains x
def qOne (x : UInt8) : List UInt8:=if qm x = true then [92,x] else [x]
def quoteL (l : List UInt8) : List UInt8:=l.flatMap qOne
def IsBq (B : Nat) (acc : List UInt8) (w : World) : Prop:=Lib.IsBuilderF 145 5 B B (Lib.byteCells acc) w
theorem isBq_fresh (w : World) : IsBq w.heap.size [] (w.alloc (.cells #[.pointer none,.slice none 0 0] 145)):=Lib.IsBuilderF.of (Lib.fresh_isBuilder _ _ w)
theorem writeB (B : Nat) (acc : List UInt8) (x : UInt8) (w : World) (h : IsBq B acc w) (hl : acc.length ≤ 1099511627776) (hB : B ≤ w.heap.size) :
  Calls Tryz.prog 62 #[.pointer (some ⟨B,0,none⟩),.int .u8 (x.toNat : Int)] w fun e w' => e = .returned .nilIface ∧ IsBq B (acc ++ [x]) w' ∧ Below B w w':=by
 refine (writeByteC B B _ (x.toNat : Int) w h (by rw [Lib.byteCells_length]; omega) hB).mono ?_
 rintro e w' ⟨rfl,h1,b1,_⟩
 exact ⟨rfl,by unfold IsBq; rw [Lib.byteCells_append]; exact Or.inr h1,b1⟩
theorem stringB (B : Nat) (acc : List UInt8) (w : World) (h : IsBq B acc w) (hB : B ≤ w.heap.size) :
  Calls Tryz.prog 63 #[.pointer (some ⟨B,0,none⟩)] w fun e w' => e = .returned (.string (bstr acc)) ∧ Below B w w':=by
 refine (Tryz.Builder_String_any_k B B acc w h hB).mono ?_
 rintro e w' ⟨rfl,_,b1,_⟩
 exact ⟨rfl,b1⟩
theorem indexB (w : World) (x : UInt8) : Calls Tryz.prog 61 #[.string { data:=#[46,91,93,42,43,63,94,36,92] },.int .u8 (x.toNat : Int)] w fun e w' => e = .returned (.int .i64 (Lib.indexByte qMarks x)) ∧ w' = w:=by
 have h:=Tryz.strings_IndexByte (bstr qMarks) (x.toNat : Int) w
 have e1 : ((x.toNat : Nat) : Int).toNat.toUInt8 = x:=by
  rw [Int.toNat_natCast]
  exact UInt8.ofNat_toNat
 rw [e1] at h
 exact h
theorem qOne_len (x : UInt8) : (qOne x).length ≤ 2:=by unfold qOne; split <;> simp
theorem quoteC (w : World) (l : List UInt8) (hm : l.length ≤ 67108864) : Calls Tryz.prog 41 #[.string (bstr l)] w fun e w' => e = .returned (.string (bstr (quoteL l))) ∧ Below w.heap.size w w':=by
 obtain ⟨n,hn⟩ : ∃ n,l.length = n:=⟨_,rfl⟩
 have hsz : (bstr l).size = n:=by rw [bstr_size,hn]
 have HB0:=Lib.hid (isBq_fresh w)
 have HN:=Lib.hid hn
 rw [hn] at hm
 have hln : (l.length : Int) = (n : Int):=by rw [hn]
 clear hn
 go_enter Tryz.func41, Tryz.ntmps41
 go_wp2_with fail
 go_loopw [7] (fun uk wr => ∃ (i : Nat) (acc : List UInt8),uk = .int .i64 (i : Int) ∧ i ≤ n ∧ acc.length ≤ 2 * i ∧ Hid (IsBq w.heap.size acc wr ∧ Below w.heap.size w wr ∧ acc ++ quoteL (l.drop i) = quoteL l)) (fun uk _ => n - (RowKit.intOf uk).toNat)
 case atStart => exact ⟨0,[],rfl,Nat.zero_le _,Nat.le_refl _,Lib.hid ⟨HB0.out,(Below.refl _ w).alloc (Nat.le_refl _) _,rfl⟩⟩
 case round =>
  obtain ⟨i,acc,rfl,hi,hacc,HR⟩:=hrel
  have hBr:=HR.out.2.1.size
  by_cases hlt : i < n
  ·obtain ⟨x,hx⟩:=some_at (l:=l) (k:=i) (by have:=HN.out; omega)
   have i1 : i < (bstr l).size:=by rw [hsz]; exact hlt
   have hxa : (bstr l)[i]'i1 = x:=bstr_at hx _
   have hdrop : l.drop i = x :: l.drop (i + 1):=by
    have h2:=(List.getElem?_eq_some_iff.1 hx).1
    have h3 : l[i] = x:=Option.some.inj ((List.getElem?_eq_getElem h2).symm.trans hx)
    rw [List.drop_eq_getElem_cons h2,h3]
   have hq:=HR.out.2.2
   rw [hdrop] at hq
   change acc ++ (qOne x ++ quoteL (l.drop (i + 1))) = quoteL l at hq
   rw [← List.append_assoc] at hq
   have HQ:=Lib.hid hq
   have HIX:=Lib.hid (fun w => indexB w x)
   have hqm : qm x = decide (0 ≤ Lib.indexByte qMarks x):=Lib.contains_iff_indexByte qMarks x
   obtain ⟨ix,hix⟩ : ∃ ix,Lib.indexByte qMarks x = ix:=⟨_,rfl⟩
   rw [hix] at HIX hqm
   have hlk : (i : Int) < (n : Int):=by omega
   have hxl:=x.toNat_lt
   have hW1:=fun (W : World) (h : IsBq w.heap.size acc W) (hb : w.heap.size ≤ W.heap.size) => writeB w.heap.size acc 92 W h (by omega) hb
   have hW2:=fun (W : World) (acc2 : List UInt8) (h : IsBq w.heap.size acc2 W) (hb : w.heap.size ≤ W.heap.size) (hl : acc2.length ≤ 1099511627776) => writeB w.heap.size acc2 x W h hl hb
   have HW1:=Lib.hid hW1
   have HW2:=Lib.hid hW2
   have hql:=qOne_len x
   clear hx hdrop hq hW1 hW2 hix
   by_cases hc : 0 ≤ ix
   ·have e : qOne x = [92,x]:=by unfold qOne; rw [hqm,if_pos (decide_eq_true hc)]
    have HE:=Lib.hid e
    have hc2 : ¬ ix < 0:=by omega
    clear hqm e hql
    go_wp2_with (first
     | (go_at_call 61; with_reducible refine (HIX.out _).mono ?_; rintro e w9 ⟨rfl,rfl⟩)
     | (go_at_call 62; (with_reducible show Calls _ _ _ w9 _); refine (HW1.out _ HR.out.1 hBr).mono ?_; rintro e w3 ⟨rfl,hI3,hb3⟩; have HI3:=Lib.hid hI3; have HB3:=Lib.hid hb3; clear hI3 hb3)
     | (go_at_call 62; (with_reducible show Calls _ _ _ w3 _); refine (HW2.out _ _ HI3.out (Nat.le_trans hBr HB3.out.size) (by rw [List.length_append,List.length_singleton]; omega)).mono ?_; rintro e w4 ⟨rfl,hI4,hb4⟩; have HI4:=Lib.hid hI4; have HB4:=Lib.hid hb4; clear hI4 hb4))
    go_roundw
    case rel => exact ⟨i + 1,acc ++ qOne x,by go_num,by omega,by rw [HE.out,List.length_append]; simp; omega,Lib.hid ⟨by rw [HE.out]; have:=HI4.out; rwa [List.append_assoc] at this,(HR.out.2.1.trans HB3.out).trans HB4.out,HQ.out⟩⟩
    case measure => simp [RowKit.intOf]; omega
   ·have e : qOne x = [x]:=by unfold qOne; rw [hqm,if_neg (by rw [decide_eq_false hc]; decide)]
    have HE:=Lib.hid e
    have hc2 : ix < 0:=by omega
    clear hqm e hql
    go_wp2_with (first
     | (go_at_call 61; with_reducible refine (HIX.out _).mono ?_; rintro e w9 ⟨rfl,rfl⟩)
     | (go_at_call 62; (with_reducible show Calls _ _ _ w9 _); refine (HW2.out _ _ HR.out.1 hBr (by omega)).mono ?_; rintro e w4 ⟨rfl,hI4,hb4⟩; have HI4:=Lib.hid hI4; have HB4:=Lib.hid hb4; clear hI4 hb4))
    go_roundw
    case rel => exact ⟨i + 1,acc ++ qOne x,by go_num,by omega,by rw [HE.out,List.length_append]; simp; omega,Lib.hid ⟨by rw [HE.out]; exact HI4.out,HR.out.2.1.trans HB4.out,HQ.out⟩⟩
    case measure => simp [RowKit.intOf]; omega
  ·obtain rfl : i = n:=by omega
   have hq:=HR.out.2.2
   rw [List.drop_of_length_le (by rw [HN.out]; exact Nat.le_refl _)] at hq
   change acc ++ [] = quoteL l at hq
   rw [List.append_nil] at hq
   have HQ:=Lib.hid hq
   have HS:=Lib.hid (stringB w.heap.size acc wr HR.out.1 hBr)
   have hnl : ¬ (i : Int) < (i : Int):=by omega
   clear hq hlt hi
   go_wp2_with (go_at_call 63; refine (HS.out).mono ?_; rintro e w3 ⟨rfl,hb3⟩)
   go_ret
   rw [← HQ.out]
   exact ⟨rfl,HR.out.2.1.trans hb3⟩
end Go.Proofs.YtchdeboialbdiaaGreatDoor
namespace Go.Proofs.YtchdeboialbdiaaGreatDoor
set_option linter.unusedVariables false
set_option linter.unusedSimpArgs false
set_option maxHeartbeats 8000000
set_option maxRecDepth 100000
open Go.Lib hiding intOf
theorem charsGo_fuel : ∀ (f g : Nat) (l : List UInt8) (a : Nat),l.length ≤ f → l.length ≤ g → charsGo f l a = charsGo g l a
 | 0,g,l,a,h,_ => by
  obtain rfl : l = []:=List.eq_nil_of_length_eq_zero (by omega)
  rw [charsGo_stop,charsGo_stop]
 | f + 1,0,l,a,_,h => by
  obtain rfl : l = []:=List.eq_nil_of_length_eq_zero (by omega)
  rw [charsGo_stop,charsGo_stop]
 | f + 1,g + 1,l,a,h1,h2 => by
  by_cases hl : l = []
  ·subst hl; rw [charsGo_stop,charsGo_stop]
  ·have hw:=chr1_width hl
   rw [charsGo_next hl,charsGo_next hl,charsGo_fuel f g _ _ (by rw [List.length_drop]; omega) (by rw [List.length_drop]; omega)]
theorem charsGo_shift : ∀ (f : Nat) (l : List UInt8) (a b : Nat),charsGo f l (a + b) = (charsGo f l a).map fun p => (p.1,p.2 + b)
 | 0,l,a,b => rfl
 | f + 1,l,a,b => by
  by_cases hl : l = []
  ·subst hl; rw [charsGo_stop,charsGo_stop]; rfl
  ·rw [charsGo_next hl,charsGo_next hl,List.map_cons,← charsGo_shift f _ (a + (chr1 l).2) b,show a + b + (chr1 l).2 = a + (chr1 l).2 + b by omega]
theorem charsL_cons {l : List UInt8} (hl : l ≠ []) : charsL l = ((chr1 l).1,0) :: (charsL (l.drop (chr1 l).2)).map fun p => (p.1,p.2 + (chr1 l).2):=by
 have hw:=chr1_width hl
 unfold charsL
 obtain ⟨n,hn⟩ : ∃ n,l.length = n + 1:=⟨l.length - 1,by omega⟩
 rw [hn,charsGo_next hl,charsGo_fuel n (l.drop (chr1 l).2).length _ _ (by rw [List.length_drop]; omega) (Nat.le_refl _),charsGo_shift _ _ 0]
theorem vals_cons {l : List UInt8} (hl : l ≠ []) : valsL l = (chr1 l).1 :: valsL (l.drop (chr1 l).2):=by
 unfold valsL
 rw [charsL_cons hl,List.map_cons,List.map_map]
 rfl
theorem chr1_right {l : List UInt8} (h : RightD (decodeL l)) : chr1 l = decodeL l:=if_pos h
theorem chr_low {x : UInt8} {r : List UInt8} (h : x.toNat < 128) : chr1 (x :: r) = (x.toNat,1):=by
 have e : decodeL (x :: r) = (x.toNat,1):=dec_low (l:=x :: r) h
 unfold chr1
 rw [e,if_pos (by unfold RightD; left; show x.toNat ≠ 65533; omega)]
def qmN (v : Nat) : Bool:=decide (v = 46 ∨ v = 91 ∨ v = 93 ∨ v = 42 ∨ v = 43 ∨ v = 63 ∨ v = 94 ∨ v = 36 ∨ v = 92)
def qV (v : Nat) : List Nat:=if qmN v = true then [92,v] else [v]
theorem qm_N : ∀ y : Fin 256,qm (UInt8.ofNat y.val) = qmN y.val:=by decide +kernel
theorem qm_eq (x : UInt8) : qm x = qmN x.toNat:=by
 have:=qm_N ⟨x.toNat,x.toNat_lt⟩
 rw [UInt8.ofNat_toNat] at this
 exact this
theorem quote_cons (x : UInt8) (r : List UInt8) : quoteL (x :: r) = qOne x ++ quoteL r:=rfl
theorem qOne_high {x : UInt8} (h : 128 ≤ x.toNat) : qOne x = [x]:=by
 unfold qOne
 rw [qm_eq,if_neg]
 unfold qmN
 rw [decide_eq_true_iff]
 omega
theorem quote_high : ∀ (a : List UInt8),(∀ x ∈ a,128 ≤ x.toNat) → quoteL a = a
 | [],_ => rfl
 | x :: r,h => by
  rw [quote_cons,qOne_high (h x (List.mem_cons_self ..)),quote_high r (fun y hy => h y (List.mem_cons_of_mem _ hy))]
  rfl
theorem quote_len (l : List UInt8) : (quoteL l).length ≤ 2 * l.length:=by
 induction l with
 | nil => exact Nat.le_refl _
 | cons x r ih =>
  rw [quote_cons,List.length_append,List.length_cons]
  have:=qOne_len x
  omega
structure BitN where
 r : Nat
 any : Bool
 how : Nat
def sgn (how : Nat) : List Nat:=if how = 1 then [63] else if how = 2 then [42] else if how = 3 then [43] else []
def bitV (b : BitN) : List Nat:=(if b.any = true then [46] else qV b.r) ++ sgn b.how
def itB (b : BitN) : Itm:=⟨if b.any = true then 46 else 99,false,if b.any = true then [] else [.rng b.r b.r],if b.how = 1 ∨ b.how = 2 then 0 else 1,decide (b.how = 2 ∨ b.how = 3)⟩
def partsV (l : List BitN) : List Nat:=l.flatMap bitV
theorem at_pre (pre X : List Nat) (k : Nat) : (pre ++ X)[pre.length + k]? = X[k]?:=by
 rw [List.getElem?_append_right (by omega),Nat.add_sub_cancel_left]
theorem count_sgn {V rest : List Nat} {j : Nat} (how : Nat) (hj : ∀ k,V[j + k]? = (sgn how ++ rest)[k]?) (hr : ∀ x t,rest = x :: t → x ≠ 42 ∧ x ≠ 43 ∧ x ≠ 63) :
  countP V j = (if how = 1 ∨ how = 2 then 0 else 1,decide (how = 2 ∨ how = 3),j + (sgn how).length):=by
 have h0:=hj 0
 rw [Nat.add_zero] at h0
 unfold countP
 rw [h0]
 by_cases h1 : how = 1
 ·subst h1; rfl
 ·by_cases h2 : how = 2
  ·subst h2; rfl
  ·by_cases h3 : how = 3
   ·subst h3; rfl
   ·have e : sgn how = []:=by unfold sgn; rw [if_neg h1,if_neg h2,if_neg h3]
    rw [e,if_neg (by omega : ¬ (how = 1 ∨ how = 2)),decide_eq_false (by omega : ¬ (how = 2 ∨ how = 3))]
    cases rest with
    | nil => rfl
    | cons x t =>
     obtain ⟨a1,a2,a3⟩:=hr x t rfl
     show (if some x = some 42 then _ else _) = _
     rw [if_neg (by intro h; exact a1 (Option.some.inj h)),if_neg (by intro h; exact a2 (Option.some.inj h)),if_neg (by intro h; exact a3 (Option.some.inj h))]
     rfl
theorem bitV_front (b : BitN) (s : List Nat) : ∀ x t,bitV b ++ s = x :: t → x ≠ 42 ∧ x ≠ 43 ∧ x ≠ 63:=by
 intro x t e
 unfold bitV at e
 by_cases h : b.any = true
 ·rw [if_pos h] at e
  cases e
  decide
 ·rw [if_neg h] at e
  unfold qV at e
  by_cases hq : qmN b.r = true
  ·rw [if_pos hq] at e
   cases e
   decide
  ·rw [if_neg hq] at e
   have hx : x = b.r:=by
    have:=congrArg List.head? e
    simpa using this.symm
   unfold qmN at hq
   rw [decide_eq_true_iff] at hq
   omega
theorem parts_front (l : List BitN) : ∀ x t,partsV l = x :: t → x ≠ 42 ∧ x ≠ 43 ∧ x ≠ 63:=by
 intro x t e
 cases l with
 | nil => cases e
 | cons b r => exact bitV_front b _ x t e
theorem mark_of {v : Nat} (h : qmN v = true) : markN v = true:=by
 unfold qmN at h
 rw [decide_eq_true_iff] at h
 unfold markN
 rcases h with rfl | rfl | rfl | rfl | rfl | rfl | rfl | rfl | rfl <;> rfl
theorem item_part (pre rest : List Nat) (b : BitN) (hr : ∀ x t,rest = x :: t → x ≠ 42 ∧ x ≠ 43 ∧ x ≠ 63) :
  itemP (pre ++ (bitV b ++ rest)) pre.length = .inr (itB b,pre.length + (bitV b).length):=by
 obtain ⟨V,hV⟩ : ∃ V,pre ++ (bitV b ++ rest) = V:=⟨_,rfl⟩
 have hat : ∀ k,V[pre.length + k]? = (bitV b ++ rest)[k]?:=fun k => by rw [← hV]; exact at_pre _ _ _
 rw [hV]
 by_cases h : b.any = true
 ·have e : bitV b ++ rest = 46 :: (sgn b.how ++ rest):=by unfold bitV; rw [if_pos h]; rfl
  have h0 : V[pre.length]? = some 46:=by have:=hat 0; rw [e] at this; exact this
  have hc:=count_sgn (V:=V) (j:=pre.length + 1) b.how (fun k => by have:=hat (1 + k); rw [e,Nat.add_comm 1 k,List.getElem?_cons_succ] at this; rw [← this]; congr 1; omega) hr
  unfold itemP
  rw [h0]
  have hl : (bitV b).length = 1 + (sgn b.how).length:=by unfold bitV; rw [if_pos h,List.length_append]; rfl
  show Sum.inr (withCount V 46 false [] (pre.length + 1)) = _
  unfold withCount
  rw [hc,hl]
  unfold itB
  rw [if_pos h,if_pos h,← Nat.add_assoc]
 ·by_cases hq : qmN b.r = true
  ·have e : bitV b ++ rest = 92 :: b.r :: (sgn b.how ++ rest):=by unfold bitV qV; rw [if_neg h,if_pos hq]; rfl
   have h0 : V[pre.length]? = some 92:=by have:=hat 0; rw [e] at this; exact this
   have h1 : V[pre.length + 1]? = some b.r:=by have:=hat 1; rw [e] at this; exact this
   have hc:=count_sgn (V:=V) (j:=pre.length + 2) b.how (fun k => by have:=hat (k + 2); rw [e,List.getElem?_cons_succ,List.getElem?_cons_succ] at this; rw [← this]; congr 1; omega) hr
   have hl : (bitV b).length = 2 + (sgn b.how).length:=by unfold bitV qV; rw [if_neg h,if_pos hq,List.length_append]; rfl
   have ho : oneP V pre.length = .inr (0,b.r,pre.length + 2):=by
    unfold oneP
    rw [h0]
    dsimp only
    rw [if_pos rfl,h1]
    dsimp only
    rw [if_pos (mark_of hq)]
   unfold itemP
   rw [h0]
   show (match oneP V pre.length with | .inl b => _ | .inr (k,v,j) => _) = _
   rw [ho]
   show Sum.inr (withCount V 99 false [if 0 = 0 then El.rng b.r b.r else El.kind 0] (pre.length + 2)) = _
   unfold withCount
   rw [hc,hl,if_pos rfl]
   unfold itB
   rw [if_neg h,if_neg h,← Nat.add_assoc]
  ·have e : bitV b ++ rest = b.r :: (sgn b.how ++ rest):=by unfold bitV qV; rw [if_neg h,if_neg hq]; rfl
   have h0 : V[pre.length]? = some b.r:=by have:=hat 0; rw [e] at this; exact this
   have hc:=count_sgn (V:=V) (j:=pre.length + 1) b.how (fun k => by have:=hat (1 + k); rw [e,Nat.add_comm 1 k,List.getElem?_cons_succ] at this; rw [← this]; congr 1; omega) hr
   have hl : (bitV b).length = 1 + (sgn b.how).length:=by unfold bitV qV; rw [if_neg h,if_neg hq,List.length_append]; rfl
   have hn:=hq
   unfold qmN at hn
   rw [decide_eq_true_iff] at hn
   have ho : oneP V pre.length = .inr (0,b.r,pre.length + 1):=by
    unfold oneP
    rw [h0]
    dsimp only
    rw [if_neg (by omega)]
   unfold itemP
   rw [h0]
   dsimp only
   rw [if_neg (by omega),if_neg (by omega),if_neg (by omega),if_neg (by omega),ho]
   dsimp only
   unfold withCount
   rw [hc,hl,if_pos rfl]
   unfold itB
   rw [if_neg h,if_neg h,← Nat.add_assoc]
theorem bitV_pos (b : BitN) : 1 ≤ (bitV b).length:=by
 unfold bitV
 rw [List.length_append]
 split
 ·show 1 ≤ 1 + _; omega
 ·unfold qV
  split
  ·show 1 ≤ 2 + _; omega
  ·show 1 ≤ 1 + _; omega
theorem items_parts : ∀ (l : List BitN) (pre : List Nat) (acc : List Itm) (f : Nat),l.length < f → itemsGo (pre ++ partsV l) f pre.length acc = .inr (acc ++ l.map itB)
 | [],pre,acc,0,h => by rw [itemsGo,List.map_nil,List.append_nil]
 | [],pre,acc,f + 1,h => by
  rw [itemsGo,if_pos (by show (pre ++ []).length ≤ pre.length; rw [List.append_nil]; exact Nat.le_refl _),List.map_nil,List.append_nil]
 | b :: r,pre,acc,0,h => by cases h
 | b :: r,pre,acc,f + 1,h => by
  have hp:=bitV_pos b
  have e : pre ++ partsV (b :: r) = pre ++ (bitV b ++ partsV r):=rfl
  rw [itemsGo,e,if_neg (by rw [List.length_append,List.length_append]; omega),item_part pre (partsV r) b (parts_front r)]
  dsimp only
  have ih:=items_parts r (pre ++ bitV b) (acc ++ [itB b]) f (by rw [List.length_cons] at h; omega)
  rw [List.append_assoc,List.length_append] at ih
  rw [ih,List.append_assoc,List.map_cons]
  rfl
theorem parts_len : ∀ (l : List BitN),l.length ≤ (partsV l).length
 | [] => Nat.le_refl _
 | b :: r => by
  have:=parts_len r
  have:=bitV_pos b
  show r.length + 1 ≤ (bitV b ++ partsV r).length
  rw [List.length_append]
  omega
theorem fold_parts (l : List BitN) : foldedP (partsV l) = false:=by
 unfold foldedP
 rw [decide_eq_false_iff_not]
 rintro ⟨h0,h1⟩
 cases l with
 | nil => cases h0
 | cons b r =>
  change (bitV b ++ partsV r)[0]? = some 92 at h0
  change (bitV b ++ partsV r)[1]? = some 105 at h1
  unfold bitV at h0 h1
  by_cases h : b.any = true
  ·rw [if_pos h] at h0
   cases h0
  ·rw [if_neg h] at h0 h1
   unfold qV at h0 h1
   by_cases hq : qmN b.r = true
   ·rw [if_pos hq] at h0 h1
    have : b.r = 105:=Option.some.inj h1
    rw [this] at hq
    cases hq
   ·rw [if_neg hq] at h0
    have : b.r = 92:=Option.some.inj h0
    rw [this] at hq
    exact hq rfl
theorem parts_items (l : List BitN) : itemsP (partsV l) = .inr (l.map itB):=by
 unfold itemsP
 rw [fold_parts,if_neg (by decide)]
 have:=items_parts l [] [] ((partsV l).length + 1) (by have:=parts_len l; omega)
 exact this
def chainR (fo : Bool) (V : List Nat) : List Itm → Nat → Nat → Prop
 | [],i,j => i = j
 | it :: r,i,j => ∃ m,Reach (atP fo V it) (decide (it.least = 0)) it.many i m ∧ chainR fo V r m j
theorem reach_chain (fo : Bool) (V : List Nat) : ∀ (its : List Itm),(∀ it ∈ its,isEdge it = false) → ∀ (S : Nat → Bool) (j : Nat),reachP fo V its S j = true ↔ ∃ i,S i = true ∧ chainR fo V its i j
 | [],_,S,j => by
  show S j = true ↔ ∃ i,S i = true ∧ i = j
  constructor
  ·intro h; exact ⟨j,h,rfl⟩
  ·rintro ⟨i,h,rfl⟩; exact h
 | it :: r,h,S,j => by
  rw [reachP,reach_chain fo V r (fun x hx => h x (List.mem_cons_of_mem _ hx))]
  constructor
  ·rintro ⟨m,h1,h2⟩
   obtain ⟨i,h3,h4⟩:=(led_iff fo V it S (h it (List.mem_cons_self ..)) m).1 h1
   exact ⟨i,h3,m,h4,h2⟩
  ·rintro ⟨i,h3,m,h4,h2⟩
   exact ⟨m,(led_iff fo V it S (h it (List.mem_cons_self ..)) m).2 ⟨i,h3,h4⟩,h2⟩
theorem reachR_le {at_ : Nat → Bool} {zero many : Bool} {i m : Nat} (h : Reach at_ zero many i m) : i ≤ m:=by
 rcases h with h | h
 ·omega
 ·omega
theorem chain_le (fo : Bool) (V : List Nat) : ∀ (its : List Itm) (i j : Nat),chainR fo V its i j → i ≤ j
 | [],i,j,h => Nat.le_of_eq h
 | it :: r,i,j,⟨m,h1,h2⟩ => Nat.le_trans (reachR_le h1) (chain_le fo V r m j h2)
theorem part_edge (b : BitN) : isEdge (itB b) = false:=by
 unfold isEdge itB
 rw [decide_eq_false_iff_not]
 dsimp only
 split <;> omega
theorem parts_edge (l : List BitN) : ∀ it ∈ l.map itB,isEdge it = false:=by
 intro it h
 obtain ⟨b,_,rfl⟩:=List.mem_map.1 h
 exact part_edge b
theorem longest_chain (fo : Bool) (V : List Nat) (its : List Itm) (h : ∀ it ∈ its,isEdge it = false) (i : Nat) : match longestP fo V its i with
  | some j => j ≤ V.length ∧ chainR fo V its i j ∧ ∀ k,j < k → k ≤ V.length → ¬ chainR fo V its i k
  | none => ∀ k,k ≤ V.length → ¬ chainR fo V its i k:=by
 have hs:=lastTrue_spec (reachP fo V its fun j => decide (j = i)) V.length
 have hc : ∀ k,(reachP fo V its (fun j => decide (j = i)) k = true) ↔ chainR fo V its i k:=by
  intro k
  rw [reach_chain fo V its h]
  constructor
  ·rintro ⟨a,h1,h2⟩
   have : a = i:=of_decide_eq_true h1
   rw [← this]; exact h2
  ·intro h2
   exact ⟨i,decide_eq_true rfl,h2⟩
 unfold longestP
 cases hl : lastTrue (reachP fo V its fun j => decide (j = i)) V.length with
 | none =>
  rw [hl] at hs
  intro k hk hck
  have:=hs k hk
  rw [(hc k).2 hck] at this
  cases this
 | some j =>
  rw [hl] at hs
  refine ⟨hs.1,(hc j).1 hs.2.1,fun k h1 h2 hck => ?_⟩
  have:=hs.2.2 k h1 h2
  rw [(hc k).2 hck] at this
  cases this
def hereB (V : List Nat) (b : BitN) (t : Nat) : Bool:=atP false V (itB b) t
theorem chain_zero (V : List Nat) (b : BitN) (r : List Itm) (t j : Nat) (h1 : b.how ≠ 1) (h2 : b.how ≠ 2) (h3 : b.how ≠ 3) : chainR false V (itB b :: r) t j ↔ (hereB V b t = true ∧ chainR false V r (t + 1) j):=by
 have e1 : decide ((itB b).least = 0) = false:=by
  rw [decide_eq_false_iff_not]
  show ¬ (if b.how = 1 ∨ b.how = 2 then 0 else 1) = 0
  rw [if_neg (by omega)]
  decide
 have e2 : (itB b).many = false:=decide_eq_false (by omega)
 show (∃ m,Reach (atP false V (itB b)) (decide ((itB b).least = 0)) (itB b).many t m ∧ chainR false V r m j) ↔ _
 rw [e1,e2]
 constructor
 ·rintro ⟨m,h | ⟨h4,h5,h6⟩,hr⟩
  ·cases h.2
  ·rcases h5 with h5 | h5
   ·cases h5
   ·subst h5
    exact ⟨h6 t (Nat.le_refl _) (by omega),hr⟩
 ·rintro ⟨h4,h5⟩
  exact ⟨t + 1,.inr ⟨by omega,.inr rfl,fun k k1 k2 => by obtain rfl : k = t:=(by omega); exact h4⟩,h5⟩
theorem chain_maybe (V : List Nat) (b : BitN) (r : List Itm) (t j : Nat) (h1 : b.how = 1) : chainR false V (itB b :: r) t j ↔ (chainR false V r t j ∨ (hereB V b t = true ∧ chainR false V r (t + 1) j)):=by
 have e1 : decide ((itB b).least = 0) = true:=by
  rw [decide_eq_true_iff]
  show (if b.how = 1 ∨ b.how = 2 then 0 else 1) = 0
  rw [if_pos (by omega)]
 have e2 : (itB b).many = false:=decide_eq_false (by omega)
 show (∃ m,Reach (atP false V (itB b)) (decide ((itB b).least = 0)) (itB b).many t m ∧ chainR false V r m j) ↔ _
 rw [e1,e2]
 constructor
 ·rintro ⟨m,h | ⟨h4,h5,h6⟩,hr⟩
  ·left; rw [← h.1]; exact hr
  ·rcases h5 with h5 | h5
   ·cases h5
   ·subst h5
    exact .inr ⟨h6 t (Nat.le_refl _) (by omega),hr⟩
 ·rintro (h | ⟨h4,h5⟩)
  ·exact ⟨t,.inl ⟨rfl,rfl⟩,h⟩
  ·exact ⟨t + 1,.inr ⟨by omega,.inr rfl,fun k k1 k2 => by obtain rfl : k = t:=(by omega); exact h4⟩,h5⟩
theorem chain_star (V : List Nat) (b : BitN) (r : List Itm) (t j : Nat) (h1 : b.how = 2) : chainR false V (itB b :: r) t j ↔ (chainR false V r t j ∨ (hereB V b t = true ∧ chainR false V (itB b :: r) (t + 1) j)):=by
 have e1 : decide ((itB b).least = 0) = true:=by
  rw [decide_eq_true_iff]
  show (if b.how = 1 ∨ b.how = 2 then 0 else 1) = 0
  rw [if_pos (by omega)]
 have e2 : (itB b).many = true:=decide_eq_true (by omega)
 show (∃ m,Reach (atP false V (itB b)) (decide ((itB b).least = 0)) (itB b).many t m ∧ chainR false V r m j) ↔ (_ ∨ (_ ∧ ∃ m,Reach (atP false V (itB b)) (decide ((itB b).least = 0)) (itB b).many (t + 1) m ∧ chainR false V r m j))
 rw [e1,e2]
 constructor
 ·rintro ⟨m,h | ⟨h4,h5,h6⟩,hr⟩
  ·left; rw [← h.1]; exact hr
  ·right
   refine ⟨h6 t (Nat.le_refl _) h4,m,?_,hr⟩
   by_cases hm : m = t + 1
   ·exact .inl ⟨hm,rfl⟩
   ·exact .inr ⟨by omega,.inl rfl,fun k k1 k2 => h6 k (by omega) k2⟩
 ·rintro (h | ⟨h4,m,h5,h6⟩)
  ·exact ⟨t,.inl ⟨rfl,rfl⟩,h⟩
  ·refine ⟨m,.inr ?_,h6⟩
   have hle:=reachR_le h5
   refine ⟨by omega,.inl rfl,fun k k1 k2 => ?_⟩
   by_cases hk : k = t
   ·rw [hk]; exact h4
   ·rcases h5 with h5 | ⟨_,_,h5⟩
    ·omega
    ·exact h5 k (by omega) k2
theorem chain_plus (V : List Nat) (b : BitN) (r : List Itm) (t j : Nat) (h1 : b.how = 3) : chainR false V (itB b :: r) t j ↔ (hereB V b t = true ∧ (chainR false V r (t + 1) j ∨ chainR false V (itB b :: r) (t + 1) j)):=by
 have e1 : decide ((itB b).least = 0) = false:=by
  rw [decide_eq_false_iff_not]
  show ¬ (if b.how = 1 ∨ b.how = 2 then 0 else 1) = 0
  rw [if_neg (by omega)]
  decide
 have e2 : (itB b).many = true:=decide_eq_true (by omega)
 show (∃ m,Reach (atP false V (itB b)) (decide ((itB b).least = 0)) (itB b).many t m ∧ chainR false V r m j) ↔ (_ ∧ (_ ∨ ∃ m,Reach (atP false V (itB b)) (decide ((itB b).least = 0)) (itB b).many (t + 1) m ∧ chainR false V r m j))
 rw [e1,e2]
 constructor
 ·rintro ⟨m,h | ⟨h4,h5,h6⟩,hr⟩
  ·cases h.2
  ·refine ⟨h6 t (Nat.le_refl _) h4,?_⟩
   by_cases hm : m = t + 1
   ·left; rw [← hm]; exact hr
   ·right
    exact ⟨m,.inr ⟨by omega,.inl rfl,fun k k1 k2 => h6 k (by omega) k2⟩,hr⟩
 ·rintro ⟨h4,h | ⟨m,h5,h6⟩⟩
  ·exact ⟨t + 1,.inr ⟨by omega,.inl rfl,fun k k1 k2 => by obtain rfl : k = t:=(by omega); exact h4⟩,h⟩
  ·refine ⟨m,.inr ?_,h6⟩
   have hle:=reachR_le h5
   refine ⟨by omega,.inl rfl,fun k k1 k2 => ?_⟩
   by_cases hk : k = t
   ·rw [hk]; exact h4
   ·rcases h5 with h5 | ⟨_,_,h5⟩
    ·cases h5.2
    ·exact h5 k (by omega) k2
end Go.Proofs.YtchdeboialbdiaaGreatDoor
