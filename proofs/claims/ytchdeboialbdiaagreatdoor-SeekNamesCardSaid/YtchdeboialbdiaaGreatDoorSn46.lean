/- Texts joined, one behind the other (SEncP, SWrit). -/
import Derived.Test.YtchdeboialbdiaaGreatDoorSn45
import Derived.Lib.MapLaws
import Derived.Stop.FmtQuoteTie
import Derived.Laws.Runes
import Derived.Deep.RegionHeld3
namespace Go.Proofs.YtchdeboialbdiaaGreatDoor
set_option linter.unusedVariables false
set_option linter.unusedSimpArgs false
set_option maxHeartbeats 8000000
set_option maxRecDepth 100000
open Go.Lib hiding intOf
theorem byte_of {z : Int} {n : Nat} (h : z = (n : Int)) (hn : n < 256) : (z.toNat.toUInt8).toNat = n:=by
 subst h
 rw [Int.toNat_natCast]
 show (UInt8.ofNat n).toNat = n
 rw [UInt8.toNat_ofNat']
 omega
theorem dec_enc (r : Nat) (h1 : r < 1114112) (h2 : r < 55296 ∨ 57343 < r) (rest : List UInt8) : decodeL (encodeRune (r : Int) ++ rest) = (r,(encodeRune (r : Int)).length):=by
 rw [decodeL_N]
 unfold encodeRune
 by_cases c1 : r < 128
 ·rw [encodeRuneZ_one (by omega) (by omega)]
  simp only [List.map_cons,List.map_nil,List.cons_append,List.nil_append,List.length_cons,List.length_nil,List.getD_cons_zero]
  rw [byte_of rfl (by omega)]
  unfold decodeN
  rw [if_pos c1]
 ·by_cases c2 : r < 2048
  ·rw [encodeRuneZ_two (by omega) (by omega)]
   simp only [List.map_cons,List.map_nil,List.cons_append,List.nil_append,List.length_cons,List.length_nil,List.getD_cons_zero,List.getD_cons_succ]
   rw [byte_of (n:=192 + r / 64) (by omega) (by omega),byte_of (n:=128 + r % 64) (by omega) (by omega)]
   unfold decodeN
   rw [if_neg (by omega),if_pos (by omega),if_pos (by omega)]
   refine Prod.ext ?_ rfl
   show (192 + r / 64) % 32 * 64 + (128 + r % 64) % 64 = r
   omega
  ·by_cases c3 : r < 65536
   ·rw [encodeRuneZ_three (by omega)]
    simp only [List.map_cons,List.map_nil,List.cons_append,List.nil_append,List.length_cons,List.length_nil,List.getD_cons_zero,List.getD_cons_succ]
    rw [byte_of (n:=224 + r / 4096) (by omega) (by omega),byte_of (n:=128 + r / 64 % 64) (by omega) (by omega),byte_of (n:=128 + r % 64) (by omega) (by omega)]
    unfold decodeN
    rw [if_neg (by omega),if_neg (by omega),if_pos (by omega),if_pos (by omega)]
    refine Prod.ext ?_ rfl
    show (224 + r / 4096) % 16 * 4096 + (128 + r / 64 % 64) % 64 * 64 + (128 + r % 64) % 64 = r
    omega
   ·rw [encodeRuneZ_four (by omega) (by omega)]
    simp only [List.map_cons,List.map_nil,List.cons_append,List.nil_append,List.length_cons,List.length_nil,List.getD_cons_zero,List.getD_cons_succ]
    rw [byte_of (n:=240 + r / 262144) (by omega) (by omega),byte_of (n:=128 + r / 4096 % 64) (by omega) (by omega),byte_of (n:=128 + r / 64 % 64) (by omega) (by omega),byte_of (n:=128 + r % 64) (by omega) (by omega)]
    unfold decodeN
    rw [if_neg (by omega),if_neg (by omega),if_neg (by omega),if_pos (by omega),if_pos (by omega)]
    refine Prod.ext ?_ rfl
    show (240 + r / 262144) % 8 * 262144 + (128 + r / 4096 % 64) % 64 * 4096 + (128 + r / 64 % 64) % 64 * 64 + (128 + r % 64) % 64 = r
    omega
def MayN (r : Nat) : Prop:=r < 1114112 ∧ (r < 55296 ∨ 57343 < r)
theorem enc_len (r : Nat) (h : MayN r) : 1 ≤ (encodeRune (r : Int)).length ∧ (r = 65533 → (encodeRune (r : Int)).length = 3):=by
 obtain ⟨h1,h2⟩:=h
 unfold encodeRune
 rw [List.length_map]
 by_cases c1 : r < 128
 ·rw [encodeRuneZ_one (by omega) (by omega)]; exact ⟨Nat.le_refl _,fun h => by omega⟩
 ·by_cases c2 : r < 2048
  ·rw [encodeRuneZ_two (by omega) (by omega)]; exact ⟨by simp,fun h => by omega⟩
  ·by_cases c3 : r < 65536
   ·rw [encodeRuneZ_three (by omega)]; exact ⟨by simp,fun _ => rfl⟩
   ·rw [encodeRuneZ_four (by omega) (by omega)]; exact ⟨by simp,fun h => by omega⟩
theorem vals_enc (r : Nat) (h : MayN r) (rest : List UInt8) : valsL (encodeRune (r : Int) ++ rest) = r :: valsL rest:=by
 obtain ⟨hl,hl3⟩:=enc_len r h
 have hd:=dec_enc r h.1 h.2 rest
 have hne : encodeRune (r : Int) ++ rest ≠ []:=by
  intro e
  have:=congrArg List.length e
  rw [List.length_append,List.length_nil] at this
  omega
 have hr : RightD (decodeL (encodeRune (r : Int) ++ rest)):=by
  rw [hd]
  by_cases h5 : r = 65533
  ·exact .inr (by rw [hl3 h5]; show 1 < 3; decide)
  ·exact .inl h5
 rw [vals_cons hne,chr1_right hr,hd]
 rw [List.drop_left]
theorem vals_low (x : UInt8) (hx : x.toNat < 128) (rest : List UInt8) : valsL (x :: rest) = x.toNat :: valsL rest:=by
 rw [vals_cons (by simp),chr_low hx]
 rfl
def bitL (b : BitN) : List UInt8:=(if b.any = true then [46] else quoteL (encodeRune (b.r : Int))) ++ (sgn b.how).map UInt8.ofNat
def writL (l : List BitN) : List UInt8:=l.flatMap bitL
theorem sgn_low (how : Nat) (rest : List UInt8) : valsL ((sgn how).map UInt8.ofNat ++ rest) = sgn how ++ valsL rest:=by
 unfold sgn
 by_cases h1 : how = 1
 ·rw [if_pos h1]; exact vals_low 63 (by decide) rest
 ·rw [if_neg h1]
  by_cases h2 : how = 2
  ·rw [if_pos h2]; exact vals_low 42 (by decide) rest
  ·rw [if_neg h2]
   by_cases h3 : how = 3
   ·rw [if_pos h3]; exact vals_low 43 (by decide) rest
   ·rw [if_neg h3]; rfl
theorem enc_high (r : Nat) (h : MayN r) (hr : 128 ≤ r) : ∀ x ∈ encodeRune (r : Int),128 ≤ x.toNat:=by
 obtain ⟨h1,h2⟩:=h
 unfold encodeRune
 by_cases c2 : r < 2048
 ·rw [encodeRuneZ_two (by omega) (by omega)]
  intro x hx
  simp only [List.map_cons,List.map_nil,List.mem_cons,List.not_mem_nil,or_false] at hx
  rcases hx with rfl | rfl
  ·rw [byte_of (n:=192 + r / 64) (by omega) (by omega)]; omega
  ·rw [byte_of (n:=128 + r % 64) (by omega) (by omega)]; omega
 ·by_cases c3 : r < 65536
  ·rw [encodeRuneZ_three (by omega)]
   intro x hx
   simp only [List.map_cons,List.map_nil,List.mem_cons,List.not_mem_nil,or_false] at hx
   rcases hx with rfl | rfl | rfl
   ·rw [byte_of (n:=224 + r / 4096) (by omega) (by omega)]; omega
   ·rw [byte_of (n:=128 + r / 64 % 64) (by omega) (by omega)]; omega
   ·rw [byte_of (n:=128 + r % 64) (by omega) (by omega)]; omega
  ·rw [encodeRuneZ_four (by omega) (by omega)]
   intro x hx
   simp only [List.map_cons,List.map_nil,List.mem_cons,List.not_mem_nil,or_false] at hx
   rcases hx with rfl | rfl | rfl | rfl
   ·rw [byte_of (n:=240 + r / 262144) (by omega) (by omega)]; omega
   ·rw [byte_of (n:=128 + r / 4096 % 64) (by omega) (by omega)]; omega
   ·rw [byte_of (n:=128 + r / 64 % 64) (by omega) (by omega)]; omega
   ·rw [byte_of (n:=128 + r % 64) (by omega) (by omega)]; omega
theorem quote_enc (r : Nat) (h : MayN r) (rest : List UInt8) : valsL (quoteL (encodeRune (r : Int)) ++ rest) = qV r ++ valsL rest:=by
 by_cases c1 : r < 128
 ·have he : encodeRune (r : Int) = [UInt8.ofNat r]:=by
   unfold encodeRune
   rw [encodeRuneZ_one (by omega) (by omega)]
   simp only [List.map_cons,List.map_nil,Int.toNat_natCast]
  have hn : (UInt8.ofNat r).toNat = r:=by rw [UInt8.toNat_ofNat']; omega
  have hq : qm (UInt8.ofNat r) = qmN r:=by rw [qm_eq,hn]
  rw [he]
  show valsL ((qOne (UInt8.ofNat r) ++ []) ++ rest) = _
  unfold qOne qV
  rw [hq]
  by_cases hm : qmN r = true
  ·rw [if_pos hm,if_pos hm]
   show valsL (92 :: UInt8.ofNat r :: rest) = _
   rw [vals_low 92 (by decide),vals_low _ (by rw [hn]; exact c1),hn]
   rfl
  ·rw [if_neg hm,if_neg hm]
   show valsL (UInt8.ofNat r :: rest) = _
   rw [vals_low _ (by rw [hn]; exact c1),hn]; try rfl
 ·rw [quote_high _ (enc_high r h (by omega)),vals_enc r h]
  unfold qV
  rw [if_neg (by unfold qmN; rw [decide_eq_true_iff]; omega)]
  rfl
theorem vals_writ : ∀ (l : List BitN),(∀ b ∈ l,MayN b.r) → valsL (writL l) = partsV l
 | [],_ => rfl
 | b :: r,h => by
  have ih:=vals_writ r (fun b hb => h b (List.mem_cons_of_mem _ hb))
  show valsL (bitL b ++ writL r) = bitV b ++ partsV r
  unfold bitL bitV
  rw [List.append_assoc,List.append_assoc]
  by_cases ha : b.any = true
  ·rw [if_pos ha,if_pos ha]
   show valsL (46 :: ((sgn b.how).map UInt8.ofNat ++ writL r)) = _
   rw [vals_low 46 (by decide),sgn_low,ih]
   rfl
  ·rw [if_neg ha,if_neg ha,quote_enc _ (h b (List.mem_cons_self ..)),sgn_low,ih]
theorem enc_le4 (r : Nat) : (encodeRune (r : Int)).length ≤ 4:=by
 unfold encodeRune encodeRuneZ
 rw [List.length_map]
 repeat' split
 all_goals simp
theorem bitL_len (b : BitN) (h : MayN b.r) : (bitL b).length ≤ 5:=by
 have hs : ((sgn b.how).map UInt8.ofNat).length ≤ 1:=by
  unfold sgn
  repeat' split
  all_goals simp
 unfold bitL
 rw [List.length_append]
 by_cases ha : b.any = true
 ·rw [if_pos ha]
  show 1 + _ ≤ 5
  omega
 ·rw [if_neg ha]
  have : (quoteL (encodeRune (b.r : Int))).length ≤ 4:=by
   by_cases c1 : b.r < 128
   ·have h1 : (encodeRune (b.r : Int)).length = 1:=by
     unfold encodeRune
     rw [encodeRuneZ_one (by omega) (by omega)]
     rfl
    have:=quote_len (encodeRune (b.r : Int))
    omega
   ·rw [quote_high _ (enc_high b.r h (by omega))]
    exact enc_le4 b.r
  omega
theorem writL_len : ∀ (l : List BitN),(∀ b ∈ l,MayN b.r) → (writL l).length ≤ 5 * l.length
 | [],_ => Nat.zero_le _
 | b :: r,h => by
  have ih:=writL_len r (fun b hb => h b (List.mem_cons_of_mem _ hb))
  have h1:=bitL_len b (h b (List.mem_cons_self ..))
  show (bitL b ++ writL r).length ≤ 5 * (r.length + 1)
  rw [List.length_append]
  omega
theorem writ_items (l : List BitN) (h : ∀ b ∈ l,MayN b.r) : itemsP (valsL (writL l)) = .inr (l.map itB) ∧ foldedP (valsL (writL l)) = false:=by
 rw [vals_writ l h]
 exact ⟨parts_items l,fold_parts l⟩
end Go.Proofs.YtchdeboialbdiaaGreatDoor
namespace Go.Proofs.YtchdeboialbdiaaGreatDoor
set_option linter.unusedVariables false
set_option linter.unusedSimpArgs false
set_option maxHeartbeats 8000000
set_option maxRecDepth 100000
open Go.RowKit
open Go.Lib hiding intOf
theorem enc_nums (L : List UInt8) : (Go.Extern.FmtText.nums L).map (fun x => x.toNat.toUInt8) = L:=by
 unfold Go.Extern.FmtText.nums
 rw [List.map_map]
 exact (List.map_congr_left fun x _ => by simp).trans (List.map_id _)
theorem back_bstr (s : ByteArray) : s = bstr s.data.toList:=by simp [bstr]
theorem enc_bstr (r : Nat) : Utf8.encode (r : Int) = bstr (encodeRune (r : Int)):=by
 have h:=Go.Extern.FmtText.encode_eq r
 generalize Utf8.encode (r : Int) = s at h ⊢
 have e : encodeRune (r : Int) = s.data.toList:=by
  unfold encodeRune
  rw [← h]
  exact enc_nums _
 rw [e]
 exact back_bstr s
theorem may_true {r : Int} (h : mayI r = true) : MayN r.toNat ∧ (r.toNat : Int) = r:=by
 unfold mayI at h
 simp only [Bool.and_eq_true,Bool.or_eq_true,Bool.not_eq_true',decide_eq_true_eq,decide_eq_false_iff_not] at h
 unfold MayN
 omega
abbrev RawB:=Int × Bool × Int
def rawCells (x : RawB) : List Value:=[.int .i32 x.1,.bool x.2.1,.int .i64 x.2.2]
def ReadsRaw (w : World) (a : Option Addr) (n : Nat) (L : List RawB) : Prop :=
 L.length = n ∧ (0 < n → ∃ b o,a = some ⟨b,o,none⟩ ∧ b < w.heap.size ∧ ∀ i p,L[i]? = some p → w.cell? ⟨b,o + i * 3,none⟩ = some (.int .i32 p.1) ∧ w.cell? ⟨b,o + i * 3 + 1,none⟩ = some (.bool p.2.1) ∧ w.cell? ⟨b,o + i * 3 + 2,none⟩ = some (.int .i64 p.2.2))
theorem ReadsRaw.keep {B : Nat} {w w' : World} {a : Option Addr} {n : Nat} {L : List RawB} (h : ReadsRaw w a n L) (hb : Below B w w') (hB : w.heap.size ≤ B) : ReadsRaw w' a n L:=by
 obtain ⟨hl,h⟩:=h
 refine ⟨hl,fun hn => ?_⟩
 obtain ⟨b,o,ha,hlt,hc⟩:=h hn
 have hbk:=hb.block b (by omega)
 refine ⟨b,o,ha,Nat.lt_of_lt_of_le hlt hb.size,fun i p hp => ?_⟩
 obtain ⟨h1,h2,h3⟩:=hc i p hp
 exact ⟨by rw [World.cell?_of_block (a:=⟨b,o + i * 3,none⟩) hbk]; exact h1,by rw [World.cell?_of_block (a:=⟨b,o + i * 3 + 1,none⟩) hbk]; exact h2,by rw [World.cell?_of_block (a:=⟨b,o + i * 3 + 2,none⟩) hbk]; exact h3⟩
def OkBit (b : BitN) : Prop:=MayN b.r ∧ b.how < 4
def WritR (w : World) (e : Ending) (w' : World) : Prop :=
 ∃ (acc : List BitN) (v : Value),e = .returned (.tuple #[.string (bstr (writL acc)),v]) ∧ acc.length ≤ 20 ∧ (∀ b ∈ acc,OkBit b) ∧ BitOwn w.heap.size v acc w' ∧ Below w.heap.size w w'
theorem bits_snoc {acc : List BitN} {b : BitN} (h : ∀ x ∈ acc,OkBit x) (hb : OkBit b) : ∀ x ∈ acc ++ [b],OkBit x:=by
 intro x hx
 rcases List.mem_append.1 hx with h1 | h1
 ·exact h x h1
 ·rw [List.mem_singleton.1 h1]; exact hb
theorem writ_len20 {O : List UInt8} {acc : List BitN} {i : Nat} (h : O = writL acc) (hb : ∀ x ∈ acc,OkBit x) (hl : acc.length = i) (hi : i ≤ 20) : O.length ≤ 100:=by
 rw [h]
 have:=writL_len acc (fun b hx => (hb b hx).1)
 omega
def sgL (k : Nat) : List UInt8:=(sgn k).map UInt8.ofNat
theorem sgL_len (k : Nat) : (sgL k).length ≤ 1:=by
 unfold sgL sgn
 repeat' split
 all_goals simp
theorem lit_at (W : World) {k : Nat} (hk : k < 4) : (W.alloc (.cells #[.string { data:=#[] },.string { data:=#[63] },.string { data:=#[42] },.string { data:=#[43] }] 9)).cell? ⟨W.heap.size,k,none⟩ = some (.string (bstr (sgL k))):=by
 have h:=(row_new W [.string { data:=#[] },.string { data:=#[63] },.string { data:=#[42] },.string { data:=#[43] }] 9).cell k
 rw [show (#[.string { data:=#[] },.string { data:=#[63] },.string { data:=#[42] },.string { data:=#[43] }] : Array Value) = ([.string { data:=#[] },.string { data:=#[63] },.string { data:=#[42] },.string { data:=#[43] }] : List Value).toArray from rfl,h]
 rcases (show k = 0 ∨ k = 1 ∨ k = 2 ∨ k = 3 by omega) with rfl | rfl | rfl | rfl <;> rfl
theorem str_two (O Z S : List UInt8) {z s : ByteArray} (hz : z = bstr Z) (hs : s = bstr S) : bstr O ++ z ++ s = bstr (O ++ Z ++ S):=by
 subst hz hs
 rw [bstr_append,bstr_append]
theorem str_one (O S : List UInt8) {s : ByteArray} (hs : s = bstr S) : bstr O ++ s = bstr (O ++ S):=by
 subst hs
 rw [bstr_append]
theorem writtenC (w : World) (a : Option Addr) (n c : Nat) (X : List RawB) (hX : ReadsRaw w a n X) (hn : n ≤ 9223372036854775807) : Calls Tryz.prog 24 #[.slice a n c] w (WritR w):=by
 have HX:=Lib.hid hX
 clear hX
 go_enter Tryz.func24, Tryz.ntmps24
 go_wp2_with fail
 go_loopw [4,5,6] (fun uo ub ui wr => ∃ (i : Nat) (O : List UInt8) (acc : List BitN),uo = .string (bstr O) ∧ ui = .int .i64 (i : Int) ∧ i ≤ n ∧ i ≤ 20 ∧ O.length ≤ 100 ∧ Hid (O = writL acc ∧ acc.length = i ∧ (∀ b ∈ acc,OkBit b) ∧ BitOwn w.heap.size ub acc wr ∧ Below w.heap.size w wr)) (fun uo ub ui _ => n - (RowKit.intOf ui).toNat)
 case atStart => exact ⟨0,[],[],by first | rfl | simp,rfl,Nat.zero_le _,Nat.zero_le _,Nat.zero_le _,Lib.hid ⟨rfl,rfl,fun b h => by simp at h,World.ownsRow_nil _ _ _ _,Below.refl _ _⟩⟩
 case round =>
  obtain ⟨i,O,acc,rfl,rfl,hin,hi20,hO,HR⟩:=hrel
  obtain ⟨vl,rfl⟩ : ∃ v : Value,v = u5:=⟨_,rfl⟩
  by_cases hlt : i < n ∧ i < 20
  ·obtain ⟨hlt,hlt2⟩:=hlt
   have hit : (i : Int) < (n : Int):=by omega
   have hit2 : (i : Int) < 20:=by omega
   obtain ⟨⟨zr,ba,zh⟩,hx⟩ : ∃ x,X[i]? = some x:=⟨_,List.getElem?_eq_getElem (by rw [HX.out.1]; omega)⟩
   obtain ⟨bb,bo,rfl,bl,hc⟩:=(HX.out.keep HR.out.2.2.2.2 (Nat.le_refl _)).2 (by omega)
   obtain ⟨c0,c1,c2⟩:=hc i _ hx
   dsimp only at c0 c1 c2
   clear hx hc
   go_upto_region 8 with (first
    | (go_at_call 23; refine (withinC _ zh 4 (by decide) (by decide)).mono ?_; rintro e w1 ⟨⟨k,rfl,hk4⟩,hww⟩; obtain rfl:=hww.symm))
   have hk4' : k < 4:=by omega
   obtain ⟨mb,hmb⟩ : ∃ b,mayI zr = b:=⟨_,rfl⟩
   have HMY : Hid (∀ W,Calls Tryz.prog 40 #[.int .i32 zr] W fun e w' => e = .returned (.bool mb) ∧ w' = W):=Lib.hid (fun W => hmb ▸ mayR6 W zr)
   have HB0:=Lib.hid HR.out.2.2.2.2
   have hs0:=HB0.out.size
   have HAL:=Lib.hid HR.out.2.1
   have HVL : Hid (BitOwn w.heap.size vl acc wr):=Lib.hid HR.out.2.2.2.1
   clear hk4 hww
   obtain ⟨R,hR,hRm⟩ : ∃ R : Nat,(R : Int) = (if mb = true then zr else 120) ∧ MayN R:=by
    cases mb with
    | true => exact ⟨zr.toNat,(may_true hmb).2,(may_true hmb).1⟩
    | false => exact ⟨120,rfl,by unfold MayN; omega⟩
   have HRM:=Lib.hid hRm
   clear hmb hRm
   have HCV : Hid (∀ W,(convert 21 9 (.int .i32 (R : Int))).run Tryz.prog W = .ok (.string (bstr (encodeRune (R : Int)))) W):=Lib.hid (fun W => by rw [run_convert_int_string W _ _ _ _ (by kernel_rfl) Tryz.underlying9,enc_bstr])
   have HQU : Hid (∀ W,Calls Tryz.prog 41 #[.string (bstr (encodeRune (R : Int)))] W fun e w' => e = .returned (.string (bstr (quoteL (encodeRune (R : Int))))) ∧ Below W.heap.size W w'):=Lib.hid (fun W => quoteC W _ (by have:=enc_le4 R; omega))
   cases mb with
   | true =>
    obtain rfl : zr = (R : Int):=(by simpa using hR.symm)
    clear hR
    go_upto_region 10 with (go_at_call 40; refine (HMY.out _).mono ?_; rintro e w1 ⟨rfl,hww⟩; obtain rfl:=hww.symm; clear hww)
    obtain ⟨W1,hW1⟩ : ∃ W,W = wr.alloc (.cells #[.int .i32 (R : Int),.bool ba,.int .i64 (k : Int)] 30):=⟨_,rfl⟩
    rw [← hW1]
    have hrw : Row W1 wr.heap.size 30 [.int .i32 (R : Int),.bool ba,.int .i64 (k : Int)]:=by rw [hW1]; exact row_new wr [.int .i32 (R : Int),.bool ba,.int .i64 (k : Int)] _
    have HRW:=Lib.hid hrw
    have HB1 : Hid (Below w.heap.size w W1):=Lib.hid (by rw [hW1]; exact HB0.out.alloc hs0 _)
    have HO1 : Hid (BitOwn w.heap.size vl acc W1):=Lib.hid (by rw [hW1]; exact own_below HVL.out ((Below.refl _ wr).alloc (Nat.le_refl _) _))
    have r0:=hrw.cell 0
    have r1:=hrw.cell 1
    have r2:=hrw.cell 2
    have r3:=hrw.lt
    clear hrw hW1
    cases ba with
    | true =>
     have HBL : Hid (bitL (⟨R,true,k⟩ : BitN) = [46] ++ sgL k):=Lib.hid rfl
     have hsl:=sgL_len k
     have hlt4:=lit_at W1 hk4'
     go_upto_region 14 with (first
      | fail)
     obtain ⟨W2,hW2⟩ : ∃ W,W = W1.alloc (.cells #[.string { data:=#[] },.string { data:=#[63] },.string { data:=#[42] },.string { data:=#[43] }] 9):=⟨_,rfl⟩
     rw [← hW2]
     have hal : Below W1.heap.size W1 W2:=by rw [hW2]; exact (Below.refl _ W1).alloc (Nat.le_refl _) _
     have hr2:=HRW.out.keep hal HRW.out.lt
     have y0:=hr2.cell 0
     have y1:=hr2.cell 1
     have y2:=hr2.cell 2
     have y3:=hr2.lt
     have HO2 : Hid (BitOwn w.heap.size vl acc W2):=Lib.hid (own_below HO1.out hal)
     have HB2 : Hid (Below w.heap.size w W2):=Lib.hid (HB1.out.trans (hal.mono HB1.out.size))
     clear hr2 hal hW2 hlt4
     go_wp2_with (at_builtin; (with_reducible show wpList _ _ _ (Oper.mk (some 51) _ _ _ _ _ :: _) _ _); refine appSep rfl _ _ rfl Tryz.underlying31 (.agg #[.int .i32 0,.bool false,.int .i64 0]) 3 16 infoBit rfl (by decide) (by decide) w.heap.size W2 vl acc.length (acc.flatMap bitCells) [.int .i32 (R : Int),.bool true,.int .i64 (k : Int)] rfl (by intro u hu; simp only [List.mem_cons,List.not_mem_nil,or_false] at hu; rcases hu with rfl | rfl | rfl <;> rfl) rfl HO2.out rfl rfl (by have:=HAL.out; omega) (by exact HB2.out.size) ?_; intro v8 w8 hp8; have HP8:=Lib.hid hp8; clear hp8)
     have HNX : Hid ((O ++ [46]) ++ sgL k = writL (acc ++ [(⟨R,true,k⟩ : BitN)]) ∧ (acc ++ [(⟨R,true,k⟩ : BitN)]).length = i + 1 ∧ (∀ b ∈ acc ++ [(⟨R,true,k⟩ : BitN)],OkBit b) ∧ BitOwn w.heap.size v8 (acc ++ [(⟨R,true,k⟩ : BitN)]) w8 ∧ Below w.heap.size w w8):=Lib.hid ⟨by unfold writL; rw [List.flatMap_append,HR.out.1,List.append_assoc,← HBL.out]; simp [writL],by rw [List.length_append,HAL.out]; rfl,bits_snoc HR.out.2.2.1 ⟨HRM.out,hk4'⟩,BitOwn.push HP8.out.1,HB2.out.trans (HP8.out.below HO2.out (by exact HB2.out.size))⟩
     have hln:=writ_len20 HNX.out.1 HNX.out.2.2.1 HNX.out.2.1 (by omega)
     go_roundw
     case rel => exact ⟨i + 1,(O ++ [46]) ++ sgL k,acc ++ [(⟨R,true,k⟩ : BitN)],by first | rfl | rw [List.append_assoc] | exact congrArg Value.string (str_two O [46] (sgL k) rfl rfl),by go_num,by omega,by omega,hln,HNX⟩
     case measure => simp [RowKit.intOf]; omega
    | false =>
     have HBL : Hid (bitL (⟨R,false,k⟩ : BitN) = quoteL (encodeRune ((R : Nat) : Int)) ++ sgL k):=Lib.hid rfl
     have hsl:=sgL_len k
     obtain ⟨Z,hZ⟩ : ∃ Z,quoteL (encodeRune ((R : Nat) : Int)) = Z:=⟨_,rfl⟩
     have hZl : Z.length ≤ 8:=by have h1:=quote_len (encodeRune ((R : Nat) : Int)); have h2:=enc_le4 R; rw [hZ] at h1; omega
     rw [hZ] at HQU HBL
     clear hZ
     have hcv:=HCV.out
     go_upto_region 14 with (first
      | (go_at_call 41; refine (HQU.out _).mono ?_; rintro e wq ⟨rfl,hbq⟩; have HRQ:=Lib.hid (HRW.out.keep hbq HRW.out.lt); have q0:=HRQ.out.cell 0; have q1:=HRQ.out.cell 1; have q2:=HRQ.out.cell 2; have q3:=HRQ.out.lt; have HO1:=Lib.hid (own_below HO1.out hbq); have HB1:=Lib.hid (HB1.out.trans (hbq.mono HB1.out.size)); have hlt4:=lit_at wq hk4'; clear hbq)
      | fail)
     obtain ⟨W2,hW2⟩ : ∃ W,W = wq.alloc (.cells #[.string { data:=#[] },.string { data:=#[63] },.string { data:=#[42] },.string { data:=#[43] }] 9):=⟨_,rfl⟩
     rw [← hW2]
     have hal : Below wq.heap.size wq W2:=by rw [hW2]; exact (Below.refl _ wq).alloc (Nat.le_refl _) _
     have hr2:=HRQ.out.keep hal HRQ.out.lt
     have y0:=hr2.cell 0
     have y1:=hr2.cell 1
     have y2:=hr2.cell 2
     have y3:=hr2.lt
     have HO2 : Hid (BitOwn w.heap.size vl acc W2):=Lib.hid (own_below HO1.out hal)
     have HB2 : Hid (Below w.heap.size w W2):=Lib.hid (HB1.out.trans (hal.mono HB1.out.size))
     clear hr2 hal hW2 hlt4
     go_wp2_with (at_builtin; (with_reducible show wpList _ _ _ (Oper.mk (some 51) _ _ _ _ _ :: _) _ _); refine appSep rfl _ _ rfl Tryz.underlying31 (.agg #[.int .i32 0,.bool false,.int .i64 0]) 3 16 infoBit rfl (by decide) (by decide) w.heap.size W2 vl acc.length (acc.flatMap bitCells) [.int .i32 (R : Int),.bool false,.int .i64 (k : Int)] rfl (by intro u hu; simp only [List.mem_cons,List.not_mem_nil,or_false] at hu; rcases hu with rfl | rfl | rfl <;> rfl) rfl HO2.out rfl rfl (by have:=HAL.out; omega) (by exact HB2.out.size) ?_; intro v8 w8 hp8; have HP8:=Lib.hid hp8; clear hp8)
     have HNX : Hid ((O ++ Z) ++ sgL k = writL (acc ++ [(⟨R,false,k⟩ : BitN)]) ∧ (acc ++ [(⟨R,false,k⟩ : BitN)]).length = i + 1 ∧ (∀ b ∈ acc ++ [(⟨R,false,k⟩ : BitN)],OkBit b) ∧ BitOwn w.heap.size v8 (acc ++ [(⟨R,false,k⟩ : BitN)]) w8 ∧ Below w.heap.size w w8):=Lib.hid ⟨by unfold writL; rw [List.flatMap_append,HR.out.1,List.append_assoc,← HBL.out]; simp [writL],by rw [List.length_append,HAL.out]; rfl,bits_snoc HR.out.2.2.1 ⟨HRM.out,hk4'⟩,BitOwn.push HP8.out.1,HB2.out.trans (HP8.out.below HO2.out (by exact HB2.out.size))⟩
     have hln:=writ_len20 HNX.out.1 HNX.out.2.2.1 HNX.out.2.1 (by omega)
     go_roundw
     case rel => exact ⟨i + 1,(O ++ Z) ++ sgL k,acc ++ [(⟨R,false,k⟩ : BitN)],by first | rfl | rw [List.append_assoc] | exact congrArg Value.string (str_one (O ++ Z) (sgL k) rfl),by go_num,by omega,by omega,hln,HNX⟩
     case measure => simp [RowKit.intOf]; omega
   | false =>
    obtain rfl : R = 120:=(by simp at hR; omega)
    clear hR
    go_upto_region 10 with (go_at_call 40; refine (HMY.out _).mono ?_; rintro e w1 ⟨rfl,hww⟩; obtain rfl:=hww.symm; clear hww)
    obtain ⟨W1,hW1⟩ : ∃ W,W = wr.alloc (.cells #[.int .i32 120,.bool ba,.int .i64 (k : Int)] 30):=⟨_,rfl⟩
    rw [← hW1]
    have hrw : Row W1 wr.heap.size 30 [.int .i32 120,.bool ba,.int .i64 (k : Int)]:=by rw [hW1]; exact row_new wr [.int .i32 120,.bool ba,.int .i64 (k : Int)] _
    have HRW:=Lib.hid hrw
    have HB1 : Hid (Below w.heap.size w W1):=Lib.hid (by rw [hW1]; exact HB0.out.alloc hs0 _)
    have HO1 : Hid (BitOwn w.heap.size vl acc W1):=Lib.hid (by rw [hW1]; exact own_below HVL.out ((Below.refl _ wr).alloc (Nat.le_refl _) _))
    have r0:=hrw.cell 0
    have r1:=hrw.cell 1
    have r2:=hrw.cell 2
    have r3:=hrw.lt
    clear hrw hW1
    cases ba with
    | true =>
     have HBL : Hid (bitL (⟨120,true,k⟩ : BitN) = [46] ++ sgL k):=Lib.hid rfl
     have hsl:=sgL_len k
     have hlt4:=lit_at W1 hk4'
     go_upto_region 14 with (first
      | fail)
     obtain ⟨W2,hW2⟩ : ∃ W,W = W1.alloc (.cells #[.string { data:=#[] },.string { data:=#[63] },.string { data:=#[42] },.string { data:=#[43] }] 9):=⟨_,rfl⟩
     rw [← hW2]
     have hal : Below W1.heap.size W1 W2:=by rw [hW2]; exact (Below.refl _ W1).alloc (Nat.le_refl _) _
     have hr2:=HRW.out.keep hal HRW.out.lt
     have y0:=hr2.cell 0
     have y1:=hr2.cell 1
     have y2:=hr2.cell 2
     have y3:=hr2.lt
     have HO2 : Hid (BitOwn w.heap.size vl acc W2):=Lib.hid (own_below HO1.out hal)
     have HB2 : Hid (Below w.heap.size w W2):=Lib.hid (HB1.out.trans (hal.mono HB1.out.size))
     clear hr2 hal hW2 hlt4
     go_wp2_with (at_builtin; (with_reducible show wpList _ _ _ (Oper.mk (some 51) _ _ _ _ _ :: _) _ _); refine appSep rfl _ _ rfl Tryz.underlying31 (.agg #[.int .i32 0,.bool false,.int .i64 0]) 3 16 infoBit rfl (by decide) (by decide) w.heap.size W2 vl acc.length (acc.flatMap bitCells) [.int .i32 120,.bool true,.int .i64 (k : Int)] rfl (by intro u hu; simp only [List.mem_cons,List.not_mem_nil,or_false] at hu; rcases hu with rfl | rfl | rfl <;> rfl) rfl HO2.out rfl rfl (by have:=HAL.out; omega) (by exact HB2.out.size) ?_; intro v8 w8 hp8; have HP8:=Lib.hid hp8; clear hp8)
     have HNX : Hid ((O ++ [46]) ++ sgL k = writL (acc ++ [(⟨120,true,k⟩ : BitN)]) ∧ (acc ++ [(⟨120,true,k⟩ : BitN)]).length = i + 1 ∧ (∀ b ∈ acc ++ [(⟨120,true,k⟩ : BitN)],OkBit b) ∧ BitOwn w.heap.size v8 (acc ++ [(⟨120,true,k⟩ : BitN)]) w8 ∧ Below w.heap.size w w8):=Lib.hid ⟨by unfold writL; rw [List.flatMap_append,HR.out.1,List.append_assoc,← HBL.out]; simp [writL],by rw [List.length_append,HAL.out]; rfl,bits_snoc HR.out.2.2.1 ⟨HRM.out,hk4'⟩,BitOwn.push HP8.out.1,HB2.out.trans (HP8.out.below HO2.out (by exact HB2.out.size))⟩
     have hln:=writ_len20 HNX.out.1 HNX.out.2.2.1 HNX.out.2.1 (by omega)
     go_roundw
     case rel => exact ⟨i + 1,(O ++ [46]) ++ sgL k,acc ++ [(⟨120,true,k⟩ : BitN)],by first | rfl | rw [List.append_assoc] | exact congrArg Value.string (str_two O [46] (sgL k) rfl rfl),by go_num,by omega,by omega,hln,HNX⟩
     case measure => simp [RowKit.intOf]; omega
    | false =>
     have HBL : Hid (bitL (⟨120,false,k⟩ : BitN) = quoteL (encodeRune ((120 : Nat) : Int)) ++ sgL k):=Lib.hid rfl
     have hsl:=sgL_len k
     obtain ⟨Z,hZ⟩ : ∃ Z,quoteL (encodeRune ((120 : Nat) : Int)) = Z:=⟨_,rfl⟩
     have hZl : Z.length ≤ 8:=by have h1:=quote_len (encodeRune ((120 : Nat) : Int)); have h2:=enc_le4 120; rw [hZ] at h1; omega
     rw [hZ] at HQU HBL
     clear hZ
     have hcv:=HCV.out
     simp only [Int.cast_ofNat_Int] at hcv HQU
     go_upto_region 14 with (first
      | (go_at_call 41; refine (HQU.out _).mono ?_; rintro e wq ⟨rfl,hbq⟩; have HRQ:=Lib.hid (HRW.out.keep hbq HRW.out.lt); have q0:=HRQ.out.cell 0; have q1:=HRQ.out.cell 1; have q2:=HRQ.out.cell 2; have q3:=HRQ.out.lt; have HO1:=Lib.hid (own_below HO1.out hbq); have HB1:=Lib.hid (HB1.out.trans (hbq.mono HB1.out.size)); have hlt4:=lit_at wq hk4'; clear hbq)
      | fail)
     obtain ⟨W2,hW2⟩ : ∃ W,W = wq.alloc (.cells #[.string { data:=#[] },.string { data:=#[63] },.string { data:=#[42] },.string { data:=#[43] }] 9):=⟨_,rfl⟩
     rw [← hW2]
     have hal : Below wq.heap.size wq W2:=by rw [hW2]; exact (Below.refl _ wq).alloc (Nat.le_refl _) _
     have hr2:=HRQ.out.keep hal HRQ.out.lt
     have y0:=hr2.cell 0
     have y1:=hr2.cell 1
     have y2:=hr2.cell 2
     have y3:=hr2.lt
     have HO2 : Hid (BitOwn w.heap.size vl acc W2):=Lib.hid (own_below HO1.out hal)
     have HB2 : Hid (Below w.heap.size w W2):=Lib.hid (HB1.out.trans (hal.mono HB1.out.size))
     clear hr2 hal hW2 hlt4
     go_wp2_with (at_builtin; (with_reducible show wpList _ _ _ (Oper.mk (some 51) _ _ _ _ _ :: _) _ _); refine appSep rfl _ _ rfl Tryz.underlying31 (.agg #[.int .i32 0,.bool false,.int .i64 0]) 3 16 infoBit rfl (by decide) (by decide) w.heap.size W2 vl acc.length (acc.flatMap bitCells) [.int .i32 120,.bool false,.int .i64 (k : Int)] rfl (by intro u hu; simp only [List.mem_cons,List.not_mem_nil,or_false] at hu; rcases hu with rfl | rfl | rfl <;> rfl) rfl HO2.out rfl rfl (by have:=HAL.out; omega) (by exact HB2.out.size) ?_; intro v8 w8 hp8; have HP8:=Lib.hid hp8; clear hp8)
     have HNX : Hid ((O ++ Z) ++ sgL k = writL (acc ++ [(⟨120,false,k⟩ : BitN)]) ∧ (acc ++ [(⟨120,false,k⟩ : BitN)]).length = i + 1 ∧ (∀ b ∈ acc ++ [(⟨120,false,k⟩ : BitN)],OkBit b) ∧ BitOwn w.heap.size v8 (acc ++ [(⟨120,false,k⟩ : BitN)]) w8 ∧ Below w.heap.size w w8):=Lib.hid ⟨by unfold writL; rw [List.flatMap_append,HR.out.1,List.append_assoc,← HBL.out]; simp [writL],by rw [List.length_append,HAL.out]; rfl,bits_snoc HR.out.2.2.1 ⟨HRM.out,hk4'⟩,BitOwn.push HP8.out.1,HB2.out.trans (HP8.out.below HO2.out (by exact HB2.out.size))⟩
     have hln:=writ_len20 HNX.out.1 HNX.out.2.2.1 HNX.out.2.1 (by omega)
     go_roundw
     case rel => exact ⟨i + 1,(O ++ Z) ++ sgL k,acc ++ [(⟨120,false,k⟩ : BitN)],by first | rfl | rw [List.append_assoc] | exact congrArg Value.string (str_one (O ++ Z) (sgL k) rfl),by go_num,by omega,by omega,hln,HNX⟩
     case measure => simp [RowKit.intOf]; omega
  ·have HF : Hid (WritR w (.returned (.tuple #[.string (bstr O),vl])) wr):=Lib.hid ⟨acc,vl,by rw [HR.out.1],by have:=HR.out.2.1; omega,HR.out.2.2.1,HR.out.2.2.2.1,HR.out.2.2.2.2⟩
   by_cases hn2 : i < n
   ·have hit : (i : Int) < (n : Int):=by omega
    have hit2 : ¬ (i : Int) < 20:=by omega
    go_wp2_with fail
    go_ret2
    exact HF.out
   ·have hit : ¬ (i : Int) < (n : Int):=by omega
    go_wp2_with fail
    go_ret2
    exact HF.out
end Go.Proofs.YtchdeboialbdiaaGreatDoor
