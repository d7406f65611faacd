/- Texts joined, one behind the other (STok, SNow, SHex). -/
import Derived.Test.YtchdeboialbdiaaGreatDoorSn04
import Derived.Laws.ResultCell
import Derived.Laws.Rows
namespace Go.Proofs.YtchdeboialbdiaaGreatDoor
set_option linter.unusedVariables false
set_option linter.unusedSimpArgs false
set_option maxHeartbeats 8000000
set_option maxRecDepth 100000
open Go.RowKit
open Go.Lib hiding intOf
def tokCells (v : Nat) : List Value:=[.int .i32 (tokR v : Int),.int .i64 (tokW v : Int)]
theorem infoTok : (Tryz.prog.info? 91).map (fun i => (i.zero,i.size,i.bytes)) = some (some (.agg #[.int .i32 0,.int .i64 0]),2,16):=by kernel_rfl
theorem infoInt : (Tryz.prog.info? 3).map (fun i => (i.zero,i.size,i.bytes)) = some (some (.int .i64 0),1,8):=by kernel_rfl
def I1 (n : Nat) : Value:=.int .i64 (n : Int)
def TokOwn (B : Nat) (v : Value) (V : List Nat) (w : World) : Prop:=w.ownsRow B 91 2 v V.length (V.flatMap tokCells)
def IntOwn (B : Nat) (v : Value) (L : List Nat) (w : World) : Prop:=w.ownsRow B 3 1 v L.length (L.map I1)
theorem TokOwn.below {B : Nat} {v : Value} {V : List Nat} {w w' : World} (h : TokOwn B v V w) (b : Below w.heap.size w w') : TokOwn B v V w':=own_below h b
theorem IntOwn.below {B : Nat} {v : Value} {L : List Nat} {w w' : World} (h : IntOwn B v L w) (b : Below w.heap.size w w') : IntOwn B v L w':=own_below h b
theorem TokOwn.push {B : Nat} {v : Value} {V : List Nat} {x : Nat} {w : World} (h : w.ownsRow B 91 2 v (V.length + 1) (V.flatMap tokCells ++ tokCells x)) : TokOwn B v (V ++ [x]) w:=by
 unfold TokOwn
 rw [List.length_append,List.flatMap_append]
 simpa using h
theorem IntOwn.push {B : Nat} {v : Value} {L : List Nat} {x : Nat} {w : World} (h : w.ownsRow B 3 1 v (L.length + 1) (L.map I1 ++ [I1 x])) : IntOwn B v (L ++ [x]) w:=by
 unfold IntOwn
 rw [List.length_append,List.map_append]
 exact h
theorem chr1_width {l : List UInt8} (hl : l ≠ []) : 1 ≤ (chr1 l).2 ∧ (chr1 l).2 ≤ l.length ∧ (chr1 l).2 ≤ 4:=by
 unfold chr1
 have h1:=List.length_pos_iff.2 hl
 split
 ·exact ⟨dec_width_one,dec_width hl,dec_width_four⟩
 ·exact ⟨Nat.le_refl _,h1,by show 1 ≤ 4; decide⟩
theorem charsGo_stop (f : Nat) (a : Nat) : charsGo f [] a = []:=by cases f <;> simp [charsGo]
theorem charsGo_next {f : Nat} {l : List UInt8} (hl : l ≠ []) (a : Nat) : charsGo (f + 1) l a = ((chr1 l).1,a) :: charsGo f (l.drop (chr1 l).2) (a + (chr1 l).2):=by rw [charsGo,if_neg hl]
theorem charsGo_len : ∀ (f : Nat) (l : List UInt8) (a : Nat),(charsGo f l a).length ≤ l.length
 | 0,l,a => Nat.zero_le _
 | f + 1,l,a => by
  by_cases hl : l = []
  ·subst hl; simp [charsGo]
  ·rw [charsGo_next hl,List.length_cons]
   have:=charsGo_len f (l.drop (chr1 l).2) (a + (chr1 l).2)
   have h1:=chr1_width hl
   rw [List.length_drop] at this
   omega
theorem not_right {l : List UInt8} (hl : l ≠ []) (h : ¬ RightD (decodeL l)) : (decodeL l).1 = 65533 ∧ (decodeL l).2 = 1:=by
 unfold RightD at h
 have:=dec_width_one (l:=l)
 omega
def ChP (w : World) (l : List UInt8) (e : Ending) (w' : World) : Prop :=
 ∃ vl va,e = .returned (.tuple #[vl,va]) ∧ TokOwn w.heap.size vl (valsL l) w' ∧ IntOwn w.heap.size va (atsL l) w' ∧ Below w.heap.size w w'
theorem charsC (w : World) (l : List UInt8) (hm : l.length ≤ 67108864) (hT : Tabs w) :
  Calls Tryz.prog 33 #[.string (bstr l)] w (ChP w l):=by
 obtain ⟨n,hn⟩ : ∃ n,n = l.length:=⟨_,rfl⟩
 have hsz : (bstr l).size = n:=by rw [bstr_size,hn]
 rw [← hn] at hm
 have HN:=Lib.hid hn
 have HT:=Lib.hid hT
 clear hn hT
 go_enter Tryz.func33, Tryz.ntmps33
 go_wp2
 go_loopw [4,5,6] (fun vl va ui wr => ∃ (i f : Nat) (acc : List (Nat × Nat)),ui = .int .i64 (i : Int) ∧ i ≤ n ∧ acc.length ≤ i ∧ Hid (n ≤ i + f ∧ acc ++ charsGo f (l.drop i) i = charsL l ∧ TokOwn w.heap.size vl (acc.map Prod.fst) wr ∧ IntOwn w.heap.size va (acc.map Prod.snd) wr ∧ Below w.heap.size w wr)) (fun _ _ ui _ => n - (RowKit.intOf ui).toNat)
 case atStart => exact ⟨0,l.length,[],rfl,Nat.zero_le _,Nat.le_refl _,Lib.hid ⟨by rw [HN.out]; omega,rfl,World.ownsRow_nil _ _ _ _,World.ownsRow_nil _ _ _ _,Below.refl _ _⟩⟩
 case round =>
  obtain ⟨i,f,acc,rfl,hi,hal,HR⟩:=hrel
  obtain ⟨vl,rfl⟩ : ∃ v : Value,v = u4:=⟨_,rfl⟩
  obtain ⟨va,rfl⟩ : ∃ v : Value,v = u5:=⟨_,rfl⟩
  by_cases hlt : i < n
  ·obtain ⟨f,rfl⟩ : ∃ g,f = g + 1:=⟨f - 1,by have:=HR.out.1; omega⟩
   obtain ⟨D,hD⟩ : ∃ D,l.drop i = D:=⟨_,rfl⟩
   have hDl : D.length = n - i:=by rw [← hD,List.length_drop,HN.out]
   have hDn : D ≠ []:=by rintro rfl; simp at hDl; omega
   have hDt : D.take (n - i) = D:=List.take_of_length_le (by omega)
   have HF:=Lib.hid (firstC wr D hDn (HT.out.next HR.out.2.2.2.2))
   have hgo:=HR.out.2.1
   rw [hD,charsGo_next hDn] at hgo
   have hwd:=chr1_width hDn
   obtain ⟨x,hx⟩:=some_at (l:=l) (k:=i) (by have:=HN.out; omega)
   have i1 : i < (bstr l).size:=by rw [hsz]; exact hlt
   have ha : (bstr l)[i]'i1 = x:=bstr_at hx _
   have hb0 : bN D 0 = x.toNat:=by rw [← hD]; unfold bN; rw [getD_drop,Nat.add_zero,List.getD_eq_getElem?_getD,hx]; rfl
   have hit : (i : Int) < (n : Int):=by omega
   have hxl:=x.toNat_lt
   have hal2 : acc.length ≤ 67108864:=by omega
   by_cases hr : RightD (decodeL D)
   ·have hc : chr1 D = decodeL D:=by unfold chr1; rw [if_pos hr]
    rw [hc] at hgo hwd
    rw [decide_eq_true hr] at HF
    have hrl:=dec_rune_le (l:=D)
    obtain ⟨R,hRe⟩ : ∃ R,(decodeL D).1 = R:=⟨_,rfl⟩
    obtain ⟨K,hKe⟩ : ∃ K,(decodeL D).2 = K:=⟨_,rfl⟩
    rw [hRe,hKe] at HF hgo
    rw [hKe] at hwd
    rw [hRe] at hrl
    obtain ⟨RR,rfl⟩ : ∃ RR,RR = R:=⟨_,rfl⟩
    obtain ⟨WW,hWW⟩ : ∃ WW : Nat,WW = 0:=⟨_,rfl⟩
    have hR1 : tokR RR = RR:=by unfold tokR wrongN; rw [if_pos (by omega)]
    have hW1 : tokW RR = WW:=by unfold tokW wrongN; rw [if_pos (by omega),hWW]
    subst hWW
    have HGO:=Lib.hid hgo
    have hDD:=Lib.hid hD
    clear hgo hx hRe hKe hc hr hb0
    have hcs : tokCells RR = [.int .i32 (RR : Int),.int .i64 0]:=by unfold tokCells; rw [hR1,hW1]; rfl
    have HCS:=Lib.hid hcs
    clear hcs
    have hw1 : ∀ w1,Below wr.heap.size wr w1 → Below w.heap.size w (w1.alloc (.cells #[.int .i32 (RR : Int),.int .i64 0] 91)) ∧ TokOwn w.heap.size vl (acc.map Prod.fst) (w1.alloc (.cells #[.int .i32 (RR : Int),.int .i64 0] 91)) ∧ IntOwn w.heap.size va (acc.map Prod.snd) (w1.alloc (.cells #[.int .i32 (RR : Int),.int .i64 0] 91)) ∧ w.heap.size ≤ (w1.alloc (.cells #[.int .i32 (RR : Int),.int .i64 0] 91)).heap.size:=fun w1 hb1 => by
     have h1:=hb1.size
     have h2:=HR.out.2.2.2.2.size
     have h3 : (w1.alloc (.cells #[.int .i32 (RR : Int),.int .i64 0] 91)).heap.size = w1.heap.size + 1:=by simp
     exact ⟨(HR.out.2.2.2.2.trans (hb1.mono h2)).alloc (by omega) _,World.ownsRow.alloc (HR.out.2.2.1.below hb1) _,World.ownsRow.alloc (HR.out.2.2.2.1.below hb1) _,by omega⟩
    have HW1:=Lib.hid hw1
    clear hw1
    go_wp2_with (first
     | (go_at_call 45; refine (HF.out).mono ?_; rintro e w1 ⟨rfl,hb1⟩; have HB1:=Lib.hid (HW1.out w1 hb1); clear hb1)
     | (at_builtin; (with_reducible show wpList _ _ _ (Oper.mk (some 35) _ _ _ _ _ :: _) _ _); refine appSep rfl _ _ rfl Tryz.underlying72 (.agg #[.int .i32 0,.int .i64 0]) 2 16 infoTok rfl (by decide) (by decide) w.heap.size (w1.alloc (.cells #[.int .i32 (RR : Int),.int .i64 0] 91)) vl (acc.map Prod.fst).length ((acc.map Prod.fst).flatMap tokCells) [.int .i32 (RR : Int),.int .i64 0] rfl (by intro u hu; simp only [List.mem_cons,List.not_mem_nil,or_false] at hu; rcases hu with rfl | rfl <;> rfl) rfl HB1.out.2.1 (show Value.slice (some ⟨w1.heap.size + 1,0,none⟩) 1 1 = Value.slice (some ⟨(w1.alloc (.cells #[.int .i32 (RR : Int),.int .i64 0] 91)).heap.size,0,none⟩) 1 1 by simp) rfl (by rw [List.length_map]; omega) HB1.out.2.2.2 ?_; intro v8 w8 hp8; have HP8:=Lib.hid hp8; clear hp8)
     | (at_builtin; (with_reducible show wpList _ _ _ (Oper.mk (some 39) _ _ _ _ _ :: _) _ _); refine appSep rfl _ _ rfl Tryz.underlying73 (.int .i64 0) 1 8 infoInt rfl (by decide) (by decide) w.heap.size w8 va (acc.map Prod.snd).length ((acc.map Prod.snd).map I1) [.int .i64 (i : Int)] rfl (by intro u hu; simp only [List.mem_singleton] at hu; subst hu; rfl) rfl (HB1.out.2.2.1.kept HP8.out.2.1 (own_apart_ty HB1.out.2.2.1 HB1.out.2.1 (by decide))) rfl rfl (by rw [List.length_map]; omega) (Nat.le_trans HB1.out.2.2.2 HP8.out.2.1.size) ?_; intro v9 w9 hp9; have HP9:=Lib.hid hp9; clear hp9))
    have HNX : Hid (n ≤ i + K + f ∧ (acc ++ [(RR,i)]) ++ charsGo f (l.drop (i + K)) (i + K) = charsL l ∧ TokOwn w.heap.size v8 ((acc ++ [(RR,i)]).map Prod.fst) w9 ∧ IntOwn w.heap.size v9 ((acc ++ [(RR,i)]).map Prod.snd) w9 ∧ Below w.heap.size w w9):=Lib.hid (by
     have hI8 : w8.ownsRow w.heap.size 3 1 va (acc.map Prod.snd).length ((acc.map Prod.snd).map I1):=HB1.out.2.2.1.kept HP8.out.2.1 (own_apart_ty HB1.out.2.2.1 HB1.out.2.1 (by decide))
     have hs8:=Nat.le_trans HB1.out.2.2.2 HP8.out.2.1.size
     have hT8 : TokOwn w.heap.size v8 ((acc ++ [(RR,i)]).map Prod.fst) w8:=by
      rw [List.map_append]
      have h1:=HP8.out.1
      rw [← HCS.out] at h1
      exact TokOwn.push h1
     refine ⟨by have:=HR.out.1; omega,?_,hT8.kept HP9.out.2.1 (own_apart_ty hT8 hI8 (by decide)),?_,(HB1.out.1.trans (HP8.out.below HB1.out.2.1 HB1.out.2.2.2)).trans (HP9.out.below hI8 hs8)⟩
     ·rw [← HGO.out,← hDD.out,List.drop_drop]
      simp
     ·rw [List.map_append]
      exact IntOwn.push HP9.out.1)
    go_roundw
    case rel => exact ⟨i + K,f,acc ++ [(RR,i)],by go_num,by omega,by rw [List.length_append,List.length_singleton]; omega,HNX⟩
    case measure => simp [RowKit.intOf]; omega
   ·have hc : chr1 D = (wrongN + x.toNat,1):=by unfold chr1; rw [if_neg hr,hb0]
    rw [hc] at hgo hwd
    dsimp only at hgo hwd
    rw [decide_eq_false hr] at HF
    obtain ⟨hn1,hn2⟩:=not_right hDn hr
    obtain ⟨RR,hRR⟩ : ∃ RR,RR = (decodeL D).1:=⟨_,rfl⟩
    obtain ⟨K,hKK⟩ : ∃ K,K = (decodeL D).2:=⟨_,rfl⟩
    rw [← hRR,← hKK] at HF
    rw [hn1] at hRR
    rw [hn2] at hKK
    have hk1 : 1 ≤ K:=by omega
    have hk2 : K ≤ 1:=by omega
    rw [← hKK] at hgo
    have hrl : RR ≤ 1114111:=by omega
    obtain ⟨v,hv⟩ : ∃ v,v = wrongN + x.toNat:=⟨_,rfl⟩
    have hR1 : tokR v = RR:=by rw [hv,hRR]; unfold tokR wrongN; rw [if_neg (by omega)]
    have hW1 : tokW v = x.toNat:=by rw [hv]; unfold tokW wrongN; rw [if_neg (by omega)]; omega
    rw [← hv] at hgo
    have HGO:=Lib.hid hgo
    have hDD:=Lib.hid hD
    clear hgo hx hc hr hb0 hn1 hn2 hRR hv hKK
    have hcs : tokCells v = [.int .i32 (RR : Int),.int .i64 (x.toNat : Int)]:=by unfold tokCells; rw [hR1,hW1]
    have HCS:=Lib.hid hcs
    clear hcs
    have hw1 : ∀ w1,Below wr.heap.size wr w1 → Below w.heap.size w (w1.alloc (.cells #[.int .i32 (RR : Int),.int .i64 (x.toNat : Int)] 91)) ∧ TokOwn w.heap.size vl (acc.map Prod.fst) (w1.alloc (.cells #[.int .i32 (RR : Int),.int .i64 (x.toNat : Int)] 91)) ∧ IntOwn w.heap.size va (acc.map Prod.snd) (w1.alloc (.cells #[.int .i32 (RR : Int),.int .i64 (x.toNat : Int)] 91)) ∧ w.heap.size ≤ (w1.alloc (.cells #[.int .i32 (RR : Int),.int .i64 (x.toNat : Int)] 91)).heap.size:=fun w1 hb1 => by
     have h1:=hb1.size
     have h2:=HR.out.2.2.2.2.size
     have h3 : (w1.alloc (.cells #[.int .i32 (RR : Int),.int .i64 (x.toNat : Int)] 91)).heap.size = w1.heap.size + 1:=by simp
     exact ⟨(HR.out.2.2.2.2.trans (hb1.mono h2)).alloc (by omega) _,World.ownsRow.alloc (HR.out.2.2.1.below hb1) _,World.ownsRow.alloc (HR.out.2.2.2.1.below hb1) _,by omega⟩
    have HW1:=Lib.hid hw1
    clear hw1
    go_wp2_with (first
     | (go_at_call 45; refine (HF.out).mono ?_; rintro e w1 ⟨rfl,hb1⟩; have HB1:=Lib.hid (HW1.out w1 hb1); clear hb1)
     | (at_builtin; (with_reducible show wpList _ _ _ (Oper.mk (some 35) _ _ _ _ _ :: _) _ _); refine appSep rfl _ _ rfl Tryz.underlying72 (.agg #[.int .i32 0,.int .i64 0]) 2 16 infoTok rfl (by decide) (by decide) w.heap.size (w1.alloc (.cells #[.int .i32 (RR : Int),.int .i64 (x.toNat : Int)] 91)) vl (acc.map Prod.fst).length ((acc.map Prod.fst).flatMap tokCells) [.int .i32 (RR : Int),.int .i64 (x.toNat : Int)] rfl (by intro u hu; simp only [List.mem_cons,List.not_mem_nil,or_false] at hu; rcases hu with rfl | rfl <;> rfl) rfl HB1.out.2.1 (show Value.slice (some ⟨w1.heap.size + 1,0,none⟩) 1 1 = Value.slice (some ⟨(w1.alloc (.cells #[.int .i32 (RR : Int),.int .i64 (x.toNat : Int)] 91)).heap.size,0,none⟩) 1 1 by simp) rfl (by rw [List.length_map]; omega) HB1.out.2.2.2 ?_; intro v8 w8 hp8; have HP8:=Lib.hid hp8; clear hp8)
     | (at_builtin; (with_reducible show wpList _ _ _ (Oper.mk (some 39) _ _ _ _ _ :: _) _ _); refine appSep rfl _ _ rfl Tryz.underlying73 (.int .i64 0) 1 8 infoInt rfl (by decide) (by decide) w.heap.size w8 va (acc.map Prod.snd).length ((acc.map Prod.snd).map I1) [.int .i64 (i : Int)] rfl (by intro u hu; simp only [List.mem_singleton] at hu; subst hu; rfl) rfl (HB1.out.2.2.1.kept HP8.out.2.1 (own_apart_ty HB1.out.2.2.1 HB1.out.2.1 (by decide))) rfl rfl (by rw [List.length_map]; omega) (Nat.le_trans HB1.out.2.2.2 HP8.out.2.1.size) ?_; intro v9 w9 hp9; have HP9:=Lib.hid hp9; clear hp9))
    have HNX : Hid (n ≤ i + K + f ∧ (acc ++ [(v,i)]) ++ charsGo f (l.drop (i + K)) (i + K) = charsL l ∧ TokOwn w.heap.size v8 ((acc ++ [(v,i)]).map Prod.fst) w9 ∧ IntOwn w.heap.size v9 ((acc ++ [(v,i)]).map Prod.snd) w9 ∧ Below w.heap.size w w9):=Lib.hid (by
     have hI8 : w8.ownsRow w.heap.size 3 1 va (acc.map Prod.snd).length ((acc.map Prod.snd).map I1):=HB1.out.2.2.1.kept HP8.out.2.1 (own_apart_ty HB1.out.2.2.1 HB1.out.2.1 (by decide))
     have hs8:=Nat.le_trans HB1.out.2.2.2 HP8.out.2.1.size
     have hT8 : TokOwn w.heap.size v8 ((acc ++ [(v,i)]).map Prod.fst) w8:=by
      rw [List.map_append]
      have h1:=HP8.out.1
      rw [← HCS.out] at h1
      exact TokOwn.push h1
     refine ⟨by have:=HR.out.1; omega,?_,hT8.kept HP9.out.2.1 (own_apart_ty hT8 hI8 (by decide)),?_,(HB1.out.1.trans (HP8.out.below HB1.out.2.1 HB1.out.2.2.2)).trans (HP9.out.below hI8 hs8)⟩
     ·rw [← HGO.out,← hDD.out,List.drop_drop]
      simp
     ·rw [List.map_append]
      exact IntOwn.push HP9.out.1)
    go_roundw
    case rel => exact ⟨i + K,f,acc ++ [(v,i)],by go_num,by omega,by rw [List.length_append,List.length_singleton]; omega,HNX⟩
    case measure => simp [RowKit.intOf]; omega
  ·obtain rfl : i = n:=by omega
   have hnil : l.drop i = []:=List.drop_of_length_le (by rw [← HN.out]; exact Nat.le_refl _)
   have hgo:=HR.out.2.1
   rw [hnil,charsGo_stop,List.append_nil] at hgo
   have HGO:=Lib.hid hgo
   have HI : Hid (wr.ownsRow w.heap.size 3 1 va (acc.map Prod.snd).length ((acc.map Prod.snd).map I1)):=Lib.hid HR.out.2.2.2.1
   have HTK:=Lib.hid HR.out.2.2.1
   have HB:=Lib.hid HR.out.2.2.2.2
   clear hgo hnil HR hlt hi
   go_wp2_with (at_builtin; refine appSep rfl _ _ rfl Tryz.underlying73 (.int .i64 0) 1 8 infoInt rfl (by decide) (by decide) w.heap.size wr va (acc.map Prod.snd).length ((acc.map Prod.snd).map I1) [.int .i64 (i : Int)] rfl (by intro u hu; simp only [List.mem_singleton] at hu; subst hu; rfl) rfl HI.out rfl rfl (by rw [List.length_map]; omega) HB.out.size ?_; intro v9 w9 hp9; have HP9:=Lib.hid hp9; clear hp9)
   go_ret2
   refine ⟨vl,v9,rfl,?_,?_,HB.out.trans (HP9.out.below HI.out HB.out.size)⟩
   ·unfold valsL
    rw [← HGO.out]
    exact World.ownsRow.kept HTK.out HP9.out.2.1 (own_apart_ty HTK.out HI.out (by decide))
   ·unfold atsL
    rw [← HGO.out,← HN.out]
    exact IntOwn.push HP9.out.1
def ReadsTok (w : World) (a : Option Addr) (n : Nat) (V : List Nat) : Prop :=
 V.length = n ∧ (0 < n → ∃ b off,a = some ⟨b,off,none⟩ ∧ b < w.heap.size ∧ ∀ i v,V[i]? = some v → w.cell? ⟨b,off + i * 2,none⟩ = some (.int .i32 (tokR v : Int)) ∧ w.cell? ⟨b,off + i * 2 + 1,none⟩ = some (.int .i64 (tokW v : Int)))
theorem ReadsTok.keep {B : Nat} {w w' : World} {a : Option Addr} {n : Nat} {V : List Nat} (h : ReadsTok w a n V) (hb : Below B w w') (hB : w.heap.size ≤ B) : ReadsTok w' a n V:=by
 obtain ⟨hl,h⟩:=h
 refine ⟨hl,fun hn => ?_⟩
 obtain ⟨b,off,ha,hlt,hc⟩:=h hn
 have hk:=Nat.lt_of_lt_of_le hlt hB
 refine ⟨b,off,ha,Nat.lt_of_lt_of_le hlt hb.size,fun i v hv => ?_⟩
 obtain ⟨h1,h2⟩:=hc i v hv
 exact ⟨by rw [hb.cell (p:=⟨b,off + i * 2,none⟩) hk]; exact h1,by rw [hb.cell (p:=⟨b,off + i * 2 + 1,none⟩) hk]; exact h2⟩
theorem ReadsTok.at {w : World} {a : Option Addr} {n : Nat} {V : List Nat} (h : ReadsTok w a n V) {i : Nat} (hi : i < n) :
  ∃ b off v,a = some ⟨b,off,none⟩ ∧ b < w.heap.size ∧ V[i]? = some v ∧ w.cell? ⟨b,off + i * 2,none⟩ = some (.int .i32 (tokR v : Int)) ∧ w.cell? ⟨b,off + i * 2 + 1,none⟩ = some (.int .i64 (tokW v : Int)):=by
 obtain ⟨hl,h⟩:=h
 obtain ⟨b,off,ha,hlt,hc⟩:=h (by omega)
 have hx : V[i]? = some V[i]:=List.getElem?_eq_getElem (by omega)
 obtain ⟨h1,h2⟩:=hc i _ hx
 exact ⟨b,off,V[i],ha,hlt,hx,h1,h2⟩
structure Scan (w : World) (p : Nat) (a : Option Addr) (n c : Nat) (V : List Nat) (i : Nat) (fo : Bool) : Prop where
 row : Row w p 89 [.slice a n c,.int .i64 (i : Int),.bool fo]
 toks : ReadsTok w a n V
 apart : ∀ ad,a = some ad → ad.block ≠ p
theorem Scan.keep {B : Nat} {w w' : World} {p : Nat} {a : Option Addr} {n c : Nat} {V : List Nat} {i : Nat} {fo : Bool} (h : Scan w p a n c V i fo) (hb : Below B w w') (hB : w.heap.size ≤ B) : Scan w' p a n c V i fo :=
 ⟨h.row.keep (B:=B) hb (Nat.lt_of_lt_of_le h.row.lt hB),h.toks.keep hb hB,h.apart⟩
def OkV (V : List Nat) : Prop:=∀ v ∈ V,(v < wrongN ∧ (v < 55296 ∨ 57343 < v)) ∨ (wrongN + 128 ≤ v ∧ v < wrongN + 256)
theorem chr1_ok {l : List UInt8} (hl : l ≠ []) : ((chr1 l).1 < wrongN ∧ ((chr1 l).1 < 55296 ∨ 57343 < (chr1 l).1)) ∨ (wrongN + 128 ≤ (chr1 l).1 ∧ (chr1 l).1 < wrongN + 256):=by
 unfold chr1
 split
 ·rename_i h
  left
  have h1:=dec_rune_le (l:=l)
  refine ⟨by unfold wrongN; omega,?_⟩
  have hd : decodeL l = decodeN l.length (bN l 0) (bN l 1) (bN l 2) (bN l 3):=decodeL_N l
  have b0:=bN_lt l 0
  rw [hd]
  unfold decodeN
  repeat' split
  all_goals dsimp only
  all_goals omega
 ·rename_i h
  right
  obtain ⟨h1,h2⟩:=not_right hl h
  have b0:=bN_lt l 0
  have : 128 ≤ bN l 0:=by
   apply Decidable.byContradiction
   intro hc
   have:=dec_low (l:=l) (show (l.getD 0 0).toNat < 128 by show bN l 0 < 128; omega)
   rw [this] at h1
   dsimp only at h1
   have : (l.getD 0 0).toNat < 256:=UInt8.toNat_lt _
   omega
  dsimp only
  omega
theorem chars_ok : ∀ (f : Nat) (l : List UInt8) (a : Nat),OkV ((charsGo f l a).map Prod.fst)
 | 0,l,a => fun v hv => by simp [charsGo] at hv
 | f + 1,l,a => by
  by_cases hl : l = []
  ·subst hl; intro v hv; simp [charsGo] at hv
  ·rw [charsGo_next hl,List.map_cons]
   intro v hv
   rcases List.mem_cons.1 hv with rfl | hv
   ·exact chr1_ok hl
   ·exact chars_ok f _ _ v hv
theorem vals_ok (l : List UInt8) : OkV (valsL l):=chars_ok _ _ _
def nowI (V : List Nat) (i : Nat) : Int:=match V[i]? with
 | some v => if v < wrongN then (v : Int) else -1
 | none => -1
theorem nowC (w : World) (p : Nat) (a : Option Addr) (n c : Nat) (V : List Nat) (i : Nat) (fo : Bool) (h : Scan w p a n c V i fo) (hV : OkV V) (hi : i ≤ 67108864) (hn : n ≤ 67108864) :
  Calls Tryz.prog 48 #[.pointer (some ⟨p,0,none⟩)] w fun e w' => e = .returned (.int .i32 (nowI V i)) ∧ Quiet w w':=by
 have e0 : w.cell? ⟨p,0,none⟩ = some (.slice a n c):=h.row.cell 0
 have e1 : w.cell? ⟨p,1,none⟩ = some (.int .i64 (i : Int)):=h.row.cell 1
 by_cases hlt : i < n
 ·obtain ⟨b,off,v,rfl,hb,hv,c0,c1⟩:=h.toks.at hlt
  have hit : (i : Int) < (n : Int):=by omega
  have hv2:=hV v (List.mem_of_getElem? hv)
  by_cases hw : v < wrongN
  ·have hr : tokR v = v:=by unfold tokR; rw [if_pos hw]
   have hz : tokW v = 0:=by unfold tokW; rw [if_pos hw]
   rw [hr] at c0
   rw [hz] at c1
   have hnow : nowI V i = (v : Int):=by unfold nowI; rw [hv]; dsimp only; rw [if_pos hw]
   have HNW:=Lib.hid hnow
   clear h hv hr hz hnow hw hv2
   go_enter Tryz.func48, Tryz.ntmps48
   go_wp2
   go_quiet (fail)
   go_wp2
   go_quiet (fail)
   go_wp2
   go_ret
   refine ⟨?_,((Quiet.refl w).drewN _).drewN _⟩
   rw [HNW.out]; rfl
  ·obtain ⟨z,hz⟩ : ∃ z,tokW v = z:=⟨_,rfl⟩
   have hzp : ((z : Int) == 0) = false:=by
    rw [beq_eq_false_iff_ne]
    unfold tokW at hz
    rw [if_neg hw] at hz
    omega
   rw [hz] at c1
   have hnow : nowI V i = -1:=by unfold nowI; rw [hv]; dsimp only; rw [if_neg hw]
   have HNW:=Lib.hid hnow
   clear h hv hz hnow hw hv2
   go_enter Tryz.func48, Tryz.ntmps48
   go_wp2
   go_quiet (fail)
   go_wp2
   go_ret
   refine ⟨?_,(Quiet.refl w).drewN _⟩
   rw [HNW.out]; rfl
 ·have hit : ¬ (i : Int) < (n : Int):=by omega
  have hnow : nowI V i = -1:=by unfold nowI; rw [List.getElem?_eq_none (by rw [h.toks.1]; omega)]
  have HNW:=Lib.hid hnow
  have hit2 : (n : Int) ≤ (i : Int):=by omega
  have hit3 : n ≤ i:=by omega
  have hit4 : (decide ((i : Int) < (n : Int))) = false:=decide_eq_false hit
  clear h hnow
  go_enter Tryz.func48, Tryz.ntmps48
  go_wp2
  go_quiet (fail)
  go_wp2
  go_ret
  refine ⟨?_,(Quiet.refl w).drewN _⟩
  rw [HNW.out]; rfl
def digI (V : List Nat) (i : Nat) : Int:=match digO V i with
 | some d => (d : Int)
 | none => -1
theorem digI_now {V : List Nat} {i : Nat} (hV : OkV V) : digI V i = if 48 ≤ nowI V i ∧ nowI V i ≤ 57 then nowI V i - 48 else if 97 ≤ nowI V i ∧ nowI V i ≤ 102 then nowI V i - 97 + 10 else if 65 ≤ nowI V i ∧ nowI V i ≤ 70 then nowI V i - 65 + 10 else -1:=by
 unfold digI digO nowI
 cases hv : V[i]? with
 | none => simp
 | some v =>
  have h:=hV v (List.mem_of_getElem? hv)
  simp only [Option.bind_some]
  by_cases hw : v < wrongN
  ·rw [if_pos hw]
   unfold digN
   by_cases h1 : 48 ≤ v ∧ v ≤ 57
   ·rw [if_pos h1,if_pos (show 48 ≤ (v : Int) ∧ (v : Int) ≤ 57 by omega)]
    show ((v - 48 : Nat) : Int) = (v : Int) - 48
    omega
   ·rw [if_neg h1,if_neg (show ¬ (48 ≤ (v : Int) ∧ (v : Int) ≤ 57) by omega)]
    by_cases h2 : 97 ≤ v ∧ v ≤ 102
    ·rw [if_pos h2,if_pos (show 97 ≤ (v : Int) ∧ (v : Int) ≤ 102 by omega)]
     dsimp only
     omega
    ·rw [if_neg h2,if_neg (show ¬ (97 ≤ (v : Int) ∧ (v : Int) ≤ 102) by omega)]
     by_cases h3 : 65 ≤ v ∧ v ≤ 70
     ·rw [if_pos h3,if_pos (show 65 ≤ (v : Int) ∧ (v : Int) ≤ 70 by omega)]
      dsimp only
      omega
     ·rw [if_neg h3,if_neg (show ¬ (65 ≤ (v : Int) ∧ (v : Int) ≤ 70) by omega)]
  ·rw [if_neg hw]
   unfold wrongN at h hw
   have : digN v = none:=by
    unfold digN
    rw [if_neg (by omega),if_neg (by omega),if_neg (by omega)]
   rw [this]
   simp
theorem digitC (w : World) (p : Nat) (a : Option Addr) (n c : Nat) (V : List Nat) (i : Nat) (fo : Bool) (h : Scan w p a n c V i fo) (hV : OkV V) (hi : i ≤ 67108864) (hn : n ≤ 67108864) :
  Calls Tryz.prog 109 #[.pointer (some ⟨p,0,none⟩)] w fun e w' => e = .returned (.int .i64 (digI V i)) ∧ Quiet w w':=by
 have HD:=Lib.hid (digI_now (i:=i) hV)
 have HN:=Lib.hid (nowC w p a n c V i fo h hV hi hn)
 have hb : -1 ≤ nowI V i ∧ nowI V i ≤ 1114111:=by
  unfold nowI wrongN
  split
  ·split
   ·omega
   ·omega
  ·omega
 obtain ⟨r,hr⟩ : ∃ r,nowI V i = r:=⟨_,rfl⟩
 rw [hr] at HD HN hb
 obtain ⟨hb1,hb2⟩:=hb
 clear h hr
 go_enter Tryz.func109, Tryz.ntmps109
 go_wp2_with (go_at_call 48; refine (HN.out).mono ?_; rintro e w2 ⟨rfl,hq⟩)
 all_goals go_ret
 all_goals refine ⟨?_,hq⟩
 all_goals rw [HD.out]
 all_goals (repeat' split)
 all_goals first | (exfalso; omega) | rfl
end Go.Proofs.YtchdeboialbdiaaGreatDoor
namespace Go
set_option linter.unusedVariables false
set_option linter.unusedSimpArgs false
set_option maxHeartbeats 8000000
set_option maxRecDepth 100000
theorem results_cell_two {fn : Func} {p u v : Tmp} {ty : TypeId} (h : fn.results = #[.cell p ty,.tmp u,.tmp v]) (tmps : Array Value) (P : Program) (w : World) :
  (results fn tmps).run P w =
   ((asAddr (tmps.getD p undef)).run P w).andThen fun a w₁ => ((loadVar ty a).run P w₁).andThen fun x w₂ => .ok (.tuple #[x,tmps.getD u undef,tmps.getD v undef]) w₂:=by
 simp only [results,h]
 simp [Sem.run_bind,Result.andThen]
theorem results_row_two {P : Program} {fn : Func} {p u v : Tmp} {ty : TypeId} (h : fn.results = #[.cell p ty,.tmp u,.tmp v]) (tmps : Array Value) (w : World) (g : Nat) (t : TypeId) (cs : Array Value) (fr : Nat × Nat) (d : TypeDesc) (x y : Value)
  (hp : tmps.getD p undef = .pointer (some ⟨g,0,none⟩)) (hx : tmps.getD u undef = x) (hy : tmps.getD v undef = y) (hg : w.heap[g]? = some (.cells cs t fr)) (hu : P.underlying ty = some d) (hd : (match d with | .struct _ | .array _ _ => true | _ => false) = true) (hi : (P.info? ty).map (·.size) = some cs.size) :
  (results fn tmps).run P w = .ok (.tuple #[.agg cs,x,y]) w:=by
 rw [results_cell_two h,hp,hx,hy,show (asAddr (.pointer (some ⟨g,0,none⟩)) : Sem Addr).run P w = .ok ⟨g,0,none⟩ w from rfl]
 simp only [Result.andThen]
 rw [run_loadVar_row w g t ty cs fr d hg hu hd hi]
end Go
namespace Go.Proofs.YtchdeboialbdiaaGreatDoor
set_option linter.unusedVariables false
set_option linter.unusedSimpArgs false
set_option maxHeartbeats 8000000
set_option maxRecDepth 100000
open Go.RowKit
open Go.Lib hiding intOf
theorem grown_refl (w : World) (r : Option Nat) : w.grownBy w r:=⟨rfl,rfl,rfl,Nat.le_refl _,fun _ _ _ => rfl⟩
theorem grown_of_below {w w' : World} (h : Below w.heap.size w w') (r : Option Nat) : w.grownBy w' r:=⟨h.os,h.tape,h.output,h.size,fun k hk _ => h.block k hk⟩
theorem ReadsTok.grown {w w' : World} {g : Nat} {a : Option Addr} {n : Nat} {V : List Nat} (h : ReadsTok w a n V) (hg : w.grownBy w' (some g)) (hne : ∀ ad,a = some ad → ad.block ≠ g) : ReadsTok w' a n V:=by
 obtain ⟨hl,h⟩:=h
 refine ⟨hl,fun hn => ?_⟩
 obtain ⟨b,off,ha,hlt,hc⟩:=h hn
 have hb : b ≠ g:=hne _ ha
 have hs : some b ≠ some g:=fun e => hb (Option.some.inj e)
 refine ⟨b,off,ha,Nat.lt_of_lt_of_le hlt hg.size,fun i v hv => ?_⟩
 obtain ⟨h1,h2⟩:=hc i v hv
 exact ⟨by rw [World.cell?_of_block (a:=⟨b,off + i * 2,none⟩) (hg.block b hlt hs)]; exact h1,by rw [World.cell?_of_block (a:=⟨b,off + i * 2 + 1,none⟩) (hg.block b hlt hs)]; exact h2⟩
theorem Scan.move {w : World} {p : Nat} {a : Option Addr} {n c : Nat} {V : List Nat} {i : Nat} {fo : Bool} (h : Scan w p a n c V i fo) (j : Nat) : Scan (w.setCell ⟨p,1,none⟩ (.int .i64 (j : Int))) p a n c V j fo :=
 ⟨h.row.set 1 (.int .i64 (j : Int)),h.toks.grown (grownBy_set w p 1 _) h.apart,h.apart⟩
theorem Scan.grown {w w' : World} {p g : Nat} {a : Option Addr} {n c : Nat} {V : List Nat} {i : Nat} {fo : Bool} (h : Scan w p a n c V i fo) (hg : w.grownBy w' (some g)) (hne : p ≠ g) (ha : ∀ ad,a = some ad → ad.block ≠ g) : Scan w' p a n c V i fo :=
 ⟨(hg.block p h.row.lt (fun e => hne (Option.some.inj e))).trans h.row,h.toks.grown hg ha,h.apart⟩
theorem digO_lt {V : List Nat} {i d : Nat} (h : digO V i = some d) : d < 16:=by
 unfold digO at h
 cases hv : V[i]? with
 | none => rw [hv] at h; simp at h
 | some v =>
  rw [hv] at h
  simp only [Option.bind_some] at h
  unfold digN at h
  split at h
  ·simp at h; omega
  ·split at h
   ·simp at h; omega
   ·split at h
    ·simp at h; omega
    ·simp at h
theorem row_fresh (w : World) (cs : Array Value) (e : TypeId) : Row (w.alloc (.cells cs e)) w.heap.size e cs.toList:=heap_alloc_new w _
theorem grown_then {a b c : World} {r r' : Option Nat} (h : a.grownBy b r) (k : b.grownBy c r') (hr : ∀ j,r' = some j → a.heap.size ≤ j ∨ r = some j) : a.grownBy c r :=
 ⟨k.os.trans h.os,k.tape.trans h.tape,k.output.trans h.output,Nat.le_trans h.size k.size,fun i hi hne => by
  rw [k.block i (Nat.lt_of_lt_of_le hi h.size) (fun e => by
   rcases hr i e.symm with h1 | h1
   ·omega
   ·exact hne h1.symm)]
  exact h.block i hi hne⟩
theorem tok_done {w W : World} {p j n c : Nat} {a : Option Addr} {V : List Nat} {fo : Bool} {x y x0 y0 : Value} (hg : w.grownBy W (some p)) (hs : Scan W p a n c V j fo) (hr : Row W w.heap.size 91 [x0,y0]) (hp : p < w.heap.size) (ha : ∀ ad,a = some ad → ad.block < w.heap.size) :
  Row ((W.setCell ⟨w.heap.size,0,none⟩ x).setCell ⟨w.heap.size,1,none⟩ y) w.heap.size 91 [x,y] ∧ Scan ((W.setCell ⟨w.heap.size,0,none⟩ x).setCell ⟨w.heap.size,1,none⟩ y) p a n c V j fo ∧ w.grownBy ((W.setCell ⟨w.heap.size,0,none⟩ x).setCell ⟨w.heap.size,1,none⟩ y) (some p):=by
 have g1:=grownBy_set W w.heap.size 0 x
 have g2:=grownBy_set (W.setCell ⟨w.heap.size,0,none⟩ x) w.heap.size 1 y
 have na : ∀ ad,a = some ad → ad.block ≠ w.heap.size:=fun ad h => by have:=ha ad h; omega
 exact ⟨(hr.set 0 x).set 1 y,(hs.grown g1 (by omega) na).grown g2 (by omega) na,grown_then (grown_then hg g1 (fun j h => by cases h; exact .inl (Nat.le_refl _))) g2 (fun j h => by cases h; exact .inl (Nat.le_refl _))⟩
theorem Scan.quiet {w : World} {p : Nat} {a : Option Addr} {n c : Nat} {V : List Nat} {i : Nat} {fo : Bool} (h : Scan w p a n c V i fo) (m : Nat) : Scan (w.drewN m) p a n c V i fo :=
 h.keep (B:=w.heap.size) (Quiet.below ⟨m,rfl⟩ _) (Nat.le_refl _)
theorem grown_quiet {w W : World} {r : Option Nat} (h : w.grownBy W r) (m : Nat) : w.grownBy (W.drewN m) r :=
 grown_then (r':=none) h (grown_of_below (Quiet.below ⟨m,rfl⟩ _) none) (fun j h => by cases h)
def tokV (v : Nat) : Value:=.agg #[.int .i32 (tokR v : Int),.int .i64 (tokW v : Int)]
def HexP (w : World) (p : Nat) (a : Option Addr) (n c : Nat) (V : List Nat) (fo : Bool) (G : Got) (e : Ending) (w' : World) : Prop :=
 w.grownBy w' (some p) ∧ match G with
  | .inl b => (∃ x y : Int,e = .returned (.tuple #[.agg #[.int .i32 x,.int .i64 y],.nilFunc,.bool false])) ∧ Scan w' p a n c V b fo
  | .inr (_,v,j) => e = .returned (.tuple #[tokV v,.nilFunc,.bool true]) ∧ Scan w' p a n c V j fo
theorem hexC (w : World) (p : Nat) (a : Option Addr) (n c : Nat) (V : List Nat) (i : Nat) (fo : Bool) (h : Scan w p a n c V i fo) (hV : OkV V) (hi : i + 2 ≤ 67108864) (hn : n ≤ 67108864) (ha : ∀ ad,a = some ad → ad.block < w.heap.size) :
  Calls Tryz.prog 96 #[.pointer (some ⟨p,0,none⟩)] w (HexP w p a n c V fo (hexP V i)):=by
 have hp:=h.row.lt
 have HS:=Lib.hid h
 have HV:=Lib.hid hV
 have HA:=Lib.hid ha
 clear h hV ha
 go_enter Tryz.func96, Tryz.ntmps96
 go_wp2
 go_loopw [5,7] (fun uc uk wr => ∃ (k code : Nat),uc = .int .i64 (code : Int) ∧ uk = .int .i64 (k : Int) ∧ k ≤ 2 ∧ code ≤ 255 ∧ Hid ((k = 0 ∧ code = 0) ∨ (k = 1 ∧ digO V i = some code) ∨ (k = 2 ∧ ∃ d e,digO V i = some d ∧ digO V (i + 1) = some e ∧ code = 16 * d + e)) ∧ Hid (w.grownBy wr (some p) ∧ Scan wr p a n c V (i + k) fo ∧ Row wr w.heap.size 91 [.int .i32 0,.int .i64 0])) (fun _ uk _ => 2 - (RowKit.intOf uk).toNat)
 case atStart => exact ⟨0,0,rfl,rfl,by omega,by omega,Lib.hid (.inl ⟨rfl,rfl⟩),Lib.hid ⟨grown_of_below (by first | exact (Below.refl _ w).alloc (Nat.le_refl _) _ | exact ((Below.refl _ w).alloc (Nat.le_refl _) _).alloc (by simp) _) _,HS.out.keep ((Below.refl _ w).alloc (Nat.le_refl _) _) (Nat.le_refl _),row_fresh w _ _⟩⟩
 case round =>
  obtain ⟨k,code,rfl,rfl,hk,hcode,HC,HR⟩:=hrel
  by_cases hlt : k < 2
  ·have hkt : (k : Int) < 2:=by omega
   have hD:=digitC wr p a n c V (i + k) fo HR.out.2.1 HV.out (by omega) hn
   obtain ⟨z,hz⟩ : ∃ z,digI V (i + k) = z:=⟨_,rfl⟩
   rw [hz] at hD
   have HD:=Lib.hid hD
   have HZ:=Lib.hid hz
   clear hD hz
   cases hd : digO V (i + k) with
   | none =>
    obtain rfl : z = -1:=by rw [← HZ.out]; unfold digI; rw [hd]
    have hG : hexP V i = .inl (i + k):=by
     unfold hexP
     rcases HC.out with ⟨rfl,rfl⟩ | ⟨rfl,h1⟩ | ⟨rfl,h1⟩
     ·rw [Nat.add_zero] at hd ⊢; rw [hd]; rfl
     ·rw [h1]; dsimp only; rw [hd]
     ·omega
    have HG:=Lib.hid hG
    have e0:=HR.out.2.2.cell 0
    have e1:=HR.out.2.2.cell 1
    have f0:=HR.out.2.2.frozen 0
    have f1:=HR.out.2.2.frozen 1
    clear hd hG HZ
    go_wp2_with (go_at_call 109; refine (HD.out).mono ?_; rintro e w2 ⟨rfl,m,rfl⟩)
    have hgr:=HR.out.1
    refine bodyPost_ret (results_row_two rfl _ _ w.heap.size 91 #[.int .i32 0,.int .i64 0] (0,0) _ _ _ rfl rfl rfl ?_ Tryz.underlying91 rfl (by kernel_rfl)) rfl ?_
    ·exact (tok_done (grown_quiet HR.out.1 m) (HR.out.2.1.quiet m) (HR.out.2.2.keep (Quiet.below (w':=wr.drewN m) ⟨m,rfl⟩ wr.heap.size) HR.out.2.2.lt) hp HA.out).1
    ·obtain ⟨_,h2,h3⟩:=tok_done (x:=.int .i32 0) (y:=.int .i64 0) (grown_quiet HR.out.1 m) (HR.out.2.1.quiet m) (HR.out.2.2.keep (Quiet.below (w':=wr.drewN m) ⟨m,rfl⟩ wr.heap.size) HR.out.2.2.lt) hp HA.out
     unfold HexP
     rw [HG.out]
     exact ⟨h3,⟨_,_,rfl⟩,h2⟩
   | some d =>
    have hd16:=digO_lt hd
    obtain rfl : z = (d : Int):=by rw [← HZ.out]; unfold digI; rw [hd]
    have hcd : 16 * code + d ≤ 255:=by
     rcases HC.out with ⟨rfl,rfl⟩ | ⟨rfl,h1⟩ | ⟨rfl,h1⟩
     ·omega
     ·have:=digO_lt h1; omega
     ·omega
    have hnx : (k + 1 = 0 ∧ 16 * code + d = 0) ∨ (k + 1 = 1 ∧ digO V i = some (16 * code + d)) ∨ (k + 1 = 2 ∧ ∃ d' e,digO V i = some d' ∧ digO V (i + 1) = some e ∧ 16 * code + d = 16 * d' + e):=by
     rcases HC.out with ⟨rfl,rfl⟩ | ⟨rfl,h1⟩ | ⟨rfl,h1⟩
     ·right; left; exact ⟨rfl,by rw [Nat.add_zero] at hd; rw [hd]; simp⟩
     ·right; right; exact ⟨rfl,code,d,h1,hd,rfl⟩
     ·omega
    have HNX:=Lib.hid hnx
    have e1 : wr.cell? ⟨p,1,none⟩ = some (.int .i64 ((i + k : Nat) : Int)):=HR.out.2.1.row.cell 1
    have f1 : wr.frozen? ⟨p,1,none⟩ = false:=HR.out.2.1.row.frozen 1
    obtain ⟨q,hq⟩ : ∃ q,q = i + k:=⟨_,rfl⟩
    have hqb : q ≤ 67108864:=by omega
    rw [← hq] at e1
    have HQE:=Lib.hid hq
    clear hnx hd HZ hq
    go_wp2_with (go_at_call 109; refine (HD.out).mono ?_; rintro e w2 ⟨rfl,m,rfl⟩)
    have hS:=(HR.out.2.1.quiet m).move (q + 1)
    rw [show ((q + 1 : Nat) : Int) = (q : Int) + 1 by omega] at hS
    have HSN:=Lib.hid hS
    clear hS
    go_roundw
    case rel => exact ⟨k + 1,16 * code + d,by go_num,by go_num,by omega,hcd,HNX,Lib.hid ⟨grown_then (grown_quiet HR.out.1 m) (grownBy_set _ p 1 _) (fun j h => by cases h; exact .inr rfl),by rw [show i + (k + 1) = q + 1 by have:=HQE.out; omega]; exact HSN.out,(HR.out.2.2.keep (Quiet.below (w':=wr.drewN m) ⟨m,rfl⟩ wr.heap.size) HR.out.2.2.lt).other (by show p ≠ w.heap.size; omega) _⟩⟩
    case measure => simp [RowKit.intOf]; omega
  ·obtain rfl : k = 2:=by omega
   have hG : ∃ d e,digO V i = some d ∧ digO V (i + 1) = some e ∧ code = 16 * d + e:=by
    rcases HC.out with ⟨h1,_⟩ | ⟨h1,_⟩ | ⟨_,h1⟩
    ·omega
    ·omega
    ·exact h1
   have hG2 : hexP V i = .inr (0,if 128 ≤ code then wrongN + code else code,i + 2):=by
    obtain ⟨d,e,h1,h2,h3⟩:=hG
    unfold hexP
    rw [h1]
    dsimp only
    rw [h2,h3]
   have HG:=Lib.hid hG2
   have e0:=HR.out.2.2.cell 0
   have e1:=HR.out.2.2.cell 1
   have f0:=HR.out.2.2.frozen 0
   have f1:=HR.out.2.2.frozen 1
   clear hG hG2 HC
   by_cases hc : code < 128
   ·have hv : (if 128 ≤ code then wrongN + code else code) = code:=if_neg (by omega)
    have hct : (code : Int) < 128:=by omega
    rw [hv] at HG
    clear hv
    go_wp2
    refine bodyPost_ret (results_row_two rfl _ _ w.heap.size 91 #[.int .i32 (code : Int),.int .i64 0] (0,0) _ _ _ rfl rfl rfl ?_ Tryz.underlying91 rfl (by kernel_rfl)) rfl ?_
    ·exact (tok_done HR.out.1 HR.out.2.1 HR.out.2.2 hp HA.out).1
    ·obtain ⟨_,h2,h3⟩:=tok_done (x:=.int .i32 (code : Int)) (y:=.int .i64 0) HR.out.1 HR.out.2.1 HR.out.2.2 hp HA.out
     have ht : tokV code = .agg #[.int .i32 (code : Int),.int .i64 0]:=by unfold tokV tokR tokW wrongN; rw [if_pos (by omega),if_pos (by omega)]; rfl
     unfold HexP
     rw [HG.out]
     refine ⟨h3,?_,h2⟩
     rw [ht]
     rfl
   ·have hv : (if 128 ≤ code then wrongN + code else code) = wrongN + code:=if_pos (by omega)
    have hct : ¬ (code : Int) < 128:=by omega
    rw [hv] at HG
    clear hv
    go_wp2
    refine bodyPost_ret (results_row_two rfl _ _ w.heap.size 91 #[.int .i32 65533,.int .i64 (code : Int)] (0,0) _ _ _ rfl rfl rfl ?_ Tryz.underlying91 rfl (by kernel_rfl)) rfl ?_
    ·exact (tok_done HR.out.1 HR.out.2.1 HR.out.2.2 hp HA.out).1
    ·obtain ⟨_,h2,h3⟩:=tok_done (x:=.int .i32 65533) (y:=.int .i64 (code : Int)) HR.out.1 HR.out.2.1 HR.out.2.2 hp HA.out
     have ht : tokV (wrongN + code) = .agg #[.int .i32 65533,.int .i64 (code : Int)]:=by unfold tokV tokR tokW; rw [if_neg (by omega),if_neg (by omega),show wrongN + code - wrongN = code by omega]; rfl
     unfold HexP
     rw [HG.out]
     refine ⟨h3,?_,h2⟩
     rw [ht]
     rfl
end Go.Proofs.YtchdeboialbdiaaGreatDoor
