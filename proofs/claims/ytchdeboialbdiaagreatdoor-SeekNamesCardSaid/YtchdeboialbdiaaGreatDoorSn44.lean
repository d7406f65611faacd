/- Texts joined, one behind the other (SMeanA, SBitR, SBools, SGoesP). -/
import Derived.Test.YtchdeboialbdiaaGreatDoorSn43
namespace Go.Proofs.YtchdeboialbdiaaGreatDoor
set_option linter.unusedVariables false
set_option linter.unusedSimpArgs false
set_option maxHeartbeats 8000000
set_option maxRecDepth 100000
open Go.RowKit
open Go.Lib hiding intOf
def fitsV (b : BitN) (v : Nat) : Bool:=if b.any = true then !(decide (v < wrongN) && endsB v) else decide (v < wrongN) && decide (v = b.r)
theorem here_fits (V : List Nat) (b : BitN) (t v : Nat) (hb : b.r < wrongN) (hv : V[t]? = some v) : hereB V b t = fitsV b v:=by
 unfold hereB atP
 rw [hv]
 obtain ⟨r,any,how⟩:=b
 cases any with
 | true => rfl
 | false =>
  show atomIs false (itB ⟨r,false,how⟩) v = fitsV ⟨r,false,how⟩ v
  have h1 : atomIs false (itB ⟨r,false,how⟩) v = (decide (r ≤ v) && decide (v ≤ r)):=rfl
  have h2 : fitsV ⟨r,false,how⟩ v = (decide (v < wrongN) && decide (v = r)):=rfl
  rw [h1,h2,Bool.eq_iff_iff,Bool.and_eq_true,Bool.and_eq_true,decide_eq_true_iff,decide_eq_true_iff,decide_eq_true_iff,decide_eq_true_iff]
  simp only at hb
  omega
theorem placeC (w : World) (s : List UInt8) (a : Option Addr) (n c k : Nat) (L : List (Nat × Nat × Nat)) (hL : ReadsCh w a n L) (hk : k ≤ n) (hs : s.length ≤ 4611686018427387904) (hn : n ≤ 1073741824) :
  Calls Tryz.prog 26 #[.string (bstr s),.slice a n c,.int .i64 (k : Int)] w fun e w' => e = .returned (.int .i64 (((if k < n then (L.getD k (0,0,0)).2.1 else s.length : Nat) : Nat) : Int)) ∧ w' = w:=by
 by_cases hlt : k < n
 ·obtain ⟨hl,h⟩:=hL
  obtain ⟨b,rfl,hb,hc⟩:=h (by omega)
  have hx : L[k]? = some (L.getD k (0,0,0)):=by rw [List.getD_eq_getElem?_getD,List.getElem?_eq_getElem (by omega)]; rfl
  obtain ⟨h1,_⟩:=hc k _ hx
  rw [if_pos hlt]
  obtain ⟨y,hy⟩ : ∃ y : Int,(((L.getD k (0,0,0)).2.1 : Nat) : Int) = y:=⟨_,rfl⟩
  rw [hy] at h1 ⊢
  have e1 : ((k : Int) == (n : Int)) = false:=by rw [beq_eq_false_iff_ne]; omega
  clear hy hx hc h hl
  go_enter Tryz.func26, Tryz.ntmps26
  go_wp2
  go_ret
  exact ⟨rfl,rfl⟩
 ·obtain rfl : k = n:=by omega
  rw [if_neg hlt]
  have e1 : ((k : Int) == (k : Int)) = true:=by simp
  clear hL hlt
  go_enter Tryz.func26, Tryz.ntmps26
  go_wp2
  go_ret
  exact ⟨rfl,rfl⟩
def bitVal (b : BitN) : Value:=.agg #[.int .i32 (b.r : Int),.bool b.any,.int .i64 (b.how : Int)]
theorem two_boxes (w : World) (o o' : Obj) (m : Nat) : Below w.heap.size w (((w.alloc o).alloc o').drewN m):=((((Below.refl _ w).alloc (Nat.le_refl _) _).alloc (by simp) _)).trans (Quiet.below ⟨m,rfl⟩ _)
theorem fitsC (w : World) (b : BitN) (p : Nat × Nat × Nat) (hp : OkC p.1) (hb : b.r < wrongN) :
  Calls Tryz.prog 43 #[bitVal b,.agg (chCells p).toArray] w fun e w' => e = .returned (.bool (fitsV b p.1)) ∧ Below w.heap.size w w':=by
 obtain ⟨v,at_,wd⟩:=p
 obtain ⟨r,any,how⟩:=b
 unfold bitVal chCells fitsV
 dsimp only at hp hb ⊢
 obtain ⟨x1,hx1⟩ : ∃ x : Int,(at_ : Int) = x:=⟨_,rfl⟩
 obtain ⟨x2,hx2⟩ : ∃ x : Int,(wd : Int) = x:=⟨_,rfl⟩
 obtain ⟨x3,hx3⟩ : ∃ x : Int,(how : Int) = x:=⟨_,rfl⟩
 obtain ⟨zr,hzr⟩ : ∃ x : Int,(r : Int) = x:=⟨_,rfl⟩
 obtain ⟨z,hz⟩ : ∃ x : Int,(tokR v : Int) = x:=⟨_,rfl⟩
 rw [hx1,hx2,hx3,hzr,hz]
 clear hx1 hx2 hx3
 by_cases hw : v < wrongN
 ·have hzv : z = (v : Int):=by rw [← hz]; unfold tokR; rw [if_pos hw]
  rw [decide_eq_true hw,Bool.true_and,Bool.true_and]
  by_cases ha : any = true
  ·subst ha
   rw [if_pos rfl]
   by_cases h0 : v = 10
   ·have e0 : (z != 10) = false:=by rw [hzv,h0]; rfl
    rw [show (!endsB v) = false from by unfold endsB; simp [h0]]
    clear hzv hz hzr hp hb hw h0
    go_enter Tryz.func43, Tryz.ntmps43
    go_wp2
    go_ret
    exact ⟨rfl,two_boxes _ _ _ 0⟩
   have e0 : (z != 10) = true:=by rw [bne_iff_ne,hzv]; omega
   by_cases h1 : v = 13
   ·have e1 : (z != 13) = false:=by rw [hzv,h1]; rfl
    rw [show (!endsB v) = false from by unfold endsB; simp [h0,h1]]
    clear hzv hz hzr hp hb hw h0 h1
    go_enter Tryz.func43, Tryz.ntmps43
    go_wp2
    go_ret
    exact ⟨rfl,two_boxes _ _ _ 0⟩
   have e1 : (z != 13) = true:=by rw [bne_iff_ne,hzv]; omega
   by_cases h2 : v = 133
   ·have e2 : (z != 133) = false:=by rw [hzv,h2]; rfl
    rw [show (!endsB v) = false from by unfold endsB; simp [h0,h1,h2]]
    clear hzv hz hzr hp hb hw h0 h1 h2
    go_enter Tryz.func43, Tryz.ntmps43
    go_wp2
    go_ret
    exact ⟨rfl,two_boxes _ _ _ 0⟩
   have e2 : (z != 133) = true:=by rw [bne_iff_ne,hzv]; omega
   by_cases h3 : v = 8232
   ·have e3 : (z != 8232) = false:=by rw [hzv,h3]; rfl
    rw [show (!endsB v) = false from by unfold endsB; simp [h0,h1,h2,h3]]
    clear hzv hz hzr hp hb hw h0 h1 h2 h3
    go_enter Tryz.func43, Tryz.ntmps43
    go_wp2
    go_ret
    exact ⟨rfl,two_boxes _ _ _ 0⟩
   have e3 : (z != 8232) = true:=by rw [bne_iff_ne,hzv]; omega
   by_cases h4 : v = 8233
   ·have e4 : (z != 8233) = false:=by rw [hzv,h4]; rfl
    rw [show (!endsB v) = false from by unfold endsB; simp [h0,h1,h2,h3,h4]]
    clear hzv hz hzr hp hb hw h0 h1 h2 h3 h4
    go_enter Tryz.func43, Tryz.ntmps43
    go_wp2
    go_ret
    exact ⟨rfl,two_boxes _ _ _ 0⟩
   have e4 : (z != 8233) = true:=by rw [bne_iff_ne,hzv]; omega
   rw [show (!endsB v) = true from by unfold endsB; simp [h0,h1,h2,h3,h4]]
   clear hzv hz hzr hp hb hw h0 h1 h2 h3 h4
   go_enter Tryz.func43, Tryz.ntmps43
   go_wp2
   go_ret
   exact ⟨rfl,two_boxes _ _ _ 0⟩
  ·obtain rfl : any = false:=by simpa using ha
   rw [if_neg ha]
   obtain ⟨q,hq⟩ : ∃ q,decide (v = r) = q:=⟨_,rfl⟩
   have e1 : (z == zr) = q:=by rw [hzv,← hzr,← hq,Bool.eq_iff_iff,beq_iff_eq,decide_eq_true_iff]; omega
   rw [hq]
   clear hq hzv hz hzr hp hb ha hw
   go_enter Tryz.func43, Tryz.ntmps43
   go_wp2
   go_ret
   exact ⟨rfl,two_boxes _ _ _ 0⟩
 ·rw [decide_eq_false hw,Bool.false_and,Bool.false_and]
  by_cases ha : any = true
  ·subst ha
   rw [if_pos rfl]
   clear hz hzr hp hb hw
   go_enter Tryz.func43, Tryz.ntmps43
   go_wp2
   go_ret
   exact ⟨rfl,two_boxes _ _ _ 0⟩
  ·obtain rfl : any = false:=by simpa using ha
   rw [if_neg ha]
   clear hz hzr hp hb hw ha
   go_enter Tryz.func43, Tryz.ntmps43
   go_wp2
   go_ret
   exact ⟨rfl,two_boxes _ _ _ 0⟩
theorem place_ats (l : List UInt8) (k : Nat) (hk : k ≤ (charsW l).length) : (if k < (charsW l).length then ((charsW l).getD k (0,0,0)).2.1 else l.length) = (atsL l).getD k 0:=by
 rw [← charsW_ats,List.getD_eq_getElem?_getD,List.getD_eq_getElem?_getD]
 by_cases h : k < (charsW l).length
 ·rw [if_pos h,List.getElem?_append_left (by rw [List.length_map]; exact h),List.getElem?_map,List.getElem?_eq_getElem h]
  rfl
 ·obtain rfl : k = (charsW l).length:=by omega
  rw [if_neg h,List.getElem?_append_right (by rw [List.length_map]; exact Nat.le_refl _),List.length_map,Nat.sub_self]
  rfl
def bitCells (b : BitN) : List Value:=[.int .i32 (b.r : Int),.bool b.any,.int .i64 (b.how : Int)]
theorem infoBit : (Tryz.prog.info? 30).map (fun i => (i.zero,i.size,i.bytes)) = some (some (.agg #[.int .i32 0,.bool false,.int .i64 0]),3,16):=by kernel_rfl
def BitOwn (B : Nat) (v : Value) (L : List BitN) (w : World) : Prop:=w.ownsRow B 30 3 v L.length (L.flatMap bitCells)
theorem BitOwn.push {B : Nat} {v : Value} {L : List BitN} {x : BitN} {w : World} (h : w.ownsRow B 30 3 v (L.length + 1) (L.flatMap bitCells ++ bitCells x)) : BitOwn B v (L ++ [x]) w:=by
 unfold BitOwn
 rw [List.length_append,List.flatMap_append]
 simpa using h
def ReadsBit (w : World) (a : Option Addr) (n : Nat) (L : List BitN) : Prop :=
 L.length = n ∧ (0 < n → ∃ b,a = some ⟨b,0,none⟩ ∧ b < w.heap.size ∧ ∀ i p,L[i]? = some p → w.cell? ⟨b,i * 3,none⟩ = some (.int .i32 (p.r : Int)) ∧ w.cell? ⟨b,i * 3 + 1,none⟩ = some (.bool p.any) ∧ w.cell? ⟨b,i * 3 + 2,none⟩ = some (.int .i64 (p.how : Int)))
theorem ReadsBit.keep {B : Nat} {w w' : World} {a : Option Addr} {n : Nat} {L : List BitN} (h : ReadsBit w a n L) (hb : Below B w w') (hB : w.heap.size ≤ B) : ReadsBit w' a n L:=by
 obtain ⟨hl,h⟩:=h
 refine ⟨hl,fun hn => ?_⟩
 obtain ⟨b,ha,hlt,hc⟩:=h hn
 have hbk:=hb.block b (by omega)
 refine ⟨b,ha,Nat.lt_of_lt_of_le hlt hb.size,fun i p hp => ?_⟩
 obtain ⟨h1,h2,h3⟩:=hc i p hp
 exact ⟨by rw [World.cell?_of_block (a:=⟨b,i * 3,none⟩) hbk]; exact h1,by rw [World.cell?_of_block (a:=⟨b,i * 3 + 1,none⟩) hbk]; exact h2,by rw [World.cell?_of_block (a:=⟨b,i * 3 + 2,none⟩) hbk]; exact h3⟩
theorem BitOwn.shape {B : Nat} {v : Value} {L : List BitN} {w : World} (h : BitOwn B v L w) : ∃ a c,v = .slice a L.length c ∧ ReadsBit w a L.length L ∧ (∀ ad,a = some ad → B ≤ ad.block ∧ ad.block < w.heap.size):=by
 rcases h.2 with ⟨rfl,h0⟩ | ⟨g,cap,cur,rfl,hB,hg,hc1,hc2,hc3,hc4⟩
 ·exact ⟨none,0,by rw [h0],⟨rfl,fun h => by omega⟩,fun ad h => by cases h⟩
 ·have hgl:=(Array.getElem?_eq_some_iff.1 hg).1
  refine ⟨_,_,rfl,⟨rfl,fun hn => ⟨g,rfl,hgl,fun i p hp => ?_⟩⟩,fun ad h => by cases h; exact ⟨hB,hgl⟩⟩
  have hi : i < L.length:=(List.getElem?_eq_some_iff.1 hp).1
  have key : ∀ k,k < 3 → ∀ u,(bitCells p)[k]? = some u → w.cell? ⟨g,i * 3 + k,none⟩ = some u:=by
   intro k hk u hu
   have h1:=flatR_at bitCells 3 (fun _ => rfl) L i k p hp hk
   rw [hu,← hc4,List.getElem?_take] at h1
   rw [if_pos (by omega)] at h1
   simp only [World.cell?,hg]
   simpa using h1
  exact ⟨key 0 (by decide) _ rfl,key 1 (by decide) _ rfl,key 2 (by decide) _ rfl⟩
end Go.Proofs.YtchdeboialbdiaaGreatDoor
namespace Go.Proofs.YtchdeboialbdiaaGreatDoor
set_option linter.unusedVariables false
set_option linter.unusedSimpArgs false
set_option maxHeartbeats 8000000
set_option maxRecDepth 100000
open Go.RowKit
open Go.Lib
theorem infoBs : (Tryz.prog.info? 4).map (fun i => (i.zero,i.size,i.bytes)) = some (some (.bool false),1,1):=by kernel_rfl
def bsV (n : Nat) (T : Nat → Bool) : List Value:=(List.range (n + 1)).map fun j => .bool (T j)
theorem bs_at {n : Nat} {T : Nat → Bool} {i : Nat} (h : i ≤ n) : (bsV n T)[i]? = some (.bool (T i)):=by
 unfold bsV
 rw [List.getElem?_map,List.getElem?_range (by omega)]
 rfl
theorem bs_len (n : Nat) (T : Nat → Bool) : (bsV n T).length = n + 1:=by unfold bsV; rw [List.length_map,List.length_range]
theorem bs_ext {n : Nat} {T U : Nat → Bool} (h : ∀ j,j ≤ n → T j = U j) : bsV n T = bsV n U:=by
 unfold bsV
 refine List.map_congr_left fun j hj => ?_
 have:=List.mem_range.1 hj
 rw [h j (by omega)]
def backB (T : Nat → Bool) (i j : Nat) : Bool:=decide (i ≤ j) && T j
theorem back_at {T : Nat → Bool} {i j : Nat} (h : i ≤ j) : backB T i j = T j:=by unfold backB; rw [decide_eq_true h,Bool.true_and]
theorem back_set {n : Nat} {T : Nat → Bool} {i : Nat} (h : i ≤ n) : (bsV n (backB T (i + 1))).set i (.bool (T i)) = bsV n (backB T i):=by
 refine List.ext_getElem? fun j => ?_
 rw [List.getElem?_set]
 by_cases hj : j ≤ n
 ·rw [bs_at hj,bs_at hj,bs_len]
  unfold backB
  by_cases hij : i = j
  ·subst hij
   rw [if_pos rfl,if_pos (by omega),decide_eq_true (Nat.le_refl _),Bool.true_and]
  ·rw [if_neg hij]
   by_cases h2 : i ≤ j
   ·rw [decide_eq_true h2,decide_eq_true (by omega)]
   ·rw [decide_eq_false h2,decide_eq_false (by omega)]
 ·rw [if_neg (by omega),List.getElem?_eq_none (by rw [bs_len]; omega),List.getElem?_eq_none (by rw [bs_len]; omega)]
theorem back_all {n : Nat} {T : Nat → Bool} : bsV n (backB T 0) = bsV n T:=bs_ext fun j _ => back_at (Nat.zero_le _)
theorem back_none {n : Nat} {T : Nat → Bool} : bsV n (backB T (n + 1)) = List.replicate (n + 1) (.bool false):=by
 unfold bsV
 refine List.ext_getElem? fun j => ?_
 rw [List.getElem?_map,List.getElem?_replicate]
 by_cases hj : j < n + 1
 ·rw [List.getElem?_range hj,if_pos hj]
  show some (Value.bool (decide (n + 1 ≤ j) && T j)) = _
  rw [decide_eq_false (by omega),Bool.false_and]
 ·rw [if_neg hj,List.getElem?_eq_none (by rw [List.length_range]; omega)]
  rfl
theorem rep_set (n : Nat) : (List.replicate (n + 1) (Value.bool false)).set n (.bool true) = bsV n (fun k => decide (k = n)):=by
 refine List.ext_getElem? fun j => ?_
 rw [List.getElem?_set,List.length_replicate,List.getElem?_replicate]
 by_cases hj : j ≤ n
 ·rw [bs_at hj]
  by_cases hij : n = j
  ·subst hij
   rw [if_pos rfl,if_pos (by omega),decide_eq_true rfl]
  ·rw [if_neg hij,if_pos (by omega),decide_eq_false (by omega)]
 ·rw [if_neg (by omega),if_neg (by omega),List.getElem?_eq_none (by rw [bs_len]; omega)]
theorem made_bs (m : Nat) (hm : 0 < m) (z : Value) (N : Nat) : (madeCells (List.replicate m z).toArray N).toList = List.replicate N z:=by
 apply List.ext_getElem?
 intro j
 by_cases hj : j < N
 ·have h1 : j % m < m:=Nat.mod_lt _ hm
  simp [madeCells,hj,h1]
 ·simp [madeCells,hj]
theorem makeBs (w : World) (n : Nat) (hn : n ≤ 67108864) :
  ∃ wm,(Instr.makeSlice 115 (.int .i64 ((n : Int) + 1)) (.int .i64 ((n : Int) + 1))).run Tryz.prog w = .ok (.slice (some ⟨w.heap.size,0,none⟩) (n + 1) (n + 1)) wm ∧ Row wm w.heap.size 4 (List.replicate (n + 1) (.bool false)) ∧ Below w.heap.size w wm:=by
 obtain ⟨i0,hi,hz0,hz1,hz2⟩:=info_parts infoBs
 have hr:=run_make (P:=Tryz.prog) w 115 4 i0 (.bool false) Tryz.underlying115 hi hz0 .i64 .i64 ((n : Int) + 1) ((n : Int) + 1) (by omega) (Int.le_refl _) (by rw [hz2]; omega) (by omega)
 rw [hz1] at hr
 have e1 : ((n : Int) + 1).toNat = n + 1:=by omega
 rw [e1,show (Value.bool false).cells = #[.bool false] from rfl,Nat.mul_one] at hr
 refine ⟨_,hr,?_,(Below.refl _ w).alloc (Nat.le_refl _) _⟩
 have h1:=heap_alloc_new w (.cells (madeCells #[.bool false] (n + 1)) 4)
 unfold Row
 rw [show List.replicate (n + 1) (Value.bool false) = (madeCells #[.bool false] (n + 1)).toList from (made_bs 1 (by decide) (.bool false) (n + 1)).symm]
 simpa using h1
end Go.Proofs.YtchdeboialbdiaaGreatDoor
namespace Go.Proofs.YtchdeboialbdiaaGreatDoor
set_option linter.unusedVariables false
set_option linter.unusedSimpArgs false
set_option maxHeartbeats 8000000
set_option maxRecDepth 100000
open Go.Lib hiding intOf
def nxt (V : List Nat) (i n : Nat) (b : BitN) (row : Nat → Bool) : Nat → Bool
 | 0 => if b.how = 1 ∨ b.how = 2 then row n else false
 | d + 1 => if b.how = 1 then row (n - (d + 1)) || (hereB V b (i + (n - (d + 1))) && row (n - d))
  else if b.how = 2 then row (n - (d + 1)) || (hereB V b (i + (n - (d + 1))) && nxt V i n b row d)
  else if b.how = 3 then hereB V b (i + (n - (d + 1))) && (row (n - d) || nxt V i n b row d)
  else hereB V b (i + (n - (d + 1))) && row (n - d)
theorem chain_over {V : List Nat} {its : List Itm} {i j : Nat} (h : j < i) : ¬ chainR false V its i j:=fun hc => by
 have:=chain_le false V its i j hc
 omega
theorem nxt_spec (V : List Nat) (i n : Nat) (b : BitN) (r : List Itm) (row : Nat → Bool) (hrow : ∀ k,k ≤ n → (row k = true ↔ chainR false V r (i + k) (i + n))) : ∀ d,d ≤ n → (nxt V i n b row d = true ↔ chainR false V (itB b :: r) (i + (n - d)) (i + n))
 | 0,_ => by
  rw [nxt,Nat.sub_zero]
  have hn:=hrow n (Nat.le_refl _)
  have ho : ¬ chainR false V r (i + n + 1) (i + n):=chain_over (by omega)
  have ho2 : ¬ chainR false V (itB b :: r) (i + n + 1) (i + n):=chain_over (by omega)
  by_cases h1 : b.how = 1
  ·rw [if_pos (.inl h1),chain_maybe V b r _ _ h1,hn]
   exact ⟨.inl,fun h => h.elim id (fun h => absurd h.2 ho)⟩
  ·by_cases h2 : b.how = 2
   ·rw [if_pos (.inr h2),chain_star V b r _ _ h2,hn]
    exact ⟨.inl,fun h => h.elim id (fun h => absurd h.2 ho2)⟩
   ·rw [if_neg (by omega)]
    refine ⟨fun h => (by cases h),fun h => ?_⟩
    by_cases h3 : b.how = 3
    ·rw [chain_plus V b r _ _ h3] at h
     exact (h.2.elim ho ho2).elim
    ·rw [chain_zero V b r _ _ h1 h2 h3] at h
     exact absurd h.2 ho
 | d + 1,hd => by
  have ih:=nxt_spec V i n b r row hrow d (by omega)
  have h0:=hrow (n - (d + 1)) (by omega)
  have h1':=hrow (n - d) (by omega)
  have e1 : i + (n - d) = i + (n - (d + 1)) + 1:=by omega
  rw [e1] at ih h1'
  rw [nxt]
  by_cases h1 : b.how = 1
  ·rw [if_pos h1,chain_maybe V b r _ _ h1,Bool.or_eq_true,Bool.and_eq_true,h0,h1']
  ·rw [if_neg h1]
   by_cases h2 : b.how = 2
   ·rw [if_pos h2,chain_star V b r _ _ h2,Bool.or_eq_true,Bool.and_eq_true,h0,ih]
   ·rw [if_neg h2]
    by_cases h3 : b.how = 3
    ·rw [if_pos h3,chain_plus V b r _ _ h3,Bool.and_eq_true,Bool.or_eq_true,h1',ih]
    ·rw [if_neg h3,chain_zero V b r _ _ h1 h2 h3,Bool.and_eq_true,h1']
def rowP (V : List Nat) (i n : Nat) : List BitN → Nat → Bool
 | [],k => decide (k = n)
 | b :: r,k => nxt V i n b (rowP V i n r) (n - k)
theorem rowP_spec (V : List Nat) (i n : Nat) : ∀ (l : List BitN) (k : Nat),k ≤ n → (rowP V i n l k = true ↔ chainR false V (l.map itB) (i + k) (i + n))
 | [],k,hk => by
  rw [rowP,decide_eq_true_iff]
  show k = n ↔ i + k = i + n
  omega
 | b :: r,k,hk => by
  rw [rowP,List.map_cons]
  have:=nxt_spec V i n b (r.map itB) (rowP V i n r) (fun k hk => rowP_spec V i n r k hk) (n - k) (by omega)
  rwa [show n - (n - k) = k by omega] at this
def goesP (V : List Nat) (l : List BitN) (i j : Nat) : Bool:=rowP V i (j - i) l 0
theorem goesP_spec (V : List Nat) (l : List BitN) (i j : Nat) (h : i ≤ j) : goesP V l i j = true ↔ chainR false V (l.map itB) i j:=by
 have:=rowP_spec V i (j - i) l 0 (Nat.zero_le _)
 rwa [Nat.add_zero,show i + (j - i) = j by omega] at this
theorem longest_goes (V : List Nat) (l : List BitN) (i : Nat) (hi : i ≤ V.length) : match longestP false V (l.map itB) i with
  | some j => i ≤ j ∧ j ≤ V.length ∧ goesP V l i j = true ∧ ∀ k,j < k → k ≤ V.length → goesP V l i k = false
  | none => ∀ k,i ≤ k → k ≤ V.length → goesP V l i k = false:=by
 have hc:=longest_chain false V (l.map itB) (parts_edge l) i
 cases hl : longestP false V (l.map itB) i with
 | none =>
  rw [hl] at hc
  intro k h1 h2
  rw [Bool.eq_false_iff]
  intro hg
  exact hc k h2 ((goesP_spec V l i k h1).1 hg)
 | some j =>
  rw [hl] at hc
  obtain ⟨h1,h2,h3⟩:=hc
  have hij:=chain_le false V (l.map itB) i j h2
  refine ⟨hij,h1,(goesP_spec V l i j hij).2 h2,fun k hk hkn => ?_⟩
  rw [Bool.eq_false_iff]
  intro hg
  exact h3 k hk hkn ((goesP_spec V l i k (by omega)).1 hg)
theorem longest_found (V : List Nat) (l : List BitN) (i j : Nat) (hij : i ≤ j) (hj : j ≤ V.length) (hg : goesP V l i j = true) (hk : ∀ k,j < k → k ≤ V.length → goesP V l i k = false) : longestP false V (l.map itB) i = some j:=by
 have h:=longest_goes V l i (by omega)
 cases hl : longestP false V (l.map itB) i with
 | none =>
  rw [hl] at h
  rw [h j hij hj] at hg
  cases hg
 | some m =>
  rw [hl] at h
  obtain ⟨h1,h2,h3,h4⟩:=h
  rcases Nat.lt_trichotomy j m with hjm | rfl | hjm
  ·rw [hk m hjm h2] at h3; cases h3
  ·rfl
  ·rw [h4 j hjm hj] at hg; cases hg
theorem longest_not (V : List Nat) (l : List BitN) (i : Nat) (hi : i ≤ V.length) (hk : ∀ k,i ≤ k → k ≤ V.length → goesP V l i k = false) : longestP false V (l.map itB) i = none:=by
 have h:=longest_goes V l i hi
 cases hl : longestP false V (l.map itB) i with
 | none => rfl
 | some m =>
  rw [hl] at h
  obtain ⟨h1,h2,h3,h4⟩:=h
  rw [hk m h1 h2] at h3
  cases h3
end Go.Proofs.YtchdeboialbdiaaGreatDoor
