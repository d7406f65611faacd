/- Texts joined, one behind the other (SRefM). -/
import Derived.Test.YtchdeboialbdiaaGreatDoorSn29
namespace Go.Proofs.YtchdeboialbdiaaGreatDoor
set_option linter.unusedVariables false
set_option linter.unusedSimpArgs false
set_option maxHeartbeats 8000000
set_option maxRecDepth 100000
open Go.RowKit
open Go.Lib hiding intOf
def maybeB (it : Itm) : Bool:=decide (it.least = 0) && !it.many
def itCells (q : Itm × Value) : List Value:=[.int .i64 (q.1.what : Int),.bool q.1.neg,q.2,.int .i64 (q.1.least : Int),.bool q.1.many,.bool (maybeB q.1)]
theorem infoItem : (Tryz.prog.info? 99).map (fun i => (i.zero,i.size,i.bytes)) = some (some (.agg #[.int .i64 0,.bool false,.slice none 0 0,.int .i64 0,.bool false,.bool false]),6,56):=by kernel_rfl
def ItRd (w : World) (v : Value) (its : List Itm) : Prop :=
 ∃ L : List (Itm × Value),L.map Prod.fst = its ∧ (∃ a c,v = .slice a L.length c ∧ (0 < L.length → ∃ g cur,a = some ⟨g,0,none⟩ ∧ w.heap[g]? = some (.cells cur 99 (0,0)) ∧ ∀ (i : Nat) (q : Itm × Value) (k : Nat) (u : Value),L[i]? = some q → (itCells q)[k]? = some u → cur[i * 6 + k]? = some u)) ∧ ∀ q ∈ L,ElRd w q.2 q.1.els
theorem ItRd.below {w w' : World} {v : Value} {its : List Itm} (h : ItRd w v its) (hb : Below w.heap.size w w') : ItRd w' v its:=by
 obtain ⟨L,h1,⟨a,c,h2,h3⟩,h4⟩:=h
 refine ⟨L,h1,⟨a,c,h2,fun hn => ?_⟩,fun q hq => (h4 q hq).below hb⟩
 obtain ⟨g,cur,h5,h6,h7⟩:=h3 hn
 exact ⟨g,cur,h5,(hb.block g (Array.getElem?_eq_some_iff.1 h6).1).trans h6,h7⟩
structure CpW (w W : World) (l : List UInt8) (fo : Bool) (bx bo B : Nat) (rd : List Value) (g1 g2 : Nat) (V A : List Nat) (vI : Value) (L : List (Itm × Value)) : Prop where
 res : Row W w.heap.size 54 [.string { data:=#[] },.bool false,.slice none 0 0]
 x : Row W bx 95 rd
 out : Row W bo 54 [.string (bstr l),.bool fo,vI]
 own : W.ownsRow B 99 6 vI L.length (L.flatMap itCells)
 els : ∀ q ∈ L,ElRd W q.2 q.1.els
 below : Below w.heap.size w W
 v : IntsAt W g1 (toZ V ++ [-1])
 a : IntsAt W g2 (toZ A)
 lt : w.heap.size < bx ∧ bx < bo ∧ bo < B ∧ g1 < bx ∧ g2 < bx ∧ w.heap.size ≤ g1 ∧ w.heap.size ≤ g2
 size : B ≤ W.heap.size
theorem CpW.next {w W W' : World} {l : List UInt8} {fo : Bool} {bx bo B : Nat} {rd : List Value} {g1 g2 : Nat} {V A : List Nat} {vI : Value} {L : List (Itm × Value)} (h : CpW w W l fo bx bo B rd g1 g2 V A vI L) (hb : Below W.heap.size W W') : CpW w W' l fo bx bo B rd g1 g2 V A vI L :=
 ⟨h.res.keep hb h.res.lt,h.x.keep hb h.x.lt,h.out.keep hb h.out.lt,own_below h.own hb,fun q hq => (h.els q hq).below hb,h.below.trans (hb.mono h.below.size),h.v.keep hb (Nat.le_refl _),h.a.keep hb (Nat.le_refl _),h.lt,Nat.le_trans h.size hb.size⟩
theorem CpW.apart {w W W' : World} {l : List UInt8} {fo : Bool} {bx bo B : Nat} {rd : List Value} {g1 g2 g : Nat} {V A : List Nat} {vI : Value} {L : List (Itm × Value)} {cs : List Value} (h : CpW w W l fo bx bo B rd g1 g2 V A vI L) (hg : W.grownBy W' (some g)) (hr : Row W g 99 cs) (hB : B ≤ g) (hne : vI.ownBlock ≠ some g) : CpW w W' l fo bx bo B rd g1 g2 V A vI L:=by
 obtain ⟨l1,l2,l3,l4,l5,l6,l7⟩:=h.lt
 have key : ∀ k,k < B → W'.heap[k]? = W.heap[k]?:=fun k hk => hg.block k (by have:=h.size; omega) (by intro e; simp only [Option.some.injEq] at e; omega)
 exact ⟨(key _ (by omega)).trans h.res,(key _ (by omega)).trans h.x,(key _ (by omega)).trans h.out,World.ownsRow.kept h.own hg (.inr hne),fun q hq => (h.els q hq).grown hg (fun b hb => by cases hb; exact ⟨_,_,hr,by decide⟩),h.below.trans (below_grownBy hg (by omega) (by have:=h.size; omega)),h.v.grown hg (by omega),h.a.grown hg (by omega),h.lt,Nat.le_trans h.size hg.size⟩
theorem CpW.fold {w W : World} {l : List UInt8} {fo : Bool} {bx bo B : Nat} {rd : List Value} {g1 g2 : Nat} {V A : List Nat} {vI : Value} {L : List (Itm × Value)} (h : CpW w W l fo bx bo B rd g1 g2 V A vI L) : CpW w (W.setCell ⟨bo,1,none⟩ (.bool true)) l true bx bo B rd g1 g2 V A vI L:=by
 obtain ⟨l1,l2,l3,l4,l5,l6,l7⟩:=h.lt
 have hg:=grownBy_set W bo 1 (.bool true)
 refine ⟨h.res.other (p:=⟨bo,1,none⟩) (by show bo ≠ w.heap.size; omega) _,h.x.other (p:=⟨bo,1,none⟩) (by show bo ≠ bx; omega) _,h.out.set 1 _,World.ownsRow.kept h.own hg (.inr (own_low h.own (by omega)).symm),fun q hq => (h.els q hq).grown hg (fun b hb => by cases hb; exact ⟨_,_,h.out,by decide⟩),h.below.setCell (p:=⟨bo,1,none⟩) (by show w.heap.size ≤ bo; omega) _,h.v.grown hg (by omega),h.a.grown hg (by omega),h.lt,Nat.le_trans h.size hg.size⟩
theorem CpW.push {w W w' : World} {l : List UInt8} {fo : Bool} {bx bo B : Nat} {rd : List Value} {g1 g2 : Nat} {V A : List Nat} {vI v' : Value} {L : List (Itm × Value)} {q : Itm × Value} (h : CpW w W l fo bx bo B rd g1 g2 V A vI L) (hq : ElRd W q.2 q.1.els) (hp : AppPost W B 99 6 vI L.length (L.flatMap itCells) (itCells q) v' w') : CpW w (w'.setCell ⟨bo,2,none⟩ v') l fo bx bo B rd g1 g2 V A v' (L ++ [q]):=by
 obtain ⟨l1,l2,l3,l4,l5,l6,l7⟩:=h.lt
 have hb:=hp.below h.own h.size
 have ho : w'.ownsRow B 99 6 v' (L ++ [q]).length ((L ++ [q]).flatMap itCells):=by
  have:=hp.1
  rw [List.length_append,List.flatMap_append]
  simpa using this
 have hg:=grownBy_set w' bo 2 v'
 have hout : Row w' bo 54 [.string (bstr l),.bool fo,vI]:=h.out.keep hb (by omega)
 have hel : ∀ p ∈ L ++ [q],ElRd (w'.setCell ⟨bo,2,none⟩ v') p.2 p.1.els:=by
  intro p hpm
  have h1 : ElRd W p.2 p.1.els:=by
   rcases List.mem_append.1 hpm with h2 | h2
   ·exact h.els p h2
   ·rw [List.mem_singleton] at h2
    rw [h2]; exact hq
  have h2 : ElRd w' p.2 p.1.els:=h1.grown hp.2.1 (fun b hb2 => by
   obtain ⟨_,cur,hc⟩:=own_block h.own hb2
   exact ⟨cur,_,hc,by decide⟩)
  exact h2.grown hg (fun b hb2 => by cases hb2; exact ⟨_,_,hout,by decide⟩)
 refine ⟨(h.res.keep hb (by omega)).other (p:=⟨bo,2,none⟩) (by show bo ≠ w.heap.size; omega) _,(h.x.keep hb (by omega)).other (p:=⟨bo,2,none⟩) (by show bo ≠ bx; omega) _,hout.set 2 v',World.ownsRow.kept ho hg (.inr (own_low ho (by omega)).symm),hel,(h.below.trans (hb.mono (by omega))).setCell (p:=⟨bo,2,none⟩) (by show w.heap.size ≤ bo; omega) _,(h.v.low hb (by omega)).grown hg (by omega),(h.a.low hb (by omega)).grown hg (by omega),h.lt,Nat.le_trans (Nat.le_trans h.size hb.size) hg.size⟩
theorem it_shape {W W' : World} {B m : Nat} {v v' : Value} {xs cs : List Value} {e : TypeId} (hp : AppPost W B e 6 v m xs cs v' W') : ∃ g cap,v' = .slice (some ⟨g,0,none⟩) (m + 1) cap:=by
 rcases hp.1.2 with ⟨_,q2⟩ | ⟨g,cap,cur,hv,_⟩
 ·omega
 ·exact ⟨g,cap,hv⟩
theorem CpW.shape {w W : World} {l : List UInt8} {fo : Bool} {bx bo B : Nat} {rd : List Value} {g1 g2 : Nat} {V A : List Nat} {vI : Value} {L : List (Itm × Value)} (h : CpW w W l fo bx bo B rd g1 g2 V A vI L) : ∃ a c,vI = .slice a L.length c:=by
 rcases h.own.2 with ⟨rfl,h0⟩ | ⟨g,cap,cur,rfl,_⟩
 ·exact ⟨none,0,by rw [h0]⟩
 ·exact ⟨_,_,rfl⟩
theorem it_rd {B : Nat} {v : Value} {L : List (Itm × Value)} {w : World} (h : w.ownsRow B 99 6 v L.length (L.flatMap itCells)) (he : ∀ q ∈ L,ElRd w q.2 q.1.els) : ItRd w v (L.map Prod.fst):=by
 refine ⟨L,rfl,?_,he⟩
 rcases h.2 with ⟨rfl,h0⟩ | ⟨g,cap,cur,rfl,hB,hg,hc1,hc2,hc3,hc4⟩
 ·exact ⟨none,0,by rw [h0],fun hn => by omega⟩
 ·refine ⟨_,_,rfl,fun hn => ⟨g,cur,rfl,hg,fun i q k u hx hu => ?_⟩⟩
  have hi : i < L.length:=(List.getElem?_eq_some_iff.1 hx).1
  have hk : k < 6:=(List.getElem?_eq_some_iff.1 hu).1
  have h1:=flatR_at itCells 6 (fun _ => rfl) L i k q hx hk
  rw [hu,← hc4,List.getElem?_take,if_pos (by omega)] at h1
  simpa using h1
def RComp (w : World) (l : List UInt8) (e : Ending) (w' : World) : Prop :=
 Below w.heap.size w w' ∧ if 256 < l.length then e = .returned (.tuple #[.agg #[.string { data:=#[] },.bool false,.slice none 0 0],.int .i64 0,.int .i64 4])
  else match itemsP (valsL l) with
  | .inl b => e = .returned (.tuple #[.agg #[.string { data:=#[] },.bool false,.slice none 0 0],.int .i64 ((atsL l).getD b 0 : Int),.int .i64 60])
  | .inr its => ∃ a m c,e = .returned (.tuple #[.agg #[.string (bstr l),.bool (foldedP (valsL l)),.slice a m c],.int .i64 0,.int .i64 0]) ∧ ItRd w' (.slice a m c) its
theorem item_next {V : List Nat} {i what j : Nat} {neg : Bool} {els : List El} (hV : OkV V) (hi : i ≤ V.length) (h : atomP V i = .inr (what,neg,els,j)) : i < j ∧ j ≤ V.length:=by
 unfold atomP at h
 cases hc : V[i]? with
 | none => rw [hc] at h; cases h
 | some c =>
  rw [hc] at h
  dsimp only at h
  have hl:=lt_of_some hc
  split at h
  ·cases h
  ·split at h
   ·cases h; exact ⟨by omega,by omega⟩
   ·split at h
    ·have hs:=setP_le V hV (i + 1) (by omega)
     cases hP : setP V (i + 1) with
     | inl b => rw [hP] at h; cases h
     | inr t =>
      obtain ⟨nb,e,k⟩:=t
      rw [hP] at h hs
      have h2 : i + 1 < k ∧ k ≤ V.length:=⟨hs.1,hs.2⟩
      cases h
      omega
    ·have ho:=oneP_le V hV i hi
     cases hP : oneP V i with
     | inl b => rw [hP] at h; cases h
     | inr t =>
      obtain ⟨k,v,j2⟩:=t
      rw [hP] at h ho
      cases h
      exact ⟨ho.1,ho.2.1⟩
theorem atom_what {V : List Nat} {i what j : Nat} {neg : Bool} {els : List El} (h : atomP V i = .inr (what,neg,els,j)) : what ≤ 200:=by
 unfold atomP at h
 cases hc : V[i]? with
 | none => rw [hc] at h; cases h
 | some c =>
  rw [hc] at h
  dsimp only at h
  split at h
  ·cases h
  ·split at h
   ·cases h; omega
   ·split at h
    ·cases hP : setP V (i + 1) with
     | inl b => rw [hP] at h; cases h
     | inr t => obtain ⟨nb,e,k⟩:=t; rw [hP] at h; cases h; decide
    ·cases hP : oneP V i with
     | inl b => rw [hP] at h; cases h
     | inr t => obtain ⟨k,v,j2⟩:=t; rw [hP] at h; cases h; decide
theorem cp_start {w w1 : World} {l : List UInt8} {rd : List Value} {g1 g2 : Nat} {V A : List Nat} (hb : Below (w.alloc (.cells #[.string { data:=#[] },.bool false,.slice none 0 0] 54)).heap.size (w.alloc (.cells #[.string { data:=#[] },.bool false,.slice none 0 0] 54)) w1) (h1 : IntsAt w1 g1 (toZ V ++ [-1])) (h2 : IntsAt w1 g2 (toZ A)) (h3 : w.heap.size + 1 ≤ g1) (h4 : w.heap.size + 1 ≤ g2) :
  CpW w ((w1.alloc (.cells rd.toArray 95)).alloc (.cells #[.string (bstr l),.bool false,.slice none 0 0] 54)) l false w1.heap.size (w1.heap.size + 1) (w1.heap.size + 2) rd g1 g2 V A (.slice none 0 0) []:=by
 have s0:=hb.size
 rw [World.size_alloc] at s0
 have ba : Below w1.heap.size w1 ((w1.alloc (.cells rd.toArray 95)).alloc (.cells #[.string (bstr l),.bool false,.slice none 0 0] 54)):=((Below.refl _ w1).alloc (Nat.le_refl _) _).alloc (by simp) _
 have r0 : Row (w.alloc (.cells #[.string { data:=#[] },.bool false,.slice none 0 0] 54)) w.heap.size 54 [.string { data:=#[] },.bool false,.slice none 0 0]:=row_new w [.string { data:=#[] },.bool false,.slice none 0 0] _
 have r1:=r0.keep hb r0.lt
 have bw : Below w.heap.size w w1:=((Below.refl _ w).alloc (Nat.le_refl _) _).trans (hb.mono (by rw [World.size_alloc]; omega))
 have rx : Row (w1.alloc (.cells rd.toArray 95)) w1.heap.size 95 rd:=row_new w1 rd _
 have ro:=row_new (w1.alloc (.cells rd.toArray 95)) [.string (bstr l),.bool false,.slice none 0 0] 54
 rw [World.size_alloc] at ro
 refine ⟨r1.keep ba r1.lt,rx.alloc _,ro,World.ownsRow_nil _ _ _ _,(fun q hq => by cases hq),bw.trans (ba.mono bw.size),h1.keep ba (Nat.le_refl _),h2.keep ba (Nat.le_refl _),⟨by omega,by omega,by omega,h1.1,h2.1,by omega,by omega⟩,by simp⟩
theorem compR6 (w : World) (l : List UInt8) (hm : l.length ≤ 140737488355328) :
  Calls Tryz.prog 15 #[.string (bstr l)] w (RComp w l):=by
 by_cases hbig : 256 < l.length
 ·have hb1 : (256 : Int) < (l.length : Int):=by omega
  have hfin : ∀ e w',e = .returned (.tuple #[.agg #[.string { data:=#[] },.bool false,.slice none 0 0],.int .i64 0,.int .i64 4]) → Below w.heap.size w w' → RComp w l e w':=fun e w' he hb => ⟨hb,by rw [if_pos hbig]; exact he⟩
  have HF:=Lib.hid hfin
  clear hfin hbig
  go_enter Tryz.func15, Tryz.ntmps15
  go_wp2_with fail
  have hR:=row_new w [.string { data:=#[] },.bool false,.slice none 0 0] 54
  have hR3:=((hR.set 0 (.string { data:=#[] })).set 1 (.bool false)).set 2 (.slice none 0 0)
  have hb0 : Below w.heap.size w (w.alloc (.cells #[.string { data:=#[] },.bool false,.slice none 0 0] 54)):=(Below.refl _ w).alloc (Nat.le_refl _) _
  first
   | (refine bodyPost_ret (results_row_two rfl _ _ w.heap.size 54 #[.string { data:=#[] },.bool false,.slice none 0 0] (0,0) _ _ _ rfl rfl rfl hR3 Tryz.underlying54 rfl (by kernel_rfl)) rfl ?_; exact HF.out _ _ rfl (((hb0.setCell (p:=⟨w.heap.size,0,none⟩) (Nat.le_refl _) _).setCell (p:=⟨w.heap.size,1,none⟩) (Nat.le_refl _) _).setCell (p:=⟨w.heap.size,2,none⟩) (Nat.le_refl _) _))
   | (refine bodyPost_ret (results_row_two rfl _ _ w.heap.size 54 #[.string { data:=#[] },.bool false,.slice none 0 0] (0,0) _ _ _ rfl rfl rfl hR Tryz.underlying54 rfl (by kernel_rfl)) rfl ?_; exact HF.out _ _ rfl hb0)
 have hb1 : ¬ (256 : Int) < (l.length : Int):=by omega
 have hC:=readerR6 (w.alloc (.cells #[.string { data:=#[] },.bool false,.slice none 0 0] 54)) l (by omega)
 have hV:=vals_ok l
 have hvl:=vals_lenR l
 have hal:=ats_len l
 unfold ReaderP at hC
 have hfin : ∀ (R : Nat ⊕ List Itm) (e : Ending) (w' : World),itemsP (valsL l) = R → Below w.heap.size w w' → (match R with
  | .inl b => e = .returned (.tuple #[.agg #[.string { data:=#[] },.bool false,.slice none 0 0],.int .i64 ((atsL l).getD b 0 : Int),.int .i64 60])
  | .inr its => ∃ a m c,e = .returned (.tuple #[.agg #[.string (bstr l),.bool (foldedP (valsL l)),.slice a m c],.int .i64 0,.int .i64 0]) ∧ ItRd w' (.slice a m c) its) → RComp w l e w':=fun R e w' hR hb h => ⟨hb,by rw [if_neg hbig,hR]; exact h⟩
 obtain ⟨V,hVV⟩ : ∃ V,valsL l = V:=⟨_,rfl⟩
 obtain ⟨A,hAA⟩ : ∃ A,atsL l = A:=⟨_,rfl⟩
 rw [hVV,hAA] at hC hfin
 rw [hVV] at hV hvl
 rw [hVV,hAA] at hal
 obtain ⟨n,hn⟩ : ∃ n,V.length = n:=⟨_,rfl⟩
 rw [hn] at hC hvl hal
 have hnb : n ≤ 256:=by omega
 have HC:=Lib.hid hC
 have HV:=Lib.hid hV
 have HN:=Lib.hid hn
 have HAL:=Lib.hid hal
 have HF:=Lib.hid hfin
 clear hC hV hvl hal hn hVV hAA hfin hbig
 go_enter Tryz.func15, Tryz.ntmps15
 go_upto_region 5 with (go_at_call 35; refine (HC.out).mono ?_; rintro e w1 ⟨g1,c1,g2,c2,rfl,hv1,ha1,hb1,hg1,hg2,hcc⟩; have HV1:=Lib.hid hv1; have HA1:=Lib.hid ha1; have HB1:=Lib.hid hb1; have HG:=Lib.hid (⟨hg1,hg2⟩ : _ ∧ _); clear hv1 ha1 hb1 hg1 hg2 hcc)
 have hst:=cp_start (l:=l) (rd:=[.slice (some ⟨g1,0,none⟩) (n + 1) c1,.slice (some ⟨g2,0,none⟩) (n + 1) c2]) HB1.out HV1.out HA1.out (by have:=HG.out.1; rwa [World.size_alloc] at this) (by have:=HG.out.2; rwa [World.size_alloc] at this)
 obtain ⟨W0,hW0⟩ : ∃ W,W = (w1.alloc (.cells #[.slice (some ⟨g1,0,none⟩) (n + 1) c1,.slice (some ⟨g2,0,none⟩) (n + 1) c2] 95)).alloc (.cells #[.string (bstr l),.bool false,.slice none 0 0] 54):=⟨_,rfl⟩
 have hst2 : CpW w W0 l false w1.heap.size (w1.heap.size + 1) (w1.heap.size + 2) [.slice (some ⟨g1,0,none⟩) (n + 1) c1,.slice (some ⟨g2,0,none⟩) (n + 1) c2] g1 g2 V A (.slice none 0 0) []:=by rw [hW0]; exact hst
 rw [← hW0]
 clear hst hW0
 have HST:=Lib.hid hst2
 obtain ⟨fo,i1,W1,hs1,hi1n⟩ : ∃ (fo : Bool) (i1 : Nat) (W1 : World),(fo = foldedP V ∧ i1 = (if foldedP V = true then 2 else 0) ∧ W1 = (if foldedP V = true then W0.setCell ⟨w1.heap.size + 1,1,none⟩ (.bool true) else W0)) ∧ i1 ≤ n:=by
  refine ⟨_,_,_,⟨rfl,rfl,rfl⟩,?_⟩
  by_cases h : foldedP V = true
  ·rw [if_pos h]
   have h2:=(of_decide_eq_true h).2
   have:=lt_of_some h2
   rw [HN.out] at this
   omega
  ·rw [if_neg h]; exact Nat.zero_le _
 have hW1 : CpW w W1 l fo w1.heap.size (w1.heap.size + 1) (w1.heap.size + 2) [.slice (some ⟨g1,0,none⟩) (n + 1) c1,.slice (some ⟨g2,0,none⟩) (n + 1) c2] g1 g2 V A (.slice none 0 0) []:=by
  obtain ⟨h1,h2,h3⟩:=hs1
  subst h1 h3
  by_cases h : foldedP V = true
  ·rw [if_pos h,h]; exact hst2.fold
  ·rw [if_neg h,show foldedP V = false by simpa using h]; exact hst2
 have HW1:=Lib.hid hW1
 have HS1:=Lib.hid hs1
 have hR0 : itemsP V = itemsGo V (V.length + 1) i1 []:=by unfold itemsP; rw [hs1.2.1]
 obtain ⟨R,hR⟩ : ∃ R,itemsP V = R:=⟨_,rfl⟩
 have HR0 : Hid (itemsGo V (V.length + 1) i1 [] = R):=Lib.hid (hR0.symm.trans hR)
 have HR:=Lib.hid hR
 have hcell0:=hst2.v.v (i:=0) (Nat.zero_le _)
 have hz1:=vI_bound HV.out 0
 have ax0:=hst2.x.cell 0
 have ax1:=hst2.x.cell 1
 have axl:=hst2.x.lt
 have ao0:=hst2.out.cell 0
 have ao1:=hst2.out.cell 1
 have ao2:=hst2.out.cell 2
 have aof1:=hst2.out.frozen 1
 have aof2:=hst2.out.frozen 2
 have aol:=hst2.out.lt
 obtain ⟨z0,hz0⟩ : ∃ z,vI V 0 = z:=⟨_,rfl⟩
 rw [hz0] at hcell0 hz1
 have HZ0:=Lib.hid hz0
 have hn1 : (0 : Int) < ((n + 1 : Nat) : Int):=by omega
 have hn2 : (0 : Int) < (n : Int) + 1:=by omega
 clear hst2 hs1 hW1 hR0 hR hz0
 go_upto_region 6 with fail
 go_cut [29] (fun u wc => u = .bool (foldedP V) ∧ wc = W0)
 case first =>
  by_cases hz92 : z0 = 92
  ·have hzz : (z0 == 92) = true:=by simp [hz92]
   have hn0 : 0 < n:=by have:=lt_of_some (vI_eq (HZ0.out.trans hz92)); rwa [HN.out] at this
   have hcell1:=HST.out.v.v (i:=1) (by rw [HN.out]; omega)
   have hn3 : (1 : Int) < ((n + 1 : Nat) : Int):=by omega
   have hn4 : (1 : Int) < (n : Int) + 1:=by omega
   have hn5 : (0 : Int) < (n : Int):=by omega
   obtain ⟨z1,hz1'⟩ : ∃ z,vI V 1 = z:=⟨_,rfl⟩
   rw [hz1'] at hcell1
   have HZ1:=Lib.hid hz1'
   clear hz1'
   by_cases h105 : z1 = 105
   ·have hf : foldedP V = true:=decide_eq_true ⟨vI_eq (HZ0.out.trans hz92),vI_eq (HZ1.out.trans h105)⟩
    have hzq : (z1 == 105) = true:=by simp [h105]
    have HFF:=Lib.hid hf
    clear hf h105 hz92
    go_wp2_with fail
    go_meet
    case rel => exact ⟨by rw [HFF.out],rfl⟩
   ·have hf : foldedP V = false:=decide_eq_false (fun h => h105 (HZ1.out.symm.trans (vI_some h.2)))
    have hzq : (z1 == 105) = false:=by rw [beq_eq_false_iff_ne]; exact h105
    have HFF:=Lib.hid hf
    clear hf h105 hz92
    go_wp2_with fail
    go_meet
    case rel => exact ⟨by rw [HFF.out],rfl⟩
  ·have hzz : (z0 == 92) = false:=by rw [beq_eq_false_iff_ne]; exact hz92
   have hf : foldedP V = false:=decide_eq_false (fun h => hz92 (HZ0.out.symm.trans (vI_some h.1)))
   have HFF:=Lib.hid hf
   clear hf hz92
   go_wp2_with fail
   go_meet
   case rel => exact ⟨by rw [HFF.out],rfl⟩
 case rest =>
 obtain ⟨rfl,rfl⟩:=hcut
 obtain ⟨fb,hfb⟩ : ∃ b,foldedP V = b:=⟨_,rfl⟩
 rw [hfb] at HS1 ⊢
 have HFB:=Lib.hid hfb
 clear hfb hcell0
 go_upto_if 29 with fail
 go_cut [7] (fun u wc => u = .int .i64 (i1 : Int) ∧ wc = W1)
 case first =>
  obtain ⟨h1,h2,h3⟩:=HS1.out
  cases fb with
  | true =>
   rw [if_pos rfl] at h2 h3
   clear h1
   go_wp2_with fail
   go_meet
   case rel => exact ⟨by rw [h2]; rfl,h3.symm⟩
  | false =>
   rw [if_neg (by decide)] at h2 h3
   clear h1
   go_wp2_with fail
   go_meet
   case rel => exact ⟨by rw [h2]; rfl,h3.symm⟩
 case rest =>
 obtain ⟨rfl,rfl⟩:=hcut
 clear ax0 ax1 axl ao0 ao1 ao2 aof1 aof2 aol
 go_wp2_with fail
 go_loopw [7] (fun ui wr => ∃ (f i : Nat) (L : List (Itm × Value)) (vI : Value),ui = .int .i64 (i : Int) ∧ i ≤ n ∧ n + 1 ≤ i + f ∧ L.length ≤ i ∧ f ≤ n + 1 ∧ Hid (itemsGo V f i (L.map Prod.fst) = R ∧ CpW w wr l fo w1.heap.size (w1.heap.size + 1) (w1.heap.size + 2) [.slice (some ⟨g1,0,none⟩) (n + 1) c1,.slice (some ⟨g2,0,none⟩) (n + 1) c2] g1 g2 V A vI L)) (fun ui _ => n + 1 - (RowKit.intOf ui).toNat)
 case atStart => exact ⟨V.length + 1,_,[],_,rfl,hi1n,by rw [HN.out]; omega,Nat.zero_le _,by rw [HN.out]; omega,Lib.hid ⟨HR0.out,HW1.out⟩⟩
 case round =>
  obtain ⟨f,i,L,vI,rfl,hin,hfu,hLl,hfb,HI⟩:=hrel
  obtain ⟨f,rfl⟩ : ∃ g,f = g + 1:=⟨f - 1,by omega⟩
  have hT:=HI.out.2
  obtain ⟨va,vc,rfl⟩:=hT.shape
  have HT:=Lib.hid hT
  have hG:=HI.out.1
  have rx0:=hT.x.cell 0
  have rx1:=hT.x.cell 1
  have rxl:=hT.x.lt
  have hcell:=hT.v.v (i:=i) (by rw [HN.out]; exact hin)
  have hi1 : (i : Int) < ((n + 1 : Nat) : Int):=by omega
  have hi2 : (i : Int) < (n : Int) + 1:=by omega
  have hvb:=vI_bound HV.out i
  clear hT
  by_cases hlt : i < n
  ·obtain ⟨c,hc⟩ : ∃ c,V[i]? = some c:=⟨_,List.getElem?_eq_getElem (by rw [HN.out]; exact hlt)⟩
   rw [vI_some hc] at hcell
   have hcm : ((c : Int) != -1) = true:=by first | (simp; done) | (simp; omega)
   rw [itemsGo,if_neg (by rw [HN.out]; omega)] at hG
   have hA:=atomR6 wr g1 c1 g2 c2 n V i HN.out HT.out.v HV.out hlt (by omega)
   have hle:=itemP_le V HV.out i (by rw [HN.out]; omega)
   rw [item_atom] at hG hle
   clear hc hvb
   unfold AtomR at hA
   cases hS : atomP V i with
   | inl b =>
    rw [hS] at hG hA hle
    dsimp only at hG hA hle
    have HRR:=Lib.hid hG
    have hbn : b ≤ n:=by have : b ≤ V.length:=hle; rw [HN.out] at this; exact this
    have HAT : Hid (Calls Tryz.prog 36 #[.agg #[.slice (some ⟨g1,0,none⟩) (n + 1) c1,.slice (some ⟨g2,0,none⟩) (n + 1) c2],.int .i64 (i : Int)] wr fun e w' => ∃ (what : Nat) (neg : Bool) (vea : Option Addr) (vem vec : Nat) (x y z : Int),e = .returned (.tuple #[.agg #[.int .i64 (what : Int),.bool neg,.slice vea vem vec,.int .i64 0,.bool false,.bool false],.agg #[.int .i64 x,.int .i64 y,.int .i64 z,.int .i64 (b : Int)]]) ∧ Below wr.heap.size wr w'):=Lib.hid (hA.mono (by
     rintro e w' ⟨what,neg,ve,x,y,z,u,rfl,hb,⟨vea,vem,vec,rfl⟩,rfl⟩
     exact ⟨what,neg,vea,vem,vec,x,y,z,rfl,hb⟩))
    have hb0 : (0 : Int) ≤ (b : Int):=by omega
    clear hS hG hA hle
    go_upto_region 12 with (go_at_call 36; refine (HAT.out).mono ?_; rintro e w3 ⟨what,neg,vea,vem,vec,x,y,z,rfl,hb3⟩; have HT3:=Lib.hid (HT.out.next hb3); clear hb3)
    clear rx0 rx1 rxl hcell
    obtain ⟨W4,hW4⟩ : ∃ W,W = (w3.alloc (.cells #[.int .i64 (what : Int),.bool neg,.slice vea vem vec,.int .i64 0,.bool false,.bool false] 99)).alloc (.cells #[.int .i64 x,.int .i64 y,.int .i64 z,.int .i64 (b : Int)] 101):=⟨_,rfl⟩
    have hT4 : CpW w W4 l fo w1.heap.size (w1.heap.size + 1) (w1.heap.size + 2) [.slice (some ⟨g1,0,none⟩) (n + 1) c1,.slice (some ⟨g2,0,none⟩) (n + 1) c2] g1 g2 V A (.slice va L.length vc) L:=by rw [hW4]; exact (HT3.out.next ((Below.refl _ w3).alloc (Nat.le_refl _) _)).next ((Below.refl _ _).alloc (Nat.le_refl _) _)
    have hg4 : Row W4 (w3.heap.size + 1) 101 [.int .i64 x,.int .i64 y,.int .i64 z,.int .i64 (b : Int)]:=by
     rw [hW4]
     have:=row_new (w3.alloc (.cells #[.int .i64 (what : Int),.bool neg,.slice vea vem vec,.int .i64 0,.bool false,.bool false] 99)) [.int .i64 x,.int .i64 y,.int .i64 z,.int .i64 (b : Int)] 101
     rwa [World.size_alloc] at this
    rw [← hW4]
    clear hW4
    have hat : W4.cell? ⟨g2,b,none⟩ = some (.int .i64 ((A.getD b 0 : Nat) : Int)):=hT4.a.2 b _ (by
     unfold toZ
     rw [List.getElem?_map,List.getD_eq_getElem?_getD,List.getElem?_eq_getElem (by rw [HAL.out]; omega)]
     rfl)
    obtain ⟨pl,hpl⟩ : ∃ p,A.getD b 0 = p:=⟨_,rfl⟩
    rw [hpl] at hat
    have HPL:=Lib.hid hpl
    clear hpl
    have sx0:=hT4.x.cell 0
    have sx1:=hT4.x.cell 1
    have sxl:=hT4.x.lt
    have sr0:=hT4.res.cell 0
    have sr1:=hT4.res.cell 1
    have sr2:=hT4.res.cell 2
    have srf0:=hT4.res.frozen 0
    have srf1:=hT4.res.frozen 1
    have srf2:=hT4.res.frozen 2
    have srl:=hT4.res.lt
    have g43:=hg4.cell 3
    have hbn1 : (b : Int) < ((n + 1 : Nat) : Int):=by omega
    have hbn2 : (b : Int) < (n : Int) + 1:=by omega
    obtain ⟨l1,l2,l3,l4,l5,l6,l7⟩:=hT4.lt
    have nq1 : w.heap.size ≠ w3.heap.size + 1:=by have:=HT3.out.size; omega
    have nq2 : w.heap.size ≠ w1.heap.size:=by omega
    have nq3 : w.heap.size ≠ g2:=by have:=HG.out.2; rw [World.size_alloc] at this; omega
    have HT4:=Lib.hid hT4
    clear hT4 hg4
    go_region
    all_goals go_wp2
    all_goals (have hR3:=((HT4.out.res.set 0 (.string { data:=#[] })).set 1 (.bool false)).set 2 (.slice none 0 0); have hR4:=hR3.keep ((Below.refl _ _).drew) hR3.lt; refine bodyPost_ret (results_row_two rfl _ _ w.heap.size 54 #[.string { data:=#[] },.bool false,.slice none 0 0] (0,0) _ _ _ rfl rfl rfl hR4 Tryz.underlying54 rfl (by kernel_rfl)) rfl ?_; exact HF.out R _ _ HR.out ((((HT4.out.below.setCell (p:=⟨w.heap.size,0,none⟩) (Nat.le_refl _) _).setCell (p:=⟨w.heap.size,1,none⟩) (Nat.le_refl _) _).setCell (p:=⟨w.heap.size,2,none⟩) (Nat.le_refl _) _).drew) (by rw [← HRR.out]; show _ = _; rw [HPL.out]; rfl))
   | inr t =>
    obtain ⟨what,neg,els,j⟩:=t
    rw [hS] at hG hA hle
    dsimp only at hG hA hle
    have HAT : Hid (Calls Tryz.prog 36 #[.agg #[.slice (some ⟨g1,0,none⟩) (n + 1) c1,.slice (some ⟨g2,0,none⟩) (n + 1) c2],.int .i64 (i : Int)] wr fun e w' => ∃ (vea : Option Addr) (vem vec : Nat) (x y : Int),e = .returned (.tuple #[.agg #[.int .i64 (what : Int),.bool neg,.slice vea vem vec,.int .i64 0,.bool false,.bool false],.agg #[.int .i64 x,.int .i64 y,.int .i64 (j : Int),.int .i64 (-1)]]) ∧ Below wr.heap.size wr w' ∧ ElRd w' (.slice vea vem vec) els):=Lib.hid (hA.mono (by
     rintro e w' ⟨what',neg',ve,x,y,z,u,rfl,hb,⟨vea,vem,vec,rfl⟩,rfl,rfl,rfl,rfl,he⟩
     exact ⟨vea,vem,vec,x,y,rfl,hb,he⟩))
    have hjj : i < j ∧ j ≤ n:=by
     have h0:=item_next (V:=V) (i:=i) HV.out (by rw [HN.out]; omega) hS
     rw [HN.out] at h0
     exact h0
    obtain ⟨hj1,hj2⟩:=hjj
    have hwb:=atom_what hS
    clear hS hA hle
    go_upto_region 13 with (go_at_call 36; refine (HAT.out).mono ?_; rintro e w3 ⟨vea,vem,vec,x,y,rfl,hb3,he3⟩; have HT3:=Lib.hid (HT.out.next hb3); have HE3:=Lib.hid he3; clear hb3 he3)
    clear rx0 rx1 rxl hcell
    obtain ⟨W5,hW5⟩ : ∃ W,W = (w3.alloc (.cells #[.int .i64 (what : Int),.bool neg,.slice vea vem vec,.int .i64 0,.bool false,.bool false] 99)).alloc (.cells #[.int .i64 x,.int .i64 y,.int .i64 (j : Int),.int .i64 (-1)] 101):=⟨_,rfl⟩
    have hT5 : CpW w W5 l fo w1.heap.size (w1.heap.size + 1) (w1.heap.size + 2) [.slice (some ⟨g1,0,none⟩) (n + 1) c1,.slice (some ⟨g2,0,none⟩) (n + 1) c2] g1 g2 V A (.slice va L.length vc) L:=by rw [hW5]; exact (HT3.out.next ((Below.refl _ w3).alloc (Nat.le_refl _) _)).next ((Below.refl _ _).alloc (Nat.le_refl _) _)
    have hi5 : Row W5 w3.heap.size 99 [.int .i64 (what : Int),.bool neg,.slice vea vem vec,.int .i64 0,.bool false,.bool false]:=by rw [hW5]; exact (row_new w3 [.int .i64 (what : Int),.bool neg,.slice vea vem vec,.int .i64 0,.bool false,.bool false] _).alloc _
    have hg5 : Row W5 (w3.heap.size + 1) 101 [.int .i64 x,.int .i64 y,.int .i64 (j : Int),.int .i64 (-1)]:=by
     rw [hW5]
     have:=row_new (w3.alloc (.cells #[.int .i64 (what : Int),.bool neg,.slice vea vem vec,.int .i64 0,.bool false,.bool false] 99)) [.int .i64 x,.int .i64 y,.int .i64 (j : Int),.int .i64 (-1)] 101
     rwa [World.size_alloc] at this
    have he5 : ElRd W5 (.slice vea vem vec) els:=by rw [hW5]; exact (HE3.out.below ((Below.refl _ w3).alloc (Nat.le_refl _) _)).below ((Below.refl _ _).alloc (Nat.le_refl _) _)
    have HSZ : Hid (w1.heap.size + 2 ≤ w3.heap.size ∧ (Value.slice va L.length vc).ownBlock ≠ some w3.heap.size):=Lib.hid ⟨HT3.out.size,fun e => by have:=(HT3.out.own).lt _ e; omega⟩
    rw [← hW5]
    clear hW5
    have sx0:=hT5.x.cell 0
    have sx1:=hT5.x.cell 1
    have sxl:=hT5.x.lt
    have g52:=hg5.cell 2
    have i50:=hi5.cell 0
    have i53:=hi5.cell 3
    have i54:=hi5.cell 4
    have i55:=hi5.cell 5
    have i5f3:=hi5.frozen 3
    have i5f4:=hi5.frozen 4
    have i5f5:=hi5.frozen 5
    have i5l:=hi5.lt
    have hcell2:=hT5.v.v (i:=j) (by rw [HN.out]; exact hj2)
    have hjn1 : (j : Int) < ((n + 1 : Nat) : Int):=by omega
    have hjn2 : (j : Int) < (n : Int) + 1:=by omega
    obtain ⟨l1,l2,l3,l4,l5,l6,l7⟩:=hT5.lt
    have nq1 : w3.heap.size ≠ g1:=by have:=HSZ.out.1; omega
    have nq2 : w3.heap.size ≠ w1.heap.size:=by have:=HSZ.out.1; omega
    have nq3 : w3.heap.size ≠ w1.heap.size + 1:=by have:=HSZ.out.1; omega
    obtain ⟨z2,hz2⟩ : ∃ z,vI V j = z:=⟨_,rfl⟩
    rw [hz2] at hcell2
    have HZ2:=Lib.hid hz2
    have HP5:=Lib.hid hT5
    have HI5:=Lib.hid hi5
    have HE5:=Lib.hid he5
    clear hT5 hg5 hi5 he5 hz2
    obtain ⟨wz,hwz⟩ : ∃ z : Int,(what : Int) = z:=⟨_,rfl⟩
    have HWZ:=Lib.hid hwz
    by_cases hed : what = 94 ∨ what = 36
    ·rw [if_pos hed] at hG
     have HRR:=Lib.hid hG
     have hq : ((what : Int) != 94 && (what : Int) != 36) = false:=by rcases hed with h | h <;> simp [h]
     clear hG hwz
     by_cases h94 : what = 94
     ·have q94 : ((what : Int) != 94) = false:=by simp [h94]
      clear hed h94 hq
      go_upto_region 21 with fail
      have s5 : CpW w W5 l fo w1.heap.size (w1.heap.size + 1) (w1.heap.size + 2) [.slice (some ⟨g1,0,none⟩) (n + 1) c1,.slice (some ⟨g2,0,none⟩) (n + 1) c2] g1 g2 V A (.slice va L.length vc) L:=HP5.out
      have t5:=HI5.out
      have e5:=HE5.out
      have gr6:=grownBy_set W5 w3.heap.size 3 (.int .i64 (1))
      have s6:=s5.apart gr6 t5 HSZ.out.1 HSZ.out.2
      have e6:=e5.grown gr6 (fun b hb => by cases hb; exact ⟨_,_,t5,by decide⟩)
      have t6:=t5.set 3 (.int .i64 (1))
      obtain ⟨W6,hW6⟩ : ∃ W,W = (W5.setCell ⟨w3.heap.size,3,none⟩ (.int .i64 (1))):=⟨_,rfl⟩
      rw [← hW6] at s6 e6 t6 ⊢
      have HP6:=Lib.hid s6
      have HQ6 : Hid (ElRd W6 (.slice vea vem vec) ((⟨what,neg,els,1,false⟩ : Itm),(Value.slice vea vem vec)).1.els):=Lib.hid e6
      have HI6:=Lib.hid t6
      clear hW6 gr6 s6 e6 t6 s5 t5 e5
      have p0:=HI6.out.cell 0
      have p1:=HI6.out.cell 1
      have p2:=HI6.out.cell 2
      have p3:=HI6.out.cell 3
      have p4:=HI6.out.cell 4
      have p5:=HI6.out.cell 5
      have p6:=HP6.out.out.cell 2
      go_wp2_with (at_builtin; (with_reducible show wpList _ _ _ (Oper.mk (some 115) _ _ _ _ _ :: _) _ _); refine appSep rfl _ _ rfl Tryz.underlying52 (.agg #[.int .i64 0,.bool false,.slice none 0 0,.int .i64 0,.bool false,.bool false]) 6 56 infoItem rfl (by decide) (by decide) (w1.heap.size + 2) W6 (.slice va L.length vc) L.length (L.flatMap itCells) (itCells ((⟨what,neg,els,1,false⟩ : Itm),(Value.slice vea vem vec))) rfl (by intro u hu; simp only [itCells,List.mem_cons,List.not_mem_nil,or_false] at hu; rcases hu with rfl | rfl | rfl | rfl | rfl | rfl <;> rfl) rfl HP6.out.own (by first | rfl | simp) (by first | rfl | simp) (by omega) HP6.out.size ?_; intro v8 w8 hp8; obtain ⟨g8,cap8,rfl⟩:=it_shape hp8; have hpu:=HP6.out.push HQ6.out hp8; have hbo:=hp8.below HP6.out.own HP6.out.size; have y0 : w8.cell? ⟨w1.heap.size + 1,2,none⟩ = some (.slice va L.length vc):=(HP6.out.out.keep hbo (by omega)).cell 2; have y1:=(HP6.out.out.keep hbo (by omega)).frozen 2; have y2:=(HP6.out.out.keep hbo (by omega)).lt; have HPU:=Lib.hid hpu; clear hpu hp8 hbo)
      go_roundw
      case rel => exact ⟨f,j,L ++ [((⟨what,neg,els,1,false⟩ : Itm),(Value.slice vea vem vec))],_,by go_num,by omega,by omega,by rw [List.length_append,List.length_singleton]; omega,by omega,Lib.hid ⟨by rw [List.map_append]; exact HRR.out,HPU.out⟩⟩
      case measure => simp [RowKit.intOf]; omega
     ·have q94 : ((what : Int) != 94) = true:=by simp; omega
      have q36 : ((what : Int) != 36) = false:=by simp; omega
      clear hed h94 hq
      go_upto_region 21 with fail
      have s5 : CpW w W5 l fo w1.heap.size (w1.heap.size + 1) (w1.heap.size + 2) [.slice (some ⟨g1,0,none⟩) (n + 1) c1,.slice (some ⟨g2,0,none⟩) (n + 1) c2] g1 g2 V A (.slice va L.length vc) L:=HP5.out
      have t5:=HI5.out
      have e5:=HE5.out
      have gr6:=grownBy_set W5 w3.heap.size 3 (.int .i64 (1))
      have s6:=s5.apart gr6 t5 HSZ.out.1 HSZ.out.2
      have e6:=e5.grown gr6 (fun b hb => by cases hb; exact ⟨_,_,t5,by decide⟩)
      have t6:=t5.set 3 (.int .i64 (1))
      obtain ⟨W6,hW6⟩ : ∃ W,W = (W5.setCell ⟨w3.heap.size,3,none⟩ (.int .i64 (1))):=⟨_,rfl⟩
      rw [← hW6] at s6 e6 t6 ⊢
      have HP6:=Lib.hid s6
      have HQ6 : Hid (ElRd W6 (.slice vea vem vec) ((⟨what,neg,els,1,false⟩ : Itm),(Value.slice vea vem vec)).1.els):=Lib.hid e6
      have HI6:=Lib.hid t6
      clear hW6 gr6 s6 e6 t6 s5 t5 e5
      have p0:=HI6.out.cell 0
      have p1:=HI6.out.cell 1
      have p2:=HI6.out.cell 2
      have p3:=HI6.out.cell 3
      have p4:=HI6.out.cell 4
      have p5:=HI6.out.cell 5
      have p6:=HP6.out.out.cell 2
      go_wp2_with (at_builtin; (with_reducible show wpList _ _ _ (Oper.mk (some 115) _ _ _ _ _ :: _) _ _); refine appSep rfl _ _ rfl Tryz.underlying52 (.agg #[.int .i64 0,.bool false,.slice none 0 0,.int .i64 0,.bool false,.bool false]) 6 56 infoItem rfl (by decide) (by decide) (w1.heap.size + 2) W6 (.slice va L.length vc) L.length (L.flatMap itCells) (itCells ((⟨what,neg,els,1,false⟩ : Itm),(Value.slice vea vem vec))) rfl (by intro u hu; simp only [itCells,List.mem_cons,List.not_mem_nil,or_false] at hu; rcases hu with rfl | rfl | rfl | rfl | rfl | rfl <;> rfl) rfl HP6.out.own (by first | rfl | simp) (by first | rfl | simp) (by omega) HP6.out.size ?_; intro v8 w8 hp8; obtain ⟨g8,cap8,rfl⟩:=it_shape hp8; have hpu:=HP6.out.push HQ6.out hp8; have hbo:=hp8.below HP6.out.own HP6.out.size; have y0 : w8.cell? ⟨w1.heap.size + 1,2,none⟩ = some (.slice va L.length vc):=(HP6.out.out.keep hbo (by omega)).cell 2; have y1:=(HP6.out.out.keep hbo (by omega)).frozen 2; have y2:=(HP6.out.out.keep hbo (by omega)).lt; have HPU:=Lib.hid hpu; clear hpu hp8 hbo)
      go_roundw
      case rel => exact ⟨f,j,L ++ [((⟨what,neg,els,1,false⟩ : Itm),(Value.slice vea vem vec))],_,by go_num,by omega,by omega,by rw [List.length_append,List.length_singleton]; omega,by omega,Lib.hid ⟨by rw [List.map_append]; exact HRR.out,HPU.out⟩⟩
      case measure => simp [RowKit.intOf]; omega
    ·rw [if_neg hed] at hG
     have q94 : ((what : Int) != 94) = true:=by simp; omega
     have q36 : ((what : Int) != 36) = true:=by simp; omega
     clear hed hwz
     by_cases h42 : z2 = 42
     ·have hv:=vI_eq (HZ2.out.trans h42)
      have hcp : withCount V what neg els j = (⟨what,neg,els,0,true⟩,j + 1):=by unfold withCount countP; rw [hv]; rfl
      rw [hcp] at hG
      have HRR:=Lib.hid hG
      have hjl : j + 1 ≤ n:=by have:=lt_of_some hv; rw [HN.out] at this; exact this
      subst h42
      clear hG hcp hv
      go_upto_region 21 with fail
      have s5 : CpW w W5 l fo w1.heap.size (w1.heap.size + 1) (w1.heap.size + 2) [.slice (some ⟨g1,0,none⟩) (n + 1) c1,.slice (some ⟨g2,0,none⟩) (n + 1) c2] g1 g2 V A (.slice va L.length vc) L:=HP5.out
      have t5:=HI5.out
      have e5:=HE5.out
      have gr6:=grownBy_set W5 w3.heap.size 3 (.int .i64 (1))
      have s6:=s5.apart gr6 t5 HSZ.out.1 HSZ.out.2
      have e6:=e5.grown gr6 (fun b hb => by cases hb; exact ⟨_,_,t5,by decide⟩)
      have t6:=t5.set 3 (.int .i64 (1))
      have gr7:=grownBy_set (W5.setCell ⟨w3.heap.size,3,none⟩ (.int .i64 (1))) w3.heap.size 4 (.bool true)
      have s7:=s6.apart gr7 t6 HSZ.out.1 HSZ.out.2
      have e7:=e6.grown gr7 (fun b hb => by cases hb; exact ⟨_,_,t6,by decide⟩)
      have t7:=t6.set 4 (.bool true)
      have gr8:=grownBy_set ((W5.setCell ⟨w3.heap.size,3,none⟩ (.int .i64 (1))).setCell ⟨w3.heap.size,4,none⟩ (.bool true)) w3.heap.size 5 (.bool false)
      have s8:=s7.apart gr8 t7 HSZ.out.1 HSZ.out.2
      have e8:=e7.grown gr8 (fun b hb => by cases hb; exact ⟨_,_,t7,by decide⟩)
      have t8:=t7.set 5 (.bool false)
      have gr9:=grownBy_set (((W5.setCell ⟨w3.heap.size,3,none⟩ (.int .i64 (1))).setCell ⟨w3.heap.size,4,none⟩ (.bool true)).setCell ⟨w3.heap.size,5,none⟩ (.bool false)) w3.heap.size 3 (.int .i64 (0))
      have s9:=s8.apart gr9 t8 HSZ.out.1 HSZ.out.2
      have e9:=e8.grown gr9 (fun b hb => by cases hb; exact ⟨_,_,t8,by decide⟩)
      have t9:=t8.set 3 (.int .i64 (0))
      obtain ⟨W6,hW6⟩ : ∃ W,W = ((((W5.setCell ⟨w3.heap.size,3,none⟩ (.int .i64 (1))).setCell ⟨w3.heap.size,4,none⟩ (.bool true)).setCell ⟨w3.heap.size,5,none⟩ (.bool false)).setCell ⟨w3.heap.size,3,none⟩ (.int .i64 (0))):=⟨_,rfl⟩
      rw [← hW6] at s9 e9 t9 ⊢
      have HP6:=Lib.hid s9
      have HQ6 : Hid (ElRd W6 (.slice vea vem vec) ((⟨what,neg,els,0,true⟩ : Itm),(Value.slice vea vem vec)).1.els):=Lib.hid e9
      have HI6:=Lib.hid t9
      clear hW6 gr6 s6 e6 t6 gr7 s7 e7 t7 gr8 s8 e8 t8 gr9 s9 e9 t9 s5 t5 e5
      have p0:=HI6.out.cell 0
      have p1:=HI6.out.cell 1
      have p2:=HI6.out.cell 2
      have p3:=HI6.out.cell 3
      have p4:=HI6.out.cell 4
      have p5:=HI6.out.cell 5
      have p6:=HP6.out.out.cell 2
      go_wp2_with (at_builtin; (with_reducible show wpList _ _ _ (Oper.mk (some 115) _ _ _ _ _ :: _) _ _); refine appSep rfl _ _ rfl Tryz.underlying52 (.agg #[.int .i64 0,.bool false,.slice none 0 0,.int .i64 0,.bool false,.bool false]) 6 56 infoItem rfl (by decide) (by decide) (w1.heap.size + 2) W6 (.slice va L.length vc) L.length (L.flatMap itCells) (itCells ((⟨what,neg,els,0,true⟩ : Itm),(Value.slice vea vem vec))) rfl (by intro u hu; simp only [itCells,List.mem_cons,List.not_mem_nil,or_false] at hu; rcases hu with rfl | rfl | rfl | rfl | rfl | rfl <;> rfl) rfl HP6.out.own (by first | rfl | simp) (by first | rfl | simp) (by omega) HP6.out.size ?_; intro v8 w8 hp8; obtain ⟨g8,cap8,rfl⟩:=it_shape hp8; have hpu:=HP6.out.push HQ6.out hp8; have hbo:=hp8.below HP6.out.own HP6.out.size; have y0 : w8.cell? ⟨w1.heap.size + 1,2,none⟩ = some (.slice va L.length vc):=(HP6.out.out.keep hbo (by omega)).cell 2; have y1:=(HP6.out.out.keep hbo (by omega)).frozen 2; have y2:=(HP6.out.out.keep hbo (by omega)).lt; have HPU:=Lib.hid hpu; clear hpu hp8 hbo)
      go_roundw
      case rel => exact ⟨f,j + 1,L ++ [((⟨what,neg,els,0,true⟩ : Itm),(Value.slice vea vem vec))],_,by go_num,by omega,by omega,by rw [List.length_append,List.length_singleton]; omega,by omega,Lib.hid ⟨by rw [List.map_append]; exact HRR.out,HPU.out⟩⟩
      case measure => simp [RowKit.intOf]; omega
     ·by_cases h43 : z2 = 43
      ·have hv:=vI_eq (HZ2.out.trans h43)
       have hcp : withCount V what neg els j = (⟨what,neg,els,1,true⟩,j + 1):=by unfold withCount countP; rw [hv]; rfl
       rw [hcp] at hG
       have HRR:=Lib.hid hG
       have hjl : j + 1 ≤ n:=by have:=lt_of_some hv; rw [HN.out] at this; exact this
       subst h43
       clear hG hcp hv h42
       go_upto_region 21 with fail
       have s5 : CpW w W5 l fo w1.heap.size (w1.heap.size + 1) (w1.heap.size + 2) [.slice (some ⟨g1,0,none⟩) (n + 1) c1,.slice (some ⟨g2,0,none⟩) (n + 1) c2] g1 g2 V A (.slice va L.length vc) L:=HP5.out
       have t5:=HI5.out
       have e5:=HE5.out
       have gr6:=grownBy_set W5 w3.heap.size 3 (.int .i64 (1))
       have s6:=s5.apart gr6 t5 HSZ.out.1 HSZ.out.2
       have e6:=e5.grown gr6 (fun b hb => by cases hb; exact ⟨_,_,t5,by decide⟩)
       have t6:=t5.set 3 (.int .i64 (1))
       have gr7:=grownBy_set (W5.setCell ⟨w3.heap.size,3,none⟩ (.int .i64 (1))) w3.heap.size 4 (.bool true)
       have s7:=s6.apart gr7 t6 HSZ.out.1 HSZ.out.2
       have e7:=e6.grown gr7 (fun b hb => by cases hb; exact ⟨_,_,t6,by decide⟩)
       have t7:=t6.set 4 (.bool true)
       have gr8:=grownBy_set ((W5.setCell ⟨w3.heap.size,3,none⟩ (.int .i64 (1))).setCell ⟨w3.heap.size,4,none⟩ (.bool true)) w3.heap.size 5 (.bool false)
       have s8:=s7.apart gr8 t7 HSZ.out.1 HSZ.out.2
       have e8:=e7.grown gr8 (fun b hb => by cases hb; exact ⟨_,_,t7,by decide⟩)
       have t8:=t7.set 5 (.bool false)
       obtain ⟨W6,hW6⟩ : ∃ W,W = (((W5.setCell ⟨w3.heap.size,3,none⟩ (.int .i64 (1))).setCell ⟨w3.heap.size,4,none⟩ (.bool true)).setCell ⟨w3.heap.size,5,none⟩ (.bool false)):=⟨_,rfl⟩
       rw [← hW6] at s8 e8 t8 ⊢
       have HP6:=Lib.hid s8
       have HQ6 : Hid (ElRd W6 (.slice vea vem vec) ((⟨what,neg,els,1,true⟩ : Itm),(Value.slice vea vem vec)).1.els):=Lib.hid e8
       have HI6:=Lib.hid t8
       clear hW6 gr6 s6 e6 t6 gr7 s7 e7 t7 gr8 s8 e8 t8 s5 t5 e5
       have p0:=HI6.out.cell 0
       have p1:=HI6.out.cell 1
       have p2:=HI6.out.cell 2
       have p3:=HI6.out.cell 3
       have p4:=HI6.out.cell 4
       have p5:=HI6.out.cell 5
       have p6:=HP6.out.out.cell 2
       go_wp2_with (at_builtin; (with_reducible show wpList _ _ _ (Oper.mk (some 115) _ _ _ _ _ :: _) _ _); refine appSep rfl _ _ rfl Tryz.underlying52 (.agg #[.int .i64 0,.bool false,.slice none 0 0,.int .i64 0,.bool false,.bool false]) 6 56 infoItem rfl (by decide) (by decide) (w1.heap.size + 2) W6 (.slice va L.length vc) L.length (L.flatMap itCells) (itCells ((⟨what,neg,els,1,true⟩ : Itm),(Value.slice vea vem vec))) rfl (by intro u hu; simp only [itCells,List.mem_cons,List.not_mem_nil,or_false] at hu; rcases hu with rfl | rfl | rfl | rfl | rfl | rfl <;> rfl) rfl HP6.out.own (by first | rfl | simp) (by first | rfl | simp) (by omega) HP6.out.size ?_; intro v8 w8 hp8; obtain ⟨g8,cap8,rfl⟩:=it_shape hp8; have hpu:=HP6.out.push HQ6.out hp8; have hbo:=hp8.below HP6.out.own HP6.out.size; have y0 : w8.cell? ⟨w1.heap.size + 1,2,none⟩ = some (.slice va L.length vc):=(HP6.out.out.keep hbo (by omega)).cell 2; have y1:=(HP6.out.out.keep hbo (by omega)).frozen 2; have y2:=(HP6.out.out.keep hbo (by omega)).lt; have HPU:=Lib.hid hpu; clear hpu hp8 hbo)
       go_roundw
       case rel => exact ⟨f,j + 1,L ++ [((⟨what,neg,els,1,true⟩ : Itm),(Value.slice vea vem vec))],_,by go_num,by omega,by omega,by rw [List.length_append,List.length_singleton]; omega,by omega,Lib.hid ⟨by rw [List.map_append]; exact HRR.out,HPU.out⟩⟩
       case measure => simp [RowKit.intOf]; omega
      ·by_cases h63 : z2 = 63
       ·have hv:=vI_eq (HZ2.out.trans h63)
        have hcp : withCount V what neg els j = (⟨what,neg,els,0,false⟩,j + 1):=by unfold withCount countP; rw [hv]; rfl
        rw [hcp] at hG
        have HRR:=Lib.hid hG
        have hjl : j + 1 ≤ n:=by have:=lt_of_some hv; rw [HN.out] at this; exact this
        subst h63
        clear hG hcp hv h42 h43
        go_upto_region 21 with fail
        have s5 : CpW w W5 l fo w1.heap.size (w1.heap.size + 1) (w1.heap.size + 2) [.slice (some ⟨g1,0,none⟩) (n + 1) c1,.slice (some ⟨g2,0,none⟩) (n + 1) c2] g1 g2 V A (.slice va L.length vc) L:=HP5.out
        have t5:=HI5.out
        have e5:=HE5.out
        have gr6:=grownBy_set W5 w3.heap.size 3 (.int .i64 (1))
        have s6:=s5.apart gr6 t5 HSZ.out.1 HSZ.out.2
        have e6:=e5.grown gr6 (fun b hb => by cases hb; exact ⟨_,_,t5,by decide⟩)
        have t6:=t5.set 3 (.int .i64 (1))
        have gr7:=grownBy_set (W5.setCell ⟨w3.heap.size,3,none⟩ (.int .i64 (1))) w3.heap.size 4 (.bool false)
        have s7:=s6.apart gr7 t6 HSZ.out.1 HSZ.out.2
        have e7:=e6.grown gr7 (fun b hb => by cases hb; exact ⟨_,_,t6,by decide⟩)
        have t7:=t6.set 4 (.bool false)
        have gr8:=grownBy_set ((W5.setCell ⟨w3.heap.size,3,none⟩ (.int .i64 (1))).setCell ⟨w3.heap.size,4,none⟩ (.bool false)) w3.heap.size 5 (.bool true)
        have s8:=s7.apart gr8 t7 HSZ.out.1 HSZ.out.2
        have e8:=e7.grown gr8 (fun b hb => by cases hb; exact ⟨_,_,t7,by decide⟩)
        have t8:=t7.set 5 (.bool true)
        have gr9:=grownBy_set (((W5.setCell ⟨w3.heap.size,3,none⟩ (.int .i64 (1))).setCell ⟨w3.heap.size,4,none⟩ (.bool false)).setCell ⟨w3.heap.size,5,none⟩ (.bool true)) w3.heap.size 3 (.int .i64 (0))
        have s9:=s8.apart gr9 t8 HSZ.out.1 HSZ.out.2
        have e9:=e8.grown gr9 (fun b hb => by cases hb; exact ⟨_,_,t8,by decide⟩)
        have t9:=t8.set 3 (.int .i64 (0))
        obtain ⟨W6,hW6⟩ : ∃ W,W = ((((W5.setCell ⟨w3.heap.size,3,none⟩ (.int .i64 (1))).setCell ⟨w3.heap.size,4,none⟩ (.bool false)).setCell ⟨w3.heap.size,5,none⟩ (.bool true)).setCell ⟨w3.heap.size,3,none⟩ (.int .i64 (0))):=⟨_,rfl⟩
        rw [← hW6] at s9 e9 t9 ⊢
        have HP6:=Lib.hid s9
        have HQ6 : Hid (ElRd W6 (.slice vea vem vec) ((⟨what,neg,els,0,false⟩ : Itm),(Value.slice vea vem vec)).1.els):=Lib.hid e9
        have HI6:=Lib.hid t9
        clear hW6 gr6 s6 e6 t6 gr7 s7 e7 t7 gr8 s8 e8 t8 gr9 s9 e9 t9 s5 t5 e5
        have p0:=HI6.out.cell 0
        have p1:=HI6.out.cell 1
        have p2:=HI6.out.cell 2
        have p3:=HI6.out.cell 3
        have p4:=HI6.out.cell 4
        have p5:=HI6.out.cell 5
        have p6:=HP6.out.out.cell 2
        go_wp2_with (at_builtin; (with_reducible show wpList _ _ _ (Oper.mk (some 115) _ _ _ _ _ :: _) _ _); refine appSep rfl _ _ rfl Tryz.underlying52 (.agg #[.int .i64 0,.bool false,.slice none 0 0,.int .i64 0,.bool false,.bool false]) 6 56 infoItem rfl (by decide) (by decide) (w1.heap.size + 2) W6 (.slice va L.length vc) L.length (L.flatMap itCells) (itCells ((⟨what,neg,els,0,false⟩ : Itm),(Value.slice vea vem vec))) rfl (by intro u hu; simp only [itCells,List.mem_cons,List.not_mem_nil,or_false] at hu; rcases hu with rfl | rfl | rfl | rfl | rfl | rfl <;> rfl) rfl HP6.out.own (by first | rfl | simp) (by first | rfl | simp) (by omega) HP6.out.size ?_; intro v8 w8 hp8; obtain ⟨g8,cap8,rfl⟩:=it_shape hp8; have hpu:=HP6.out.push HQ6.out hp8; have hbo:=hp8.below HP6.out.own HP6.out.size; have y0 : w8.cell? ⟨w1.heap.size + 1,2,none⟩ = some (.slice va L.length vc):=(HP6.out.out.keep hbo (by omega)).cell 2; have y1:=(HP6.out.out.keep hbo (by omega)).frozen 2; have y2:=(HP6.out.out.keep hbo (by omega)).lt; have HPU:=Lib.hid hpu; clear hpu hp8 hbo)
        go_roundw
        case rel => exact ⟨f,j + 1,L ++ [((⟨what,neg,els,0,false⟩ : Itm),(Value.slice vea vem vec))],_,by go_num,by omega,by omega,by rw [List.length_append,List.length_singleton]; omega,by omega,Lib.hid ⟨by rw [List.map_append]; exact HRR.out,HPU.out⟩⟩
        case measure => simp [RowKit.intOf]; omega
       ·have hcp : withCount V what neg els j = (⟨what,neg,els,1,false⟩,j):=by
         unfold withCount countP
         rw [if_neg (fun h => h42 (HZ2.out.symm.trans (vI_some h))),if_neg (fun h => h43 (HZ2.out.symm.trans (vI_some h))),if_neg (fun h => h63 (HZ2.out.symm.trans (vI_some h)))]
        rw [hcp] at hG
        have HRR:=Lib.hid hG
        have q42 : (z2 == 42) = false:=by rw [beq_eq_false_iff_ne]; exact h42
        have q43 : (z2 == 43) = false:=by rw [beq_eq_false_iff_ne]; exact h43
        have q63 : (z2 == 63) = false:=by rw [beq_eq_false_iff_ne]; exact h63
        clear hG hcp h42 h43 h63
        go_upto_region 21 with fail
        have s5 : CpW w W5 l fo w1.heap.size (w1.heap.size + 1) (w1.heap.size + 2) [.slice (some ⟨g1,0,none⟩) (n + 1) c1,.slice (some ⟨g2,0,none⟩) (n + 1) c2] g1 g2 V A (.slice va L.length vc) L:=HP5.out
        have t5:=HI5.out
        have e5:=HE5.out
        have gr6:=grownBy_set W5 w3.heap.size 3 (.int .i64 (1))
        have s6:=s5.apart gr6 t5 HSZ.out.1 HSZ.out.2
        have e6:=e5.grown gr6 (fun b hb => by cases hb; exact ⟨_,_,t5,by decide⟩)
        have t6:=t5.set 3 (.int .i64 (1))
        obtain ⟨W6,hW6⟩ : ∃ W,W = (W5.setCell ⟨w3.heap.size,3,none⟩ (.int .i64 (1))):=⟨_,rfl⟩
        rw [← hW6] at s6 e6 t6 ⊢
        have HP6:=Lib.hid s6
        have HQ6 : Hid (ElRd W6 (.slice vea vem vec) ((⟨what,neg,els,1,false⟩ : Itm),(Value.slice vea vem vec)).1.els):=Lib.hid e6
        have HI6:=Lib.hid t6
        clear hW6 gr6 s6 e6 t6 s5 t5 e5
        have p0:=HI6.out.cell 0
        have p1:=HI6.out.cell 1
        have p2:=HI6.out.cell 2
        have p3:=HI6.out.cell 3
        have p4:=HI6.out.cell 4
        have p5:=HI6.out.cell 5
        have p6:=HP6.out.out.cell 2
        go_wp2_with (at_builtin; (with_reducible show wpList _ _ _ (Oper.mk (some 115) _ _ _ _ _ :: _) _ _); refine appSep rfl _ _ rfl Tryz.underlying52 (.agg #[.int .i64 0,.bool false,.slice none 0 0,.int .i64 0,.bool false,.bool false]) 6 56 infoItem rfl (by decide) (by decide) (w1.heap.size + 2) W6 (.slice va L.length vc) L.length (L.flatMap itCells) (itCells ((⟨what,neg,els,1,false⟩ : Itm),(Value.slice vea vem vec))) rfl (by intro u hu; simp only [itCells,List.mem_cons,List.not_mem_nil,or_false] at hu; rcases hu with rfl | rfl | rfl | rfl | rfl | rfl <;> rfl) rfl HP6.out.own (by first | rfl | simp) (by first | rfl | simp) (by omega) HP6.out.size ?_; intro v8 w8 hp8; obtain ⟨g8,cap8,rfl⟩:=it_shape hp8; have hpu:=HP6.out.push HQ6.out hp8; have hbo:=hp8.below HP6.out.own HP6.out.size; have y0 : w8.cell? ⟨w1.heap.size + 1,2,none⟩ = some (.slice va L.length vc):=(HP6.out.out.keep hbo (by omega)).cell 2; have y1:=(HP6.out.out.keep hbo (by omega)).frozen 2; have y2:=(HP6.out.out.keep hbo (by omega)).lt; have HPU:=Lib.hid hpu; clear hpu hp8 hbo)
        go_roundw
        case rel => exact ⟨f,j,L ++ [((⟨what,neg,els,1,false⟩ : Itm),(Value.slice vea vem vec))],_,by go_num,by omega,by omega,by rw [List.length_append,List.length_singleton]; omega,by omega,Lib.hid ⟨by rw [List.map_append]; exact HRR.out,HPU.out⟩⟩
        case measure => simp [RowKit.intOf]; omega
  ·obtain rfl : i = n:=by omega
   rw [vI_none (List.getElem?_eq_none (by rw [HN.out]; exact Nat.le_refl _))] at hcell
   rw [itemsGo,if_pos (by rw [HN.out]; exact Nat.le_refl _)] at hG
   have HRR:=Lib.hid hG
   have so0:=HT.out.out.cell 0
   have so1:=HT.out.out.cell 1
   have so2:=HT.out.out.cell 2
   have sof1:=HT.out.out.frozen 1
   have sof2:=HT.out.out.frozen 2
   have sol:=HT.out.out.lt
   have sr0:=HT.out.res.cell 0
   have sr1:=HT.out.res.cell 1
   have sr2:=HT.out.res.cell 2
   have srf0:=HT.out.res.frozen 0
   have srf1:=HT.out.res.frozen 1
   have srf2:=HT.out.res.frozen 2
   have srl:=HT.out.res.lt
   have hfo : fo = foldedP V:=HS1.out.1.trans HFB.out.symm
   have HFO:=Lib.hid hfo
   clear hG hlt hvb hfo
   go_wp2_with fail
   have hg3:=grown_then (grown_then (grownBy_set wr w.heap.size 0 (.string (bstr l))) (grownBy_set _ w.heap.size 1 (.bool fo)) (fun j h => .inr h)) (grownBy_set _ w.heap.size 2 (.slice va L.length vc)) (fun j h => .inr h)
   have hR3:=((HT.out.res.set 0 (.string (bstr l))).set 1 (.bool fo)).set 2 (.slice va L.length vc)
   refine bodyPost_ret (results_row_two rfl _ _ w.heap.size 54 #[.string (bstr l),.bool fo,.slice va L.length vc] (0,0) _ _ _ rfl rfl rfl hR3 Tryz.underlying54 rfl (by kernel_rfl)) rfl ?_
   refine HF.out R _ _ HR.out (HT.out.below.trans (below_grownBy hg3 (Nat.le_refl _) HT.out.below.size)) ?_
   rw [← HRR.out]
   refine ⟨_,_,_,by rw [← HFO.out]; rfl,?_⟩
   exact it_rd (World.ownsRow.kept HT.out.own hg3 (.inr (own_low HT.out.own (by have:=HT.out.lt; omega)).symm)) (fun q hq => (HT.out.els q hq).grown hg3 (fun b hb => by cases hb; exact ⟨_,_,HT.out.res,by decide⟩))
end Go.Proofs.YtchdeboialbdiaaGreatDoor
