/- Texts joined, one behind the other (SRefJ). -/
import Derived.Test.YtchdeboialbdiaaGreatDoorSn26
import Derived.BigRegion
namespace Go
set_option linter.unusedVariables false
set_option linter.unusedSimpArgs false
set_option maxHeartbeats 8000000
set_option maxRecDepth 100000
theorem results_cell_cell {fn : Func} {p q : Tmp} {ty ty2 : TypeId} (h : fn.results = #[.cell p ty,.cell q ty2]) (tmps : Array Value) (P : Program) (w : World) :
  (results fn tmps).run P w =
   ((asAddr (tmps.getD p undef)).run P w).andThen fun a w₁ => ((loadVar ty a).run P w₁).andThen fun x w₂ => ((asAddr (tmps.getD q undef)).run P w₂).andThen fun a2 w₃ => ((loadVar ty2 a2).run P w₃).andThen fun y w₄ => .ok (.tuple #[x,y]) w₄:=by
 simp only [results,h]
 simp [Sem.run_bind,Result.andThen]
theorem results_row_row {P : Program} {fn : Func} {p q : Tmp} {ty ty2 : TypeId} (h : fn.results = #[.cell p ty,.cell q ty2]) (tmps : Array Value) (w : World) (g g2 : Nat) (t t2 : TypeId) (cs cs2 : Array Value) (fr fr2 : Nat × Nat) (d d2 : TypeDesc)
  (hp : tmps.getD p undef = .pointer (some ⟨g,0,none⟩)) (hq : tmps.getD q undef = .pointer (some ⟨g2,0,none⟩)) (hg : w.heap[g]? = some (.cells cs t fr)) (hg2 : w.heap[g2]? = some (.cells cs2 t2 fr2)) (hu : P.underlying ty = some d) (hd : (match d with | .struct _ | .array _ _ => true | _ => false) = true) (hi : (P.info? ty).map (·.size) = some cs.size)
  (hu2 : P.underlying ty2 = some d2) (hd2 : (match d2 with | .struct _ | .array _ _ => true | _ => false) = true) (hi2 : (P.info? ty2).map (·.size) = some cs2.size) :
  (results fn tmps).run P w = .ok (.tuple #[.agg cs,.agg cs2]) w:=by
 rw [results_cell_cell h,hp,hq,show (asAddr (.pointer (some ⟨g,0,none⟩)) : Sem Addr).run P w = .ok ⟨g,0,none⟩ w from rfl]
 simp only [Result.andThen]
 rw [run_loadVar_row w g t ty cs fr d hg hu hd hi]
 simp only [Result.andThen]
 rw [show (asAddr (.pointer (some ⟨g2,0,none⟩)) : Sem Addr).run P w = .ok ⟨g2,0,none⟩ w from rfl]
 simp only [Result.andThen]
 rw [run_loadVar_row w g2 t2 ty2 cs2 fr2 d2 hg2 hu2 hd2 hi2]
end Go
namespace Go.Proofs.YtchdeboialbdiaaGreatDoor
set_option linter.unusedVariables false
set_option linter.unusedSimpArgs false
set_option maxHeartbeats 8000000
set_option maxRecDepth 100000
open Go.RowKit
open Go.Lib hiding intOf
def elCells : El → List Value
 | .kind k => [.int .i64 (k : Int),.int .i64 0,.int .i64 0]
 | .rng lo hi => [.int .i64 0,.int .i64 (lo : Int),.int .i64 (hi : Int)]
theorem elCells_len (x : El) : (elCells x).length = 3:=by cases x <;> rfl
theorem elCells_one (x : El) : ∀ u ∈ elCells x,u.oneCell' = true:=by
 intro u hu
 cases x <;> (simp only [elCells,List.mem_cons,List.not_mem_nil,or_false] at hu; rcases hu with rfl | rfl | rfl <;> rfl)
theorem infoEl : (Tryz.prog.info? 129).map (fun i => (i.zero,i.size,i.bytes)) = some (some (.agg #[.int .i64 0,.int .i64 0,.int .i64 0]),3,24):=by kernel_rfl
def ElOwn (B : Nat) (v : Value) (els : List El) (w : World) : Prop:=w.ownsRow B 129 3 v els.length (els.flatMap elCells)
theorem ElOwn.push {B : Nat} {v : Value} {els : List El} {x : El} {w : World} (h : w.ownsRow B 129 3 v (els.length + 1) (els.flatMap elCells ++ elCells x)) : ElOwn B v (els ++ [x]) w:=by
 unfold ElOwn
 rw [List.length_append,List.flatMap_append]
 simpa using h
theorem ElOwn.shape {B : Nat} {v : Value} {els : List El} {w : World} (h : ElOwn B v els w) : ∃ a c,v = .slice a els.length c:=by
 rcases h.2 with ⟨rfl,h0⟩ | ⟨g,cap,cur,rfl,_⟩
 ·exact ⟨none,0,by rw [h0]⟩
 ·exact ⟨_,_,rfl⟩
theorem IntsAt.low {B : Nat} {w w' : World} {g : Nat} {L : List Int} (h : IntsAt w g L) (hb : Below B w w') (hB : g < B) : IntsAt w' g L :=
 ⟨Nat.lt_of_lt_of_le h.1 hb.size,fun k x hx => by rw [hb.cell (p:=⟨g,k,none⟩) hB]; exact h.2 k x hx⟩
structure StW (w W : World) (rd : List Value) (g1 : Nat) (V : List Nat) (neg : Bool) (ve : Value) (els : List El) : Prop where
 box : Row W w.heap.size 95 rd
 resI : Row W (w.heap.size + 1) 99 [.int .i64 0,.bool false,.slice none 0 0,.int .i64 0,.bool false,.bool false]
 resG : Row W (w.heap.size + 2) 101 [.int .i64 0,.int .i64 0,.int .i64 0,.int .i64 0]
 it : Row W (w.heap.size + 3) 99 [.int .i64 91,.bool neg,ve,.int .i64 0,.bool false,.bool false]
 own : ElOwn (w.heap.size + 4) ve els W
 below : Below w.heap.size w W
 ints : IntsAt W g1 (toZ V ++ [-1])
 low : g1 < w.heap.size
 size : w.heap.size + 4 ≤ W.heap.size
theorem StW.next {w W W' : World} {rd : List Value} {g1 : Nat} {V : List Nat} {neg : Bool} {ve : Value} {els : List El} (h : StW w W rd g1 V neg ve els) (hb : Below W.heap.size W W') : StW w W' rd g1 V neg ve els :=
 ⟨h.box.keep hb h.box.lt,h.resI.keep hb h.resI.lt,h.resG.keep hb h.resG.lt,h.it.keep hb h.it.lt,own_below h.own hb,h.below.trans (hb.mono h.below.size),h.ints.keep hb (Nat.le_refl _),h.low,Nat.le_trans h.size hb.size⟩
theorem StW.push {w W w' : World} {rd : List Value} {g1 : Nat} {V : List Nat} {neg : Bool} {ve v' : Value} {els : List El} {x : El} (h : StW w W rd g1 V neg ve els) (hp : AppPost W (w.heap.size + 4) 129 3 ve els.length (els.flatMap elCells) (elCells x) v' w') : StW w (w'.setCell ⟨w.heap.size + 3,2,none⟩ v') rd g1 V neg v' (els ++ [x]):=by
 have hb:=hp.below h.own h.size
 have ho : ElOwn (w.heap.size + 4) v' (els ++ [x]) w':=ElOwn.push hp.1
 have hg:=grownBy_set w' (w.heap.size + 3) 2 v'
 have hlow:=h.low
 have hit:=(h.it.keep hb (by omega)).set 2 v'
 refine ⟨((h.box.keep hb (by omega)).other (p:=⟨w.heap.size + 3,2,none⟩) (by show w.heap.size + 3 ≠ w.heap.size; omega) v'),((h.resI.keep hb (by omega)).other (p:=⟨w.heap.size + 3,2,none⟩) (by show w.heap.size + 3 ≠ w.heap.size + 1; omega) v'),((h.resG.keep hb (by omega)).other (p:=⟨w.heap.size + 3,2,none⟩) (by show w.heap.size + 3 ≠ w.heap.size + 2; omega) v'),hit,?_,?_,?_,h.low,?_⟩
 ·exact World.ownsRow.kept ho hg (.inr (own_low ho (Nat.lt_succ_self _)).symm)
 ·exact (h.below.trans (hb.mono (by omega))).setCell (p:=⟨w.heap.size + 3,2,none⟩) (by show w.heap.size ≤ w.heap.size + 3; omega) _
 ·exact (h.ints.low hb (by omega)).grown hg (by omega)
 ·exact Nat.le_trans (Nat.le_trans h.size hb.size) hg.size
def set6 (W : World) (g : Nat) (a b c d e f : Value) : World:=(((((W.setCell ⟨g,0,none⟩ a).setCell ⟨g,1,none⟩ b).setCell ⟨g,2,none⟩ c).setCell ⟨g,3,none⟩ d).setCell ⟨g,4,none⟩ e).setCell ⟨g,5,none⟩ f
def set4 (W : World) (g : Nat) (a b c d : Value) : World:=(((W.setCell ⟨g,0,none⟩ a).setCell ⟨g,1,none⟩ b).setCell ⟨g,2,none⟩ c).setCell ⟨g,3,none⟩ d
theorem set6_grown (W : World) (g : Nat) (a b c d e f : Value) : W.grownBy (set6 W g a b c d e f) (some g) :=
 grown_then (grown_then (grown_then (grown_then (grown_then (grownBy_set _ g 0 a) (grownBy_set _ g 1 b) (fun j h => .inr h)) (grownBy_set _ g 2 c) (fun j h => .inr h)) (grownBy_set _ g 3 d) (fun j h => .inr h)) (grownBy_set _ g 4 e) (fun j h => .inr h)) (grownBy_set _ g 5 f) (fun j h => .inr h)
theorem set4_grown (W : World) (g : Nat) (a b c d : Value) : W.grownBy (set4 W g a b c d) (some g) :=
 grown_then (grown_then (grown_then (grownBy_set _ g 0 a) (grownBy_set _ g 1 b) (fun j h => .inr h)) (grownBy_set _ g 2 c) (fun j h => .inr h)) (grownBy_set _ g 3 d) (fun j h => .inr h)
theorem set6_row {W : World} {g : Nat} {t : TypeId} {x0 x1 x2 x3 x4 x5 : Value} (h : Row W g t [x0,x1,x2,x3,x4,x5]) (a b c d e f : Value) : Row (set6 W g a b c d e f) g t [a,b,c,d,e,f]:=(((((h.set 0 a).set 1 b).set 2 c).set 3 d).set 4 e).set 5 f
theorem set4_row {W : World} {g : Nat} {t : TypeId} {x0 x1 x2 x3 : Value} (h : Row W g t [x0,x1,x2,x3]) (a b c d : Value) : Row (set4 W g a b c d) g t [a,b,c,d]:=(((h.set 0 a).set 1 b).set 2 c).set 3 d
def EndW (w : World) (neg : Bool) (ve : Value) (els : List El) (gl : List Value) (W : World) : Prop :=
 Row W (w.heap.size + 1) 99 [.int .i64 91,.bool neg,ve,.int .i64 0,.bool false,.bool false] ∧ Row W (w.heap.size + 2) 101 gl ∧ Below w.heap.size w W ∧ ElOwn w.heap.size ve els W
theorem StW.end1 {w W : World} {rd : List Value} {g1 : Nat} {V : List Nat} {neg : Bool} {ve : Value} {els : List El} (h : StW w W rd g1 V neg ve els) (a b c d : Value) : EndW w neg ve els [a,b,c,d] (set4 (set6 W (w.heap.size + 1) (.int .i64 91) (.bool neg) ve (.int .i64 0) (.bool false) (.bool false)) (w.heap.size + 2) a b c d):=by
 have h6:=set6_grown W (w.heap.size + 1) (.int .i64 91) (.bool neg) ve (.int .i64 0) (.bool false) (.bool false)
 have r6:=set6_row h.resI (.int .i64 91) (.bool neg) ve (.int .i64 0) (.bool false) (.bool false)
 obtain ⟨W6,hW6⟩ : ∃ X,X = set6 W (w.heap.size + 1) (.int .i64 91) (.bool neg) ve (.int .i64 0) (.bool false) (.bool false):=⟨_,rfl⟩
 rw [← hW6] at h6 r6 ⊢
 have h4:=set4_grown W6 (w.heap.size + 2) a b c d
 have rg : Row W6 (w.heap.size + 2) 101 [.int .i64 0,.int .i64 0,.int .i64 0,.int .i64 0]:=(h6.block _ h.resG.lt (by intro e; simp only [Option.some.injEq] at e; omega)).trans h.resG
 have r4:=set4_row rg a b c d
 have o6 : ElOwn (w.heap.size + 4) ve els W6:=World.ownsRow.kept h.own h6 (.inr (own_low h.own (by omega)).symm)
 have o4:=World.ownsRow.kept o6 h4 (.inr (own_low o6 (by omega)).symm)
 refine ⟨(h4.block _ r6.lt (by intro e; simp only [Option.some.injEq] at e; omega)).trans r6,r4,?_,own_mono o4 (by omega)⟩
 exact (h.below.trans (below_grownBy h6 (by omega) (by have:=h.size; omega))).trans (below_grownBy h4 (by omega) (by have:=h.size; have:=h6.size; omega))
theorem StW.end2 {w W : World} {rd : List Value} {g1 : Nat} {V : List Nat} {neg : Bool} {ve : Value} {els : List El} (h : StW w W rd g1 V neg ve els) (a b c d : Value) : EndW w neg ve els [a,b,c,d] (set6 (set4 W (w.heap.size + 2) a b c d) (w.heap.size + 1) (.int .i64 91) (.bool neg) ve (.int .i64 0) (.bool false) (.bool false)):=by
 have h4:=set4_grown W (w.heap.size + 2) a b c d
 have r4:=set4_row h.resG a b c d
 obtain ⟨W4,hW4⟩ : ∃ X,X = set4 W (w.heap.size + 2) a b c d:=⟨_,rfl⟩
 rw [← hW4] at h4 r4 ⊢
 have h6:=set6_grown W4 (w.heap.size + 1) (.int .i64 91) (.bool neg) ve (.int .i64 0) (.bool false) (.bool false)
 have ri : Row W4 (w.heap.size + 1) 99 [.int .i64 0,.bool false,.slice none 0 0,.int .i64 0,.bool false,.bool false]:=(h4.block _ h.resI.lt (by intro e; simp only [Option.some.injEq] at e; omega)).trans h.resI
 have r6:=set6_row ri (.int .i64 91) (.bool neg) ve (.int .i64 0) (.bool false) (.bool false)
 have o4 : ElOwn (w.heap.size + 4) ve els W4:=World.ownsRow.kept h.own h4 (.inr (own_low h.own (by omega)).symm)
 have o6:=World.ownsRow.kept o4 h6 (.inr (own_low o4 (by omega)).symm)
 refine ⟨r6,(h6.block _ r4.lt (by intro e; simp only [Option.some.injEq] at e; omega)).trans r4,?_,own_mono o6 (by omega)⟩
 exact (h.below.trans (below_grownBy h4 (by omega) (by have:=h.size; omega))).trans (below_grownBy h6 (by omega) (by have:=h.size; have:=h4.size; omega))
theorem one_kind0 {V : List Nat} {i k v j : Nat} (h : oneP V i = .inr (k,v,j)) (hk : k ≠ 0) : v = 0:=by
 unfold oneP at h
 cases hc : V[i]? with
 | none => rw [hc] at h; cases h
 | some c =>
  rw [hc] at h
  dsimp only at h
  by_cases h92 : c = 92
  ·rw [if_pos h92] at h
   cases hv : V[i + 1]? with
   | none => rw [hv] at h; cases h
   | some x =>
    rw [hv] at h
    dsimp only at h
    repeat' split at h
    all_goals first | (cases h; done) | (cases h; rfl) | (cases h; exact absurd rfl hk) | skip
    ·exfalso
     unfold hexP at h
     repeat' split at h
     all_goals first | (cases h; done) | (cases h; exact hk rfl)
    ·exfalso
     unfold runeP at h
     split at h
     ·dsimp only at h
      split at h
      ·cases h
      ·cases h; exact hk rfl
     ·cases h
  ·rw [if_neg h92] at h
   cases h
   exact absurd rfl hk
def setGR : Nat ⊕ (Bool × List El × Nat) → Got
 | .inl b => .inl b
 | .inr (_,_,j) => .inr (0,0,j)
def SetR (w : World) (S : Nat ⊕ (Bool × List El × Nat)) (e : Ending) (w' : World) : Prop :=
 ∃ neg ve,e = .returned (.tuple #[.agg #[.int .i64 91,.bool neg,ve,.int .i64 0,.bool false,.bool false],gotV (setGR S)]) ∧ Below w.heap.size w w' ∧ (∃ a m c,ve = .slice a m c) ∧ ∀ nb els j,S = .inr (nb,els,j) → neg = nb ∧ ElOwn w.heap.size ve els w'
def withNeg (neg : Bool) : Nat ⊕ (List El × Nat) → Nat ⊕ (Bool × List El × Nat)
 | .inl b => .inl b
 | .inr (e,j) => .inr (neg,e,j)
theorem setP_neg {V : List Nat} {i : Nat} (h : V[i]? = some 94) : setP V i = withNeg true (setGo V V.length (i + 1) []):=by
 unfold setP
 rw [if_pos h]
 cases setGo V V.length (i + 1) [] <;> rfl
theorem setP_pos {V : List Nat} {i : Nat} (h : V[i]? ≠ some 94) : setP V i = withNeg false (setGo V V.length i []):=by
 unfold setP
 rw [if_neg h]
 cases setGo V V.length i [] <;> rfl
theorem EndW.ret {w W : World} {neg : Bool} {ve : Value} {els : List El} {S : Nat ⊕ (Bool × List El × Nat)} (h : EndW w neg ve els (gotL (setGR S)) W) (hv : ∃ a m c,ve = .slice a m c) (hS : ∀ nb els' j,S = .inr (nb,els',j) → neg = nb ∧ els = els') : SetR w S (.returned (.tuple #[.agg #[.int .i64 91,.bool neg,ve,.int .i64 0,.bool false,.bool false],gotV (setGR S)])) W :=
 ⟨neg,ve,rfl,h.2.2.1,hv,fun nb els' j e => by obtain ⟨h1,h2⟩:=hS nb els' j e; rw [← h2]; exact ⟨h1,h.2.2.2⟩⟩
end Go.Proofs.YtchdeboialbdiaaGreatDoor
