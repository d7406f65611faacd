/- Texts joined, one behind the other (Iter, IterA, SIterG, SFound). -/
import Derived.Test.YtchdeboialbdiaaDoorSk37
import Derived.RangeFuncNested
import Derived.RangeFuncBound
import Derived.RangeFuncCalls
import Derived.RangeFuncLeaves
import Derived.Shelf.Abstract
import Derived.Shelf.RegionOpen
import Derived.OwnWalkIn
import Derived.TacticsInMore
import Derived.LoopNIn
import Derived.LoopIn
import Derived.Scope
/- A range over a function whose iterator keeps state of its own in cells: what the iterator owes, what the caller owes. -/
namespace Go.Proofs.YtchdeboialbdiaaDoor
open Go.RowKit Go.Shelf

/-- the rows that an iterator may turn: its own, from lo up to hi, and from lo on whatever is no cells -/
def MayTurn (lo hi : Nat) (A : World) (row : Option Nat) : Prop := ∀ r, row = some r → lo ≤ r ∧ (r < hi ∨ ∃ o : Obj, A.heap[r]? = some o ∧ o.isCells = false)
def AbidesC {β : Type} (lo hi : Nat) (J : β → World → Prop) : Prop := ∀ s A A' row, J s A → A.grownBy A' row → MayTurn lo hi A row → J s A'
/-- what a round that goes on keeps for its iterator: the rows of K, the iterator's own rows, and from lo on whatever is no cells -/
structure KeepsC (K : Nat → Prop) (lo hi : Nat) (W W' : World) : Prop where
  size : W.heap.size ≤ W'.heap.size
  rows : ∀ r, K r ∨ (lo ≤ r ∧ r < hi) → W'.heap[r]? = W.heap[r]?
  others : ∀ r (o : Obj), lo ≤ r → W.heap[r]? = some o → o.isCells = false → W'.heap[r]? = some o

theorem KeepsC.refl (K : Nat → Prop) (lo hi : Nat) (W : World) : KeepsC K lo hi W W := ⟨Nat.le_refl _, fun _ _ => rfl, fun _ _ _ h _ => h⟩
theorem KeepsC.trans {K : Nat → Prop} {lo hi : Nat} {A B C : World} (h : KeepsC K lo hi A B) (k : KeepsC K lo hi B C) : KeepsC K lo hi A C :=
  ⟨Nat.le_trans h.size k.size, fun r hr => (k.rows r hr).trans (h.rows r hr), fun r o hr ho hc => k.others r o hr (h.others r o hr ho hc) hc⟩
theorem KeepsC.less {K : Nat → Prop} {lo lo' hi : Nat} {A B : World} (h : KeepsC K lo hi A B) (hl : lo ≤ lo') : KeepsC K lo' hi A B :=
  ⟨h.size, fun r hr => h.rows r (hr.imp id (fun h => ⟨by omega, h.2⟩)), fun r o hr ho hc => h.others r o (by omega) ho hc⟩
theorem KeepsC.putObj {K : Nat → Prop} {lo hi : Nat} (W : World) {l : Nat} (o : Obj) (h0 : ¬ K l) (hl : l < lo) : KeepsC K lo hi W (W.putObj l o) :=
  ⟨by simp, fun r hr => World.putObj_heap_other (fun e => by subst e; exact hr.elim h0 (fun h => by omega)), fun r o' hr ho _ => (World.putObj_heap_other (by omega)).trans ho⟩
/-- a step that turns one row of cells of the caller's, or none -/
theorem KeepsC.grown {K : Nat → Prop} {lo hi : Nat} {W W' : World} {row : Option Nat} (hg : W.grownBy W' row) (hn : ∀ r, K r → r < W.heap.size) (hh : hi ≤ W.heap.size) (hr : ∀ r, row = some r → ¬ K r ∧ (r < lo ∨ (hi ≤ r ∧ ∀ o : Obj, W.heap[r]? = some o → o.isCells = true))) : KeepsC K lo hi W W' := by
  refine ⟨hg.size, fun r h => ?_, fun r o hl ho hc => ?_⟩
  · refine hg.block r (h.elim (hn r) (fun h => by omega)) (fun e => ?_)
    obtain ⟨h1, h2⟩ := hr r e.symm
    rcases h with h | h
    · exact h1 h
    · omega
  · refine (hg.block r (Array.getElem?_eq_some_iff.1 ho).1 (fun e => ?_)).trans ho
    obtain ⟨_, h | ⟨_, h⟩⟩ := hr r e.symm
    · omega
    · rw [h o ho] at hc; cases hc

/-- WHAT AN ITERATOR OWES: S: all that comes; Sp: a part that has come when a round has said no more. -/
def SeqC {α : Type} (F : Fence) (n : Nat) (P : Program) (g : Nat) (lb : Array Value) (encs : α → Array Value) (K : Nat → Prop) (w0 : World) (S Sp : List α → Prop) : Prop :=
  ∀ (l : Nat) (J Jx : Nat → List α → World → Prop) (W : World), (∀ r, K r → r < w0.heap.size ∧ W.heap[r]? = w0.heap[r]?) → w0.heap.size ≤ W.heap.size →
    (∀ hi, AbidesC W.heap.size hi (J hi)) → (∀ hi, AbidesC W.heap.size hi (Jx hi)) →
    (∀ hi pre x W1, J hi pre W1 → Sp (pre ++ [x]) → W.heap.size ≤ hi → hi ≤ W1.heap.size → YieldAt F (n - 1) P l (encs x) W1 fun e W' =>
      (e = .returned (.bool true) ∧ J hi (pre ++ [x]) W' ∧ KeepsC K W.heap.size hi W1 W') ∨ (e = .returned (.bool false) ∧ Jx hi (pre ++ [x]) W' ∧ KeepsC K W.heap.size hi W1 W')) →
    (∀ hi, W.heap.size ≤ hi → J hi [] W) →
    CallsIn F n P g (#[.func (.yield l) #[] #[]] ++ lb) W fun e W' => (∃ v, e = .returned v) ∧ ∃ hi, W.heap.size ≤ hi ∧ ((∃ xs, S xs ∧ J hi xs W') ∨ (∃ pre, Sp pre ∧ Jx hi pre W'))

/-- how the body of a round may be left -/
def postC {α : Type} (K : Nat → Prop) (lo hi : Nat) (I : Nat → List α → World → Prop) (Ix : Code → Nat → List α → World → Prop) (xs : List α) (W : World) : Exit → Act → World → Prop
  | .normal, _, W' => KeepsC K lo hi W W' ∧ I hi xs W'
  | .ret, _, W' => KeepsC K lo hi W W' ∧ Ix .ret hi xs W'
  | .exit id, _, W' => KeepsC K lo hi W W' ∧ Ix (.exit id) hi xs W'
  | .goto t, _, W' => KeepsC K lo hi W W' ∧ Ix (.goto t) hi xs W'
  | .panic _, _, _ => False
  | .outgrown, _, _ => False

theorem KeepsC.sub {K K' : Nat → Prop} {lo lo' hi : Nat} {A B : World} (h : KeepsC K lo hi A B) (hl : lo ≤ lo') (hK : ∀ r, K' r → lo ≤ r ∧ r < hi) : KeepsC K' lo' hi A B :=
  ⟨h.size, fun r hr => h.rows r (.inr (hr.elim (hK r) (fun h => ⟨by omega, h.2⟩))), fun r o hr ho hc => h.others r o (by omega) ho hc⟩
theorem RoundIn_any {F : Fence} (hd : F.depth = none) {m m' : Nat} {P : Program} {l l' : Nat} {f : FuncId} {tmps : Array Value} {assign body : Code} {w : World} {R : Ending → World → Prop} (h : RoundIn F m P l f tmps assign body w R) : RoundIn (F.inRound l') m' P l f tmps assign body w R :=
  ⟨h.1, fun c cs _ => h.2 c cs (fun d e => by rw [hd] at e; cases e)⟩
theorem grown_other {W W' : World} {row : Option Nat} {k : Nat} {o : Obj} (hg : W.grownBy W' row) (h : W.heap[k]? = some o) (hk : ∀ r, row = some r → r ≠ k) : W'.heap[k]? = some o :=
  (hg.block k (Array.getElem?_eq_some_iff.1 h).1 (fun e => hk k e.symm rfl)).trans h

variable {F : Fence} {n : Nat} {P : Program}
/-- THE CALLER's LAW. -/
theorem wpIn_rangeFunc_C {α : Type} {g : Operand} {ps : Array Tmp} {assign body : Code} {Q : Exit → Act → World → Prop} {a : Act} {w : World}
    (hro : F.round = none) (h1 : 1 ≤ n) {gf : Nat} {lb : Array Value} (hg : a.eval g = .func (.func gf) #[] lb) (hFg : F.fn gf) (eg : ∀ args w, (callFunc gf args).run P w = .ok (.enter gf args) w)
    {encs : α → Array Value} {K : Nat → Prop} {w0 : World} {S Sp : List α → Prop} (hseq : SeqC F (n - 1) P gf lb encs K w0 S Sp)
    (hb0 : ∀ r, K r → r < w0.heap.size ∧ w.heap[r]? = w0.heap[r]?) (hn0 : w0.heap.size ≤ w.heap.size) (hps : ∀ x, (encs x).size = ps.size)
    (I : Nat → List α → World → Prop) (Ix : Code → Nat → List α → World → Prop)
    (hI : ∀ hi, AbidesC w.heap.size hi (I hi)) (hIx : ∀ c hi, AbidesC w.heap.size hi (Ix c hi))
    (h0 : ∀ hi, w.heap.size ≤ hi → I hi [] w) (a₁ : α → Act)
    (hassign : ∀ (l : Nat) (x : α) (W : World) (Kc : Act → World → Prop), Kc (a₁ x) W →
      assign.wpIn (F.inRound l) (n - 1 - 1) P (Exit.then Kc (fun _ _ _ => False)) { tmps := (ps.zip (encs x)).foldl (fun t (p, v) => t.setIfInBounds p v) a.tmps, defers := [] } W)
    (hbody : ∀ (l hi : Nat) (pre : List α) (x : α) (W : World), w.heap.size + 2 ≤ hi → hi ≤ W.heap.size → Sp (pre ++ [x]) → I hi pre W → body.wpIn (F.inRound l) (n - 1 - 1) P (postC K w.heap.size hi I Ix (pre ++ [x]) W) (a₁ x) W)
    (hdone : ∀ (D hi : Nat) (xs : List α) (W : World), w.heap.size ≤ D → D < hi → S xs → I hi xs W → W.heap[D]? = some (.deferred (some [])) → Q .normal { a with defers := { target := .collected D, args := #[] } :: a.defers } W)
    (hstop : ∀ (D hi : Nat) (c : Code) (pre : List α) (W : World), w.heap.size ≤ D → D < hi → Sp pre → Ix c hi pre W → W.heap[D]? = some (.deferred (some [])) → c.wpIn F n P Q { a with defers := { target := .collected D, args := #[] } :: a.defers } W) :
    (Code.rangeFunc g ps assign body).wpIn F n P Q a w := by
  refine wpIn_rangeFunc ?_
  intro fn hfn
  rw [hro]
  obtain ⟨L, hL⟩ : ∃ L : LoopState → Option Code → Loop, L = fun st pe => { state := st, pending := pe, fn, tmps := a.tmps, params := ps, assign, body, defers := w.heap.size } := ⟨_, rfl⟩
  obtain ⟨s, hs⟩ : ∃ s, s = w.heap.size := ⟨_, rfl⟩
  obtain ⟨W1, hW1⟩ : ∃ W1, W1 = (w.alloc (.deferred (some []))).alloc (.loop (L .ready none)) := ⟨_, rfl⟩
  have z1 : W1.heap.size = s + 2 := by rw [hW1, hs]; simp
  have r1 : W1.heap[s + 1]? = some (.loop (L .ready none)) := by
    rw [hW1, hs]
    have := World.alloc_heap_new (w.alloc (.deferred (some []))) (.loop (L .ready none))
    rwa [World.size_alloc] at this
  have d1 : W1.heap[s]? = some (.deferred (some [])) := by
    rw [hW1, hs]; exact (Below.heap_alloc _ _ _ (by simp)).trans (World.alloc_heap_new w _)
  have turn0 : ∀ (hi : Nat) (A : World), MayTurn w.heap.size hi A none := fun _ _ r e => by cases e
  have i1 : ∀ hi, W1.heap.size ≤ hi → I hi [] W1 := by
    intro hi hh
    rw [hW1]
    exact hI hi _ _ _ none (hI hi _ _ _ none (h0 hi (by omega)) (World.grownBy_alloc w _ none) (turn0 _ _)) (World.grownBy_alloc _ _ none) (turn0 _ _)
  have hKw : ∀ r, K r → r < s := fun r hr => by have := (hb0 r hr).1; omega
  have b1 : ∀ r, K r → r < w0.heap.size ∧ W1.heap[r]? = w0.heap[r]? := fun r hr => by
    refine ⟨(hb0 r hr).1, ?_⟩
    rw [hW1, ← (hb0 r hr).2]
    have := hKw r hr
    exact (Below.heap_alloc _ _ _ (by simp; omega)).trans (Below.heap_alloc _ _ _ (by omega))
  have nK : ¬ K (s + 1) := fun h => by have := hKw _ h; omega
  have step : ∀ {β : Type} {J : β → World → Prop} {hi : Nat}, AbidesC w.heap.size hi J → ∀ s' (A A' : World) (row : Option Nat), J s' A → A.grownBy A' row → MayTurn W1.heap.size hi A row → J s' A' :=
    fun hJ s' A A' row hj hgr hm => hJ s' A A' row hj hgr (fun r e => ⟨by have := (hm r e).1; omega, (hm r e).2⟩)
  have past : ∀ {hi : Nat} {A : World} {row : Option Nat}, MayTurn W1.heap.size hi A row → ∀ k, k < s + 2 → ∀ r, row = some r → r ≠ k := fun hm k hk r e => by have := (hm r e).1; omega
  refine ⟨s + 1, [{ target := .collected s, args := #[] }], W1, { target := .fn (.func gf) lb, args := #[.func (.yield (s + 1)) #[] #[]] }, W1, gf,
    #[.func (.yield (s + 1)) #[] #[]] ++ lb, W1, ?_, ?_, ?_, ?_, fun _ => h1, ?_⟩
  · rw [hW1, hL, hs]; exact run_enterLoop_outer _ _ _ _ _
  · simp only [resolve, hg]
    simp [go_sem]
  · intro f' hf'; simp [Target.leads] at hf'; subst hf'; exact hFg
  · simp [invoke, go_sem, eg]
  · refine (hseq (s + 1)
      (fun hi pre W => I hi pre W ∧ W.heap[s + 1]? = some (.loop (L .ready none)) ∧ W.heap[s]? = some (.deferred (some [])))
      (fun hi pre W => ∃ c, Ix c hi pre W ∧ W.heap[s + 1]? = some (.loop (L .done (some c))) ∧ W.heap[s]? = some (.deferred (some [])))
      W1 b1 (by omega)
      (fun hi p A A' row hj hgr hm => ⟨step (hI hi) p A A' row hj.1 hgr hm, grown_other hgr hj.2.1 (past hm _ (by omega)), grown_other hgr hj.2.2 (past hm _ (by omega))⟩)
      (fun hi p A A' row hj hgr hm => by
        obtain ⟨c, h1, h2, h3⟩ := hj
        exact ⟨c, step (hIx c hi) p A A' row h1 hgr hm, grown_other hgr h2 (past hm _ (by omega)), grown_other hgr h3 (past hm _ (by omega))⟩)
      ?_ (fun hi hh => ⟨i1 hi hh, r1, d1⟩)).mono ?_
    · rintro hi pre x W ⟨hi0, hl, hk⟩ hsp hlo hhi
      have hlt : s + 1 < W.heap.size := (Array.getElem?_eq_some_iff.1 hl).1
      have hy := run_yield (P := P) (args := encs x) hl (by rw [hL]; exact hps x)
      rw [hL] at hy
      refine ⟨fn, _, assign, body, hy, roundIn_of_wpIn hfn (hassign _ x W _ ⟨_, run_beginRound hl (by rw [hL]), ?_⟩)⟩
      obtain ⟨Wb, hWb⟩ : ∃ Wb, Wb = W.putObj (s + 1) (.loop { L .ready none with state := .busy }) := ⟨_, rfl⟩
      have hl2 : Wb.heap[s + 1]? = some (.loop { L .ready none with state := .busy }) := by rw [hWb]; exact World.putObj_heap_same hlt
      have hk2 : Wb.heap[s]? = some (.deferred (some [])) := by rw [hWb]; exact (World.putObj_heap_other (by omega)).trans hk
      have zb : Wb.heap.size = W.heap.size := by rw [hWb]; simp
      have turnL : ∀ (A : World) (o : Obj), A.heap[s + 1]? = some o → o.isCells = false → MayTurn w.heap.size hi A (some (s + 1)) := fun A o ho hc r e => by cases e; exact ⟨by omega, .inr ⟨o, ho, hc⟩⟩
      have hib : I hi pre Wb := by rw [hWb]; exact hI hi _ _ _ _ hi0 (grownBy_putObj' W (s + 1) _) (turnL W _ hl rfl)
      have kb : KeepsC K W1.heap.size hi W Wb := by rw [hWb]; exact KeepsC.putObj W _ nK (by omega)
      have hlo2 : w.heap.size + 2 ≤ hi := by omega
      have hbd := hbody (s + 1) hi pre x Wb hlo2 (by omega) hsp hib
      rw [hWb] at hbd
      refine wpIn_mono hbd ?_
      rw [← hWb]
      have fin : ∀ (jump : Option Code) (W3 : World), KeepsC K w.heap.size hi Wb W3 →
          (Instr.endRound (s + 1) jump).run P W3 = .ok (.bool jump.isNone) (W3.putObj (s + 1) (.loop (L (if jump.isNone then .ready else .done) jump))) ∧
          MayTurn w.heap.size hi W3 (some (s + 1)) ∧
          (W3.putObj (s + 1) (.loop (L (if jump.isNone then .ready else .done) jump))).heap[s + 1]? = some (.loop (L (if jump.isNone then .ready else .done) jump)) ∧
          (W3.putObj (s + 1) (.loop (L (if jump.isNone then .ready else .done) jump))).heap[s]? = some (.deferred (some [])) ∧
          KeepsC K W1.heap.size hi W3 (W3.putObj (s + 1) (.loop (L (if jump.isNone then .ready else .done) jump))) := fun jump W3 hk3 => by
        have hl3 : W3.heap[s + 1]? = some (.loop { L .ready none with state := .busy }) := (hk3.rows _ (.inr ⟨by omega, by omega⟩)).trans hl2
        have hr := run_endRound (P := P) jump hl3
        have e1 : ({ { L .ready none with state := .busy } with state := if jump.isNone then .ready else .done, pending := jump } : Loop) = L (if jump.isNone then .ready else .done) jump := by rw [hL]
        rw [e1] at hr
        exact ⟨hr, turnL W3 _ hl3 rfl, World.putObj_heap_same (Array.getElem?_eq_some_iff.1 hl3).1, (World.putObj_heap_other (by omega)).trans ((hk3.rows _ (.inr ⟨by omega, by omega⟩)).trans hk2), KeepsC.putObj W3 _ nK (by omega)⟩
      rintro e a3 W3 hp
      cases e with
      | normal =>
        obtain ⟨hk3, hi3⟩ := hp
        obtain ⟨hr, ht, hl4, hk4, hk5⟩ := fin none W3 hk3
        exact ⟨_, _, hr, .inl ⟨rfl, ⟨hI hi _ _ _ _ hi3 (grownBy_putObj' W3 (s + 1) _) ht, hl4, hk4⟩, kb.trans ((hk3.less (by omega)).trans hk5)⟩⟩
      | ret =>
        obtain ⟨hk3, hi3⟩ := hp
        obtain ⟨hr, ht, hl4, hk4, hk5⟩ := fin (some .ret) W3 hk3
        exact ⟨_, _, hr, .inr ⟨rfl, ⟨.ret, hIx _ hi _ _ _ _ hi3 (grownBy_putObj' W3 (s + 1) _) ht, hl4, hk4⟩, kb.trans ((hk3.less (by omega)).trans hk5)⟩⟩
      | exit id =>
        obtain ⟨hk3, hi3⟩ := hp
        obtain ⟨hr, ht, hl4, hk4, hk5⟩ := fin (some (.exit id)) W3 hk3
        exact ⟨_, _, hr, .inr ⟨rfl, ⟨.exit id, hIx _ hi _ _ _ _ hi3 (grownBy_putObj' W3 (s + 1) _) ht, hl4, hk4⟩, kb.trans ((hk3.less (by omega)).trans hk5)⟩⟩
      | goto t =>
        obtain ⟨hk3, hi3⟩ := hp
        obtain ⟨hr, ht, hl4, hk4, hk5⟩ := fin (some (.goto t)) W3 hk3
        exact ⟨_, _, hr, .inr ⟨rfl, ⟨.goto t, hIx _ hi _ _ _ _ hi3 (grownBy_putObj' W3 (s + 1) _) ht, hl4, hk4⟩, kb.trans ((hk3.less (by omega)).trans hk5)⟩⟩
      | panic ch => exact hp.elim
      | outgrown => exact hp.elim
    · rintro e W2 ⟨⟨v, rfl⟩, hi, hlo, (⟨xs, hS, hi2, hl, hk⟩ | ⟨pre, hSp, c, hi2, hl, hk⟩)⟩
      · have ht : MayTurn w.heap.size hi W2 (some (s + 1)) := fun r e => by cases e; exact ⟨by omega, .inr ⟨_, hl, rfl⟩⟩
        have hr := run_endLoop (P := P) hl (by rw [hL]; simp)
        obtain ⟨o3, ho3⟩ : ∃ o3 : Obj, o3 = .loop { L .ready none with state := .exhausted } := ⟨_, rfl⟩
        rw [← ho3] at hr
        have e2 : (L .ready none).pending = none := by rw [hL]
        rw [e2] at hr
        refine ⟨none, _, hr, ?_⟩
        have := hdone s hi xs _ (by omega) (by omega) hS (hI hi _ _ _ _ hi2 (grownBy_putObj' W2 (s + 1) o3) ht) ((World.putObj_heap_other (by omega)).trans hk)
        exact this
      · have ht : MayTurn w.heap.size hi W2 (some (s + 1)) := fun r e => by cases e; exact ⟨by omega, .inr ⟨_, hl, rfl⟩⟩
        have hr := run_endLoop (P := P) hl (by rw [hL]; simp)
        obtain ⟨o3, ho3⟩ : ∃ o3 : Obj, o3 = .loop { L .done (some c) with state := .exhausted } := ⟨_, rfl⟩
        rw [← ho3] at hr
        have e2 : (L .done (some c)).pending = some c := by rw [hL]
        rw [e2] at hr
        refine ⟨some c, _, hr, ?_⟩
        exact hstop s hi c pre _ (by omega) (by omega) hSp (hIx c hi _ _ _ _ hi2 (grownBy_putObj' W2 (s + 1) o3) ht) ((World.putObj_heap_other (by omega)).trans hk)
end Go.Proofs.YtchdeboialbdiaaDoor
/- A range over a function whose rounds lay what comes into a new block. -/
namespace Go.Proofs.YtchdeboialbdiaaDoor
open Go.RowKit Go.Shelf
theorem KeepsC.sub2 {K K' : Nat → Prop} {lo lo' hi : Nat} {A B : World} (h : KeepsC K lo hi A B) (hl : lo ≤ lo') (hK : ∀ r, K' r → K r ∨ (lo ≤ r ∧ r < hi)) : KeepsC K' lo' hi A B :=
  ⟨h.size, fun r hr => h.rows r (hr.elim (hK r) (fun h => .inr ⟨by omega, h.2⟩)), fun r o hr ho hc => h.others r o (by omega) ho hc⟩
variable {F : Fence} {n : Nat} {P : Program}
/-- THE CALLER's LAW, where the assignment of a round lays what came into a new block. -/
theorem wpIn_rangeFunc_A {α : Type} {g : Operand} {ps : Array Tmp} {assign body : Code} {Q : Exit → Act → World → Prop} {a : Act} {w : World}
    (hro : F.round = none) (h1 : 1 ≤ n) {gf : Nat} {lb : Array Value} (hg : a.eval g = .func (.func gf) #[] lb) (hFg : F.fn gf) (eg : ∀ args w, (callFunc gf args).run P w = .ok (.enter gf args) w)
    {encs : α → Array Value} {K : Nat → Prop} {w0 : World} {S Sp : List α → Prop} (hseq : SeqC F (n - 1) P gf lb encs K w0 S Sp)
    (hb0 : ∀ r, K r → r < w0.heap.size ∧ w.heap[r]? = w0.heap[r]?) (hn0 : w0.heap.size ≤ w.heap.size) (hps : ∀ x, (encs x).size = ps.size)
    (I : Nat → List α → World → Prop) (Ix : Code → Nat → List α → World → Prop)
    (hI : ∀ hi, AbidesC w.heap.size hi (I hi)) (hIx : ∀ c hi, AbidesC w.heap.size hi (Ix c hi))
    (h0 : ∀ hi, w.heap.size ≤ hi → I hi [] w) (ob : α → Obj) (a₁ : α → Nat → Act)
    (hassign : ∀ (l : Nat) (x : α) (W : World) (Kc : Act → World → Prop), Kc (a₁ x W.heap.size) (W.alloc (ob x)) →
      assign.wpIn (F.inRound l) (n - 1 - 1) P (Exit.then Kc (fun _ _ _ => False)) { tmps := (ps.zip (encs x)).foldl (fun t (p, v) => t.setIfInBounds p v) a.tmps, defers := [] } W)
    (hbody : ∀ (l hi g : Nat) (pre : List α) (x : α) (W : World), w.heap.size + 2 ≤ hi → hi ≤ g → W.heap[g]? = some (ob x) → Sp (pre ++ [x]) → I hi pre W → body.wpIn (F.inRound l) (n - 1 - 1) P (postC K w.heap.size hi I Ix (pre ++ [x]) W) (a₁ x g) W)
    (hdone : ∀ (D hi : Nat) (xs : List α) (W : World), w.heap.size ≤ D → D < hi → S xs → I hi xs W → W.heap[D]? = some (.deferred (some [])) → Q .normal { a with defers := { target := .collected D, args := #[] } :: a.defers } W)
    (hstop : ∀ (D hi : Nat) (c : Code) (pre : List α) (W : World), w.heap.size ≤ D → D < hi → Sp pre → Ix c hi pre W → W.heap[D]? = some (.deferred (some [])) → c.wpIn F n P Q { a with defers := { target := .collected D, args := #[] } :: a.defers } W) :
    (Code.rangeFunc g ps assign body).wpIn F n P Q a w := by
  refine wpIn_rangeFunc ?_
  intro fn hfn
  rw [hro]
  obtain ⟨L, hL⟩ : ∃ L : LoopState → Option Code → Loop, L = fun st pe => { state := st, pending := pe, fn, tmps := a.tmps, params := ps, assign, body, defers := w.heap.size } := ⟨_, rfl⟩
  obtain ⟨s, hs⟩ : ∃ s, s = w.heap.size := ⟨_, rfl⟩
  obtain ⟨W1, hW1⟩ : ∃ W1, W1 = (w.alloc (.deferred (some []))).alloc (.loop (L .ready none)) := ⟨_, rfl⟩
  have z1 : W1.heap.size = s + 2 := by rw [hW1, hs]; simp
  have r1 : W1.heap[s + 1]? = some (.loop (L .ready none)) := by
    rw [hW1, hs]
    have := World.alloc_heap_new (w.alloc (.deferred (some []))) (.loop (L .ready none))
    rwa [World.size_alloc] at this
  have d1 : W1.heap[s]? = some (.deferred (some [])) := by
    rw [hW1, hs]; exact (Below.heap_alloc _ _ _ (by simp)).trans (World.alloc_heap_new w _)
  have turn0 : ∀ (hi : Nat) (A : World), MayTurn w.heap.size hi A none := fun _ _ r e => by cases e
  have i1 : ∀ hi, W1.heap.size ≤ hi → I hi [] W1 := by
    intro hi hh
    rw [hW1]
    exact hI hi _ _ _ none (hI hi _ _ _ none (h0 hi (by omega)) (World.grownBy_alloc w _ none) (turn0 _ _)) (World.grownBy_alloc _ _ none) (turn0 _ _)
  have hKw : ∀ r, K r → r < s := fun r hr => by have := (hb0 r hr).1; omega
  have b1 : ∀ r, K r → r < w0.heap.size ∧ W1.heap[r]? = w0.heap[r]? := fun r hr => by
    refine ⟨(hb0 r hr).1, ?_⟩
    rw [hW1, ← (hb0 r hr).2]
    have := hKw r hr
    exact (Below.heap_alloc _ _ _ (by simp; omega)).trans (Below.heap_alloc _ _ _ (by omega))
  have nK : ¬ K (s + 1) := fun h => by have := hKw _ h; omega
  have step : ∀ {β : Type} {J : β → World → Prop} {hi : Nat}, AbidesC w.heap.size hi J → ∀ s' (A A' : World) (row : Option Nat), J s' A → A.grownBy A' row → MayTurn W1.heap.size hi A row → J s' A' :=
    fun hJ s' A A' row hj hgr hm => hJ s' A A' row hj hgr (fun r e => ⟨by have := (hm r e).1; omega, (hm r e).2⟩)
  have past : ∀ {hi : Nat} {A : World} {row : Option Nat}, MayTurn W1.heap.size hi A row → ∀ k, k < s + 2 → ∀ r, row = some r → r ≠ k := fun hm k hk r e => by have := (hm r e).1; omega
  refine ⟨s + 1, [{ target := .collected s, args := #[] }], W1, { target := .fn (.func gf) lb, args := #[.func (.yield (s + 1)) #[] #[]] }, W1, gf,
    #[.func (.yield (s + 1)) #[] #[]] ++ lb, W1, ?_, ?_, ?_, ?_, fun _ => h1, ?_⟩
  · rw [hW1, hL, hs]; exact run_enterLoop_outer _ _ _ _ _
  · simp only [resolve, hg]
    simp [go_sem]
  · intro f' hf'; simp [Target.leads] at hf'; subst hf'; exact hFg
  · simp [invoke, go_sem, eg]
  · refine (hseq (s + 1)
      (fun hi pre W => I hi pre W ∧ W.heap[s + 1]? = some (.loop (L .ready none)) ∧ W.heap[s]? = some (.deferred (some [])))
      (fun hi pre W => ∃ c, Ix c hi pre W ∧ W.heap[s + 1]? = some (.loop (L .done (some c))) ∧ W.heap[s]? = some (.deferred (some [])))
      W1 b1 (by omega)
      (fun hi p A A' row hj hgr hm => ⟨step (hI hi) p A A' row hj.1 hgr hm, grown_other hgr hj.2.1 (past hm _ (by omega)), grown_other hgr hj.2.2 (past hm _ (by omega))⟩)
      (fun hi p A A' row hj hgr hm => by
        obtain ⟨c, h1, h2, h3⟩ := hj
        exact ⟨c, step (hIx c hi) p A A' row h1 hgr hm, grown_other hgr h2 (past hm _ (by omega)), grown_other hgr h3 (past hm _ (by omega))⟩)
      ?_ (fun hi hh => ⟨i1 hi hh, r1, d1⟩)).mono ?_
    · rintro hi pre x W ⟨hi0, hl, hk⟩ hsp hlo hhi
      have hlt : s + 1 < W.heap.size := (Array.getElem?_eq_some_iff.1 hl).1
      have hy := run_yield (P := P) (args := encs x) hl (by rw [hL]; exact hps x)
      rw [hL] at hy
      have hg0 : W.grownBy (W.alloc (ob x)) none := World.grownBy_alloc W _ none
      have hlA : (W.alloc (ob x)).heap[s + 1]? = some (.loop (L .ready none)) := grown_other hg0 hl (fun r e => by cases e)
      have hkA : (W.alloc (ob x)).heap[s]? = some (.deferred (some [])) := grown_other hg0 hk (fun r e => by cases e)
      have hiA : I hi pre (W.alloc (ob x)) := hI hi _ _ _ none hi0 hg0 (turn0 _ _)
      have hhiA : hi ≤ (W.alloc (ob x)).heap.size := by simp; omega
      have hobA : (W.alloc (ob x)).heap[W.heap.size]? = some (ob x) := World.alloc_heap_new W _
      have kA : KeepsC K W1.heap.size hi W (W.alloc (ob x)) := KeepsC.grown hg0 (fun r hr => by have := hKw r hr; omega) (by omega) (fun r e => by cases e)
      refine ⟨fn, _, assign, body, hy, roundIn_of_wpIn hfn (hassign _ x W _ ⟨_, run_beginRound hlA (by rw [hL]), ?_⟩)⟩
      obtain ⟨WA, hWA⟩ : ∃ WA, WA = W.alloc (ob x) := ⟨_, rfl⟩
      rw [← hWA] at hlA hkA hiA hhiA hobA kA ⊢
      have hltA : s + 1 < WA.heap.size := (Array.getElem?_eq_some_iff.1 hlA).1
      obtain ⟨Wb, hWb⟩ : ∃ Wb, Wb = WA.putObj (s + 1) (.loop { L .ready none with state := .busy }) := ⟨_, rfl⟩
      have hl2 : Wb.heap[s + 1]? = some (.loop { L .ready none with state := .busy }) := by rw [hWb]; exact World.putObj_heap_same hltA
      have hk2 : Wb.heap[s]? = some (.deferred (some [])) := by rw [hWb]; exact (World.putObj_heap_other (by omega)).trans hkA
      have hob2 : Wb.heap[W.heap.size]? = some (ob x) := by rw [hWb]; exact (World.putObj_heap_other (by omega)).trans hobA
      have turnL : ∀ (A : World) (o : Obj), A.heap[s + 1]? = some o → o.isCells = false → MayTurn w.heap.size hi A (some (s + 1)) := fun A o ho hc r e => by cases e; exact ⟨by omega, .inr ⟨o, ho, hc⟩⟩
      have hib : I hi pre Wb := by rw [hWb]; exact hI hi _ _ _ _ hiA (grownBy_putObj' WA (s + 1) _) (turnL WA _ hlA rfl)
      have kb : KeepsC K W1.heap.size hi W Wb := kA.trans (by rw [hWb]; exact KeepsC.putObj WA _ nK (by omega))
      have hlo2 : w.heap.size + 2 ≤ hi := by omega
      have hbd := hbody (s + 1) hi W.heap.size pre x Wb hlo2 hhi hob2 hsp hib
      rw [hWb] at hbd
      refine wpIn_mono hbd ?_
      rw [← hWb]
      have fin : ∀ (jump : Option Code) (W3 : World), KeepsC K w.heap.size hi Wb W3 →
          (Instr.endRound (s + 1) jump).run P W3 = .ok (.bool jump.isNone) (W3.putObj (s + 1) (.loop (L (if jump.isNone then .ready else .done) jump))) ∧
          MayTurn w.heap.size hi W3 (some (s + 1)) ∧
          (W3.putObj (s + 1) (.loop (L (if jump.isNone then .ready else .done) jump))).heap[s + 1]? = some (.loop (L (if jump.isNone then .ready else .done) jump)) ∧
          (W3.putObj (s + 1) (.loop (L (if jump.isNone then .ready else .done) jump))).heap[s]? = some (.deferred (some [])) ∧
          KeepsC K W1.heap.size hi W3 (W3.putObj (s + 1) (.loop (L (if jump.isNone then .ready else .done) jump))) := fun jump W3 hk3 => by
        have hl3 : W3.heap[s + 1]? = some (.loop { L .ready none with state := .busy }) := (hk3.rows _ (.inr ⟨by omega, by omega⟩)).trans hl2
        have hr := run_endRound (P := P) jump hl3
        have e1 : ({ { L .ready none with state := .busy } with state := if jump.isNone then .ready else .done, pending := jump } : Loop) = L (if jump.isNone then .ready else .done) jump := by rw [hL]
        rw [e1] at hr
        exact ⟨hr, turnL W3 _ hl3 rfl, World.putObj_heap_same (Array.getElem?_eq_some_iff.1 hl3).1, (World.putObj_heap_other (by omega)).trans ((hk3.rows _ (.inr ⟨by omega, by omega⟩)).trans hk2), KeepsC.putObj W3 _ nK (by omega)⟩
      rintro e a3 W3 hp
      cases e with
      | normal =>
        obtain ⟨hk3, hi3⟩ := hp
        obtain ⟨hr, ht, hl4, hk4, hk5⟩ := fin none W3 hk3
        exact ⟨_, _, hr, .inl ⟨rfl, ⟨hI hi _ _ _ _ hi3 (grownBy_putObj' W3 (s + 1) _) ht, hl4, hk4⟩, kb.trans ((hk3.less (by omega)).trans hk5)⟩⟩
      | ret =>
        obtain ⟨hk3, hi3⟩ := hp
        obtain ⟨hr, ht, hl4, hk4, hk5⟩ := fin (some .ret) W3 hk3
        exact ⟨_, _, hr, .inr ⟨rfl, ⟨.ret, hIx _ hi _ _ _ _ hi3 (grownBy_putObj' W3 (s + 1) _) ht, hl4, hk4⟩, kb.trans ((hk3.less (by omega)).trans hk5)⟩⟩
      | exit id =>
        obtain ⟨hk3, hi3⟩ := hp
        obtain ⟨hr, ht, hl4, hk4, hk5⟩ := fin (some (.exit id)) W3 hk3
        exact ⟨_, _, hr, .inr ⟨rfl, ⟨.exit id, hIx _ hi _ _ _ _ hi3 (grownBy_putObj' W3 (s + 1) _) ht, hl4, hk4⟩, kb.trans ((hk3.less (by omega)).trans hk5)⟩⟩
      | goto t =>
        obtain ⟨hk3, hi3⟩ := hp
        obtain ⟨hr, ht, hl4, hk4, hk5⟩ := fin (some (.goto t)) W3 hk3
        exact ⟨_, _, hr, .inr ⟨rfl, ⟨.goto t, hIx _ hi _ _ _ _ hi3 (grownBy_putObj' W3 (s + 1) _) ht, hl4, hk4⟩, kb.trans ((hk3.less (by omega)).trans hk5)⟩⟩
      | panic ch => exact hp.elim
      | outgrown => exact hp.elim
    · rintro e W2 ⟨⟨v, rfl⟩, hi, hlo, (⟨xs, hS, hi2, hl, hk⟩ | ⟨pre, hSp, c, hi2, hl, hk⟩)⟩
      · have ht : MayTurn w.heap.size hi W2 (some (s + 1)) := fun r e => by cases e; exact ⟨by omega, .inr ⟨_, hl, rfl⟩⟩
        have hr := run_endLoop (P := P) hl (by rw [hL]; simp)
        obtain ⟨o3, ho3⟩ : ∃ o3 : Obj, o3 = .loop { L .ready none with state := .exhausted } := ⟨_, rfl⟩
        rw [← ho3] at hr
        have e2 : (L .ready none).pending = none := by rw [hL]
        rw [e2] at hr
        refine ⟨none, _, hr, ?_⟩
        have := hdone s hi xs _ (by omega) (by omega) hS (hI hi _ _ _ _ hi2 (grownBy_putObj' W2 (s + 1) o3) ht) ((World.putObj_heap_other (by omega)).trans hk)
        exact this
      · have ht : MayTurn w.heap.size hi W2 (some (s + 1)) := fun r e => by cases e; exact ⟨by omega, .inr ⟨_, hl, rfl⟩⟩
        have hr := run_endLoop (P := P) hl (by rw [hL]; simp)
        obtain ⟨o3, ho3⟩ : ∃ o3 : Obj, o3 = .loop { L .done (some c) with state := .exhausted } := ⟨_, rfl⟩
        rw [← ho3] at hr
        have e2 : (L .done (some c)).pending = some c := by rw [hL]
        rw [e2] at hr
        refine ⟨some c, _, hr, ?_⟩
        exact hstop s hi c pre _ (by omega) (by omega) hSp (hIx c hi _ _ _ _ hi2 (grownBy_putObj' W2 (s + 1) o3) ht) ((World.putObj_heap_other (by omega)).trans hk)
end Go.Proofs.YtchdeboialbdiaaDoor
/- Iterators: generic words. -/
namespace Go.Proofs.YtchdeboialbdiaaDoor
set_option linter.unusedVariables false
set_option linter.unusedSimpArgs false
open Go.RowKit Go.Shelf
open Go.Lib hiding intOf
attribute [local go_sem] Oper.semAt_some
section
variable {F : Fence} {n : Nat} {P : Program} {b : Frame} {a : Act} {k : List Item} {cs : List Frame} {w : World} {Q : Exit → Act → World → Prop}
end
theorem row_rows {b t : Nat} {xs : List Value} {W W' : World} (h : Row W b t xs) (hk : W'.heap[b]? = W.heap[b]?) : Row W' b t xs := hk.trans h
theorem below_other {W W' : World} (h : Below W.heap.size W W') : W.grownBy W' none := ⟨h.os, h.tape, h.output, h.size, fun k hk _ => h.block k hk⟩
theorem KeepsC.below {K : Nat → Prop} {lo hi : Nat} {W W' : World} (h : Below W.heap.size W W') (hn : ∀ r, K r → r < W.heap.size) (hh : hi ≤ W.heap.size) : KeepsC K lo hi W W' :=
  KeepsC.grown (below_other h) hn hh (fun r e => by cases e)
/-- what holds as long as the rows of K stay -/
def Stays (K : Nat → Prop) (w0 : World) (P : World → Prop) : Prop := ∀ W, (∀ r, K r → W.heap[r]? = w0.heap[r]?) → w0.heap.size ≤ W.heap.size → P W
theorem Stays.next {K : Nat → Prop} {w0 W W' : World} {P : World → Prop} (h : Stays K w0 P) {lo hi : Nat} (hW : ∀ r, K r → W.heap[r]? = w0.heap[r]?) (hs : w0.heap.size ≤ W.heap.size) (hk : KeepsC K lo hi W W') : P W' :=
  h W' (fun r hr => (hk.rows r (.inl hr)).trans (hW r hr)) (Nat.le_trans hs hk.size)
end Go.Proofs.YtchdeboialbdiaaDoor
/- The pieces, by the numbers of their places: the program's found. -/
namespace Go.Proofs.YtchdeboialbdiaaDoor
set_option linter.unusedVariables false
set_option linter.unusedSimpArgs false
open Go.RowKit Go.Shelf
open Go.Lib hiding intOf
attribute [local go_sem] Oper.semAt_some
attribute [local go_sem] Exit.noGoto
theorem PatIs.rows {w W : World} {g : Nat} {l : List UInt8} {fo : Bool} {its : List Itm} (h : PatIs w g l fo its) (hr : ∀ r, r < w.heap.size → W.heap[r]? = w.heap[r]?) (hs : w.heap.size ≤ W.heap.size) : PatIs W g l fo its := by
  obtain ⟨v, L, B, h1, h2, h3⟩ := h
  refine ⟨v, L, B, row_rows h1 (hr g h1.lt), h2, ?_, fun q hq => ?_⟩
  · obtain ⟨ho, h4⟩ := h3.1
    refine ⟨ho, ?_⟩
    rcases h4 with h4 | ⟨b, cap, cur, h5, h6, h7, h8⟩
    · exact .inl h4
    · exact .inr ⟨b, cap, cur, h5, h6, (hr b (Array.getElem?_eq_some_iff.1 h7).1).trans h7, h8⟩
  · rcases h3.2 q hq with h | ⟨h, K, hk, ha, hF⟩
    · exact .inl h
    · exact .inr ⟨h, K, hk, ha, hF.keep (fun k hk2 => hr k (hF.1 k hk2)) hs⟩
theorem ReadsTok.rows {w W : World} {a : Option Addr} {n : Nat} {V : List Nat} (h : ReadsTok w a n V) (hr : ∀ r, r < w.heap.size → W.heap[r]? = w.heap[r]?) (hs : w.heap.size ≤ W.heap.size) : ReadsTok W a n V := by
  obtain ⟨hl, h⟩ := h
  refine ⟨hl, fun hn => ?_⟩
  obtain ⟨b, off, ha, hlt, hc⟩ := h hn
  refine ⟨b, off, ha, Nat.lt_of_lt_of_le hlt hs, fun i v hv => ?_⟩
  obtain ⟨h1, h2⟩ := hc i v hv
  exact ⟨(World.cell?_of_block (a := ⟨b, off + i * 2, none⟩) (hr b hlt)).trans h1, (World.cell?_of_block (a := ⟨b, off + i * 2 + 1, none⟩) (hr b hlt)).trans h2⟩
/-- what found's closure holds -/
def FoW (bt bp g : Nat) (lp : List UInt8) (fo : Bool) (its : List Itm) (a : Option Addr) (n c : Nat) (a2 : Option Addr) (c2 : Nat) (V : List Nat) (W : World) : Prop :=
  PatIs W g lp fo its ∧ Row W bt 96 [.slice a n c, .slice a2 (n + 1) c2] ∧ ReadsTok W a n V ∧ Row W bp 24 [.pointer (some ⟨g, 0, none⟩)]
def twoV (x : Nat × Nat) : Array Value := #[.int .i64 (x.1 : Int), .int .i64 (x.2 : Int)]
set_option maxHeartbeats 4000000 in
set_option maxRecDepth 100000 in
theorem found1 (m : Nat) (hm : 1 ≤ m) (K : Nat → Prop) (w0 : World) (bt bp g : Nat) (lp : List UInt8) (fo : Bool) (its : List Itm) (a a2 : Option Addr) (n c c2 : Nat) (V : List Nat) (hK : Stays K w0 (FoW bt bp g lp fo its a n c a2 c2 V)) (hV : OkV V) (hn : V.length = n) (hnb : n ≤ 67108000) (hl : its.length ≤ 67108864) :
    SeqC Fence.wide m Tryd.prog 64 #[.pointer (some ⟨bt, 0, none⟩), .pointer (some ⟨bp, 0, none⟩)] twoV K w0 (fun xs => xs = allGo fo V its n (n + 1) 0) (fun pre => pre <+: allGo fo V its n (n + 1) 0) := by
  intro l0 J Jx W hW hn0 hJ hJx hY h0
  obtain ⟨T, hT⟩ : ∃ T, allGo fo V its n (n + 1) 0 = T := ⟨_, rfl⟩
  rw [hT] at hY ⊢
  have HT := Lib.hid hT
  obtain ⟨hi, hhi⟩ : ∃ hi, hi = W.heap.size := ⟨_, rfl⟩
  have HN := Lib.hid hn
  have HOK := Lib.hid hV
  have HKL : Hid (∀ r, K r → r < W.heap.size) := Lib.hid (fun r hr => by have := (hW r hr).1; omega)
  have HKW : Hid (∀ lo hi W', KeepsC K lo hi W W' → FoW bt bp g lp fo its a n c a2 c2 V W') := Lib.hid (fun lo hi W' hk => hK.next (fun r hr => (hW r hr).2) hn0 hk)
  have HJ := Lib.hid (h0 hi (by omega))
  have HJA := Lib.hid (hJ hi)
  have HY := Lib.hid hY
  have HH := Lib.hid hhi
  clear hY h0 hJ hJx hW hn0 hK hhi hT hn hV
  refine callsIn_of_wp Tryd.func64 rfl trivial ?_ rfl
  simp only [Tryd.ntmps64, List.size_toArray, List.length_cons, List.length_nil, Nat.reduceAdd, Nat.reduceSub, Array.replicate_succ, Array.replicate_zero, List.push_toArray, List.append_toArray, List.nil_append, List.cons_append]
  gi_wp2
  gi_loopw [4] (fun ui wr => ∃ k f : Nat, ∃ acc : List (Nat × Nat), ui = .int .i64 (k : Int) ∧ k ≤ n + 1 ∧ n < k + f ∧ Hid (acc ++ allGo fo V its n f k = T ∧ J hi acc wr ∧ KeepsC K W.heap.size hi W wr)) (fun ui _ => n + 1 - (RowKit.intOf ui).toNat)
  case atStart => exact ⟨0, n + 1, [], rfl, Nat.zero_le _, by omega, Lib.hid ⟨HT.out, HJ.out, KeepsC.refl _ _ _ _⟩⟩
  case round =>
    obtain ⟨k, f, acc, rfl, hk, hkf, HR⟩ := hrel
    have hF := HKW.out _ _ wr HR.out.2.2
    have t0 := hF.2.1.cell 0
    have t1 := hF.2.1.cell 1
    have t2 := hF.2.1.lt
    have p0 := hF.2.2.2.cell 0
    have p1 := hF.2.2.2.lt
    have HF := Lib.hid hF
    clear hF
    by_cases hlt : k < n + 1
    · obtain ⟨f, rfl⟩ : ∃ f', f = f' + 1 := ⟨f - 1, by omega⟩
      have hki1 : (k : Int) < (n : Int) + 1 := by omega
      have hM := matchC wr g lp fo its a a2 n c (n + 1) c2 V k HF.out.1 HF.out.2.2.1 HOK.out (by omega) (by omega) hl
      have hT1 := HR.out.1
      cases hlo : longestP fo V its k with
      | none =>
        rw [hlo] at hM
        rw [allGo_none (by omega) hlo] at hT1
        have HM : Hid (Calls Tryd.prog 40 #[.pointer (some ⟨g, 0, none⟩), .agg #[.slice a n c, .slice a2 (n + 1) c2], .int .i64 (k : Int)] wr fun e w' => e = .returned (.int .i64 (-1)) ∧ Below wr.heap.size wr w') := Lib.hid hM
        have HT1 := Lib.hid hT1
        clear hM hT1 hlo
        gi_wp2_with (refine ⟨trivial, ?_⟩; gi_at_call 40; refine (callsIn_wide.2 HM.out).mono ?_; rintro e w5 ⟨rfl, hb5⟩; have HB5 := Lib.hid hb5; clear hb5)
        have HNX : Hid (acc ++ allGo fo V its n f (k + 1) = T ∧ J hi acc w5 ∧ KeepsC K W.heap.size hi W w5) := Lib.hid ⟨HT1.out, HJA.out _ _ _ none HR.out.2.1 (below_other HB5.out) (fun r e => by cases e), HR.out.2.2.trans (KeepsC.below HB5.out (fun r hr => Nat.lt_of_lt_of_le (HKL.out r hr) HR.out.2.2.size) (by rw [HH.out]; exact HR.out.2.2.size))⟩
        go_roundw
        case rel => exact ⟨k + 1, f, acc, by go_num, by omega, by omega, HNX⟩
        case measure => simp [RowKit.intOf]; omega
      | some j =>
        rw [hlo] at hM
        rw [allGo_some (by omega) hlo] at hT1
        have hjn : j ≤ n := by have := longest_le hlo; have := HN.out; omega
        have HM : Hid (Calls Tryd.prog 40 #[.pointer (some ⟨g, 0, none⟩), .agg #[.slice a n c, .slice a2 (n + 1) c2], .int .i64 (k : Int)] wr fun e w' => e = .returned (.int .i64 (j : Int)) ∧ Below wr.heap.size wr w') := Lib.hid hM
        have HT1 := Lib.hid hT1
        have hj0 : ¬ (j : Int) < 0 := by omega
        clear hM hT1 hlo
        gi_wp2_with (refine ⟨trivial, ?_⟩; gi_at_call 40; refine (callsIn_wide.2 HM.out).mono ?_; rintro e w5 ⟨rfl, hb5⟩; have HB5 := Lib.hid hb5; clear hb5)
        have HPR : Hid (acc ++ [(k, j)] <+: T) := Lib.hid (by rw [← HT1.out]; exact ⟨_, by rw [List.append_assoc]; rfl⟩)
        have HR1 : Hid (J hi acc w5 ∧ KeepsC K W.heap.size hi W w5) := Lib.hid ⟨HJA.out _ _ _ none HR.out.2.1 (below_other HB5.out) (fun r e => by cases e), HR.out.2.2.trans (KeepsC.below HB5.out (fun r hr => Nat.lt_of_lt_of_le (HKL.out r hr) HR.out.2.2.size) (by rw [HH.out]; exact HR.out.2.2.size))⟩
        obtain ⟨fn, tmps, assign, body, hy, hR⟩ := HY.out hi acc (k, j) w5 HR1.out.1 HPR.out (by rw [HH.out]; exact Nat.le_refl _) (by rw [HH.out]; exact HR1.out.2.size)
        have HRD := Lib.hid hR
        unfold twoV at hy
        dsimp only at hy
        clear hR
        have HMZ : Hid (acc ++ (k, j) :: allGo fo V its n f (max (k + 1) j) = T) := HT1
        have hmz1 : k + 1 ≤ max (k + 1) j := Nat.le_max_left _ _
        have hmz2 : max (k + 1) j ≤ n + 1 := Nat.max_le.2 ⟨by omega, by omega⟩
        obtain ⟨mz, hmz⟩ : ∃ mz, max (k + 1) j = mz := ⟨_, rfl⟩
        rw [hmz] at HMZ hmz1 hmz2
        have hmx : max (k : Int) ((j : Int) - 1) = (mz : Int) - 1 := by omega
        clear hmz
        gi_wp2
        rw [hy]
        gi_wp2
        refine HRD.out.mono ?_
        clear HRD hy
        rintro e W3 (⟨rfl, hJ3, hk3⟩ | ⟨rfl, hJx3, _⟩)
        · have HNX : Hid ((acc ++ [(k, j)]) ++ allGo fo V its n f mz = T ∧ J hi (acc ++ [(k, j)]) W3 ∧ KeepsC K W.heap.size hi W W3) := Lib.hid ⟨by rw [← HMZ.out, List.append_assoc]; rfl, hJ3, HR1.out.2.trans hk3⟩
          clear hJ3 hk3
          gi_wp2
          go_roundw
          case rel => exact ⟨mz, f, acc ++ [(k, j)], by go_num, by omega, by omega, HNX⟩
          case measure => simp [RowKit.intOf]; omega
        · have HX3 := Lib.hid hJx3
          clear hJx3
          gi_wp2
          refine bodyPost_ret (results_none rfl _ _ _) rfl ?_
          exact ⟨⟨_, rfl⟩, hi, by rw [HH.out]; exact Nat.le_refl _, .inr ⟨_, HPR.out, HX3.out⟩⟩
    · obtain rfl : k = n + 1 := by omega
      have hT1 := HR.out.1
      rw [allGo_end (by omega), List.append_nil] at hT1
      have HT1 := Lib.hid hT1
      have hki1 : ¬ ((n + 1 : Nat) : Int) < ((n + 1 : Nat) : Int) := by omega
      clear hT1
      gi_wp2
      go_end0
      exact ⟨⟨_, rfl⟩, hi, by rw [HH.out]; exact Nat.le_refl _, .inl (by rw [← HT1.out]; exact HR.out.2.1)⟩
end Go.Proofs.YtchdeboialbdiaaDoor
