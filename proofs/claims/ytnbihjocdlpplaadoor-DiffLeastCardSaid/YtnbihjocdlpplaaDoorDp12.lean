/- Texts joined, one behind the other (IterA, RoundR, DSplitC). -/
import Derived.Test.YtnbihjocdlpplaaDoorDp11
import Derived.OrdersHeld
import Derived.RegionIn
import Derived.Deep.RegionHeld
/- A range over a function whose rounds lay what comes into a new block. -/
namespace Go.Proofs.YtnbihjocdlpplaaDoor
open Go.RowKit Go.Shelf
theorem KeepsC.sub2 {K K' : Nat → Prop} {lo lo' hi : Nat} {A B : World} (h : KeepsC K lo hi A B) (hl : lo ≤ lo') (hK : ∀ r, K' r → K r ∨ (lo ≤ r ∧ r < hi)) : KeepsC K' lo' hi A B :=
  ⟨h.size, fun r hr => h.rows r (hr.elim (hK r) (fun h => .inr ⟨by omega, h.2⟩)), fun r o hr ho hc => h.others r o (by omega) ho hc⟩
variable {F : Fence} {n : Nat} {P : Program}
/-- THE CALLER's LAW, where the assignment of a round lays what came into a new block. -/
theorem wpIn_rangeFunc_A {α : Type} {g : Operand} {ps : Array Tmp} {assign body : Code} {Q : Exit → Act → World → Prop} {a : Act} {w : World}
    (hro : F.round = none) (h1 : 1 ≤ n) {gf : Nat} {lb : Array Value} (hg : a.eval g = .func (.func gf) #[] lb) (hFg : F.fn gf) (eg : ∀ args w, (callFunc gf args).run P w = .ok (.enter gf args) w)
    {encs : α → Array Value} {K : Nat → Prop} {w0 : World} {S Sp : List α → Prop} (hseq : SeqC F (n - 1) P gf lb encs K w0 S Sp)
    (hb0 : ∀ r, K r → r < w0.heap.size ∧ w.heap[r]? = w0.heap[r]?) (hn0 : w0.heap.size ≤ w.heap.size) (hps : ∀ x, (encs x).size = ps.size)
    (I : Nat → List α → World → Prop) (Ix : Code → Nat → List α → World → Prop)
    (hI : ∀ hi, AbidesC w.heap.size hi (I hi)) (hIx : ∀ c hi, AbidesC w.heap.size hi (Ix c hi))
    (h0 : ∀ hi, w.heap.size ≤ hi → I hi [] w) (ob : α → Obj) (a₁ : α → Nat → Act)
    (hassign : ∀ (l : Nat) (x : α) (W : World) (Kc : Act → World → Prop), Kc (a₁ x W.heap.size) (W.alloc (ob x)) →
      assign.wpIn (F.inRound l) (n - 1 - 1) P (Exit.then Kc (fun _ _ _ => False)) { tmps := (ps.zip (encs x)).foldl (fun t (p, v) => t.setIfInBounds p v) a.tmps, defers := [] } W)
    (hbody : ∀ (l hi g : Nat) (pre : List α) (x : α) (W : World), w.heap.size + 2 ≤ hi → hi ≤ g → W.heap[g]? = some (ob x) → Sp (pre ++ [x]) → I hi pre W → body.wpIn (F.inRound l) (n - 1 - 1) P (postC K w.heap.size hi I Ix (pre ++ [x]) W) (a₁ x g) W)
    (hdone : ∀ (D hi : Nat) (xs : List α) (W : World), w.heap.size ≤ D → D < hi → S xs → I hi xs W → W.heap[D]? = some (.deferred (some [])) → Q .normal { a with defers := { target := .collected D, args := #[] } :: a.defers } W)
    (hstop : ∀ (D hi : Nat) (c : Code) (pre : List α) (W : World), w.heap.size ≤ D → D < hi → Sp pre → Ix c hi pre W → W.heap[D]? = some (.deferred (some [])) → c.wpIn F n P Q { a with defers := { target := .collected D, args := #[] } :: a.defers } W) :
    (Code.rangeFunc g ps assign body).wpIn F n P Q a w := by
  refine wpIn_rangeFunc ?_
  intro fn hfn
  rw [hro]
  obtain ⟨L, hL⟩ : ∃ L : LoopState → Option Code → Loop, L = fun st pe => { state := st, pending := pe, fn, tmps := a.tmps, params := ps, assign, body, defers := w.heap.size } := ⟨_, rfl⟩
  obtain ⟨s, hs⟩ : ∃ s, s = w.heap.size := ⟨_, rfl⟩
  obtain ⟨W1, hW1⟩ : ∃ W1, W1 = (w.alloc (.deferred (some []))).alloc (.loop (L .ready none)) := ⟨_, rfl⟩
  have z1 : W1.heap.size = s + 2 := by rw [hW1, hs]; simp
  have r1 : W1.heap[s + 1]? = some (.loop (L .ready none)) := by
    rw [hW1, hs]
    have := World.alloc_heap_new (w.alloc (.deferred (some []))) (.loop (L .ready none))
    rwa [World.size_alloc] at this
  have d1 : W1.heap[s]? = some (.deferred (some [])) := by
    rw [hW1, hs]; exact (Below.heap_alloc _ _ _ (by simp)).trans (World.alloc_heap_new w _)
  have turn0 : ∀ (hi : Nat) (A : World), MayTurn w.heap.size hi A none := fun _ _ r e => by cases e
  have i1 : ∀ hi, W1.heap.size ≤ hi → I hi [] W1 := by
    intro hi hh
    rw [hW1]
    exact hI hi _ _ _ none (hI hi _ _ _ none (h0 hi (by omega)) (World.grownBy_alloc w _ none) (turn0 _ _)) (World.grownBy_alloc _ _ none) (turn0 _ _)
  have hKw : ∀ r, K r → r < s := fun r hr => by have := (hb0 r hr).1; omega
  have b1 : ∀ r, K r → r < w0.heap.size ∧ W1.heap[r]? = w0.heap[r]? := fun r hr => by
    refine ⟨(hb0 r hr).1, ?_⟩
    rw [hW1, ← (hb0 r hr).2]
    have := hKw r hr
    exact (Below.heap_alloc _ _ _ (by simp; omega)).trans (Below.heap_alloc _ _ _ (by omega))
  have nK : ¬ K (s + 1) := fun h => by have := hKw _ h; omega
  have step : ∀ {β : Type} {J : β → World → Prop} {hi : Nat}, AbidesC w.heap.size hi J → ∀ s' (A A' : World) (row : Option Nat), J s' A → A.grownBy A' row → MayTurn W1.heap.size hi A row → J s' A' :=
    fun hJ s' A A' row hj hgr hm => hJ s' A A' row hj hgr (fun r e => ⟨by have := (hm r e).1; omega, (hm r e).2⟩)
  have past : ∀ {hi : Nat} {A : World} {row : Option Nat}, MayTurn W1.heap.size hi A row → ∀ k, k < s + 2 → ∀ r, row = some r → r ≠ k := fun hm k hk r e => by have := (hm r e).1; omega
  refine ⟨s + 1, [{ target := .collected s, args := #[] }], W1, { target := .fn (.func gf) lb, args := #[.func (.yield (s + 1)) #[] #[]] }, W1, gf,
    #[.func (.yield (s + 1)) #[] #[]] ++ lb, W1, ?_, ?_, ?_, ?_, fun _ => h1, ?_⟩
  · rw [hW1, hL, hs]; exact run_enterLoop_outer _ _ _ _ _
  · simp only [resolve, hg]
    simp [go_sem]
  · intro f' hf'; simp [Target.leads] at hf'; subst hf'; exact hFg
  · simp [invoke, go_sem, eg]
  · refine (hseq (s + 1)
      (fun hi pre W => I hi pre W ∧ W.heap[s + 1]? = some (.loop (L .ready none)) ∧ W.heap[s]? = some (.deferred (some [])))
      (fun hi pre W => ∃ c, Ix c hi pre W ∧ W.heap[s + 1]? = some (.loop (L .done (some c))) ∧ W.heap[s]? = some (.deferred (some [])))
      W1 b1 (by omega)
      (fun hi p A A' row hj hgr hm => ⟨step (hI hi) p A A' row hj.1 hgr hm, grown_other hgr hj.2.1 (past hm _ (by omega)), grown_other hgr hj.2.2 (past hm _ (by omega))⟩)
      (fun hi p A A' row hj hgr hm => by
        obtain ⟨c, h1, h2, h3⟩ := hj
        exact ⟨c, step (hIx c hi) p A A' row h1 hgr hm, grown_other hgr h2 (past hm _ (by omega)), grown_other hgr h3 (past hm _ (by omega))⟩)
      ?_ (fun hi hh => ⟨i1 hi hh, r1, d1⟩)).mono ?_
    · rintro hi pre x W ⟨hi0, hl, hk⟩ hsp hlo hhi
      have hlt : s + 1 < W.heap.size := (Array.getElem?_eq_some_iff.1 hl).1
      have hy := run_yield (P := P) (args := encs x) hl (by rw [hL]; exact hps x)
      rw [hL] at hy
      have hg0 : W.grownBy (W.alloc (ob x)) none := World.grownBy_alloc W _ none
      have hlA : (W.alloc (ob x)).heap[s + 1]? = some (.loop (L .ready none)) := grown_other hg0 hl (fun r e => by cases e)
      have hkA : (W.alloc (ob x)).heap[s]? = some (.deferred (some [])) := grown_other hg0 hk (fun r e => by cases e)
      have hiA : I hi pre (W.alloc (ob x)) := hI hi _ _ _ none hi0 hg0 (turn0 _ _)
      have hhiA : hi ≤ (W.alloc (ob x)).heap.size := by simp; omega
      have hobA : (W.alloc (ob x)).heap[W.heap.size]? = some (ob x) := World.alloc_heap_new W _
      have kA : KeepsC K W1.heap.size hi W (W.alloc (ob x)) := KeepsC.grown hg0 (fun r hr => by have := hKw r hr; omega) (by omega) (fun r e => by cases e)
      refine ⟨fn, _, assign, body, hy, roundIn_of_wpIn hfn (hassign _ x W _ ⟨_, run_beginRound hlA (by rw [hL]), ?_⟩)⟩
      obtain ⟨WA, hWA⟩ : ∃ WA, WA = W.alloc (ob x) := ⟨_, rfl⟩
      rw [← hWA] at hlA hkA hiA hhiA hobA kA ⊢
      have hltA : s + 1 < WA.heap.size := (Array.getElem?_eq_some_iff.1 hlA).1
      obtain ⟨Wb, hWb⟩ : ∃ Wb, Wb = WA.putObj (s + 1) (.loop { L .ready none with state := .busy }) := ⟨_, rfl⟩
      have hl2 : Wb.heap[s + 1]? = some (.loop { L .ready none with state := .busy }) := by rw [hWb]; exact World.putObj_heap_same hltA
      have hk2 : Wb.heap[s]? = some (.deferred (some [])) := by rw [hWb]; exact (World.putObj_heap_other (by omega)).trans hkA
      have hob2 : Wb.heap[W.heap.size]? = some (ob x) := by rw [hWb]; exact (World.putObj_heap_other (by omega)).trans hobA
      have turnL : ∀ (A : World) (o : Obj), A.heap[s + 1]? = some o → o.isCells = false → MayTurn w.heap.size hi A (some (s + 1)) := fun A o ho hc r e => by cases e; exact ⟨by omega, .inr ⟨o, ho, hc⟩⟩
      have hib : I hi pre Wb := by rw [hWb]; exact hI hi _ _ _ _ hiA (grownBy_putObj' WA (s + 1) _) (turnL WA _ hlA rfl)
      have kb : KeepsC K W1.heap.size hi W Wb := kA.trans (by rw [hWb]; exact KeepsC.putObj WA _ nK (by omega))
      have hlo2 : w.heap.size + 2 ≤ hi := by omega
      have hbd := hbody (s + 1) hi W.heap.size pre x Wb hlo2 hhi hob2 hsp hib
      rw [hWb] at hbd
      refine wpIn_mono hbd ?_
      rw [← hWb]
      have fin : ∀ (jump : Option Code) (W3 : World), KeepsC K w.heap.size hi Wb W3 →
          (Instr.endRound (s + 1) jump).run P W3 = .ok (.bool jump.isNone) (W3.putObj (s + 1) (.loop (L (if jump.isNone then .ready else .done) jump))) ∧
          MayTurn w.heap.size hi W3 (some (s + 1)) ∧
          (W3.putObj (s + 1) (.loop (L (if jump.isNone then .ready else .done) jump))).heap[s + 1]? = some (.loop (L (if jump.isNone then .ready else .done) jump)) ∧
          (W3.putObj (s + 1) (.loop (L (if jump.isNone then .ready else .done) jump))).heap[s]? = some (.deferred (some [])) ∧
          KeepsC K W1.heap.size hi W3 (W3.putObj (s + 1) (.loop (L (if jump.isNone then .ready else .done) jump))) := fun jump W3 hk3 => by
        have hl3 : W3.heap[s + 1]? = some (.loop { L .ready none with state := .busy }) := (hk3.rows _ (.inr ⟨by omega, by omega⟩)).trans hl2
        have hr := run_endRound (P := P) jump hl3
        have e1 : ({ { L .ready none with state := .busy } with state := if jump.isNone then .ready else .done, pending := jump } : Loop) = L (if jump.isNone then .ready else .done) jump := by rw [hL]
        rw [e1] at hr
        exact ⟨hr, turnL W3 _ hl3 rfl, World.putObj_heap_same (Array.getElem?_eq_some_iff.1 hl3).1, (World.putObj_heap_other (by omega)).trans ((hk3.rows _ (.inr ⟨by omega, by omega⟩)).trans hk2), KeepsC.putObj W3 _ nK (by omega)⟩
      rintro e a3 W3 hp
      cases e with
      | normal =>
        obtain ⟨hk3, hi3⟩ := hp
        obtain ⟨hr, ht, hl4, hk4, hk5⟩ := fin none W3 hk3
        exact ⟨_, _, hr, .inl ⟨rfl, ⟨hI hi _ _ _ _ hi3 (grownBy_putObj' W3 (s + 1) _) ht, hl4, hk4⟩, kb.trans ((hk3.less (by omega)).trans hk5)⟩⟩
      | ret =>
        obtain ⟨hk3, hi3⟩ := hp
        obtain ⟨hr, ht, hl4, hk4, hk5⟩ := fin (some .ret) W3 hk3
        exact ⟨_, _, hr, .inr ⟨rfl, ⟨.ret, hIx _ hi _ _ _ _ hi3 (grownBy_putObj' W3 (s + 1) _) ht, hl4, hk4⟩, kb.trans ((hk3.less (by omega)).trans hk5)⟩⟩
      | exit id =>
        obtain ⟨hk3, hi3⟩ := hp
        obtain ⟨hr, ht, hl4, hk4, hk5⟩ := fin (some (.exit id)) W3 hk3
        exact ⟨_, _, hr, .inr ⟨rfl, ⟨.exit id, hIx _ hi _ _ _ _ hi3 (grownBy_putObj' W3 (s + 1) _) ht, hl4, hk4⟩, kb.trans ((hk3.less (by omega)).trans hk5)⟩⟩
      | goto t =>
        obtain ⟨hk3, hi3⟩ := hp
        obtain ⟨hr, ht, hl4, hk4, hk5⟩ := fin (some (.goto t)) W3 hk3
        exact ⟨_, _, hr, .inr ⟨rfl, ⟨.goto t, hIx _ hi _ _ _ _ hi3 (grownBy_putObj' W3 (s + 1) _) ht, hl4, hk4⟩, kb.trans ((hk3.less (by omega)).trans hk5)⟩⟩
      | panic ch => exact hp.elim
      | outgrown => exact hp.elim
    · rintro e W2 ⟨⟨v, rfl⟩, hi, hlo, (⟨xs, hS, hi2, hl, hk⟩ | ⟨pre, hSp, c, hi2, hl, hk⟩)⟩
      · have ht : MayTurn w.heap.size hi W2 (some (s + 1)) := fun r e => by cases e; exact ⟨by omega, .inr ⟨_, hl, rfl⟩⟩
        have hr := run_endLoop (P := P) hl (by rw [hL]; simp)
        obtain ⟨o3, ho3⟩ : ∃ o3 : Obj, o3 = .loop { L .ready none with state := .exhausted } := ⟨_, rfl⟩
        rw [← ho3] at hr
        have e2 : (L .ready none).pending = none := by rw [hL]
        rw [e2] at hr
        refine ⟨none, _, hr, ?_⟩
        have := hdone s hi xs _ (by omega) (by omega) hS (hI hi _ _ _ _ hi2 (grownBy_putObj' W2 (s + 1) o3) ht) ((World.putObj_heap_other (by omega)).trans hk)
        exact this
      · have ht : MayTurn w.heap.size hi W2 (some (s + 1)) := fun r e => by cases e; exact ⟨by omega, .inr ⟨_, hl, rfl⟩⟩
        have hr := run_endLoop (P := P) hl (by rw [hL]; simp)
        obtain ⟨o3, ho3⟩ : ∃ o3 : Obj, o3 = .loop { L .done (some c) with state := .exhausted } := ⟨_, rfl⟩
        rw [← ho3] at hr
        have e2 : (L .done (some c)).pending = some c := by rw [hL]
        rw [e2] at hr
        refine ⟨some c, _, hr, ?_⟩
        exact hstop s hi c pre _ (by omega) (by omega) hSp (hIx c hi _ _ _ _ hi2 (grownBy_putObj' W2 (s + 1) o3) ht) ((World.putObj_heap_other (by omega)).trans hk)
end Go.Proofs.YtnbihjocdlpplaaDoor
/- A region that draws its order, within a round: by the laws that hold outside of one. -/
namespace Go.Proofs.YtnbihjocdlpplaaDoor
open Go.RowKit Go.Shelf
/-- only the plain way on -/
def OnlyN (K : Act → World → Prop) : Exit → Act → World → Prop
  | .normal, a, w => K a w
  | _, _, _ => False
theorem onlyN_out (K : Act → World → Prop) : ¬ LetsOut (OnlyN K) := fun ⟨_, _, h⟩ => h
theorem upon_in {l n : Nat} {P : Program} {o : Oper} {a : Act} {next : Act → World → Prop} {Q : Exit → Act → World → Prop} {r : Result Next} (h : o.upon P a next Q r) : o.uponIn (Fence.wide.inRound l) n P a next Q r := by
  cases r with
  | ok x w' =>
    cases x with
    | enter f args => exact ⟨fun h => (by cases h), callsIn_wide.2 h⟩
    | value v => exact h
    | skip => exact h
    | defer d => exact h
    | row row args => exact ⟨fun h => (by cases h), fun c cs _ => let ⟨v, w2, r, s⟩ := h c cs; ⟨v, w2, r, stepsIn_wide.2 s⟩⟩
    | _ => exact h.elim
  | halt x w' => cases x <;> first | exact h | exact h.elim
theorem wpOp_in {l n : Nat} {P : Program} {ops : Array Oper} {K0 : Act → World → Prop} {i : Nat} {K : Act → World → Prop} {a : Act} {w : World}
    (hd : (ops.toList.all fun o => match o.op with | .defer _ => false | _ => true) = true) (h : wpOp P ops (OnlyN K0) i K a w) : wpOpIn (Fence.wide.inRound l) n P ops (OnlyN K0) i K a w := by
  unfold wpOp at h
  unfold wpOpIn
  cases ho : ops[i]? with
  | none => rw [ho] at h; exact h
  | some o =>
    rw [ho] at h
    dsimp only at h ⊢
    have hnd : ∀ c, o.op ≠ .defer c := fun c e => by
      have hm : o ∈ ops.toList := by
        have := Array.mem_of_getElem? ho
        simpa using this
      have := List.all_eq_true.1 hd o hm
      rw [e] at this
      cases this
    by_cases hw : Region.wanted o (yielded ops a.tmps) = true
    · rw [if_pos hw] at h ⊢
      rcases h with h | h
      · refine ⟨fun _ _ => trivial, ?_⟩
        show o.uponIn _ _ _ _ _ _ ((Oper.semAt (some l) a.eval o).run P w)
        rw [Oper.semAt_some l _ _ hnd]
        exact upon_in h
      · exact absurd h.2 (onlyN_out K0)
    · rw [if_neg hw] at h ⊢
      exact ⟨fun _ _ => trivial, h⟩
theorem wpAny_in {l n : Nat} {P : Program} {md : Region.Mode} {ops : Array Oper} {K0 : Act → World → Prop}
    (hd : (ops.toList.all fun o => match o.op with | .defer _ => false | _ => true) = true) : ∀ (fuel : Nat) (listed : Array Bool) (a : Act) (w : World), wpAny P md ops (OnlyN K0) fuel listed a w → wpAnyIn (Fence.wide.inRound l) n P md ops (OnlyN K0) fuel listed a w
  | 0, _, _, _, h => h
  | fuel + 1, listed, a, w, h => ⟨h.1, fun i hi => wpOp_in hd (wpOp_mono (fun a' w' h' => wpAny_in hd fuel _ a' w' h') (h.2 i hi))⟩
/-- THE LAW: a region in a round, S held. -/
theorem wpIn_round_held {l n id : Nat} {P : Program} {ops : Array Oper} {Q : Exit → Act → World → Prop} {S : World → Prop} {a : Act} {w : World} (hm : P.follows .mixedOrders = true)
    (hd : (ops.toList.all fun o => match o.op with | .defer _ => false | _ => true) = true) (K0 : Act → World → Prop) (hK : ∀ a w, K0 a w → Q .normal a w)
    (h : wpAnyH P .any ops (OnlyN K0) S ops.size (Array.replicate ops.size false) a w.drew) : (Code.region id ops true).wpIn (Fence.wide.inRound l) n P Q a w := by
  refine wpIn_mono (wpIn_region_any (Q := OnlyN K0) hm (wpAny_in hd _ _ _ _ (wpAny_of_held _ _ _ _ h))) ?_
  intro e a' w' hq
  cases e with
  | normal => exact hK _ _ hq
  | _ => exact hq.elim
end Go.Proofs.YtnbihjocdlpplaaDoor
/- The lines of a text with their ends, by the program. -/
namespace Go.Proofs.YtnbihjocdlpplaaDoor
set_option linter.unusedVariables false
set_option linter.unusedSimpArgs false
open Go.RowKit Go.Shelf
open Go.Lib
attribute [local go_sem] Oper.semAt_some
theorem allC (w : World) (s : ByteArray) : Calls Tryd.prog 81 #[.string s] w fun e w' => e = .returned (.func (.func 93) #[] #[.pointer (some ⟨w.heap.size, 0, none⟩)]) ∧ w.alloc (.cells #[.string s] 9) = w' := by
  go_enter Tryd.func81, Tryd.ntmps81
  go_wp2
  go_ret
  exact ⟨rfl, rfl⟩
theorem stepAppG {T e : TypeId} {w : World} {ops : Array Oper} {o : Oper} {a : Act} {K : Act → World → Prop} {Q : Exit → Act → World → Prop} {E : Prop} (hgd : o.guard = none) (sl x : Operand) (ho : o.op = .call { callee := .builtin .append, args := #[sl, x], argTypes := #[T, T] })
    (hT : Tryd.prog.underlying T = some (.slice e)) (z : Value) (size bytes : Nat) (hinfo : (Tryd.prog.info? e).map (fun i => (i.zero, i.size, i.bytes)) = some (some z, size, bytes)) (hz : z.cells.size = size) (hs0 : 0 < size) (hby : bytes ≤ 4096)
    (B : Nat) (wp : World) (v : Value) (n : Nat) (xs cs : List Value) (hcs : cs.length = size) (hone : ∀ u ∈ cs, u.oneCell' = true) (hs : a.eval sl = v) (hown : wp.ownsRow B e size v n xs) (hx : a.eval x = .slice (some ⟨wp.heap.size, 0, none⟩) 1 1) (hw : w = wp.alloc (.cells cs.toArray e)) (hl : n ≤ 1073741824) (hB : B ≤ wp.heap.size)
    (h : ∀ v' w', w'.ownsRow B e size v' (n + 1) (xs ++ cs) → (wp.alloc (.cells cs.toArray e)).grownBy w' v.ownBlock → K (a.put o.dst v') w') : if Region.wanted o (yielded ops a.tmps) = true then Oper.wp Tryd.prog o a w K Q else E := by
  subst hw
  obtain ⟨i0, hi, hz0, hz1, hz2⟩ := info_parts hinfo
  have hwd : Region.wanted o (yielded ops a.tmps) = true := by simp [Region.wanted, hgd]
  rw [if_pos hwd]
  have hsz : (wp.alloc (.cells cs.toArray e)).heap.size = wp.heap.size + 1 := by simp
  have hbt : (n + 1) * bytes ≤ 140737488355328 := by
    calc (n + 1) * bytes ≤ (n + 1) * 4096 := Nat.mul_le_mul (Nat.le_refl _) hby
      _ ≤ 140737488355328 := by omega
  obtain ⟨v', w', hrun, r1, r2, _⟩ := run_append_own (P := Tryd.prog) (wp.alloc (.cells cs.toArray e)) B T o.type e i0 z size bytes hT hi hz0 hz1 hz2 hz hs0 v n xs (World.ownsRow.alloc hown _) ⟨wp.heap.size, 0, none⟩ 1 1 cs (by rw [hcs, Nat.one_mul]) (new_cells _ _ _) hone (by unfold maxLen; omega) hbt (by omega)
  unfold Oper.wp
  simp [execOp, ho, resolve, invoke, builtin, hs, hx, hrun, Result.andThen]
  exact h v' w' r1 r2
theorem row_mid {s hi : Nat} {W w1 : World} {e : TypeId} {size : Nat} {v : Value} {k : Nat} {xs : List Value} {o : Obj} (hown : W.ownsRow hi e size v k xs) (hg : (W.alloc o).grownBy w1 v.ownBlock) (hhi : s + 3 ≤ hi) (hW : hi ≤ W.heap.size) {b : Nat} (hb : b < s + 3) : w1.heap[b]? = W.heap[b]? := by
  refine (hg.block b (by simp; omega) (fun e => ?_)).trans (Below.heap_alloc W o b (by omega))
  have := (hown.lt b e.symm).1
  omega
theorem row_step7 {s hi : Nat} {W w1 : World} {e : TypeId} {size : Nat} {v v' : Value} {k : Nat} {xs ys : List Value} {o : Obj} (hown : W.ownsRow hi e size v k xs) (hg : (W.alloc o).grownBy w1 v.ownBlock) (hown' : w1.ownsRow hi e size v' (k + 1) ys)
    (hhi : s + 3 ≤ hi) (hW : hi ≤ W.heap.size) :
    KeepsC (fun r => r < s ∨ r = s + 2) (s + 3) hi W (w1.setCell ⟨s + 1, 0, none⟩ v') ∧ (w1.setCell ⟨s + 1, 0, none⟩ v').ownsRow hi e size v' (k + 1) ys ∧ (∀ w, Below s w W → Below s w (w1.setCell ⟨s + 1, 0, none⟩ v')) := by
  have hK : ∀ r, (r < s ∨ r = s + 2) → r < s + 3 ∧ r ≠ s + 1 := fun r h => by omega
  have g1 : KeepsC (fun r => r < s ∨ r = s + 2) (s + 3) hi W (W.alloc o) := KeepsC.grown (World.grownBy_alloc W o none) (fun r hr => by have := hK r hr; omega) hW (fun r e => by cases e)
  have g2 : KeepsC (fun r => r < s ∨ r = s + 2) (s + 3) hi (W.alloc o) w1 := by
    refine KeepsC.grown hg (fun r hr => by have := hK r hr; simp; omega) (by simp; omega) (fun r e => ?_)
    have hl := hown.lt r e
    refine ⟨fun h => by have := hK r h; omega, .inr ⟨hl.1, fun o' ho => ?_⟩⟩
    rw [Below.heap_alloc W o r hl.2] at ho
    rcases hown.2 with ⟨rfl, _⟩ | ⟨g, cap, cur, rfl, _, hgr, _⟩
    · cases e
    · cases e; rw [hgr] at ho; cases ho; rfl
  have z1 := g1.size
  have z2 := g2.size
  have g3 : KeepsC (fun r => r < s ∨ r = s + 2) (s + 3) hi w1 (w1.setCell ⟨s + 1, 0, none⟩ v') := KeepsC.grown (grownBy_setCell' w1 (s + 1) v') (fun r hr => by have := hK r hr; omega) (by omega) (fun r e => by cases e; exact ⟨fun h => by have := hK _ h; omega, .inl (by omega)⟩)
  refine ⟨(g1.trans g2).trans g3, ownsRow_setCell_below hown' (by simp; omega) v', fun w hb => ?_⟩
  exact ((hb.alloc (by omega) o).grown hg (by simp; omega) (fun r e => by have := (hown.lt r e).1; omega)).setCell (by simp) _
theorem own_abides2 {lo hi : Nat} {A A' : World} {row : Option Nat} {e : TypeId} {size : Nat} {v : Value} {n : Nat} {xs : List Value} (h : A.ownsRow hi e size v n xs) (hg : A.grownBy A' row) (ht : MayTurn lo hi A row) : A'.ownsRow hi e size v n xs := by
  refine h.kept hg ?_
  rcases h.2 with ⟨rfl, _⟩ | ⟨g, cap, cur, rfl, hb, hgr, _⟩
  · exact .inl rfl
  · refine .inr fun e' => ?_
    have e' : some g = row := e'
    obtain ⟨h1, h2 | ⟨o, ho, hc⟩⟩ := ht g e'.symm
    · omega
    · rw [hgr] at ho; cases ho; cases hc
set_option maxHeartbeats 4000000 in
set_option maxRecDepth 100000 in
theorem splitAC (w : World) (l : List UInt8) (hl : l.length ≤ 67108864) (hT : Tabs w) :
    Calls Tryd.prog 58 #[.string (bstr l)] w fun e w' => ∃ a n c, e = .returned (.slice a n c) ∧ n = (splitA l).length ∧ n ≤ c ∧ c ≤ maxLen ∧ ReadsS w' a n (splitA l) ∧ Below w.heap.size w w' := by
  obtain ⟨i0, hi_, hz0, hz1, hz2⟩ := info_parts infoStr
  have hB7 := hT.size
  have HT := Lib.hid hT
  have hgf := enters_of Tryd.func93 (by kernel_rfl) rfl
  have HE := Lib.hid hgf
  clear hT hgf
  refine (callsIn_wide (n := 20)).1 ?_
  refine callsIn_of_wp_marks Tryd.func58 rfl trivial ?_ rfl
  simp only [Tryd.ntmps58, List.size_toArray, List.length_cons, List.length_nil, Nat.reduceAdd, Nat.reduceSub, Array.replicate_succ, Array.replicate_zero, List.push_toArray, List.append_toArray, List.nil_append, List.cons_append]
  gi_wp2_with (refine ⟨trivial, ?_⟩; gi_at_call 81; refine (callsIn_wide.2 (allC _ _)).mono ?_; rintro e w' ⟨rfl, hw'⟩)
  obtain ⟨s, hs⟩ : ∃ s, s = w.heap.size := ⟨_, rfl⟩
  obtain ⟨wk, hwk⟩ : ∃ wk, wk = (w.alloc (.cells #[.string (bstr l)] 9)).alloc (.cells #[.slice none 0 0] 29) := ⟨_, rfl⟩
  rw [← hwk] at hw'
  have zk : wk.heap.size = s + 2 := by rw [hwk, hs]; simp
  have bk : Below w.heap.size w wk := by rw [hwk]; exact ((Below.refl _ w).alloc (Nat.le_refl _) _).alloc (by simp) _
  have x1 : Boxed wk s 9 (.string (bstr l)) := by rw [hwk, hs]; exact (Boxed.new w _ _).alloc _
  have x2 : Boxed wk (s + 1) 29 (.slice none 0 0) := by
    rw [hwk, hs]
    have := Boxed.new (w.alloc (.cells #[.string (bstr l)] 9)) 29 (.slice none 0 0)
    rwa [World.size_alloc] at this
  have x3 := Boxed.new wk 9 (.string (bstr l))
  rw [zk] at x3
  obtain ⟨wl, hwl⟩ : ∃ wl, wl = wk.alloc (.cells #[.string (bstr l)] 9) := ⟨_, rfl⟩
  have zl : wl.heap.size = s + 3 := by rw [hwl]; simp [zk]
  have bl : Below w.heap.size w wl := by rw [hwl]; exact bk.alloc (by rw [zk, ← hs]; omega) _
  have y1 : Boxed wl s 9 (.string (bstr l)) := by rw [hwl]; exact x1.alloc _
  have y2 : Boxed wl (s + 1) 29 (.slice none 0 0) := by rw [hwl]; exact x2.alloc _
  have y3 : Boxed wl (s + 2) 9 (.string (bstr l)) := by rw [hwl]; exact x3
  rw [← hwl] at hw'
  subst hw'
  have HTL : Hid (Tabs wl) := Lib.hid (HT.out.next bl)
  rw [← hs] at bl hB7 ⊢
  have HSS := Lib.hid hs
  clear hs hwl hwk zk bk x1 x2 x3
  have hseq := fun m hm => all1 m hm s (s + 2) wl l y3 hl HTL.out hB7 (by omega)
  have HSQ := Lib.hid hseq
  clear hseq
  refine wpIn_rangeFunc_A rfl (by decide) (gf := 93) (lb := #[.pointer (some ⟨s + 2, 0, none⟩)]) rfl trivial HE.out (HSQ.out 19 (by decide)) (fun r hr => ⟨by have hr : r < s ∨ r = s + 2 := hr; omega, rfl⟩) (Nat.le_refl _) (fun _ => rfl)
    (fun hi pre W => Boxed W s 9 (.string (bstr l)) ∧ Below s w W ∧ ∃ v, Boxed W (s + 1) 29 v ∧ W.ownsRow hi 9 1 v pre.length ((pre.map (pieceE l)).map S1))
    (fun c hi pre W => False) ?hI ?hIx ?h0 (fun x => .cells #[.int .i64 (x.1 : Int), .int .i64 (x.2.1 : Int)] 123 (0, 0))
    (fun x g => { tmps := #[.string (bstr l), .pointer (some ⟨s, 0, none⟩), .slice none 0 0, .pointer (some ⟨s + 1, 0, none⟩), .pointer (some ⟨g, 0, none⟩), .int .i64 (x.2.2 : Int), .string (bstr l), .func (.func 93) #[] #[.pointer (some ⟨s + 2, 0, none⟩)], .agg #[.int .i64 (x.1 : Int), .int .i64 (x.2.1 : Int)], .int .i64 (x.2.2 : Int), undef, undef, undef, undef, undef, undef, undef, undef, undef, undef, undef, undef, undef, undef, undef, undef, undef, undef], defers := [] }) ?assign ?body ?done ?stop
  case assign =>
    intro l' x Wx K hK
    obtain ⟨xa, xb, xe⟩ := x
    unfold pieceV
    gi_wp2
    exact hK
  case hI =>
    rintro hi pre A A' row ⟨h2, h3, v, h4, h5⟩ hg ht
    have ne : ∀ k, k < s + 3 → some k ≠ row := fun k hk e => by have := (ht k e.symm).1; omega
    exact ⟨h2.kept hg (ne _ (by omega)), h3.grown hg (by have := h2.lt; omega) (fun r e => by have := (ht r e).1; omega), v, h4.kept hg (ne _ (by omega)), own_abides2 h5 hg (fun r e => ⟨(ht r e).1, (ht r e).2⟩)⟩
  case hIx =>
    rintro c hi pre A A' row h hg ht
    exact h
  case h0 =>
    intro hi hh
    exact ⟨y1, bl, _, y2, World.ownsRow_nil _ _ _ _⟩
  case done =>
    rintro D hi xs Wx hD hDh rfl ⟨q2, q3, v, q4, q5⟩ hd
    have c4 := q4.cell
    obtain ⟨a2, c2, rfl⟩ := slice_own q5
    have hlt := (Array.getElem?_eq_some_iff.1 hd).1
    have hx1 : (linesL l).length ≤ c2 ∧ c2 ≤ maxLen := by
      obtain ⟨a', c', he, _, h3, h4⟩ := reads_of_own q5
      cases he
      exact ⟨h3, h4⟩
    have HX1 := Lib.hid hx1
    have HQ5 := Lib.hid q5
    have hc2 : c2 ≤ 9223372036854775807 := by unfold maxLen at hx1; omega
    have hxc := hx1.1
    have hxl : ((linesL l).length : Int) ≤ (c2 : Int) := by omega
    have hll := linesL_len l
    clear hx1 q5
    gi_wp2
    have q5 := HQ5.out
    have hlen : (splitA l).length = (linesL l).length := by unfold splitA; rw [List.length_map]
    have q6 := ownsRow_putObj q5 (.deferred none) hd rfl
    have hR : ReadsS (Wx.putObj D (.deferred none)) a2 (linesL l).length (splitA l) := by
      obtain ⟨a', c', he, h2, h3, h4⟩ := reads_of_own q6
      cases he
      exact h2
    refine ⟨by simp, .inl ⟨_, _, rfl, run_takeDeferred hd, ?_⟩⟩
    refine ⟨_, results_tmp rfl _ _ _, _, _, _, rfl, hlen.symm, Nat.le_refl _, Nat.le_trans HX1.out.1 HX1.out.2, hR, ?_⟩
    rw [← HSS.out]
    exact q3.grown (grownBy_putObj' Wx D _) (by omega) (fun r e => by cases e; omega)
  case stop =>
    rintro D hi c pre Wx hD hDh hpre h hd
    exact h.elim
  case body =>
    rintro l' hi g pre x Wx hhi1 hhi2 hob hpx ⟨q2, q3, v, q4, q5⟩
    obtain ⟨xa, xb, xe⟩ := x
    gi_wp2
    have hpok := linesL_end l (xa, xb, xe) (hpx.subset (List.mem_append_right _ (List.mem_singleton_self _)))
    have hpl := hpx.length_le
    have hll := linesL_len l
    rw [List.length_append, List.length_singleton] at hpl
    simp only at hpok
    obtain ⟨hab, hbl⟩ := hpok
    obtain ⟨y, hy⟩ : ∃ y, xb + xe = y := ⟨_, rfl⟩
    rw [hy] at hbl
    have iw : IntKind.i64.wrap ((xb : Int) + (xe : Int)) = (y : Int) := by rw [show (xb : Int) + (xe : Int) = (y : Int) by omega]; exact IntWalk.i64_in _ (by omega)
    have i1 : (xa : Int) ≤ (y : Int) := by omega
    have i2 : (y : Int) ≤ (l.length : Int) := by omega
    obtain ⟨S, hS⟩ : ∃ S, pieceE l (xa, xb, xe) = S := ⟨_, rfl⟩
    have hex : (bstr l).extract xa y = bstr S := by rw [← hS, bstr_extract, ← hy]; rfl
    have hsz := bstr_size l
    have r0 : Row Wx g 123 [.int .i64 (xa : Int), .int .i64 (xb : Int)] := hob
    have g0 := r0.cell 0
    have g1 := r0.cell 1
    simp only [List.getElem?_cons_zero, List.getElem?_cons_succ] at g0 g1
    have c2 := q2.cell
    have hS0 : (fun w' : World => w'.cell? ⟨s, 0, none⟩ = some (.string (bstr l)) ∧ w'.cell? ⟨g, 0, none⟩ = some (.int .i64 (xa : Int)) ∧ w'.cell? ⟨g, 1, none⟩ = some (.int .i64 (xb : Int))) Wx.drew := ⟨c2, g0, g1⟩
    have c4 := q4.cell
    have f4 := q4.frozen
    clear hy hob
    have hll2 := hll
    have hkl : pre.length ≤ 1073741824 := by omega
    have hgl : g < Wx.heap.size := r0.lt
    have hsg : s + 3 ≤ hi := by rw [zl] at hhi1; omega
    have hihx : hi ≤ Wx.heap.size := by omega
    have HDR : Hid (Below Wx.heap.size Wx Wx.drew) := Lib.hid (Below.refl _ Wx).drew
    obtain ⟨Wd, hWd⟩ : ∃ Wd, Wd = Wx.drew := ⟨_, rfl⟩
    rw [← hWd] at HDR hS0
    have hkeep : ∀ W', Below Wx.heap.size Wx W' → (W'.cell? ⟨s, 0, none⟩ = some (.string (bstr l)) ∧ W'.cell? ⟨g, 0, none⟩ = some (.int .i64 (xa : Int)) ∧ W'.cell? ⟨g, 1, none⟩ = some (.int .i64 (xb : Int))) ∧ W'.cell? ⟨s + 1, 0, none⟩ = some v := fun W' hb => by
      rw [hb.cell (p := ⟨s, 0, none⟩) (by show s < _; omega), hb.cell (p := ⟨g, 0, none⟩) hgl, hb.cell (p := ⟨g, 1, none⟩) hgl, hb.cell (p := ⟨s + 1, 0, none⟩) (by show s + 1 < _; omega)]
      exact ⟨⟨c2, g0, g1⟩, c4⟩
    have HKP := Lib.hid hkeep
    have hend : ∀ W3, Below Wx.heap.size Wx W3 → ∀ v' w1, w1.ownsRow hi 9 1 v' (pre.length + 1) ((pre.map (pieceE l)).map S1 ++ [S1 S]) → (W3.alloc (.cells [S1 S].toArray 9)).grownBy w1 v.ownBlock →
        (w1.cell? ⟨s, 0, none⟩ = some (.string (bstr l)) ∧ w1.cell? ⟨g, 0, none⟩ = some (.int .i64 (xa : Int)) ∧ w1.cell? ⟨g, 1, none⟩ = some (.int .i64 (xb : Int))) ∧ w1.cell? ⟨s + 1, 0, none⟩ = some v ∧ w1.frozen? ⟨s + 1, 0, none⟩ = false ∧
        ((w1.setCell ⟨s + 1, 0, none⟩ v').cell? ⟨s, 0, none⟩ = some (.string (bstr l)) ∧ (w1.setCell ⟨s + 1, 0, none⟩ v').cell? ⟨g, 0, none⟩ = some (.int .i64 (xa : Int)) ∧ (w1.setCell ⟨s + 1, 0, none⟩ v').cell? ⟨g, 1, none⟩ = some (.int .i64 (xb : Int))) ∧
        Hid (KeepsC (fun r => r < s ∨ r = s + 2) wl.heap.size hi Wx (w1.setCell ⟨s + 1, 0, none⟩ v') ∧ Boxed (w1.setCell ⟨s + 1, 0, none⟩ v') s 9 (.string (bstr l)) ∧ Below s w (w1.setCell ⟨s + 1, 0, none⟩ v') ∧ Boxed (w1.setCell ⟨s + 1, 0, none⟩ v') (s + 1) 29 v' ∧ (w1.setCell ⟨s + 1, 0, none⟩ v').ownsRow hi 9 1 v' (pre ++ [(xa, xb, xe)]).length (((pre ++ [(xa, xb, xe)]).map (pieceE l)).map S1)) := by
      intro W3 hb3 v' w1 ho hg
      have h3s := hb3.size
      have hown3 := own_below q5 hb3
      have b1 : Boxed w1 s 9 (.string (bstr l)) := ((row_mid (s := s) (b := s) hown3 hg hsg (by omega) (by omega)).trans (hb3.block s (by omega))).trans q2
      have b2 : Boxed w1 (s + 1) 29 v := ((row_mid (s := s) (b := s + 1) hown3 hg hsg (by omega) (by omega)).trans (hb3.block (s + 1) (by omega))).trans q4
      have hng : v.ownBlock ≠ some g := by
        intro e
        rcases hown3.2 with ⟨rfl, _⟩ | ⟨g', cap, cur, rfl, _, hgr, _⟩
        · cases e
        · have eg : g' = g := by injection e
          rw [eg, hb3.block g hgl] at hgr
          have r1 : Wx.heap[g]? = some _ := r0
          rw [r1] at hgr
          cases hgr
      have b3 : Row w1 g 123 [.int .i64 (xa : Int), .int .i64 (xb : Int)] := ((hg.block g (by simp; omega) (fun e => hng e.symm)).trans (Below.heap_alloc W3 _ g (by omega))).trans ((hb3.block g hgl).trans r0)
      have b5 := b3.cell 0
      have b6 := b3.cell 1
      simp only [List.getElem?_cons_zero, List.getElem?_cons_succ] at b5 b6
      obtain ⟨k1, k2, k3⟩ := row_step7 (s := s) hown3 hg ho hsg (by omega)
      have k0 : KeepsC (fun r => r < s ∨ r = s + 2) (s + 3) hi Wx W3 := KeepsC.below hb3 (fun r hr => by omega) hihx
      have hcs : ∀ c : Addr, c.block ≠ s + 1 → (w1.setCell ⟨s + 1, 0, none⟩ v').cell? c = w1.cell? c := fun c hc => World.cell?_setCell_other _ _ _ _ (by first | (intro h; exact hc (by rw [← h])) | (intro h; exact hc (by rw [h])))
      refine ⟨⟨b1.cell, b5, b6⟩, b2.cell, b2.frozen, ⟨?_, ?_, ?_⟩, Lib.hid ⟨by rw [zl]; exact k0.trans k1, b1.other (by omega) _, k3 w (q3.trans (hb3.mono (by omega))), b2.set _, ?_⟩⟩
      · rw [hcs _ (by show s ≠ _; omega)]; exact b1.cell
      · rw [hcs _ (by show g ≠ _; omega)]; exact b5
      · rw [hcs _ (by show g ≠ _; omega)]; exact b6
      · have := k2
        rw [← hS] at this
        simpa using this
    have HEND := Lib.hid hend
    have HO := Lib.hid q5
    have hSl : S.length ≤ 1099511627776 := by rw [← hS]; unfold pieceE; rw [List.length_take, List.length_drop]; omega
    clear hpx hend hkeep q5 c4 hS r0
    refine wpIn_round_held (S := fun w' : World => w'.cell? ⟨s, 0, none⟩ = some (.string (bstr l)) ∧ w'.cell? ⟨g, 0, none⟩ = some (.int .i64 (xa : Int)) ∧ w'.cell? ⟨g, 1, none⟩ = some (.int .i64 (xb : Int))) (by kernel_rfl) (by kernel_rfl) _ (fun _ _ h => h) ?_
    rw [← hWd]
    clear hWd
    refine wpAnyH_take (i := 1) (v := ?v1) rfl (by kernel_rfl) (by kernel_rfl) (by kernel_rfl) (fun _ _ _ h => h) (Or.inl ⟨by rfl, ?y1⟩) hS0 ?r1
    case y1 => (intro w2 hSw; obtain ⟨s0, s1, s2⟩ := hSw; go_simp; try with_reducible rfl)
    try simp only [Act.put, List.setIfInBounds_toArray, List.set_cons_zero, List.set_cons_succ]
    refine wpAnyH_take (i := 2) (v := ?v2) rfl (by kernel_rfl) (by kernel_rfl) (by kernel_rfl) (fun _ _ _ h => h) (Or.inl ⟨by rfl, ?y2⟩) hS0 ?r2
    case y2 => (intro w2 hSw; obtain ⟨s0, s1, s2⟩ := hSw; go_simp; try with_reducible rfl)
    try simp only [Act.put, List.setIfInBounds_toArray, List.set_cons_zero, List.set_cons_succ]
    refine wpAnyH_take (i := 3) (v := ?v3) rfl (by kernel_rfl) (by kernel_rfl) (by kernel_rfl) (fun _ _ _ h => h) (Or.inl ⟨by rfl, ?y3⟩) hS0 ?r3
    case y3 => (intro w2 hSw; obtain ⟨s0, s1, s2⟩ := hSw; go_simp; try with_reducible rfl)
    try simp only [Act.put, List.setIfInBounds_toArray, List.set_cons_zero, List.set_cons_succ]
    refine wpAnyH_take (i := 4) (v := ?v4) rfl (by kernel_rfl) (by kernel_rfl) (by kernel_rfl) (fun _ _ _ h => h) (Or.inl ⟨by rfl, ?y4⟩) hS0 ?r4
    case y4 => (intro w2 hSw; obtain ⟨s0, s1, s2⟩ := hSw; go_simp; try with_reducible rfl)
    try simp only [Act.put, List.setIfInBounds_toArray, List.set_cons_zero, List.set_cons_succ]
    refine wpAnyH_take (i := 5) (v := ?v5) rfl (by kernel_rfl) (by kernel_rfl) (by kernel_rfl) (fun _ _ _ h => h) (Or.inl ⟨by rfl, ?y5⟩) hS0 ?r5
    case y5 => (intro w2 hSw; obtain ⟨s0, s1, s2⟩ := hSw; go_simp; try with_reducible rfl)
    try simp only [Act.put, List.setIfInBounds_toArray, List.set_cons_zero, List.set_cons_succ]
    refine wpAnyH_take (i := 6) (v := ?v6) rfl (by kernel_rfl) (by kernel_rfl) (by kernel_rfl) (fun _ _ _ h => h) (Or.inl ⟨by rfl, ?y6⟩) hS0 ?r6
    case y6 => (intro w2 hSw; obtain ⟨s0, s1, s2⟩ := hSw; go_simp; try with_reducible rfl)
    try simp only [Act.put, List.setIfInBounds_toArray, List.set_cons_zero, List.set_cons_succ]
    refine wpAnyH_take (i := 7) (v := ?v7) rfl (by kernel_rfl) (by kernel_rfl) (by kernel_rfl) (fun _ _ _ h => h) (Or.inl ⟨by rfl, ?y7⟩) hS0 ?r7
    case y7 => (intro w2 hSw; obtain ⟨s0, s1, s2⟩ := hSw; go_simp; try with_reducible rfl)
    try simp only [Act.put, List.setIfInBounds_toArray, List.set_cons_zero, List.set_cons_succ]
    refine wpAnyH_take (i := 8) (v := ?v8) rfl (by kernel_rfl) (by kernel_rfl) (by kernel_rfl) (fun _ _ _ h => h) (Or.inl ⟨by rfl, ?y8⟩) hS0 ?r8
    case y8 => (intro w2 hSw; obtain ⟨s0, s1, s2⟩ := hSw; go_simp; try with_reducible rfl)
    try simp only [Act.put, List.setIfInBounds_toArray, List.set_cons_zero, List.set_cons_succ]
    refine wpAnyH_ready (rs := [0, 9]) (by kernel_rfl) (by simp) (AllReadyH.cons rfl (fun K' hK => ?p0) (AllReadyH.cons rfl (fun K' hK => ?p9) AllReadyH.nil))
    case p0 =>
      have d4 := (HKP.out _ HDR.out).2
      go_simp
      refine hK.out _ _ hS0 (fun _ => ?_)
      try simp only [Act.put, List.setIfInBounds_toArray, List.set_cons_zero, List.set_cons_succ]
      clear hK K'
      refine wpAnyH_ready (rs := [9]) (by kernel_rfl) (by simp) (AllReadyH.cons rfl (fun K' hK => ?_) AllReadyH.nil)
      go_simp
      refine (cloneC _ S hSl).mono ?_
      rintro e W3 ⟨rfl, hb3⟩
      show K' _ _
      have HB3 : Hid (Below Wx.heap.size Wx W3) := Lib.hid (HDR.out.trans (hb3.mono HDR.out.size))
      clear hb3
      refine hK.out _ _ (HKP.out _ HB3.out).1 (fun _ => ?_)
      try simp only [Act.put, List.setIfInBounds_toArray, List.set_cons_zero, List.set_cons_succ]
      clear hK K'
      refine wpAnyH_ready (rs := [10]) (by kernel_rfl) (by simp) (AllReadyH.cons rfl (fun K' hK => ?_) AllReadyH.nil)
      go_simp
      refine hK.out _ _ (HKP.out _ (HB3.out.alloc (by have := HB3.out.size; omega) _)).1 (fun _ => ?_)
      try simp only [Act.put, List.setIfInBounds_toArray, List.set_cons_zero, List.set_cons_succ]
      clear hK K'
      refine wpAnyH_ready (rs := [11]) (by kernel_rfl) (by simp) (AllReadyH.cons rfl (fun K' hK => ?_) AllReadyH.nil)
      refine stepAppG (by rfl) _ _ (by rfl) Tryd.underlying29 (.string ByteArray.empty) 1 16 infoStr (by rfl) (by decide) (by decide) hi W3 v pre.length ((pre.map (pieceE l)).map S1) [S1 S] (by rfl) (by intro u hu; simp only [List.mem_singleton] at hu; subst hu; rfl) (by rfl) (own_below HO.out HB3.out) (by rfl) (by rfl) hkl (by have := HB3.out.size; omega) ?_
      intro v8 w8 hO8 hg8
      obtain ⟨e1, e2, e3, e4, e5⟩ := HEND.out W3 HB3.out v8 w8 hO8 hg8
      obtain ⟨g8, cap8, hv8⟩ := ownsRow_succ hO8
      subst hv8
      clear hO8 hg8
      refine hK.out _ _ e1 (fun _ => ?_)
      try simp only [Act.put, List.setIfInBounds_toArray, List.set_cons_zero, List.set_cons_succ]
      clear hK K'
      refine wpAnyH_ready (rs := [12]) (by kernel_rfl) (by simp) (AllReadyH.cons rfl (fun K' hK => ?_) AllReadyH.nil)
      go_simp
      refine hK.out _ _ e4 (fun _ => ?_)
      try simp only [Act.put, List.setIfInBounds_toArray, List.set_cons_zero, List.set_cons_succ]
      clear hK K'
      refine wpAnyH_done (by kernel_rfl) ?_ _
      have E5 := e5.out
      exact ⟨E5.1, E5.2.1, E5.2.2.1, _, E5.2.2.2.1, E5.2.2.2.2⟩
    case p9 =>
      go_simp
      refine (cloneC _ S hSl).mono ?_
      rintro e W3 ⟨rfl, hb3⟩
      show K' _ _
      have HB3 : Hid (Below Wx.heap.size Wx W3) := Lib.hid (HDR.out.trans (hb3.mono HDR.out.size))
      clear hb3
      refine hK.out _ _ (HKP.out _ HB3.out).1 (fun _ => ?_)
      try simp only [Act.put, List.setIfInBounds_toArray, List.set_cons_zero, List.set_cons_succ]
      clear hK K'
      refine wpAnyH_ready (rs := [0, 10]) (by kernel_rfl) (by simp) (AllReadyH.cons rfl (fun K' hK => ?q0) (AllReadyH.cons rfl (fun K' hK => ?q10) AllReadyH.nil))
      case q0 =>
        have d4 := (HKP.out _ HB3.out).2
        go_simp
        refine hK.out _ _ (HKP.out _ HB3.out).1 (fun _ => ?_)
        try simp only [Act.put, List.setIfInBounds_toArray, List.set_cons_zero, List.set_cons_succ]
        clear hK K'
        refine wpAnyH_ready (rs := [10]) (by kernel_rfl) (by simp) (AllReadyH.cons rfl (fun K' hK => ?_) AllReadyH.nil)
        go_simp
        refine hK.out _ _ (HKP.out _ (HB3.out.alloc (by have := HB3.out.size; omega) _)).1 (fun _ => ?_)
        try simp only [Act.put, List.setIfInBounds_toArray, List.set_cons_zero, List.set_cons_succ]
        clear hK K'
        refine wpAnyH_ready (rs := [11]) (by kernel_rfl) (by simp) (AllReadyH.cons rfl (fun K' hK => ?_) AllReadyH.nil)
        refine stepAppG (by rfl) _ _ (by rfl) Tryd.underlying29 (.string ByteArray.empty) 1 16 infoStr (by rfl) (by decide) (by decide) hi W3 v pre.length ((pre.map (pieceE l)).map S1) [S1 S] (by rfl) (by intro u hu; simp only [List.mem_singleton] at hu; subst hu; rfl) (by rfl) (own_below HO.out HB3.out) (by rfl) (by rfl) hkl (by have := HB3.out.size; omega) ?_
        intro v8 w8 hO8 hg8
        obtain ⟨e1, e2, e3, e4, e5⟩ := HEND.out W3 HB3.out v8 w8 hO8 hg8
        obtain ⟨g8, cap8, hv8⟩ := ownsRow_succ hO8
        subst hv8
        clear hO8 hg8
        refine hK.out _ _ e1 (fun _ => ?_)
        try simp only [Act.put, List.setIfInBounds_toArray, List.set_cons_zero, List.set_cons_succ]
        clear hK K'
        refine wpAnyH_ready (rs := [12]) (by kernel_rfl) (by simp) (AllReadyH.cons rfl (fun K' hK => ?_) AllReadyH.nil)
        go_simp
        refine hK.out _ _ e4 (fun _ => ?_)
        try simp only [Act.put, List.setIfInBounds_toArray, List.set_cons_zero, List.set_cons_succ]
        clear hK K'
        refine wpAnyH_done (by kernel_rfl) ?_ _
        have E5 := e5.out
        exact ⟨E5.1, E5.2.1, E5.2.2.1, _, E5.2.2.2.1, E5.2.2.2.2⟩
      case q10 =>
        go_simp
        refine hK.out _ _ (HKP.out _ (HB3.out.alloc (by have := HB3.out.size; omega) _)).1 (fun _ => ?_)
        try simp only [Act.put, List.setIfInBounds_toArray, List.set_cons_zero, List.set_cons_succ]
        clear hK K'
        refine wpAnyH_ready (rs := [0]) (by kernel_rfl) (by simp) (AllReadyH.cons rfl (fun K' hK => ?_) AllReadyH.nil)
        have HB4 : Hid (Below Wx.heap.size Wx (W3.alloc (.cells #[.string (bstr S)] 9))) := Lib.hid (HB3.out.alloc (by have := HB3.out.size; omega) _)
        have d4 := (HKP.out _ HB4.out).2
        go_simp
        refine hK.out _ _ (HKP.out _ HB4.out).1 (fun _ => ?_)
        try simp only [Act.put, List.setIfInBounds_toArray, List.set_cons_zero, List.set_cons_succ]
        clear hK K'
        refine wpAnyH_ready (rs := [11]) (by kernel_rfl) (by simp) (AllReadyH.cons rfl (fun K' hK => ?_) AllReadyH.nil)
        refine stepAppG (by rfl) _ _ (by rfl) Tryd.underlying29 (.string ByteArray.empty) 1 16 infoStr (by rfl) (by decide) (by decide) hi W3 v pre.length ((pre.map (pieceE l)).map S1) [S1 S] (by rfl) (by intro u hu; simp only [List.mem_singleton] at hu; subst hu; rfl) (by rfl) (own_below HO.out HB3.out) (by rfl) (by rfl) hkl (by have := HB3.out.size; omega) ?_
        intro v8 w8 hO8 hg8
        obtain ⟨e1, e2, e3, e4, e5⟩ := HEND.out W3 HB3.out v8 w8 hO8 hg8
        obtain ⟨g8, cap8, hv8⟩ := ownsRow_succ hO8
        subst hv8
        clear hO8 hg8
        refine hK.out _ _ e1 (fun _ => ?_)
        try simp only [Act.put, List.setIfInBounds_toArray, List.set_cons_zero, List.set_cons_succ]
        clear hK K'
        refine wpAnyH_ready (rs := [12]) (by kernel_rfl) (by simp) (AllReadyH.cons rfl (fun K' hK => ?_) AllReadyH.nil)
        go_simp
        refine hK.out _ _ e4 (fun _ => ?_)
        try simp only [Act.put, List.setIfInBounds_toArray, List.set_cons_zero, List.set_cons_succ]
        clear hK K'
        refine wpAnyH_done (by kernel_rfl) ?_ _
        have E5 := e5.out
        exact ⟨E5.1, E5.2.1, E5.2.2.1, _, E5.2.2.2.1, E5.2.2.2.2⟩
end Go.Proofs.YtnbihjocdlpplaaDoor
