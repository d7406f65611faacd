/- Texts joined, one behind the other (IterA, Trim7, LineE). -/
import Derived.Test.YtmhemahkcbgaoaaGreatDoorKn20
import Derived.Test.YtmhemahkcbgaoaaGreatDoorShelfT
import Derived.Shelf.Strings.SlTrimAscii
import Derived.Stop.RegionWithIn
/- A range over a function whose rounds lay what comes into a new block. -/
namespace Go.Proofs.YtmhemahkcbgaoaaGreatDoor
open Go.RowKit Go.Shelf
theorem KeepsC.sub2 {K K' : Nat → Prop} {lo lo' hi : Nat} {A B : World} (h : KeepsC K lo hi A B) (hl : lo ≤ lo') (hK : ∀ r, K' r → K r ∨ (lo ≤ r ∧ r < hi)) : KeepsC K' lo' hi A B :=
  ⟨h.size, fun r hr => h.rows r (hr.elim (hK r) (fun h => .inr ⟨by omega, h.2⟩)), fun r o hr ho hc => h.others r o (by omega) ho hc⟩
variable {F : Fence} {n : Nat} {P : Program}
/-- THE CALLER's LAW, where the assignment of a round lays what came into a new block. -/
theorem wpIn_rangeFunc_A {α : Type} {g : Operand} {ps : Array Tmp} {assign body : Code} {Q : Exit → Act → World → Prop} {a : Act} {w : World}
    (hro : F.round = none) (h1 : 1 ≤ n) {gf : Nat} {lb : Array Value} (hg : a.eval g = .func (.func gf) #[] lb) (hFg : F.fn gf) (eg : ∀ args w, (callFunc gf args).run P w = .ok (.enter gf args) w)
    {encs : α → Array Value} {K : Nat → Prop} {w0 : World} {S Sp : List α → Prop} (hseq : SeqC F (n - 1) P gf lb encs K w0 S Sp)
    (hb0 : ∀ r, K r → r < w0.heap.size ∧ w.heap[r]? = w0.heap[r]?) (hn0 : w0.heap.size ≤ w.heap.size) (hps : ∀ x, (encs x).size = ps.size)
    (I : Nat → List α → World → Prop) (Ix : Code → Nat → List α → World → Prop)
    (hI : ∀ hi, AbidesC w.heap.size hi (I hi)) (hIx : ∀ c hi, AbidesC w.heap.size hi (Ix c hi))
    (h0 : ∀ hi, w.heap.size ≤ hi → I hi [] w) (ob : α → Obj) (a₁ : α → Nat → Act)
    (hassign : ∀ (l : Nat) (x : α) (W : World) (Kc : Act → World → Prop), Kc (a₁ x W.heap.size) (W.alloc (ob x)) →
      assign.wpIn (F.inRound l) (n - 1 - 1) P (Exit.then Kc (fun _ _ _ => False)) { tmps := (ps.zip (encs x)).foldl (fun t (p, v) => t.setIfInBounds p v) a.tmps, defers := [] } W)
    (hbody : ∀ (l hi g : Nat) (pre : List α) (x : α) (W : World), w.heap.size + 2 ≤ hi → hi ≤ g → W.heap[g]? = some (ob x) → Sp (pre ++ [x]) → I hi pre W → body.wpIn (F.inRound l) (n - 1 - 1) P (postC K w.heap.size hi I Ix (pre ++ [x]) W) (a₁ x g) W)
    (hdone : ∀ (D hi : Nat) (xs : List α) (W : World), w.heap.size ≤ D → D < hi → S xs → I hi xs W → W.heap[D]? = some (.deferred (some [])) → Q .normal { a with defers := { target := .collected D, args := #[] } :: a.defers } W)
    (hstop : ∀ (D hi : Nat) (c : Code) (pre : List α) (W : World), w.heap.size ≤ D → D < hi → Sp pre → Ix c hi pre W → W.heap[D]? = some (.deferred (some [])) → c.wpIn F n P Q { a with defers := { target := .collected D, args := #[] } :: a.defers } W) :
    (Code.rangeFunc g ps assign body).wpIn F n P Q a w := by
  refine wpIn_rangeFunc ?_
  intro fn hfn
  rw [hro]
  obtain ⟨L, hL⟩ : ∃ L : LoopState → Option Code → Loop, L = fun st pe => { state := st, pending := pe, fn, tmps := a.tmps, params := ps, assign, body, defers := w.heap.size } := ⟨_, rfl⟩
  obtain ⟨s, hs⟩ : ∃ s, s = w.heap.size := ⟨_, rfl⟩
  obtain ⟨W1, hW1⟩ : ∃ W1, W1 = (w.alloc (.deferred (some []))).alloc (.loop (L .ready none)) := ⟨_, rfl⟩
  have z1 : W1.heap.size = s + 2 := by rw [hW1, hs]; simp
  have r1 : W1.heap[s + 1]? = some (.loop (L .ready none)) := by
    rw [hW1, hs]
    have := World.alloc_heap_new (w.alloc (.deferred (some []))) (.loop (L .ready none))
    rwa [World.size_alloc] at this
  have d1 : W1.heap[s]? = some (.deferred (some [])) := by
    rw [hW1, hs]; exact (Below.heap_alloc _ _ _ (by simp)).trans (World.alloc_heap_new w _)
  have turn0 : ∀ (hi : Nat) (A : World), MayTurn w.heap.size hi A none := fun _ _ r e => by cases e
  have i1 : ∀ hi, W1.heap.size ≤ hi → I hi [] W1 := by
    intro hi hh
    rw [hW1]
    exact hI hi _ _ _ none (hI hi _ _ _ none (h0 hi (by omega)) (World.grownBy_alloc w _ none) (turn0 _ _)) (World.grownBy_alloc _ _ none) (turn0 _ _)
  have hKw : ∀ r, K r → r < s := fun r hr => by have := (hb0 r hr).1; omega
  have b1 : ∀ r, K r → r < w0.heap.size ∧ W1.heap[r]? = w0.heap[r]? := fun r hr => by
    refine ⟨(hb0 r hr).1, ?_⟩
    rw [hW1, ← (hb0 r hr).2]
    have := hKw r hr
    exact (Below.heap_alloc _ _ _ (by simp; omega)).trans (Below.heap_alloc _ _ _ (by omega))
  have nK : ¬ K (s + 1) := fun h => by have := hKw _ h; omega
  have step : ∀ {β : Type} {J : β → World → Prop} {hi : Nat}, AbidesC w.heap.size hi J → ∀ s' (A A' : World) (row : Option Nat), J s' A → A.grownBy A' row → MayTurn W1.heap.size hi A row → J s' A' :=
    fun hJ s' A A' row hj hgr hm => hJ s' A A' row hj hgr (fun r e => ⟨by have := (hm r e).1; omega, (hm r e).2⟩)
  have past : ∀ {hi : Nat} {A : World} {row : Option Nat}, MayTurn W1.heap.size hi A row → ∀ k, k < s + 2 → ∀ r, row = some r → r ≠ k := fun hm k hk r e => by have := (hm r e).1; omega
  refine ⟨s + 1, [{ target := .collected s, args := #[] }], W1, { target := .fn (.func gf) lb, args := #[.func (.yield (s + 1)) #[] #[]] }, W1, gf,
    #[.func (.yield (s + 1)) #[] #[]] ++ lb, W1, ?_, ?_, ?_, ?_, fun _ => h1, ?_⟩
  · rw [hW1, hL, hs]; exact run_enterLoop_outer _ _ _ _ _
  · simp only [resolve, hg]
    simp [go_sem]
  · intro f' hf'; simp [Target.leads] at hf'; subst hf'; exact hFg
  · simp [invoke, go_sem, eg]
  · refine (hseq (s + 1)
      (fun hi pre W => I hi pre W ∧ W.heap[s + 1]? = some (.loop (L .ready none)) ∧ W.heap[s]? = some (.deferred (some [])))
      (fun hi pre W => ∃ c, Ix c hi pre W ∧ W.heap[s + 1]? = some (.loop (L .done (some c))) ∧ W.heap[s]? = some (.deferred (some [])))
      W1 b1 (by omega)
      (fun hi p A A' row hj hgr hm => ⟨step (hI hi) p A A' row hj.1 hgr hm, grown_other hgr hj.2.1 (past hm _ (by omega)), grown_other hgr hj.2.2 (past hm _ (by omega))⟩)
      (fun hi p A A' row hj hgr hm => by
        obtain ⟨c, h1, h2, h3⟩ := hj
        exact ⟨c, step (hIx c hi) p A A' row h1 hgr hm, grown_other hgr h2 (past hm _ (by omega)), grown_other hgr h3 (past hm _ (by omega))⟩)
      ?_ (fun hi hh => ⟨i1 hi hh, r1, d1⟩)).mono ?_
    · rintro hi pre x W ⟨hi0, hl, hk⟩ hsp hlo hhi
      have hlt : s + 1 < W.heap.size := (Array.getElem?_eq_some_iff.1 hl).1
      have hy := run_yield (P := P) (args := encs x) hl (by rw [hL]; exact hps x)
      rw [hL] at hy
      have hg0 : W.grownBy (W.alloc (ob x)) none := World.grownBy_alloc W _ none
      have hlA : (W.alloc (ob x)).heap[s + 1]? = some (.loop (L .ready none)) := grown_other hg0 hl (fun r e => by cases e)
      have hkA : (W.alloc (ob x)).heap[s]? = some (.deferred (some [])) := grown_other hg0 hk (fun r e => by cases e)
      have hiA : I hi pre (W.alloc (ob x)) := hI hi _ _ _ none hi0 hg0 (turn0 _ _)
      have hhiA : hi ≤ (W.alloc (ob x)).heap.size := by simp; omega
      have hobA : (W.alloc (ob x)).heap[W.heap.size]? = some (ob x) := World.alloc_heap_new W _
      have kA : KeepsC K W1.heap.size hi W (W.alloc (ob x)) := KeepsC.grown hg0 (fun r hr => by have := hKw r hr; omega) (by omega) (fun r e => by cases e)
      refine ⟨fn, _, assign, body, hy, roundIn_of_wpIn hfn (hassign _ x W _ ⟨_, run_beginRound hlA (by rw [hL]), ?_⟩)⟩
      obtain ⟨WA, hWA⟩ : ∃ WA, WA = W.alloc (ob x) := ⟨_, rfl⟩
      rw [← hWA] at hlA hkA hiA hhiA hobA kA ⊢
      have hltA : s + 1 < WA.heap.size := (Array.getElem?_eq_some_iff.1 hlA).1
      obtain ⟨Wb, hWb⟩ : ∃ Wb, Wb = WA.putObj (s + 1) (.loop { L .ready none with state := .busy }) := ⟨_, rfl⟩
      have hl2 : Wb.heap[s + 1]? = some (.loop { L .ready none with state := .busy }) := by rw [hWb]; exact World.putObj_heap_same hltA
      have hk2 : Wb.heap[s]? = some (.deferred (some [])) := by rw [hWb]; exact (World.putObj_heap_other (by omega)).trans hkA
      have hob2 : Wb.heap[W.heap.size]? = some (ob x) := by rw [hWb]; exact (World.putObj_heap_other (by omega)).trans hobA
      have turnL : ∀ (A : World) (o : Obj), A.heap[s + 1]? = some o → o.isCells = false → MayTurn w.heap.size hi A (some (s + 1)) := fun A o ho hc r e => by cases e; exact ⟨by omega, .inr ⟨o, ho, hc⟩⟩
      have hib : I hi pre Wb := by rw [hWb]; exact hI hi _ _ _ _ hiA (grownBy_putObj' WA (s + 1) _) (turnL WA _ hlA rfl)
      have kb : KeepsC K W1.heap.size hi W Wb := kA.trans (by rw [hWb]; exact KeepsC.putObj WA _ nK (by omega))
      have hlo2 : w.heap.size + 2 ≤ hi := by omega
      have hbd := hbody (s + 1) hi W.heap.size pre x Wb hlo2 hhi hob2 hsp hib
      rw [hWb] at hbd
      refine wpIn_mono hbd ?_
      rw [← hWb]
      have fin : ∀ (jump : Option Code) (W3 : World), KeepsC K w.heap.size hi Wb W3 →
          (Instr.endRound (s + 1) jump).run P W3 = .ok (.bool jump.isNone) (W3.putObj (s + 1) (.loop (L (if jump.isNone then .ready else .done) jump))) ∧
          MayTurn w.heap.size hi W3 (some (s + 1)) ∧
          (W3.putObj (s + 1) (.loop (L (if jump.isNone then .ready else .done) jump))).heap[s + 1]? = some (.loop (L (if jump.isNone then .ready else .done) jump)) ∧
          (W3.putObj (s + 1) (.loop (L (if jump.isNone then .ready else .done) jump))).heap[s]? = some (.deferred (some [])) ∧
          KeepsC K W1.heap.size hi W3 (W3.putObj (s + 1) (.loop (L (if jump.isNone then .ready else .done) jump))) := fun jump W3 hk3 => by
        have hl3 : W3.heap[s + 1]? = some (.loop { L .ready none with state := .busy }) := (hk3.rows _ (.inr ⟨by omega, by omega⟩)).trans hl2
        have hr := run_endRound (P := P) jump hl3
        have e1 : ({ { L .ready none with state := .busy } with state := if jump.isNone then .ready else .done, pending := jump } : Loop) = L (if jump.isNone then .ready else .done) jump := by rw [hL]
        rw [e1] at hr
        exact ⟨hr, turnL W3 _ hl3 rfl, World.putObj_heap_same (Array.getElem?_eq_some_iff.1 hl3).1, (World.putObj_heap_other (by omega)).trans ((hk3.rows _ (.inr ⟨by omega, by omega⟩)).trans hk2), KeepsC.putObj W3 _ nK (by omega)⟩
      rintro e a3 W3 hp
      cases e with
      | normal =>
        obtain ⟨hk3, hi3⟩ := hp
        obtain ⟨hr, ht, hl4, hk4, hk5⟩ := fin none W3 hk3
        exact ⟨_, _, hr, .inl ⟨rfl, ⟨hI hi _ _ _ _ hi3 (grownBy_putObj' W3 (s + 1) _) ht, hl4, hk4⟩, kb.trans ((hk3.less (by omega)).trans hk5)⟩⟩
      | ret =>
        obtain ⟨hk3, hi3⟩ := hp
        obtain ⟨hr, ht, hl4, hk4, hk5⟩ := fin (some .ret) W3 hk3
        exact ⟨_, _, hr, .inr ⟨rfl, ⟨.ret, hIx _ hi _ _ _ _ hi3 (grownBy_putObj' W3 (s + 1) _) ht, hl4, hk4⟩, kb.trans ((hk3.less (by omega)).trans hk5)⟩⟩
      | exit id =>
        obtain ⟨hk3, hi3⟩ := hp
        obtain ⟨hr, ht, hl4, hk4, hk5⟩ := fin (some (.exit id)) W3 hk3
        exact ⟨_, _, hr, .inr ⟨rfl, ⟨.exit id, hIx _ hi _ _ _ _ hi3 (grownBy_putObj' W3 (s + 1) _) ht, hl4, hk4⟩, kb.trans ((hk3.less (by omega)).trans hk5)⟩⟩
      | goto t =>
        obtain ⟨hk3, hi3⟩ := hp
        obtain ⟨hr, ht, hl4, hk4, hk5⟩ := fin (some (.goto t)) W3 hk3
        exact ⟨_, _, hr, .inr ⟨rfl, ⟨.goto t, hIx _ hi _ _ _ _ hi3 (grownBy_putObj' W3 (s + 1) _) ht, hl4, hk4⟩, kb.trans ((hk3.less (by omega)).trans hk5)⟩⟩
      | panic ch => exact hp.elim
      | outgrown => exact hp.elim
    · rintro e W2 ⟨⟨v, rfl⟩, hi, hlo, (⟨xs, hS, hi2, hl, hk⟩ | ⟨pre, hSp, c, hi2, hl, hk⟩)⟩
      · have ht : MayTurn w.heap.size hi W2 (some (s + 1)) := fun r e => by cases e; exact ⟨by omega, .inr ⟨_, hl, rfl⟩⟩
        have hr := run_endLoop (P := P) hl (by rw [hL]; simp)
        obtain ⟨o3, ho3⟩ : ∃ o3 : Obj, o3 = .loop { L .ready none with state := .exhausted } := ⟨_, rfl⟩
        rw [← ho3] at hr
        have e2 : (L .ready none).pending = none := by rw [hL]
        rw [e2] at hr
        refine ⟨none, _, hr, ?_⟩
        have := hdone s hi xs _ (by omega) (by omega) hS (hI hi _ _ _ _ hi2 (grownBy_putObj' W2 (s + 1) o3) ht) ((World.putObj_heap_other (by omega)).trans hk)
        exact this
      · have ht : MayTurn w.heap.size hi W2 (some (s + 1)) := fun r e => by cases e; exact ⟨by omega, .inr ⟨_, hl, rfl⟩⟩
        have hr := run_endLoop (P := P) hl (by rw [hL]; simp)
        obtain ⟨o3, ho3⟩ : ∃ o3 : Obj, o3 = .loop { L .done (some c) with state := .exhausted } := ⟨_, rfl⟩
        rw [← ho3] at hr
        have e2 : (L .done (some c)).pending = some c := by rw [hL]
        rw [e2] at hr
        refine ⟨some c, _, hr, ?_⟩
        exact hstop s hi c pre _ (by omega) (by omega) hSp (hIx c hi _ _ _ _ hi2 (grownBy_putObj' W2 (s + 1) o3) ht) ((World.putObj_heap_other (by omega)).trans hk)
end Go.Proofs.YtmhemahkcbgaoaaGreatDoor
/- strings.TrimLeft at blanks. -/
namespace Go.Proofs.YtmhemahkcbgaoaaGreatDoor
set_option linter.unusedVariables false
set_option linter.unusedSimpArgs false
open Go.RowKit
theorem trim_eq (s : List UInt8) : Lib.trimLeftS s [32, 9] = s.dropWhile BlankB := by
  unfold Lib.trimLeftS
  congr 1
  funext x
  simp only [BlankB, List.contains_cons, List.contains_nil, Bool.or_false]
theorem trim_size (w : World) : (Tryz.prog.info? (Tryz.lays161_ren.t 116)).map (·.size) = some 256 := by kernel_rfl
theorem trimC (w : World) (s : List UInt8) : Calls Tryz.prog 65 #[.string (bstr s), .string (bstr [32, 9])] w fun e w' => e = .returned (.string (bstr (s.dropWhile BlankB))) ∧ Below w.heap.size w w' := by
  by_cases h0 : s = []
  · subst h0
    refine (Any.strings_TrimLeft_empty Tryz.lays161 (bstr []) (bstr [32, 9]) w (.inl (by rw [bstr_size]; rfl))).mono ?_
    rintro e w' ⟨rfl, rfl⟩
    exact ⟨rfl, Below.refl _ _⟩
  · have hl := List.length_pos_iff.2 h0
    refine (Any.strings_TrimLeft_set Tryz.lays161 (fun w => by kernel_rfl) (trim_size w) (bstr s) (bstr [32, 9]) w (by rw [bstr_size]; decide) (by rw [bstr_size]; exact hl) (by rw [bstr_size]; decide) (fun j b hj => ?_)).mono ?_
    · have hm : b ∈ [(32 : UInt8), 9] := List.mem_of_getElem? (by simpa [bstr] using hj)
      simp only [List.mem_cons, List.not_mem_nil, or_false] at hm
      rcases hm with rfl | rfl <;> decide
    · rintro e w' ⟨rfl, rfl⟩
      refine ⟨?_, ((Below.refl _ w).alloc (Nat.le_refl _) _).alloc (by simp) _⟩
      rw [← trim_eq]
      simp [bstr]
end Go.Proofs.YtmhemahkcbgaoaaGreatDoor
/- What a script says, by the program's iterator. -/
namespace Go.Proofs.YtmhemahkcbgaoaaGreatDoor
set_option linter.unusedVariables false
set_option linter.unusedSimpArgs false
open Go.RowKit Go.Shelf
open Go.Lib hiding intOf
attribute [local go_sem] Oper.semAt_some
def rowV7 (x : Nat × List UInt8) : Array Value := #[.int .i64 (x.1 : Int), .string (bstr x.2)]
theorem allC (w : World) (s : ByteArray) : Calls Tryz.prog 64 #[.string s] w fun e w' => e = .returned (.func (.func 82) #[] #[.pointer (some ⟨w.heap.size, 0, none⟩)]) ∧ w.alloc (.cells #[.string s] 9) = w' := by
  go_enter Tryz.func64, Tryz.ntmps64
  go_wp2
  go_ret
  exact ⟨rfl, rfl⟩
theorem linesC7 (w : World) (s : ByteArray) : Calls Tryz.prog 48 #[.string s] w fun e w' => e = .returned (.func (.func 63) #[] #[.pointer (some ⟨w.heap.size, 0, none⟩)]) ∧ w.alloc (.cells #[.string s] 9) = w' := by
  go_enter Tryz.func48, Tryz.ntmps48
  go_wp2
  go_ret
  exact ⟨rfl, rfl⟩
set_option maxHeartbeats 4000000 in
set_option maxRecDepth 100000 in
theorem rows1 (m : Nat) (hm : 8 ≤ m) (B0 b1 : Nat) (w0 : World) (l : List UInt8) (h1 : w0.heap[b1]? = some (.cells #[.string (bstr l)] 9 (0, 0))) (hl : l.length ≤ 1048700) (hT : Tabs w0) (hB0 : 7 ≤ B0) (hB1 : B0 ≤ w0.heap.size) :
    SeqC Fence.wide m Tryz.prog 63 #[.pointer (some ⟨b1, 0, none⟩)] rowV7 (fun r => r < B0 ∨ r = b1) w0 (fun xs => xs = rowsL l) (fun pre => pre <+: rowsL l) := by
  intro l0 J Jx W hW hn0 hJ hJx hY h0
  have k1 : Boxed W b1 9 (.string (bstr l)) := ((hW b1 (.inr rfl)).2).trans h1
  have hTW : Tabs W := hT.rows (fun r hr => (hW r (.inl (by omega))).2) hn0
  have l1 := k1.lt
  have hB2 : B0 ≤ W.heap.size := by omega
  clear hW h1 hT
  have c1 := k1.cell
  obtain ⟨lo, hlo⟩ : ∃ lo, lo = W.heap.size := ⟨_, rfl⟩
  have HTW := Lib.hid hTW
  have HJ := Lib.hid hJ
  have HJX := Lib.hid hJx
  have HY := Lib.hid hY
  have H0 := Lib.hid h0
  clear hJ hJx hY h0 hTW
  have hm1 : 1 ≤ m := by omega
  refine callsIn_of_wp_marks Tryz.func63 rfl trivial ?_ rfl
  simp only [Tryz.ntmps63, List.size_toArray, List.length_cons, List.length_nil, Nat.reduceAdd, Nat.reduceSub, Array.replicate_succ, Array.replicate_zero, List.push_toArray, List.append_toArray, List.nil_append, List.cons_append]
  gi_wp2_with (refine ⟨trivial, ?_⟩; gi_at_call 64; refine (callsIn_wide.2 (allC _ _)).mono ?_; rintro e w' ⟨rfl, hw'⟩)
  clear c1
  obtain ⟨Wa, hWa⟩ : ∃ Wa, Wa = (W.alloc (.cells #[.func (.yield l0) #[] #[]] 109)).alloc (.cells #[.int .i64 0] 3) := ⟨_, rfl⟩
  rw [← hWa] at hw'
  have za : Wa.heap.size = lo + 2 := by rw [hWa, hlo]; simp
  have ba : Below W.heap.size W Wa := by rw [hWa]; exact ((Below.refl _ W).alloc (Nat.le_refl _) _).alloc (by simp) _
  have y1 : Boxed Wa lo 109 (.func (.yield l0) #[] #[]) := by rw [hWa, hlo]; exact (Boxed.new W _ _).alloc _
  have y2 : Boxed Wa (lo + 1) 3 (.int .i64 0) := by
    rw [hWa, hlo]
    have := Boxed.new (W.alloc (.cells #[.func (.yield l0) #[] #[]] 109)) 3 (.int .i64 0)
    rwa [World.size_alloc] at this
  have hbox := Boxed.new Wa 9 (.string (bstr l))
  have zb : (Wa.alloc (.cells #[.string (bstr l)] 9)).heap.size = lo + 3 := by simp [za]
  have bb : Below W.heap.size W (Wa.alloc (.cells #[.string (bstr l)] 9)) := ba.alloc (by rw [za, ← hlo]; omega) _
  rw [za] at hbox
  have gb : W.grownBy (Wa.alloc (.cells #[.string (bstr l)] 9)) none := grown_below bb
  have y3 : Boxed (Wa.alloc (.cells #[.string (bstr l)] 9)) lo 109 (.func (.yield l0) #[] #[]) := y1.alloc _
  have y4 : Boxed (Wa.alloc (.cells #[.string (bstr l)] 9)) (lo + 1) 3 (.int .i64 0) := y2.alloc _
  have y5 : Boxed (Wa.alloc (.cells #[.string (bstr l)] 9)) b1 9 (.string (bstr l)) := (bb.block b1 l1).trans k1
  have hT5 : Tabs (Wa.alloc (.cells #[.string (bstr l)] 9)) := HTW.out.rows (fun r hr => bb.block r (by omega)) bb.size
  rw [hw'] at zb hbox gb y3 y4 y5 hT5
  rw [← hlo] at HJ HJX HY H0 l1 hB2 ⊢
  have HLO := Lib.hid hlo
  clear hlo hWa hw' bb
  clear y1 y2 ba za k1
  have HT5 := Lib.hid hT5
  clear hT5
  have hseq := all1 (m - 1) (by omega) B0 (lo + 2) w' l hbox hl HT5.out hB0 (by omega)
  refine wpIn_rangeFunc_A rfl hm1 (gf := 82) (lb := #[.pointer (some ⟨lo + 2, 0, none⟩)]) rfl trivial (enters_of Tryz.func82 (by kernel_rfl) rfl)
    hseq (fun r hr => ⟨by omega, rfl⟩) (Nat.le_refl _) (fun _ => rfl)
    (fun hi pre Wx => J hi (rowSt l pre).1 Wx ∧ Boxed Wx lo 109 (.func (.yield l0) #[] #[]) ∧ Boxed Wx (lo + 1) 3 (.int .i64 ((rowSt l pre).2 : Int)) ∧ Boxed Wx b1 9 (.string (bstr l)))
    (fun c hi pre Wx => c = .ret ∧ Jx hi (rowSt l pre).1 Wx) ?hI ?hIx ?h0 (fun x => .cells #[.int .i64 (x.1 : Int), .int .i64 (x.2.1 : Int)] 83 (0, 0))
    (fun x g => { tmps := #[.func (.yield l0) #[] #[], .pointer (some ⟨b1, 0, none⟩), .pointer (some ⟨lo, 0, none⟩), .pointer (some ⟨lo + 1, 0, none⟩), .pointer (some ⟨g, 0, none⟩), undef, undef, .string (bstr l), .func (.func 82) #[] #[.pointer (some ⟨lo + 2, 0, none⟩)], .agg #[.int .i64 (x.1 : Int), .int .i64 (x.2.1 : Int)], .int .i64 (x.2.2 : Int), undef, undef, undef, undef, undef, undef, undef, undef, undef, undef, undef, undef, undef, undef, undef, undef, undef, undef, undef, undef, undef, undef, undef], defers := [] }) ?assign ?body ?done ?stop
  case assign =>
    intro l' x Wx K hK
    obtain ⟨xa, xb, xe⟩ := x
    unfold pieceV
    gi_wp2
    exact hK
  case hI =>
    rintro hi pre A A' row ⟨h1, h2, h3, h4⟩ hg ht
    have ne : ∀ k, k < lo + 3 → some k ≠ row := fun k hk e => by have := (ht k e.symm).1; omega
    exact ⟨HJ.out hi _ A A' row h1 hg (fun r e => ⟨by have := (ht r e).1; omega, (ht r e).2⟩), h2.kept hg (ne _ (by omega)), h3.kept hg (ne _ (by omega)), h4.kept hg (ne _ (by omega))⟩
  case hIx =>
    rintro c hi pre A A' row ⟨h1, h2⟩ hg ht
    exact ⟨h1, HJX.out hi _ A A' row h2 hg (fun r e => ⟨by have := (ht r e).1; omega, (ht r e).2⟩)⟩
  case h0 =>
    intro hi hh
    exact ⟨HJ.out hi _ W _ none (H0.out hi (by omega)) gb (fun r e => by cases e), y3, y4, y5⟩
  case done =>
    rintro D hi xs Wx hD hDh rfl ⟨q1, q2, q3, q4⟩ hd
    gi_wp2
    refine ⟨by simp, .inl ⟨_, _, rfl, run_takeDeferred hd, ?_⟩⟩
    refine ⟨_, results_none rfl _ _ _, ⟨_, rfl⟩, hi, by have := HLO.out; omega, .inl ⟨_, rfl, ?_⟩⟩
    exact HJ.out hi _ Wx _ (some D) q1 (grownBy_putObj' Wx D _) (fun r e => by cases e; exact ⟨by omega, .inl hDh⟩)
  case stop =>
    rintro D hi c pre Wx hD hDh hpre ⟨rfl, q1⟩ hd
    gi_wp2
    refine ⟨by simp, .inl ⟨_, _, rfl, run_takeDeferred hd, ?_⟩⟩
    refine ⟨_, results_none rfl _ _ _, ⟨_, rfl⟩, hi, by have := HLO.out; omega, .inr ⟨_, ?_, HJX.out hi _ Wx _ (some D) q1 (grownBy_putObj' Wx D _) (fun r e => by cases e; exact ⟨by omega, .inl hDh⟩)⟩⟩
    obtain ⟨r, hr⟩ := hpre
    rw [rowsL, ← hr]
    exact rowSt_prefix l pre r
  case body =>
    rintro l' hi g pre x Wx hhi1 hhi2 hob hpx ⟨hj, y1, y2, y3⟩
    obtain ⟨xa, xb, xe⟩ := x
    have hpok := linesL_ok l (xa, xb, xe) (hpx.subset (List.mem_append_right _ (List.mem_singleton_self _)))
    have hpl := hpx.length_le
    have hll := linesL_len l
    rw [List.length_append, List.length_singleton] at hpl
    have hnum := rowSt_num l pre
    obtain ⟨k, hk⟩ : ∃ k, (rowSt l pre).2 = k := ⟨_, rfl⟩
    rw [hk] at hnum y2
    have hkl : k ≤ 1048701 := by omega
    obtain ⟨S, hS⟩ : ∃ S, pieceL l (xa, xb, xe) = S := ⟨_, rfl⟩
    have hex : (bstr l).extract xa xb = bstr S := by rw [← hS, bstr_extract]; rfl
    have hSl : S.length ≤ 1048700 := by rw [← hS, pieceL_len hpok]; omega
    have hnext : rowSt l (pre ++ [(xa, xb, xe)]) = if saysL S then ((rowSt l pre).1 ++ [(k + 1, S)], k + 1) else ((rowSt l pre).1, k + 1) := by rw [rowSt_next, rowStep, hS, hk]
    simp only at hpok
    obtain ⟨hab, hbl⟩ := hpok
    have i1 : (xa : Int) ≤ (xb : Int) := by omega
    have i2 : (xb : Int) ≤ (l.length : Int) := by omega
    have hsz := bstr_size l
    have hszS := bstr_size S
    have hgn : lo + 1 ≠ g := by omega
    have hbn : lo + 1 ≠ b1 := by omega
    have r0 : Row Wx g 83 [.int .i64 (xa : Int), .int .i64 (xb : Int)] := hob
    have z1 := y1.other (B' := lo + 1) (by omega) (.int .i64 ((k : Int) + 1))
    have z2 := y2.set (.int .i64 ((k : Int) + 1))
    have z3 := y3.other (B' := lo + 1) (by omega) (.int .i64 ((k : Int) + 1))
    have zr := r0.other (p := ⟨lo + 1, 0, none⟩) (by show lo + 1 ≠ g; omega) (.int .i64 ((k : Int) + 1))
    have g0 := zr.cell 0
    have g1 := zr.cell 1
    have c2 := y2.cell
    have f2 := y2.frozen
    have c3 := z3.cell
    simp only [List.getElem?_cons_zero, List.getElem?_cons_succ] at g0 g1
    have hlt := (Array.getElem?_eq_some_iff.1 hob).1
    have gW : Wx.grownBy (Wx.setCell ⟨lo + 1, 0, none⟩ (.int .i64 ((k : Int) + 1))) (some (lo + 1)) := grownBy_setCell' Wx (lo + 1) _
    have mt : MayTurn lo hi Wx (some (lo + 1)) := fun r e => by cases e; exact ⟨by omega, .inl (by omega)⟩
    have kW : KeepsC (fun r => r < B0 ∨ r = lo + 2) w'.heap.size hi Wx (Wx.setCell ⟨lo + 1, 0, none⟩ (.int .i64 ((k : Int) + 1))) :=
      KeepsC.grown gW (fun r hr => by have hr : r < B0 ∨ r = lo + 2 := hr; omega) (by have := (Array.getElem?_eq_some_iff.1 hob).1; omega) (fun r e => by cases e; exact ⟨fun h => by have h : lo + 1 < B0 ∨ lo + 1 = lo + 2 := h; omega, .inl (by omega)⟩)
    have KEY : Hid (∀ W2, Below (Wx.setCell ⟨lo + 1, 0, none⟩ (.int .i64 ((k : Int) + 1))).heap.size (Wx.setCell ⟨lo + 1, 0, none⟩ (.int .i64 ((k : Int) + 1))) W2 → J hi (rowSt l pre).1 W2 ∧ Boxed W2 lo 109 (.func (.yield l0) #[] #[]) ∧ Boxed W2 (lo + 1) 3 (.int .i64 ((k : Int) + 1)) ∧ Boxed W2 b1 9 (.string (bstr l)) ∧ KeepsC (fun r => r < B0 ∨ r = lo + 2) w'.heap.size hi Wx W2 ∧ hi ≤ W2.heap.size) := Lib.hid (fun W2 hb => by
      have g2 := grown_below hb
      have zs := hb.size
      have hs2 : hi ≤ (Wx.setCell ⟨lo + 1, 0, none⟩ (.int .i64 ((k : Int) + 1))).heap.size := by have := gW.size; omega
      refine ⟨HJ.out hi _ _ _ none (HJ.out hi _ Wx _ _ hj gW mt) g2 (fun r e => by cases e), z1.kept g2 (fun e => by cases e), z2.kept g2 (fun e => by cases e), z3.kept g2 (fun e => by cases e), kW.trans (KeepsC.grown g2 (fun r hr => by have hr : r < B0 ∨ r = lo + 2 := hr; omega) hs2 (fun r e => by cases e)), by omega⟩)
    have HNX := Lib.hid hnext
    have HPX := Lib.hid hpx
    obtain ⟨Wy, hWy⟩ : ∃ Wy, Wy = Wx.setCell ⟨lo + 1, 0, none⟩ (.int .i64 ((k : Int) + 1)) := ⟨_, rfl⟩
    clear z1 z2 z3 zr gW mt kW hnext hpx hnum hob r0 hj y1 y2 y3 hk hS hpl hll
    obtain ⟨T, hTd⟩ : ∃ T, S.dropWhile BlankB = T := ⟨_, rfl⟩
    have hTC := fun w1 => trimC w1 S
    rw [hTd] at hTC
    have HTC := Lib.hid hTC
    clear hTC
    rcases T with _ | ⟨c, T⟩
    · have HSY : Hid (saysL S = false) := Lib.hid (by unfold saysL; rw [hTd])
      clear hTd
      gi_wp2_with (refine ⟨trivial, fun h => (by cases h), ?_⟩; gi_at_call 65; refine (CallsIn.inRound l' (callsIn_wide.2 (HTC.out _))).mono ?_; rintro e W2 ⟨rfl, hb2⟩)
      obtain ⟨k1, k2, k3, k4, k5, k6⟩ := KEY.out W2 hb2
      refine ⟨k5, ?_⟩
      dsimp only
      rw [HNX.out, HSY.out]
      exact ⟨k1, k2, k3, k4⟩
    · have HSY : Hid (saysL S = (c != 35)) := Lib.hid (by unfold saysL; rw [hTd])
      clear hTd
      have hc0 : (bstr (c :: T))[0]'(by rw [bstr_size]; simp) = c := bstr_at (l := c :: T) (k := 0) rfl _
      by_cases hq : c = 35
      · have b36 : ((c.toNat : Int) == 35) = true := by rw [hq]; rfl
        gi_wp2_with (refine ⟨trivial, fun h => (by cases h), ?_⟩; gi_at_call 65; refine (CallsIn.inRound l' (callsIn_wide.2 (HTC.out _))).mono ?_; rintro e W2 ⟨rfl, hb2⟩)
        obtain ⟨k1, k2, k3, k4, k5, k6⟩ := KEY.out W2 hb2
        refine ⟨k5, ?_⟩
        dsimp only
        rw [HNX.out, HSY.out, hq]
        exact ⟨k1, k2, k3, k4⟩
      · have b36 : ((c.toNat : Int) == 35) = false := byte_ne (n := 35) (by decide) hq
        gi_wp2_with (refine ⟨trivial, fun h => (by cases h), ?_⟩; gi_at_call 65; refine (CallsIn.inRound l' (callsIn_wide.2 (HTC.out _))).mono ?_; rintro e W2 ⟨rfl, hb2⟩)
        obtain ⟨k1, k2, k3, k4, k5, k6⟩ := KEY.out W2 hb2
        have c2 := k2.cell
        have c4 := k3.cell
        have K2 : Hid (J hi (rowSt l pre).1 W2 ∧ Boxed W2 lo 109 (.func (.yield l0) #[] #[]) ∧ Boxed W2 (lo + 1) 3 (.int .i64 ((k : Int) + 1)) ∧ Boxed W2 b1 9 (.string (bstr l)) ∧ KeepsC (fun r => r < B0 ∨ r = lo + 2) w'.heap.size hi Wx W2 ∧ hi ≤ W2.heap.size) := Lib.hid ⟨k1, k2, k3, k4, k5, k6⟩
        clear k1 k2 k3 k4 k5 k6 hb2
        have hok : (rowSt l pre).1 ++ [(k + 1, S)] <+: rowsL l := by
          obtain ⟨r, hr⟩ := HPX.out
          have h := rowSt_prefix l (pre ++ [(xa, xb, xe)]) r
          rw [hr, HNX.out, HSY.out] at h
          have hq2 : (c != 35) = true := by simpa using hq
          rw [if_pos hq2] at h
          exact h
        have hrow : rowV7 (k + 1, S) = #[.int .i64 ((k : Int) + 1), .string (bstr S)] := by simp [rowV7]
        have HYY : Hid (∀ W3, Below W2.heap.size W2 W3 → (W3.cell? ⟨lo, 0, none⟩ = some (.func (.yield l0) #[] #[]) ∧ W3.cell? ⟨lo + 1, 0, none⟩ = some (.int .i64 ((k : Int) + 1))) ∧ ∃ (fn : Nat) (tmps : Array Value) (assign body : Code), (Instr.yield l0 #[.int .i64 ((k : Int) + 1), .string (bstr S)]).run Tryz.prog W3 = .ok (.round l0 fn tmps assign body) W3 ∧ RoundIn Fence.wide (m - 1) Tryz.prog l0 fn tmps assign body W3 fun e W' =>
          ∃ b : Bool, e = .returned (.bool b) ∧ KeepsC (fun r => r < B0 ∨ r = b1) lo hi W3 W' ∧ (b = true → J hi ((rowSt l pre).1 ++ [(k + 1, S)]) W') ∧ (b = false → Jx hi ((rowSt l pre).1 ++ [(k + 1, S)]) W')) := Lib.hid (fun W3 hb => by
          have hj3 := HJ.out hi _ W2 W3 none K2.out.1 (grown_below hb) (fun r e => by cases e)
          refine ⟨⟨(K2.out.2.1.kept (grown_below hb) (fun e => by cases e)).cell, (K2.out.2.2.1.kept (grown_below hb) (fun e => by cases e)).cell⟩, ?_⟩
          obtain ⟨fn, tmps, assign, body, hy, hR⟩ := HY.out hi _ (k + 1, S) W3 hj3 hok (by omega) (by have := K2.out.2.2.2.2.2; have := hb.size; omega)
          rw [hrow] at hy
          refine ⟨fn, tmps, assign, body, hy, hR.mono ?_⟩
          rintro e W' (⟨rfl, h1, h2⟩ | ⟨rfl, h1, h2⟩)
          · exact ⟨true, rfl, h2, fun _ => h1, fun h => (by cases h)⟩
          · exact ⟨false, rfl, h2, fun h => (by cases h), fun _ => h1⟩)
        clear hok hrow
        have HNY : Hid (rowSt l (pre ++ [(xa, xb, xe)]) = ((rowSt l pre).1 ++ [(k + 1, S)], k + 1)) := Lib.hid (by
          have hq2 : (c != 35) = true := by simpa using hq
          rw [HNX.out, HSY.out, if_pos hq2])
        have FIN : Hid (∀ W3 W4, Below W2.heap.size W2 W3 → KeepsC (fun r => r < B0 ∨ r = b1) lo hi W3 W4 → KeepsC (fun r => r < B0 ∨ r = lo + 2) (lo + 3) hi Wx W4 ∧ Boxed W4 lo 109 (.func (.yield l0) #[] #[]) ∧ Boxed W4 (lo + 1) 3 (.int .i64 ((k : Int) + 1)) ∧ Boxed W4 b1 9 (.string (bstr l))) := Lib.hid (fun W3 W4 hb hk4 => by
          have g3 := grown_below hb
          have q5 := K2.out.2.2.2.2.1
          rw [zb] at q5
          have q6 := K2.out.2.2.2.2.2
          refine ⟨(q5.trans (KeepsC.grown g3 (fun r hr => by have hr : r < B0 ∨ r = lo + 2 := hr; omega) q6 (fun r e => by cases e))).trans (hk4.sub2 (by omega) (fun r hr => ?_)), ?_, ?_, ?_⟩
          · rcases (show r < B0 ∨ r = lo + 2 from hr) with h | h
            · exact .inl (.inl h)
            · exact .inr ⟨by omega, by omega⟩
          · exact (hk4.rows lo (.inr ⟨Nat.le_refl _, by omega⟩)).trans (K2.out.2.1.kept g3 (fun e => by cases e))
          · exact (hk4.rows (lo + 1) (.inr ⟨by omega, by omega⟩)).trans (K2.out.2.2.1.kept g3 (fun e => by cases e))
          · exact (hk4.rows b1 (.inl (.inr rfl))).trans (K2.out.2.2.2.1.kept g3 (fun e => by cases e)))
        gi_region_with (first
          | (refine ⟨trivial, fun h => (by cases h), ?_⟩; gi_at_call 28; refine (CallsIn.inRound l' (callsIn_wide.2 (cloneC _ S (by omega)))).mono ?_; rintro e W3 ⟨rfl, hb3⟩; have hb3 : Below W2.heap.size W2 W3 := (((Quiet.refl W2).drewN 1).below W2.heap.size).trans hb3; obtain ⟨⟨d2, d4⟩, fn, tmps, assign, body, hy, hR⟩ := HYY.out W3 hb3; have HR := Lib.hid (RoundIn_any (l' := l') (m' := m - 1 - 1 - 1) rfl hR); have HB3 := Lib.hid hb3; clear hR hb3)
          | (refine ⟨fun h => (by first | omega | cases h), ?_⟩; refine HR.out.mono ?_; rintro e W4 ⟨b, rfl, hk4, ht4, hf4⟩; have H4 := Lib.hid (And.intro hk4 (And.intro ht4 hf4)); clear hk4 ht4 hf4))
        all_goals
          rcases b with _ | _
          all_goals gi_wp2
        all_goals
          obtain ⟨k4, t4, f4⟩ := H4.out
          obtain ⟨q1, q2, q3, q4⟩ := FIN.out _ _ HB3.out k4
          first
            | (refine ⟨q1, rfl, ?_⟩; try dsimp only
               rw [HNY.out]; exact f4 (by first | rfl | trivial))
            | (refine ⟨q1, ?_⟩; try dsimp only
               rw [HNY.out]; exact ⟨t4 (by first | rfl | trivial), q2, q3, q4⟩)
end Go.Proofs.YtmhemahkcbgaoaaGreatDoor
