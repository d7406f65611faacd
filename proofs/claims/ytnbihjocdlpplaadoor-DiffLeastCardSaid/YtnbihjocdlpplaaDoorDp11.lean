/- Texts joined, one behind the other (DSideR, Iter, DLineB). -/
import Derived.Test.YtnbihjocdlpplaaDoorDp10
import Derived.RangeFuncNested
import Derived.RangeFuncBound
import Derived.RangeFuncCalls
import Derived.RangeFuncLeaves
import Derived.Shelf.Abstract
import Derived.Shelf.RegionOpen
import Derived.OwnWalkIn
import Derived.TacticsInMore
import Derived.LoopNIn
import Derived.LoopIn
import Derived.Scope
/- The sides of a patch and texts put together, by the reference. -/
namespace Go.Proofs.YtnbihjocdlpplaaDoor
set_option linter.unusedVariables false
set_option linter.unusedSimpArgs false
open Go.RowKit
open Go.Lib
set_option maxHeartbeats 4000000 in
set_option maxRecDepth 100000 in
theorem sideR (w : World) (a : Option Addr) (n c : Nat) (X : List HkI) (k : Int) (hX : ReadsK w a n X) (hn : n ≤ 1073741824) (hl : linesK X ≤ 1073741824) :
    Calls Tryd.prog 51 #[.slice a n c, .int .i64 k] w fun e w' => ∃ v, e = .returned v ∧ StrOwn w.heap.size v (sideI k X) w' ∧ Below w.heap.size w w' := by
  have HX := Lib.hid hX
  have HL := Lib.hid hl
  have HN := Lib.hid hX.len
  have H0 : Hid (StrOwn w.heap.size (.slice none 0 0) [] w) := Lib.hid (World.ownsRow_nil _ _ _ _)
  clear hX hl
  go_enter Tryd.func51, Tryd.ntmps51
  go_wp2
  go_loopw [5, 6] (fun vv ui wr => ∃ i : Nat, ui = .int .i64 (i : Int) ∧ i ≤ n ∧ Hid (StrOwn w.heap.size vv (sideI k (X.take i)) wr ∧ Below w.heap.size w wr)) (fun _ ui _ => n - (RowKit.intOf ui).toNat)
  case atStart => exact ⟨0, rfl, Nat.zero_le _, Lib.hid ⟨H0.out, Below.refl _ _⟩⟩
  case round =>
    obtain ⟨i, rfl, hi, HR⟩ := hrel
    obtain ⟨vv, rfl⟩ : ∃ v : Value, v = u5 := ⟨_, rfl⟩
    by_cases hlt : i < n
    · obtain ⟨b, off, x, ad, m, cm, rfl, hb, hx, hc0, hc1, hrs, hmc, hcm, hm⟩ := (HX.out.keep HR.out.2 (Nat.le_refl _)).at hlt
      have hlx : linesK (X.take (i + 1)) ≤ 1073741824 := Nat.le_trans (linesK_take _ _) HL.out
      have hs1 : (sideI k (X.take i)).length + m ≤ 1073741824 := by
        rw [take_next hx, linesK_app] at hlx
        have h1 := sideI_len k (X.take i)
        have h2 : linesK [x] = m := by simp [linesK, hm]
        omega
      have HNX := Lib.hid (sideI_next (k := k) hx)
      obtain ⟨kd, hkd⟩ : ∃ kd, kd = x.1 := ⟨_, rfl⟩
      rw [← hkd] at hc0 HNX
      have HRS := Lib.hid hrs
      have HM := Lib.hid hm
      have hwb := HR.out.2.size
      have hit : (i : Int) < (n : Int) := by omega
      clear hx hrs hm hlx
      by_cases h1 : kd = 1 ∨ kd = k
      · rw [if_pos h1] at HNX
        have hbe : (kd == 1) = true ∨ ((kd == 1) = false ∧ (kd == k) = true) := by
          by_cases e : kd = 1
          · exact .inl (by rw [e]; rfl)
          · exact .inr ⟨by rw [beq_eq_false_iff_ne]; exact e, by rw [beq_iff_eq]; exact h1.resolve_left e⟩
        clear h1 hkd
        rcases hbe with q1 | ⟨q1, q2⟩
        all_goals
          go_wp2_with (at_builtin; refine appSlice rfl _ _ rfl Tryd.underlying29 (.string ByteArray.empty) 1 16 infoStr rfl (by decide) (by decide) w.heap.size vv (sideI k (X.take i)).length ((sideI k (X.take i)).map S1) rfl HR.out.1 ad m cm (x.2.map S1) rfl (by rw [List.length_map, HM.out, Nat.mul_one]) HRS.out.srcs (S1_one _) (by omega) hwb ?_; intro v8 w8 hO8 hg8)
          have HO8 : Hid (StrOwn w.heap.size v8 (sideI k (X.take (i + 1))) w8 ∧ Below w.heap.size w w8) := by
            refine Lib.hid ⟨by rw [HNX.out]; exact StrOwn.apps HM.out.symm hO8, ?_⟩
            exact HR.out.2.grown hg8 hwb (fun k hk => (World.ownsRow.lt HR.out.1 k hk).1)
          clear hO8 hg8
          go_roundw
          case rel => exact ⟨i + 1, by go_num, hlt, HO8⟩
          case measure => simp [RowKit.intOf]; omega
      · rw [if_neg h1, List.append_nil] at HNX
        have q1 : (kd == 1) = false := by rw [beq_eq_false_iff_ne]; exact fun e => h1 (.inl e)
        have q2 : (kd == k) = false := by rw [beq_eq_false_iff_ne]; exact fun e => h1 (.inr e)
        have hq1 : kd ≠ 1 := fun e => h1 (.inl e)
        have hq2 : kd ≠ k := fun e => h1 (.inr e)
        clear h1 hkd
        go_wp2
        go_roundw
        case rel => exact ⟨i + 1, by go_num, hlt, Lib.hid ⟨by rw [HNX.out]; exact HR.out.1, HR.out.2⟩⟩
        case measure => simp [RowKit.intOf]; omega
    · obtain rfl : i = n := by omega
      have hd : X.take i = X := List.take_of_length_le (by rw [HN.out]; exact Nat.le_refl _)
      have HD := Lib.hid hd
      clear hd
      go_wp2
      go_ret
      have h9 := HR.out.1
      rw [HD.out] at h9
      exact ⟨_, rfl, h9, HR.out.2⟩
theorem flat_next {L : List (List UInt8)} {i : Nat} {x : List UInt8} (h : L[i]? = some x) : (L.take (i + 1)).flatten = (L.take i).flatten ++ x := by
  rw [take_next h, List.flatten_append]
  simp
theorem flat_take (L : List (List UInt8)) (i : Nat) : (L.take i).flatten.length ≤ L.flatten.length := by
  have : L.flatten = (L.take i).flatten ++ (L.drop i).flatten := by rw [← List.flatten_append, List.take_append_drop]
  rw [this, List.length_append]
  omega
set_option maxHeartbeats 4000000 in
set_option maxRecDepth 100000 in
theorem joinR (w : World) (a : Option Addr) (n c : Nat) (L : List (List UInt8)) (h : ReadsS w a n L) (hn : n ≤ 1073741824) (hl : L.flatten.length ≤ 1099511627776) :
    Calls Tryd.prog 52 #[.slice a n c] w fun e w' => e = .returned (.string (bstr L.flatten)) ∧ Below w.heap.size w w' := by
  have HX := Lib.hid h
  have HL := Lib.hid hl
  have HN := Lib.hid h.len
  have H0 : Hid (OwnB w.heap.size (.slice none 0 0) [] w) := Lib.hid (World.ownsRow_nil _ _ _ _)
  clear h hl
  go_enter Tryd.func52, Tryd.ntmps52
  go_wp2
  go_loopw [3, 4] (fun vv ui wr => ∃ i : Nat, ui = .int .i64 (i : Int) ∧ i ≤ n ∧ Hid (OwnB w.heap.size vv (L.take i).flatten wr ∧ Below w.heap.size w wr)) (fun _ ui _ => n - (RowKit.intOf ui).toNat)
  case atStart => exact ⟨0, rfl, Nat.zero_le _, Lib.hid ⟨H0.out, Below.refl _ _⟩⟩
  case round =>
    obtain ⟨i, rfl, hi, HR⟩ := hrel
    obtain ⟨vv, rfl⟩ : ∃ v : Value, v = u3 := ⟨_, rfl⟩
    by_cases hlt : i < n
    · obtain ⟨b, off, x, rfl, hb, hx, hc0⟩ := (HX.out.keep HR.out.2 (Nat.le_refl _)).at hlt
      have HF := Lib.hid (flat_next hx)
      have hfx := flat_take L (i + 1)
      rw [HF.out, List.length_append] at hfx
      have hL := HL.out
      have l1 : (L.take i).flatten.length ≤ 1099511627776 := by omega
      have l2 : x.length ≤ 1099511627776 := by omega
      have hwb := HR.out.2.size
      have hit : (i : Int) < (n : Int) := by omega
      clear hx hfx hL
      go_wp2_with (at_builtin; refine appStr rfl _ _ rfl w.heap.size w vv (L.take i).flatten x rfl HR.out.1 rfl l1 l2 HR.out.2 hwb ?_; intro v8 w8 hO8 hb8 hs8)
      have HO8 : Hid (OwnB w.heap.size v8 (L.take (i + 1)).flatten w8 ∧ Below w.heap.size w w8) := Lib.hid ⟨by rw [HF.out]; exact hO8, hb8⟩
      clear hO8 hb8
      go_roundw
      case rel => exact ⟨i + 1, by go_num, hlt, HO8⟩
      case measure => simp [RowKit.intOf]; omega
    · obtain rfl : i = n := by omega
      have hd : L.take i = L := List.take_of_length_le (by rw [HN.out]; exact Nat.le_refl _)
      have hcv := conv_own HR.out.1
      rw [hd] at hcv
      clear hd
      go_wp2
      go_ret
      exact ⟨rfl, HR.out.2⟩
end Go.Proofs.YtnbihjocdlpplaaDoor
/- A range over a function whose iterator keeps state of its own in cells: what the iterator owes, what the caller owes. -/
namespace Go.Proofs.YtnbihjocdlpplaaDoor
open Go.RowKit Go.Shelf

/-- the rows that an iterator may turn: its own, from lo up to hi, and from lo on whatever is no cells -/
def MayTurn (lo hi : Nat) (A : World) (row : Option Nat) : Prop := ∀ r, row = some r → lo ≤ r ∧ (r < hi ∨ ∃ o : Obj, A.heap[r]? = some o ∧ o.isCells = false)
def AbidesC {β : Type} (lo hi : Nat) (J : β → World → Prop) : Prop := ∀ s A A' row, J s A → A.grownBy A' row → MayTurn lo hi A row → J s A'
/-- what a round that goes on keeps for its iterator: the rows of K, the iterator's own rows, and from lo on whatever is no cells -/
structure KeepsC (K : Nat → Prop) (lo hi : Nat) (W W' : World) : Prop where
  size : W.heap.size ≤ W'.heap.size
  rows : ∀ r, K r ∨ (lo ≤ r ∧ r < hi) → W'.heap[r]? = W.heap[r]?
  others : ∀ r (o : Obj), lo ≤ r → W.heap[r]? = some o → o.isCells = false → W'.heap[r]? = some o

theorem KeepsC.refl (K : Nat → Prop) (lo hi : Nat) (W : World) : KeepsC K lo hi W W := ⟨Nat.le_refl _, fun _ _ => rfl, fun _ _ _ h _ => h⟩
theorem KeepsC.trans {K : Nat → Prop} {lo hi : Nat} {A B C : World} (h : KeepsC K lo hi A B) (k : KeepsC K lo hi B C) : KeepsC K lo hi A C :=
  ⟨Nat.le_trans h.size k.size, fun r hr => (k.rows r hr).trans (h.rows r hr), fun r o hr ho hc => k.others r o hr (h.others r o hr ho hc) hc⟩
theorem KeepsC.less {K : Nat → Prop} {lo lo' hi : Nat} {A B : World} (h : KeepsC K lo hi A B) (hl : lo ≤ lo') : KeepsC K lo' hi A B :=
  ⟨h.size, fun r hr => h.rows r (hr.imp id (fun h => ⟨by omega, h.2⟩)), fun r o hr ho hc => h.others r o (by omega) ho hc⟩
theorem KeepsC.putObj {K : Nat → Prop} {lo hi : Nat} (W : World) {l : Nat} (o : Obj) (h0 : ¬ K l) (hl : l < lo) : KeepsC K lo hi W (W.putObj l o) :=
  ⟨by simp, fun r hr => World.putObj_heap_other (fun e => by subst e; exact hr.elim h0 (fun h => by omega)), fun r o' hr ho _ => (World.putObj_heap_other (by omega)).trans ho⟩
/-- a step that turns one row of cells of the caller's, or none -/
theorem KeepsC.grown {K : Nat → Prop} {lo hi : Nat} {W W' : World} {row : Option Nat} (hg : W.grownBy W' row) (hn : ∀ r, K r → r < W.heap.size) (hh : hi ≤ W.heap.size) (hr : ∀ r, row = some r → ¬ K r ∧ (r < lo ∨ (hi ≤ r ∧ ∀ o : Obj, W.heap[r]? = some o → o.isCells = true))) : KeepsC K lo hi W W' := by
  refine ⟨hg.size, fun r h => ?_, fun r o hl ho hc => ?_⟩
  · refine hg.block r (h.elim (hn r) (fun h => by omega)) (fun e => ?_)
    obtain ⟨h1, h2⟩ := hr r e.symm
    rcases h with h | h
    · exact h1 h
    · omega
  · refine (hg.block r (Array.getElem?_eq_some_iff.1 ho).1 (fun e => ?_)).trans ho
    obtain ⟨_, h | ⟨_, h⟩⟩ := hr r e.symm
    · omega
    · rw [h o ho] at hc; cases hc

/-- WHAT AN ITERATOR OWES: S: all that comes; Sp: a part that has come when a round has said no more. -/
def SeqC {α : Type} (F : Fence) (n : Nat) (P : Program) (g : Nat) (lb : Array Value) (encs : α → Array Value) (K : Nat → Prop) (w0 : World) (S Sp : List α → Prop) : Prop :=
  ∀ (l : Nat) (J Jx : Nat → List α → World → Prop) (W : World), (∀ r, K r → r < w0.heap.size ∧ W.heap[r]? = w0.heap[r]?) → w0.heap.size ≤ W.heap.size →
    (∀ hi, AbidesC W.heap.size hi (J hi)) → (∀ hi, AbidesC W.heap.size hi (Jx hi)) →
    (∀ hi pre x W1, J hi pre W1 → Sp (pre ++ [x]) → W.heap.size ≤ hi → hi ≤ W1.heap.size → YieldAt F (n - 1) P l (encs x) W1 fun e W' =>
      (e = .returned (.bool true) ∧ J hi (pre ++ [x]) W' ∧ KeepsC K W.heap.size hi W1 W') ∨ (e = .returned (.bool false) ∧ Jx hi (pre ++ [x]) W' ∧ KeepsC K W.heap.size hi W1 W')) →
    (∀ hi, W.heap.size ≤ hi → J hi [] W) →
    CallsIn F n P g (#[.func (.yield l) #[] #[]] ++ lb) W fun e W' => (∃ v, e = .returned v) ∧ ∃ hi, W.heap.size ≤ hi ∧ ((∃ xs, S xs ∧ J hi xs W') ∨ (∃ pre, Sp pre ∧ Jx hi pre W'))

/-- how the body of a round may be left -/
def postC {α : Type} (K : Nat → Prop) (lo hi : Nat) (I : Nat → List α → World → Prop) (Ix : Code → Nat → List α → World → Prop) (xs : List α) (W : World) : Exit → Act → World → Prop
  | .normal, _, W' => KeepsC K lo hi W W' ∧ I hi xs W'
  | .ret, _, W' => KeepsC K lo hi W W' ∧ Ix .ret hi xs W'
  | .exit id, _, W' => KeepsC K lo hi W W' ∧ Ix (.exit id) hi xs W'
  | .goto t, _, W' => KeepsC K lo hi W W' ∧ Ix (.goto t) hi xs W'
  | .panic _, _, _ => False
  | .outgrown, _, _ => False

theorem KeepsC.sub {K K' : Nat → Prop} {lo lo' hi : Nat} {A B : World} (h : KeepsC K lo hi A B) (hl : lo ≤ lo') (hK : ∀ r, K' r → lo ≤ r ∧ r < hi) : KeepsC K' lo' hi A B :=
  ⟨h.size, fun r hr => h.rows r (.inr (hr.elim (hK r) (fun h => ⟨by omega, h.2⟩))), fun r o hr ho hc => h.others r o (by omega) ho hc⟩
theorem grown_below {w w' : World} (h : Below w.heap.size w w') : w.grownBy w' none := ⟨h.os, h.tape, h.output, h.size, fun k hk _ => h.block k hk⟩
theorem RoundIn_any {F : Fence} (hd : F.depth = none) {m m' : Nat} {P : Program} {l l' : Nat} {f : FuncId} {tmps : Array Value} {assign body : Code} {w : World} {R : Ending → World → Prop} (h : RoundIn F m P l f tmps assign body w R) : RoundIn (F.inRound l') m' P l f tmps assign body w R :=
  ⟨h.1, fun c cs _ => h.2 c cs (fun d e => by rw [hd] at e; cases e)⟩
theorem grown_other {W W' : World} {row : Option Nat} {k : Nat} {o : Obj} (hg : W.grownBy W' row) (h : W.heap[k]? = some o) (hk : ∀ r, row = some r → r ≠ k) : W'.heap[k]? = some o :=
  (hg.block k (Array.getElem?_eq_some_iff.1 h).1 (fun e => hk k e.symm rfl)).trans h

variable {F : Fence} {n : Nat} {P : Program}
/-- THE CALLER's LAW. -/
theorem wpIn_rangeFunc_C {α : Type} {g : Operand} {ps : Array Tmp} {assign body : Code} {Q : Exit → Act → World → Prop} {a : Act} {w : World}
    (hro : F.round = none) (h1 : 1 ≤ n) {gf : Nat} {lb : Array Value} (hg : a.eval g = .func (.func gf) #[] lb) (hFg : F.fn gf) (eg : ∀ args w, (callFunc gf args).run P w = .ok (.enter gf args) w)
    {encs : α → Array Value} {K : Nat → Prop} {w0 : World} {S Sp : List α → Prop} (hseq : SeqC F (n - 1) P gf lb encs K w0 S Sp)
    (hb0 : ∀ r, K r → r < w0.heap.size ∧ w.heap[r]? = w0.heap[r]?) (hn0 : w0.heap.size ≤ w.heap.size) (hps : ∀ x, (encs x).size = ps.size)
    (I : Nat → List α → World → Prop) (Ix : Code → Nat → List α → World → Prop)
    (hI : ∀ hi, AbidesC w.heap.size hi (I hi)) (hIx : ∀ c hi, AbidesC w.heap.size hi (Ix c hi))
    (h0 : ∀ hi, w.heap.size ≤ hi → I hi [] w) (a₁ : α → Act)
    (hassign : ∀ (l : Nat) (x : α) (W : World) (Kc : Act → World → Prop), Kc (a₁ x) W →
      assign.wpIn (F.inRound l) (n - 1 - 1) P (Exit.then Kc (fun _ _ _ => False)) { tmps := (ps.zip (encs x)).foldl (fun t (p, v) => t.setIfInBounds p v) a.tmps, defers := [] } W)
    (hbody : ∀ (l hi : Nat) (pre : List α) (x : α) (W : World), w.heap.size + 2 ≤ hi → hi ≤ W.heap.size → Sp (pre ++ [x]) → I hi pre W → body.wpIn (F.inRound l) (n - 1 - 1) P (postC K w.heap.size hi I Ix (pre ++ [x]) W) (a₁ x) W)
    (hdone : ∀ (D hi : Nat) (xs : List α) (W : World), w.heap.size ≤ D → D < hi → S xs → I hi xs W → W.heap[D]? = some (.deferred (some [])) → Q .normal { a with defers := { target := .collected D, args := #[] } :: a.defers } W)
    (hstop : ∀ (D hi : Nat) (c : Code) (pre : List α) (W : World), w.heap.size ≤ D → D < hi → Sp pre → Ix c hi pre W → W.heap[D]? = some (.deferred (some [])) → c.wpIn F n P Q { a with defers := { target := .collected D, args := #[] } :: a.defers } W) :
    (Code.rangeFunc g ps assign body).wpIn F n P Q a w := by
  refine wpIn_rangeFunc ?_
  intro fn hfn
  rw [hro]
  obtain ⟨L, hL⟩ : ∃ L : LoopState → Option Code → Loop, L = fun st pe => { state := st, pending := pe, fn, tmps := a.tmps, params := ps, assign, body, defers := w.heap.size } := ⟨_, rfl⟩
  obtain ⟨s, hs⟩ : ∃ s, s = w.heap.size := ⟨_, rfl⟩
  obtain ⟨W1, hW1⟩ : ∃ W1, W1 = (w.alloc (.deferred (some []))).alloc (.loop (L .ready none)) := ⟨_, rfl⟩
  have z1 : W1.heap.size = s + 2 := by rw [hW1, hs]; simp
  have r1 : W1.heap[s + 1]? = some (.loop (L .ready none)) := by
    rw [hW1, hs]
    have := World.alloc_heap_new (w.alloc (.deferred (some []))) (.loop (L .ready none))
    rwa [World.size_alloc] at this
  have d1 : W1.heap[s]? = some (.deferred (some [])) := by
    rw [hW1, hs]; exact (Below.heap_alloc _ _ _ (by simp)).trans (World.alloc_heap_new w _)
  have turn0 : ∀ (hi : Nat) (A : World), MayTurn w.heap.size hi A none := fun _ _ r e => by cases e
  have i1 : ∀ hi, W1.heap.size ≤ hi → I hi [] W1 := by
    intro hi hh
    rw [hW1]
    exact hI hi _ _ _ none (hI hi _ _ _ none (h0 hi (by omega)) (World.grownBy_alloc w _ none) (turn0 _ _)) (World.grownBy_alloc _ _ none) (turn0 _ _)
  have hKw : ∀ r, K r → r < s := fun r hr => by have := (hb0 r hr).1; omega
  have b1 : ∀ r, K r → r < w0.heap.size ∧ W1.heap[r]? = w0.heap[r]? := fun r hr => by
    refine ⟨(hb0 r hr).1, ?_⟩
    rw [hW1, ← (hb0 r hr).2]
    have := hKw r hr
    exact (Below.heap_alloc _ _ _ (by simp; omega)).trans (Below.heap_alloc _ _ _ (by omega))
  have nK : ¬ K (s + 1) := fun h => by have := hKw _ h; omega
  have step : ∀ {β : Type} {J : β → World → Prop} {hi : Nat}, AbidesC w.heap.size hi J → ∀ s' (A A' : World) (row : Option Nat), J s' A → A.grownBy A' row → MayTurn W1.heap.size hi A row → J s' A' :=
    fun hJ s' A A' row hj hgr hm => hJ s' A A' row hj hgr (fun r e => ⟨by have := (hm r e).1; omega, (hm r e).2⟩)
  have past : ∀ {hi : Nat} {A : World} {row : Option Nat}, MayTurn W1.heap.size hi A row → ∀ k, k < s + 2 → ∀ r, row = some r → r ≠ k := fun hm k hk r e => by have := (hm r e).1; omega
  refine ⟨s + 1, [{ target := .collected s, args := #[] }], W1, { target := .fn (.func gf) lb, args := #[.func (.yield (s + 1)) #[] #[]] }, W1, gf,
    #[.func (.yield (s + 1)) #[] #[]] ++ lb, W1, ?_, ?_, ?_, ?_, fun _ => h1, ?_⟩
  · rw [hW1, hL, hs]; exact run_enterLoop_outer _ _ _ _ _
  · simp only [resolve, hg]
    simp [go_sem]
  · intro f' hf'; simp [Target.leads] at hf'; subst hf'; exact hFg
  · simp [invoke, go_sem, eg]
  · refine (hseq (s + 1)
      (fun hi pre W => I hi pre W ∧ W.heap[s + 1]? = some (.loop (L .ready none)) ∧ W.heap[s]? = some (.deferred (some [])))
      (fun hi pre W => ∃ c, Ix c hi pre W ∧ W.heap[s + 1]? = some (.loop (L .done (some c))) ∧ W.heap[s]? = some (.deferred (some [])))
      W1 b1 (by omega)
      (fun hi p A A' row hj hgr hm => ⟨step (hI hi) p A A' row hj.1 hgr hm, grown_other hgr hj.2.1 (past hm _ (by omega)), grown_other hgr hj.2.2 (past hm _ (by omega))⟩)
      (fun hi p A A' row hj hgr hm => by
        obtain ⟨c, h1, h2, h3⟩ := hj
        exact ⟨c, step (hIx c hi) p A A' row h1 hgr hm, grown_other hgr h2 (past hm _ (by omega)), grown_other hgr h3 (past hm _ (by omega))⟩)
      ?_ (fun hi hh => ⟨i1 hi hh, r1, d1⟩)).mono ?_
    · rintro hi pre x W ⟨hi0, hl, hk⟩ hsp hlo hhi
      have hlt : s + 1 < W.heap.size := (Array.getElem?_eq_some_iff.1 hl).1
      have hy := run_yield (P := P) (args := encs x) hl (by rw [hL]; exact hps x)
      rw [hL] at hy
      refine ⟨fn, _, assign, body, hy, roundIn_of_wpIn hfn (hassign _ x W _ ⟨_, run_beginRound hl (by rw [hL]), ?_⟩)⟩
      obtain ⟨Wb, hWb⟩ : ∃ Wb, Wb = W.putObj (s + 1) (.loop { L .ready none with state := .busy }) := ⟨_, rfl⟩
      have hl2 : Wb.heap[s + 1]? = some (.loop { L .ready none with state := .busy }) := by rw [hWb]; exact World.putObj_heap_same hlt
      have hk2 : Wb.heap[s]? = some (.deferred (some [])) := by rw [hWb]; exact (World.putObj_heap_other (by omega)).trans hk
      have zb : Wb.heap.size = W.heap.size := by rw [hWb]; simp
      have turnL : ∀ (A : World) (o : Obj), A.heap[s + 1]? = some o → o.isCells = false → MayTurn w.heap.size hi A (some (s + 1)) := fun A o ho hc r e => by cases e; exact ⟨by omega, .inr ⟨o, ho, hc⟩⟩
      have hib : I hi pre Wb := by rw [hWb]; exact hI hi _ _ _ _ hi0 (grownBy_putObj' W (s + 1) _) (turnL W _ hl rfl)
      have kb : KeepsC K W1.heap.size hi W Wb := by rw [hWb]; exact KeepsC.putObj W _ nK (by omega)
      have hlo2 : w.heap.size + 2 ≤ hi := by omega
      have hbd := hbody (s + 1) hi pre x Wb hlo2 (by omega) hsp hib
      rw [hWb] at hbd
      refine wpIn_mono hbd ?_
      rw [← hWb]
      have fin : ∀ (jump : Option Code) (W3 : World), KeepsC K w.heap.size hi Wb W3 →
          (Instr.endRound (s + 1) jump).run P W3 = .ok (.bool jump.isNone) (W3.putObj (s + 1) (.loop (L (if jump.isNone then .ready else .done) jump))) ∧
          MayTurn w.heap.size hi W3 (some (s + 1)) ∧
          (W3.putObj (s + 1) (.loop (L (if jump.isNone then .ready else .done) jump))).heap[s + 1]? = some (.loop (L (if jump.isNone then .ready else .done) jump)) ∧
          (W3.putObj (s + 1) (.loop (L (if jump.isNone then .ready else .done) jump))).heap[s]? = some (.deferred (some [])) ∧
          KeepsC K W1.heap.size hi W3 (W3.putObj (s + 1) (.loop (L (if jump.isNone then .ready else .done) jump))) := fun jump W3 hk3 => by
        have hl3 : W3.heap[s + 1]? = some (.loop { L .ready none with state := .busy }) := (hk3.rows _ (.inr ⟨by omega, by omega⟩)).trans hl2
        have hr := run_endRound (P := P) jump hl3
        have e1 : ({ { L .ready none with state := .busy } with state := if jump.isNone then .ready else .done, pending := jump } : Loop) = L (if jump.isNone then .ready else .done) jump := by rw [hL]
        rw [e1] at hr
        exact ⟨hr, turnL W3 _ hl3 rfl, World.putObj_heap_same (Array.getElem?_eq_some_iff.1 hl3).1, (World.putObj_heap_other (by omega)).trans ((hk3.rows _ (.inr ⟨by omega, by omega⟩)).trans hk2), KeepsC.putObj W3 _ nK (by omega)⟩
      rintro e a3 W3 hp
      cases e with
      | normal =>
        obtain ⟨hk3, hi3⟩ := hp
        obtain ⟨hr, ht, hl4, hk4, hk5⟩ := fin none W3 hk3
        exact ⟨_, _, hr, .inl ⟨rfl, ⟨hI hi _ _ _ _ hi3 (grownBy_putObj' W3 (s + 1) _) ht, hl4, hk4⟩, kb.trans ((hk3.less (by omega)).trans hk5)⟩⟩
      | ret =>
        obtain ⟨hk3, hi3⟩ := hp
        obtain ⟨hr, ht, hl4, hk4, hk5⟩ := fin (some .ret) W3 hk3
        exact ⟨_, _, hr, .inr ⟨rfl, ⟨.ret, hIx _ hi _ _ _ _ hi3 (grownBy_putObj' W3 (s + 1) _) ht, hl4, hk4⟩, kb.trans ((hk3.less (by omega)).trans hk5)⟩⟩
      | exit id =>
        obtain ⟨hk3, hi3⟩ := hp
        obtain ⟨hr, ht, hl4, hk4, hk5⟩ := fin (some (.exit id)) W3 hk3
        exact ⟨_, _, hr, .inr ⟨rfl, ⟨.exit id, hIx _ hi _ _ _ _ hi3 (grownBy_putObj' W3 (s + 1) _) ht, hl4, hk4⟩, kb.trans ((hk3.less (by omega)).trans hk5)⟩⟩
      | goto t =>
        obtain ⟨hk3, hi3⟩ := hp
        obtain ⟨hr, ht, hl4, hk4, hk5⟩ := fin (some (.goto t)) W3 hk3
        exact ⟨_, _, hr, .inr ⟨rfl, ⟨.goto t, hIx _ hi _ _ _ _ hi3 (grownBy_putObj' W3 (s + 1) _) ht, hl4, hk4⟩, kb.trans ((hk3.less (by omega)).trans hk5)⟩⟩
      | panic ch => exact hp.elim
      | outgrown => exact hp.elim
    · rintro e W2 ⟨⟨v, rfl⟩, hi, hlo, (⟨xs, hS, hi2, hl, hk⟩ | ⟨pre, hSp, c, hi2, hl, hk⟩)⟩
      · have ht : MayTurn w.heap.size hi W2 (some (s + 1)) := fun r e => by cases e; exact ⟨by omega, .inr ⟨_, hl, rfl⟩⟩
        have hr := run_endLoop (P := P) hl (by rw [hL]; simp)
        obtain ⟨o3, ho3⟩ : ∃ o3 : Obj, o3 = .loop { L .ready none with state := .exhausted } := ⟨_, rfl⟩
        rw [← ho3] at hr
        have e2 : (L .ready none).pending = none := by rw [hL]
        rw [e2] at hr
        refine ⟨none, _, hr, ?_⟩
        have := hdone s hi xs _ (by omega) (by omega) hS (hI hi _ _ _ _ hi2 (grownBy_putObj' W2 (s + 1) o3) ht) ((World.putObj_heap_other (by omega)).trans hk)
        exact this
      · have ht : MayTurn w.heap.size hi W2 (some (s + 1)) := fun r e => by cases e; exact ⟨by omega, .inr ⟨_, hl, rfl⟩⟩
        have hr := run_endLoop (P := P) hl (by rw [hL]; simp)
        obtain ⟨o3, ho3⟩ : ∃ o3 : Obj, o3 = .loop { L .done (some c) with state := .exhausted } := ⟨_, rfl⟩
        rw [← ho3] at hr
        have e2 : (L .done (some c)).pending = some c := by rw [hL]
        rw [e2] at hr
        refine ⟨some c, _, hr, ?_⟩
        exact hstop s hi c pre _ (by omega) (by omega) hSp (hIx c hi _ _ _ _ hi2 (grownBy_putObj' W2 (s + 1) o3) ht) ((World.putObj_heap_other (by omega)).trans hk)
end Go.Proofs.YtnbihjocdlpplaaDoor
/- The lines of a text, by the program's iterator. -/
namespace Go.Proofs.YtnbihjocdlpplaaDoor
set_option linter.unusedVariables false
set_option linter.unusedSimpArgs false
open Go.RowKit Go.Shelf
open Go.Lib hiding intOf
attribute [local go_sem] Oper.semAt_some
section
variable {F : Fence} {n : Nat} {P : Program} {b : Frame} {a : Act} {k : List Item} {cs : List Frame} {w : World} {Q : Exit → Act → World → Prop}
theorem stepR_scope {c : Code} : step P (lone (b.atR a (.code (.scope c) :: k)) cs w) = .next (lone (b.atR a (.code c :: .inScope c :: k)) cs w) :=
  step_lone_go (by simp [stepG, stepG.exec, Frame.atR])
theorem stepR_inScope {c : Code} : step P (lone (b.atR a (.inScope c :: k)) cs w) = .next (lone (b.atR a k) cs w) :=
  step_lone_go (by simp [stepG, stepG.exec, Frame.atR])
/-- a scope that no goto leaves, inside a fence -/
theorem wpIn_scope_straight {c : Code} (h : c.wpIn F n P (Exit.noGoto Q) a w) : (Code.scope c).wpIn F n P Q a w := by
  intro b k cs hro hb hr
  have h0 : (lone (b.atR a (.code (.scope c) :: k)) cs w).fenced P F := fenced_calm hb hr rfl
  obtain ⟨e, a₁, w₁, hq, harr⟩ := h b (.inScope c :: k) cs hro hb hr
  cases e with
  | normal => exact ⟨.normal, a₁, w₁, hq, .head h0 stepR_scope (StepsIn.trans harr (.one (fenced_calm hb hr rfl) stepR_inScope))⟩
  | exit id =>
    have hx : exitTo id (.inScope c :: k) = exitTo id k := by simp [exitTo]
    exact ⟨.exit id, a₁, w₁, hq, fun k' hk => .head h0 stepR_scope (harr.1 k' (by rw [hx]; exact hk)),
      fun hr' hk => let ⟨k₁, h1, h2⟩ := harr.2 hr' (by rw [hx]; exact hk); ⟨k₁, h1, .head h0 stepR_scope h2⟩⟩
  | goto l => exact hq.elim
  | ret => exact ⟨_, a₁, w₁, hq, .of_steps (.one h0 stepR_scope) harr⟩
  | panic ch => exact ⟨_, a₁, w₁, hq, .of_steps (.one h0 stepR_scope) harr⟩
  | outgrown => exact ⟨_, a₁, w₁, hq, .of_steps (.one h0 stepR_scope) harr⟩
end
attribute [local go_sem] Exit.noGoto
theorem EndQ_def (w : World) (l : List UInt8) (i : Nat) : EndQ w l i = fun e w' => ∃ n : Int, e = .returned (.tuple #[.int .i64 n, .bool (endL l i != 0)]) ∧ Below w.heap.size w w' ∧ (endL l i ≠ 0 → n = (endL l i : Int)) := rfl
theorem boxed_rows {b : Nat} {t : TypeId} {v : Value} {W W' : World} (h : Boxed W b t v) (hk : W'.heap[b]? = W.heap[b]?) : Boxed W' b t v := hk.trans h
def pieceV (x : Nat × Nat × Nat) : Array Value := #[.agg #[.int .i64 (x.1 : Int), .int .i64 (x.2.1 : Int)], .int .i64 (x.2.2 : Int)]
theorem below_other {W W' : World} (h : Below W.heap.size W W') : W.grownBy W' none := ⟨h.os, h.tape, h.output, h.size, fun k hk _ => h.block k hk⟩
theorem KeepsC.below {K : Nat → Prop} {lo hi : Nat} {W W' : World} (h : Below W.heap.size W W') (hn : ∀ r, K r → r < W.heap.size) (hh : hi ≤ W.heap.size) : KeepsC K lo hi W W' :=
  KeepsC.grown (below_other h) hn hh (fun r e => by cases e)
set_option maxHeartbeats 4000000 in
set_option maxRecDepth 100000 in
theorem all1 (m : Nat) (hm : 1 ≤ m) (B0 b1 : Nat) (w0 : World) (l : List UInt8) (h1 : w0.heap[b1]? = some (.cells #[.string (bstr l)] 9 (0, 0))) (hl : l.length ≤ 67108864) (hT : Tabs w0) (hB0 : 4 ≤ B0) (hB1 : B0 ≤ w0.heap.size) :
    SeqC Fence.wide m Tryd.prog 93 #[.pointer (some ⟨b1, 0, none⟩)] pieceV (fun r => r < B0 ∨ r = b1) w0 (fun xs => xs = linesL l) (fun pre => pre <+: linesL l) := by
  intro l0 J Jx W hW hn0 hJ hJx hY h0
  have k1 : Boxed W b1 9 (.string (bstr l)) := ((hW b1 (.inr rfl)).2).trans h1
  have hTW : Tabs W := hT.rows (fun r hr => (hW r (.inl (by omega))).2) hn0
  obtain ⟨hi, hhi⟩ : ∃ hi, hi = W.heap.size := ⟨_, rfl⟩
  have HK : Hid (Tabs W ∧ Boxed W b1 9 (.string (bstr l)) ∧ B0 ≤ W.heap.size) := Lib.hid ⟨hTW, k1, by omega⟩
  have HKL : Hid (∀ r, (r < B0 ∨ r = b1) → ∀ s, W.heap.size ≤ s → r < s) := Lib.hid (fun r hr s hs => by have := k1.lt; omega)
  have HJ := Lib.hid (h0 hi (by omega))
  have HJA := Lib.hid (hJ hi)
  have HY := Lib.hid hY
  have HH := Lib.hid hhi
  have c1 := k1.cell
  have hsz := bstr_size l
  clear hY h0 hJ hJx h1 hT hTW k1 hW hn0 hB1
  refine callsIn_of_wp Tryd.func93 rfl trivial ?_ rfl
  simp only [Tryd.ntmps93, List.size_toArray, List.length_cons, List.length_nil, Nat.reduceAdd, Nat.reduceSub, Array.replicate_succ, Array.replicate_zero, List.push_toArray, List.append_toArray, List.nil_append, List.cons_append]
  refine wpIn_scope_straight ?_
  gi_wp2
  refine wpIn_label ?_
  gi_wp2
  clear c1 hhi
  gi_loopw [3, 4] (fun ua ui wr => ∃ a i f : Nat, ∃ acc : List (Nat × Nat × Nat), ua = .int .i64 (a : Int) ∧ ui = .int .i64 (i : Int) ∧ a ≤ i ∧ i ≤ l.length ∧ l.length < i + f ∧ Hid (acc ++ linesGo l f a i = linesL l ∧ J hi acc wr ∧ KeepsC (fun r => r < B0 ∨ r = b1) W.heap.size hi W wr)) (fun _ ui _ => l.length + 1 - (RowKit.intOf ui).toNat)
  case atStart => exact ⟨0, 0, l.length + 1, [], rfl, rfl, Nat.le_refl _, Nat.zero_le _, by omega, Lib.hid ⟨rfl, HJ.out, KeepsC.refl _ _ _ _⟩⟩
  case round =>
    obtain ⟨a, i, f, acc, rfl, rfl, hai, hil, hf, HR⟩ := hrel
    have hTr : Tabs wr := HK.out.1.rows (fun r hr => HR.out.2.2.rows r (.inl (.inl (by omega)))) HR.out.2.2.size
    have c1 := (boxed_rows HK.out.2.1 (HR.out.2.2.rows b1 (.inl (.inr rfl)))).cell
    have HTR := Lib.hid hTr
    clear hTr
    by_cases hlt : i < l.length
    · have HE := Lib.hid (endC wr l i hlt (by omega) HTR.out)
      obtain ⟨f, rfl⟩ : ∃ g, f = g + 1 := ⟨f - 1, by omega⟩
      by_cases h0 : endL l i = 0
      · have hz : (endL l i != 0) = false := by rw [h0]; rfl
        rw [EndQ_def, hz] at HE
        have hgo : linesGo l (f + 1) a i = linesGo l f a (i + 1) := by rw [linesGo, if_neg (by omega), if_pos h0]
        have HGO := Lib.hid hgo
        clear hgo hz
        gi_wp2_with (refine ⟨trivial, ?_⟩; gi_at_call 94; refine (callsIn_wide.2 HE.out).mono ?_; rintro e w' ⟨n, rfl, hb, hn⟩)
        have HNX : Hid (acc ++ linesGo l f a (i + 1) = linesL l ∧ J hi acc w' ∧ KeepsC (fun r => r < B0 ∨ r = b1) W.heap.size hi W w') := Lib.hid ⟨HGO.out ▸ HR.out.1, HJA.out _ _ _ none HR.out.2.1 (below_other hb) (fun r e => by cases e), HR.out.2.2.trans (KeepsC.below hb (fun r hr => HKL.out r hr _ HR.out.2.2.size) (by rw [HH.out]; exact HR.out.2.2.size))⟩
        go_roundw
        case rel => exact ⟨a, i + 1, f, acc, rfl, by go_num, by omega, by omega, by omega, HNX⟩
        case measure => simp [RowKit.intOf]; omega
      · have hz : (endL l i != 0) = true := by rw [bne_iff_ne]; exact h0
        have hle := (endL_le l i).resolve_left h0
        obtain ⟨n0, hn0⟩ : ∃ n0, endL l i = n0 := ⟨_, rfl⟩
        have hgo : linesGo l (f + 1) a i = (a, i, n0) :: linesGo l f (i + n0) (i + n0) := by rw [linesGo, if_neg (by omega), if_neg h0, hn0]
        rw [EndQ_def, hz] at HE
        rw [hn0] at HE h0 hle
        have HGO := Lib.hid hgo
        clear hgo hz hn0
        gi_wp2_with (refine ⟨trivial, ?_⟩; gi_at_call 94; refine (callsIn_wide.2 HE.out).mono ?_; rintro e w' ⟨n, rfl, hb, hn⟩; obtain rfl := hn h0)
        have HR1 : Hid (J hi acc w' ∧ KeepsC (fun r => r < B0 ∨ r = b1) W.heap.size hi W w') := Lib.hid ⟨HJA.out _ _ _ none HR.out.2.1 (below_other hb) (fun r e => by cases e), HR.out.2.2.trans (KeepsC.below hb (fun r hr => HKL.out r hr _ HR.out.2.2.size) (by rw [HH.out]; exact HR.out.2.2.size))⟩
        have HPR : Hid (acc ++ [(a, i, n0)] <+: linesL l) := Lib.hid (by rw [← HR.out.1, HGO.out]; exact ⟨linesGo l f (i + n0) (i + n0), by simp⟩)
        obtain ⟨fn, tmps, assign, body, hy, hR⟩ := HY.out hi acc (a, i, n0) w' HR1.out.1 HPR.out (by rw [HH.out]; exact Nat.le_refl _) (by rw [HH.out]; exact HR1.out.2.size)
        have HRD := Lib.hid hR
        unfold pieceV at hy
        clear hR c1 hb hn
        gi_wp2
        refine HRD.out.mono ?_
        clear HRD hy
        rintro e W3 (⟨rfl, hJ3, hk3⟩ | ⟨rfl, hJx3, _⟩)
        · have HNX : Hid ((acc ++ [(a, i, n0)]) ++ linesGo l f (i + n0) (i + n0) = linesL l ∧ J hi (acc ++ [(a, i, n0)]) W3 ∧ KeepsC (fun r => r < B0 ∨ r = b1) W.heap.size hi W W3) := Lib.hid ⟨by rw [← HR.out.1, HGO.out]; simp, hJ3, HR1.out.2.trans hk3⟩
          clear hJ3 hk3
          gi_wp2
          go_roundw
          case rel => exact ⟨i + n0, i + n0, f, acc ++ [(a, i, n0)], by go_num, by go_num, Nat.le_refl _, hle, by omega, HNX⟩
          case measure => simp [RowKit.intOf]; omega
        · have HX3 := Lib.hid hJx3
          clear hJx3
          gi_wp2
          simp only [Exit.noGoto]
          refine bodyPost_ret (results_none rfl _ _ _) rfl ?_
          exact ⟨⟨_, rfl⟩, hi, by rw [HH.out]; exact Nat.le_refl _, .inr ⟨_, HPR.out, HX3.out⟩⟩
    · obtain rfl : i = l.length := by omega
      obtain ⟨f, rfl⟩ : ∃ g, f = g + 1 := ⟨f - 1, by omega⟩
      have hgo : linesGo l (f + 1) a l.length = [(a, l.length, 0)] := by rw [linesGo, if_pos (Nat.le_refl _)]
      have HE : Hid (acc ++ [(a, l.length, 0)] = linesL l) := Lib.hid (by rw [← HR.out.1, hgo])
      obtain ⟨fn, tmps, assign, body, hy, hR⟩ := HY.out hi acc (a, l.length, 0) wr HR.out.2.1 (by rw [HE.out]; exact List.prefix_refl _) (by rw [HH.out]; exact Nat.le_refl _) (by rw [HH.out]; exact HR.out.2.2.size)
      have HRD := Lib.hid hR
      unfold pieceV at hy
      dsimp only at hy
      rw [show ((0 : Nat) : Int) = 0 from rfl] at hy
      clear hR hgo
      gi_wp2
      refine HRD.out.mono ?_
      clear HRD hy
      rintro e W3 (⟨rfl, hJ3, hk3⟩ | ⟨rfl, hJx3, _⟩)
      · have H3 := Lib.hid hJ3
        clear hJ3 hk3
        gi_wp2
        simp only [Exit.noGoto]
        go_end0
        exact ⟨⟨_, rfl⟩, hi, by rw [HH.out]; exact Nat.le_refl _, .inl ⟨_, HE.out, H3.out⟩⟩
      · have H3 := Lib.hid hJx3
        clear hJx3
        gi_wp2
        simp only [Exit.noGoto]
        go_end0
        exact ⟨⟨_, rfl⟩, hi, by rw [HH.out]; exact Nat.le_refl _, .inr ⟨_, by rw [HE.out]; exact List.prefix_refl _, H3.out⟩⟩
end Go.Proofs.YtnbihjocdlpplaaDoor
