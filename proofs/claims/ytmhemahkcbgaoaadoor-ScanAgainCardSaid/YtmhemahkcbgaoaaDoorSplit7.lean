/- What Scan answers, in one form for tokens and faults; a row of tokens apart from others. -/
import Derived.Test.YtmhemahkcbgaoaaDoorScanW
import Derived.Test.YtmhemahkcbgaoaaDoorFault
import Derived.Test.YtmhemahkcbgaoaaDoorToks
import Derived.Test.YtmhemahkcbgaoaaDoorWorks7
import Derived.Test.YtmhemahkcbgaoaaDoorRowsown
import Derived.Test.YtmhemahkcbgaoaaDoorScanT
namespace Go.Proofs.YtmhemahkcbgaoaaDoor
set_option linter.unusedVariables false
set_option linter.unusedSimpArgs false
open Go.RowKit
open Go.Lib hiding intOf
def toksOf (r : Except (Nat × Nat) (List Tok)) : List Tok := match r with | .ok L => L | .error _ => []
def codeOf (r : Except (Nat × Nat) (List Tok)) : Nat × Nat := match r with | .ok _ => (0, 0) | .error e => e
/-- the error that goes with the answer -/
def ErrIs (w' : World) (r : Except (Nat × Nat) (List Tok)) (err : Value) : Prop := match r with
  | .ok _ => err = .nilIface
  | .error (c, p) => c ≠ 0 ∧ ∃ g, err = .iface 73 (.pointer (some ⟨g, 0, none⟩)) ∧ Row w' g 75 [.int .i64 (c : Int), .int .i64 (p : Int)]
theorem ErrIs.next {w w' : World} {r : Except (Nat × Nat) (List Tok)} {err : Value} (h : ErrIs w r err) (b : Below w.heap.size w w') : ErrIs w' r err := by
  unfold ErrIs at *
  cases r with
  | ok L => exact h
  | error e => obtain ⟨h0, g, h1, h2⟩ := h; exact ⟨h0, g, h1, h2.keep b h2.lt⟩
theorem scanGo_code (l : List UInt8) : ∀ (f i : Nat) (acc : List Tok) (e : Nat × Nat), scanGo l f i acc = .error e → e.1 ≠ 0
  | 0, i, acc, e, h => by rw [scanGo] at h; cases h; simp
  | f + 1, i, acc, e, h => by
    rw [scanGo_step] at h
    cases hs : stepOf l i with
    | done => rw [hs] at h; cases h
    | tok t k => rw [hs] at h; exact scanGo_code l f _ _ e h
    | err c p =>
      rw [hs] at h
      cases h
      unfold stepOf stepAt at hs
      revert hs
      repeat' split
      all_goals (intro hs; cases hs; try simp)
theorem scan_code {l : List UInt8} {e : Nat × Nat} (h : scanOf l = .error e) : e.1 ≠ 0 := by
  unfold scanOf at h
  split at h
  · cases h; simp
  · exact scanGo_code l _ _ _ e h
theorem scanC2 (w : World) (l : List UInt8) (hm : l.length ≤ 140737488355328) (hT : Tabs w) :
    Calls Tryd.prog 18 #[.string (bstr l)] w fun e w' => ∃ v err, e = .returned (.tuple #[v, err]) ∧ Below w.heap.size w w' ∧ OwnT w.heap.size v (toksOf (scanOf l)) w' ∧ ErrIs w' (scanOf l) err := by
  refine (scanC w l hm hT).mono ?_
  rintro e w' ⟨v, err, rfl, hb, h⟩
  refine ⟨v, err, rfl, hb, ?_⟩
  cases hs : scanOf l with
  | ok L =>
    rw [hs] at h
    exact ⟨h.2, h.1⟩
  | error e =>
    rw [hs] at h
    obtain ⟨c, p⟩ := e
    obtain ⟨rfl, g, h1, _, h2⟩ := h
    exact ⟨World.ownsRow_nil _ _ _ _, scan_code hs, g, h1, h2⟩
theorem scanR2 (w : World) (l : List UInt8) (hm : l.length ≤ 140737488355328) :
    Calls Tryd.prog 20 #[.string (bstr l)] w fun e w' => ∃ v, e = .returned (.tuple #[v, .int .i64 ((codeOf (scanOf l)).1 : Int), .int .i64 ((codeOf (scanOf l)).2 : Int)]) ∧ Below w.heap.size w w' ∧ OwnT w.heap.size v (toksOf (scanOf l)) w' := by
  refine (scanR w l hm).mono ?_
  rintro e w' ⟨v, c, p, rfl, hb, h⟩
  cases hs : scanOf l with
  | ok L =>
    rw [hs] at h
    obtain ⟨rfl, rfl, h3⟩ := h
    exact ⟨v, rfl, hb, h3⟩
  | error e =>
    rw [hs] at h
    obtain ⟨c', p'⟩ := e
    obtain ⟨rfl, rfl, rfl⟩ := h
    exact ⟨_, rfl, hb, World.ownsRow_nil _ _ _ _⟩
/-- the error is the one that the reference tells -/
theorem isFault_same (w : World) (r : Except (Nat × Nat) (List Tok)) (err : Value) (h : ErrIs w r err) (hE : ErrT w) :
    Calls Tryd.prog 21 #[err, .int .i64 ((codeOf r).1 : Int), .int .i64 ((codeOf r).2 : Int)] w fun ev w' => ev = .returned (.bool true) ∧ Below w.heap.size w w' := by
  cases r with
  | ok L =>
    have : err = .nilIface := h
    subst this
    refine (isFault_nil w 0 0).mono ?_
    rintro e w' ⟨rfl, rfl⟩
    exact ⟨rfl, Below.refl _ _⟩
  | error e =>
    obtain ⟨c, p⟩ := e
    obtain ⟨h0, g, rfl, hR⟩ := h
    refine (isFault_hit w g (c : Int) (p : Int) (c : Int) (p : Int) true true true (by simp) (by simp) (by rw [bne_iff_ne]; omega) hR hE).mono ?_
    rintro e w' ⟨rfl, hb⟩
    exact ⟨rfl, hb⟩
theorem OwnT.same {B : Nat} {v : Value} {acc : List Tok} {w w' : World} (h : OwnT B v acc w) (hk : ∀ g, v.ownBlock = some g → w'.heap[g]? = w.heap[g]?) : OwnT B v acc w' := by
  refine ⟨h.1, ?_⟩
  rcases h.2 with hn | ⟨g, cap, cur, rfl, hb, hgg, rest⟩
  · exact .inl hn
  · exact .inr ⟨g, cap, cur, rfl, hb, (hk g rfl).trans hgg, rest⟩
theorem slice_own {w : World} {B : Nat} {e : TypeId} {size : Nat} {v : Value} {n : Nat} {xs : List Value} (h : w.ownsRow B e size v n xs) : ∃ a c, v = .slice a n c := by
  rcases h.2 with ⟨rfl, rfl⟩ | ⟨g, cap, cur, rfl, _⟩
  · exact ⟨none, 0, rfl⟩
  · exact ⟨_, cap, rfl⟩
/-- append of a token to a row, whatever it holds; it stays in its block or lies in a new one -/
theorem appTokSep {ops : Array Oper} {rest : List Oper} {o : Oper} {a : Act} {w : World} {Q : Exit → Act → World → Prop} (hgd : o.guard = none) (sl x : Operand) (ho : o.op = .call { callee := .builtin .append, args := #[sl, x], argTypes := #[25, 25] })
    (B B0 : Nat) (w0 wp : World) (v : Value) (n : Nat) (xs : List Value) (tk : Tok) (hs : a.eval sl = v) (hown : wp.ownsRow B 38 4 v n xs) (hx : a.eval x = .slice (some ⟨wp.heap.size, 0, none⟩) 1 1) (hw : w = wp.alloc (.cells (tokCells tk).toArray 38)) (hl : n ≤ 1099511627776) (hb : Below B0 w0 wp) (hB0 : B0 ≤ B) (hB : B ≤ wp.heap.size)
    (h : ∀ v' w', w'.ownsRow B 38 4 v' (n + 1) (xs ++ tokCells tk) → Below B0 w0 w' → wp.heap.size ≤ w'.heap.size → (v'.ownBlock = v.ownBlock ∨ ∀ b, v'.ownBlock = some b → wp.heap.size ≤ b) → (∀ g, g < wp.heap.size → v.ownBlock ≠ some g → w'.heap[g]? = wp.heap[g]?) → wpList Tryd.prog ops Q rest (a.put o.dst v') w') : wpList Tryd.prog ops Q (o :: rest) a w := by
  subst hw
  obtain ⟨aa, cc, rfl⟩ := slice_own hown
  obtain ⟨i0, hi, hz0, hz1, hz2⟩ := info_parts infoTok
  have hsz : (wp.alloc (.cells (tokCells tk).toArray 38)).heap.size = wp.heap.size + 1 := by simp
  refine wpList_append_sep hgd sl x 25 ho B 38 i0 (.agg #[.int .i64 0, .int .i64 0, .string ByteArray.empty, .int .i64 0]) 4 40 Tryd.underlying25 hi hz0 hz1 hz2 rfl (by decide) aa n cc xs hs (World.ownsRow.alloc hown _) ⟨wp.heap.size, 0, none⟩ 1 1 (tokCells tk) hx rfl ?_ ?_ (by unfold maxLen; omega) (by omega) (by omega) ?_
  · intro j u hj
    have hr : Row (wp.alloc (.cells (tokCells tk).toArray 38)) wp.heap.size 38 (tokCells tk) := alloc_last _ _
    have := Row.cell hr j
    rw [hj] at this
    rw [add0]
    exact this
  · intro u hu
    simp only [tokCells, List.mem_cons, List.not_mem_nil, or_false] at hu
    rcases hu with rfl | rfl | rfl | rfl <;> rfl
  intro v' w' h1 h2 h3
  have hlt : ∀ k, (Value.slice aa n cc).ownBlock = some k → B ≤ k := fun k hk => (World.ownsRow.lt hown k hk).1
  have hbb : Below B0 w0 w' := (hb.alloc (Nat.le_trans hB0 hB) _).grown h2 (by omega) (fun k hk => Nat.le_trans hB0 (hlt k hk))
  refine h v' w' h1 hbb (by have := h2.size; omega) (h3.imp id fun h b hb => by have := h b hb; omega) ?_
  intro g hg hne
  rw [h2.block g (by omega) (fun e => hne e.symm), Lib.alloc_old wp _ g (by omega)]
end Go.Proofs.YtmhemahkcbgaoaaDoor
