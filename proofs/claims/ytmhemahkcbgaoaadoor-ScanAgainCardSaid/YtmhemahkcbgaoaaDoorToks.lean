/- Tokens: the same ones, with marked room behind them, kept. -/
import Derived.Test.YtmhemahkcbgaoaaDoorPrintA
import Derived.Lib.AppendZeros
namespace Go.Proofs.YtmhemahkcbgaoaaDoor
set_option linter.unusedVariables false
set_option linter.unusedSimpArgs false
open Go.RowKit
open Go.Lib hiding intOf
/-- elements, or none, put behind a row of the call's own -/
theorem appSlice {T e : TypeId} {w : World} {ops : Array Oper} {rest : List Oper} {o : Oper} {a : Act} {Q : Exit → Act → World → Prop} (hgd : o.guard = none) (sl x : Operand) (ho : o.op = .call { callee := .builtin .append, args := #[sl, x], argTypes := #[T, T] })
    (hT : Tryd.prog.underlying T = some (.slice e)) (z : Value) (size bytes : Nat) (hinfo : (Tryd.prog.info? e).map (fun i => (i.zero, i.size, i.bytes)) = some (some z, size, bytes)) (hz : z.cells.size = size) (hs0 : 0 < size) (hby : bytes ≤ 4096)
    (B : Nat) (v : Value) (n : Nat) (xs : List Value) (hs : a.eval sl = v) (hown : w.ownsRow B e size v n xs) (ad : Option Addr) (m c : Nat) (news : List Value) (hx : a.eval x = .slice ad m c) (hnl : news.length = m * size)
    (hsrc : 0 < m → ∃ b off, ad = some ⟨b, off, none⟩ ∧ ∀ j u, news[j]? = some u → w.cell? ⟨b, off + j, none⟩ = some u) (hone : ∀ u ∈ news, u.oneCell' = true) (hl : n + m ≤ 17179869184) (hB : B ≤ w.heap.size)
    (h : ∀ v' w', w'.ownsRow B e size v' (n + m) (xs ++ news) → w.grownBy w' v.ownBlock → wpList Tryd.prog ops Q rest (a.put o.dst v') w') : wpList Tryd.prog ops Q (o :: rest) a w := by
  obtain ⟨i0, hi, hz0, hz1, hz2⟩ := info_parts hinfo
  have hb : (n + m) * bytes ≤ 140737488355328 := by
    calc (n + m) * bytes ≤ (n + m) * 4096 := Nat.mul_le_mul (Nat.le_refl _) hby
      _ ≤ 140737488355328 := by omega
  by_cases hm : m = 0
  · subst hm
    obtain rfl : news = [] := List.eq_nil_of_length_eq_zero (by simpa using hnl)
    rcases hown.2 with ⟨rfl, h0⟩ | ⟨g, cap, cur, rfl, hb, hg, hnc, hcm, hs', ht⟩
    · have hrun : (Builtin.append_ #[T, T] o.type #[.slice none 0 0, .slice ad 0 c]).run Tryd.prog w = .ok (.slice none 0 0) w := by
        cases ad <;> simp [Builtin.append_, run_underlying hT, sizeOf, typeInfo, hi, Builtin.lenOf, Builtin.firstCells, loadCells, loadCellsFrom, storeCells]
      refine Lib.wpList_append_run w hgd sl x T T ho _ _ hs hx _ _ hrun (h _ w ?_ ⟨rfl, rfl, rfl, Nat.le_refl _, fun _ _ _ => rfl⟩)
      rw [List.append_nil]
      exact hown
    · have hrun : (Builtin.append_ #[T, T] o.type #[.slice (some ⟨g, 0, none⟩) n cap, .slice ad 0 c]).run Tryd.prog w = .ok (.slice (some ⟨g, 0, none⟩) n cap) w := by
        cases ad <;> simp [Builtin.append_, run_underlying hT, sizeOf, typeInfo, hi, Builtin.lenOf, Builtin.firstCells, loadCells, loadCellsFrom, storeCells, hnc]
      refine Lib.wpList_append_run w hgd sl x T T ho _ _ hs hx _ _ hrun (h _ w ?_ ⟨rfl, rfl, rfl, Nat.le_refl _, fun _ _ _ => rfl⟩)
      rw [List.append_nil]
      exact hown
  · obtain ⟨b, off, rfl, hc⟩ := hsrc (by omega)
    refine wpList_append_own w hgd sl x T ho B e i0 z size bytes hT hi hz0 hz1 hz2 hz hs0 v n xs hs hown ⟨b, off, none⟩ m c news hx hnl (fun j u hj => ?_) hone (by unfold maxLen; omega) hb hB (fun v' w' r1 r2 _ => h v' w' r1 r2)
    rw [cell_add]
    exact hc j u hj
theorem toks_len (L : List Tok) : (L.flatMap tokCells).length = L.length * 4 := by
  induction L with
  | nil => rfl
  | cons t L ih => rw [List.flatMap_cons, List.length_append, ih, List.length_cons]; show 4 + _ = _; omega
theorem bstr_eq (a b : List UInt8) : ((bstr a).toList == (bstr b).toList) = decide (a = b) := by
  have : ∀ l, (bstr l).toList = l := fun l => by rw [ByteArray.toList_eq]; simp [bstr]
  rw [this, this]
  by_cases h : a = b <;> simp [h]
theorem tokNeq (w : World) (x y : Tok) : (binOp .neq 38 (tokV x) (tokV y)).run Tryd.prog w = .ok (.bool (!decide (x = y))) w := by
  obtain ⟨a, b, c, d⟩ := x
  obtain ⟨a', b', c', d'⟩ := y
  have e : (Tok.mk a b c d = Tok.mk a' b' c' d') ↔ (a = a' ∧ b = b' ∧ c = c' ∧ d = d') := by simp
  show (binOp .neq 38 (.agg #[.int .i64 a, .int .i64 b, .string (bstr c), .int .i64 d]) (.agg #[.int .i64 a', .int .i64 b', .string (bstr c'), .int .i64 d'])).run Tryd.prog w = _
  rw [run_neq_struct]
  by_cases h1 : a = a'
  · by_cases h2 : b = b'
    · by_cases h3 : c = c'
      · by_cases h4 : d = d'
        · subst h1 h2 h3 h4
          go_simp
        · have q : (d == d') = false := by simpa using h4
          subst h1 h2 h3
          rw [decide_eq_false (fun h => h4 (e.1 h).2.2.2)]
          go_simp
      · have q : ((bstr c).toList == (bstr c').toList) = false := by rw [bstr_eq]; simpa using h3
        subst h1 h2
        rw [decide_eq_false (fun h => h3 (e.1 h).2.2.1)]
        go_simp
    · have q : (b == b') = false := by simpa using h2
      subst h1
      rw [decide_eq_false (fun h => h2 (e.1 h).2.1)]
      go_simp
  · have q : (a == a') = false := by simpa using h1
    rw [decide_eq_false (fun h => h1 (e.1 h).1)]
    go_simp
theorem tokEql (w : World) (x y : Tok) : (binOp .eql 38 (tokV x) (tokV y)).run Tryd.prog w = .ok (.bool (decide (x = y))) w := by
  obtain ⟨a, b, c, d⟩ := x
  obtain ⟨a', b', c', d'⟩ := y
  have e : (Tok.mk a b c d = Tok.mk a' b' c' d') ↔ (a = a' ∧ b = b' ∧ c = c' ∧ d = d') := by simp
  show (binOp .eql 38 (.agg #[.int .i64 a, .int .i64 b, .string (bstr c), .int .i64 d]) (.agg #[.int .i64 a', .int .i64 b', .string (bstr c'), .int .i64 d'])).run Tryd.prog w = _
  rw [run_eql_struct]
  by_cases h1 : a = a'
  · by_cases h2 : b = b'
    · by_cases h3 : c = c'
      · by_cases h4 : d = d'
        · subst h1 h2 h3 h4
          go_simp
        · have q : (d == d') = false := by simpa using h4
          subst h1 h2 h3
          rw [decide_eq_false (fun h => h4 (e.1 h).2.2.2)]
          go_simp
      · have q : ((bstr c).toList == (bstr c').toList) = false := by rw [bstr_eq]; simpa using h3
        subst h1 h2
        rw [decide_eq_false (fun h => h3 (e.1 h).2.2.1)]
        go_simp
    · have q : (b == b') = false := by simpa using h2
      subst h1
      rw [decide_eq_false (fun h => h2 (e.1 h).2.1)]
      go_simp
  · have q : (a == a') = false := by simpa using h1
    rw [decide_eq_false (fun h => h1 (e.1 h).1)]
    go_simp
theorem toks_cell {w : World} {a : Option Addr} {n : Nat} {L : List Tok} (h : ReadsT w a n L) (hn : 0 < n) : ∃ b off, a = some ⟨b, off, none⟩ ∧ ∀ j u, (L.flatMap tokCells)[j]? = some u → w.cell? ⟨b, off + j, none⟩ = some u := by
  obtain ⟨hl, h⟩ := h
  obtain ⟨b, off, ha, hb, hc⟩ := h hn
  refine ⟨b, off, ha, fun j u hj => ?_⟩
  have hlen : (L.flatMap tokCells).length = L.length * 4 := toks_len L
  have hjl : j < L.length * 4 := by rw [← hlen]; exact (List.getElem?_eq_some_iff.1 hj).1
  have hi : j / 4 < L.length := by omega
  obtain ⟨t, ht⟩ : ∃ t, L[j / 4]? = some t := ⟨L[j / 4], List.getElem?_eq_getElem hi⟩
  obtain ⟨v, hv⟩ : ∃ v, (tokCells t)[j % 4]? = some v := ⟨(tokCells t)[j % 4]'(by show j % 4 < 4; omega), List.getElem?_eq_getElem _⟩
  have e := tok_at ht hv
  rw [show j / 4 * 4 + j % 4 = j by omega] at e
  rw [hj] at e
  cases e
  have := hc (j / 4) t ht (j % 4) u hv
  rwa [Nat.add_assoc, show j / 4 * 4 + j % 4 = j by omega] at this
theorem ReadsT.take {w : World} {a : Option Addr} {n m : Nat} {L M : List Tok} (h : ReadsT w a (n + m) (L ++ M)) (hl : L.length = n) : ReadsT w a n L := by
  obtain ⟨_, h⟩ := h
  refine ⟨hl, fun hn => ?_⟩
  obtain ⟨b, off, ha, hb, hc⟩ := h (by omega)
  exact ⟨b, off, ha, hb, fun i x hx k v hv => hc i x (by rw [List.getElem?_append_left (lt_of_at hx)]; exact hx) k v hv⟩
theorem toks_one (L : List Tok) : ∀ u ∈ L.flatMap tokCells, u.oneCell' = true := by
  intro u hu
  obtain ⟨t, _, ht⟩ := List.mem_flatMap.1 hu
  simp only [tokCells, List.mem_cons, List.not_mem_nil, or_false] at ht
  rcases ht with rfl | rfl | rfl | rfl <;> rfl
theorem take_both {α : Type} {L L' : List α} {k : Nat} {x : α} (h : L.take k = L'.take k) (hx : L[k]? = some x) (hx' : L'[k]? = some x) : L.take (k + 1) = L'.take (k + 1) := by
  rw [List.take_add_one, List.take_add_one, h, hx, hx']
/-- the same tokens? -/
theorem sameC (w : World) (a : Option Addr) (n c : Nat) (L : List Tok) (a' : Option Addr) (n' c' : Nat) (L' : List Tok) (h : ReadsT w a n L) (h' : ReadsT w a' n' L') (hn : n ≤ 17179869184) (hn' : n' ≤ 17179869184) :
    Calls Tryd.prog 22 #[.slice a n c, .slice a' n' c'] w fun e w' => e = .returned (.bool (decide (L = L'))) ∧ Quiet w w' := by
  have hl := h.1
  have hl' := h'.1
  have HL := Lib.hid h
  have HL' := Lib.hid h'
  have HLN := Lib.hid hl
  have HLN' := Lib.hid hl'
  clear h h' hl hl'
  by_cases hne : n = n'
  · subst hne
    go_enter Tryd.func22, Tryd.ntmps22
    go_wp2
    go_loopw [5] (fun kv wr => ∃ k : Nat, k ≤ n ∧ kv = .int .i64 (k : Int) ∧ Hid (Quiet w wr ∧ L.take k = L'.take k)) (fun kv _ => n - (RowKit.intOf kv).toNat)
    case atStart => exact ⟨0, Nat.zero_le _, rfl, Lib.hid ⟨Quiet.refl _, rfl⟩⟩
    case round =>
      obtain ⟨k, hkn, rfl, HH⟩ := hrel
      by_cases hlt : k < n
      · obtain ⟨b, off, x, rfl, hb, hx, e0, e1, e2, e3⟩ := (HL.out.keep (HH.out.1.below w.heap.size) (Nat.le_refl _)).at hlt
        obtain ⟨b', off', x', rfl, hb', hx', e0', e1', e2', e3'⟩ := (HL'.out.keep (HH.out.1.below w.heap.size) (Nat.le_refl _)).at hlt
        have HX := Lib.hid hx
        have HX' := Lib.hid hx'
        obtain ⟨xk, xa, xt, xn⟩ := x
        obtain ⟨xk', xa', xt', xn'⟩ := x'
        simp only at e0 e1 e2 e3 e0' e1' e2' e3'
        clear hx hx'
        by_cases hxx : (⟨xk, xa, xt, xn⟩ : Tok) = ⟨xk', xa', xt', xn'⟩
        · have hq : ∀ w, (binOp .neq 38 (.agg #[.int .i64 xk, .int .i64 xa, .string (bstr xt), .int .i64 xn]) (.agg #[.int .i64 xk', .int .i64 xa', .string (bstr xt'), .int .i64 xn'])).run Tryd.prog w = .ok (.bool false) w := fun w => by
            have := tokNeq w ⟨xk, xa, xt, xn⟩ ⟨xk', xa', xt', xn'⟩
            rw [decide_eq_true hxx] at this
            exact this
          have HXX := Lib.hid hxx
          clear hxx
          go_wp2
          go_quiet (fail)
          go_wp2
          go_roundw
          case rel => exact ⟨k + 1, by omega, by go_num, Lib.hid ⟨HH.out.1.drewN _, take_both HH.out.2 HX.out (HXX.out ▸ HX'.out)⟩⟩
          case measure => simp [RowKit.intOf]; omega
        · have hq : ∀ w, (binOp .neq 38 (.agg #[.int .i64 xk, .int .i64 xa, .string (bstr xt), .int .i64 xn]) (.agg #[.int .i64 xk', .int .i64 xa', .string (bstr xt'), .int .i64 xn'])).run Tryd.prog w = .ok (.bool true) w := fun w => by
            have := tokNeq w ⟨xk, xa, xt, xn⟩ ⟨xk', xa', xt', xn'⟩
            rw [decide_eq_false hxx] at this
            exact this
          have HXX := Lib.hid hxx
          clear hxx
          go_wp2
          go_quiet (fail)
          go_wp2
          go_ret
          refine ⟨congrArg (fun b => Ending.returned (.bool b)) (decide_eq_false ?_).symm, HH.out.1.drewN _⟩
          intro e
          have h1 := HX.out
          rw [e, HX'.out] at h1
          exact HXX.out (Option.some.inj h1).symm
      · obtain rfl : k = n := by omega
        go_wp2
        go_ret
        refine ⟨congrArg (fun b => Ending.returned (.bool b)) (decide_eq_true ?_).symm, HH.out.1⟩
        have := HH.out.2
        rwa [List.take_of_length_le (by rw [HLN.out]; exact Nat.le_refl _), List.take_of_length_le (by rw [HLN'.out]; exact Nat.le_refl _)] at this
  · go_enter Tryd.func22, Tryd.ntmps22
    go_wp2
    go_ret
    refine ⟨congrArg (fun b => Ending.returned (.bool b)) (decide_eq_false ?_).symm, Quiet.refl _⟩
    intro e
    exact hne (by rw [← HLN.out, ← HLN'.out, e])
end Go.Proofs.YtmhemahkcbgaoaaDoor
