/- Texts joined, one behind the other (ScanJ, ScanK, ScanL). -/
import Derived.Test.YtmhemahkcbgaoaaGreatDoorKn07
/- A line's tokens, by the program. -/
namespace Go.Proofs.YtmhemahkcbgaoaaGreatDoor
set_option linter.unusedVariables false
set_option linter.unusedSimpArgs false
open Go.RowKit
open Go.Lib hiding intOf
def tokCells (t : Tok) : List Value := [.int .i64 t.kind, .int .i64 t.at', .string (bstr t.text), .int .i64 t.num]
/-- a row of these tokens that is the call's own -/
def OwnT (B : Nat) (v : Value) (acc : List Tok) (w : World) : Prop := w.ownsRow B 28 4 v acc.length (acc.flatMap tokCells)
theorem OwnT.below {B : Nat} {v : Value} {acc : List Tok} {w w' : World} (h : OwnT B v acc w) (b : Below w.heap.size w w') : OwnT B v acc w' := by
  refine ⟨h.1, ?_⟩
  rcases h.2 with hn | ⟨g, cap, cur, rfl, hb, hgg, rest⟩
  · exact .inl hn
  · exact .inr ⟨g, cap, cur, rfl, hb, (b.block g (Array.getElem?_eq_some_iff.1 hgg).1).trans hgg, rest⟩
/-- a store into a lower block leaves the row -/
theorem OwnT.other {B : Nat} {v : Value} {acc : List Tok} {w : World} (h : OwnT B v acc w) {p : Addr} (hp : p.block < B) (x : Value) : OwnT B v acc (w.setCell p x) := by
  refine ⟨h.1, ?_⟩
  rcases h.2 with hn | ⟨g, cap, cur, rfl, hb, hgg, rest⟩
  · exact .inl hn
  · exact .inr ⟨g, cap, cur, rfl, hb, (Below.heap_setCell _ _ _ _ (by omega)).trans hgg, rest⟩
set_option maxHeartbeats 400000 in
theorem cloneC (w : World) (s : List UInt8) (hs : s.length ≤ 1099511627776) : Calls Tryz.prog 28 #[.string (bstr s)] w fun e w' => e = .returned (.string (bstr s)) ∧ Below w.heap.size w w' := by
  have hc := Tryz.stringslite_Clone (bstr s) w (by rw [bstr_size]; omega)
  have HC := Lib.hid hc
  clear hc
  go_enter Tryz.func28, Tryz.ntmps28
  go_wp2_with (go_at_call 51; refine (HC.out).mono ?_; rintro e w' ⟨rfl, hb⟩)
  go_ret
  exact ⟨rfl, hb⟩
theorem infoTok : (Tryz.prog.info? 28).map (fun i => (i.zero, i.size, i.bytes)) = some (some (.agg #[.int .i64 0, .int .i64 0, .string ByteArray.empty, .int .i64 0]), 4, 40) := by kernel_rfl
theorem add0 (g j : Nat) : (⟨g, 0, none⟩ : Addr).add j = ⟨g, j, none⟩ := by
  unfold Addr.add
  split <;> simp_all
/-- append of a token to a row of one's own -/
theorem appTok {ops : Array Oper} {rest : List Oper} {o : Oper} {a : Act} {w : World} {Q : Exit → Act → World → Prop} (hgd : o.guard = none) (sl x : Operand) (ho : o.op = .call { callee := .builtin .append, args := #[sl, x], argTypes := #[29, 29] })
    (B B0 : Nat) (w0 wp : World) (v : Value) (acc : List Tok) (tk : Tok) (hs : a.eval sl = v) (hown : OwnT B v acc wp) (hx : a.eval x = .slice (some ⟨wp.heap.size, 0, none⟩) 1 1) (hw : w = wp.alloc (.cells (tokCells tk).toArray 28)) (hl : acc.length ≤ 1099511627776) (hb : Below B0 w0 wp) (hB0 : B0 ≤ B) (hB : B ≤ wp.heap.size)
    (h : ∀ v' w', OwnT B v' (acc ++ [tk]) w' → Below B0 w0 w' → wp.heap.size ≤ w'.heap.size → (∀ g e xs, g < B → Row wp g e xs → Row w' g e xs) → wpList Tryz.prog ops Q rest (a.put o.dst v') w') : wpList Tryz.prog ops Q (o :: rest) a w := by
  subst hw
  obtain ⟨i0, hi, hz0, hz1, hz2⟩ := info_parts infoTok
  have hsz : (wp.alloc (.cells (tokCells tk).toArray 28)).heap.size = wp.heap.size + 1 := by simp
  refine wpList_append_own _ hgd sl x 29 ho B 28 i0 (.agg #[.int .i64 0, .int .i64 0, .string ByteArray.empty, .int .i64 0]) 4 40 Tryz.underlying29 hi hz0 hz1 hz2 rfl (by decide) v acc.length _ hs (World.ownsRow.alloc hown _) ⟨wp.heap.size, 0, none⟩ 1 1 (tokCells tk) hx rfl ?_ ?_ (by unfold maxLen; omega) (by omega) (by omega) ?_
  · intro j u hj
    have hr : Row (wp.alloc (.cells (tokCells tk).toArray 28)) wp.heap.size 28 (tokCells tk) := alloc_last _ _
    have := Row.cell hr j
    rw [hj] at this
    rw [add0]
    exact this
  · intro u hu
    simp only [tokCells, List.mem_cons, List.not_mem_nil, or_false] at hu
    rcases hu with rfl | rfl | rfl | rfl <;> rfl
  intro v' w' h1 h2 _
  have hlt : ∀ k, v.ownBlock = some k → B ≤ k := fun k hk => (World.ownsRow.lt hown k hk).1
  have hbb : Below B0 w0 w' := (hb.alloc (Nat.le_trans hB0 hB) _).grown h2 (by omega) (fun k hk => Nat.le_trans hB0 (hlt k hk))
  refine h v' w' ?_ hbb (by have := h2.size; omega) ?_
  · unfold OwnT
    rw [List.length_append, List.flatMap_append]
    simpa using h1
  · intro g e xs hg hr
    unfold Row at hr ⊢
    rw [h2.block g (by omega) (fun e => by have := hlt g e.symm; omega), Lib.alloc_old wp _ g (by omega)]
    exact hr
def ScanF (l : List UInt8) : Except (Nat × Nat) (List Tok) := scanGo l (l.length + 1) 0 []
/-- the frame: the slots that count, the others by u -/
def SFR (l : List UInt8) (B : Nat) (v : Value) (i : Nat) (u : Nat → Value) : Act := ⟨#[.string (bstr l), u 1, u 2, u 3, v, .pointer (some ⟨B, 0, none⟩), .int .i64 (i : Int), u 7, u 8, u 9, u 10, u 11, u 12, u 13, u 14, u 15, u 16, u 17, u 18, u 19, u 20, u 21, u 22, u 23, u 24, u 25, u 26, u 27, u 28, u 29, u 30, u 31, u 32, u 33, u 34, u 35, u 36, u 37, u 38, u 39, u 40, u 41, u 42, u 43, u 44, u 45, u 46, u 47, u 48, u 49, u 50, u 51, u 52, u 53, u 54, u 55, u 56, u 57, u 58, u 59, u 60, u 61, u 62, u 63, u 64, u 65, u 66, u 67, u 68, u 69, u 70, u 71, u 72, u 73, u 74, u 75, u 76, u 77, u 78, u 79, u 80, u 81, u 82, u 83, u 84, u 85, u 86, u 87, u 88, u 89, u 90, u 91, u 92, u 93, u 94, u 95, u 96, u 97, u 98, u 99, u 100, u 101, u 102, u 103, u 104, u 105, u 106, u 107, u 108, u 109, u 110, u 111, u 112, u 113], []⟩
/-- what the labels' jumps bring -/
def SJ (l : List UInt8) (B : Nat) (w : World) (lab : Nat) (a : Act) (wr : World) : Prop :=
  ∃ (i f : Nat) (acc : List Tok) (tk : Tok) (v : Value), a = SFR l B v i (fun k => a.tmps.getD k undef) ∧ OwnT (B + 1) v acc wr ∧ Row wr B 28 (tokCells tk) ∧ Below B w wr ∧ i ≤ l.length ∧ acc.length ≤ i ∧ l.length < i + f ∧
    ((lab = 0 ∧ scanGo l f i acc = ScanF l) ∨
     (lab = 1 ∧ l[i]? = some 34 ∧ tk = ⟨0, i, [], 0⟩ ∧ scanGo l f i acc = ScanF l) ∨
     (lab = 2 ∧ ScanF l = .error (70, i)) ∨
     (lab = 3 ∧ 1 ≤ i ∧ acc.length < i ∧ (if l.length ≤ i ∨ BlankN (l.getD i 0).toNat then scanGo l f i (acc ++ [tk]) else .error (70, i)) = ScanF l))
def SM (l : List UInt8) (lab : Nat) (a : Act) (_ : World) : Nat :=
  if lab = 2 then 0 else 4 * (l.length + 1 - (RowKit.intOf (a.tmps.getD 6 undef)).toNat) + (if lab = 3 then 3 else if lab = 0 then 2 else 1)
/-- what is answered -/
def ScanQ (B : Nat) (w : World) (r : Except (Nat × Nat) (List Tok)) (e : Ending) (w' : World) : Prop :=
  ∃ v err, e = .returned (.tuple #[v, err]) ∧ Below w.heap.size w w' ∧ match r with
    | .ok toks => err = .nilIface ∧ OwnT B v toks w'
    | .error (c, p) => v = .slice none 0 0 ∧ ∃ g, err = .iface 54 (.pointer (some ⟨g, 0, none⟩)) ∧ w.heap.size ≤ g ∧ Row w' g 56 [.int .i64 (c : Int), .int .i64 (p : Int)]
set_option maxHeartbeats 4000000 in
set_option maxRecDepth 100000 in
theorem scan_wrong (w : World) (l : List UInt8) (hm : l.length ≤ 16384) :
    ∃ X, findLabel (scopeOf Tryz.f12.body) 2 = some (.seq .skip X) ∧ ∀ (J : Nat → Act → World → Prop) a wr, SJ l w.heap.size w 2 a wr → X.wp Tryz.prog (jumps J
      (bodyPost Tryz.prog Tryz.f12 (ScanQ w.heap.size w (ScanF l)))) a wr := by
  refine ⟨_, rfl, ?_⟩
  intro J a wr hJ
  obtain ⟨i, f, acc, tk, v, ha, hO, hR, hb, hi, hac, hif, hq⟩ := hJ
  generalize (fun k => a.tmps.getD k undef) = u at ha
  subst ha
  unfold SFR
  rcases hq with ⟨h, _⟩ | ⟨h, _⟩ | ⟨_, hq⟩ | ⟨h, _⟩
  · cases h
  · cases h
  · have HQ := Lib.hid hq
    clear hq
    go_wp2
    try rw [jumps_ret]
    go_ret2
    unfold ScanQ
    rw [HQ.out]
    exact ⟨_, _, rfl, hb.alloc hb.size _, rfl, wr.heap.size, rfl, hb.size, alloc_last _ _⟩
  · cases h
theorem frame_eval {a : Act} : a = a := rfl
set_option maxHeartbeats 4000000 in
set_option maxRecDepth 100000 in
theorem scan_behind (w : World) (l : List UInt8) (hm : l.length ≤ 16384) :
    ∃ X, findLabel (scopeOf Tryz.f12.body) 3 = some (.seq .skip X) ∧ ∀ a wr, SJ l w.heap.size w 3 a wr → X.wp Tryz.prog (jumps (fun l' a' w' => SJ l w.heap.size w l' a' w' ∧ SM l l' a' w' < SM l 3 a wr)
      (bodyPost Tryz.prog Tryz.f12 (ScanQ w.heap.size w (ScanF l)))) a wr := by
  obtain ⟨X2, hX2, hpass2⟩ := scan_wrong w l hm
  have e2 : Code.seq .skip X2 = _ := Option.some.inj hX2.symm
  obtain rfl := (Code.seq.inj e2).2
  clear hX2 e2
  refine ⟨_, rfl, ?_⟩
  intro a wr hJ
  obtain ⟨i, f, acc, tk, v, ha, hO, hR, hb, hi, hac, hif, hq⟩ := hJ
  generalize hu : (fun k => a.tmps.getD k undef) = u at ha
  rcases hq with ⟨h, _⟩ | ⟨h, _⟩ | ⟨h, _⟩ | ⟨_, hi1, hac2, hq⟩
  · cases h
  · cases h
  · cases h
  clear hu
  subst ha
  obtain ⟨n, hn⟩ : ∃ n, n = l.length := ⟨_, rfl⟩
  have hsz : (bstr l).size = n := by rw [bstr_size, hn]
  have hBr := hb.size
  have hRl : w.heap.size + 1 ≤ wr.heap.size := hR.lt
  have c0 := Row.cell hR 0
  have c1 := Row.cell hR 1
  have c2 := Row.cell hR 2
  have c3 := Row.cell hR 3
  simp only [tokCells, List.getElem?_cons_zero, List.getElem?_cons_succ] at c0 c1 c2 c3
  have HN := Lib.hid hn
  by_cases hend : l.length ≤ i
  · rw [if_pos (.inl hend)] at hq
    obtain rfl : i = n := by omega
    have HQ := Lib.hid hq
    rw [← hn] at hm hif hi
    clear hq hn hend hpass2
    unfold SFR
    go_wp2_with (at_builtin; refine appTok rfl _ _ rfl (w.heap.size + 1) w.heap.size w wr _ acc tk rfl hO rfl rfl (by omega) hb (by omega) hRl ?_; intro v3 w3 hO3 hb3 hs3 hk3)
    go_step3
    show SJ l w.heap.size w 0 _ _ ∧ SM l 0 _ _ < SM l 3 _ _
    refine ⟨⟨i, f, acc ++ [tk], tk, v3, rfl, hO3, hk3 _ _ _ (by omega) hR, hb3, by rw [← HN.out]; omega, by simp; omega, by rw [← HN.out]; omega, .inl ⟨rfl, HQ.out⟩⟩, ?_⟩
    show 4 * (l.length + 1 - ((i : Nat) : Int).toNat) + 2 < 4 * (l.length + 1 - ((i : Nat) : Int).toNat) + 3
    omega
  · obtain ⟨x, hx⟩ := some_at (l := l) (k := i) (by omega)
    have ii : i < (bstr l).size := by rw [hsz]; omega
    have hxa : (bstr l)[i]'ii = x := bstr_at hx _
    have hg : l.getD i 0 = x := by rw [List.getD_eq_getElem?_getD, hx]; rfl
    rw [hg] at hq
    have hlt : i < n := by omega
    by_cases hbl : BlankN x.toNat
    · rw [if_pos (.inr hbl)] at hq
      have HQ := Lib.hid hq
      have HBL := Lib.hid (fun w1 => decide_eq_true hbl ▸ blankC w1 x.toNat)
      rw [← hn] at hm hif hi
      clear hq hn hpass2 hx hg hbl hend
      unfold SFR
      go_wp2_with (first | (go_at_call 26; refine (HBL.out _).mono ?_; rintro e wq ⟨rfl, hwq⟩; obtain rfl := hwq.symm) | (at_builtin; refine appTok rfl _ _ rfl (w.heap.size + 1) w.heap.size w wr _ acc tk rfl hO rfl rfl (by omega) hb (by omega) hRl ?_; intro v3 w3 hO3 hb3 hs3 hk3))
      go_step3
      show SJ l w.heap.size w 0 _ _ ∧ SM l 0 _ _ < SM l 3 _ _
      refine ⟨⟨i, f, acc ++ [tk], tk, v3, rfl, hO3, hk3 _ _ _ (by omega) hR, hb3, by rw [← HN.out]; omega, by simp; omega, by rw [← HN.out]; omega, .inl ⟨rfl, HQ.out⟩⟩, ?_⟩
      show 4 * (l.length + 1 - ((i : Nat) : Int).toNat) + 2 < 4 * (l.length + 1 - ((i : Nat) : Int).toNat) + 3
      omega
    · rw [if_neg (fun h => h.elim hend hbl)] at hq
      have HQ := Lib.hid hq
      have HBL := Lib.hid (fun w1 => decide_eq_false hbl ▸ blankC w1 x.toNat)
      rw [← hn] at hm hif hi
      clear hq hn hx hg hbl hend
      unfold SFR
      go_wp2_with (go_at_call 26; refine (HBL.out _).mono ?_; rintro e wq ⟨rfl, hwq⟩; obtain rfl := hwq.symm)
      go_step3
      rename_i hK
      refine hK _ _ ?_
      refine wp_mono (hpass2 (fun l' a' w' => SJ l w.heap.size w l' a' w' ∧ SM l l' a' w' < SM l 3 (SFR l w.heap.size v i u) wr) _ _ ?_) ?_
      · exact ⟨i, f, acc, tk, v, rfl, hO, hR, hb, by rw [← HN.out]; omega, hac, by rw [← HN.out]; omega, .inr (.inr (.inl ⟨rfl, HQ.out.symm⟩))⟩
      · exact fun e a w h => h
theorem unq_bound (l : List UInt8) : ∀ (f i : Nat) (acc : List UInt8), i ≤ l.length + 1 → (unq l f i acc).2.1 ≤ l.length + 1 ∧ ((unq l f i acc).2.2 = true → (unq l f i acc).2.1 ≤ l.length ∧ i < (unq l f i acc).2.1)
  | 0, i, acc, h => ⟨by simpa [unq] using h, by simp [unq]⟩
  | f + 1, i, acc, h => by
    rw [unq]
    by_cases h1 : l.length ≤ i
    · rw [if_pos h1]; exact ⟨by simp, by simp⟩
    rw [if_neg h1]
    by_cases h2 : l.getD i 0 = 34
    · rw [if_pos h2]; exact ⟨by simp only; omega, fun _ => ⟨by simp only; omega, by simp only; omega⟩⟩
    rw [if_neg h2]
    by_cases h3 : l.getD i 0 = 92
    · rw [if_pos h3]
      by_cases h4 : (escOf (l.drop i)).2 = 0
      · rw [if_pos h4]; exact ⟨by simp only; omega, by simp⟩
      · rw [if_neg h4]
        have he := (esc_le (l.drop i)).1
        rw [List.length_drop] at he
        have := unq_bound l f (i + (escOf (l.drop i)).2) (acc ++ (escOf (l.drop i)).1) (by omega)
        exact ⟨this.1, fun ht => ⟨(this.2 ht).1, by have := (this.2 ht).2; omega⟩⟩
    rw [if_neg h3]
    by_cases h5 : RightD (decodeL (l.drop i)) ∧ PlainN (decodeL (l.drop i)).1
    · rw [if_pos h5]
      have hne : l.drop i ≠ [] := by intro e; have := congrArg List.length e; simp at this; omega
      have he := dec_width hne
      have h1w := dec_width_one (l := l.drop i)
      rw [List.length_drop] at he
      have := unq_bound l f (i + (decodeL (l.drop i)).2) (acc ++ (l.drop i).take (decodeL (l.drop i)).2) (by omega)
      exact ⟨this.1, fun ht => ⟨(this.2 ht).1, by have := (this.2 ht).2; omega⟩⟩
    · rw [if_neg h5]; exact ⟨by simp only; omega, by simp⟩
set_option maxHeartbeats 4000000 in
set_option maxRecDepth 100000 in
theorem scan_text (w : World) (l : List UInt8) (hm : l.length ≤ 16384) (hT : Tabs w) :
    ∃ X, findLabel (scopeOf Tryz.f12.body) 1 = some (.seq .skip X) ∧ ∀ a wr, SJ l w.heap.size w 1 a wr → X.wp Tryz.prog (jumps (fun l' a' w' => SJ l w.heap.size w l' a' w' ∧ SM l l' a' w' < SM l 1 a wr)
      (bodyPost Tryz.prog Tryz.f12 (ScanQ w.heap.size w (ScanF l)))) a wr := by
  obtain ⟨X3, hX3, hpass3⟩ := scan_behind w l hm
  have e3 : Code.seq .skip X3 = _ := Option.some.inj hX3.symm
  obtain rfl := (Code.seq.inj e3).2
  clear hX3 e3
  refine ⟨_, rfl, ?_⟩
  intro a wr hJ
  obtain ⟨i, f, acc, tk, v, ha, hO, hR, hb, hi, hac, hif, hq⟩ := hJ
  generalize hu : (fun k => a.tmps.getD k undef) = u at ha
  rcases hq with ⟨h, _⟩ | ⟨_, hx, rfl, hq⟩ | ⟨h, _⟩ | ⟨h, _⟩
  · cases h
  rotate_left
  · cases h
  · cases h
  clear hu
  subst ha
  obtain ⟨n, hn⟩ : ∃ n, n = l.length := ⟨_, rfl⟩
  have hsz : (bstr l).size = n := by rw [bstr_size, hn]
  have hBr := hb.size
  have hRl : w.heap.size + 1 ≤ wr.heap.size := hR.lt
  have hlt : i < l.length := (List.getElem?_eq_some_iff.1 hx).1
  obtain ⟨f, rfl⟩ : ∃ g, f = g + 1 := ⟨f - 1, by omega⟩
  have hg : l.getD i 0 = 34 := by rw [List.getD_eq_getElem?_getD, hx]; rfl
  rw [scanGo] at hq
  simp only [endOf_stop (p := BlankN) hx (by decide), if_neg (show ¬ l.length ≤ i by omega), hg, if_true] at hq
  obtain ⟨D, hD⟩ : ∃ D, l.drop i = D := ⟨_, rfl⟩
  have hDl : D.length = n - i := by rw [← hD, List.length_drop, ← hn]
  have hsl : D.take (n - i) = D := List.take_of_length_le (by omega)
  rw [hD] at hq
  have hQ := quotedC wr D (by omega) (hT.below hb hT.size)
  have hqb := unq_bound D (D.length + 1) 1 [] (by omega)
  change (quotedOf D).2.1 ≤ _ ∧ ((quotedOf D).2.2 = true → (quotedOf D).2.1 ≤ D.length ∧ 1 < (quotedOf D).2.1) at hqb
  obtain ⟨Q1, hQ1⟩ : ∃ q, (quotedOf D).1 = q := ⟨_, rfl⟩
  obtain ⟨Q2, hQ2⟩ : ∃ q, (quotedOf D).2.1 = q := ⟨_, rfl⟩
  obtain ⟨Q3, hQ3⟩ : ∃ q, (quotedOf D).2.2 = q := ⟨_, rfl⟩
  rw [hQ1, hQ2, hQ3] at hq hQ
  rw [hQ2, hQ3] at hqb
  have HQC := Lib.hid hQ
  have HN := Lib.hid hn
  have hq2 := hqb.1
  cases Q3
  · simp only [if_true] at hq
    have HQ := Lib.hid hq
    rw [← hn] at hm hif hi hlt
    clear hq hn hx hg hpass3 hQ1 hQ2 hQ3 hqb hQ
    unfold SFR
    go_wp2_with (go_at_call 30; refine (HQC.out).mono ?_; rintro e w2 ⟨rfl, hb2⟩)
    try rw [jumps_ret]
    go_ret2
    unfold ScanQ
    rw [← HQ.out]
    exact ⟨_, _, rfl, (hb.trans (hb2.mono hBr)).alloc (Nat.le_trans hBr hb2.size) _, rfl, w2.heap.size, rfl, Nat.le_trans hBr hb2.size, by
      have := alloc_last w2 (.cells #[.int .i64 71, .int .i64 ((i : Int) + (Q2 : Int))] 56)
      rw [show ((i : Int) + (Q2 : Int)) = ((i + Q2 : Nat) : Int) by omega] at *
      exact this⟩
  · simp only [Bool.true_eq_false, if_false] at hq
    obtain ⟨hqa, hqc⟩ := hqb.2 rfl
    have HQ := Lib.hid hq
    rw [← hn] at hm hif hi hlt
    have HD := Lib.hid hDl
    clear hq hn hx hg hQ1 hQ2 hQ3 hqb hQ
    unfold SFR
    go_wp2_with (go_at_call 30; refine (HQC.out).mono ?_; rintro e w2 ⟨rfl, hb2⟩; have hR2 := hR.keep hb2 hR.lt; have c0 := Row.cell hR2 0; have c2 := Row.cell hR2 2; have f0 := Row.frozen hR2 0; have f2 := Row.frozen hR2 2; simp only [tokCells, List.getElem?_cons_zero, List.getElem?_cons_succ] at c0 c2)
    go_step3
    have hcast : ((i : Int) + (Q2 : Int)) = ((i + Q2 : Nat) : Int) := by omega
    rw [hcast]
    rename_i hK
    refine hK _ _ ?_
    have hR3 := (hR2.set 0 (.int .i64 3)).set 2 (.string (bstr Q1))
    have hDo := HD.out
    refine wp_mono (hpass3 _ _ ⟨i + Q2, f, acc, ⟨3, i, Q1, 0⟩, v, rfl, ((hO.below hb2).other (Nat.lt_succ_self _) _).other (Nat.lt_succ_self _) _, hR3, ((hb.trans (hb2.mono hBr)).setCell (p := ⟨w.heap.size, 0, none⟩) (Nat.le_refl _) _).setCell (p := ⟨w.heap.size, 2, none⟩) (Nat.le_refl _) _, by rw [← HN.out]; omega, by omega, by rw [← HN.out]; omega, .inr (.inr (.inr ⟨rfl, by omega, by omega, HQ.out⟩))⟩) ?_
    intro e a' w' h
    have hlt2 : SM l 3 (SFR l w.heap.size v (i + Q2) (fun _ => undef)) w' < SM l 1 (SFR l w.heap.size v i u) wr := by
      show 4 * (l.length + 1 - ((i + Q2 : Nat) : Int).toNat) + 3 < 4 * (l.length + 1 - ((i : Nat) : Int).toNat) + 1
      rw [← HN.out]
      omega
    cases e <;> first | exact h | exact ⟨h.1, Nat.lt_trans h.2 hlt2⟩
end Go.Proofs.YtmhemahkcbgaoaaGreatDoor
/- A line's tokens: the two loops of the first label, and what lies behind the second one. -/
namespace Go.Proofs.YtmhemahkcbgaoaaGreatDoor
set_option linter.unusedVariables false
set_option linter.unusedSimpArgs false
open Go.RowKit
open Go.Lib hiding intOf
def fstC : Code → Code
  | .seq a _ => a
  | c => c
def sndC : Code → Code
  | .seq _ b => b
  | c => c
theorem scanGo_same {l : List UInt8} {f i j : Nat} {acc : List Tok} (h : endOf BlankN l i = endOf BlankN l j) : scanGo l (f + 1) i acc = scanGo l (f + 1) j acc := by
  rw [scanGo, scanGo, h]
/-- the frame, with the place at which the token begins -/
def SF7 (l : List UInt8) (B : Nat) (v : Value) (i j : Nat) (u : Nat → Value) : Act := SFR l B v i (fun k => if k = 7 then .int .i64 (j : Int) else u k)
set_option maxHeartbeats 4000000 in
set_option maxRecDepth 100000 in
theorem scan_loop1 (l : List UInt8) (hm : l.length ≤ 16384) (B : Nat) (v : Value) (i : Nat) (hi : i ≤ l.length) (u : Nat → Value) (wr : World) :
    ∃ X, findLabel (scopeOf Tryz.f12.body) 0 = some (.seq .skip X) ∧ ∀ (K : Act → World → Prop) (Q : Exit → Act → World → Prop),
      (∀ (j : Nat) (a' : Act), i ≤ j → j ≤ l.length → endOf BlankN l i = j → endOf BlankN l j = j → a' = SFR l B v j (fun k => a'.tmps.getD k undef) → K a' wr) →
      (fstC X).wp Tryz.prog (Exit.then K Q) (SFR l B v i u) wr := by
  refine ⟨_, rfl, ?_⟩
  intro K Q hK
  dsimp only [fstC]
  obtain ⟨n, hn⟩ : ∃ n, n = l.length := ⟨_, rfl⟩
  have hsz : (bstr l).size = n := by rw [bstr_size, hn]
  have HN := Lib.hid hn
  have HK := Lib.hid hK
  rw [← hn] at hm hi
  clear hn hK
  unfold SFR
  go_wp2
  go_loopw [6] (fun iv w2 => ∃ j : Nat, i ≤ j ∧ j ≤ n ∧ iv = .int .i64 (j : Int) ∧ endOf BlankN l j = endOf BlankN l i ∧ w2 = wr) (fun iv _ => n - (RowKit.intOf iv).toNat)
  case atStart => exact ⟨i, Nat.le_refl _, hi, rfl, rfl, rfl⟩
  case round =>
    obtain ⟨j, hij, hjn, rfl, hen, rfl⟩ := hrel
    by_cases hlt : j < n
    · obtain ⟨x, hx⟩ := some_at (l := l) (k := j) (by rw [← HN.out]; exact hlt)
      have ij : j < (bstr l).size := by rw [hsz]; exact hlt
      have hxa : (bstr l)[j]'ij = x := bstr_at hx _
      by_cases hbl : BlankN x.toNat
      · have HE := Lib.hid ((endOf_step hx hbl).trans hen)
        have HBL := Lib.hid (fun w1 => decide_eq_true hbl ▸ blankC w1 x.toNat)
        clear hx hbl hen
        go_wp2_with (go_at_call 26; refine (HBL.out _).mono ?_; rintro e wq ⟨rfl, hwq⟩; obtain rfl := hwq.symm)
        go_roundw
        case rel => exact ⟨j + 1, by omega, by omega, by go_num, HE.out, trivial⟩
        case measure => simp [RowKit.intOf]; omega
      · have HEJ := Lib.hid (hen.symm.trans (endOf_stop hx hbl))
        have HEJ2 := Lib.hid (endOf_stop hx hbl)
        have HBL := Lib.hid (fun w1 => decide_eq_false hbl ▸ blankC w1 x.toNat)
        clear hx hbl hen
        go_wp2_with (go_at_call 26; refine (HBL.out _).mono ?_; rintro e wq ⟨rfl, hwq⟩; obtain rfl := hwq.symm)
        exact HK.out j _ hij (by rw [← HN.out]; omega) HEJ.out HEJ2.out rfl
    · obtain rfl : j = n := by omega
      have HEJ := Lib.hid (hen.symm.trans (endOf_end (by rw [← HN.out]; exact Nat.le_refl _)))
      have HEJ2 := Lib.hid (endOf_end (p := BlankN) (l := l) (i := j) (by rw [← HN.out]; exact Nat.le_refl _))
      clear hen
      go_wp2
      exact HK.out j _ hij (by rw [← HN.out]; omega) HEJ.out HEJ2.out rfl
set_option maxHeartbeats 4000000 in
set_option maxRecDepth 100000 in
theorem scan_loop2 (l : List UInt8) (hm : l.length ≤ 16384) (B : Nat) (v : Value) (j : Nat) (hj : j ≤ l.length) (wr : World) :
    ∃ X, findLabel (scopeOf Tryz.f12.body) 0 = some (.seq .skip X) ∧ ∀ (K : Act → World → Prop) (Q : Exit → Act → World → Prop) (a : Act), a = SF7 l B v j j (fun k => a.tmps.getD k undef) →
      (∀ (k : Nat) (a' : Act), j ≤ k → k ≤ l.length → endOf RunN l j = k → a' = SF7 l B v k j (fun k => a'.tmps.getD k undef) → K a' wr) →
      (fstC (sndC (sndC (sndC (sndC X))))).wp Tryz.prog (Exit.then K Q) a wr := by
  refine ⟨_, rfl, ?_⟩
  intro K Q a ha hK
  generalize (fun k => a.tmps.getD k undef) = u at ha
  subst ha
  dsimp only [fstC, sndC]
  obtain ⟨n, hn⟩ : ∃ n, n = l.length := ⟨_, rfl⟩
  have hsz : (bstr l).size = n := by rw [bstr_size, hn]
  have HN := Lib.hid hn
  have HK := Lib.hid hK
  rw [← hn] at hm hj
  clear hn hK
  unfold SF7 SFR
  simp only [if_true, Nat.reduceEqDiff, if_false]
  go_wp2
  go_loopw [6] (fun iv w2 => ∃ k : Nat, j ≤ k ∧ k ≤ n ∧ iv = .int .i64 (k : Int) ∧ endOf RunN l k = endOf RunN l j ∧ w2 = wr) (fun iv _ => n - (RowKit.intOf iv).toNat)
  case atStart => exact ⟨j, Nat.le_refl _, hj, rfl, rfl, rfl⟩
  case round =>
    obtain ⟨k, hij, hjn, rfl, hen, rfl⟩ := hrel
    by_cases hlt : k < n
    · obtain ⟨x, hx⟩ := some_at (l := l) (k := k) (by rw [← HN.out]; exact hlt)
      have ij : k < (bstr l).size := by rw [hsz]; exact hlt
      have hxa : (bstr l)[k]'ij = x := bstr_at hx _
      by_cases hbl : RunN x.toNat
      · have HE := Lib.hid ((endOf_step hx hbl).trans hen)
        have HBL := Lib.hid (fun w1 => decide_eq_true hbl ▸ runsC w1 x.toNat)
        clear hx hbl hen
        go_wp2_with (go_at_call 27; refine (HBL.out _).mono ?_; rintro e wq ⟨rfl, hwq⟩; obtain rfl := hwq.symm)
        go_roundw
        case rel => exact ⟨k + 1, by omega, by omega, by go_num, HE.out, trivial⟩
        case measure => simp [RowKit.intOf]; omega
      · have HEJ := Lib.hid (hen.symm.trans (endOf_stop hx hbl))
        have HBL := Lib.hid (fun w1 => decide_eq_false hbl ▸ runsC w1 x.toNat)
        clear hx hbl hen
        go_wp2_with (go_at_call 27; refine (HBL.out _).mono ?_; rintro e wq ⟨rfl, hwq⟩; obtain rfl := hwq.symm)
        exact HK.out k _ hij (by rw [← HN.out]; omega) HEJ.out rfl
    · obtain rfl : k = n := by omega
      have HEJ := Lib.hid (hen.symm.trans (endOf_end (by rw [← HN.out]; exact Nat.le_refl _)))
      clear hen
      go_wp2
      exact HK.out k _ hij (by rw [← HN.out]; omega) HEJ.out rfl
end Go.Proofs.YtmhemahkcbgaoaaGreatDoor
/- A line's tokens: behind a run. -/
namespace Go.Proofs.YtmhemahkcbgaoaaGreatDoor
set_option linter.unusedVariables false
set_option linter.unusedSimpArgs false
open Go.RowKit
open Go.Lib hiding intOf
set_option maxHeartbeats 8000000 in
set_option maxRecDepth 100000 in
theorem scan_tail (w : World) (l : List UInt8) (hm : l.length ≤ 16384) :
    ∃ X, findLabel (scopeOf Tryz.f12.body) 0 = some (.seq .skip X) ∧ ∀ (j k f : Nat) (acc : List Tok) (v : Value) (a : Act) (wr : World) (M : Nat), a = SF7 l w.heap.size v k j (fun k => a.tmps.getD k undef) →
      OwnT (w.heap.size + 1) v acc wr → Row wr w.heap.size 28 (tokCells ⟨0, j, [], 0⟩) → Below w.heap.size w wr → j ≤ k → k ≤ l.length → acc.length ≤ j → l.length < j + (f + 1) →
      (ScanF l = if k = j then .error (70, j) else if l.length ≤ k ∨ BlankN (l.getD k 0).toNat then scanGo l f k (acc ++ [wordTok l j k]) else .error (70, k)) → j < l.length → 4 * (l.length + 1 - j) ≤ M →
      (sndC (sndC (sndC (sndC (sndC X))))).wp Tryz.prog (jumps (fun l' a' w' => SJ l w.heap.size w l' a' w' ∧ SM l l' a' w' < M)
      (bodyPost Tryz.prog Tryz.f12 (ScanQ w.heap.size w (ScanF l)))) a wr := by
  refine ⟨_, rfl, ?_⟩
  intro j k f acc v a wr M ha hO hR hb hjk hkn hac hif hspec hjl hM
  generalize (fun k => a.tmps.getD k undef) = u at ha
  subst ha
  dsimp only [sndC]
  obtain ⟨n, hn⟩ : ∃ n, n = l.length := ⟨_, rfl⟩
  have hsz : (bstr l).size = n := by rw [bstr_size, hn]
  have hBr := hb.size
  have hRl : w.heap.size + 1 ≤ wr.heap.size := hR.lt
  have HN := Lib.hid hn
  have HM := Lib.hid hM
  rw [← hn] at hm hkn hif hjl
  unfold SF7 SFR
  simp only [if_true, Nat.reduceEqDiff, if_false]
  by_cases hkj : k = j
  · subst hkj
    rw [if_pos rfl] at hspec
    have HS := Lib.hid hspec
    clear hspec hn hM
    go_wp2
    go_step3
    refine ⟨⟨k, f + 1, acc, _, v, rfl, hO, hR, hb, by rw [← HN.out]; omega, by omega, by rw [← HN.out]; omega, .inr (.inr (.inl ⟨rfl, HS.out⟩))⟩, ?_⟩
    show 0 < M
    have := HM.out
    rw [← HN.out] at this
    omega
  rw [if_neg hkj] at hspec
  obtain ⟨S, hS⟩ : ∃ S, (l.drop j).take (k - j) = S := ⟨_, rfl⟩
  have hSl : S.length ≤ 16384 := by rw [← hS, List.length_take, List.length_drop, ← hn]; omega
  have hkjb : ((k : Int) == (j : Int)) = false := nat_ne hkj
  have hjk2 : j < k := by omega
  have hwt : wordTok l j k = match numOf S with | some m => ⟨2, j, [], m⟩ | none => ⟨1, j, S, 0⟩ := by unfold wordTok; rw [hS]; cases numOf S <;> rfl
  rw [hwt] at hspec
  have c0 := Row.cell hR 0
  have c2 := Row.cell hR 2
  have f0 := Row.frozen hR 0
  have f2 := Row.frozen hR 2
  simp only [tokCells, List.getElem?_cons_zero, List.getElem?_cons_succ] at c0 c2
  have HCL := Lib.hid (cloneC wr S (by omega))
  have HNU := Lib.hid (fun w1 => numberC w1 S (by omega))
  have HMM := HM.out
  cases hnum : numOf S with
  | none =>
    rw [hnum] at hspec HNU
    have HS := Lib.hid hspec
    clear hspec hwt hkj hnum hn hM HMM
    go_wp2_with (first | (go_at_call 28; refine (HCL.out).mono ?_; rintro e w5 ⟨rfl, hb5⟩; have hR5 := hR.keep hb5 hR.lt; have d0 := Row.cell hR5 0; have d2 := Row.cell hR5 2; have g0 := Row.frozen hR5 0; have g2 := Row.frozen hR5 2; simp only [tokCells, List.getElem?_cons_zero, List.getElem?_cons_succ] at d0 d2) | (go_at_call 29; refine (HNU.out _).mono ?_; rintro e wq ⟨rfl, hwq⟩; obtain rfl := hwq.symm))
    go_step3
    show SJ l w.heap.size w 3 _ _ ∧ SM l 3 _ _ < M
    have hR6 := ((hR5.set 0 (.int .i64 1)).set 2 (.string (bstr S)))
    refine ⟨⟨k, f, acc, ⟨1, j, S, 0⟩, v, rfl, (((hO.below hb5).other (Nat.lt_succ_self _) _).other (Nat.lt_succ_self _) _), hR6, (((hb.trans (hb5.mono hBr)).setCell (p := ⟨w.heap.size, 0, none⟩) (Nat.le_refl _) _).setCell (p := ⟨w.heap.size, 2, none⟩) (Nat.le_refl _) _), by rw [← HN.out]; omega, by omega, by rw [← HN.out]; omega, .inr (.inr (.inr ⟨rfl, by omega, by omega, HS.out.symm⟩))⟩, ?_⟩
    show 4 * (l.length + 1 - ((k : Nat) : Int).toNat) + 3 < M
    have := HM.out
    rw [← HN.out] at this ⊢
    omega
  | some m =>
    rw [hnum] at hspec HNU
    simp only [Option.getD_some, Option.isSome_some] at HNU
    have HS := Lib.hid hspec
    clear hspec hwt hkj hnum hn hM HMM
    go_wp2_with (first | (go_at_call 28; refine (HCL.out).mono ?_; rintro e w5 ⟨rfl, hb5⟩; have hR5 := hR.keep hb5 hR.lt; have d0 := Row.cell hR5 0; have d2 := Row.cell hR5 2; have d3 := Row.cell hR5 3; have g3 := Row.frozen hR5 3; have g0 := Row.frozen hR5 0; have g2 := Row.frozen hR5 2; simp only [tokCells, List.getElem?_cons_zero, List.getElem?_cons_succ] at d0 d2 d3) | (go_at_call 29; refine (HNU.out _).mono ?_; rintro e wq ⟨rfl, hwq⟩; obtain rfl := hwq.symm))
    go_step3
    show SJ l w.heap.size w 3 _ _ ∧ SM l 3 _ _ < M
    have hR6 := (((((hR5.set 0 (.int .i64 1)).set 2 (.string (bstr S))).set 0 (.int .i64 2)).set 2 (.string (bstr []))).set 3 (.int .i64 ((m : Nat) : Int)))
    refine ⟨⟨k, f, acc, ⟨2, j, [], m⟩, v, rfl, ((((((hO.below hb5).other (Nat.lt_succ_self _) _).other (Nat.lt_succ_self _) _).other (Nat.lt_succ_self _) _).other (Nat.lt_succ_self _) _).other (Nat.lt_succ_self _) _), hR6, ((((((hb.trans (hb5.mono hBr)).setCell (p := ⟨w.heap.size, 0, none⟩) (Nat.le_refl _) _).setCell (p := ⟨w.heap.size, 2, none⟩) (Nat.le_refl _) _).setCell (p := ⟨w.heap.size, 0, none⟩) (Nat.le_refl _) _).setCell (p := ⟨w.heap.size, 2, none⟩) (Nat.le_refl _) _).setCell (p := ⟨w.heap.size, 3, none⟩) (Nat.le_refl _) _), by rw [← HN.out]; omega, by omega, by rw [← HN.out]; omega, .inr (.inr (.inr ⟨rfl, by omega, by omega, HS.out.symm⟩))⟩, ?_⟩
    show 4 * (l.length + 1 - ((k : Nat) : Int).toNat) + 3 < M
    have := HM.out
    rw [← HN.out] at this ⊢
    omega
end Go.Proofs.YtmhemahkcbgaoaaGreatDoor
