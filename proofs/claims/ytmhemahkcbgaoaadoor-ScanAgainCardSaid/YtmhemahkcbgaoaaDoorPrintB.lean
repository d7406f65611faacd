/- Print, by the program: the line of tokens. -/
import Derived.Test.YtmhemahkcbgaoaaDoorPrintA
import Derived.Lib.ItoaLen
namespace Go.Proofs.YtmhemahkcbgaoaaDoor
set_option linter.unusedVariables false
set_option linter.unusedSimpArgs false
open Go.RowKit
open Go.Lib hiding intOf
theorem mapM_next {L : List Tok} {k : Nat} {x : Tok} {ps : List (List UInt8)} {p : List UInt8} (hx : L[k]? = some x) (h : (L.take k).mapM printed = some ps) (hp : printed x = some p) : (L.take (k + 1)).mapM printed = some (ps ++ [p]) := by
  rw [take_next hx, List.mapM_append, h]
  simp [hp]
theorem mapM_stop {L : List Tok} {k : Nat} {x : Tok} (hx : L[k]? = some x) (hp : printed x = none) : L.mapM printed = none := by
  have hk := lt_of_at hx
  have e : L = L.take k ++ (x :: L.drop (k + 1)) := by
    have : L[k] = x := by rw [List.getElem?_eq_getElem hk] at hx; exact Option.some.inj hx
    rw [← this, ← List.drop_eq_getElem_cons hk, List.take_append_drop]
  rw [e, List.mapM_append]
  cases (L.take k).mapM printed <;> simp [hp]
theorem mapM_mem : ∀ {L : List Tok} {ps : List (List UInt8)}, L.mapM printed = some ps → ∀ {p}, p ∈ ps → ∃ t ∈ L, printed t = some p
  | [], ps, h, p, hp => by simp at h; subst h; cases hp
  | t :: L, ps, h, p, hp => by
    rw [List.mapM_cons] at h
    cases h1 : printed t with
    | none => rw [h1] at h; cases h
    | some q =>
      cases h2 : L.mapM printed with
      | none => rw [h1, h2] at h; cases h
      | some qs =>
        rw [h1, h2] at h
        cases h
        rcases List.mem_cons.1 hp with rfl | hp
        · exact ⟨t, List.mem_cons_self .., h1⟩
        · obtain ⟨t', ht, h3⟩ := mapM_mem h2 hp
          exact ⟨t', List.mem_cons_of_mem _ ht, h3⟩
theorem joinB_eq : ∀ ps : List (List UInt8), Lib.join ps [32] = joinB ps
  | [] => rfl
  | [a] => Lib.join_one a _
  | a :: b :: r => by
    have := joinB_eq (b :: r)
    rw [Lib.join_cons] at this ⊢
    rw [joinB, ← this]
    simp [Lib.joinTail]
theorem quo_len (l : List UInt8) : ∀ (f i : Nat), (quo l f i).length ≤ 8 * f
  | 0, i => Nat.le_refl _
  | f + 1, i => by
    rw [quo]
    split
    · exact Nat.zero_le _
    · have h1 := piece_len (l.drop i)
      have h2 := quo_len l f (i + (decodeL (l.drop i)).2)
      rw [List.length_append]
      omega
theorem printed_len {t : Tok} {p : List UInt8} (ht : TokOk t) (h : printed t = some p) : p.length ≤ 8388618 := by
  obtain ⟨h0, h1, h2⟩ := ht
  unfold printed at h
  split at h
  · split at h
    · cases h
    · cases h; omega
  split at h
  · split at h
    · cases h
    · cases h
      have := itoa_length_le t.num h1 h2
      omega
  split at h
  · split at h
    · cases h
    · cases h
      have := quo_len t.text (t.text.length + 1) 0
      unfold quoteOf
      simp only [List.length_cons, List.length_append, List.length_nil]
      omega
  · cases h
theorem joinB_len : ∀ {ps : List (List UInt8)} {m : Nat}, (∀ p ∈ ps, p.length ≤ m) → (joinB ps).length ≤ ps.length * (m + 1)
  | [], _, _ => Nat.zero_le _
  | [a], m, h => by have := h a (List.mem_cons_self ..); simp [joinB]; omega
  | a :: b :: r, m, h => by
    have h1 := h a (List.mem_cons_self ..)
    have h2 := joinB_len (ps := b :: r) (m := m) fun p hp => h p (List.mem_cons_of_mem _ hp)
    simp only [joinB, List.length_append, List.length_cons] at h2 ⊢
    rw [Nat.add_mul, Nat.add_mul] at *
    omega
def PrintQ (w : World) (r : Except Nat (List UInt8)) (e : Ending) (w' : World) : Prop :=
  ∃ (s : List UInt8) (c : Int), e = .returned (.tuple #[.string (bstr s), .int .i64 c]) ∧ Below w.heap.size w w' ∧ match r with
    | .ok l => s = l ∧ c = 0
    | .error n => s = [] ∧ c = (n : Int)
set_option maxHeartbeats 4000000 in
set_option maxRecDepth 100000 in
theorem printC (w : World) (a : Option Addr) (n c : Nat) (L : List Tok) (hL : ReadsT w a n L) (hok : ∀ t ∈ L, TokOk t) (hn : n ≤ 1048576) (hT : Tabs w) :
    Calls Tryd.prog 15 #[.slice a n c] w (PrintQ w (printOf L)) := by
  have hln := hL.1
  have HOK := Lib.hid hok
  have HL := Lib.hid hL
  have HT := Lib.hid hT
  have HLN := Lib.hid hln
  clear hok hL hT hln
  go_enter Tryd.func15, Tryd.ntmps15
  go_wp2
  go_loopw [4, 12] (fun pv kv wr => ∃ (k : Nat) (ps : List (List UInt8)), k ≤ n ∧ kv = .int .i64 (k : Int) ∧ Hid ((L.take k).mapM printed = some ps ∧ ps.length = k ∧ OwnS w.heap.size pv ps wr ∧ Below w.heap.size w wr)) (fun _ kv _ => n - (RowKit.intOf kv).toNat)
  case atStart => exact ⟨0, [], Nat.zero_le _, rfl, Lib.hid ⟨rfl, rfl, ⟨rfl, .inl ⟨rfl, rfl⟩⟩, Below.refl _ _⟩⟩
  case round =>
    obtain ⟨k, ps, hkn, rfl, HH⟩ := hrel
    obtain ⟨pv, rfl⟩ : ∃ v : Value, v = u4 := ⟨_, rfl⟩
    by_cases hlt : k < n
    · have hRT := HL.out.keep HH.out.2.2.2 (Nat.le_refl _)
      obtain ⟨b, off, tk, rfl, hbl, hx, e0, e1, e2, e3⟩ := hRT.at hlt
      have HX := Lib.hid hx
      have HTK := Lib.hid (HOK.out tk (List.mem_of_getElem? hx))
      have hsz := HH.out.2.2.2.size
      clear hRT hx
      go_upto_region 5 with fail
      obtain ⟨w1, hw1⟩ : ∃ w1, w1 = wr.alloc (.cells #[.int .i64 tk.kind, .int .i64 tk.at', .string (bstr tk.text), .int .i64 tk.num] 38) := ⟨_, rfl⟩
      have hR : Row w1 wr.heap.size 38 [.int .i64 tk.kind, .int .i64 tk.at', .string (bstr tk.text), .int .i64 tk.num] := by rw [hw1]; exact alloc_last _ _
      have hbw : Below wr.heap.size wr w1 := by rw [hw1]; exact (Below.refl _ _).alloc (Nat.le_refl _) _
      have hb1 : Below w.heap.size w w1 := HH.out.2.2.2.trans (hbw.mono hsz)
      rw [← hw1]
      clear hw1 e0 e1 e2 e3
      have HPC := Lib.hid (printedC w1 tk HTK.out (HT.out.next hb1))
      have c0 := Row.cell hR 0
      have c1 := Row.cell hR 1
      have c2 := Row.cell hR 2
      have c3 := Row.cell hR 3
      simp only [List.getElem?_cons_zero, List.getElem?_cons_succ] at c0 c1 c2 c3
      go_upto_region 6 with (go_at_call 35; refine (HPC.out).mono ?_; rintro e w5 ⟨s5, b5, rfl, hp5, hb5⟩)
      have HP5 := Lib.hid hp5
      have HB5 := Lib.hid (hb1.trans (hb5.mono hb1.size))
      have HO5 : Hid (OwnS w.heap.size pv ps w5) := Lib.hid ((HH.out.2.2.1.below hbw).below hb5)
      have hpl : ps.length ≤ 1048576 := by have := HH.out.2.1; omega
      have hs5 : w.heap.size ≤ w5.heap.size := HB5.out.size
      clear hp5 hb5 c0 c1 c2 c3 hR hbw hb1 hsz
      cases b5
      all_goals simp only [if_true, if_false, Bool.false_eq_true] at HP5
      · have hq : printOf L = .error 70 := by
          unfold printOf
          rw [mapM_stop HX.out HP5.out]
        have HQ := Lib.hid hq
        clear hq
        go_wp2
        go_ret2
        unfold PrintQ
        rw [HQ.out]
        exact ⟨[], 70, rfl, HB5.out, rfl, rfl⟩
      · go_wp2_with (at_builtin; refine appElem rfl _ _ rfl Tryd.underlying67 (.string ByteArray.empty) 1 16 infoStr rfl (by decide) (by decide) w.heap.size w.heap.size w w5 pv ps.length (ps.map fun s => .string (bstr s)) [.string (bstr s5)] rfl HO5.out rfl rfl rfl (by simp [Value.oneCell']) (by omega) HB5.out (Nat.le_refl _) hs5 ?_; intro v' w' h1 h2 h3 h4 _)
        have HNX : Hid ((L.take (k + 1)).mapM printed = some (ps ++ [s5]) ∧ (ps ++ [s5]).length = k + 1 ∧ OwnS w.heap.size v' (ps ++ [s5]) w' ∧ Below w.heap.size w w') := Lib.hid ⟨mapM_next HX.out HH.out.1 HP5.out, by rw [List.length_append, HH.out.2.1]; rfl, by unfold OwnS; rw [List.length_append, List.map_append]; exact h1, h2⟩
        clear h1 h2 h3 h4
        go_wp2
        go_roundw
        case rel => exact ⟨k + 1, ps ++ [s5], by omega, by go_num, HNX⟩
        case measure => simp [RowKit.intOf]; omega
    · obtain rfl : k = n := by omega
      have hall : L.take k = L := List.take_of_length_le (by rw [HLN.out]; exact Nat.le_refl _)
      have hmm := HH.out.1
      rw [hall] at hmm
      obtain ⟨J, hJ⟩ : ∃ J, Lib.join ps [32] = J := ⟨_, rfl⟩
      have hJb : joinB ps = J := (joinB_eq ps).symm.trans hJ
      have hJl : J.length ≤ 140737488355328 := by
        rw [← hJb]
        refine Nat.le_trans (joinB_len (m := 8388618) ?_) ?_
        · intro p hp
          obtain ⟨t, ht, hpt⟩ := mapM_mem hmm hp
          exact printed_len (HOK.out t ht) hpt
        · rw [HH.out.2.1]
          calc k * (8388618 + 1) ≤ 1048576 * (8388618 + 1) := Nat.mul_le_mul hn (Nat.le_refl _)
            _ ≤ _ := by decide
      have HJC : Hid (Calls Tryd.prog 36 #[pv, .string (bstr [32])] wr fun e w' => e = .returned (.string (bstr J)) ∧ Below wr.heap.size wr w') := Lib.hid (by
        have := joinC wr w.heap.size pv ps [32] HH.out.2.2.1 (by rw [HH.out.2.1]; omega) (by rw [hJ]; exact hJl)
        rwa [hJ] at this)
      have hP : printOf L = if 16384 < J.length then .error 4 else .ok J := by
        unfold printOf
        rw [hmm, ← hJb]
      have HP := Lib.hid hP
      have hbr := HH.out.2.2.2
      clear hall hmm hJ hJb hP
      by_cases hl : 16384 < J.length
      · have hq := HP.out.trans (if_pos hl)
        have HQ := Lib.hid hq
        clear hq
        go_wp2_with (go_at_call 36; refine (HJC.out).mono ?_; rintro e w5 ⟨rfl, hb5⟩)
        go_ret2
        unfold PrintQ
        rw [HQ.out]
        exact ⟨[], 4, rfl, hbr.trans (hb5.mono hbr.size), rfl, rfl⟩
      · have hq := HP.out.trans (if_neg hl)
        have HQ := Lib.hid hq
        clear hq
        go_wp2_with (go_at_call 36; refine (HJC.out).mono ?_; rintro e w5 ⟨rfl, hb5⟩)
        go_ret2
        unfold PrintQ
        rw [HQ.out]
        exact ⟨J, 0, rfl, hbr.trans (hb5.mono hbr.size), rfl, rfl⟩
end Go.Proofs.YtmhemahkcbgaoaaDoor
