/- The reference's Print: the line of tokens. -/
import Derived.Test.YtmhemahkcbgaoaaDoorMayR
namespace Go.Proofs.YtmhemahkcbgaoaaDoor
set_option linter.unusedVariables false
set_option linter.unusedSimpArgs false
open Go.RowKit
open Go.Lib hiding intOf
def tokSum (L : List Tok) : Nat := (L.map fun t => t.text.length + 1).sum
theorem tokSum_len (L : List Tok) : L.length ≤ tokSum L := by
  unfold tokSum
  induction L with
  | nil => simp
  | cons t L ih => simp only [List.map_cons, List.sum_cons, List.length_cons]; omega
theorem tokSum_take (L : List Tok) (k : Nat) : tokSum (L.take k) ≤ tokSum L := by
  unfold tokSum
  induction L generalizing k with
  | nil => simp
  | cons t L ih =>
    cases k with
    | zero => simp
    | succ k => have := ih k; simp only [List.take_succ_cons, List.map_cons, List.sum_cons]; omega
theorem tokSum_mem {L : List Tok} {t : Tok} (h : t ∈ L) : t.text.length + 1 ≤ tokSum L := by
  unfold tokSum
  induction L with
  | nil => cases h
  | cons x L ih =>
    simp only [List.map_cons, List.sum_cons]
    rcases List.mem_cons.1 h with rfl | h
    · omega
    · have := ih h; omega
theorem printed_len2 {t : Tok} {p : List UInt8} (ht : TokOk t) (h : printed t = some p) : p.length + 1 ≤ 32 * (t.text.length + 1) := by
  obtain ⟨h0, h1, h2⟩ := ht
  unfold printed at h
  split at h
  · split at h
    · cases h
    · cases h; omega
  split at h
  · split at h
    · cases h
    · cases h
      have := itoa_length_le t.num h1 h2
      omega
  split at h
  · split at h
    · cases h
    · cases h
      have := quo_len t.text (t.text.length + 1) 0
      unfold quoteOf
      simp only [List.length_cons, List.length_append, List.length_nil]
      omega
  · cases h
theorem joinB_snoc : ∀ (ps : List (List UInt8)) (p : List UInt8), joinB (ps ++ [p]) = if ps = [] then p else joinB ps ++ 32 :: p
  | [], p => rfl
  | [a], p => rfl
  | a :: b :: r, p => by
    have := joinB_snoc (b :: r) p
    simp only [List.cons_append, joinB, reduceCtorEq, if_false] at this ⊢
    rw [this]
    simp
theorem joinB_sum : ∀ {L : List Tok} {ps : List (List UInt8)}, (∀ t ∈ L, TokOk t) → L.mapM printed = some ps → (joinB ps).length + 1 ≤ 32 * tokSum L + 1
  | [], ps, _, h => by simp at h; subst h; simp [joinB]
  | [t], ps, hok, h => by
    cases h1 : printed t with
    | none => simp [h1] at h
    | some p =>
      simp [h1] at h; subst h
      have := printed_len2 (hok t (List.mem_cons_self ..)) h1
      simp only [joinB, tokSum, List.map_cons, List.map_nil, List.sum_cons, List.sum_nil]
      omega
  | t :: t2 :: L, ps, hok, h => by
    rw [List.mapM_cons] at h
    cases h1 : printed t with
    | none => rw [h1] at h; cases h
    | some p =>
      cases h2 : (t2 :: L).mapM printed with
      | none => rw [h1, h2] at h; cases h
      | some qs =>
        rw [h1, h2] at h
        cases h
        have ih := joinB_sum (fun t ht => hok t (List.mem_cons_of_mem _ ht)) h2
        have hp := printed_len2 (hok t (List.mem_cons_self ..)) h1
        cases qs with
        | nil => rw [List.mapM_cons] at h2; cases h3 : printed t2 <;> rw [h3] at h2 <;> first | cases h2 | (cases h4 : L.mapM printed <;> rw [h4] at h2 <;> cases h2)
        | cons q qs =>
          simp only [joinB, List.length_append, List.length_cons, tokSum, List.map_cons, List.sum_cons] at ih ⊢
          omega
theorem printed_kinds {t : Tok} {p : List UInt8} (h : printed t = some p) : (t.kind = 1 ∧ p = t.text) ∨ (t.kind = 2 ∧ p = itoa t.num) ∨ (t.kind = 3 ∧ p = quoteOf t.text) := by
  unfold printed at h
  split at h
  · split at h
    · cases h
    · cases h; exact .inl ⟨by assumption, rfl⟩
  split at h
  · split at h
    · cases h
    · cases h; exact .inr (.inl ⟨by assumption, rfl⟩)
  split at h
  · split at h
    · cases h
    · cases h; exact .inr (.inr ⟨by assumption, rfl⟩)
  · cases h
set_option maxHeartbeats 8000000 in
set_option maxRecDepth 100000 in
theorem printR (w : World) (a : Option Addr) (n c : Nat) (L : List Tok) (hL : ReadsT w a n L) (hok : ∀ t ∈ L, TokOk t) (hsum : tokSum L ≤ 1048576) (hT : Tabs w) :
    Calls Tryd.prog 16 #[.slice a n c] w (PrintQ w (printOf L)) := by
  have hln := hL.1
  have hn : n ≤ 1048576 := by rw [← hln]; exact Nat.le_trans (tokSum_len L) hsum
  have HOK := Lib.hid hok
  have HL := Lib.hid hL
  have HT := Lib.hid hT
  have HLN := Lib.hid hln
  have HSUM := Lib.hid hsum
  clear hok hL hT hln hsum
  go_enter Tryd.func16, Tryd.ntmps16
  go_wp2
  go_loopw [4, 5] (fun pv kv wr => ∃ (k : Nat) (ps : List (List UInt8)), k ≤ n ∧ kv = .int .i64 (k : Int) ∧ Hid ((L.take k).mapM printed = some ps ∧ ps.length = k ∧ OwnB w.heap.size pv (joinB ps) wr ∧ Below w.heap.size w wr)) (fun _ kv _ => n - (RowKit.intOf kv).toNat)
  case atStart => exact ⟨0, [], Nat.zero_le _, rfl, Lib.hid ⟨rfl, rfl, ⟨rfl, .inl ⟨rfl, rfl⟩⟩, Below.refl _ _⟩⟩
  case round =>
    obtain ⟨k, ps, hkn, rfl, HH⟩ := hrel
    obtain ⟨pv, rfl⟩ : ∃ v : Value, v = u4 := ⟨_, rfl⟩
    have HJL : Hid ((joinB ps).length ≤ 33554432) := Lib.hid (by
      have h1 := joinB_sum (fun t ht => HOK.out t (List.mem_of_mem_take ht)) HH.out.1
      have h2 := tokSum_take L k
      have h3 := HSUM.out
      omega)
    by_cases hlt : k < n
    · obtain ⟨b, off, tk, rfl, hbl, hx, f0, f1, f2, f3⟩ := HL.out.at hlt
      have HX := Lib.hid hx
      have HTK := Lib.hid (HOK.out tk (List.mem_of_getElem? hx))
      obtain ⟨tkd, ta, tx, tn⟩ := tk
      simp only at f0 f1 f2 f3
      have HC := Lib.hid (fun (W : World) (hW : Below w.heap.size w W) => (⟨(hW.cell (p := ⟨b, off + k * 4, none⟩) hbl).trans f0, (hW.cell (p := ⟨b, off + k * 4 + 1, none⟩) hbl).trans f1, (hW.cell (p := ⟨b, off + k * 4 + 2, none⟩) hbl).trans f2, (hW.cell (p := ⟨b, off + k * 4 + 3, none⟩) hbl).trans f3⟩ : W.cell? ⟨b, off + k * 4, none⟩ = some (.int .i64 tkd) ∧ W.cell? ⟨b, off + k * 4 + 1, none⟩ = some (.int .i64 ta) ∧ W.cell? ⟨b, off + k * 4 + 2, none⟩ = some (.string (bstr tx)) ∧ W.cell? ⟨b, off + k * 4 + 3, none⟩ = some (.int .i64 tn)))
      have hbr := HH.out.2.2.2
      have hsr := hbr.size
      obtain ⟨e0, e1, e2, e3⟩ := HC.out _ hbr
      obtain ⟨b5, hb5e⟩ : ∃ b5, (printed ⟨tkd, ta, tx, tn⟩).isSome = b5 := ⟨_, rfl⟩
      have HMY : Hid (Calls Tryd.prog 37 #[tokV ⟨tkd, ta, tx, tn⟩] wr fun e w' => e = .returned (.bool b5) ∧ Below wr.heap.size wr w') := Lib.hid (by have := mayR wr ⟨tkd, ta, tx, tn⟩ HTK.out; unfold MayQ at this; rwa [hb5e] at this)
      have HB5E := Lib.hid hb5e
      clear hx hb5e f0 f1 f2 f3
      go_upto_if 17 with (go_at_call 37; refine (HMY.out).mono ?_; rintro e w5 ⟨rfl, hb5⟩)
      have HB5 : Hid (Below w.heap.size w w5) := Lib.hid (hbr.trans (hb5.mono hsr))
      have HO5 : Hid (OwnB w.heap.size pv (joinB ps) w5) := Lib.hid (HH.out.2.2.1.below hb5)
      have hs5 := HB5.out.size
      clear e0 e1 e2 e3 hb5 hbr hsr HMY
      obtain ⟨e0, e1, e2, e3⟩ := HC.out _ HB5.out
      cases b5
      · have hp : printed ⟨tkd, ta, tx, tn⟩ = none := by
          have := HB5E.out
          cases hq : printed ⟨tkd, ta, tx, tn⟩ with
          | none => rfl
          | some p => rw [hq] at this; cases this
        have hq : printOf L = .error 70 := by
          unfold printOf
          rw [mapM_stop HX.out hp]
        have HQ := Lib.hid hq
        clear hq hp
        go_wp2
        go_ret2
        unfold PrintQ
        rw [HQ.out]
        exact ⟨[], 70, rfl, HB5.out, rfl, rfl⟩
      · obtain ⟨p, hp⟩ := Option.isSome_iff_exists.1 HB5E.out
        have hk := printed_kinds hp
        have hjs := joinB_snoc ps p
        have HP5 := Lib.hid hp
        simp only at hk
        by_cases hk0 : 0 < k
        · rw [if_neg (fun h => by have := HH.out.2.1; rw [h] at this; simp at this; omega)] at hjs
          have HJS := Lib.hid hjs
          clear hjs hp
          rcases hk with ⟨hk1, hpe⟩ | ⟨hk1, hpe⟩ | ⟨hk1, hpe⟩
          · subst hk1
            have HPL : Hid (tx.length ≤ 1099511627776) := Lib.hid (Nat.le_trans (show tx.length ≤ 1048576 from HTK.out.1) (by decide))
            have HPE := Lib.hid hpe
            clear hpe
            go_wp2_with (first | (at_builtin; (with_reducible show wpList _ _ _ _ _ (World.alloc w5 _)); refine appOne rfl _ _ rfl w.heap.size w w5 _ (joinB ps) 32 rfl HO5.out rfl rfl (by have := HJL.out; omega) HB5.out hs5 ?_; intro v6 w6 hO6 hb6 hB6; obtain ⟨e0, e1, e2, e3⟩ := HC.out _ hb6) | (at_builtin; (with_reducible show wpList _ _ _ _ _ w6); refine appStr rfl _ _ rfl w.heap.size w _ (joinB ps ++ [32]) tx rfl hO6 rfl (by have := HJL.out; first | omega | (rw [List.length_append, List.length_singleton]; omega)) HPL.out hb6 hB6 ?_; intro v8 w8 hO8 hb8 hB8))
            rw [List.append_assoc] at hO8
            have HNX : Hid ((L.take (k + 1)).mapM printed = some (ps ++ [p]) ∧ (ps ++ [p]).length = k + 1 ∧ OwnB w.heap.size v8 (joinB (ps ++ [p])) w8 ∧ Below w.heap.size w w8) := Lib.hid ⟨mapM_next HX.out HH.out.1 HP5.out, by rw [List.length_append, HH.out.2.1]; rfl, by rw [HJS.out, HPE.out]; exact hO8, hb8⟩
            clear hO8 hb8 hB8
            try go_wp2
            go_roundw
            case rel => exact ⟨k + 1, ps ++ [p], by omega, by go_num, HNX⟩
            case measure => simp [RowKit.intOf]; omega
          · subst hk1
            have HPL : Hid ((itoa tn).length ≤ 1099511627776) := Lib.hid (by have := itoa_length_le tn HTK.out.2.1 HTK.out.2.2; omega)
            have HPE := Lib.hid hpe
            clear hpe
            go_wp2_with (first | (at_builtin; (with_reducible show wpList _ _ _ _ _ (World.alloc w5 _)); refine appOne rfl _ _ rfl w.heap.size w w5 _ (joinB ps) 32 rfl HO5.out rfl rfl (by have := HJL.out; omega) HB5.out hs5 ?_; intro v6 w6 hO6 hb6 hB6; obtain ⟨e0, e1, e2, e3⟩ := HC.out _ hb6) | (go_at_call 38; refine (itoaC w6 tn HTK.out.2.1 HTK.out.2.2 (HT.out.next hb6)).mono ?_; rintro e w7 ⟨rfl, hb7⟩; have hO7 := OwnB.below hO6 hb7; have hB7 := Nat.le_trans hB6 hb7.size; have hb7' := hb6.trans (hb7.mono hB6)) | (at_builtin; (with_reducible show wpList _ _ _ _ _ w7); refine appStr rfl _ _ rfl w.heap.size w _ (joinB ps ++ [32]) (itoa tn) rfl hO7 rfl (by have := HJL.out; first | omega | (rw [List.length_append, List.length_singleton]; omega)) HPL.out hb7' hB7 ?_; intro v8 w8 hO8 hb8 hB8))
            rw [List.append_assoc] at hO8
            have HNX : Hid ((L.take (k + 1)).mapM printed = some (ps ++ [p]) ∧ (ps ++ [p]).length = k + 1 ∧ OwnB w.heap.size v8 (joinB (ps ++ [p])) w8 ∧ Below w.heap.size w w8) := Lib.hid ⟨mapM_next HX.out HH.out.1 HP5.out, by rw [List.length_append, HH.out.2.1]; rfl, by rw [HJS.out, HPE.out]; exact hO8, hb8⟩
            clear hO8 hb8 hB8
            try go_wp2
            go_roundw
            case rel => exact ⟨k + 1, ps ++ [p], by omega, by go_num, HNX⟩
            case measure => simp [RowKit.intOf]; omega
          · subst hk1
            have HPL : Hid ((quoteOf tx).length ≤ 1099511627776) := Lib.hid (by have h1 := quo_len tx (tx.length + 1) 0; have h2 := HTK.out.1; unfold quoteOf; simp only [List.length_cons, List.length_append, List.length_nil]; simp only at h2; omega)
            have HPE := Lib.hid hpe
            clear hpe
            go_wp2_with (first | (at_builtin; (with_reducible show wpList _ _ _ _ _ (World.alloc w5 _)); refine appOne rfl _ _ rfl w.heap.size w w5 _ (joinB ps) 32 rfl HO5.out rfl rfl (by have := HJL.out; omega) HB5.out hs5 ?_; intro v6 w6 hO6 hb6 hB6; obtain ⟨e0, e1, e2, e3⟩ := HC.out _ hb6) | (go_at_call 12; refine (quoteR w6 tx HTK.out.1 (HT.out.next hb6)).mono ?_; rintro e w7 ⟨rfl, hb7⟩; have hO7 := OwnB.below hO6 hb7; have hB7 := Nat.le_trans hB6 hb7.size; have hb7' := hb6.trans (hb7.mono hB6)) | (at_builtin; (with_reducible show wpList _ _ _ _ _ w7); refine appStr rfl _ _ rfl w.heap.size w _ (joinB ps ++ [32]) (quoteOf tx) rfl hO7 rfl (by have := HJL.out; first | omega | (rw [List.length_append, List.length_singleton]; omega)) HPL.out hb7' hB7 ?_; intro v8 w8 hO8 hb8 hB8))
            rw [List.append_assoc] at hO8
            have HNX : Hid ((L.take (k + 1)).mapM printed = some (ps ++ [p]) ∧ (ps ++ [p]).length = k + 1 ∧ OwnB w.heap.size v8 (joinB (ps ++ [p])) w8 ∧ Below w.heap.size w w8) := Lib.hid ⟨mapM_next HX.out HH.out.1 HP5.out, by rw [List.length_append, HH.out.2.1]; rfl, by rw [HJS.out, HPE.out]; exact hO8, hb8⟩
            clear hO8 hb8 hB8
            try go_wp2
            go_roundw
            case rel => exact ⟨k + 1, ps ++ [p], by omega, by go_num, HNX⟩
            case measure => simp [RowKit.intOf]; omega
        · rw [if_pos (List.eq_nil_of_length_eq_zero (by rw [HH.out.2.1]; omega))] at hjs
          have hps : joinB ps = [] := by rw [List.eq_nil_of_length_eq_zero (show ps.length = 0 by rw [HH.out.2.1]; omega)]; rfl
          have HJS := Lib.hid hjs
          have HPS := Lib.hid hps
          clear hjs hp hps
          rcases hk with ⟨hk1, hpe⟩ | ⟨hk1, hpe⟩ | ⟨hk1, hpe⟩
          · subst hk1
            have HPL : Hid (tx.length ≤ 1099511627776) := Lib.hid (Nat.le_trans (show tx.length ≤ 1048576 from HTK.out.1) (by decide))
            have HPE := Lib.hid hpe
            clear hpe
            go_wp2_with (first | (at_builtin; (with_reducible show wpList _ _ _ _ _ w5); refine appStr rfl _ _ rfl w.heap.size w _ (joinB ps) tx rfl HO5.out rfl (by have := HJL.out; first | omega | (rw [List.length_append, List.length_singleton]; omega)) HPL.out HB5.out hs5 ?_; intro v8 w8 hO8 hb8 hB8))
            rw [HPS.out, List.nil_append] at hO8
            have HNX : Hid ((L.take (k + 1)).mapM printed = some (ps ++ [p]) ∧ (ps ++ [p]).length = k + 1 ∧ OwnB w.heap.size v8 (joinB (ps ++ [p])) w8 ∧ Below w.heap.size w w8) := Lib.hid ⟨mapM_next HX.out HH.out.1 HP5.out, by rw [List.length_append, HH.out.2.1]; rfl, by rw [HJS.out, HPE.out]; exact hO8, hb8⟩
            clear hO8 hb8 hB8
            try go_wp2
            go_roundw
            case rel => exact ⟨k + 1, ps ++ [p], by omega, by go_num, HNX⟩
            case measure => simp [RowKit.intOf]; omega
          · subst hk1
            have HPL : Hid ((itoa tn).length ≤ 1099511627776) := Lib.hid (by have := itoa_length_le tn HTK.out.2.1 HTK.out.2.2; omega)
            have HPE := Lib.hid hpe
            clear hpe
            go_wp2_with (first | (go_at_call 38; refine (itoaC w5 tn HTK.out.2.1 HTK.out.2.2 (HT.out.next HB5.out)).mono ?_; rintro e w7 ⟨rfl, hb7⟩; have hO7 := OwnB.below HO5.out hb7; have hB7 := Nat.le_trans hs5 hb7.size; have hb7' := HB5.out.trans (hb7.mono hs5)) | (at_builtin; (with_reducible show wpList _ _ _ _ _ w7); refine appStr rfl _ _ rfl w.heap.size w _ (joinB ps) (itoa tn) rfl hO7 rfl (by have := HJL.out; first | omega | (rw [List.length_append, List.length_singleton]; omega)) HPL.out hb7' hB7 ?_; intro v8 w8 hO8 hb8 hB8))
            rw [HPS.out, List.nil_append] at hO8
            have HNX : Hid ((L.take (k + 1)).mapM printed = some (ps ++ [p]) ∧ (ps ++ [p]).length = k + 1 ∧ OwnB w.heap.size v8 (joinB (ps ++ [p])) w8 ∧ Below w.heap.size w w8) := Lib.hid ⟨mapM_next HX.out HH.out.1 HP5.out, by rw [List.length_append, HH.out.2.1]; rfl, by rw [HJS.out, HPE.out]; exact hO8, hb8⟩
            clear hO8 hb8 hB8
            try go_wp2
            go_roundw
            case rel => exact ⟨k + 1, ps ++ [p], by omega, by go_num, HNX⟩
            case measure => simp [RowKit.intOf]; omega
          · subst hk1
            have HPL : Hid ((quoteOf tx).length ≤ 1099511627776) := Lib.hid (by have h1 := quo_len tx (tx.length + 1) 0; have h2 := HTK.out.1; unfold quoteOf; simp only [List.length_cons, List.length_append, List.length_nil]; simp only at h2; omega)
            have HPE := Lib.hid hpe
            clear hpe
            go_wp2_with (first | (go_at_call 12; refine (quoteR w5 tx HTK.out.1 (HT.out.next HB5.out)).mono ?_; rintro e w7 ⟨rfl, hb7⟩; have hO7 := OwnB.below HO5.out hb7; have hB7 := Nat.le_trans hs5 hb7.size; have hb7' := HB5.out.trans (hb7.mono hs5)) | (at_builtin; (with_reducible show wpList _ _ _ _ _ w7); refine appStr rfl _ _ rfl w.heap.size w _ (joinB ps) (quoteOf tx) rfl hO7 rfl (by have := HJL.out; first | omega | (rw [List.length_append, List.length_singleton]; omega)) HPL.out hb7' hB7 ?_; intro v8 w8 hO8 hb8 hB8))
            rw [HPS.out, List.nil_append] at hO8
            have HNX : Hid ((L.take (k + 1)).mapM printed = some (ps ++ [p]) ∧ (ps ++ [p]).length = k + 1 ∧ OwnB w.heap.size v8 (joinB (ps ++ [p])) w8 ∧ Below w.heap.size w w8) := Lib.hid ⟨mapM_next HX.out HH.out.1 HP5.out, by rw [List.length_append, HH.out.2.1]; rfl, by rw [HJS.out, HPE.out]; exact hO8, hb8⟩
            clear hO8 hb8 hB8
            try go_wp2
            go_roundw
            case rel => exact ⟨k + 1, ps ++ [p], by omega, by go_num, HNX⟩
            case measure => simp [RowKit.intOf]; omega
    · obtain rfl : k = n := by omega
      have hall : L.take k = L := List.take_of_length_le (by rw [HLN.out]; exact Nat.le_refl _)
      have hmm := HH.out.1
      rw [hall] at hmm
      have hO := HH.out.2.2.1
      have hb := HH.out.2.2.2
      obtain ⟨J, hJ⟩ : ∃ J, joinB ps = J := ⟨_, rfl⟩
      rw [hJ] at hO
      have hP : printOf L = if 16384 < J.length then .error 4 else .ok J := by
        unfold printOf
        rw [hmm, ← hJ]
      have hcv := conv_own hO
      obtain ⟨aa, cc, hpv, hr, _, _⟩ := reads_of_own hO
      have HP := Lib.hid hP
      rw [hpv] at hcv
      have hpv' := hpv.symm
      clear hall hmm hJ hP hr hO
      subst hpv
      by_cases hl : 16384 < J.length
      · have hq := HP.out.trans (if_pos hl)
        have HQ := Lib.hid hq
        clear hq hpv' hcv
        go_wp2
        go_ret2
        unfold PrintQ
        rw [HQ.out]
        exact ⟨[], 4, rfl, hb, rfl, rfl⟩
      · have hq := HP.out.trans (if_neg hl)
        have HQ := Lib.hid hq
        clear hq hpv'
        go_wp2
        go_ret2
        unfold PrintQ
        rw [HQ.out]
        exact ⟨J, 0, rfl, hb, rfl, rfl⟩
end Go.Proofs.YtmhemahkcbgaoaaDoor
