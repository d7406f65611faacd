/- Texts joined, one behind the other (PrintR, Kept, LScanPrints). -/
import Derived.Test.YtmhemahkcbgaoaaGreatDoorKn22
/- The reference's Print: the line of tokens. -/
namespace Go.Proofs.YtmhemahkcbgaoaaGreatDoor
set_option linter.unusedVariables false
set_option linter.unusedSimpArgs false
open Go.RowKit
open Go.Lib hiding intOf
def tokSum (L : List Tok) : Nat := (L.map fun t => t.text.length + 1).sum
theorem tokSum_len (L : List Tok) : L.length ≤ tokSum L := by
  unfold tokSum
  induction L with
  | nil => simp
  | cons t L ih => simp only [List.map_cons, List.sum_cons, List.length_cons]; omega
theorem tokSum_take (L : List Tok) (k : Nat) : tokSum (L.take k) ≤ tokSum L := by
  unfold tokSum
  induction L generalizing k with
  | nil => simp
  | cons t L ih =>
    cases k with
    | zero => simp
    | succ k => have := ih k; simp only [List.take_succ_cons, List.map_cons, List.sum_cons]; omega
theorem tokSum_mem {L : List Tok} {t : Tok} (h : t ∈ L) : t.text.length + 1 ≤ tokSum L := by
  unfold tokSum
  induction L with
  | nil => cases h
  | cons x L ih =>
    simp only [List.map_cons, List.sum_cons]
    rcases List.mem_cons.1 h with rfl | h
    · omega
    · have := ih h; omega
theorem printed_len2 {t : Tok} {p : List UInt8} (ht : TokOk t) (h : printed t = some p) : p.length + 1 ≤ 32 * (t.text.length + 1) := by
  obtain ⟨h0, h1, h2⟩ := ht
  unfold printed at h
  split at h
  · split at h
    · cases h
    · cases h; omega
  split at h
  · split at h
    · cases h
    · cases h
      have := itoa_length_le t.num h1 h2
      omega
  split at h
  · split at h
    · cases h
    · cases h
      have := quo_len t.text (t.text.length + 1) 0
      unfold quoteOf
      simp only [List.length_cons, List.length_append, List.length_nil]
      omega
  · cases h
theorem joinB_snoc : ∀ (ps : List (List UInt8)) (p : List UInt8), joinB (ps ++ [p]) = if ps = [] then p else joinB ps ++ 32 :: p
  | [], p => rfl
  | [a], p => rfl
  | a :: b :: r, p => by
    have := joinB_snoc (b :: r) p
    simp only [List.cons_append, joinB, reduceCtorEq, if_false] at this ⊢
    rw [this]
    simp
theorem joinB_sum : ∀ {L : List Tok} {ps : List (List UInt8)}, (∀ t ∈ L, TokOk t) → L.mapM printed = some ps → (joinB ps).length + 1 ≤ 32 * tokSum L + 1
  | [], ps, _, h => by simp at h; subst h; simp [joinB]
  | [t], ps, hok, h => by
    cases h1 : printed t with
    | none => simp [h1] at h
    | some p =>
      simp [h1] at h; subst h
      have := printed_len2 (hok t (List.mem_cons_self ..)) h1
      simp only [joinB, tokSum, List.map_cons, List.map_nil, List.sum_cons, List.sum_nil]
      omega
  | t :: t2 :: L, ps, hok, h => by
    rw [List.mapM_cons] at h
    cases h1 : printed t with
    | none => rw [h1] at h; cases h
    | some p =>
      cases h2 : (t2 :: L).mapM printed with
      | none => rw [h1, h2] at h; cases h
      | some qs =>
        rw [h1, h2] at h
        cases h
        have ih := joinB_sum (fun t ht => hok t (List.mem_cons_of_mem _ ht)) h2
        have hp := printed_len2 (hok t (List.mem_cons_self ..)) h1
        cases qs with
        | nil => rw [List.mapM_cons] at h2; cases h3 : printed t2 <;> rw [h3] at h2 <;> first | cases h2 | (cases h4 : L.mapM printed <;> rw [h4] at h2 <;> cases h2)
        | cons q qs =>
          simp only [joinB, List.length_append, List.length_cons, tokSum, List.map_cons, List.sum_cons] at ih ⊢
          omega
theorem printed_kinds {t : Tok} {p : List UInt8} (h : printed t = some p) : (t.kind = 1 ∧ p = t.text) ∨ (t.kind = 2 ∧ p = itoa t.num) ∨ (t.kind = 3 ∧ p = quoteOf t.text) := by
  unfold printed at h
  split at h
  · split at h
    · cases h
    · cases h; exact .inl ⟨by assumption, rfl⟩
  split at h
  · split at h
    · cases h
    · cases h; exact .inr (.inl ⟨by assumption, rfl⟩)
  split at h
  · split at h
    · cases h
    · cases h; exact .inr (.inr ⟨by assumption, rfl⟩)
  · cases h
set_option maxHeartbeats 8000000 in
set_option maxRecDepth 100000 in
theorem printR (w : World) (a : Option Addr) (n c : Nat) (L : List Tok) (hL : ReadsT w a n L) (hok : ∀ t ∈ L, TokOk t) (hsum : tokSum L ≤ 1048576) (hT : Tabs w) :
    Calls Tryz.prog 24 #[.slice a n c] w (PrintQ w (printOf L)) := by
  have hln := hL.1
  have hn : n ≤ 1048576 := by rw [← hln]; exact Nat.le_trans (tokSum_len L) hsum
  have HOK := Lib.hid hok
  have HL := Lib.hid hL
  have HT := Lib.hid hT
  have HLN := Lib.hid hln
  have HSUM := Lib.hid hsum
  clear hok hL hT hln hsum
  go_enter Tryz.func24, Tryz.ntmps24
  go_wp2
  go_loopw [4, 5] (fun pv kv wr => ∃ (k : Nat) (ps : List (List UInt8)), k ≤ n ∧ kv = .int .i64 (k : Int) ∧ Hid ((L.take k).mapM printed = some ps ∧ ps.length = k ∧ OwnB w.heap.size pv (joinB ps) wr ∧ Below w.heap.size w wr)) (fun _ kv _ => n - (RowKit.intOf kv).toNat)
  case atStart => exact ⟨0, [], Nat.zero_le _, rfl, Lib.hid ⟨rfl, rfl, ⟨rfl, .inl ⟨rfl, rfl⟩⟩, Below.refl _ _⟩⟩
  case round =>
    obtain ⟨k, ps, hkn, rfl, HH⟩ := hrel
    obtain ⟨pv, rfl⟩ : ∃ v : Value, v = u4 := ⟨_, rfl⟩
    have HJL : Hid ((joinB ps).length ≤ 33554432) := Lib.hid (by
      have h1 := joinB_sum (fun t ht => HOK.out t (List.mem_of_mem_take ht)) HH.out.1
      have h2 := tokSum_take L k
      have h3 := HSUM.out
      omega)
    by_cases hlt : k < n
    · obtain ⟨b, off, tk, rfl, hbl, hx, f0, f1, f2, f3⟩ := HL.out.at hlt
      have HX := Lib.hid hx
      have HTK := Lib.hid (HOK.out tk (List.mem_of_getElem? hx))
      obtain ⟨tkd, ta, tx, tn⟩ := tk
      simp only at f0 f1 f2 f3
      have HC := Lib.hid (fun (W : World) (hW : Below w.heap.size w W) => (⟨(hW.cell (p := ⟨b, off + k * 4, none⟩) hbl).trans f0, (hW.cell (p := ⟨b, off + k * 4 + 1, none⟩) hbl).trans f1, (hW.cell (p := ⟨b, off + k * 4 + 2, none⟩) hbl).trans f2, (hW.cell (p := ⟨b, off + k * 4 + 3, none⟩) hbl).trans f3⟩ : W.cell? ⟨b, off + k * 4, none⟩ = some (.int .i64 tkd) ∧ W.cell? ⟨b, off + k * 4 + 1, none⟩ = some (.int .i64 ta) ∧ W.cell? ⟨b, off + k * 4 + 2, none⟩ = some (.string (bstr tx)) ∧ W.cell? ⟨b, off + k * 4 + 3, none⟩ = some (.int .i64 tn)))
      have hbr := HH.out.2.2.2
      have hsr := hbr.size
      obtain ⟨e0, e1, e2, e3⟩ := HC.out _ hbr
      obtain ⟨b5, hb5e⟩ : ∃ b5, (printed ⟨tkd, ta, tx, tn⟩).isSome = b5 := ⟨_, rfl⟩
      have HMY : Hid (Calls Tryz.prog 49 #[tokV ⟨tkd, ta, tx, tn⟩] wr fun e w' => e = .returned (.bool b5) ∧ Below wr.heap.size wr w') := Lib.hid (by have := mayR wr ⟨tkd, ta, tx, tn⟩ HTK.out; unfold MayQ at this; rwa [hb5e] at this)
      have HB5E := Lib.hid hb5e
      clear hx hb5e f0 f1 f2 f3
      go_upto_if 17 with (go_at_call 49; refine (HMY.out).mono ?_; rintro e w5 ⟨rfl, hb5⟩)
      have HB5 : Hid (Below w.heap.size w w5) := Lib.hid (hbr.trans (hb5.mono hsr))
      have HO5 : Hid (OwnB w.heap.size pv (joinB ps) w5) := Lib.hid (HH.out.2.2.1.below hb5)
      have hs5 := HB5.out.size
      clear e0 e1 e2 e3 hb5 hbr hsr HMY
      obtain ⟨e0, e1, e2, e3⟩ := HC.out _ HB5.out
      cases b5
      · have hp : printed ⟨tkd, ta, tx, tn⟩ = none := by
          have := HB5E.out
          cases hq : printed ⟨tkd, ta, tx, tn⟩ with
          | none => rfl
          | some p => rw [hq] at this; cases this
        have hq : printOf L = .error 70 := by
          unfold printOf
          rw [mapM_stop HX.out hp]
        have HQ := Lib.hid hq
        clear hq hp
        go_wp2
        go_ret2
        unfold PrintQ
        rw [HQ.out]
        exact ⟨[], 70, rfl, HB5.out, rfl, rfl⟩
      · obtain ⟨p, hp⟩ := Option.isSome_iff_exists.1 HB5E.out
        have hk := printed_kinds hp
        have hjs := joinB_snoc ps p
        have HP5 := Lib.hid hp
        simp only at hk
        by_cases hk0 : 0 < k
        · rw [if_neg (fun h => by have := HH.out.2.1; rw [h] at this; simp at this; omega)] at hjs
          have HJS := Lib.hid hjs
          clear hjs hp
          rcases hk with ⟨hk1, hpe⟩ | ⟨hk1, hpe⟩ | ⟨hk1, hpe⟩
          · subst hk1
            have HPL : Hid (tx.length ≤ 1099511627776) := Lib.hid (Nat.le_trans (show tx.length ≤ 1048576 from HTK.out.1) (by decide))
            have HPE := Lib.hid hpe
            clear hpe
            go_wp2_with (first | (at_builtin; (with_reducible show wpList _ _ _ _ _ (World.alloc w5 _)); refine appOne rfl _ _ rfl w.heap.size w w5 _ (joinB ps) 32 rfl HO5.out rfl rfl (by have := HJL.out; omega) HB5.out hs5 ?_; intro v6 w6 hO6 hb6 hB6; obtain ⟨e0, e1, e2, e3⟩ := HC.out _ hb6) | (at_builtin; (with_reducible show wpList _ _ _ _ _ w6); refine appStr rfl _ _ rfl w.heap.size w _ (joinB ps ++ [32]) tx rfl hO6 rfl (by have := HJL.out; first | omega | (rw [List.length_append, List.length_singleton]; omega)) HPL.out hb6 hB6 ?_; intro v8 w8 hO8 hb8 hB8))
            rw [List.append_assoc] at hO8
            have HNX : Hid ((L.take (k + 1)).mapM printed = some (ps ++ [p]) ∧ (ps ++ [p]).length = k + 1 ∧ OwnB w.heap.size v8 (joinB (ps ++ [p])) w8 ∧ Below w.heap.size w w8) := Lib.hid ⟨mapM_next HX.out HH.out.1 HP5.out, by rw [List.length_append, HH.out.2.1]; rfl, by rw [HJS.out, HPE.out]; exact hO8, hb8⟩
            clear hO8 hb8 hB8
            try go_wp2
            go_roundw
            case rel => exact ⟨k + 1, ps ++ [p], by omega, by go_num, HNX⟩
            case measure => simp [RowKit.intOf]; omega
          · subst hk1
            have HPL : Hid ((itoa tn).length ≤ 1099511627776) := Lib.hid (by have := itoa_length_le tn HTK.out.2.1 HTK.out.2.2; omega)
            have HPE := Lib.hid hpe
            clear hpe
            go_wp2_with (first | (at_builtin; (with_reducible show wpList _ _ _ _ _ (World.alloc w5 _)); refine appOne rfl _ _ rfl w.heap.size w w5 _ (joinB ps) 32 rfl HO5.out rfl rfl (by have := HJL.out; omega) HB5.out hs5 ?_; intro v6 w6 hO6 hb6 hB6; obtain ⟨e0, e1, e2, e3⟩ := HC.out _ hb6) | (go_at_call 50; refine (itoaC w6 tn HTK.out.2.1 HTK.out.2.2 (HT.out.next hb6)).mono ?_; rintro e w7 ⟨rfl, hb7⟩; have hO7 := OwnB.below hO6 hb7; have hB7 := Nat.le_trans hB6 hb7.size; have hb7' := hb6.trans (hb7.mono hB6)) | (at_builtin; (with_reducible show wpList _ _ _ _ _ w7); refine appStr rfl _ _ rfl w.heap.size w _ (joinB ps ++ [32]) (itoa tn) rfl hO7 rfl (by have := HJL.out; first | omega | (rw [List.length_append, List.length_singleton]; omega)) HPL.out hb7' hB7 ?_; intro v8 w8 hO8 hb8 hB8))
            rw [List.append_assoc] at hO8
            have HNX : Hid ((L.take (k + 1)).mapM printed = some (ps ++ [p]) ∧ (ps ++ [p]).length = k + 1 ∧ OwnB w.heap.size v8 (joinB (ps ++ [p])) w8 ∧ Below w.heap.size w w8) := Lib.hid ⟨mapM_next HX.out HH.out.1 HP5.out, by rw [List.length_append, HH.out.2.1]; rfl, by rw [HJS.out, HPE.out]; exact hO8, hb8⟩
            clear hO8 hb8 hB8
            try go_wp2
            go_roundw
            case rel => exact ⟨k + 1, ps ++ [p], by omega, by go_num, HNX⟩
            case measure => simp [RowKit.intOf]; omega
          · subst hk1
            have HPL : Hid ((quoteOf tx).length ≤ 1099511627776) := Lib.hid (by have h1 := quo_len tx (tx.length + 1) 0; have h2 := HTK.out.1; unfold quoteOf; simp only [List.length_cons, List.length_append, List.length_nil]; simp only at h2; omega)
            have HPE := Lib.hid hpe
            clear hpe
            go_wp2_with (first | (at_builtin; (with_reducible show wpList _ _ _ _ _ (World.alloc w5 _)); refine appOne rfl _ _ rfl w.heap.size w w5 _ (joinB ps) 32 rfl HO5.out rfl rfl (by have := HJL.out; omega) HB5.out hs5 ?_; intro v6 w6 hO6 hb6 hB6; obtain ⟨e0, e1, e2, e3⟩ := HC.out _ hb6) | (go_at_call 19; refine (quoteR w6 tx HTK.out.1 (HT.out.next hb6)).mono ?_; rintro e w7 ⟨rfl, hb7⟩; have hO7 := OwnB.below hO6 hb7; have hB7 := Nat.le_trans hB6 hb7.size; have hb7' := hb6.trans (hb7.mono hB6)) | (at_builtin; (with_reducible show wpList _ _ _ _ _ w7); refine appStr rfl _ _ rfl w.heap.size w _ (joinB ps ++ [32]) (quoteOf tx) rfl hO7 rfl (by have := HJL.out; first | omega | (rw [List.length_append, List.length_singleton]; omega)) HPL.out hb7' hB7 ?_; intro v8 w8 hO8 hb8 hB8))
            rw [List.append_assoc] at hO8
            have HNX : Hid ((L.take (k + 1)).mapM printed = some (ps ++ [p]) ∧ (ps ++ [p]).length = k + 1 ∧ OwnB w.heap.size v8 (joinB (ps ++ [p])) w8 ∧ Below w.heap.size w w8) := Lib.hid ⟨mapM_next HX.out HH.out.1 HP5.out, by rw [List.length_append, HH.out.2.1]; rfl, by rw [HJS.out, HPE.out]; exact hO8, hb8⟩
            clear hO8 hb8 hB8
            try go_wp2
            go_roundw
            case rel => exact ⟨k + 1, ps ++ [p], by omega, by go_num, HNX⟩
            case measure => simp [RowKit.intOf]; omega
        · rw [if_pos (List.eq_nil_of_length_eq_zero (by rw [HH.out.2.1]; omega))] at hjs
          have hps : joinB ps = [] := by rw [List.eq_nil_of_length_eq_zero (show ps.length = 0 by rw [HH.out.2.1]; omega)]; rfl
          have HJS := Lib.hid hjs
          have HPS := Lib.hid hps
          clear hjs hp hps
          rcases hk with ⟨hk1, hpe⟩ | ⟨hk1, hpe⟩ | ⟨hk1, hpe⟩
          · subst hk1
            have HPL : Hid (tx.length ≤ 1099511627776) := Lib.hid (Nat.le_trans (show tx.length ≤ 1048576 from HTK.out.1) (by decide))
            have HPE := Lib.hid hpe
            clear hpe
            go_wp2_with (first | (at_builtin; (with_reducible show wpList _ _ _ _ _ w5); refine appStr rfl _ _ rfl w.heap.size w _ (joinB ps) tx rfl HO5.out rfl (by have := HJL.out; first | omega | (rw [List.length_append, List.length_singleton]; omega)) HPL.out HB5.out hs5 ?_; intro v8 w8 hO8 hb8 hB8))
            rw [HPS.out, List.nil_append] at hO8
            have HNX : Hid ((L.take (k + 1)).mapM printed = some (ps ++ [p]) ∧ (ps ++ [p]).length = k + 1 ∧ OwnB w.heap.size v8 (joinB (ps ++ [p])) w8 ∧ Below w.heap.size w w8) := Lib.hid ⟨mapM_next HX.out HH.out.1 HP5.out, by rw [List.length_append, HH.out.2.1]; rfl, by rw [HJS.out, HPE.out]; exact hO8, hb8⟩
            clear hO8 hb8 hB8
            try go_wp2
            go_roundw
            case rel => exact ⟨k + 1, ps ++ [p], by omega, by go_num, HNX⟩
            case measure => simp [RowKit.intOf]; omega
          · subst hk1
            have HPL : Hid ((itoa tn).length ≤ 1099511627776) := Lib.hid (by have := itoa_length_le tn HTK.out.2.1 HTK.out.2.2; omega)
            have HPE := Lib.hid hpe
            clear hpe
            go_wp2_with (first | (go_at_call 50; refine (itoaC w5 tn HTK.out.2.1 HTK.out.2.2 (HT.out.next HB5.out)).mono ?_; rintro e w7 ⟨rfl, hb7⟩; have hO7 := OwnB.below HO5.out hb7; have hB7 := Nat.le_trans hs5 hb7.size; have hb7' := HB5.out.trans (hb7.mono hs5)) | (at_builtin; (with_reducible show wpList _ _ _ _ _ w7); refine appStr rfl _ _ rfl w.heap.size w _ (joinB ps) (itoa tn) rfl hO7 rfl (by have := HJL.out; first | omega | (rw [List.length_append, List.length_singleton]; omega)) HPL.out hb7' hB7 ?_; intro v8 w8 hO8 hb8 hB8))
            rw [HPS.out, List.nil_append] at hO8
            have HNX : Hid ((L.take (k + 1)).mapM printed = some (ps ++ [p]) ∧ (ps ++ [p]).length = k + 1 ∧ OwnB w.heap.size v8 (joinB (ps ++ [p])) w8 ∧ Below w.heap.size w w8) := Lib.hid ⟨mapM_next HX.out HH.out.1 HP5.out, by rw [List.length_append, HH.out.2.1]; rfl, by rw [HJS.out, HPE.out]; exact hO8, hb8⟩
            clear hO8 hb8 hB8
            try go_wp2
            go_roundw
            case rel => exact ⟨k + 1, ps ++ [p], by omega, by go_num, HNX⟩
            case measure => simp [RowKit.intOf]; omega
          · subst hk1
            have HPL : Hid ((quoteOf tx).length ≤ 1099511627776) := Lib.hid (by have h1 := quo_len tx (tx.length + 1) 0; have h2 := HTK.out.1; unfold quoteOf; simp only [List.length_cons, List.length_append, List.length_nil]; simp only at h2; omega)
            have HPE := Lib.hid hpe
            clear hpe
            go_wp2_with (first | (go_at_call 19; refine (quoteR w5 tx HTK.out.1 (HT.out.next HB5.out)).mono ?_; rintro e w7 ⟨rfl, hb7⟩; have hO7 := OwnB.below HO5.out hb7; have hB7 := Nat.le_trans hs5 hb7.size; have hb7' := HB5.out.trans (hb7.mono hs5)) | (at_builtin; (with_reducible show wpList _ _ _ _ _ w7); refine appStr rfl _ _ rfl w.heap.size w _ (joinB ps) (quoteOf tx) rfl hO7 rfl (by have := HJL.out; first | omega | (rw [List.length_append, List.length_singleton]; omega)) HPL.out hb7' hB7 ?_; intro v8 w8 hO8 hb8 hB8))
            rw [HPS.out, List.nil_append] at hO8
            have HNX : Hid ((L.take (k + 1)).mapM printed = some (ps ++ [p]) ∧ (ps ++ [p]).length = k + 1 ∧ OwnB w.heap.size v8 (joinB (ps ++ [p])) w8 ∧ Below w.heap.size w w8) := Lib.hid ⟨mapM_next HX.out HH.out.1 HP5.out, by rw [List.length_append, HH.out.2.1]; rfl, by rw [HJS.out, HPE.out]; exact hO8, hb8⟩
            clear hO8 hb8 hB8
            try go_wp2
            go_roundw
            case rel => exact ⟨k + 1, ps ++ [p], by omega, by go_num, HNX⟩
            case measure => simp [RowKit.intOf]; omega
    · obtain rfl : k = n := by omega
      have hall : L.take k = L := List.take_of_length_le (by rw [HLN.out]; exact Nat.le_refl _)
      have hmm := HH.out.1
      rw [hall] at hmm
      have hO := HH.out.2.2.1
      have hb := HH.out.2.2.2
      obtain ⟨J, hJ⟩ : ∃ J, joinB ps = J := ⟨_, rfl⟩
      rw [hJ] at hO
      have hP : printOf L = if 16384 < J.length then .error 4 else .ok J := by
        unfold printOf
        rw [hmm, ← hJ]
      have hcv := conv_own hO
      obtain ⟨aa, cc, hpv, hr, _, _⟩ := reads_of_own hO
      have HP := Lib.hid hP
      rw [hpv] at hcv
      have hpv' := hpv.symm
      clear hall hmm hJ hP hr hO
      subst hpv
      by_cases hl : 16384 < J.length
      · have hq := HP.out.trans (if_pos hl)
        have HQ := Lib.hid hq
        clear hq hpv' hcv
        go_wp2
        go_ret2
        unfold PrintQ
        rw [HQ.out]
        exact ⟨[], 4, rfl, hb, rfl, rfl⟩
      · have hq := HP.out.trans (if_neg hl)
        have HQ := Lib.hid hq
        clear hq hpv'
        go_wp2
        go_ret2
        unfold PrintQ
        rw [HQ.out]
        exact ⟨J, 0, rfl, hb, rfl, rfl⟩
end Go.Proofs.YtmhemahkcbgaoaaGreatDoor
/- Tokens with marked room behind them, and that they are kept. -/
namespace Go.Proofs.YtmhemahkcbgaoaaGreatDoor
set_option linter.unusedVariables false
set_option linter.unusedSimpArgs false
open Go.RowKit
open Go.Lib hiding intOf
def marks7 (k : Nat) : List Tok := (List.range k).map fun (i : Nat) => ⟨9, 0, [], (i : Int)⟩
theorem marks7_len (k : Nat) : (marks7 k).length = k := by unfold marks7; simp
theorem marks7_succ (k : Nat) : marks7 (k + 1) = marks7 k ++ [⟨9, 0, [], (k : Int)⟩] := by unfold marks7; rw [List.range_succ, List.map_append]; rfl
theorem marks7_at {k i : Nat} (h : i < k) : (marks7 k)[i]? = some ⟨9, 0, [], (i : Int)⟩ := by
  unfold marks7
  rw [List.getElem?_map, List.getElem?_range h]
  rfl
set_option maxHeartbeats 4000000 in
theorem spareC (w : World) (a : Option Addr) (n c : Nat) (L : List Tok) (h : ReadsT w a n L) (hn : n ≤ 1048576) :
    Calls Tryz.prog 23 #[.slice a n c] w fun e w' => ∃ a' c', e = .returned (.slice a' n c') ∧ n + 5 ≤ c' ∧ c' ≤ maxLen ∧ ReadsT w' a' (n + 5) (L ++ marks7 5) ∧ Below w.heap.size w w' := by
  have hl := h.1
  have hnl : (L.flatMap tokCells).length = n * 4 := by rw [toks_len, hl]
  have hsrc : 0 < n → ∃ b off, a = some ⟨b, off, none⟩ ∧ ∀ j u, (L.flatMap tokCells)[j]? = some u → w.cell? ⟨b, off + j, none⟩ = some u := fun h0 => toks_cell h h0
  have HL := Lib.hid hl
  have HNL := Lib.hid hnl
  have HSRC := Lib.hid hsrc
  clear h hl hnl hsrc
  go_enter Tryz.func23, Tryz.ntmps23
  go_wp2_with (at_builtin; refine appSlice rfl _ _ rfl Tryz.underlying29 (.agg #[.int .i64 0, .int .i64 0, .string ByteArray.empty, .int .i64 0]) 4 40 infoTok rfl (by decide) (by decide) w.heap.size (.slice none 0 0) 0 [] rfl (World.ownsRow_nil _ _ _ _) a n c (L.flatMap tokCells) rfl HNL.out HSRC.out (toks_one L) (by omega) (Nat.le_refl _) ?_; intro v3 w3 hO3 hg3)
  have hb3 : Below w.heap.size w w3 := (Below.refl _ w).grown hg3 (Nat.le_refl _) (fun k hk => by cases hk)
  have hO3' : OwnT w.heap.size v3 (L ++ marks7 0) w3 := by
    unfold OwnT
    rw [show marks7 0 = [] from rfl, List.append_nil, HL.out]
    rw [Nat.zero_add, List.nil_append] at hO3
    exact hO3
  clear hO3 hg3
  go_wp2
  go_loopw [3, 4] (fun vv kv wr => ∃ k : Nat, k ≤ 5 ∧ kv = .int .i64 (k : Int) ∧ Hid (OwnT w.heap.size vv (L ++ marks7 k) wr ∧ Below w.heap.size w wr)) (fun _ kv _ => 5 - (RowKit.intOf kv).toNat)
  case atStart => exact ⟨0, by decide, rfl, Lib.hid ⟨hO3', hb3⟩⟩
  case round =>
    obtain ⟨k, hk5, rfl, HH⟩ := hrel
    obtain ⟨vv, rfl⟩ : ∃ v : Value, v = u3 := ⟨_, rfl⟩
    clear hO3' hb3
    have hLl : (L ++ marks7 k).length = n + k := by rw [List.length_append, HL.out, marks7_len]
    by_cases hlt : k < 5
    · have HLL := Lib.hid hLl
      clear hLl
      have hbr := HH.out.2.size
      go_wp2_with (at_builtin; refine appTok rfl _ _ rfl w.heap.size w.heap.size w wr vv (L ++ marks7 k) ⟨9, 0, [], (k : Int)⟩ rfl HH.out.1 rfl rfl (by rw [HLL.out]; omega) HH.out.2 (Nat.le_refl _) hbr ?_; intro v5 w5 hO5 hb5 hs5 hk5')
      have HNX : Hid (OwnT w.heap.size v5 (L ++ marks7 (k + 1)) w5 ∧ Below w.heap.size w w5) := Lib.hid ⟨by rw [marks7_succ, ← List.append_assoc]; exact hO5, hb5⟩
      clear hO5 hb5 hs5 hk5'
      go_roundw
      case rel => exact ⟨k + 1, by omega, by go_num, HNX⟩
      case measure => simp [RowKit.intOf]; omega
    · obtain rfl : k = 5 := by omega
      obtain ⟨a', c', hv, hR, h1, h2⟩ := readsT_own HH.out.1
      rw [hLl] at hv hR h1
      have HR := Lib.hid hR
      have hc5 : n ≤ c' := by omega
      have hc6 : c' ≤ 9223372036854775807 := by unfold maxLen at h2; omega
      have H2 := Lib.hid h2
      clear hR hLl h2
      subst hv
      go_wp2
      go_ret
      exact ⟨a', c', rfl, h1, H2.out, HR.out, HH.out.2⟩
set_option maxHeartbeats 4000000 in
theorem keptC (w : World) (a : Option Addr) (n c : Nat) (L : List Tok) (a' : Option Addr) (c' : Nat) (h : ReadsT w a (n + 5) (L ++ marks7 5)) (h' : ReadsT w a' n L) (hn : n ≤ 1048576) (hc : n + 5 ≤ c) (hcm : c ≤ maxLen) :
    Calls Tryz.prog 25 #[.slice a n c, .slice a' n c'] w fun e w' => e = .returned (.bool true) ∧ Below w.heap.size w w' := by
  have hl' := h'.1
  have H := Lib.hid h
  have H' := Lib.hid h'
  have HL := Lib.hid hl'
  have hcm' : c ≤ 9223372036854775807 := by unfold maxLen at hcm; omega
  clear h h' hl' hcm
  go_enter Tryz.func25, Tryz.ntmps25
  go_wp2
  go_loopw [6] (fun kv wr => ∃ k : Nat, k ≤ 5 ∧ kv = .int .i64 (k : Int) ∧ Hid (Below w.heap.size w wr)) (fun kv _ => 5 - (RowKit.intOf kv).toNat)
  case atStart => exact ⟨0, by decide, rfl, Lib.hid (Below.refl _ _)⟩
  case round =>
    obtain ⟨k, hk5, rfl, HB⟩ := hrel
    by_cases hlt : k < 5
    · obtain ⟨b, off, x, rfl, hb, hx, e0, e1, e2, e3⟩ := (H.out.keep HB.out (Nat.le_refl _)).at (i := n + k) (by omega)
      rw [List.getElem?_append_right (by rw [HL.out]; omega), HL.out, Nat.add_sub_cancel_left, marks7_at hlt] at hx
      cases hx
      simp only at e0 e1 e2 e3
      go_wp2
      go_roundw
      case rel => exact ⟨k + 1, by omega, by go_num, HB⟩
      case measure => simp [RowKit.intOf]; omega
    · obtain rfl : k = 5 := by omega
      have HS := Lib.hid (sameC wr a n c L a' n c' L ((H.out.keep HB.out (Nat.le_refl _)).take HL.out) (H'.out.keep HB.out (Nat.le_refl _)) (by omega) (by omega))
      go_wp2_with (go_at_call 15; refine (HS.out).mono ?_; rintro e w5 ⟨rfl, hq5⟩)
      go_ret
      refine ⟨rfl, HB.out.trans ((hq5.below _).mono HB.out.size)⟩
end Go.Proofs.YtmhemahkcbgaoaaGreatDoor
/- ScanPrints: of all tokens the line, or the error; they stay as they are. -/
namespace Go.Proofs.YtmhemahkcbgaoaaGreatDoor
set_option linter.unusedVariables false
set_option linter.unusedSimpArgs false
open Go.RowKit
open Go.Lib hiding intOf
set_option maxHeartbeats 4000000 in
theorem scanPrints_walk (w : World) (a : Option Addr) (n c : Nat) (L : List Tok) (hL : ReadsT w a n L) (hsum : tokSum L ≤ 1048576) (hok : ∀ t ∈ L, TokOk t) (hT : Tabs w) :
    Calls Tryz.prog 10 #[.slice a n c] w fun e w' => e = .returned (.bool true) ∧ Below w.heap.size w w' := by
  have hn : n ≤ 1048576 := by rw [← hL.1]; exact Nat.le_trans (tokSum_len L) hsum
  have H1 := Lib.hid (spareC w a n c L hL hn)
  have HL := Lib.hid hL
  have HT := Lib.hid hT
  have HOK := Lib.hid hok
  have HSUM := Lib.hid hsum
  clear hL hT hok hsum
  go_enter Tryz.func10, Tryz.ntmps10
  go_upto_region 2 with (go_at_call 23; refine (H1.out).mono ?_; rintro e w1 ⟨a1, c1, rfl, hc1, hc1m, hR1, hb1⟩)
  have HR1 := Lib.hid hR1
  have HB1 := Lib.hid hb1
  have HC1 := Lib.hid hc1
  have HC1M := Lib.hid hc1m
  have H2 := Lib.hid (printC w1 a1 n c1 L (hR1.take HL.out.1) HOK.out hn (HT.out.next hb1))
  clear hR1 hb1 hc1 hc1m H1
  obtain ⟨r, hr⟩ : ∃ r, printOf L = r := ⟨_, rfl⟩
  rw [hr] at H2
  have HRR := Lib.hid hr
  clear hr
  cases r
  all_goals
    go_upto_region 3 with (go_at_call 20; refine (H2.out).mono ?_; rintro e w2 ⟨s2, e2, rfl, hb2, hm2⟩)
    obtain ⟨rfl, rfl⟩ := hm2
    have HB2 : Hid (Below w.heap.size w w2) := Lib.hid (HB1.out.trans (hb2.mono HB1.out.size))
    have HB12 := Lib.hid hb2
    have H3 := Lib.hid (printR w2 a n c L (HL.out.keep HB2.out (Nat.le_refl _)) HOK.out HSUM.out (HT.out.next HB2.out))
    rw [HRR.out] at H3
    clear hb2 H2
    go_upto_region 4 with (go_at_call 24; refine (H3.out).mono ?_; rintro e w3 ⟨s3, e3, rfl, hb3, hm3⟩)
    obtain ⟨rfl, rfl⟩ := hm3
    have HB3 : Hid (Below w.heap.size w w3) := Lib.hid (HB2.out.trans (hb3.mono HB2.out.size))
    have HB13 : Hid (Below w1.heap.size w1 w3) := Lib.hid (HB12.out.trans (hb3.mono HB12.out.size))
    have H4 := Lib.hid (keptC w3 a1 n c1 L a c (HR1.out.keep HB13.out (Nat.le_refl _)) (HL.out.keep HB3.out (Nat.le_refl _)) hn HC1.out HC1M.out)
    clear hb3 H3
    go_wp2_with (first
      | (go_at_call 25; refine (H4.out).mono ?_; rintro e w4 ⟨rfl, hb4⟩; have HB4 : Hid (Below w.heap.size w w4) := Lib.hid (HB3.out.trans (hb4.mono HB3.out.size)); have H5 := Lib.hid (worksC w4 (HT.out.next HB4.out)))
      | (go_at_call 11; refine (H5.out).mono ?_; rintro e w5 ⟨rfl, hb5⟩))
    go_ret
    exact ⟨rfl, HB4.out.trans (hb5.mono HB4.out.size)⟩
end Go.Proofs.YtmhemahkcbgaoaaGreatDoor
