/- Texts joined, one behind the other (SRefB, SRefC, SBegU, SChrP). -/
import Derived.Test.YtchdeboialbdiaaDoorSk23
import Derived.Lib.MapLaws
/- The reference's First. -/
namespace Go.Proofs.YtchdeboialbdiaaDoor
set_option linter.unusedVariables false
set_option linter.unusedSimpArgs false
open Go.RowKit
open Go.Lib hiding intOf
theorem seq_len (n : Nat) : (seqN n).length ≤ 4 := by
  unfold seqN
  repeat' split
  all_goals (simp only [List.length_cons, List.length_nil]; omega)
theorem may_nat {z : Int} (h : mayI z = true) : ∃ m : Nat, z = (m : Int) ∧ m ≤ 1114111 := by
  unfold mayI at h
  simp only [Bool.and_eq_true, decide_eq_true_iff] at h
  exact ⟨z.toNat, by omega, by omega⟩
set_option maxHeartbeats 4000000 in
set_option maxRecDepth 100000 in
theorem firstR6 (w : World) (l : List UInt8) (hl : l ≠ []) (hm : l.length ≤ 140737488355328) : Calls Tryd.prog 49 #[.string (bstr l)] w fun e w' => e = .returned (.tuple #[.int .i32 (firstR l).1, .int .i64 ((firstR l).2.1 : Int), .bool (firstR l).2.2]) ∧ Below w.heap.size w w' := by
  have h1 : 1 ≤ l.length := List.length_pos_iff.2 hl
  obtain ⟨⟨A, B, C⟩, hT⟩ : ∃ T, firstR l = T := ⟨_, rfl⟩
  rw [hT]
  have HT : Hid (firstGo l 4 1 = (A, B, C)) := Lib.hid hT
  have hnz : ((l.length : Int) == 0) = false := by rw [beq_eq_false_iff_ne]; omega
  have HNU := Lib.hid (fun (W : World) (k : Nat) (a : 1 ≤ k) (b : k ≤ 4) (c : k ≤ l.length) => numberR6 W l k a b c hm)
  have HBE := Lib.hid (fun (W : World) (a : Option Addr) (n : Nat) (X : List Nat) (hX : X.length = n) (hr : Reads W a n (X.map U1)) (hn : n ≤ 8) => beginsR6 W l a n n X hX hr hn hm)
  clear hT hl
  go_enter Tryd.func49, Tryd.ntmps49
  go_wp2_with fail
  go_loopw [5] (fun ui wr => ∃ k : Nat, ui = .int .i64 (k : Int) ∧ 1 ≤ k ∧ k ≤ 5 ∧ Hid (Below w.heap.size w wr ∧ firstGo l (5 - k) k = (A, B, C))) (fun ui _ => 5 - (RowKit.intOf ui).toNat)
  case atStart => exact ⟨1, rfl, Nat.le_refl _, by omega, Lib.hid ⟨Below.refl _ _, HT.out⟩⟩
  case round =>
    obtain ⟨k, rfl, hk1, hk5, HI⟩ := hrel
    by_cases hgo : k ≤ 4 ∧ k ≤ l.length
    · obtain ⟨hk4, hkl⟩ := hgo
      have hg := HI.out.2
      rw [show 5 - k = (4 - k) + 1 by omega, firstGo, if_pos ⟨hk4, hkl⟩] at hg
      have hk4i : (k : Int) ≤ 4 := by omega
      have hkli : (k : Int) ≤ (l.length : Int) := by omega
      have HN := Lib.hid (HNU.out wr k hk1 hk4 hkl)
      obtain ⟨z, hz⟩ : ∃ z, numI l k = z := ⟨_, rfl⟩
      have hc : condW l k = (mayI z && begN l (seqN z.toNat) && decide ((seqN z.toNat).length = k)) := by unfold condW; rw [hz]
      rw [hz] at HN hg
      rw [hc] at hg
      clear hc hz
      have HM := Lib.hid (fun W => mayR6 W z)
      obtain ⟨bm, hbm⟩ : ∃ b, mayI z = b := ⟨_, rfl⟩
      rw [hbm] at hg HM
      cases bm with
      | false =>
        rw [Bool.false_and, Bool.false_and, if_neg (by decide)] at hg
        have HG := Lib.hid hg
        clear hg hbm
        go_wp2_with (first
          | (go_at_call 67; refine (HN.out).mono ?_; rintro e w1 ⟨rfl, hq1⟩; have HQ1 := Lib.hid hq1; clear hq1)
          | (go_at_call 48; refine (HM.out _).mono ?_; rintro e w2 ⟨rfl, rfl⟩))
        go_roundw
        case rel => exact ⟨k + 1, by go_num, by omega, by omega, Lib.hid ⟨HI.out.1.trans (HQ1.out.below _), by rw [show 5 - (k + 1) = 4 - k by omega]; exact HG.out⟩⟩
        case measure => simp [RowKit.intOf]; omega
      | true =>
        obtain ⟨m, rfl, hmb⟩ := may_nat hbm
        rw [Int.toNat_natCast] at hg
        have hsq := fun W => seqR6 W m hmb
        have hsl := seq_len m
        obtain ⟨X, hX⟩ : ∃ X, seqN m = X := ⟨_, rfl⟩
        rw [hX] at hg hsq hsl
        obtain ⟨n0, hn0⟩ : ∃ n, X.length = n := ⟨_, rfl⟩
        unfold SeqR at hsq
        rw [hn0] at hg hsq hsl
        have HS := Lib.hid hsq
        have HN0 := Lib.hid hn0
        clear hsq hX hn0 hbm
        obtain ⟨bb, hbb⟩ : ∃ b, begN l X = b := ⟨_, rfl⟩
        have HB2 : Hid (∀ (W : World) (a : Option Addr) (hr : Reads W a n0 (X.map U1)), Calls Tryd.prog 68 #[.string (bstr l), .slice a n0 n0] W fun e w' => e = .returned (.bool bb) ∧ Quiet W w') := Lib.hid (fun W a hr => by have := HBE.out W a n0 X HN0.out hr (by omega); rw [hbb] at this; exact this)
        rw [hbb] at hg
        clear hbb
        cases bb with
        | false =>
          rw [Bool.and_false, Bool.false_and, if_neg (by decide)] at hg
          have HG := Lib.hid hg
          clear hg
          go_wp2_with (first
            | (go_at_call 67; refine (HN.out).mono ?_; rintro e w1 ⟨rfl, hq1⟩; have HQ1 := Lib.hid hq1; clear hq1)
            | (go_at_call 48; refine (HM.out _).mono ?_; rintro e w2 ⟨rfl, rfl⟩)
            | (go_at_call 69; refine (HS.out _).mono ?_; rintro e w3 ⟨a3, rfl, hr3, hb3⟩; have HR3 := Lib.hid hr3; have HB3 := Lib.hid hb3; clear hr3 hb3)
            | (go_at_call 68; refine (HB2.out _ _ HR3.out).mono ?_; rintro e w4 ⟨rfl, hq4⟩; have HQ4 := Lib.hid hq4; clear hq4))
          go_roundw
          case rel => exact ⟨k + 1, by go_num, by omega, by omega, Lib.hid ⟨((HI.out.1.trans (HQ1.out.below _)).trans (HB3.out.mono (HI.out.1.trans (HQ1.out.below _)).size)).trans (HQ4.out.below _), by rw [show 5 - (k + 1) = 4 - k by omega]; exact HG.out⟩⟩
          case measure => simp [RowKit.intOf]; omega
        | true =>
          by_cases hnk : n0 = k
          · have hq : ((n0 : Int) == (k : Int)) = true := by rw [beq_iff_eq]; omega
            rw [decide_eq_true hnk, if_pos (by decide)] at hg
            have HG := Lib.hid hg
            clear hg hnk
            go_wp2_with (first
              | (go_at_call 67; refine (HN.out).mono ?_; rintro e w1 ⟨rfl, hq1⟩; have HQ1 := Lib.hid hq1; clear hq1)
              | (go_at_call 48; refine (HM.out _).mono ?_; rintro e w2 ⟨rfl, rfl⟩)
              | (go_at_call 69; (with_reducible show Calls _ _ _ w2 _); refine (HS.out _).mono ?_; rintro e w3 ⟨a3, rfl, hr3, hb3⟩; have HR3 := Lib.hid hr3; have HB3 := Lib.hid hb3; clear hr3 hb3)
              | (go_at_call 68; refine (HB2.out _ _ HR3.out).mono ?_; rintro e w4 ⟨rfl, hq4⟩; have HQ4 := Lib.hid hq4; clear hq4)
              | (go_at_call 69; (with_reducible show Calls _ _ _ w4 _); refine (HS.out _).mono ?_; rintro e w5 ⟨a5, rfl, hr5, hb5⟩; have HB5 := Lib.hid hb5; clear hr5 hb5))
            go_ret3
            have hw4 := ((HI.out.1.trans (HQ1.out.below _)).trans (HB3.out.mono (HI.out.1.trans (HQ1.out.below _)).size)).trans (HQ4.out.below _)
            have hg := HG.out
            simp only [Prod.mk.injEq] at hg
            obtain ⟨g1, g2, g3⟩ := hg
            subst g1 g2 g3
            exact ⟨rfl, hw4.trans (HB5.out.mono hw4.size)⟩
          · have hq : ((n0 : Int) == (k : Int)) = false := by rw [beq_eq_false_iff_ne]; omega
            rw [decide_eq_false hnk, if_neg (by decide)] at hg
            have HG := Lib.hid hg
            clear hg hnk
            go_wp2_with (first
              | (go_at_call 67; refine (HN.out).mono ?_; rintro e w1 ⟨rfl, hq1⟩; have HQ1 := Lib.hid hq1; clear hq1)
              | (go_at_call 48; refine (HM.out _).mono ?_; rintro e w2 ⟨rfl, rfl⟩)
              | (go_at_call 69; (with_reducible show Calls _ _ _ w2 _); refine (HS.out _).mono ?_; rintro e w3 ⟨a3, rfl, hr3, hb3⟩; have HR3 := Lib.hid hr3; have HB3 := Lib.hid hb3; clear hr3 hb3)
              | (go_at_call 68; refine (HB2.out _ _ HR3.out).mono ?_; rintro e w4 ⟨rfl, hq4⟩; have HQ4 := Lib.hid hq4; clear hq4)
              | (go_at_call 69; (with_reducible show Calls _ _ _ w4 _); refine (HS.out _).mono ?_; rintro e w5 ⟨a5, rfl, hr5, hb5⟩; have HB5 := Lib.hid hb5; clear hr5 hb5))
            have hw4 := ((HI.out.1.trans (HQ1.out.below _)).trans (HB3.out.mono (HI.out.1.trans (HQ1.out.below _)).size)).trans (HQ4.out.below _)
            have HW5 := Lib.hid (hw4.trans (HB5.out.mono hw4.size))
            clear hw4
            go_roundw
            case rel => exact ⟨k + 1, by go_num, by omega, by omega, Lib.hid ⟨HW5.out, by rw [show 5 - (k + 1) = 4 - k by omega]; exact HG.out⟩⟩
            case measure => simp [RowKit.intOf]; omega
    · have hg := HI.out.2
      have hT2 : (A, B, C) = ((65533 : Int), 1, false) := by
        rw [← hg]
        cases hf : 5 - k with
        | zero => rfl
        | succ f => rw [firstGo, if_neg hgo]
      simp only [Prod.mk.injEq] at hT2
      obtain ⟨g1, g2, g3⟩ := hT2
      subst g1 g2 g3
      clear hg
      by_cases hk4 : k ≤ 4
      · have hk4i : (k : Int) ≤ 4 := by omega
        have hkli : ¬ (k : Int) ≤ (l.length : Int) := by omega
        have hkli2 : (l.length : Int) < (k : Int) := by omega
        go_wp2_with fail
        go_ret3
        exact ⟨rfl, HI.out.1⟩
      · have hk4i : ¬ (k : Int) ≤ 4 := by omega
        have hk4j : (4 : Int) < (k : Int) := by omega
        go_wp2_with fail
        go_ret3
        exact ⟨rfl, HI.out.1⟩
end Go.Proofs.YtchdeboialbdiaaDoor
/- The reference's Chars. -/
namespace Go.Proofs.YtchdeboialbdiaaDoor
set_option linter.unusedVariables false
set_option linter.unusedSimpArgs false
open Go.RowKit
open Go.Lib hiding intOf
/-- characters: number, place, width -/
def charsWGo : Nat → List UInt8 → Nat → List (Nat × Nat × Nat)
  | 0, _, _ => []
  | f + 1, l, a => if l = [] then [] else ((chr1 l).1, a, (chr1 l).2) :: charsWGo f (l.drop (chr1 l).2) (a + (chr1 l).2)
def charsW (l : List UInt8) : List (Nat × Nat × Nat) := charsWGo l.length l 0
theorem charsWGo_next {f : Nat} {l : List UInt8} (hl : l ≠ []) (a : Nat) : charsWGo (f + 1) l a = ((chr1 l).1, a, (chr1 l).2) :: charsWGo f (l.drop (chr1 l).2) (a + (chr1 l).2) := by rw [charsWGo, if_neg hl]
theorem charsWGo_stop (f : Nat) (a : Nat) : charsWGo f [] a = [] := by cases f <;> simp [charsWGo]
theorem charsW_go : ∀ (f : Nat) (l : List UInt8) (a : Nat), (charsWGo f l a).map (fun p => (p.1, p.2.1)) = charsGo f l a
  | 0, l, a => rfl
  | f + 1, l, a => by
    by_cases hl : l = []
    · subst hl; rw [charsWGo_stop, charsGo_stop]; rfl
    · rw [charsWGo_next hl, charsGo_next hl, List.map_cons, charsW_go f]
theorem charsW_L (l : List UInt8) : (charsW l).map (fun p => (p.1, p.2.1)) = charsL l := charsW_go _ _ _
theorem charsW_vals (l : List UInt8) : (charsW l).map (fun p => p.1) = valsL l := by
  unfold valsL
  rw [← charsW_L, List.map_map]
  rfl
theorem charsW_ats (l : List UInt8) : (charsW l).map (fun p => p.2.1) ++ [l.length] = atsL l := by
  unfold atsL
  rw [← charsW_L, List.map_map]
  rfl
theorem charsW_len (l : List UInt8) : (charsW l).length = (valsL l).length := by rw [← charsW_vals, List.length_map]
def chCells (p : Nat × Nat × Nat) : List Value := [.int .i64 (p.2.1 : Int), .int .i32 (tokR p.1 : Int), .int .i64 (p.2.2 : Int), .bool (decide (p.1 < wrongN))]
theorem infoChar : (Tryd.prog.info? 119).map (fun i => (i.zero, i.size, i.bytes)) = some (some (.agg #[.int .i64 0, .int .i32 0, .int .i64 0, .bool false]), 4, 32) := by kernel_rfl
def ChOwnR (B : Nat) (v : Value) (L : List (Nat × Nat × Nat)) (w : World) : Prop := w.ownsRow B 119 4 v L.length (L.flatMap chCells)
theorem ChOwnR.push {B : Nat} {v : Value} {L : List (Nat × Nat × Nat)} {x : Nat × Nat × Nat} {w : World} (h : w.ownsRow B 119 4 v (L.length + 1) (L.flatMap chCells ++ chCells x)) : ChOwnR B v (L ++ [x]) w := by
  unfold ChOwnR
  rw [List.length_append, List.flatMap_append]
  simpa using h
theorem first_chr {D : List UInt8} (hD : D ≠ []) : firstR D = ((tokR (chr1 D).1 : Int), (chr1 D).2, decide ((chr1 D).1 < wrongN)) := by
  rw [firstR_eq D hD]
  by_cases h : RightD (decodeL D)
  · have hc : chr1 D = decodeL D := by unfold chr1; rw [if_pos h]
    have := dec_rune_le (l := D)
    have hlt : (decodeL D).1 < wrongN := by unfold wrongN; omega
    rw [if_pos h, hc]
    unfold tokR
    rw [if_pos hlt, decide_eq_true hlt]
  · have hc : chr1 D = (wrongN + bN D 0, 1) := by unfold chr1; rw [if_neg h]
    rw [if_neg h, hc]
    unfold tokR
    rw [if_neg (by dsimp only; omega), decide_eq_false (by dsimp only; omega)]
    rfl
def CharsR (w : World) (l : List UInt8) (e : Ending) (w' : World) : Prop :=
  ∃ v, e = .returned v ∧ ChOwnR w.heap.size v (charsW l) w' ∧ Below w.heap.size w w'
set_option maxHeartbeats 4000000 in
set_option maxRecDepth 100000 in
theorem charsR6 (w : World) (l : List UInt8) (hm : l.length ≤ 67108864) :
    Calls Tryd.prog 27 #[.string (bstr l)] w (CharsR w l) := by
  obtain ⟨n, hn⟩ : ∃ n, n = l.length := ⟨_, rfl⟩
  have hsz : (bstr l).size = n := by rw [bstr_size, hn]
  rw [← hn] at hm
  have HN := Lib.hid hn
  clear hn
  go_enter Tryd.func27, Tryd.ntmps27
  go_wp2_with fail
  go_loopw [3, 4] (fun vl ui wr => ∃ (i f : Nat) (acc : List (Nat × Nat × Nat)), ui = .int .i64 (i : Int) ∧ i ≤ n ∧ acc.length ≤ i ∧ Hid (n ≤ i + f ∧ acc ++ charsWGo f (l.drop i) i = charsW l ∧ ChOwnR w.heap.size vl acc wr ∧ Below w.heap.size w wr)) (fun _ ui _ => n - (RowKit.intOf ui).toNat)
  case atStart => exact ⟨0, l.length, [], rfl, Nat.zero_le _, Nat.le_refl _, Lib.hid ⟨by rw [HN.out]; omega, rfl, World.ownsRow_nil _ _ _ _, Below.refl _ _⟩⟩
  case round =>
    obtain ⟨i, f, acc, rfl, hi, hal, HR⟩ := hrel
    obtain ⟨vl, rfl⟩ : ∃ v : Value, v = u3 := ⟨_, rfl⟩
    by_cases hlt : i < n
    · obtain ⟨f, rfl⟩ : ∃ g, f = g + 1 := ⟨f - 1, by have := HR.out.1; omega⟩
      obtain ⟨D, hD⟩ : ∃ D, l.drop i = D := ⟨_, rfl⟩
      have hDl : D.length = n - i := by rw [← hD, List.length_drop, HN.out]
      have hDn : D ≠ [] := by rintro rfl; simp at hDl; omega
      have hDt : D.take (n - i) = D := List.take_of_length_le (by omega)
      have hF := firstR6 wr D hDn (by omega)
      rw [first_chr hDn] at hF
      have hgo := HR.out.2.1
      rw [hD, charsWGo_next hDn] at hgo
      have hwd := chr1_width hDn
      have hit : (i : Int) < (n : Int) := by omega
      have hit2 : (i : Int) ≤ (n : Int) := by omega
      obtain ⟨v, hv⟩ : ∃ v, (chr1 D).1 = v := ⟨_, rfl⟩
      obtain ⟨K, hK⟩ : ∃ K, (chr1 D).2 = K := ⟨_, rfl⟩
      rw [hv, hK] at hF hgo
      rw [hK] at hwd
      have hcs : chCells (v, i, K) = [.int .i64 (i : Int), .int .i32 (tokR v : Int), .int .i64 (K : Int), .bool (decide (v < wrongN))] := rfl
      obtain ⟨R, hR⟩ : ∃ R, tokR v = R := ⟨_, rfl⟩
      obtain ⟨bw, hbw⟩ : ∃ b, decide (v < wrongN) = b := ⟨_, rfl⟩
      rw [hR, hbw] at hcs
      dsimp only at hF
      rw [hR, hbw] at hF
      have HF := Lib.hid hF
      have HGO := Lib.hid hgo
      have HCS := Lib.hid hcs
      have hDD := Lib.hid hD
      have HO := Lib.hid HR.out.2.2.1
      have HB0 := Lib.hid HR.out.2.2.2
      have hs0 := HB0.out.size
      clear hF hgo hcs hv hK hR hbw
      go_wp2_with (first
        | (go_at_call 49; refine (HF.out).mono ?_; rintro e w1 ⟨rfl, hb1⟩; have HO1 := Lib.hid (own_below HO.out hb1); have hs1 := hb1.size; have HB1 := Lib.hid (HB0.out.trans (hb1.mono HB0.out.size)); clear hb1)
        | (at_builtin; (with_reducible show wpList _ _ _ (Oper.mk (some 27) _ _ _ _ _ :: _) _ _); refine appSep rfl _ _ rfl Tryd.underlying57 (.agg #[.int .i64 0, .int .i32 0, .int .i64 0, .bool false]) 4 32 infoChar rfl (by decide) (by decide) w.heap.size w1 vl acc.length (acc.flatMap chCells) [.int .i64 (i : Int), .int .i32 (R : Int), .int .i64 (K : Int), .bool bw] rfl (by intro u hu; simp only [List.mem_cons, List.not_mem_nil, or_false] at hu; rcases hu with rfl | rfl | rfl | rfl <;> rfl) rfl HO1.out rfl rfl (by omega) (by omega) ?_; intro v8 w8 hp8; have HP8 := Lib.hid hp8; clear hp8))
      have HNX : Hid (n ≤ i + K + f ∧ (acc ++ [(v, i, K)]) ++ charsWGo f (l.drop (i + K)) (i + K) = charsW l ∧ ChOwnR w.heap.size v8 (acc ++ [(v, i, K)]) w8 ∧ Below w.heap.size w w8) := Lib.hid (by
        refine ⟨by have := HR.out.1; omega, ?_, ?_, HB1.out.trans (HP8.out.below HO1.out (by omega))⟩
        · rw [← HGO.out, ← hDD.out, List.drop_drop]
          simp
        · have h1 := HP8.out.1
          rw [← HCS.out] at h1
          exact ChOwnR.push h1)
      go_roundw
      case rel => exact ⟨i + K, f, acc ++ [(v, i, K)], by go_num, by omega, by rw [List.length_append, List.length_singleton]; omega, HNX⟩
      case measure => simp [RowKit.intOf]; omega
    · obtain rfl : i = n := by omega
      have hnl : ¬ (i : Int) < (i : Int) := by omega
      have hd : l.drop i = [] := List.drop_of_length_le (by rw [← HN.out]; exact Nat.le_refl _)
      have hgo := HR.out.2.1
      rw [hd, charsWGo_stop, List.append_nil] at hgo
      have HGO := Lib.hid hgo
      clear hd hgo hlt
      go_wp2_with fail
      go_ret
      exact ⟨vl, rfl, by rw [← HGO.out]; exact HR.out.2.2.1, HR.out.2.2.2⟩
/-- characters that are read -/
def ReadsCh (w : World) (a : Option Addr) (n : Nat) (L : List (Nat × Nat × Nat)) : Prop :=
  L.length = n ∧ (0 < n → ∃ b, a = some ⟨b, 0, none⟩ ∧ b < w.heap.size ∧ ∀ i p, L[i]? = some p → w.cell? ⟨b, i * 4, none⟩ = some (.int .i64 (p.2.1 : Int)) ∧ w.cell? ⟨b, i * 4 + 1, none⟩ = some (.int .i32 (tokR p.1 : Int)) ∧ w.cell? ⟨b, i * 4 + 2, none⟩ = some (.int .i64 (p.2.2 : Int)) ∧ w.cell? ⟨b, i * 4 + 3, none⟩ = some (.bool (decide (p.1 < wrongN))))
theorem ReadsCh.keep {B : Nat} {w w' : World} {a : Option Addr} {n : Nat} {L : List (Nat × Nat × Nat)} (h : ReadsCh w a n L) (hb : Below B w w') (hB : w.heap.size ≤ B) : ReadsCh w' a n L := by
  obtain ⟨hl, h⟩ := h
  refine ⟨hl, fun hn => ?_⟩
  obtain ⟨b, ha, hlt, hc⟩ := h hn
  have hbk := hb.block b (by omega)
  refine ⟨b, ha, Nat.lt_of_lt_of_le hlt hb.size, fun i p hp => ?_⟩
  obtain ⟨h1, h2, h3, h4⟩ := hc i p hp
  exact ⟨by rw [World.cell?_of_block (a := ⟨b, i * 4, none⟩) hbk]; exact h1, by rw [World.cell?_of_block (a := ⟨b, i * 4 + 1, none⟩) hbk]; exact h2, by rw [World.cell?_of_block (a := ⟨b, i * 4 + 2, none⟩) hbk]; exact h3, by rw [World.cell?_of_block (a := ⟨b, i * 4 + 3, none⟩) hbk]; exact h4⟩
theorem flatR_at {α : Type} (f : α → List Value) (m : Nat) (hf : ∀ x, (f x).length = m) : ∀ (L : List α) (i k : Nat) (p : α), L[i]? = some p → k < m → (L.flatMap f)[i * m + k]? = (f p)[k]?
  | [], i, k, p, h, _ => by simp at h
  | x :: L, 0, k, p, h, hk => by
    simp only [List.getElem?_cons_zero, Option.some.injEq] at h
    subst h
    rw [List.flatMap_cons, Nat.zero_mul, Nat.zero_add, List.getElem?_append_left (by rw [hf]; exact hk)]
  | x :: L, i + 1, k, p, h, hk => by
    rw [List.getElem?_cons_succ] at h
    rw [List.flatMap_cons, List.getElem?_append_right (by rw [hf, Nat.add_mul]; omega), hf, show (i + 1) * m + k - m = i * m + k by rw [Nat.add_mul]; omega]
    exact flatR_at f m hf L i k p h hk
theorem ChOwnR.shape {B : Nat} {v : Value} {L : List (Nat × Nat × Nat)} {w : World} (h : ChOwnR B v L w) : ∃ a c, v = .slice a L.length c ∧ ReadsCh w a L.length L ∧ (∀ ad, a = some ad → B ≤ ad.block ∧ ad.block < w.heap.size) := by
  rcases h.2 with ⟨rfl, h0⟩ | ⟨g, cap, cur, rfl, hB, hg, hc1, hc2, hc3, hc4⟩
  · exact ⟨none, 0, by rw [h0], ⟨rfl, fun h => by omega⟩, fun ad h => by cases h⟩
  · have hgl := (Array.getElem?_eq_some_iff.1 hg).1
    refine ⟨_, _, rfl, ⟨rfl, fun hn => ⟨g, rfl, hgl, fun i p hp => ?_⟩⟩, fun ad h => by cases h; exact ⟨hB, hgl⟩⟩
    have hi : i < L.length := (List.getElem?_eq_some_iff.1 hp).1
    have key : ∀ k, k < 4 → ∀ u, (chCells p)[k]? = some u → w.cell? ⟨g, i * 4 + k, none⟩ = some u := by
      intro k hk u hu
      have h1 := flatR_at chCells 4 (fun _ => rfl) L i k p hp hk
      rw [hu, ← hc4, List.getElem?_take] at h1
      rw [if_pos (by omega)] at h1
      simp only [World.cell?, hg]
      simpa using h1
    exact ⟨key 0 (by decide) _ rfl, key 1 (by decide) _ rfl, key 2 (by decide) _ rfl, key 3 (by decide) _ rfl⟩
end Go.Proofs.YtchdeboialbdiaaDoor
/- The reference's Begins. -/
namespace Go.Proofs.YtchdeboialbdiaaDoor
set_option linter.unusedVariables false
set_option linter.unusedSimpArgs false
open Go.RowKit
open Go.Lib hiding intOf
def placeB (l : List UInt8) (p : Int) : Bool := decide (∃ x ∈ atsL l, (x : Int) = p)
set_option maxHeartbeats 4000000 in
set_option maxRecDepth 100000 in
theorem beginsU (w : World) (l : List UInt8) (p : Int) (hm : l.length ≤ 67108864) :
    Calls Tryd.prog 33 #[.string (bstr l), .int .i64 p] w fun e w' => e = .returned (.bool (placeB l p)) ∧ Below w.heap.size w w' := by
  have hC : Calls Tryd.prog 27 #[.string (bstr l)] w fun e w' => ∃ a c, e = .returned (.slice a (charsW l).length c) ∧ ReadsCh w' a (charsW l).length (charsW l) ∧ Below w.heap.size w w' := (charsR6 w l hm).mono (by
    rintro e w' ⟨v, rfl, ho, hb⟩
    obtain ⟨a, c, rfl, hr, _⟩ := ho.shape
    exact ⟨a, c, rfl, hr, hb⟩)
  have hA := charsW_ats l
  have hlen := charsW_len l
  have hvl := charsGo_len l.length l 0
  have hvl2 : (valsL l).length ≤ l.length := by unfold valsL charsL; rw [List.length_map]; exact hvl
  obtain ⟨L, hL⟩ : ∃ L, charsW l = L := ⟨_, rfl⟩
  rw [hL] at hC hA hlen
  obtain ⟨n, hn⟩ : ∃ n, L.length = n := ⟨_, rfl⟩
  rw [hn] at hC hlen
  have HC := Lib.hid hC
  have HA := Lib.hid hA
  have HN := Lib.hid hn
  have hnb : n ≤ 67108864 := by omega
  clear hC hA hlen hvl hvl2 hL hn
  have hno : ∀ b : Bool, (b = true ↔ ∃ x ∈ atsL l, (x : Int) = p) → b = placeB l p := by
    intro b hb
    unfold placeB
    rw [Bool.eq_iff_iff, hb, decide_eq_true_iff]
  have HNO := Lib.hid hno
  clear hno
  go_enter Tryd.func33, Tryd.ntmps33
  go_wp2_with (go_at_call 27; refine (HC.out).mono ?_; rintro e w1 ⟨a, c, rfl, hr, hb⟩; have HR := Lib.hid hr; have HB := Lib.hid hb; clear hr hb)
  go_loopw [6] (fun ui wr => ∃ i : Nat, ui = .int .i64 (i : Int) ∧ i ≤ n ∧ Hid (∀ k x, k < i → L[k]? = some x → (x.2.1 : Int) ≠ p) ∧ wr = w1) (fun ui _ => n - (RowKit.intOf ui).toNat)
  case atStart => exact ⟨0, rfl, Nat.zero_le _, Lib.hid (fun k x h => by omega), rfl⟩
  case round =>
    obtain ⟨i, rfl, hi, HI, rfl⟩ := hrel
    by_cases hlt : i < n
    · obtain ⟨b, rfl, hbl, hc⟩ := HR.out.2 (by omega)
      have hiL : i < L.length := by rw [HN.out]; exact hlt
      have c0 := (hc i L[i] (List.getElem?_eq_getElem hiL)).1
      have hx : L[i]? = some L[i] := List.getElem?_eq_getElem hiL
      obtain ⟨q, hq⟩ : ∃ q, L[i] = q := ⟨_, rfl⟩
      rw [hq] at hx c0
      obtain ⟨y, hy⟩ : ∃ y, q.2.1 = y := ⟨_, rfl⟩
      rw [hy] at c0
      have HX := Lib.hid hx
      have HY := Lib.hid hy
      have hin : (i : Int) < (n : Int) := by omega
      clear hc hx hy hq hiL
      by_cases he : (y : Int) = p
      · have hbe : ((y : Int) == p) = true := by rw [beq_iff_eq]; exact he
        have ht : true = placeB l p := HNO.out true ⟨fun _ => ⟨y, by rw [← HA.out]; exact List.mem_append_left _ (List.mem_map.2 ⟨q, List.mem_of_getElem? HX.out, HY.out⟩), he⟩, fun _ => rfl⟩
        have HTT := Lib.hid ht
        clear he ht
        go_wp2_with fail
        go_ret
        exact ⟨by rw [← HTT.out]; rfl, HB.out⟩
      · have hbe : ((y : Int) == p) = false := by rw [beq_eq_false_iff_ne]; exact he
        have HE := Lib.hid he
        clear he
        go_wp2_with fail
        go_roundw
        case rel => exact ⟨i + 1, by go_num, by omega, Lib.hid (fun k x hk hx => by
          by_cases hki : k = i
          · rw [hki, HX.out] at hx
            rw [← Option.some.inj hx, HY.out]
            exact HE.out
          · exact HI.out k x (by omega) hx), by first | rfl | trivial⟩
        case measure => simp [RowKit.intOf]; omega
    · obtain rfl : i = n := by omega
      have hnl : ¬ (i : Int) < (i : Int) := by omega
      have hfin : (p == (l.length : Int)) = placeB l p := HNO.out _ (by
        rw [beq_iff_eq, ← HA.out]
        constructor
        · intro h
          exact ⟨l.length, List.mem_append_right _ (List.mem_singleton.2 rfl), h.symm⟩
        · rintro ⟨x, hx, hxp⟩
          rcases List.mem_append.1 hx with hx | hx
          · obtain ⟨q, hq, hqx⟩ := List.mem_map.1 hx
            obtain ⟨k, hk1, hk2⟩ := List.mem_iff_getElem.1 hq
            have := HI.out k q (by have := HN.out; omega) (by rw [List.getElem?_eq_getElem hk1, hk2])
            rw [hqx] at this
            exact absurd hxp this
          · rw [List.mem_singleton] at hx
            rw [← hxp, hx])
      have HF := Lib.hid hfin
      clear hfin hlt
      go_wp2_with fail
      go_ret
      exact ⟨by rw [← HF.out]; rfl, HB.out⟩
end Go.Proofs.YtchdeboialbdiaaDoor
/- Characters one by one: a text's numbers and places, from the front; a quoted text's numbers: plain law. -/
namespace Go.Proofs.YtchdeboialbdiaaDoor
set_option linter.unusedVariables false
set_option linter.unusedSimpArgs false
open Go.Lib hiding intOf
theorem charsGo_fuel : ∀ (f g : Nat) (l : List UInt8) (a : Nat), l.length ≤ f → l.length ≤ g → charsGo f l a = charsGo g l a
  | 0, g, l, a, h, _ => by
    obtain rfl : l = [] := List.eq_nil_of_length_eq_zero (by omega)
    rw [charsGo_stop, charsGo_stop]
  | f + 1, 0, l, a, _, h => by
    obtain rfl : l = [] := List.eq_nil_of_length_eq_zero (by omega)
    rw [charsGo_stop, charsGo_stop]
  | f + 1, g + 1, l, a, h1, h2 => by
    by_cases hl : l = []
    · subst hl; rw [charsGo_stop, charsGo_stop]
    · have hw := chr1_width hl
      rw [charsGo_next hl, charsGo_next hl, charsGo_fuel f g _ _ (by rw [List.length_drop]; omega) (by rw [List.length_drop]; omega)]
theorem charsGo_shift : ∀ (f : Nat) (l : List UInt8) (a b : Nat), charsGo f l (a + b) = (charsGo f l a).map fun p => (p.1, p.2 + b)
  | 0, l, a, b => rfl
  | f + 1, l, a, b => by
    by_cases hl : l = []
    · subst hl; rw [charsGo_stop, charsGo_stop]; rfl
    · rw [charsGo_next hl, charsGo_next hl, List.map_cons, ← charsGo_shift f _ (a + (chr1 l).2) b, show a + b + (chr1 l).2 = a + (chr1 l).2 + b by omega]
theorem charsL_cons {l : List UInt8} (hl : l ≠ []) : charsL l = ((chr1 l).1, 0) :: (charsL (l.drop (chr1 l).2)).map fun p => (p.1, p.2 + (chr1 l).2) := by
  have hw := chr1_width hl
  unfold charsL
  obtain ⟨n, hn⟩ : ∃ n, l.length = n + 1 := ⟨l.length - 1, by omega⟩
  rw [hn, charsGo_next hl, charsGo_fuel n (l.drop (chr1 l).2).length _ _ (by rw [List.length_drop]; omega) (Nat.le_refl _), charsGo_shift _ _ 0]
theorem vals_nil : valsL [] = [] := rfl
theorem ats_nil : atsL [] = [0] := rfl
theorem vals_cons {l : List UInt8} (hl : l ≠ []) : valsL l = (chr1 l).1 :: valsL (l.drop (chr1 l).2) := by
  unfold valsL
  rw [charsL_cons hl, List.map_cons, List.map_map]
  rfl
theorem ats_cons {l : List UInt8} (hl : l ≠ []) : atsL l = 0 :: (atsL (l.drop (chr1 l).2)).map (· + (chr1 l).2) := by
  have hw := chr1_width hl
  unfold atsL
  rw [charsL_cons hl, List.map_cons, List.map_map, List.map_append, List.map_map]
  have : (l.drop (chr1 l).2).length + (chr1 l).2 = l.length := by rw [List.length_drop]; omega
  simp only [List.map_cons, List.map_nil, this]
  rfl
/-- the bytes of a number -/
def chB (v : Nat) : List UInt8 := if v < wrongN then encodeRune (v : Int) else [UInt8.ofNat (v - wrongN)]
theorem chr1_right {l : List UInt8} (h : RightD (decodeL l)) : chr1 l = decodeL l := if_pos h
theorem chr1_wrong {l : List UInt8} (h : ¬ RightD (decodeL l)) : chr1 l = (wrongN + bN l 0, 1) := if_neg h
theorem right_not {l : List UInt8} (h : RightD (decodeL l)) : ¬ ((decodeL l).1 = 65533 ∧ (decodeL l).2 = 1) := by
  unfold RightD at h
  omega
theorem chr_bytes {l : List UInt8} (hl : l ≠ []) : l.take (chr1 l).2 = chB (chr1 l).1 := by
  by_cases h : RightD (decodeL l)
  · rw [chr1_right h]
    have := dec_rune_le (l := l)
    unfold chB
    rw [if_pos (by unfold wrongN; omega), encode_decode l hl (right_not h)]
  · rw [chr1_wrong h]
    unfold chB
    rw [if_neg (by dsimp only; omega), take_one hl, show wrongN + bN l 0 - wrongN = bN l 0 by omega]
    unfold bN
    rw [UInt8.ofNat_toNat]
theorem chr_len {l : List UInt8} (hl : l ≠ []) : (chB (chr1 l).1).length = (chr1 l).2 := by
  rw [← chr_bytes hl, List.length_take]
  have := chr1_width hl
  omega
/-- a text that is cut ahead of a byte of ASCII, or ends: what follows does not tell -/
theorem dec_cut {X a a' : List UInt8} (hX : X ≠ []) (ha : ∀ x r, a = x :: r → x.toNat < 128) (ha' : ∀ x r, a' = x :: r → x.toNat < 128) : decodeL (X ++ a) = decodeL (X ++ a') := by
  have low : ∀ (b : List UInt8), (∀ x r, b = x :: r → x.toNat < 128) → bN b 0 < 128 := by
    intro b hb
    cases b with
    | nil => show (0 : Nat) < 128; decide
    | cons x r => exact hb x r rfl
  have l1 := low a ha
  have l2 := low a' ha'
  have at1 : ∀ (b : List UInt8) i, bN (X ++ b) i = if i < X.length then bN X i else bN b (i - X.length) := by
    intro b i
    unfold bN
    rw [List.getD_eq_getElem?_getD, List.getD_eq_getElem?_getD, List.getD_eq_getElem?_getD]
    by_cases hi : i < X.length
    · rw [if_pos hi, List.getElem?_append_left hi]
    · rw [if_neg hi, List.getElem?_append_right (by omega)]
  have e1 : decodeL (X ++ a) = decodeN (X.length + a.length) (bN (X ++ a) 0) (bN (X ++ a) 1) (bN (X ++ a) 2) (bN (X ++ a) 3) := by rw [← List.length_append]; exact decodeL_N _
  have e2 : decodeL (X ++ a') = decodeN (X.length + a'.length) (bN (X ++ a') 0) (bN (X ++ a') 1) (bN (X ++ a') 2) (bN (X ++ a') 3) := by rw [← List.length_append]; exact decodeL_N _
  rw [e1, e2]
  simp only [at1]
  have h1 : 1 ≤ X.length := List.length_pos_iff.2 hX
  rw [if_pos (show 0 < X.length by omega), if_pos (show 0 < X.length by omega)]
  generalize bN X 0 = b0
  by_cases h2 : X.length = 1
  · rw [h2]
    simp only [show ¬ (1 : Nat) < 1 by omega, show ¬ (2 : Nat) < 1 by omega, show ¬ (3 : Nat) < 1 by omega, if_false, Nat.sub_self]
    generalize bN a 0 = c1 at *
    generalize bN a' 0 = c2 at *
    unfold decodeN
    have q1 : ¬ c1 / 64 = 2 := by omega
    have q2 : ¬ c2 / 64 = 2 := by omega
    simp only [q1, q2, and_false, false_and, if_false]
  · by_cases h3 : X.length = 2
    · rw [h3]
      simp only [show (1 : Nat) < 2 by omega, show ¬ (2 : Nat) < 2 by omega, show ¬ (3 : Nat) < 2 by omega, if_false, if_true, Nat.sub_self]
      generalize bN a 0 = c1 at *
      generalize bN a' 0 = c2 at *
      unfold decodeN
      have q1 : ¬ c1 / 64 = 2 := by omega
      have q2 : ¬ c2 / 64 = 2 := by omega
      simp only [q1, q2, and_false, false_and, if_false, show (1 : Nat) < 2 + a.length by omega, show (1 : Nat) < 2 + a'.length by omega, true_and]
    · by_cases h4 : X.length = 3
      · rw [h4]
        simp only [show (1 : Nat) < 3 by omega, show (2 : Nat) < 3 by omega, show ¬ (3 : Nat) < 3 by omega, if_false, if_true, Nat.sub_self]
        generalize bN a 0 = c1 at *
        generalize bN a' 0 = c2 at *
        unfold decodeN
        have q1 : ¬ c1 / 64 = 2 := by omega
        have q2 : ¬ c2 / 64 = 2 := by omega
        simp only [q1, q2, and_false, false_and, if_false, show (1 : Nat) < 3 + a.length by omega, show (1 : Nat) < 3 + a'.length by omega, show (2 : Nat) < 3 + a.length by omega, show (2 : Nat) < 3 + a'.length by omega, true_and]
      · rw [if_pos (show 1 < X.length by omega), if_pos (show 1 < X.length by omega), if_pos (show 2 < X.length by omega), if_pos (show 2 < X.length by omega), if_pos (show 3 < X.length by omega), if_pos (show 3 < X.length by omega)]
        unfold decodeN
        simp only [show 1 < X.length + a.length by omega, show 1 < X.length + a'.length by omega, show 2 < X.length + a.length by omega, show 2 < X.length + a'.length by omega, show 3 < X.length + a.length by omega, show 3 < X.length + a'.length by omega, true_and]
theorem chr_cut {X a a' : List UInt8} (hX : X ≠ []) (ha : ∀ x r, a = x :: r → x.toNat < 128) (ha' : ∀ x r, a' = x :: r → x.toNat < 128) : chr1 (X ++ a) = chr1 (X ++ a') := by
  unfold chr1
  rw [dec_cut hX ha ha']
  have : bN (X ++ a) 0 = bN (X ++ a') 0 := by
    cases X with
    | nil => exact absurd rfl hX
    | cons x r => rfl
  rw [this]
theorem chr_low {x : UInt8} {r : List UInt8} (h : x.toNat < 128) : chr1 (x :: r) = (x.toNat, 1) := by
  have e : decodeL (x :: r) = (x.toNat, 1) := dec_low (l := x :: r) h
  unfold chr1
  rw [e, if_pos (by unfold RightD; left; show x.toNat ≠ 65533; omega)]
/-- the marks that are quoted -/
def qmN (v : Nat) : Bool := decide (v = 46 ∨ v = 91 ∨ v = 93 ∨ v = 42 ∨ v = 43 ∨ v = 63 ∨ v = 94 ∨ v = 36 ∨ v = 92)
def qV (v : Nat) : List Nat := if qmN v = true then [92, v] else [v]
theorem qm_N : ∀ y : Fin 256, qm (UInt8.ofNat y.val) = qmN y.val := by decide +kernel
theorem qm_eq (x : UInt8) : qm x = qmN x.toNat := by
  have := qm_N ⟨x.toNat, x.toNat_lt⟩
  rw [UInt8.ofNat_toNat] at this
  exact this
theorem quote_app (a b : List UInt8) : quoteL (a ++ b) = quoteL a ++ quoteL b := List.flatMap_append ..
theorem quote_cons (x : UInt8) (r : List UInt8) : quoteL (x :: r) = qOne x ++ quoteL r := rfl
theorem qOne_high {x : UInt8} (h : 128 ≤ x.toNat) : qOne x = [x] := by
  unfold qOne
  rw [qm_eq, if_neg]
  unfold qmN
  rw [decide_eq_true_iff]
  omega
theorem quote_high : ∀ (a : List UInt8), (∀ x ∈ a, 128 ≤ x.toNat) → quoteL a = a
  | [], _ => rfl
  | x :: r, h => by
    rw [quote_cons, qOne_high (h x (List.mem_cons_self ..)), quote_high r (fun y hy => h y (List.mem_cons_of_mem _ hy))]
    rfl
theorem quote_len (l : List UInt8) : (quoteL l).length ≤ 2 * l.length := by
  induction l with
  | nil => exact Nat.le_refl _
  | cons x r ih =>
    rw [quote_cons, List.length_append, List.length_cons]
    have := qOne_len x
    omega
/-- a text's high bytes at the front, and what comes behind -/
theorem split_high : ∀ (l : List UInt8), ∃ X a, l = X ++ a ∧ (∀ x ∈ X, 128 ≤ x.toNat) ∧ ∀ x r, a = x :: r → x.toNat < 128
  | [] => ⟨[], [], rfl, (fun x h => by cases h), fun x r h => by cases h⟩
  | x :: l => by
    by_cases h : x.toNat < 128
    · exact ⟨[], x :: l, rfl, (fun y hy => by cases hy), fun y r e => by cases e; exact h⟩
    · obtain ⟨X, a, h1, h2, h3⟩ := split_high l
      refine ⟨x :: X, a, by rw [h1]; rfl, fun y hy => ?_, h3⟩
      rcases List.mem_cons.1 hy with rfl | hy
      · omega
      · exact h2 y hy
theorem quote_front {a : List UInt8} (h : ∀ x r, a = x :: r → x.toNat < 128) : ∀ x r, quoteL a = x :: r → x.toNat < 128 := by
  intro x r e
  cases a with
  | nil => cases e
  | cons y s =>
    have hy := h y s rfl
    rw [quote_cons] at e
    unfold qOne at e
    split at e
    · cases e
      decide
    · cases e
      exact hy
/-- a quoted text's numbers -/
theorem vals_quote : ∀ (n : Nat) (l : List UInt8), l.length ≤ n → valsL (quoteL l) = (valsL l).flatMap qV
  | 0, l, h => by
    obtain rfl : l = [] := List.eq_nil_of_length_eq_zero (by omega)
    rfl
  | n + 1, l, h => by
    cases l with
    | nil => rfl
    | cons x r =>
      have hl : x :: r ≠ [] := List.cons_ne_nil _ _
      rw [vals_cons hl, List.flatMap_cons]
      by_cases hx : x.toNat < 128
      · rw [chr_low hx]
        have ih := vals_quote n r (by rw [List.length_cons] at h; omega)
        show valsL (quoteL (x :: r)) = qV x.toNat ++ (valsL r).flatMap qV
        rw [quote_cons, ← ih]
        unfold qOne qV
        rw [qm_eq]
        by_cases hq : qmN x.toNat = true
        · rw [if_pos hq, if_pos hq]
          show valsL (92 :: x :: quoteL r) = _
          rw [vals_cons (List.cons_ne_nil _ _), chr_low (x := 92) (by decide)]
          show 92 :: valsL (x :: quoteL r) = _
          rw [vals_cons (List.cons_ne_nil _ _), chr_low hx]
          rfl
        · rw [if_neg hq, if_neg hq]
          show valsL (x :: quoteL r) = _
          rw [vals_cons (List.cons_ne_nil _ _), chr_low hx]
          rfl
      · have hw := chr1_width hl
        obtain ⟨X, a, hXa, hX, ha⟩ := split_high (x :: r)
        have hXn : X ≠ [] := by
          rintro rfl
          exact hx (ha x r hXa.symm)
        have hq : quoteL (x :: r) = X ++ quoteL a := by rw [hXa, quote_app, quote_high X hX]
        have hc : chr1 (quoteL (x :: r)) = chr1 (x :: r) := by
          rw [hq, hXa]
          exact chr_cut hXn (quote_front ha) ha
        obtain ⟨k, hk⟩ : ∃ k, (chr1 (x :: r)).2 = k := ⟨_, rfl⟩
        rw [hk] at hw
        have hin : ∀ y ∈ (x :: r).take k, 128 ≤ y.toNat := by
          intro y hy
          obtain ⟨j, hj1, hj2⟩ := List.mem_iff_getElem.1 hy
          have hjk : j < k := by rw [List.length_take] at hj1; omega
          by_cases hj0 : j = 0
          · subst hj0
            have : y = x := by rw [← hj2]; simp
            rw [this]
            omega
          · have h5 := chr_inner (l := x :: r) (j := j) (by omega) (by omega)
            have h6 : bN (x :: r) j = y.toNat := by
              unfold bN
              rw [← hj2, List.getD_eq_getElem?_getD, List.getElem_take, List.getElem?_eq_getElem (by rw [List.length_take] at hj1; omega)]
              rfl
            rw [h6] at h5
            have := of_decide_eq_true h5
            omega
        have hqk : quoteL (x :: r) = (x :: r).take k ++ quoteL ((x :: r).drop k) := by
          conv => lhs; rw [← List.take_append_drop k (x :: r)]
          rw [quote_app, quote_high _ hin]
        have hqn : quoteL (x :: r) ≠ [] := by
          rw [hq]
          intro e
          exact hXn (List.append_eq_nil_iff.1 e).1
        rw [vals_cons hqn, hc]
        have hnot : qV (chr1 (x :: r)).1 = [(chr1 (x :: r)).1] := by
          unfold qV
          rw [if_neg]
          unfold qmN
          rw [decide_eq_true_iff]
          have h7 : 128 ≤ (chr1 (x :: r)).1 := by
            by_cases hR : RightD (decodeL (x :: r))
            · rw [chr1_right hR]
              apply Decidable.byContradiction
              intro hc2
              have := (dec_fst_byte hl (by omega : (decodeL (x :: r)).1 < 128)).2
              have h8 : ((x :: r).getD 0 0).toNat = x.toNat := rfl
              omega
            · rw [chr1_wrong hR]
              show 128 ≤ wrongN + _
              unfold wrongN
              omega
          omega
        rw [hnot]
        show _ :: valsL ((quoteL (x :: r)).drop (chr1 (x :: r)).2) = _ :: (valsL ((x :: r).drop (chr1 (x :: r)).2)).flatMap qV
        rw [hk, ← vals_quote n ((x :: r).drop k) (by rw [List.length_drop]; rw [List.length_cons] at h ⊢; omega), hqk]
        have hlk : ((x :: r).take k).length = k := by rw [List.length_take]; omega
        congr 2
        conv => lhs; arg 1; rw [← hlk]
        exact List.drop_left
end Go.Proofs.YtchdeboialbdiaaDoor
