/- Texts joined, one behind the other (SWrit). -/
import Derived.Test.YtchdeboialbdiaaDoorSk28
import Derived.Stop.FmtQuoteTie
import Derived.Laws.Runes
import Derived.Deep.RegionHeld3
/- SeekMeans: a pattern of parts is written. -/
namespace Go.Proofs.YtchdeboialbdiaaDoor
set_option linter.unusedVariables false
set_option linter.unusedSimpArgs false
open Go.RowKit
open Go.Lib hiding intOf
theorem enc_nums (L : List UInt8) : (Go.Extern.FmtText.nums L).map (fun x => x.toNat.toUInt8) = L := by
  unfold Go.Extern.FmtText.nums
  rw [List.map_map]
  exact (List.map_congr_left fun x _ => by simp).trans (List.map_id _)
theorem back_bstr (s : ByteArray) : s = bstr s.data.toList := by simp [bstr]
theorem enc_bstr (r : Nat) : Utf8.encode (r : Int) = bstr (encodeRune (r : Int)) := by
  have h := Go.Extern.FmtText.encode_eq r
  generalize Utf8.encode (r : Int) = s at h ⊢
  have e : encodeRune (r : Int) = s.data.toList := by
    unfold encodeRune
    rw [← h]
    exact enc_nums _
  rw [e]
  exact back_bstr s
theorem may_true {r : Int} (h : mayI r = true) : MayN r.toNat ∧ (r.toNat : Int) = r := by
  unfold mayI at h
  simp only [Bool.and_eq_true, Bool.or_eq_true, Bool.not_eq_true', decide_eq_true_eq, decide_eq_false_iff_not] at h
  unfold MayN
  omega
/-- parts as they come in: any numbers -/
abbrev RawB := Int × Bool × Int
def rawCells (x : RawB) : List Value := [.int .i32 x.1, .bool x.2.1, .int .i64 x.2.2]
def ReadsRaw (w : World) (a : Option Addr) (n : Nat) (L : List RawB) : Prop :=
  L.length = n ∧ (0 < n → ∃ b o, a = some ⟨b, o, none⟩ ∧ b < w.heap.size ∧ ∀ i p, L[i]? = some p → w.cell? ⟨b, o + i * 3, none⟩ = some (.int .i32 p.1) ∧ w.cell? ⟨b, o + i * 3 + 1, none⟩ = some (.bool p.2.1) ∧ w.cell? ⟨b, o + i * 3 + 2, none⟩ = some (.int .i64 p.2.2))
theorem ReadsRaw.keep {B : Nat} {w w' : World} {a : Option Addr} {n : Nat} {L : List RawB} (h : ReadsRaw w a n L) (hb : Below B w w') (hB : w.heap.size ≤ B) : ReadsRaw w' a n L := by
  obtain ⟨hl, h⟩ := h
  refine ⟨hl, fun hn => ?_⟩
  obtain ⟨b, o, ha, hlt, hc⟩ := h hn
  have hbk := hb.block b (by omega)
  refine ⟨b, o, ha, Nat.lt_of_lt_of_le hlt hb.size, fun i p hp => ?_⟩
  obtain ⟨h1, h2, h3⟩ := hc i p hp
  exact ⟨by rw [World.cell?_of_block (a := ⟨b, o + i * 3, none⟩) hbk]; exact h1, by rw [World.cell?_of_block (a := ⟨b, o + i * 3 + 1, none⟩) hbk]; exact h2, by rw [World.cell?_of_block (a := ⟨b, o + i * 3 + 2, none⟩) hbk]; exact h3⟩
def OkBit (b : BitN) : Prop := MayN b.r ∧ b.how < 4
def WritR (w : World) (e : Ending) (w' : World) : Prop :=
  ∃ (acc : List BitN) (v : Value), e = .returned (.tuple #[.string (bstr (writL acc)), v]) ∧ acc.length ≤ 20 ∧ (∀ b ∈ acc, OkBit b) ∧ BitOwn w.heap.size v acc w' ∧ Below w.heap.size w w'
theorem bits_snoc {acc : List BitN} {b : BitN} (h : ∀ x ∈ acc, OkBit x) (hb : OkBit b) : ∀ x ∈ acc ++ [b], OkBit x := by
  intro x hx
  rcases List.mem_append.1 hx with h1 | h1
  · exact h x h1
  · rw [List.mem_singleton.1 h1]; exact hb
theorem writ_len20 {O : List UInt8} {acc : List BitN} {i : Nat} (h : O = writL acc) (hb : ∀ x ∈ acc, OkBit x) (hl : acc.length = i) (hi : i ≤ 20) : O.length ≤ 100 := by
  rw [h]
  have := writL_len acc (fun b hx => (hb b hx).1)
  omega
theorem str_two (O Z S : List UInt8) {z s : ByteArray} (hz : z = bstr Z) (hs : s = bstr S) : bstr O ++ z ++ s = bstr (O ++ Z ++ S) := by
  subst hz hs
  rw [bstr_append, bstr_append]
theorem str_one (O S : List UInt8) {s : ByteArray} (hs : s = bstr S) : bstr O ++ s = bstr (O ++ S) := by
  subst hs
  rw [bstr_append]
set_option maxHeartbeats 8000000 in
set_option maxRecDepth 100000 in
theorem writtenC (w : World) (a : Option Addr) (n c : Nat) (X : List RawB) (hX : ReadsRaw w a n X) (hn : n ≤ 9223372036854775807) : Calls Tryd.prog 26 #[.slice a n c] w (WritR w) := by
  have HX := Lib.hid hX
  clear hX
  go_enter Tryd.func26, Tryd.ntmps26
  go_wp2_with fail
  go_loopw [4, 5, 6] (fun uo ub ui wr => ∃ (i : Nat) (O : List UInt8) (acc : List BitN), uo = .string (bstr O) ∧ ui = .int .i64 (i : Int) ∧ i ≤ n ∧ i ≤ 20 ∧ O.length ≤ 100 ∧ Hid (O = writL acc ∧ acc.length = i ∧ (∀ b ∈ acc, OkBit b) ∧ BitOwn w.heap.size ub acc wr ∧ Below w.heap.size w wr)) (fun uo ub ui _ => n - (RowKit.intOf ui).toNat)
  case atStart => exact ⟨0, [], [], by first | rfl | simp, rfl, Nat.zero_le _, Nat.zero_le _, Nat.zero_le _, Lib.hid ⟨rfl, rfl, fun b h => by simp at h, World.ownsRow_nil _ _ _ _, Below.refl _ _⟩⟩
  case round =>
    obtain ⟨i, O, acc, rfl, rfl, hin, hi20, hO, HR⟩ := hrel
    obtain ⟨vl, rfl⟩ : ∃ v : Value, v = u5 := ⟨_, rfl⟩
    by_cases hlt : i < n ∧ i < 20
    -- the round
    · obtain ⟨hlt, hlt2⟩ := hlt
      have hit : (i : Int) < (n : Int) := by omega
      have hit2 : (i : Int) < 20 := by omega
      obtain ⟨⟨zr, ba, zh⟩, hx⟩ : ∃ x, X[i]? = some x := ⟨_, List.getElem?_eq_getElem (by rw [HX.out.1]; omega)⟩
      obtain ⟨bb, bo, rfl, bl, hc⟩ := (HX.out.keep HR.out.2.2.2.2 (Nat.le_refl _)).2 (by omega)
      obtain ⟨c0, c1, c2⟩ := hc i _ hx
      dsimp only at c0 c1 c2
      clear hx hc
      go_upto_region 8 with (first
        | (go_at_call 23; refine (withinC _ zh 4 (by decide) (by decide)).mono ?_; rintro e w1 ⟨⟨k, rfl, hk4⟩, hww⟩; obtain rfl := hww.symm))
      have hk4' : k < 4 := by omega
      obtain ⟨mb, hmb⟩ : ∃ b, mayI zr = b := ⟨_, rfl⟩
      have HMY : Hid (∀ W, Calls Tryd.prog 48 #[.int .i32 zr] W fun e w' => e = .returned (.bool mb) ∧ w' = W) := Lib.hid (fun W => hmb ▸ mayR6 W zr)
      have HB0 := Lib.hid HR.out.2.2.2.2
      have hs0 := HB0.out.size
      have HAL := Lib.hid HR.out.2.1
      have HVL : Hid (BitOwn w.heap.size vl acc wr) := Lib.hid HR.out.2.2.2.1
      clear hk4 hww
      obtain ⟨R, hR, hRm⟩ : ∃ R : Nat, (R : Int) = (if mb = true then zr else 120) ∧ MayN R := by
        cases mb with
        | true => exact ⟨zr.toNat, (may_true hmb).2, (may_true hmb).1⟩
        | false => exact ⟨120, rfl, by unfold MayN; omega⟩
      have HRM := Lib.hid hRm
      clear hmb hRm
      have HCV : Hid (∀ W, (convert 21 9 (.int .i32 (R : Int))).run Tryd.prog W = .ok (.string (bstr (encodeRune (R : Int)))) W) := Lib.hid (fun W => by rw [run_convert_int_string W _ _ _ _ (by kernel_rfl) Tryd.underlying9, enc_bstr])
      have HQU : Hid (∀ W, Calls Tryd.prog 24 #[.string (bstr (encodeRune (R : Int)))] W fun e w' => e = .returned (.string (bstr (quoteL (encodeRune (R : Int))))) ∧ Below W.heap.size W w') := Lib.hid (fun W => quoteC W _ (by have := enc_le4 R; omega))
      cases mb with
      | true =>
        obtain rfl : zr = (R : Int) := (by simpa using hR.symm)
        clear hR
        go_upto_region 10 with (go_at_call 48; refine (HMY.out _).mono ?_; rintro e w1 ⟨rfl, hww⟩; obtain rfl := hww.symm; clear hww)
        obtain ⟨W1, hW1⟩ : ∃ W, W = wr.alloc (.cells #[.int .i32 (R : Int), .bool ba, .int .i64 (k : Int)] 113) := ⟨_, rfl⟩
        rw [← hW1]
        have hrw : Row W1 wr.heap.size 113 [.int .i32 (R : Int), .bool ba, .int .i64 (k : Int)] := by rw [hW1]; exact row_new wr [.int .i32 (R : Int), .bool ba, .int .i64 (k : Int)] _
        have HRW := Lib.hid hrw
        have HB1 : Hid (Below w.heap.size w W1) := Lib.hid (by rw [hW1]; exact HB0.out.alloc hs0 _)
        have HO1 : Hid (BitOwn w.heap.size vl acc W1) := Lib.hid (by rw [hW1]; exact own_below HVL.out ((Below.refl _ wr).alloc (Nat.le_refl _) _))
        have r0 := hrw.cell 0
        have r1 := hrw.cell 1
        have r2 := hrw.cell 2
        have r3 := hrw.lt
        clear hrw hW1
        cases ba with
        | true =>
          rcases (show k = 0 ∨ k = 1 ∨ k = 2 ∨ k = 3 by omega) with rfl | rfl | rfl | rfl
          · have HBL : Hid (bitL (⟨R, true, 0⟩ : BitN) = [46] ++ []) := Lib.hid rfl
            go_upto_region 14 with (first
              | fail)
            obtain ⟨W2, hW2⟩ : ∃ W, W = W1.alloc (.cells #[.string { data := #[] }, .string { data := #[63] }, .string { data := #[42] }, .string { data := #[43] }] 9) := ⟨_, rfl⟩
            rw [← hW2]
            have hal : Below W1.heap.size W1 W2 := by rw [hW2]; exact (Below.refl _ W1).alloc (Nat.le_refl _) _
            have hr2 := HRW.out.keep hal HRW.out.lt
            have y0 := hr2.cell 0
            have y1 := hr2.cell 1
            have y2 := hr2.cell 2
            have y3 := hr2.lt
            have HO2 : Hid (BitOwn w.heap.size vl acc W2) := Lib.hid (own_below HO1.out hal)
            have HB2 : Hid (Below w.heap.size w W2) := Lib.hid (HB1.out.trans (hal.mono HB1.out.size))
            clear hr2 hal hW2
            go_wp2_with (at_builtin; (with_reducible show wpList _ _ _ (Oper.mk (some 51) _ _ _ _ _ :: _) _ _); refine appSep rfl _ _ rfl Tryd.underlying54 (.agg #[.int .i32 0, .bool false, .int .i64 0]) 3 16 infoBit rfl (by decide) (by decide) w.heap.size W2 vl acc.length (acc.flatMap bitCells) [.int .i32 (R : Int), .bool true, .int .i64 0] rfl (by intro u hu; simp only [List.mem_cons, List.not_mem_nil, or_false] at hu; rcases hu with rfl | rfl | rfl <;> rfl) rfl HO2.out rfl rfl (by have := HAL.out; omega) (by exact HB2.out.size) ?_; intro v8 w8 hp8; have HP8 := Lib.hid hp8; clear hp8)
            have HNX : Hid ((O ++ [46]) ++ [] = writL (acc ++ [(⟨R, true, 0⟩ : BitN)]) ∧ (acc ++ [(⟨R, true, 0⟩ : BitN)]).length = i + 1 ∧ (∀ b ∈ acc ++ [(⟨R, true, 0⟩ : BitN)], OkBit b) ∧ BitOwn w.heap.size v8 (acc ++ [(⟨R, true, 0⟩ : BitN)]) w8 ∧ Below w.heap.size w w8) := Lib.hid ⟨by unfold writL; rw [List.flatMap_append, HR.out.1, List.append_assoc, ← HBL.out]; simp [writL], by rw [List.length_append, HAL.out]; rfl, bits_snoc HR.out.2.2.1 ⟨HRM.out, show (0 : Nat) < 4 by decide⟩, BitOwn.push HP8.out.1, HB2.out.trans (HP8.out.below HO2.out (by exact HB2.out.size))⟩
            have hln := writ_len20 HNX.out.1 HNX.out.2.2.1 HNX.out.2.1 (by omega)
            go_roundw
            case rel => exact ⟨i + 1, (O ++ [46]) ++ [], acc ++ [(⟨R, true, 0⟩ : BitN)], congrArg Value.string (str_two O [46] [] rfl rfl), by go_num, by omega, by omega, hln, HNX⟩
            case measure => simp [RowKit.intOf]; omega
          · have HBL : Hid (bitL (⟨R, true, 1⟩ : BitN) = [46] ++ [63]) := Lib.hid rfl
            go_upto_region 14 with (first
              | fail)
            obtain ⟨W2, hW2⟩ : ∃ W, W = W1.alloc (.cells #[.string { data := #[] }, .string { data := #[63] }, .string { data := #[42] }, .string { data := #[43] }] 9) := ⟨_, rfl⟩
            rw [← hW2]
            have hal : Below W1.heap.size W1 W2 := by rw [hW2]; exact (Below.refl _ W1).alloc (Nat.le_refl _) _
            have hr2 := HRW.out.keep hal HRW.out.lt
            have y0 := hr2.cell 0
            have y1 := hr2.cell 1
            have y2 := hr2.cell 2
            have y3 := hr2.lt
            have HO2 : Hid (BitOwn w.heap.size vl acc W2) := Lib.hid (own_below HO1.out hal)
            have HB2 : Hid (Below w.heap.size w W2) := Lib.hid (HB1.out.trans (hal.mono HB1.out.size))
            clear hr2 hal hW2
            go_wp2_with (at_builtin; (with_reducible show wpList _ _ _ (Oper.mk (some 51) _ _ _ _ _ :: _) _ _); refine appSep rfl _ _ rfl Tryd.underlying54 (.agg #[.int .i32 0, .bool false, .int .i64 0]) 3 16 infoBit rfl (by decide) (by decide) w.heap.size W2 vl acc.length (acc.flatMap bitCells) [.int .i32 (R : Int), .bool true, .int .i64 1] rfl (by intro u hu; simp only [List.mem_cons, List.not_mem_nil, or_false] at hu; rcases hu with rfl | rfl | rfl <;> rfl) rfl HO2.out rfl rfl (by have := HAL.out; omega) (by exact HB2.out.size) ?_; intro v8 w8 hp8; have HP8 := Lib.hid hp8; clear hp8)
            have HNX : Hid ((O ++ [46]) ++ [63] = writL (acc ++ [(⟨R, true, 1⟩ : BitN)]) ∧ (acc ++ [(⟨R, true, 1⟩ : BitN)]).length = i + 1 ∧ (∀ b ∈ acc ++ [(⟨R, true, 1⟩ : BitN)], OkBit b) ∧ BitOwn w.heap.size v8 (acc ++ [(⟨R, true, 1⟩ : BitN)]) w8 ∧ Below w.heap.size w w8) := Lib.hid ⟨by unfold writL; rw [List.flatMap_append, HR.out.1, List.append_assoc, ← HBL.out]; simp [writL], by rw [List.length_append, HAL.out]; rfl, bits_snoc HR.out.2.2.1 ⟨HRM.out, show (1 : Nat) < 4 by decide⟩, BitOwn.push HP8.out.1, HB2.out.trans (HP8.out.below HO2.out (by exact HB2.out.size))⟩
            have hln := writ_len20 HNX.out.1 HNX.out.2.2.1 HNX.out.2.1 (by omega)
            go_roundw
            case rel => exact ⟨i + 1, (O ++ [46]) ++ [63], acc ++ [(⟨R, true, 1⟩ : BitN)], congrArg Value.string (str_two O [46] [63] rfl rfl), by go_num, by omega, by omega, hln, HNX⟩
            case measure => simp [RowKit.intOf]; omega
          · have HBL : Hid (bitL (⟨R, true, 2⟩ : BitN) = [46] ++ [42]) := Lib.hid rfl
            go_upto_region 14 with (first
              | fail)
            obtain ⟨W2, hW2⟩ : ∃ W, W = W1.alloc (.cells #[.string { data := #[] }, .string { data := #[63] }, .string { data := #[42] }, .string { data := #[43] }] 9) := ⟨_, rfl⟩
            rw [← hW2]
            have hal : Below W1.heap.size W1 W2 := by rw [hW2]; exact (Below.refl _ W1).alloc (Nat.le_refl _) _
            have hr2 := HRW.out.keep hal HRW.out.lt
            have y0 := hr2.cell 0
            have y1 := hr2.cell 1
            have y2 := hr2.cell 2
            have y3 := hr2.lt
            have HO2 : Hid (BitOwn w.heap.size vl acc W2) := Lib.hid (own_below HO1.out hal)
            have HB2 : Hid (Below w.heap.size w W2) := Lib.hid (HB1.out.trans (hal.mono HB1.out.size))
            clear hr2 hal hW2
            go_wp2_with (at_builtin; (with_reducible show wpList _ _ _ (Oper.mk (some 51) _ _ _ _ _ :: _) _ _); refine appSep rfl _ _ rfl Tryd.underlying54 (.agg #[.int .i32 0, .bool false, .int .i64 0]) 3 16 infoBit rfl (by decide) (by decide) w.heap.size W2 vl acc.length (acc.flatMap bitCells) [.int .i32 (R : Int), .bool true, .int .i64 2] rfl (by intro u hu; simp only [List.mem_cons, List.not_mem_nil, or_false] at hu; rcases hu with rfl | rfl | rfl <;> rfl) rfl HO2.out rfl rfl (by have := HAL.out; omega) (by exact HB2.out.size) ?_; intro v8 w8 hp8; have HP8 := Lib.hid hp8; clear hp8)
            have HNX : Hid ((O ++ [46]) ++ [42] = writL (acc ++ [(⟨R, true, 2⟩ : BitN)]) ∧ (acc ++ [(⟨R, true, 2⟩ : BitN)]).length = i + 1 ∧ (∀ b ∈ acc ++ [(⟨R, true, 2⟩ : BitN)], OkBit b) ∧ BitOwn w.heap.size v8 (acc ++ [(⟨R, true, 2⟩ : BitN)]) w8 ∧ Below w.heap.size w w8) := Lib.hid ⟨by unfold writL; rw [List.flatMap_append, HR.out.1, List.append_assoc, ← HBL.out]; simp [writL], by rw [List.length_append, HAL.out]; rfl, bits_snoc HR.out.2.2.1 ⟨HRM.out, show (2 : Nat) < 4 by decide⟩, BitOwn.push HP8.out.1, HB2.out.trans (HP8.out.below HO2.out (by exact HB2.out.size))⟩
            have hln := writ_len20 HNX.out.1 HNX.out.2.2.1 HNX.out.2.1 (by omega)
            go_roundw
            case rel => exact ⟨i + 1, (O ++ [46]) ++ [42], acc ++ [(⟨R, true, 2⟩ : BitN)], congrArg Value.string (str_two O [46] [42] rfl rfl), by go_num, by omega, by omega, hln, HNX⟩
            case measure => simp [RowKit.intOf]; omega
          · have HBL : Hid (bitL (⟨R, true, 3⟩ : BitN) = [46] ++ [43]) := Lib.hid rfl
            go_upto_region 14 with (first
              | fail)
            obtain ⟨W2, hW2⟩ : ∃ W, W = W1.alloc (.cells #[.string { data := #[] }, .string { data := #[63] }, .string { data := #[42] }, .string { data := #[43] }] 9) := ⟨_, rfl⟩
            rw [← hW2]
            have hal : Below W1.heap.size W1 W2 := by rw [hW2]; exact (Below.refl _ W1).alloc (Nat.le_refl _) _
            have hr2 := HRW.out.keep hal HRW.out.lt
            have y0 := hr2.cell 0
            have y1 := hr2.cell 1
            have y2 := hr2.cell 2
            have y3 := hr2.lt
            have HO2 : Hid (BitOwn w.heap.size vl acc W2) := Lib.hid (own_below HO1.out hal)
            have HB2 : Hid (Below w.heap.size w W2) := Lib.hid (HB1.out.trans (hal.mono HB1.out.size))
            clear hr2 hal hW2
            go_wp2_with (at_builtin; (with_reducible show wpList _ _ _ (Oper.mk (some 51) _ _ _ _ _ :: _) _ _); refine appSep rfl _ _ rfl Tryd.underlying54 (.agg #[.int .i32 0, .bool false, .int .i64 0]) 3 16 infoBit rfl (by decide) (by decide) w.heap.size W2 vl acc.length (acc.flatMap bitCells) [.int .i32 (R : Int), .bool true, .int .i64 3] rfl (by intro u hu; simp only [List.mem_cons, List.not_mem_nil, or_false] at hu; rcases hu with rfl | rfl | rfl <;> rfl) rfl HO2.out rfl rfl (by have := HAL.out; omega) (by exact HB2.out.size) ?_; intro v8 w8 hp8; have HP8 := Lib.hid hp8; clear hp8)
            have HNX : Hid ((O ++ [46]) ++ [43] = writL (acc ++ [(⟨R, true, 3⟩ : BitN)]) ∧ (acc ++ [(⟨R, true, 3⟩ : BitN)]).length = i + 1 ∧ (∀ b ∈ acc ++ [(⟨R, true, 3⟩ : BitN)], OkBit b) ∧ BitOwn w.heap.size v8 (acc ++ [(⟨R, true, 3⟩ : BitN)]) w8 ∧ Below w.heap.size w w8) := Lib.hid ⟨by unfold writL; rw [List.flatMap_append, HR.out.1, List.append_assoc, ← HBL.out]; simp [writL], by rw [List.length_append, HAL.out]; rfl, bits_snoc HR.out.2.2.1 ⟨HRM.out, show (3 : Nat) < 4 by decide⟩, BitOwn.push HP8.out.1, HB2.out.trans (HP8.out.below HO2.out (by exact HB2.out.size))⟩
            have hln := writ_len20 HNX.out.1 HNX.out.2.2.1 HNX.out.2.1 (by omega)
            go_roundw
            case rel => exact ⟨i + 1, (O ++ [46]) ++ [43], acc ++ [(⟨R, true, 3⟩ : BitN)], congrArg Value.string (str_two O [46] [43] rfl rfl), by go_num, by omega, by omega, hln, HNX⟩
            case measure => simp [RowKit.intOf]; omega
        | false =>
          rcases (show k = 0 ∨ k = 1 ∨ k = 2 ∨ k = 3 by omega) with rfl | rfl | rfl | rfl
          · have HBL : Hid (bitL (⟨R, false, 0⟩ : BitN) = quoteL (encodeRune ((R : Nat) : Int)) ++ []) := Lib.hid rfl
            obtain ⟨Z, hZ⟩ : ∃ Z, quoteL (encodeRune ((R : Nat) : Int)) = Z := ⟨_, rfl⟩
            have hZl : Z.length ≤ 8 := by have h1 := quote_len (encodeRune ((R : Nat) : Int)); have h2 := enc_le4 R; rw [hZ] at h1; omega
            rw [hZ] at HQU HBL
            clear hZ
            have hcv := HCV.out
            go_upto_region 14 with (first
              | (go_at_call 24; refine (HQU.out _).mono ?_; rintro e wq ⟨rfl, hbq⟩; have HRQ := Lib.hid (HRW.out.keep hbq HRW.out.lt); have q0 := HRQ.out.cell 0; have q1 := HRQ.out.cell 1; have q2 := HRQ.out.cell 2; have q3 := HRQ.out.lt; have HO1 := Lib.hid (own_below HO1.out hbq); have HB1 := Lib.hid (HB1.out.trans (hbq.mono HB1.out.size)); clear hbq)
              | fail)
            obtain ⟨W2, hW2⟩ : ∃ W, W = wq.alloc (.cells #[.string { data := #[] }, .string { data := #[63] }, .string { data := #[42] }, .string { data := #[43] }] 9) := ⟨_, rfl⟩
            rw [← hW2]
            have hal : Below wq.heap.size wq W2 := by rw [hW2]; exact (Below.refl _ wq).alloc (Nat.le_refl _) _
            have hr2 := HRQ.out.keep hal HRQ.out.lt
            have y0 := hr2.cell 0
            have y1 := hr2.cell 1
            have y2 := hr2.cell 2
            have y3 := hr2.lt
            have HO2 : Hid (BitOwn w.heap.size vl acc W2) := Lib.hid (own_below HO1.out hal)
            have HB2 : Hid (Below w.heap.size w W2) := Lib.hid (HB1.out.trans (hal.mono HB1.out.size))
            clear hr2 hal hW2
            go_wp2_with (at_builtin; (with_reducible show wpList _ _ _ (Oper.mk (some 51) _ _ _ _ _ :: _) _ _); refine appSep rfl _ _ rfl Tryd.underlying54 (.agg #[.int .i32 0, .bool false, .int .i64 0]) 3 16 infoBit rfl (by decide) (by decide) w.heap.size W2 vl acc.length (acc.flatMap bitCells) [.int .i32 (R : Int), .bool false, .int .i64 0] rfl (by intro u hu; simp only [List.mem_cons, List.not_mem_nil, or_false] at hu; rcases hu with rfl | rfl | rfl <;> rfl) rfl HO2.out rfl rfl (by have := HAL.out; omega) (by exact HB2.out.size) ?_; intro v8 w8 hp8; have HP8 := Lib.hid hp8; clear hp8)
            have HNX : Hid ((O ++ Z) ++ [] = writL (acc ++ [(⟨R, false, 0⟩ : BitN)]) ∧ (acc ++ [(⟨R, false, 0⟩ : BitN)]).length = i + 1 ∧ (∀ b ∈ acc ++ [(⟨R, false, 0⟩ : BitN)], OkBit b) ∧ BitOwn w.heap.size v8 (acc ++ [(⟨R, false, 0⟩ : BitN)]) w8 ∧ Below w.heap.size w w8) := Lib.hid ⟨by unfold writL; rw [List.flatMap_append, HR.out.1, List.append_assoc, ← HBL.out]; simp [writL], by rw [List.length_append, HAL.out]; rfl, bits_snoc HR.out.2.2.1 ⟨HRM.out, show (0 : Nat) < 4 by decide⟩, BitOwn.push HP8.out.1, HB2.out.trans (HP8.out.below HO2.out (by exact HB2.out.size))⟩
            have hln := writ_len20 HNX.out.1 HNX.out.2.2.1 HNX.out.2.1 (by omega)
            go_roundw
            case rel => exact ⟨i + 1, (O ++ Z) ++ [], acc ++ [(⟨R, false, 0⟩ : BitN)], congrArg Value.string (str_one (O ++ Z) [] rfl), by go_num, by omega, by omega, hln, HNX⟩
            case measure => simp [RowKit.intOf]; omega
          · have HBL : Hid (bitL (⟨R, false, 1⟩ : BitN) = quoteL (encodeRune ((R : Nat) : Int)) ++ [63]) := Lib.hid rfl
            obtain ⟨Z, hZ⟩ : ∃ Z, quoteL (encodeRune ((R : Nat) : Int)) = Z := ⟨_, rfl⟩
            have hZl : Z.length ≤ 8 := by have h1 := quote_len (encodeRune ((R : Nat) : Int)); have h2 := enc_le4 R; rw [hZ] at h1; omega
            rw [hZ] at HQU HBL
            clear hZ
            have hcv := HCV.out
            go_upto_region 14 with (first
              | (go_at_call 24; refine (HQU.out _).mono ?_; rintro e wq ⟨rfl, hbq⟩; have HRQ := Lib.hid (HRW.out.keep hbq HRW.out.lt); have q0 := HRQ.out.cell 0; have q1 := HRQ.out.cell 1; have q2 := HRQ.out.cell 2; have q3 := HRQ.out.lt; have HO1 := Lib.hid (own_below HO1.out hbq); have HB1 := Lib.hid (HB1.out.trans (hbq.mono HB1.out.size)); clear hbq)
              | fail)
            obtain ⟨W2, hW2⟩ : ∃ W, W = wq.alloc (.cells #[.string { data := #[] }, .string { data := #[63] }, .string { data := #[42] }, .string { data := #[43] }] 9) := ⟨_, rfl⟩
            rw [← hW2]
            have hal : Below wq.heap.size wq W2 := by rw [hW2]; exact (Below.refl _ wq).alloc (Nat.le_refl _) _
            have hr2 := HRQ.out.keep hal HRQ.out.lt
            have y0 := hr2.cell 0
            have y1 := hr2.cell 1
            have y2 := hr2.cell 2
            have y3 := hr2.lt
            have HO2 : Hid (BitOwn w.heap.size vl acc W2) := Lib.hid (own_below HO1.out hal)
            have HB2 : Hid (Below w.heap.size w W2) := Lib.hid (HB1.out.trans (hal.mono HB1.out.size))
            clear hr2 hal hW2
            go_wp2_with (at_builtin; (with_reducible show wpList _ _ _ (Oper.mk (some 51) _ _ _ _ _ :: _) _ _); refine appSep rfl _ _ rfl Tryd.underlying54 (.agg #[.int .i32 0, .bool false, .int .i64 0]) 3 16 infoBit rfl (by decide) (by decide) w.heap.size W2 vl acc.length (acc.flatMap bitCells) [.int .i32 (R : Int), .bool false, .int .i64 1] rfl (by intro u hu; simp only [List.mem_cons, List.not_mem_nil, or_false] at hu; rcases hu with rfl | rfl | rfl <;> rfl) rfl HO2.out rfl rfl (by have := HAL.out; omega) (by exact HB2.out.size) ?_; intro v8 w8 hp8; have HP8 := Lib.hid hp8; clear hp8)
            have HNX : Hid ((O ++ Z) ++ [63] = writL (acc ++ [(⟨R, false, 1⟩ : BitN)]) ∧ (acc ++ [(⟨R, false, 1⟩ : BitN)]).length = i + 1 ∧ (∀ b ∈ acc ++ [(⟨R, false, 1⟩ : BitN)], OkBit b) ∧ BitOwn w.heap.size v8 (acc ++ [(⟨R, false, 1⟩ : BitN)]) w8 ∧ Below w.heap.size w w8) := Lib.hid ⟨by unfold writL; rw [List.flatMap_append, HR.out.1, List.append_assoc, ← HBL.out]; simp [writL], by rw [List.length_append, HAL.out]; rfl, bits_snoc HR.out.2.2.1 ⟨HRM.out, show (1 : Nat) < 4 by decide⟩, BitOwn.push HP8.out.1, HB2.out.trans (HP8.out.below HO2.out (by exact HB2.out.size))⟩
            have hln := writ_len20 HNX.out.1 HNX.out.2.2.1 HNX.out.2.1 (by omega)
            go_roundw
            case rel => exact ⟨i + 1, (O ++ Z) ++ [63], acc ++ [(⟨R, false, 1⟩ : BitN)], congrArg Value.string (str_one (O ++ Z) [63] rfl), by go_num, by omega, by omega, hln, HNX⟩
            case measure => simp [RowKit.intOf]; omega
          · have HBL : Hid (bitL (⟨R, false, 2⟩ : BitN) = quoteL (encodeRune ((R : Nat) : Int)) ++ [42]) := Lib.hid rfl
            obtain ⟨Z, hZ⟩ : ∃ Z, quoteL (encodeRune ((R : Nat) : Int)) = Z := ⟨_, rfl⟩
            have hZl : Z.length ≤ 8 := by have h1 := quote_len (encodeRune ((R : Nat) : Int)); have h2 := enc_le4 R; rw [hZ] at h1; omega
            rw [hZ] at HQU HBL
            clear hZ
            have hcv := HCV.out
            go_upto_region 14 with (first
              | (go_at_call 24; refine (HQU.out _).mono ?_; rintro e wq ⟨rfl, hbq⟩; have HRQ := Lib.hid (HRW.out.keep hbq HRW.out.lt); have q0 := HRQ.out.cell 0; have q1 := HRQ.out.cell 1; have q2 := HRQ.out.cell 2; have q3 := HRQ.out.lt; have HO1 := Lib.hid (own_below HO1.out hbq); have HB1 := Lib.hid (HB1.out.trans (hbq.mono HB1.out.size)); clear hbq)
              | fail)
            obtain ⟨W2, hW2⟩ : ∃ W, W = wq.alloc (.cells #[.string { data := #[] }, .string { data := #[63] }, .string { data := #[42] }, .string { data := #[43] }] 9) := ⟨_, rfl⟩
            rw [← hW2]
            have hal : Below wq.heap.size wq W2 := by rw [hW2]; exact (Below.refl _ wq).alloc (Nat.le_refl _) _
            have hr2 := HRQ.out.keep hal HRQ.out.lt
            have y0 := hr2.cell 0
            have y1 := hr2.cell 1
            have y2 := hr2.cell 2
            have y3 := hr2.lt
            have HO2 : Hid (BitOwn w.heap.size vl acc W2) := Lib.hid (own_below HO1.out hal)
            have HB2 : Hid (Below w.heap.size w W2) := Lib.hid (HB1.out.trans (hal.mono HB1.out.size))
            clear hr2 hal hW2
            go_wp2_with (at_builtin; (with_reducible show wpList _ _ _ (Oper.mk (some 51) _ _ _ _ _ :: _) _ _); refine appSep rfl _ _ rfl Tryd.underlying54 (.agg #[.int .i32 0, .bool false, .int .i64 0]) 3 16 infoBit rfl (by decide) (by decide) w.heap.size W2 vl acc.length (acc.flatMap bitCells) [.int .i32 (R : Int), .bool false, .int .i64 2] rfl (by intro u hu; simp only [List.mem_cons, List.not_mem_nil, or_false] at hu; rcases hu with rfl | rfl | rfl <;> rfl) rfl HO2.out rfl rfl (by have := HAL.out; omega) (by exact HB2.out.size) ?_; intro v8 w8 hp8; have HP8 := Lib.hid hp8; clear hp8)
            have HNX : Hid ((O ++ Z) ++ [42] = writL (acc ++ [(⟨R, false, 2⟩ : BitN)]) ∧ (acc ++ [(⟨R, false, 2⟩ : BitN)]).length = i + 1 ∧ (∀ b ∈ acc ++ [(⟨R, false, 2⟩ : BitN)], OkBit b) ∧ BitOwn w.heap.size v8 (acc ++ [(⟨R, false, 2⟩ : BitN)]) w8 ∧ Below w.heap.size w w8) := Lib.hid ⟨by unfold writL; rw [List.flatMap_append, HR.out.1, List.append_assoc, ← HBL.out]; simp [writL], by rw [List.length_append, HAL.out]; rfl, bits_snoc HR.out.2.2.1 ⟨HRM.out, show (2 : Nat) < 4 by decide⟩, BitOwn.push HP8.out.1, HB2.out.trans (HP8.out.below HO2.out (by exact HB2.out.size))⟩
            have hln := writ_len20 HNX.out.1 HNX.out.2.2.1 HNX.out.2.1 (by omega)
            go_roundw
            case rel => exact ⟨i + 1, (O ++ Z) ++ [42], acc ++ [(⟨R, false, 2⟩ : BitN)], congrArg Value.string (str_one (O ++ Z) [42] rfl), by go_num, by omega, by omega, hln, HNX⟩
            case measure => simp [RowKit.intOf]; omega
          · have HBL : Hid (bitL (⟨R, false, 3⟩ : BitN) = quoteL (encodeRune ((R : Nat) : Int)) ++ [43]) := Lib.hid rfl
            obtain ⟨Z, hZ⟩ : ∃ Z, quoteL (encodeRune ((R : Nat) : Int)) = Z := ⟨_, rfl⟩
            have hZl : Z.length ≤ 8 := by have h1 := quote_len (encodeRune ((R : Nat) : Int)); have h2 := enc_le4 R; rw [hZ] at h1; omega
            rw [hZ] at HQU HBL
            clear hZ
            have hcv := HCV.out
            go_upto_region 14 with (first
              | (go_at_call 24; refine (HQU.out _).mono ?_; rintro e wq ⟨rfl, hbq⟩; have HRQ := Lib.hid (HRW.out.keep hbq HRW.out.lt); have q0 := HRQ.out.cell 0; have q1 := HRQ.out.cell 1; have q2 := HRQ.out.cell 2; have q3 := HRQ.out.lt; have HO1 := Lib.hid (own_below HO1.out hbq); have HB1 := Lib.hid (HB1.out.trans (hbq.mono HB1.out.size)); clear hbq)
              | fail)
            obtain ⟨W2, hW2⟩ : ∃ W, W = wq.alloc (.cells #[.string { data := #[] }, .string { data := #[63] }, .string { data := #[42] }, .string { data := #[43] }] 9) := ⟨_, rfl⟩
            rw [← hW2]
            have hal : Below wq.heap.size wq W2 := by rw [hW2]; exact (Below.refl _ wq).alloc (Nat.le_refl _) _
            have hr2 := HRQ.out.keep hal HRQ.out.lt
            have y0 := hr2.cell 0
            have y1 := hr2.cell 1
            have y2 := hr2.cell 2
            have y3 := hr2.lt
            have HO2 : Hid (BitOwn w.heap.size vl acc W2) := Lib.hid (own_below HO1.out hal)
            have HB2 : Hid (Below w.heap.size w W2) := Lib.hid (HB1.out.trans (hal.mono HB1.out.size))
            clear hr2 hal hW2
            go_wp2_with (at_builtin; (with_reducible show wpList _ _ _ (Oper.mk (some 51) _ _ _ _ _ :: _) _ _); refine appSep rfl _ _ rfl Tryd.underlying54 (.agg #[.int .i32 0, .bool false, .int .i64 0]) 3 16 infoBit rfl (by decide) (by decide) w.heap.size W2 vl acc.length (acc.flatMap bitCells) [.int .i32 (R : Int), .bool false, .int .i64 3] rfl (by intro u hu; simp only [List.mem_cons, List.not_mem_nil, or_false] at hu; rcases hu with rfl | rfl | rfl <;> rfl) rfl HO2.out rfl rfl (by have := HAL.out; omega) (by exact HB2.out.size) ?_; intro v8 w8 hp8; have HP8 := Lib.hid hp8; clear hp8)
            have HNX : Hid ((O ++ Z) ++ [43] = writL (acc ++ [(⟨R, false, 3⟩ : BitN)]) ∧ (acc ++ [(⟨R, false, 3⟩ : BitN)]).length = i + 1 ∧ (∀ b ∈ acc ++ [(⟨R, false, 3⟩ : BitN)], OkBit b) ∧ BitOwn w.heap.size v8 (acc ++ [(⟨R, false, 3⟩ : BitN)]) w8 ∧ Below w.heap.size w w8) := Lib.hid ⟨by unfold writL; rw [List.flatMap_append, HR.out.1, List.append_assoc, ← HBL.out]; simp [writL], by rw [List.length_append, HAL.out]; rfl, bits_snoc HR.out.2.2.1 ⟨HRM.out, show (3 : Nat) < 4 by decide⟩, BitOwn.push HP8.out.1, HB2.out.trans (HP8.out.below HO2.out (by exact HB2.out.size))⟩
            have hln := writ_len20 HNX.out.1 HNX.out.2.2.1 HNX.out.2.1 (by omega)
            go_roundw
            case rel => exact ⟨i + 1, (O ++ Z) ++ [43], acc ++ [(⟨R, false, 3⟩ : BitN)], congrArg Value.string (str_one (O ++ Z) [43] rfl), by go_num, by omega, by omega, hln, HNX⟩
            case measure => simp [RowKit.intOf]; omega
      | false =>
        obtain rfl : R = 120 := (by simp at hR; omega)
        clear hR
        go_upto_region 10 with (go_at_call 48; refine (HMY.out _).mono ?_; rintro e w1 ⟨rfl, hww⟩; obtain rfl := hww.symm; clear hww)
        obtain ⟨W1, hW1⟩ : ∃ W, W = wr.alloc (.cells #[.int .i32 120, .bool ba, .int .i64 (k : Int)] 113) := ⟨_, rfl⟩
        rw [← hW1]
        have hrw : Row W1 wr.heap.size 113 [.int .i32 120, .bool ba, .int .i64 (k : Int)] := by rw [hW1]; exact row_new wr [.int .i32 120, .bool ba, .int .i64 (k : Int)] _
        have HRW := Lib.hid hrw
        have HB1 : Hid (Below w.heap.size w W1) := Lib.hid (by rw [hW1]; exact HB0.out.alloc hs0 _)
        have HO1 : Hid (BitOwn w.heap.size vl acc W1) := Lib.hid (by rw [hW1]; exact own_below HVL.out ((Below.refl _ wr).alloc (Nat.le_refl _) _))
        have r0 := hrw.cell 0
        have r1 := hrw.cell 1
        have r2 := hrw.cell 2
        have r3 := hrw.lt
        clear hrw hW1
        cases ba with
        | true =>
          rcases (show k = 0 ∨ k = 1 ∨ k = 2 ∨ k = 3 by omega) with rfl | rfl | rfl | rfl
          · have HBL : Hid (bitL (⟨120, true, 0⟩ : BitN) = [46] ++ []) := Lib.hid rfl
            go_upto_region 14 with (first
              | fail)
            obtain ⟨W2, hW2⟩ : ∃ W, W = W1.alloc (.cells #[.string { data := #[] }, .string { data := #[63] }, .string { data := #[42] }, .string { data := #[43] }] 9) := ⟨_, rfl⟩
            rw [← hW2]
            have hal : Below W1.heap.size W1 W2 := by rw [hW2]; exact (Below.refl _ W1).alloc (Nat.le_refl _) _
            have hr2 := HRW.out.keep hal HRW.out.lt
            have y0 := hr2.cell 0
            have y1 := hr2.cell 1
            have y2 := hr2.cell 2
            have y3 := hr2.lt
            have HO2 : Hid (BitOwn w.heap.size vl acc W2) := Lib.hid (own_below HO1.out hal)
            have HB2 : Hid (Below w.heap.size w W2) := Lib.hid (HB1.out.trans (hal.mono HB1.out.size))
            clear hr2 hal hW2
            go_wp2_with (at_builtin; (with_reducible show wpList _ _ _ (Oper.mk (some 51) _ _ _ _ _ :: _) _ _); refine appSep rfl _ _ rfl Tryd.underlying54 (.agg #[.int .i32 0, .bool false, .int .i64 0]) 3 16 infoBit rfl (by decide) (by decide) w.heap.size W2 vl acc.length (acc.flatMap bitCells) [.int .i32 120, .bool true, .int .i64 0] rfl (by intro u hu; simp only [List.mem_cons, List.not_mem_nil, or_false] at hu; rcases hu with rfl | rfl | rfl <;> rfl) rfl HO2.out rfl rfl (by have := HAL.out; omega) (by exact HB2.out.size) ?_; intro v8 w8 hp8; have HP8 := Lib.hid hp8; clear hp8)
            have HNX : Hid ((O ++ [46]) ++ [] = writL (acc ++ [(⟨120, true, 0⟩ : BitN)]) ∧ (acc ++ [(⟨120, true, 0⟩ : BitN)]).length = i + 1 ∧ (∀ b ∈ acc ++ [(⟨120, true, 0⟩ : BitN)], OkBit b) ∧ BitOwn w.heap.size v8 (acc ++ [(⟨120, true, 0⟩ : BitN)]) w8 ∧ Below w.heap.size w w8) := Lib.hid ⟨by unfold writL; rw [List.flatMap_append, HR.out.1, List.append_assoc, ← HBL.out]; simp [writL], by rw [List.length_append, HAL.out]; rfl, bits_snoc HR.out.2.2.1 ⟨HRM.out, show (0 : Nat) < 4 by decide⟩, BitOwn.push HP8.out.1, HB2.out.trans (HP8.out.below HO2.out (by exact HB2.out.size))⟩
            have hln := writ_len20 HNX.out.1 HNX.out.2.2.1 HNX.out.2.1 (by omega)
            go_roundw
            case rel => exact ⟨i + 1, (O ++ [46]) ++ [], acc ++ [(⟨120, true, 0⟩ : BitN)], congrArg Value.string (str_two O [46] [] rfl rfl), by go_num, by omega, by omega, hln, HNX⟩
            case measure => simp [RowKit.intOf]; omega
          · have HBL : Hid (bitL (⟨120, true, 1⟩ : BitN) = [46] ++ [63]) := Lib.hid rfl
            go_upto_region 14 with (first
              | fail)
            obtain ⟨W2, hW2⟩ : ∃ W, W = W1.alloc (.cells #[.string { data := #[] }, .string { data := #[63] }, .string { data := #[42] }, .string { data := #[43] }] 9) := ⟨_, rfl⟩
            rw [← hW2]
            have hal : Below W1.heap.size W1 W2 := by rw [hW2]; exact (Below.refl _ W1).alloc (Nat.le_refl _) _
            have hr2 := HRW.out.keep hal HRW.out.lt
            have y0 := hr2.cell 0
            have y1 := hr2.cell 1
            have y2 := hr2.cell 2
            have y3 := hr2.lt
            have HO2 : Hid (BitOwn w.heap.size vl acc W2) := Lib.hid (own_below HO1.out hal)
            have HB2 : Hid (Below w.heap.size w W2) := Lib.hid (HB1.out.trans (hal.mono HB1.out.size))
            clear hr2 hal hW2
            go_wp2_with (at_builtin; (with_reducible show wpList _ _ _ (Oper.mk (some 51) _ _ _ _ _ :: _) _ _); refine appSep rfl _ _ rfl Tryd.underlying54 (.agg #[.int .i32 0, .bool false, .int .i64 0]) 3 16 infoBit rfl (by decide) (by decide) w.heap.size W2 vl acc.length (acc.flatMap bitCells) [.int .i32 120, .bool true, .int .i64 1] rfl (by intro u hu; simp only [List.mem_cons, List.not_mem_nil, or_false] at hu; rcases hu with rfl | rfl | rfl <;> rfl) rfl HO2.out rfl rfl (by have := HAL.out; omega) (by exact HB2.out.size) ?_; intro v8 w8 hp8; have HP8 := Lib.hid hp8; clear hp8)
            have HNX : Hid ((O ++ [46]) ++ [63] = writL (acc ++ [(⟨120, true, 1⟩ : BitN)]) ∧ (acc ++ [(⟨120, true, 1⟩ : BitN)]).length = i + 1 ∧ (∀ b ∈ acc ++ [(⟨120, true, 1⟩ : BitN)], OkBit b) ∧ BitOwn w.heap.size v8 (acc ++ [(⟨120, true, 1⟩ : BitN)]) w8 ∧ Below w.heap.size w w8) := Lib.hid ⟨by unfold writL; rw [List.flatMap_append, HR.out.1, List.append_assoc, ← HBL.out]; simp [writL], by rw [List.length_append, HAL.out]; rfl, bits_snoc HR.out.2.2.1 ⟨HRM.out, show (1 : Nat) < 4 by decide⟩, BitOwn.push HP8.out.1, HB2.out.trans (HP8.out.below HO2.out (by exact HB2.out.size))⟩
            have hln := writ_len20 HNX.out.1 HNX.out.2.2.1 HNX.out.2.1 (by omega)
            go_roundw
            case rel => exact ⟨i + 1, (O ++ [46]) ++ [63], acc ++ [(⟨120, true, 1⟩ : BitN)], congrArg Value.string (str_two O [46] [63] rfl rfl), by go_num, by omega, by omega, hln, HNX⟩
            case measure => simp [RowKit.intOf]; omega
          · have HBL : Hid (bitL (⟨120, true, 2⟩ : BitN) = [46] ++ [42]) := Lib.hid rfl
            go_upto_region 14 with (first
              | fail)
            obtain ⟨W2, hW2⟩ : ∃ W, W = W1.alloc (.cells #[.string { data := #[] }, .string { data := #[63] }, .string { data := #[42] }, .string { data := #[43] }] 9) := ⟨_, rfl⟩
            rw [← hW2]
            have hal : Below W1.heap.size W1 W2 := by rw [hW2]; exact (Below.refl _ W1).alloc (Nat.le_refl _) _
            have hr2 := HRW.out.keep hal HRW.out.lt
            have y0 := hr2.cell 0
            have y1 := hr2.cell 1
            have y2 := hr2.cell 2
            have y3 := hr2.lt
            have HO2 : Hid (BitOwn w.heap.size vl acc W2) := Lib.hid (own_below HO1.out hal)
            have HB2 : Hid (Below w.heap.size w W2) := Lib.hid (HB1.out.trans (hal.mono HB1.out.size))
            clear hr2 hal hW2
            go_wp2_with (at_builtin; (with_reducible show wpList _ _ _ (Oper.mk (some 51) _ _ _ _ _ :: _) _ _); refine appSep rfl _ _ rfl Tryd.underlying54 (.agg #[.int .i32 0, .bool false, .int .i64 0]) 3 16 infoBit rfl (by decide) (by decide) w.heap.size W2 vl acc.length (acc.flatMap bitCells) [.int .i32 120, .bool true, .int .i64 2] rfl (by intro u hu; simp only [List.mem_cons, List.not_mem_nil, or_false] at hu; rcases hu with rfl | rfl | rfl <;> rfl) rfl HO2.out rfl rfl (by have := HAL.out; omega) (by exact HB2.out.size) ?_; intro v8 w8 hp8; have HP8 := Lib.hid hp8; clear hp8)
            have HNX : Hid ((O ++ [46]) ++ [42] = writL (acc ++ [(⟨120, true, 2⟩ : BitN)]) ∧ (acc ++ [(⟨120, true, 2⟩ : BitN)]).length = i + 1 ∧ (∀ b ∈ acc ++ [(⟨120, true, 2⟩ : BitN)], OkBit b) ∧ BitOwn w.heap.size v8 (acc ++ [(⟨120, true, 2⟩ : BitN)]) w8 ∧ Below w.heap.size w w8) := Lib.hid ⟨by unfold writL; rw [List.flatMap_append, HR.out.1, List.append_assoc, ← HBL.out]; simp [writL], by rw [List.length_append, HAL.out]; rfl, bits_snoc HR.out.2.2.1 ⟨HRM.out, show (2 : Nat) < 4 by decide⟩, BitOwn.push HP8.out.1, HB2.out.trans (HP8.out.below HO2.out (by exact HB2.out.size))⟩
            have hln := writ_len20 HNX.out.1 HNX.out.2.2.1 HNX.out.2.1 (by omega)
            go_roundw
            case rel => exact ⟨i + 1, (O ++ [46]) ++ [42], acc ++ [(⟨120, true, 2⟩ : BitN)], congrArg Value.string (str_two O [46] [42] rfl rfl), by go_num, by omega, by omega, hln, HNX⟩
            case measure => simp [RowKit.intOf]; omega
          · have HBL : Hid (bitL (⟨120, true, 3⟩ : BitN) = [46] ++ [43]) := Lib.hid rfl
            go_upto_region 14 with (first
              | fail)
            obtain ⟨W2, hW2⟩ : ∃ W, W = W1.alloc (.cells #[.string { data := #[] }, .string { data := #[63] }, .string { data := #[42] }, .string { data := #[43] }] 9) := ⟨_, rfl⟩
            rw [← hW2]
            have hal : Below W1.heap.size W1 W2 := by rw [hW2]; exact (Below.refl _ W1).alloc (Nat.le_refl _) _
            have hr2 := HRW.out.keep hal HRW.out.lt
            have y0 := hr2.cell 0
            have y1 := hr2.cell 1
            have y2 := hr2.cell 2
            have y3 := hr2.lt
            have HO2 : Hid (BitOwn w.heap.size vl acc W2) := Lib.hid (own_below HO1.out hal)
            have HB2 : Hid (Below w.heap.size w W2) := Lib.hid (HB1.out.trans (hal.mono HB1.out.size))
            clear hr2 hal hW2
            go_wp2_with (at_builtin; (with_reducible show wpList _ _ _ (Oper.mk (some 51) _ _ _ _ _ :: _) _ _); refine appSep rfl _ _ rfl Tryd.underlying54 (.agg #[.int .i32 0, .bool false, .int .i64 0]) 3 16 infoBit rfl (by decide) (by decide) w.heap.size W2 vl acc.length (acc.flatMap bitCells) [.int .i32 120, .bool true, .int .i64 3] rfl (by intro u hu; simp only [List.mem_cons, List.not_mem_nil, or_false] at hu; rcases hu with rfl | rfl | rfl <;> rfl) rfl HO2.out rfl rfl (by have := HAL.out; omega) (by exact HB2.out.size) ?_; intro v8 w8 hp8; have HP8 := Lib.hid hp8; clear hp8)
            have HNX : Hid ((O ++ [46]) ++ [43] = writL (acc ++ [(⟨120, true, 3⟩ : BitN)]) ∧ (acc ++ [(⟨120, true, 3⟩ : BitN)]).length = i + 1 ∧ (∀ b ∈ acc ++ [(⟨120, true, 3⟩ : BitN)], OkBit b) ∧ BitOwn w.heap.size v8 (acc ++ [(⟨120, true, 3⟩ : BitN)]) w8 ∧ Below w.heap.size w w8) := Lib.hid ⟨by unfold writL; rw [List.flatMap_append, HR.out.1, List.append_assoc, ← HBL.out]; simp [writL], by rw [List.length_append, HAL.out]; rfl, bits_snoc HR.out.2.2.1 ⟨HRM.out, show (3 : Nat) < 4 by decide⟩, BitOwn.push HP8.out.1, HB2.out.trans (HP8.out.below HO2.out (by exact HB2.out.size))⟩
            have hln := writ_len20 HNX.out.1 HNX.out.2.2.1 HNX.out.2.1 (by omega)
            go_roundw
            case rel => exact ⟨i + 1, (O ++ [46]) ++ [43], acc ++ [(⟨120, true, 3⟩ : BitN)], congrArg Value.string (str_two O [46] [43] rfl rfl), by go_num, by omega, by omega, hln, HNX⟩
            case measure => simp [RowKit.intOf]; omega
        | false =>
          rcases (show k = 0 ∨ k = 1 ∨ k = 2 ∨ k = 3 by omega) with rfl | rfl | rfl | rfl
          · have HBL : Hid (bitL (⟨120, false, 0⟩ : BitN) = quoteL (encodeRune ((120 : Nat) : Int)) ++ []) := Lib.hid rfl
            obtain ⟨Z, hZ⟩ : ∃ Z, quoteL (encodeRune ((120 : Nat) : Int)) = Z := ⟨_, rfl⟩
            have hZl : Z.length ≤ 8 := by have h1 := quote_len (encodeRune ((120 : Nat) : Int)); have h2 := enc_le4 120; rw [hZ] at h1; omega
            rw [hZ] at HQU HBL
            clear hZ
            have hcv := HCV.out
            simp only [Int.cast_ofNat_Int] at hcv HQU
            go_upto_region 14 with (first
              | (go_at_call 24; refine (HQU.out _).mono ?_; rintro e wq ⟨rfl, hbq⟩; have HRQ := Lib.hid (HRW.out.keep hbq HRW.out.lt); have q0 := HRQ.out.cell 0; have q1 := HRQ.out.cell 1; have q2 := HRQ.out.cell 2; have q3 := HRQ.out.lt; have HO1 := Lib.hid (own_below HO1.out hbq); have HB1 := Lib.hid (HB1.out.trans (hbq.mono HB1.out.size)); clear hbq)
              | fail)
            obtain ⟨W2, hW2⟩ : ∃ W, W = wq.alloc (.cells #[.string { data := #[] }, .string { data := #[63] }, .string { data := #[42] }, .string { data := #[43] }] 9) := ⟨_, rfl⟩
            rw [← hW2]
            have hal : Below wq.heap.size wq W2 := by rw [hW2]; exact (Below.refl _ wq).alloc (Nat.le_refl _) _
            have hr2 := HRQ.out.keep hal HRQ.out.lt
            have y0 := hr2.cell 0
            have y1 := hr2.cell 1
            have y2 := hr2.cell 2
            have y3 := hr2.lt
            have HO2 : Hid (BitOwn w.heap.size vl acc W2) := Lib.hid (own_below HO1.out hal)
            have HB2 : Hid (Below w.heap.size w W2) := Lib.hid (HB1.out.trans (hal.mono HB1.out.size))
            clear hr2 hal hW2
            go_wp2_with (at_builtin; (with_reducible show wpList _ _ _ (Oper.mk (some 51) _ _ _ _ _ :: _) _ _); refine appSep rfl _ _ rfl Tryd.underlying54 (.agg #[.int .i32 0, .bool false, .int .i64 0]) 3 16 infoBit rfl (by decide) (by decide) w.heap.size W2 vl acc.length (acc.flatMap bitCells) [.int .i32 120, .bool false, .int .i64 0] rfl (by intro u hu; simp only [List.mem_cons, List.not_mem_nil, or_false] at hu; rcases hu with rfl | rfl | rfl <;> rfl) rfl HO2.out rfl rfl (by have := HAL.out; omega) (by exact HB2.out.size) ?_; intro v8 w8 hp8; have HP8 := Lib.hid hp8; clear hp8)
            have HNX : Hid ((O ++ Z) ++ [] = writL (acc ++ [(⟨120, false, 0⟩ : BitN)]) ∧ (acc ++ [(⟨120, false, 0⟩ : BitN)]).length = i + 1 ∧ (∀ b ∈ acc ++ [(⟨120, false, 0⟩ : BitN)], OkBit b) ∧ BitOwn w.heap.size v8 (acc ++ [(⟨120, false, 0⟩ : BitN)]) w8 ∧ Below w.heap.size w w8) := Lib.hid ⟨by unfold writL; rw [List.flatMap_append, HR.out.1, List.append_assoc, ← HBL.out]; simp [writL], by rw [List.length_append, HAL.out]; rfl, bits_snoc HR.out.2.2.1 ⟨HRM.out, show (0 : Nat) < 4 by decide⟩, BitOwn.push HP8.out.1, HB2.out.trans (HP8.out.below HO2.out (by exact HB2.out.size))⟩
            have hln := writ_len20 HNX.out.1 HNX.out.2.2.1 HNX.out.2.1 (by omega)
            go_roundw
            case rel => exact ⟨i + 1, (O ++ Z) ++ [], acc ++ [(⟨120, false, 0⟩ : BitN)], congrArg Value.string (str_one (O ++ Z) [] rfl), by go_num, by omega, by omega, hln, HNX⟩
            case measure => simp [RowKit.intOf]; omega
          · have HBL : Hid (bitL (⟨120, false, 1⟩ : BitN) = quoteL (encodeRune ((120 : Nat) : Int)) ++ [63]) := Lib.hid rfl
            obtain ⟨Z, hZ⟩ : ∃ Z, quoteL (encodeRune ((120 : Nat) : Int)) = Z := ⟨_, rfl⟩
            have hZl : Z.length ≤ 8 := by have h1 := quote_len (encodeRune ((120 : Nat) : Int)); have h2 := enc_le4 120; rw [hZ] at h1; omega
            rw [hZ] at HQU HBL
            clear hZ
            have hcv := HCV.out
            simp only [Int.cast_ofNat_Int] at hcv HQU
            go_upto_region 14 with (first
              | (go_at_call 24; refine (HQU.out _).mono ?_; rintro e wq ⟨rfl, hbq⟩; have HRQ := Lib.hid (HRW.out.keep hbq HRW.out.lt); have q0 := HRQ.out.cell 0; have q1 := HRQ.out.cell 1; have q2 := HRQ.out.cell 2; have q3 := HRQ.out.lt; have HO1 := Lib.hid (own_below HO1.out hbq); have HB1 := Lib.hid (HB1.out.trans (hbq.mono HB1.out.size)); clear hbq)
              | fail)
            obtain ⟨W2, hW2⟩ : ∃ W, W = wq.alloc (.cells #[.string { data := #[] }, .string { data := #[63] }, .string { data := #[42] }, .string { data := #[43] }] 9) := ⟨_, rfl⟩
            rw [← hW2]
            have hal : Below wq.heap.size wq W2 := by rw [hW2]; exact (Below.refl _ wq).alloc (Nat.le_refl _) _
            have hr2 := HRQ.out.keep hal HRQ.out.lt
            have y0 := hr2.cell 0
            have y1 := hr2.cell 1
            have y2 := hr2.cell 2
            have y3 := hr2.lt
            have HO2 : Hid (BitOwn w.heap.size vl acc W2) := Lib.hid (own_below HO1.out hal)
            have HB2 : Hid (Below w.heap.size w W2) := Lib.hid (HB1.out.trans (hal.mono HB1.out.size))
            clear hr2 hal hW2
            go_wp2_with (at_builtin; (with_reducible show wpList _ _ _ (Oper.mk (some 51) _ _ _ _ _ :: _) _ _); refine appSep rfl _ _ rfl Tryd.underlying54 (.agg #[.int .i32 0, .bool false, .int .i64 0]) 3 16 infoBit rfl (by decide) (by decide) w.heap.size W2 vl acc.length (acc.flatMap bitCells) [.int .i32 120, .bool false, .int .i64 1] rfl (by intro u hu; simp only [List.mem_cons, List.not_mem_nil, or_false] at hu; rcases hu with rfl | rfl | rfl <;> rfl) rfl HO2.out rfl rfl (by have := HAL.out; omega) (by exact HB2.out.size) ?_; intro v8 w8 hp8; have HP8 := Lib.hid hp8; clear hp8)
            have HNX : Hid ((O ++ Z) ++ [63] = writL (acc ++ [(⟨120, false, 1⟩ : BitN)]) ∧ (acc ++ [(⟨120, false, 1⟩ : BitN)]).length = i + 1 ∧ (∀ b ∈ acc ++ [(⟨120, false, 1⟩ : BitN)], OkBit b) ∧ BitOwn w.heap.size v8 (acc ++ [(⟨120, false, 1⟩ : BitN)]) w8 ∧ Below w.heap.size w w8) := Lib.hid ⟨by unfold writL; rw [List.flatMap_append, HR.out.1, List.append_assoc, ← HBL.out]; simp [writL], by rw [List.length_append, HAL.out]; rfl, bits_snoc HR.out.2.2.1 ⟨HRM.out, show (1 : Nat) < 4 by decide⟩, BitOwn.push HP8.out.1, HB2.out.trans (HP8.out.below HO2.out (by exact HB2.out.size))⟩
            have hln := writ_len20 HNX.out.1 HNX.out.2.2.1 HNX.out.2.1 (by omega)
            go_roundw
            case rel => exact ⟨i + 1, (O ++ Z) ++ [63], acc ++ [(⟨120, false, 1⟩ : BitN)], congrArg Value.string (str_one (O ++ Z) [63] rfl), by go_num, by omega, by omega, hln, HNX⟩
            case measure => simp [RowKit.intOf]; omega
          · have HBL : Hid (bitL (⟨120, false, 2⟩ : BitN) = quoteL (encodeRune ((120 : Nat) : Int)) ++ [42]) := Lib.hid rfl
            obtain ⟨Z, hZ⟩ : ∃ Z, quoteL (encodeRune ((120 : Nat) : Int)) = Z := ⟨_, rfl⟩
            have hZl : Z.length ≤ 8 := by have h1 := quote_len (encodeRune ((120 : Nat) : Int)); have h2 := enc_le4 120; rw [hZ] at h1; omega
            rw [hZ] at HQU HBL
            clear hZ
            have hcv := HCV.out
            simp only [Int.cast_ofNat_Int] at hcv HQU
            go_upto_region 14 with (first
              | (go_at_call 24; refine (HQU.out _).mono ?_; rintro e wq ⟨rfl, hbq⟩; have HRQ := Lib.hid (HRW.out.keep hbq HRW.out.lt); have q0 := HRQ.out.cell 0; have q1 := HRQ.out.cell 1; have q2 := HRQ.out.cell 2; have q3 := HRQ.out.lt; have HO1 := Lib.hid (own_below HO1.out hbq); have HB1 := Lib.hid (HB1.out.trans (hbq.mono HB1.out.size)); clear hbq)
              | fail)
            obtain ⟨W2, hW2⟩ : ∃ W, W = wq.alloc (.cells #[.string { data := #[] }, .string { data := #[63] }, .string { data := #[42] }, .string { data := #[43] }] 9) := ⟨_, rfl⟩
            rw [← hW2]
            have hal : Below wq.heap.size wq W2 := by rw [hW2]; exact (Below.refl _ wq).alloc (Nat.le_refl _) _
            have hr2 := HRQ.out.keep hal HRQ.out.lt
            have y0 := hr2.cell 0
            have y1 := hr2.cell 1
            have y2 := hr2.cell 2
            have y3 := hr2.lt
            have HO2 : Hid (BitOwn w.heap.size vl acc W2) := Lib.hid (own_below HO1.out hal)
            have HB2 : Hid (Below w.heap.size w W2) := Lib.hid (HB1.out.trans (hal.mono HB1.out.size))
            clear hr2 hal hW2
            go_wp2_with (at_builtin; (with_reducible show wpList _ _ _ (Oper.mk (some 51) _ _ _ _ _ :: _) _ _); refine appSep rfl _ _ rfl Tryd.underlying54 (.agg #[.int .i32 0, .bool false, .int .i64 0]) 3 16 infoBit rfl (by decide) (by decide) w.heap.size W2 vl acc.length (acc.flatMap bitCells) [.int .i32 120, .bool false, .int .i64 2] rfl (by intro u hu; simp only [List.mem_cons, List.not_mem_nil, or_false] at hu; rcases hu with rfl | rfl | rfl <;> rfl) rfl HO2.out rfl rfl (by have := HAL.out; omega) (by exact HB2.out.size) ?_; intro v8 w8 hp8; have HP8 := Lib.hid hp8; clear hp8)
            have HNX : Hid ((O ++ Z) ++ [42] = writL (acc ++ [(⟨120, false, 2⟩ : BitN)]) ∧ (acc ++ [(⟨120, false, 2⟩ : BitN)]).length = i + 1 ∧ (∀ b ∈ acc ++ [(⟨120, false, 2⟩ : BitN)], OkBit b) ∧ BitOwn w.heap.size v8 (acc ++ [(⟨120, false, 2⟩ : BitN)]) w8 ∧ Below w.heap.size w w8) := Lib.hid ⟨by unfold writL; rw [List.flatMap_append, HR.out.1, List.append_assoc, ← HBL.out]; simp [writL], by rw [List.length_append, HAL.out]; rfl, bits_snoc HR.out.2.2.1 ⟨HRM.out, show (2 : Nat) < 4 by decide⟩, BitOwn.push HP8.out.1, HB2.out.trans (HP8.out.below HO2.out (by exact HB2.out.size))⟩
            have hln := writ_len20 HNX.out.1 HNX.out.2.2.1 HNX.out.2.1 (by omega)
            go_roundw
            case rel => exact ⟨i + 1, (O ++ Z) ++ [42], acc ++ [(⟨120, false, 2⟩ : BitN)], congrArg Value.string (str_one (O ++ Z) [42] rfl), by go_num, by omega, by omega, hln, HNX⟩
            case measure => simp [RowKit.intOf]; omega
          · have HBL : Hid (bitL (⟨120, false, 3⟩ : BitN) = quoteL (encodeRune ((120 : Nat) : Int)) ++ [43]) := Lib.hid rfl
            obtain ⟨Z, hZ⟩ : ∃ Z, quoteL (encodeRune ((120 : Nat) : Int)) = Z := ⟨_, rfl⟩
            have hZl : Z.length ≤ 8 := by have h1 := quote_len (encodeRune ((120 : Nat) : Int)); have h2 := enc_le4 120; rw [hZ] at h1; omega
            rw [hZ] at HQU HBL
            clear hZ
            have hcv := HCV.out
            simp only [Int.cast_ofNat_Int] at hcv HQU
            go_upto_region 14 with (first
              | (go_at_call 24; refine (HQU.out _).mono ?_; rintro e wq ⟨rfl, hbq⟩; have HRQ := Lib.hid (HRW.out.keep hbq HRW.out.lt); have q0 := HRQ.out.cell 0; have q1 := HRQ.out.cell 1; have q2 := HRQ.out.cell 2; have q3 := HRQ.out.lt; have HO1 := Lib.hid (own_below HO1.out hbq); have HB1 := Lib.hid (HB1.out.trans (hbq.mono HB1.out.size)); clear hbq)
              | fail)
            obtain ⟨W2, hW2⟩ : ∃ W, W = wq.alloc (.cells #[.string { data := #[] }, .string { data := #[63] }, .string { data := #[42] }, .string { data := #[43] }] 9) := ⟨_, rfl⟩
            rw [← hW2]
            have hal : Below wq.heap.size wq W2 := by rw [hW2]; exact (Below.refl _ wq).alloc (Nat.le_refl _) _
            have hr2 := HRQ.out.keep hal HRQ.out.lt
            have y0 := hr2.cell 0
            have y1 := hr2.cell 1
            have y2 := hr2.cell 2
            have y3 := hr2.lt
            have HO2 : Hid (BitOwn w.heap.size vl acc W2) := Lib.hid (own_below HO1.out hal)
            have HB2 : Hid (Below w.heap.size w W2) := Lib.hid (HB1.out.trans (hal.mono HB1.out.size))
            clear hr2 hal hW2
            go_wp2_with (at_builtin; (with_reducible show wpList _ _ _ (Oper.mk (some 51) _ _ _ _ _ :: _) _ _); refine appSep rfl _ _ rfl Tryd.underlying54 (.agg #[.int .i32 0, .bool false, .int .i64 0]) 3 16 infoBit rfl (by decide) (by decide) w.heap.size W2 vl acc.length (acc.flatMap bitCells) [.int .i32 120, .bool false, .int .i64 3] rfl (by intro u hu; simp only [List.mem_cons, List.not_mem_nil, or_false] at hu; rcases hu with rfl | rfl | rfl <;> rfl) rfl HO2.out rfl rfl (by have := HAL.out; omega) (by exact HB2.out.size) ?_; intro v8 w8 hp8; have HP8 := Lib.hid hp8; clear hp8)
            have HNX : Hid ((O ++ Z) ++ [43] = writL (acc ++ [(⟨120, false, 3⟩ : BitN)]) ∧ (acc ++ [(⟨120, false, 3⟩ : BitN)]).length = i + 1 ∧ (∀ b ∈ acc ++ [(⟨120, false, 3⟩ : BitN)], OkBit b) ∧ BitOwn w.heap.size v8 (acc ++ [(⟨120, false, 3⟩ : BitN)]) w8 ∧ Below w.heap.size w w8) := Lib.hid ⟨by unfold writL; rw [List.flatMap_append, HR.out.1, List.append_assoc, ← HBL.out]; simp [writL], by rw [List.length_append, HAL.out]; rfl, bits_snoc HR.out.2.2.1 ⟨HRM.out, show (3 : Nat) < 4 by decide⟩, BitOwn.push HP8.out.1, HB2.out.trans (HP8.out.below HO2.out (by exact HB2.out.size))⟩
            have hln := writ_len20 HNX.out.1 HNX.out.2.2.1 HNX.out.2.1 (by omega)
            go_roundw
            case rel => exact ⟨i + 1, (O ++ Z) ++ [43], acc ++ [(⟨120, false, 3⟩ : BitN)], congrArg Value.string (str_one (O ++ Z) [43] rfl), by go_num, by omega, by omega, hln, HNX⟩
            case measure => simp [RowKit.intOf]; omega
    · have HF : Hid (WritR w (.returned (.tuple #[.string (bstr O), vl])) wr) := Lib.hid ⟨acc, vl, by rw [HR.out.1], by have := HR.out.2.1; omega, HR.out.2.2.1, HR.out.2.2.2.1, HR.out.2.2.2.2⟩
      by_cases hn2 : i < n
      · have hit : (i : Int) < (n : Int) := by omega
        have hit2 : ¬ (i : Int) < 20 := by omega
        go_wp2_with fail
        go_ret2
        exact HF.out
      · have hit : ¬ (i : Int) < (n : Int) := by omega
        go_wp2_with fail
        go_ret2
        exact HF.out
    -- the end of the round
end Go.Proofs.YtchdeboialbdiaaDoor
