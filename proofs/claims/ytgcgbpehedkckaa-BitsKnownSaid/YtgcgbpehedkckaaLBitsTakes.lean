/- BitsTakes: a number of each width, at every place. -/
import Derived.Test.YtgcgbpehedkckaaWorks
import Derived.Test.YtgcgbpehedkckaaOpen
import Derived.Test.YtgcgbpehedkckaaLawa
import Derived.Test.YtgcgbpehedkckaaTaker
import Derived.Test.YtgcgbpehedkckaaSpare
namespace Go.Proofs.Ytgcgbpehedkckaa
open Go.RowKit
/-- the number at a place, and the answer's error -/
def tkV (l : List UInt8) (p : Int) (s : Nat) : Nat := if 0 ≤ p ∧ p + s ≤ l.length then leV (piece l p.toNat s) else 0
def tkE (l : List UInt8) (p : Int) (s : Nat) : Nat := if 0 ≤ p ∧ p + s ≤ l.length then 0 else 6
theorem takeLaw (w : World) (a : Option Addr) (n ca : Nat) (la : List UInt8) (p : Int) (s : Nat) (hs : s = 1 ∨ s = 2 ∨ s = 4 ∨ s = 8) (ha : Reads w a n (la.map B8)) (hn : n ≤ 140737488355328) (hp1 : -9223372036854775808 ≤ p) (hp2 : p ≤ 9223372036854775807) :
    Calls Try.prog 22 #[.slice a n ca, .int .i64 p, .int .i64 s] w fun e w' => e = .returned (.tuple #[.int .u64 (tkV la p s), .int .i64 (tkE la p s)]) ∧ Below w.heap.size w w' := by
  have hl := ha.len
  rw [List.length_map] at hl
  by_cases h : 0 ≤ p ∧ p + s ≤ la.length
  · rw [show tkV la p s = leV (piece la p.toNat s) from if_pos h, show tkE la p s = 0 from if_pos h]
    obtain ⟨h0, h1⟩ := h
    obtain ⟨q, rfl⟩ := Int.eq_ofNat_of_zero_le h0
    have hq : q + s ≤ n := by omega
    rcases hs with rfl | rfl | rfl | rfl
    · exact takeLaw1 w a n ca la q ha hn hq
    · exact takeLaw2 w a n ca la q ha hn hq
    · exact takeLaw4 w a n ca la q ha hn hq
    · exact takeLaw8 w a n ca la q ha hn hq
  · rw [show tkV la p s = 0 from if_neg h, show tkE la p s = 6 from if_neg h]
    have h' : p < 0 ∨ (n : Int) - s < p := by omega
    rcases hs with rfl | rfl | rfl | rfl
    · exact takeNoLaw1 w a n ca p hn h' hp1 hp2
    · exact takeNoLaw2 w a n ca p hn h' hp1 hp2
    · exact takeNoLaw4 w a n ca p hn h' hp1 hp2
    · exact takeNoLaw8 w a n ca p hn h' hp1 hp2
theorem takeDoc (w : World) (a : Option Addr) (n ca : Nat) (la : List UInt8) (p : Int) (s : Nat) (hs : s ≤ 8) (ha : Reads w a n (la.map B8)) (hn : n ≤ 140737488355328) (hp1 : -9223372036854775808 ≤ p) (hp2 : p ≤ 9223372036854775807) :
    Calls Try.prog 23 #[.slice a n ca, .int .i64 p, .int .i64 s] w fun e w' => e = .returned (.tuple #[.int .u64 (tkV la p s), .int .i64 (tkE la p s)]) ∧ Below w.heap.size w w' := by
  have hl := ha.len
  rw [List.length_map] at hl
  by_cases h : 0 ≤ p ∧ p + s ≤ la.length
  · rw [show tkV la p s = leV (piece la p.toNat s) from if_pos h, show tkE la p s = 0 from if_pos h]
    obtain ⟨h0, h1⟩ := h
    obtain ⟨q, rfl⟩ := Int.eq_ofNat_of_zero_le h0
    exact takeRef w a n ca la q s ha hn (by omega) hs
  · rw [show tkV la p s = 0 from if_neg h, show tkE la p s = 6 from if_neg h]
    exact takeNoRef w a n ca p s hn (by omega) hs hp1 hp2
theorem not_ne (x : Nat) : ((x : Int) != (x : Int)) = false := by simp
theorem same_self (l : List UInt8) : sameB l l = true := by simp [sameB]
/-- a byte written over -/
theorem xor_byte (x : UInt8) (i : Nat) : bits .xor .u8 (x.toNat : Int) (((i : Int) + 1) % 256) = ((x ^^^ UInt8.ofNat (i + 1)).toNat : Int) := by
  have hx := x.toNat_lt
  have h := u8_xor_nat x.toNat ((i + 1) % 256) (by omega) (by omega)
  rw [show (((i + 1) % 256 : Nat) : Int) = ((i : Int) + 1) % 256 from by omega] at h
  rw [h, UInt8.toNat_xor, UInt8.toNat_ofNat']
theorem row_over {w : World} {g : Nat} {l : List UInt8} {pad : List Value} (h : Row w g 5 (l.map B8 ++ pad)) {i : Nat} (hi : i < l.length) (x : UInt8) : Row (w.setCell ⟨g, i, none⟩ (B8 x)) g 5 ((l.set i x).map B8 ++ pad) := by
  have e : (l.map B8 ++ pad).set i (B8 x) = (l.set i x).map B8 ++ pad := by
    rw [List.set_append_left _ _ (by rw [List.length_map]; exact hi), List.map_set]
  rw [← e]
  exact h.set i _
theorem row_front {w : World} {g : Nat} {l : List UInt8} {pad : List Value} (h : Row w g 5 (l.map B8 ++ pad)) {n : Nat} (hl : l.length = n) : Reads w (some ⟨g, 0, none⟩) n (l.map B8) := by
  have h := h.reads 0 n (by rw [List.length_append, List.length_map, hl]; omega)
  rw [List.drop_zero, List.take_append_of_le_length (by rw [List.length_map, hl]; exact Nat.le_refl _), List.take_of_length_le (by rw [List.length_map, hl]; exact Nat.le_refl _)] at h
  exact h
set_option maxHeartbeats 2000000 in
set_option maxRecDepth 100000 in
theorem bitsTakes_walk (w : World) (a : Option Addr) (n ca : Nat) (la : List UInt8) (ha : Reads w a n (la.map B8)) (hc : n ≤ ca) (hm : ca ≤ maxLen) (hb : n * 1 ≤ 140737488351232) (p : Int) (hp : (Lit.int .i64 p).wf = true) :
    Calls Try.prog 4 #[.slice a n ca, .int .i64 p] w fun e w' => e = .returned (.bool true) ∧ Below w.heap.size w w' := by
  obtain ⟨hp1, hp2⟩ := wf_i64 hp
  have HP := Lib.hid (And.intro hp1 hp2)
  have hla := ha.len
  rw [List.length_map] at hla
  have HL := Lib.hid hla
  have HA := Lib.hid ha
  have hn : n ≤ 140737488351232 := by omega
  clear hp hp1 hp2 hla ha hb
  go_enter Try.func4, Try.ntmps4
  go_wp2_with fail
  refine (spare _ _ _ _ _ HA.out (by omega)).mono ?_
  rintro e w1 ⟨g, rfl, hg0, hrow, hb1⟩
  have hg1 := hrow.lt
  obtain ⟨pad, hpad⟩ : ∃ pad, spareL la = la.map B8 ++ pad := ⟨_, rfl⟩
  rw [hpad] at hrow
  have HPAD := Lib.hid hpad
  have HROW := Lib.hid hrow
  have B1 := Lib.hid hb1
  have z1 := hb1.size
  have HN := Lib.hid hn
  clear hrow hb1 hpad hn
  go_wp2
  go_loopw [6] (fun x wr => ∃ (k : Nat) (l : List UInt8), k ≤ 2 ∧ x = .int .i64 k ∧ Hid (l.length = n) ∧ Hid (k = 0 → l = la) ∧ Hid (Row wr g 5 (l.map B8 ++ pad)) ∧ Hid (Below w.heap.size w wr) ∧ w.heap.size ≤ wr.heap.size) (fun x _ => 2 - (intOf x).toNat)
  case atStart => exact ⟨0, la, by omega, rfl, HL, fun _ => rfl, HROW, B1, z1⟩
  case round =>
    clear HROW B1
    obtain ⟨k, l, hk, rfl, HLL, HK0, HRW, HB, zr⟩ := hrel
    by_cases hk2 : k < 2
    · go_wp2_with fail
      refine (copyBytes wr _ n _ l (row_front HRW.out HLL.out) (by have := HN.out; omega)).mono ?_
      rintro e w2 ⟨v7, rfl, hown, hb2⟩
      obtain ⟨a7, c7, rfl, hr7, _, _⟩ := reads_of_own hown
      have hgr := HRW.out.lt
      have HR2 := Lib.hid (HRW.out.keep hb2 hgr)
      have hg2 := HR2.out.lt
      have HR7 := Lib.hid hr7
      have B2 := Lib.hid (HB.out.trans (hb2.mono zr))
      have z2 := hb2.size
      obtain ⟨wq, rfl⟩ : ∃ wq : World, wq = wr := ⟨_, rfl⟩
      clear hown hb2 hr7 HRW
      go_wp2
      go_loopw [8] (fun x wr => ∃ j s : Nat, j ≤ 4 ∧ s ≤ 16 ∧ Hid (s = 2 ^ j) ∧ x = .int .i64 s ∧ Hid (Below w2.heap.size w2 wr) ∧ w2.heap.size ≤ wr.heap.size) (fun x _ => 17 - (intOf x).toNat)
      case atStart => exact ⟨0, 1, by omega, by omega, rfl, rfl, Below.refl _ _, Nat.le_refl _⟩
      case round =>
        obtain ⟨j, s, hj, hs16, HSJ, rfl, HBI, zi⟩ := hrel
        by_cases hj4 : j < 4
        · have hs : Hid (s = 1 ∨ s = 2 ∨ s = 4 ∨ s = 8) ∧ 1 ≤ s ∧ s ≤ 8 := by
            have h := HSJ.out
            rcases (show j = 0 ∨ j = 1 ∨ j = 2 ∨ j = 3 by omega) with rfl | rfl | rfl | rfl <;> simp at h <;> subst h <;> exact ⟨by simp [Hid], by omega, by omega⟩
          obtain ⟨HS, hs1, hs8⟩ := hs
          have c1 := takeLaw wr (some ⟨g, 0, none⟩) n (n + 80) l p s HS.out ((row_front HR2.out HLL.out).keep HBI.out (Nat.le_refl _)) (by have := HN.out; omega) HP.out.1 HP.out.2
          have c2 : ∀ w3, Below wr.heap.size wr w3 → Calls Try.prog 23 #[.slice a7 n c7, .int .i64 p, .int .i64 s] w3 fun e w' => e = .returned (.tuple #[.int .u64 (tkV l p s), .int .i64 (tkE l p s)]) ∧ Below w3.heap.size w3 w' := fun w3 hb3 => takeDoc w3 a7 n c7 l p s hs8 (HR7.out.keep (HBI.out.trans (hb3.mono zi)) (Nat.le_refl _)) (by have := HN.out; omega) HP.out.1 HP.out.2
          generalize tkV l p s = V at c1 c2
          generalize tkE l p s = E at c1 c2
          have C1 := Lib.hid c1
          have C2 := Lib.hid c2
          have nV := not_ne V
          have nE := not_ne E
          clear c1 c2
          go_wp2_with fail
          refine C1.out.mono ?_
          rintro e w3 ⟨rfl, hb3⟩
          have z3 := hb3.size
          have B3 := Lib.hid hb3
          clear hb3
          go_wp2_with fail
          refine (C2.out w3 B3.out).mono ?_
          rintro e w4 ⟨rfl, hb4⟩
          have z4 := hb4.size
          have B4 := Lib.hid (HBI.out.trans ((B3.out.trans (hb4.mono z3)).mono zi))
          have HSJ2 : Hid (2 * s = 2 ^ (j + 1)) := by show _ = _; rw [HSJ.out, Nat.pow_succ]; omega
          clear hb4
          go_wp2
          go_roundw
          case rel => exact ⟨j + 1, 2 * s, by omega, by omega, HSJ2, by go_num, B4, by omega⟩
          case measure => simp [intOf] <;> omega
        · obtain rfl : j = 4 := by omega
          have hs16' : s = 16 := HSJ.out
          subst hs16'
          have hE := eqBytes wr (some ⟨g, 0, none⟩) a7 n n (n + 80) c7 l l ((row_front HR2.out HLL.out).keep HBI.out (Nat.le_refl _)) (HR7.out.keep HBI.out (Nat.le_refl _)) (by have := HN.out; omega) (by have := HN.out; omega)
          rw [same_self] at hE
          have HE := Lib.hid hE
          clear hE
          go_wp2_with fail
          refine HE.out.mono ?_
          rintro e w5 ⟨rfl, hq⟩
          have hb5 := hq.below wr.heap.size
          have z5 := hb5.size
          have BI5 := Lib.hid (HBI.out.trans (hb5.mono zi))
          clear hq hb5 HE
          by_cases hk0 : k = 0
          · subst hk0
            obtain rfl := HK0.out rfl
            have HROW5 := Lib.hid (HR2.out.keep BI5.out (by omega))
            go_wp2_with fail
            refine (kept w5 g a n ca l (by rw [HPAD.out]; exact HROW5.out) (HA.out.keep (B2.out.trans (BI5.out.mono (by omega))) (Nat.le_refl _)) (by have := HN.out; omega)).mono ?_
            rintro e w6 ⟨rfl, hb6⟩
            have z6 := hb6.size
            have HROW6 := Lib.hid (HROW5.out.keep hb6 (HROW5.out.lt))
            have HB6 := Lib.hid ((B2.out.trans (BI5.out.mono (by omega))).trans (hb6.mono (by omega)))
            clear hb6 HROW5
            go_wp2
            obtain ⟨wp, rfl⟩ : ∃ wp : World, wp = wr := ⟨_, rfl⟩
            go_loopw [13] (fun x wr => ∃ (i : Nat) (m : List UInt8), i ≤ n ∧ x = .int .i64 i ∧ Hid (m.length = n) ∧ Hid (Row wr g 5 (m.map B8 ++ pad)) ∧ Hid (Below w.heap.size w wr) ∧ w.heap.size ≤ wr.heap.size) (fun x _ => n - (intOf x).toNat)
            case atStart => exact ⟨0, l, Nat.zero_le _, rfl, HLL, HROW6, HB6, by omega⟩
            case round =>
              clear HROW6 HB6
              obtain ⟨i, m, hi, rfl, HML, HRM, HBM, zm⟩ := hrel
              by_cases hin : i < n
              · obtain ⟨x, hx⟩ : ∃ x : UInt8, m[i]? = some x := ⟨m[i]'(by rw [HML.out]; exact hin), List.getElem?_eq_getElem _⟩
                have hcx : wr.cell? ⟨g, i, none⟩ = some (.int .u8 (x.toNat : Nat)) := by
                  rw [HRM.out.cell i, List.getElem?_append_left (by rw [List.length_map, HML.out]; exact hin), List.getElem?_map, hx]
                  rfl
                have hfx : wr.frozen? ⟨g, i, none⟩ = false := HRM.out.frozen i
                have HX := Lib.hid (xor_byte x i)
                have hnb := HN.out
                clear hx
                go_wp2
                go_roundw
                case rel =>
                  refine ⟨i + 1, m.set i (x ^^^ UInt8.ofNat (i + 1)), by omega, by go_num, ?_, ?_, HBM.out.setCell hg0 _, by rw [World.size_setCell]; exact zm⟩
                  · show _ = _
                    rw [List.length_set]; exact HML.out
                  · have h := row_over HRM.out (i := i) (by rw [HML.out]; exact hin) (x ^^^ UInt8.ofNat (i + 1))
                    rw [B8, ← HX.out] at h
                    exact h
                case measure => simp [intOf] <;> omega
              · obtain rfl : i = n := by omega
                go_wp2
                go_roundw
                case rel => exact ⟨1, m, by omega, by go_num, HML, fun h => absurd h (by omega), HRM, HBM, zm⟩
                case measure => simp [intOf] <;> omega
          · obtain rfl : k = 1 := by omega
            have HROW6 := Lib.hid (HR2.out.keep BI5.out (by omega))
            have HB6 := Lib.hid (B2.out.trans (BI5.out.mono (by omega)))
            go_wp2
            obtain ⟨wp, rfl⟩ : ∃ wp : World, wp = wr := ⟨_, rfl⟩
            go_loopw [13] (fun x wr => ∃ (i : Nat) (m : List UInt8), i ≤ n ∧ x = .int .i64 i ∧ Hid (m.length = n) ∧ Hid (Row wr g 5 (m.map B8 ++ pad)) ∧ Hid (Below w.heap.size w wr) ∧ w.heap.size ≤ wr.heap.size) (fun x _ => n - (intOf x).toNat)
            case atStart => exact ⟨0, l, Nat.zero_le _, rfl, HLL, HROW6, HB6, by omega⟩
            case round =>
              clear HROW6 HB6
              obtain ⟨i, m, hi, rfl, HML, HRM, HBM, zm⟩ := hrel
              by_cases hin : i < n
              · obtain ⟨x, hx⟩ : ∃ x : UInt8, m[i]? = some x := ⟨m[i]'(by rw [HML.out]; exact hin), List.getElem?_eq_getElem _⟩
                have hcx : wr.cell? ⟨g, i, none⟩ = some (.int .u8 (x.toNat : Nat)) := by
                  rw [HRM.out.cell i, List.getElem?_append_left (by rw [List.length_map, HML.out]; exact hin), List.getElem?_map, hx]
                  rfl
                have hfx : wr.frozen? ⟨g, i, none⟩ = false := HRM.out.frozen i
                have HX := Lib.hid (xor_byte x i)
                have hnb := HN.out
                clear hx
                go_wp2
                go_roundw
                case rel =>
                  refine ⟨i + 1, m.set i (x ^^^ UInt8.ofNat (i + 1)), by omega, by go_num, ?_, ?_, HBM.out.setCell hg0 _, by rw [World.size_setCell]; exact zm⟩
                  · show _ = _
                    rw [List.length_set]; exact HML.out
                  · have h := row_over HRM.out (i := i) (by rw [HML.out]; exact hin) (x ^^^ UInt8.ofNat (i + 1))
                    rw [B8, ← HX.out] at h
                    exact h
                case measure => simp [intOf] <;> omega
              · obtain rfl : i = n := by omega
                go_wp2
                go_roundw
                case rel => exact ⟨2, m, by omega, by go_num, HML, fun h => absurd h (by omega), HRM, HBM, zm⟩
                case measure => simp [intOf] <;> omega
    · obtain rfl : k = 2 := by omega
      go_wp2_with fail
      refine (worksC wr).mono ?_
      rintro e w9 ⟨rfl, hb9⟩
      have B9 := Lib.hid (HB.out.trans (hb9.mono zr))
      clear hb9
      go_wp2
      go_ret
      exact ⟨rfl, B9⟩
end Go.Proofs.Ytgcgbpehedkckaa
