/- The walk of BitsRanges. -/
import Derived.Test.YtgcgbpehedkckaaWorks
import Derived.Test.YtgcgbpehedkckaaOpen
import Derived.Test.YtgcgbpehedkckaaUref
namespace Go.Proofs.Ytgcgbpehedkckaa
open Go.RowKit
theorem sameI_self (l : List Int) : sameI l l = true := by simp [sameI]
set_option maxHeartbeats 1000000 in
set_option maxRecDepth 100000 in
theorem bitsRanges_walk (w : World) (p : Int) (hp : (Lit.int .i64 p).wf = true) (n : Int) (hn : (Lit.int .i64 n).wf = true) (few : Int) (hf : (Lit.int .u8 few).wf = true) :
    Calls Try.prog 7 #[.int .i64 p, .int .i64 n, .int .u8 few] w fun e w' => e = .returned (.bool true) ∧ Below w.heap.size w w' := by
  obtain ⟨hp0, hp1⟩ := wf_i64 hp
  obtain ⟨hn0, hn1⟩ := wf_i64 hn
  obtain ⟨hf0, hf1⟩ := wf_u8 hf
  clear hp hn hf
  obtain ⟨f, rfl⟩ := Int.eq_ofNat_of_zero_le hf0
  have HP : Hid ((-9223372036854775808 ≤ p ∧ p ≤ 9223372036854775807) ∧ (-9223372036854775808 ≤ n ∧ n ≤ 9223372036854775807)) := ⟨⟨hp0, hp1⟩, hn0, hn1⟩
  clear hp0 hp1 hn0 hn1
  obtain ⟨l8, hl8⟩ : ∃ l, l = (unitsL p n 8).take (1 + f) := ⟨_, rfl⟩
  obtain ⟨l64, hl64⟩ : ∃ l, l = (unitsL p n 64).take (1 + f) := ⟨_, rfl⟩
  obtain ⟨m8, hm8⟩ : ∃ m, m = l8.length := ⟨_, rfl⟩
  obtain ⟨m64, hm64⟩ : ∃ m, m = l64.length := ⟨_, rfl⟩
  have hu8 := fun w1 : World => unitsRef8 w1 p n (1 + f) (by omega) HP.out.1.2 HP.out.1.1 HP.out.2.2 HP.out.2.1
  have hu64 := fun w1 : World => unitsRef64 w1 p n (1 + f) (by omega) HP.out.1.2 HP.out.1.1 HP.out.2.2 HP.out.2.1
  have hg8 := fun (w1 : World) (s0 : Nat) b1 b2 b3 => goneWords w1 s0 p n b1 b2 b3 HP.out.1.2 HP.out.1.1 HP.out.2.2 (1 + f) (by omega) (by omega)
  have hg64 := fun (w1 : World) (s0 : Nat) b1 b2 => goneLines w1 s0 p n b1 b2 HP.out.1.2 HP.out.1.1 HP.out.2.2 (1 + f) (by omega) (by omega)
  simp only [linesOf_eq, ← hl8, ← hl64, ← hm8, ← hm64] at hu8 hu64 hg8 hg64
  have hm : ((1 + f : Nat) : Int) = 1 + (f : Int) := by omega
  rw [hm] at hu8 hu64 hg8 hg64
  have HU8 := Lib.hid hu8
  have HU64 := Lib.hid hu64
  have HG8 := Lib.hid hg8
  have HG64 := Lib.hid hg64
  have hle8 : m8 ≤ 1 + f := by rw [hm8, hl8, List.length_take]; omega
  have hle64 : m64 ≤ 1 + f := by rw [hm64, hl64, List.length_take]; omega
  clear hu8 hu64 hg8 hg64 hm hl8 hl64 hm8 hm64
  go_enter Try.func7, Try.ntmps7
  go_wp2_with fail
  refine (wordsC _ _ _).mono ?_
  rintro e w1 ⟨rfl, hw1⟩
  have hbx := wordsW_box w p n
  have hbl := wordsW_below w p n
  rw [hw1] at hbx hbl
  have B1 := Lib.hid hbl
  have HB1 := Lib.hid hbx
  have z1 := hbl.size
  clear hbx hbl hw1
  go_wp2_with fail
  refine (HU8.out w1).mono ?_
  rintro e w2 ⟨v2, rfl, hown2, hb2⟩
  obtain ⟨a2, c2, rfl, hr2, _, _⟩ := reads_of_own hown2
  have HR2 := Lib.hid hr2
  have HB2 := Lib.hid (show Below w1.heap.size w1 w2 from hb2)
  have B2 := Lib.hid (B1.out.trans (hb2.mono z1))
  have z2 := hb2.size
  clear hr2 hb2 hown2
  go_wp2
  go_loopw [10] (fun t wr => ∃ k : Nat, k ≤ 2 ∧ t = .int .i64 k ∧ Hid (Below w2.heap.size w2 wr) ∧ w2.heap.size ≤ wr.heap.size) (fun t _ => 2 - (intOf t).toNat)
  case atStart => exact ⟨0, by omega, rfl, Below.refl _ _, Nat.le_refl _⟩
  case round =>
    obtain ⟨k, hk, rfl, HBR, zr⟩ := hrel
    by_cases hlt : k < 2
    · have HBX : Hid (Boxed wr w.heap.size 3 (.int .i64 p) ∧ Boxed wr (w.heap.size + 1) 3 (.int .i64 n) ∧ Boxed wr (w.heap.size + 2) 3 (.int .i64 8)) := by
        have h := HB1.out
        have e1 : ∀ b, b < w1.heap.size → wr.heap[b]? = w1.heap[b]? := fun b hb => (HBR.out.block b (by omega)).trans (HB2.out.block b hb)
        exact ⟨(e1 _ h.1.lt).trans h.1, (e1 _ h.2.1.lt).trans h.2.1, (e1 _ h.2.2.lt).trans h.2.2⟩
      go_wp2_with fail
      refine (HG8.out wr _ HBX.out.1 HBX.out.2.1 HBX.out.2.2).mono ?_
      rintro e w3 ⟨v3, rfl, hown3, hb3⟩
      obtain ⟨a3, c3, rfl, hr3, _, _⟩ := reads_of_own hown3
      have hE := eqInts w3 a3 a2 m8 m8 c3 c2 l8 l8 hr3 ((HR2.out.keep HBR.out (Nat.le_refl _)).keep hb3 (Nat.le_refl _)) (by omega) (by omega)
      rw [sameI_self] at hE
      have HE := Lib.hid hE
      have B3 := Lib.hid (HBR.out.trans (hb3.mono zr))
      have z3 := hb3.size
      clear hr3 hb3 hown3 hE HBX
      go_wp2_with fail
      refine HE.out.mono ?_
      rintro e w4 ⟨rfl, hq4⟩
      have B4 := Lib.hid (B3.out.trans (hq4.below _))
      have z4 := (hq4.below 0).size
      clear hq4
      go_wp2
      go_roundw
      case rel => exact ⟨k + 1, by omega, by go_num, B4, by omega⟩
      case measure => simp [intOf] <;> omega
    · obtain rfl : k = 2 := by omega
      obtain ⟨wq, rfl⟩ : ∃ wq : World, wq = wr := ⟨_, rfl⟩
      go_wp2_with fail
      refine (linesC _ _ _).mono ?_
      rintro e w5 ⟨rfl, hw5⟩
      have hbx := linesW_box wq p n
      have hbl := linesW_below wq p n
      rw [hw5] at hbx hbl
      have BR := Lib.hid ((B2.out.trans (HBR.out.mono (by omega))).trans (hbl.mono (by omega)))
      have HB5 := Lib.hid hbx
      have z5 := hbl.size
      clear hbx hbl hw5
      go_wp2_with fail
      refine (HU64.out w5).mono ?_
      rintro e w6 ⟨v6, rfl, hown6, hb6⟩
      obtain ⟨a6, c6, rfl, hr6, _, _⟩ := reads_of_own hown6
      have HR6 := Lib.hid hr6
      have HB6 := Lib.hid (show Below w5.heap.size w5 w6 from hb6)
      have B6 := Lib.hid (BR.out.trans (hb6.mono (by omega)))
      have z6 := hb6.size
      clear hr6 hb6 hown6
      go_wp2
      go_loopw [13] (fun t wr => ∃ k : Nat, k ≤ 2 ∧ t = .int .i64 k ∧ Hid (Below w6.heap.size w6 wr) ∧ w6.heap.size ≤ wr.heap.size) (fun t _ => 2 - (intOf t).toNat)
      case atStart => exact ⟨0, by omega, rfl, Below.refl _ _, Nat.le_refl _⟩
      case round =>
        obtain ⟨k, hk, rfl, HBS, zs⟩ := hrel
        by_cases hlt : k < 2
        · have HBX : Hid (Boxed wr wq.heap.size 3 (.int .i64 p) ∧ Boxed wr (wq.heap.size + 1) 3 (.int .i64 n)) := by
            have h := HB5.out
            have e1 : ∀ b, b < w5.heap.size → wr.heap[b]? = w5.heap[b]? := fun b hb => (HBS.out.block b (by omega)).trans (HB6.out.block b hb)
            exact ⟨(e1 _ h.1.lt).trans h.1, (e1 _ h.2.lt).trans h.2⟩
          go_wp2_with fail
          refine (HG64.out wr _ HBX.out.1 HBX.out.2).mono ?_
          rintro e w3 ⟨v3, rfl, hown3, hb3⟩
          obtain ⟨a3, c3, rfl, hr3, _, _⟩ := reads_of_own hown3
          have hE := eqInts w3 a3 a6 m64 m64 c3 c6 l64 l64 hr3 ((HR6.out.keep HBS.out (Nat.le_refl _)).keep hb3 (Nat.le_refl _)) (by omega) (by omega)
          rw [sameI_self] at hE
          have HE := Lib.hid hE
          have B3 := Lib.hid (HBS.out.trans (hb3.mono zs))
          have z3 := hb3.size
          clear hr3 hb3 hown3 hE HBX
          go_wp2_with fail
          refine HE.out.mono ?_
          rintro e w4 ⟨rfl, hq4⟩
          have B4 := Lib.hid (B3.out.trans (hq4.below _))
          have z4 := (hq4.below 0).size
          clear hq4
          go_wp2
          go_roundw
          case rel => exact ⟨k + 1, by omega, by go_num, B4, by omega⟩
          case measure => simp [intOf] <;> omega
        · obtain rfl : k = 2 := by omega
          go_wp2_with fail
          refine (worksC wr).mono ?_
          rintro e w9 ⟨rfl, hb9⟩
          have B9 := Lib.hid ((B6.out.trans (HBS.out.mono (by omega))).trans (hb9.mono (by omega)))
          clear hb9
          go_wp2
          go_ret
          exact ⟨rfl, B9.out⟩
end Go.Proofs.Ytgcgbpehedkckaa
