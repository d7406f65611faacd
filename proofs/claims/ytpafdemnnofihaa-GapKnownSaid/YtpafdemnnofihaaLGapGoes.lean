/- GapGoes: a gap is a text. -/
import Derived.Test.YtpafdemnnofihaaClean
import Derived.Test.YtpafdemnnofihaaOpenS
import Derived.Deep.DeepCutAuto
import Derived.Deep.CutBlock
namespace Go.Proofs.Ytpafdemnnofihaa
open Go.RowKit
set_option maxHeartbeats 40000000 in
set_option maxRecDepth 100000 in
theorem gapGoes_walk (w : World) (S0 : List UInt8) (hS0 : S0.length ≤ 140737488351232)
    (a1 : Option Addr) (n c1 : Nat) (L : List StepL) (h1 : ReadsSteps w a1 n L) (hn : n * 40 ≤ 140737488351232) (hf1 : ∀ y ∈ L, y.fine) :
    Calls Try.prog 4 #[.string (bstr S0), .slice a1 n c1] w fun e w' => e = .returned (.bool true) ∧ Below w.heap.size w w' := by
  have HS := Lib.hid h1
  have HF := Lib.hid hf1
  clear h1 hf1
  obtain ⟨s0, hs0, hcs, _⟩ : ∃ s : List UInt8, s.length ≤ 252 ∧ (252 < S0.length ∧ S0.take 252 = s ∨ S0.length ≤ 252 ∧ s = S0) ∧ True := by
    rcases Nat.lt_or_ge 252 S0.length with h | h
    · exact ⟨S0.take 252, by simp; omega, .inl ⟨h, rfl⟩, trivial⟩
    · exact ⟨S0, h, .inr ⟨h, rfl⟩, trivial⟩
  go_enter Try.func4, Try.ntmps4
  go_upto_if 15 with fail
  go_cut [0] (fun t wc => t = .string (bstr s0) ∧ w = wc)
  case first =>
    rcases hcs with ⟨hS, hcs⟩ | ⟨hS, rfl⟩
    all_goals
      go_wp2_with fail
      go_meet
      case rel => exact ⟨rfl, rfl⟩
  case rest =>
    clear hcs
    obtain ⟨rfl, rfl⟩ := hcut
    go_wp2_with fail
    refine (makeYes _ s0 hs0).mono ?_
    rintro e w1 ⟨g, rfl, hg, h1, hb1⟩
    have H1 := Lib.hid h1
    have B1 := Lib.hid hb1
    clear h1 hb1
    go_wp2
    go_loopw [0, 7] (fun t i wr => ∃ (k : Nat) (s : List UInt8) (p : Nat), k ≤ n ∧ k ≤ 2000 ∧ i = .int .i64 k ∧ t = .string (bstr s) ∧ Hid (GapAt wr g s p) ∧ Hid (Below w.heap.size w wr)) (fun _ i _ => n - (intOf i).toNat)
    case atStart => exact ⟨0, s0, s0.length, Nat.zero_le _, Nat.zero_le _, rfl, rfl, H1, B1⟩
    case round =>
      obtain ⟨k, s, p, hk, hk2, rfl, rfl, HG, HB⟩ := hrel
      by_cases hgo : ¬ (k < n ∧ k < 2000)
      · rcases Nat.lt_or_ge k n with hkn | hkn
        all_goals
          go_wp2_with fail
          refine (worksC _).mono ?_
          rintro e wv ⟨rfl, hv⟩
          have BBv := Lib.hid (HB.out.trans (hv.mono HB.out.size))
          clear hv
          go_wp2
          go_ret
          exact ⟨rfl, BBv.out⟩
      have hgo : k < n ∧ k < 2000 := by omega
      · obtain ⟨hkn, hk3⟩ := hgo
        have hs := HG.out.room
        have hp := HG.out.place
        obtain ⟨sb, so, x, rfl, hsb, hx, e0, e1, e2, e3⟩ := (HS.out.keep HB.out (Nat.le_refl _)).at hkn
        have HFX := Lib.hid (HF.out x (List.mem_of_getElem? hx))
        obtain ⟨act, lo, hi, txt⟩ := x
        simp only at e0 e1 e2 e3
        clear hx
        obtain ⟨wf0, wf1, wf2, htx⟩ := HFX.out
        simp only at wf0 wf1 wf2 htx
        obtain ⟨hlo1, hlo2⟩ := wf_i64 wf1
        obtain ⟨hhi1, hhi2⟩ := wf_i64 wf2
        clear wf0 wf1 wf2
        have lx := HG.out.lt
        obtain ⟨inb, hinb⟩ : ∃ b : Bool, b = decide (0 ≤ lo ∧ lo ≤ (s.length : Int)) := ⟨_, rfl⟩
        have HIN := Lib.hid hinb
        clear hinb
        go_upto_region 10 with fail
        obtain ⟨w2, hw2⟩ : ∃ w2, w2 = wr.alloc (.cells #[.int .i64 act, .int .i64 lo, .int .i64 hi, .string (bstr txt)] 41) := ⟨_, rfl⟩
        have X2 : Hid (Row w2 wr.heap.size 41 [.int .i64 act, .int .i64 lo, .int .i64 hi, .string (bstr txt)]) := by rw [hw2]; exact row_new wr [.int .i64 act, .int .i64 lo, .int .i64 hi, .string (bstr txt)] _
        have hb2 : Below wr.heap.size wr w2 := by rw [hw2]; exact (Below.refl _ _).alloc (Nat.le_refl _) _
        rw [← hw2]
        have HG2 := Lib.hid (HG.out.keep hb2 lx)
        have HB2 := Lib.hid (HB.out.trans (hb2.mono HB.out.size))
        have l2 := X2.out.lt
        clear hw2 hb2 e0 e1 e2 e3
        have f0 : w2.cell? ⟨wr.heap.size, 0, none⟩ = some (.int .i64 act) := X2.out.cell 0
        have f1 : w2.cell? ⟨wr.heap.size, 1, none⟩ = some (.int .i64 lo) := X2.out.cell 1
        have f2 : w2.cell? ⟨wr.heap.size, 2, none⟩ = some (.int .i64 hi) := X2.out.cell 2
        have f3 : w2.cell? ⟨wr.heap.size, 3, none⟩ = some (.string (bstr txt)) := X2.out.cell 3
        go_cut [9] (fun t wc => t = .bool inb ∧ w2 = wc)
        case first =>
          rcases Int.lt_or_le lo 0 with hl | hl
          · obtain rfl : inb = false := by rw [HIN.out]; simp; omega
            go_wp2_with fail
            go_meet
            case rel => exact ⟨rfl, rfl⟩
          rcases Int.lt_or_le s.length lo with hr | hr
          · obtain rfl : inb = false := by rw [HIN.out]; simp; omega
            have hin : decide (lo ≤ (s.length : Int)) = false := by simpa using hr
            go_wp2_with fail
            go_meet
            case rel => exact ⟨rfl, rfl⟩
          · obtain rfl : inb = true := by rw [HIN.out]; simp; omega
            have hin : decide (lo ≤ (s.length : Int)) = true := by simpa using hr
            go_wp2_with fail
            go_meet
            case rel => exact ⟨rfl, rfl⟩
        obtain ⟨rfl, rfl⟩ := hcut
        go_wp2_with fail
        refine (atG _ g _ _ _ HG2.out.raw).mono ?_
        rintro e wq ⟨rfl, hwq⟩
        subst hwq
        go_upto_block 2 with fail
        go_cut [0, 10, 11, 12] (fun t e x at_ wc => ∃ (s9 : List UInt8) (p9 : Nat) (c9 : Int), t = .string (bstr s9) ∧ e = .int .i64 c9 ∧ x = .int .i64 c9 ∧ at_ = .int .i64 p9 ∧ Hid (GapAt wc g s9 p9) ∧ Hid (Below w.heap.size w wc))
        case rest =>
          obtain ⟨s9, p9, c9, rfl, rfl, rfl, rfl, HG9, HB9⟩ := hcut
          have hcc : (c9 != c9) = false := by simp
          have hs9 := HG9.out.room
          have hp9 := HG9.out.place
          clear f0 f1 f2 f3
          go_wp2_with fail
          refine (textA _ g s9 p9 HG9.out).mono ?_
          rintro e v1 ⟨rfl, q1⟩
          have T1 := Lib.hid (HG9.out.quiet q1)
          have D1 := Lib.hid (HB9.out.trans (q1.below _))
          clear q1
          go_wp2_with fail
          refine (atG _ g _ _ _ T1.out.raw).mono ?_
          rintro e vv ⟨rfl, rfl⟩
          go_wp2_with fail
          refine (lenA _ g s9 p9 T1.out).mono ?_
          rintro e v2 ⟨rfl, q2⟩
          have T2 := Lib.hid (T1.out.quiet q2)
          have D2 := Lib.hid (D1.out.trans (q2.below _))
          clear q2
          go_wp2_with fail
          refine (roomA _ g s9 p9 T2.out).mono ?_
          rintro e v3 ⟨rfl, q3⟩
          have T3 := Lib.hid (T2.out.quiet q3)
          have D3 := Lib.hid (D2.out.trans (q3.below _))
          clear q3
          go_wp2_with fail
          refine (lenA _ g s9 p9 T3.out).mono ?_
          rintro e v4 ⟨rfl, q4⟩
          have T4 := Lib.hid (T3.out.quiet q4)
          have D4 := Lib.hid (D3.out.trans (q4.below _))
          clear q4
          go_wp2_with fail
          refine (cleanC _ g s9 p9 T4.out).mono ?_
          rintro e v5 ⟨rfl, b5⟩
          have T5 := Lib.hid (T4.out.keep b5 T4.out.lt)
          have D5 := Lib.hid (D4.out.trans (b5.mono D4.out.size))
          clear b5
          go_wp2
          go_roundw
          case rel => exact ⟨k + 1, s9, p9, by omega, by omega, by go_num, rfl, T5, D5⟩
          case measure => simp [intOf]; omega
        case first =>
          by_cases h1 : act = 1
          · subst h1
            rcases Int.lt_or_le lo 0 with hl | hl
            · have hno : Hid (lo < 0 ∨ (s.length : Int) < lo) := Or.inl hl
              obtain rfl : inb = false := by rw [HIN.out]; simp; omega
              go_wp2_with fail
              refine (moveAno _ g s p HG2.out lo hno.out).mono ?_
              rintro e w3 ⟨rfl, q3⟩
              have HG3 := Lib.hid (HG2.out.quiet q3)
              have HB3 := Lib.hid (HB2.out.trans (q3.below _))
              have X3 : Hid (Row w3 wr.heap.size 41 [.int .i64 1, .int .i64 lo, .int .i64 hi, .string (bstr txt)]) := Row.keep X2.out (q3.below (wr.heap.size + 1)) (Nat.lt_succ_self _)
              clear q3 f0 f1 f2 f3
              have f0 : w3.cell? ⟨wr.heap.size, 0, none⟩ = some (.int .i64 1) := X3.out.cell 0
              have f1 : w3.cell? ⟨wr.heap.size, 1, none⟩ = some (.int .i64 lo) := X3.out.cell 1
              have f2 : w3.cell? ⟨wr.heap.size, 2, none⟩ = some (.int .i64 hi) := X3.out.cell 2
              have f3 : w3.cell? ⟨wr.heap.size, 3, none⟩ = some (.string (bstr txt)) := X3.out.cell 3
              go_wp2
              go_meet
              case rel => exact ⟨s, p, 6, rfl, rfl, rfl, rfl, HG3, HB3⟩
            rcases Int.lt_or_le s.length lo with hr | hr
            · have hno : Hid (lo < 0 ∨ (s.length : Int) < lo) := Or.inr hr
              have hin : decide (lo ≤ (s.length : Int)) = false := by simpa using hr
              obtain rfl : inb = false := by rw [HIN.out]; simp; omega
              go_wp2_with fail
              refine (moveAno _ g s p HG2.out lo hno.out).mono ?_
              rintro e w3 ⟨rfl, q3⟩
              have HG3 := Lib.hid (HG2.out.quiet q3)
              have HB3 := Lib.hid (HB2.out.trans (q3.below _))
              have X3 : Hid (Row w3 wr.heap.size 41 [.int .i64 1, .int .i64 lo, .int .i64 hi, .string (bstr txt)]) := Row.keep X2.out (q3.below (wr.heap.size + 1)) (Nat.lt_succ_self _)
              clear q3 f0 f1 f2 f3
              have f0 : w3.cell? ⟨wr.heap.size, 0, none⟩ = some (.int .i64 1) := X3.out.cell 0
              have f1 : w3.cell? ⟨wr.heap.size, 1, none⟩ = some (.int .i64 lo) := X3.out.cell 1
              have f2 : w3.cell? ⟨wr.heap.size, 2, none⟩ = some (.int .i64 hi) := X3.out.cell 2
              have f3 : w3.cell? ⟨wr.heap.size, 3, none⟩ = some (.string (bstr txt)) := X3.out.cell 3
              go_wp2
              go_meet
              case rel => exact ⟨s, p, 6, rfl, rfl, rfl, rfl, HG3, HB3⟩
            obtain ⟨f, rfl⟩ : ∃ f : Nat, lo = f := ⟨lo.toNat, by omega⟩
            have hfl : f ≤ s.length := by omega
            obtain rfl : inb = true := by rw [HIN.out]; simp; omega
            go_wp2_with fail
            refine (moveA _ g s p HG2.out f hfl).mono ?_
            rintro e w3 ⟨rfl, h3, g3⟩
            have HG3 := Lib.hid h3
            have HB3 := Lib.hid (below_fresh HB2.out g3 hg)
            have X3 : Hid (Row w3 wr.heap.size 41 [.int .i64 1, .int .i64 f, .int .i64 hi, .string (bstr txt)]) := Row.apart X2.out g3 (by omega)
            clear h3 g3 f0 f1 f2 f3
            have f0 : w3.cell? ⟨wr.heap.size, 0, none⟩ = some (.int .i64 1) := X3.out.cell 0
            have f1 : w3.cell? ⟨wr.heap.size, 1, none⟩ = some (.int .i64 f) := X3.out.cell 1
            have f2 : w3.cell? ⟨wr.heap.size, 2, none⟩ = some (.int .i64 hi) := X3.out.cell 2
            have f3 : w3.cell? ⟨wr.heap.size, 3, none⟩ = some (.string (bstr txt)) := X3.out.cell 3
            go_wp2
            go_meet
            case rel => exact ⟨s, f, 0, rfl, rfl, rfl, rfl, HG3, HB3⟩
          by_cases h2 : act = 2
          · subst h2
            clear h1
            rcases Int.lt_or_le lo 0 with hl | hl
            · have hno : Hid (lo < 0 ∨ (s.length : Int) < lo) := Or.inl hl
              obtain rfl : inb = false := by rw [HIN.out]; simp; omega
              go_wp2_with fail
              refine (insertAno _ g s p HG2.out lo txt hno.out).mono ?_
              rintro e w3 ⟨rfl, q3⟩
              have HG3 := Lib.hid (HG2.out.quiet q3)
              have HB3 := Lib.hid (HB2.out.trans (q3.below _))
              have X3 : Hid (Row w3 wr.heap.size 41 [.int .i64 2, .int .i64 lo, .int .i64 hi, .string (bstr txt)]) := Row.keep X2.out (q3.below (wr.heap.size + 1)) (Nat.lt_succ_self _)
              clear q3 f0 f1 f2 f3
              have f0 : w3.cell? ⟨wr.heap.size, 0, none⟩ = some (.int .i64 2) := X3.out.cell 0
              have f1 : w3.cell? ⟨wr.heap.size, 1, none⟩ = some (.int .i64 lo) := X3.out.cell 1
              have f2 : w3.cell? ⟨wr.heap.size, 2, none⟩ = some (.int .i64 hi) := X3.out.cell 2
              have f3 : w3.cell? ⟨wr.heap.size, 3, none⟩ = some (.string (bstr txt)) := X3.out.cell 3
              go_wp2
              go_meet
              case rel => exact ⟨s, p, 6, rfl, rfl, rfl, rfl, HG3, HB3⟩
            rcases Int.lt_or_le s.length lo with hr | hr
            · have hno : Hid (lo < 0 ∨ (s.length : Int) < lo) := Or.inr hr
              have hin : decide (lo ≤ (s.length : Int)) = false := by simpa using hr
              obtain rfl : inb = false := by rw [HIN.out]; simp; omega
              go_wp2_with fail
              refine (insertAno _ g s p HG2.out lo txt hno.out).mono ?_
              rintro e w3 ⟨rfl, q3⟩
              have HG3 := Lib.hid (HG2.out.quiet q3)
              have HB3 := Lib.hid (HB2.out.trans (q3.below _))
              have X3 : Hid (Row w3 wr.heap.size 41 [.int .i64 2, .int .i64 lo, .int .i64 hi, .string (bstr txt)]) := Row.keep X2.out (q3.below (wr.heap.size + 1)) (Nat.lt_succ_self _)
              clear q3 f0 f1 f2 f3
              have f0 : w3.cell? ⟨wr.heap.size, 0, none⟩ = some (.int .i64 2) := X3.out.cell 0
              have f1 : w3.cell? ⟨wr.heap.size, 1, none⟩ = some (.int .i64 lo) := X3.out.cell 1
              have f2 : w3.cell? ⟨wr.heap.size, 2, none⟩ = some (.int .i64 hi) := X3.out.cell 2
              have f3 : w3.cell? ⟨wr.heap.size, 3, none⟩ = some (.string (bstr txt)) := X3.out.cell 3
              go_wp2
              go_meet
              case rel => exact ⟨s, p, 6, rfl, rfl, rfl, rfl, HG3, HB3⟩
            obtain ⟨f, rfl⟩ : ∃ f : Nat, lo = f := ⟨lo.toNat, by omega⟩
            have hfl : f ≤ s.length := by omega
            rcases Nat.lt_or_ge 252 (s.length + txt.length) with ht | ht
            · have htx2 : 252 - s.length < txt.length := by omega
              obtain rfl : inb = true := by rw [HIN.out]; simp; omega
              go_wp2_with fail
              refine (insertAfull _ g s p HG2.out f txt hfl htx2 htx).mono ?_
              rintro e w3 ⟨rfl, q3⟩
              have HG3 := Lib.hid (HG2.out.quiet q3)
              have HB3 := Lib.hid (HB2.out.trans (q3.below _))
              have X3 : Hid (Row w3 wr.heap.size 41 [.int .i64 2, .int .i64 f, .int .i64 hi, .string (bstr txt)]) := Row.keep X2.out (q3.below (wr.heap.size + 1)) (Nat.lt_succ_self _)
              clear q3 f0 f1 f2 f3
              have f0 : w3.cell? ⟨wr.heap.size, 0, none⟩ = some (.int .i64 2) := X3.out.cell 0
              have f1 : w3.cell? ⟨wr.heap.size, 1, none⟩ = some (.int .i64 f) := X3.out.cell 1
              have f2 : w3.cell? ⟨wr.heap.size, 2, none⟩ = some (.int .i64 hi) := X3.out.cell 2
              have f3 : w3.cell? ⟨wr.heap.size, 3, none⟩ = some (.string (bstr txt)) := X3.out.cell 3
              go_wp2
              go_meet
              case rel => exact ⟨s, p, 161, rfl, rfl, rfl, rfl, HG3, HB3⟩
            have htx2 : txt.length ≤ 252 - s.length := by omega
            obtain ⟨A, hA⟩ : ∃ A, s.take f = A := ⟨_, rfl⟩
            obtain ⟨B, hB⟩ : ∃ B, s.drop f = B := ⟨_, rfl⟩
            have hlA : A.length = f := by rw [← hA]; simp; omega
            have hlB : B.length = s.length - f := by rw [← hB]; simp
            have HBT : Hid (B.take (s.length - f) = B) := List.take_of_length_le (by omega)
            have hl1 : Hid (¬ 9223372036854775807 < A.length + txt.length) := (by omega : ¬ 9223372036854775807 < A.length + txt.length)
            have hl2 : Hid (¬ 9223372036854775807 < A.length + (txt.length + B.length)) := (by omega : ¬ 9223372036854775807 < A.length + (txt.length + B.length))
            have hl3 : Hid (¬ 9223372036854775807 < A.length + txt.length + B.length) := (by omega : ¬ 9223372036854775807 < A.length + txt.length + B.length)
            obtain ⟨s9, hs9⟩ : ∃ s9, A ++ (txt ++ B) = s9 := ⟨_, rfl⟩
            have hs9l : s9.length ≤ 252 := by rw [← hs9]; simp; omega
            have HE : Hid (s.take f ++ (txt ++ s.drop f) = s9) := by show _ = _; rw [hA, hB, hs9]
            have HA9 := Lib.hid hA
            have HB9 := Lib.hid hB
            have HS9 := Lib.hid hs9
            clear hA hB hs9 hlA hlB
            obtain rfl : inb = true := by rw [HIN.out]; simp; omega
            go_wp2_with fail
            refine (insertA _ g s p HG2.out f txt hfl htx2).mono ?_
            rintro e w3 ⟨rfl, h3, g3⟩
            have HG3 := Lib.hid h3
            have HB3 := Lib.hid (below_fresh HB2.out g3 hg)
            have X3 : Hid (Row w3 wr.heap.size 41 [.int .i64 2, .int .i64 f, .int .i64 hi, .string (bstr txt)]) := Row.apart X2.out g3 (by omega)
            clear h3 g3 f0 f1 f2 f3
            have f0 : w3.cell? ⟨wr.heap.size, 0, none⟩ = some (.int .i64 2) := X3.out.cell 0
            have f1 : w3.cell? ⟨wr.heap.size, 1, none⟩ = some (.int .i64 f) := X3.out.cell 1
            have f2 : w3.cell? ⟨wr.heap.size, 2, none⟩ = some (.int .i64 hi) := X3.out.cell 2
            have f3 : w3.cell? ⟨wr.heap.size, 3, none⟩ = some (.string (bstr txt)) := X3.out.cell 3
            rw [HE.out] at HG3
            have hA := HA9.out
            have hB := HB9.out
            have hs9 := HS9.out
            have hB2 := HBT.out
            have hm1 := hl1.out
            have hm2 := hl2.out
            have hm3 := hl3.out
            have hfi : (f : Int) ≤ s.length := by omega
            go_wp2
            go_quiet (fail)
            have HG4 := Lib.hid (HG3.out.quiet (⟨nq, rfl⟩ : Quiet w3 (w3.drewN nq)))
            have HB4 := Lib.hid (HB3.out.trans ((show Quiet w3 (w3.drewN nq) from ⟨nq, rfl⟩).below _))
            go_wp2
            go_meet
            case rel => exact ⟨s9, (f + txt.length), 0, rfl, rfl, rfl, rfl, HG4, HB4⟩
          by_cases h3 : act = 3
          · subst h3
            clear h1 h2
            rcases Int.lt_or_le lo 0 with hl | hl
            · have hno : Hid (lo < 0 ∨ hi < lo ∨ (s.length : Int) < hi) := Or.inl hl
              obtain rfl : inb = false := by rw [HIN.out]; simp; omega
              go_wp2_with fail
              refine (deleteAno _ g s p HG2.out lo hi hno.out).mono ?_
              rintro e w3 ⟨rfl, q3⟩
              have HG3 := Lib.hid (HG2.out.quiet q3)
              have HB3 := Lib.hid (HB2.out.trans (q3.below _))
              have X3 : Hid (Row w3 wr.heap.size 41 [.int .i64 3, .int .i64 lo, .int .i64 hi, .string (bstr txt)]) := Row.keep X2.out (q3.below (wr.heap.size + 1)) (Nat.lt_succ_self _)
              clear q3 f0 f1 f2 f3
              have f0 : w3.cell? ⟨wr.heap.size, 0, none⟩ = some (.int .i64 3) := X3.out.cell 0
              have f1 : w3.cell? ⟨wr.heap.size, 1, none⟩ = some (.int .i64 lo) := X3.out.cell 1
              have f2 : w3.cell? ⟨wr.heap.size, 2, none⟩ = some (.int .i64 hi) := X3.out.cell 2
              have f3 : w3.cell? ⟨wr.heap.size, 3, none⟩ = some (.string (bstr txt)) := X3.out.cell 3
              go_wp2
              go_meet
              case rel => exact ⟨s, p, 6, rfl, rfl, rfl, rfl, HG3, HB3⟩
            rcases Int.lt_or_le hi lo with hm | hm
            · have hno : Hid (lo < 0 ∨ hi < lo ∨ (s.length : Int) < hi) := Or.inr (Or.inl hm)
              rcases Int.lt_or_le s.length lo with hr | hr
              · have hin : decide (lo ≤ (s.length : Int)) = false := by simpa using hr
                obtain rfl : inb = false := by rw [HIN.out]; simp; omega
                go_wp2_with fail
                refine (deleteAno _ g s p HG2.out lo hi hno.out).mono ?_
                rintro e w3 ⟨rfl, q3⟩
                have HG3 := Lib.hid (HG2.out.quiet q3)
                have HB3 := Lib.hid (HB2.out.trans (q3.below _))
                have X3 : Hid (Row w3 wr.heap.size 41 [.int .i64 3, .int .i64 lo, .int .i64 hi, .string (bstr txt)]) := Row.keep X2.out (q3.below (wr.heap.size + 1)) (Nat.lt_succ_self _)
                clear q3 f0 f1 f2 f3
                have f0 : w3.cell? ⟨wr.heap.size, 0, none⟩ = some (.int .i64 3) := X3.out.cell 0
                have f1 : w3.cell? ⟨wr.heap.size, 1, none⟩ = some (.int .i64 lo) := X3.out.cell 1
                have f2 : w3.cell? ⟨wr.heap.size, 2, none⟩ = some (.int .i64 hi) := X3.out.cell 2
                have f3 : w3.cell? ⟨wr.heap.size, 3, none⟩ = some (.string (bstr txt)) := X3.out.cell 3
                go_wp2
                go_meet
                case rel => exact ⟨s, p, 6, rfl, rfl, rfl, rfl, HG3, HB3⟩
              · have hin : decide (lo ≤ (s.length : Int)) = true := by simpa using hr
                obtain rfl : inb = true := by rw [HIN.out]; simp; omega
                go_wp2_with fail
                refine (deleteAno _ g s p HG2.out lo hi hno.out).mono ?_
                rintro e w3 ⟨rfl, q3⟩
                have HG3 := Lib.hid (HG2.out.quiet q3)
                have HB3 := Lib.hid (HB2.out.trans (q3.below _))
                have X3 : Hid (Row w3 wr.heap.size 41 [.int .i64 3, .int .i64 lo, .int .i64 hi, .string (bstr txt)]) := Row.keep X2.out (q3.below (wr.heap.size + 1)) (Nat.lt_succ_self _)
                clear q3 f0 f1 f2 f3
                have f0 : w3.cell? ⟨wr.heap.size, 0, none⟩ = some (.int .i64 3) := X3.out.cell 0
                have f1 : w3.cell? ⟨wr.heap.size, 1, none⟩ = some (.int .i64 lo) := X3.out.cell 1
                have f2 : w3.cell? ⟨wr.heap.size, 2, none⟩ = some (.int .i64 hi) := X3.out.cell 2
                have f3 : w3.cell? ⟨wr.heap.size, 3, none⟩ = some (.string (bstr txt)) := X3.out.cell 3
                go_wp2
                go_meet
                case rel => exact ⟨s, p, 6, rfl, rfl, rfl, rfl, HG3, HB3⟩
            rcases Int.lt_or_le s.length hi with hr | hr
            · have hno : Hid (lo < 0 ∨ hi < lo ∨ (s.length : Int) < hi) := Or.inr (Or.inr hr)
              rcases Int.lt_or_le s.length lo with hr2 | hr2
              · have hin : decide (lo ≤ (s.length : Int)) = false := by simpa using hr2
                obtain rfl : inb = false := by rw [HIN.out]; simp; omega
                go_wp2_with fail
                refine (deleteAno _ g s p HG2.out lo hi hno.out).mono ?_
                rintro e w3 ⟨rfl, q3⟩
                have HG3 := Lib.hid (HG2.out.quiet q3)
                have HB3 := Lib.hid (HB2.out.trans (q3.below _))
                have X3 : Hid (Row w3 wr.heap.size 41 [.int .i64 3, .int .i64 lo, .int .i64 hi, .string (bstr txt)]) := Row.keep X2.out (q3.below (wr.heap.size + 1)) (Nat.lt_succ_self _)
                clear q3 f0 f1 f2 f3
                have f0 : w3.cell? ⟨wr.heap.size, 0, none⟩ = some (.int .i64 3) := X3.out.cell 0
                have f1 : w3.cell? ⟨wr.heap.size, 1, none⟩ = some (.int .i64 lo) := X3.out.cell 1
                have f2 : w3.cell? ⟨wr.heap.size, 2, none⟩ = some (.int .i64 hi) := X3.out.cell 2
                have f3 : w3.cell? ⟨wr.heap.size, 3, none⟩ = some (.string (bstr txt)) := X3.out.cell 3
                go_wp2
                go_meet
                case rel => exact ⟨s, p, 6, rfl, rfl, rfl, rfl, HG3, HB3⟩
              · have hin : decide (lo ≤ (s.length : Int)) = true := by simpa using hr2
                obtain rfl : inb = true := by rw [HIN.out]; simp; omega
                go_wp2_with fail
                refine (deleteAno _ g s p HG2.out lo hi hno.out).mono ?_
                rintro e w3 ⟨rfl, q3⟩
                have HG3 := Lib.hid (HG2.out.quiet q3)
                have HB3 := Lib.hid (HB2.out.trans (q3.below _))
                have X3 : Hid (Row w3 wr.heap.size 41 [.int .i64 3, .int .i64 lo, .int .i64 hi, .string (bstr txt)]) := Row.keep X2.out (q3.below (wr.heap.size + 1)) (Nat.lt_succ_self _)
                clear q3 f0 f1 f2 f3
                have f0 : w3.cell? ⟨wr.heap.size, 0, none⟩ = some (.int .i64 3) := X3.out.cell 0
                have f1 : w3.cell? ⟨wr.heap.size, 1, none⟩ = some (.int .i64 lo) := X3.out.cell 1
                have f2 : w3.cell? ⟨wr.heap.size, 2, none⟩ = some (.int .i64 hi) := X3.out.cell 2
                have f3 : w3.cell? ⟨wr.heap.size, 3, none⟩ = some (.string (bstr txt)) := X3.out.cell 3
                go_wp2
                go_meet
                case rel => exact ⟨s, p, 6, rfl, rfl, rfl, rfl, HG3, HB3⟩
            obtain ⟨f, rfl⟩ : ∃ f : Nat, lo = f := ⟨lo.toNat, by omega⟩
            obtain ⟨u, rfl⟩ : ∃ u : Nat, hi = u := ⟨hi.toNat, by omega⟩
            have hfu : f ≤ u := by omega
            have hul : u ≤ s.length := by omega
            obtain ⟨A, hA⟩ : ∃ A, s.take f = A := ⟨_, rfl⟩
            obtain ⟨B, hB⟩ : ∃ B, s.drop u = B := ⟨_, rfl⟩
            have hlA : A.length = f := by rw [← hA]; simp; omega
            have hlB : B.length = s.length - u := by rw [← hB]; simp
            have HBT : Hid (B.take (s.length - u) = B) := List.take_of_length_le (by omega)
            have hl1 : Hid (¬ 9223372036854775807 < A.length + B.length) := (by omega : ¬ 9223372036854775807 < A.length + B.length)
            obtain ⟨s9, hs9⟩ : ∃ s9, A ++ B = s9 := ⟨_, rfl⟩
            have hs9l : s9.length ≤ 252 := by rw [← hs9]; simp; omega
            have HE : Hid (s.take f ++ s.drop u = s9) := by show _ = _; rw [hA, hB, hs9]
            have HA9 := Lib.hid hA
            have HB9 := Lib.hid hB
            have HS9 := Lib.hid hs9
            clear hA hB hs9 hlA hlB
            obtain rfl : inb = true := by rw [HIN.out]; simp; omega
            go_wp2_with fail
            refine (deleteA _ g s p HG2.out f u hfu hul).mono ?_
            rintro e w3 ⟨rfl, h3, g3⟩
            have HG3 := Lib.hid h3
            have HB3 := Lib.hid (below_fresh HB2.out g3 hg)
            have X3 : Hid (Row w3 wr.heap.size 41 [.int .i64 3, .int .i64 f, .int .i64 u, .string (bstr txt)]) := Row.apart X2.out g3 (by omega)
            clear h3 g3 f0 f1 f2 f3
            have f0 : w3.cell? ⟨wr.heap.size, 0, none⟩ = some (.int .i64 3) := X3.out.cell 0
            have f1 : w3.cell? ⟨wr.heap.size, 1, none⟩ = some (.int .i64 f) := X3.out.cell 1
            have f2 : w3.cell? ⟨wr.heap.size, 2, none⟩ = some (.int .i64 u) := X3.out.cell 2
            have f3 : w3.cell? ⟨wr.heap.size, 3, none⟩ = some (.string (bstr txt)) := X3.out.cell 3
            rw [HE.out] at HG3
            have hA := HA9.out
            have hB := HB9.out
            have hs9 := HS9.out
            have hB2 := HBT.out
            have hm1 := hl1.out
            have hfi : (f : Int) ≤ s.length := by omega
            have hui : (u : Int) ≤ s.length := by omega
            go_wp2
            go_quiet (fail)
            have HG4 := Lib.hid (HG3.out.quiet (⟨nq, rfl⟩ : Quiet w3 (w3.drewN nq)))
            have HB4 := Lib.hid (HB3.out.trans ((show Quiet w3 (w3.drewN nq) from ⟨nq, rfl⟩).below _))
            go_wp2
            go_meet
            case rel => exact ⟨s9, f, 0, rfl, rfl, rfl, rfl, HG4, HB4⟩
          have e1' : (act == 1) = false := by simpa using h1
          have e2' : (act == 2) = false := by simpa using h2
          have e3' : (act == 3) = false := by simpa using h3
          clear h1 h2 h3
          go_wp2
          go_meet
          case rel => exact ⟨s, p, 0, rfl, rfl, rfl, rfl, HG2, HB2⟩
end Go.Proofs.Ytpafdemnnofihaa
