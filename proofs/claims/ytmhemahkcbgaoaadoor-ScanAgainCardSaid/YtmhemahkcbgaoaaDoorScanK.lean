/- A line's tokens: the two loops of the first label, and what lies behind the second one. -/
import Derived.Test.YtmhemahkcbgaoaaDoorScanJ
namespace Go.Proofs.YtmhemahkcbgaoaaDoor
set_option linter.unusedVariables false
set_option linter.unusedSimpArgs false
open Go.RowKit
open Go.Lib hiding intOf
def fstC : Code → Code
  | .seq a _ => a
  | c => c
def sndC : Code → Code
  | .seq _ b => b
  | c => c
theorem scanGo_same {l : List UInt8} {f i j : Nat} {acc : List Tok} (h : endOf BlankN l i = endOf BlankN l j) : scanGo l (f + 1) i acc = scanGo l (f + 1) j acc := by
  rw [scanGo, scanGo, h]
/-- the frame, with the place at which the token begins -/
def SF7 (l : List UInt8) (B : Nat) (v : Value) (i j : Nat) (u : Nat → Value) : Act := SFR l B v i (fun k => if k = 7 then .int .i64 (j : Int) else u k)
set_option maxHeartbeats 4000000 in
set_option maxRecDepth 100000 in
theorem scan_loop1 (l : List UInt8) (hm : l.length ≤ 16384) (B : Nat) (v : Value) (i : Nat) (hi : i ≤ l.length) (u : Nat → Value) (wr : World) :
    ∃ X, findLabel (scopeOf Tryd.f18.body) 0 = some (.seq .skip X) ∧ ∀ (K : Act → World → Prop) (Q : Exit → Act → World → Prop),
      (∀ (j : Nat) (a' : Act), i ≤ j → j ≤ l.length → endOf BlankN l i = j → endOf BlankN l j = j → a' = SFR l B v j (fun k => a'.tmps.getD k undef) → K a' wr) →
      (fstC X).wp Tryd.prog (Exit.then K Q) (SFR l B v i u) wr := by
  refine ⟨_, rfl, ?_⟩
  intro K Q hK
  dsimp only [fstC]
  obtain ⟨n, hn⟩ : ∃ n, n = l.length := ⟨_, rfl⟩
  have hsz : (bstr l).size = n := by rw [bstr_size, hn]
  have HN := Lib.hid hn
  have HK := Lib.hid hK
  rw [← hn] at hm hi
  clear hn hK
  unfold SFR
  go_wp2
  go_loopw [6] (fun iv w2 => ∃ j : Nat, i ≤ j ∧ j ≤ n ∧ iv = .int .i64 (j : Int) ∧ endOf BlankN l j = endOf BlankN l i ∧ w2 = wr) (fun iv _ => n - (RowKit.intOf iv).toNat)
  case atStart => exact ⟨i, Nat.le_refl _, hi, rfl, rfl, rfl⟩
  case round =>
    obtain ⟨j, hij, hjn, rfl, hen, rfl⟩ := hrel
    by_cases hlt : j < n
    · obtain ⟨x, hx⟩ := some_at (l := l) (k := j) (by rw [← HN.out]; exact hlt)
      have ij : j < (bstr l).size := by rw [hsz]; exact hlt
      have hxa : (bstr l)[j]'ij = x := bstr_at hx _
      by_cases hbl : BlankN x.toNat
      · have HE := Lib.hid ((endOf_step hx hbl).trans hen)
        have HBL := Lib.hid (fun w1 => decide_eq_true hbl ▸ blankC w1 x.toNat)
        clear hx hbl hen
        go_wp2_with (go_at_call 39; refine (HBL.out _).mono ?_; rintro e wq ⟨rfl, hwq⟩; obtain rfl := hwq.symm)
        go_roundw
        case rel => exact ⟨j + 1, by omega, by omega, by go_num, HE.out, trivial⟩
        case measure => simp [RowKit.intOf]; omega
      · have HEJ := Lib.hid (hen.symm.trans (endOf_stop hx hbl))
        have HEJ2 := Lib.hid (endOf_stop hx hbl)
        have HBL := Lib.hid (fun w1 => decide_eq_false hbl ▸ blankC w1 x.toNat)
        clear hx hbl hen
        go_wp2_with (go_at_call 39; refine (HBL.out _).mono ?_; rintro e wq ⟨rfl, hwq⟩; obtain rfl := hwq.symm)
        exact HK.out j _ hij (by rw [← HN.out]; omega) HEJ.out HEJ2.out rfl
    · obtain rfl : j = n := by omega
      have HEJ := Lib.hid (hen.symm.trans (endOf_end (by rw [← HN.out]; exact Nat.le_refl _)))
      have HEJ2 := Lib.hid (endOf_end (p := BlankN) (l := l) (i := j) (by rw [← HN.out]; exact Nat.le_refl _))
      clear hen
      go_wp2
      exact HK.out j _ hij (by rw [← HN.out]; omega) HEJ.out HEJ2.out rfl
set_option maxHeartbeats 4000000 in
set_option maxRecDepth 100000 in
theorem scan_loop2 (l : List UInt8) (hm : l.length ≤ 16384) (B : Nat) (v : Value) (j : Nat) (hj : j ≤ l.length) (wr : World) :
    ∃ X, findLabel (scopeOf Tryd.f18.body) 0 = some (.seq .skip X) ∧ ∀ (K : Act → World → Prop) (Q : Exit → Act → World → Prop) (a : Act), a = SF7 l B v j j (fun k => a.tmps.getD k undef) →
      (∀ (k : Nat) (a' : Act), j ≤ k → k ≤ l.length → endOf RunN l j = k → a' = SF7 l B v k j (fun k => a'.tmps.getD k undef) → K a' wr) →
      (fstC (sndC (sndC (sndC (sndC X))))).wp Tryd.prog (Exit.then K Q) a wr := by
  refine ⟨_, rfl, ?_⟩
  intro K Q a ha hK
  generalize (fun k => a.tmps.getD k undef) = u at ha
  subst ha
  dsimp only [fstC, sndC]
  obtain ⟨n, hn⟩ : ∃ n, n = l.length := ⟨_, rfl⟩
  have hsz : (bstr l).size = n := by rw [bstr_size, hn]
  have HN := Lib.hid hn
  have HK := Lib.hid hK
  rw [← hn] at hm hj
  clear hn hK
  unfold SF7 SFR
  simp only [if_true, Nat.reduceEqDiff, if_false]
  go_wp2
  go_loopw [6] (fun iv w2 => ∃ k : Nat, j ≤ k ∧ k ≤ n ∧ iv = .int .i64 (k : Int) ∧ endOf RunN l k = endOf RunN l j ∧ w2 = wr) (fun iv _ => n - (RowKit.intOf iv).toNat)
  case atStart => exact ⟨j, Nat.le_refl _, hj, rfl, rfl, rfl⟩
  case round =>
    obtain ⟨k, hij, hjn, rfl, hen, rfl⟩ := hrel
    by_cases hlt : k < n
    · obtain ⟨x, hx⟩ := some_at (l := l) (k := k) (by rw [← HN.out]; exact hlt)
      have ij : k < (bstr l).size := by rw [hsz]; exact hlt
      have hxa : (bstr l)[k]'ij = x := bstr_at hx _
      by_cases hbl : RunN x.toNat
      · have HE := Lib.hid ((endOf_step hx hbl).trans hen)
        have HBL := Lib.hid (fun w1 => decide_eq_true hbl ▸ runsC w1 x.toNat)
        clear hx hbl hen
        go_wp2_with (go_at_call 40; refine (HBL.out _).mono ?_; rintro e wq ⟨rfl, hwq⟩; obtain rfl := hwq.symm)
        go_roundw
        case rel => exact ⟨k + 1, by omega, by omega, by go_num, HE.out, trivial⟩
        case measure => simp [RowKit.intOf]; omega
      · have HEJ := Lib.hid (hen.symm.trans (endOf_stop hx hbl))
        have HBL := Lib.hid (fun w1 => decide_eq_false hbl ▸ runsC w1 x.toNat)
        clear hx hbl hen
        go_wp2_with (go_at_call 40; refine (HBL.out _).mono ?_; rintro e wq ⟨rfl, hwq⟩; obtain rfl := hwq.symm)
        exact HK.out k _ hij (by rw [← HN.out]; omega) HEJ.out rfl
    · obtain rfl : k = n := by omega
      have HEJ := Lib.hid (hen.symm.trans (endOf_end (by rw [← HN.out]; exact Nat.le_refl _)))
      clear hen
      go_wp2
      exact HK.out k _ hij (by rw [← HN.out]; omega) HEJ.out rfl
end Go.Proofs.YtmhemahkcbgaoaaDoor
