/- units, Words: the iterators of the program. -/
import Derived.Test.YtgcgbpehedkckaaIter
namespace Go.Proofs.Ytgcgbpehedkckaa
open Go.RowKit Go.Shelf
attribute [local go_sem] Oper.semAt_some
/-- the units that a range touches -/
def unitsL (p n s : Int) : List Int := if p < 0 ∨ n < 1 ∨ n > 9223372036854775807 - p then [] else (List.range (((p + n - 1) / s - p / s).toNat + 1)).map fun (i : Nat) => p / s + (i : Int)
theorem unitsL_at {p n s : Int} (h : ¬ (p < 0 ∨ n < 1 ∨ n > 9223372036854775807 - p)) (hs : 1 ≤ s) {k : Nat} (hk : p / s + (k : Int) ≤ (p + n - 1) / s) : (unitsL p n s)[k]? = some (p / s + (k : Int)) := by
  unfold unitsL
  rw [if_neg h, List.getElem?_map, List.getElem?_range (by omega)]
  rfl
theorem unitsL_len {p n s : Int} (h : ¬ (p < 0 ∨ n < 1 ∨ n > 9223372036854775807 - p)) : (unitsL p n s).length = ((p + n - 1) / s - p / s).toNat + 1 := by
  unfold unitsL
  rw [if_neg h]; simp
theorem boxed_keep {K : Nat → Prop} {lo hi b : Nat} {t : TypeId} {v : Value} {W W' : World} (h : Boxed W b t v) (hk : KeepsC K lo hi W W') (hb : K b) : Boxed W' b t v := (hk.rows b (.inl hb)).trans h
theorem boxed_below {n0 b : Nat} {t : TypeId} {v : Value} {W W' : World} (h : Boxed W b t v) (hk : Below n0 W W') (hb : b < n0) : Boxed W' b t v := (hk.block b hb).trans h
set_option maxHeartbeats 1000000 in
theorem units1 (F : Fence) (m : Nat) (hF : F.fn 57) (hro : F.round = none) (hm : 1 ≤ m) (b1 b2 b3 : Nat) (w0 : World) (p n : Int)
    (h1 : Boxed w0 b1 3 (.int .i64 p)) (h2 : Boxed w0 b2 3 (.int .i64 n)) (h3 : Boxed w0 b3 3 (.int .i64 8)) (hp : p ≤ 9223372036854775807) (hp0 : -9223372036854775808 ≤ p) (hn : n ≤ 9223372036854775807) :
    SeqC F m Try.prog 57 #[.pointer (some ⟨b1, 0, none⟩), .pointer (some ⟨b2, 0, none⟩), .pointer (some ⟨b3, 0, none⟩)] (fun x : Int => #[.int .i64 x]) (fun r => r = b1 ∨ r = b2 ∨ r = b3) w0 (fun xs => xs = unitsL p n 8) (fun pre => pre <+: unitsL p n 8) := by
  intro l J Jx W hW hn0 hJ hJx hY h0
  have k1 : Boxed W b1 3 (.int .i64 p) := ((hW b1 (.inl rfl)).2).trans h1
  have k2 : Boxed W b2 3 (.int .i64 n) := ((hW b2 (.inr (.inl rfl))).2).trans h2
  have k3 : Boxed W b3 3 (.int .i64 8) := ((hW b3 (.inr (.inr rfl))).2).trans h3
  clear hW
  have c1 := k1.cell
  have c2 := k2.cell
  have c3 := k3.cell
  obtain ⟨hi, hhi⟩ : ∃ hi, hi = W.heap.size := ⟨_, rfl⟩
  have HJ := Lib.hid (h0 hi (by omega))
  have HY := Lib.hid hY
  have HH := Lib.hid hhi
  clear hY h0 hJ hJx hhi h1 h2 h3
  have HK : Hid (Boxed W b1 3 (.int .i64 p) ∧ Boxed W b2 3 (.int .i64 n) ∧ Boxed W b3 3 (.int .i64 8)) := ⟨k1, k2, k3⟩
  clear k1 k2 k3
  by_cases hc : p < 0 ∨ n < 1 ∨ n > 9223372036854775807 - p
  · have HE : Hid ([] = unitsL p n 8) := by show _ = _; unfold unitsL; rw [if_pos hc]
    refine callsIn_of_wp Try.func57 rfl hF ?_ hro
    simp only [Try.ntmps57, List.size_toArray, List.length_cons, List.length_nil, Nat.reduceAdd, Nat.reduceSub, Array.replicate_succ, Array.replicate_zero, List.push_toArray, List.append_toArray, List.nil_append, List.cons_append]
    rcases hc with hc | hc | hc
    · skip
      gi_wp2
      refine bodyPost_ret (results_none rfl _ _ _) rfl ?_
      exact ⟨⟨_, rfl⟩, hi, by rw [HH.out]; exact Nat.le_refl _, .inl (HE.out ▸ HJ.out)⟩
    · skip
      by_cases a1 : p < 0
      · gi_wp2
        refine bodyPost_ret (results_none rfl _ _ _) rfl ?_
        exact ⟨⟨_, rfl⟩, hi, by rw [HH.out]; exact Nat.le_refl _, .inl (HE.out ▸ HJ.out)⟩
      · gi_wp2
        refine bodyPost_ret (results_none rfl _ _ _) rfl ?_
        exact ⟨⟨_, rfl⟩, hi, by rw [HH.out]; exact Nat.le_refl _, .inl (HE.out ▸ HJ.out)⟩
    · skip
      by_cases a1 : p < 0
      · gi_wp2
        refine bodyPost_ret (results_none rfl _ _ _) rfl ?_
        exact ⟨⟨_, rfl⟩, hi, by rw [HH.out]; exact Nat.le_refl _, .inl (HE.out ▸ HJ.out)⟩
      · by_cases a2 : n < 1
        · gi_wp2
          refine bodyPost_ret (results_none rfl _ _ _) rfl ?_
          exact ⟨⟨_, rfl⟩, hi, by rw [HH.out]; exact Nat.le_refl _, .inl (HE.out ▸ HJ.out)⟩
        · have a3 : 9223372036854775807 - p < n := by omega
          clear hc
          gi_wp2
          refine bodyPost_ret (results_none rfl _ _ _) rfl ?_
          exact ⟨⟨_, rfl⟩, hi, by rw [HH.out]; exact Nat.le_refl _, .inl (HE.out ▸ HJ.out)⟩
  · refine callsIn_of_wp Try.func57 rfl hF ?_ hro
    simp only [Try.ntmps57, List.size_toArray, List.length_cons, List.length_nil, Nat.reduceAdd, Nat.reduceSub, Array.replicate_succ, Array.replicate_zero, List.push_toArray, List.append_toArray, List.nil_append, List.cons_append]
    have q1 : 0 ≤ p := by omega
    have q2 : 1 ≤ n := by omega
    have q3 : p + n ≤ 9223372036854775807 := by omega
    have q4 : ¬ 9223372036854775807 - p < n := by omega
    have HC := Lib.hid hc
    clear hc
    have q5 : p / 8 ≤ (p + n - 1) / 8 := by omega
    have hlen : (unitsL p n 8).length = ((p + n - 1) / 8 - p / 8).toNat + 1 := unitsL_len HC.out
    have HL := Lib.hid hlen
    clear hlen
    gi_wp2
    clear c1 c2 c3
    gi_loopw [5] (fun u wr => ∃ k : Nat, u = .int .i64 (p / 8 + (k : Int)) ∧ Hid (k ≤ (unitsL p n 8).length) ∧ Hid (J hi ((unitsL p n 8).take k) wr ∧ KeepsC (fun r => r = b1 ∨ r = b2 ∨ r = b3) W.heap.size hi W wr)) (fun u _ => ((p + n - 1) / 8 + 1 - intOf u).toNat)
    case atStart => exact ⟨0, by simp, Nat.zero_le _, by simpa using HJ.out, KeepsC.refl _ _ _ _⟩
    case round =>
      obtain ⟨k, rfl, HLE, HR⟩ := hrel
      have c1 := (boxed_keep HK.out.1 HR.out.2 (.inl rfl)).cell
      have c2 := (boxed_keep HK.out.2.1 HR.out.2 (.inr (.inl rfl))).cell
      have c3 := (boxed_keep HK.out.2.2 HR.out.2 (.inr (.inr rfl))).cell
      by_cases hlt : p / 8 + (k : Int) ≤ (p + n - 1) / 8
      · have HX := Lib.hid (unitsL_at HC.out (by decide) hlt)
        obtain ⟨fn, tmps, assign, body, hy, hR⟩ := HY.out hi _ (p / 8 + (k : Int)) wr HR.out.1 (by rw [← take_next HX.out]; exact List.take_prefix _ _) (by rw [HH.out]; exact Nat.le_refl _) (by rw [HH.out]; exact HR.out.2.size)
        have hR2 := Lib.hid hR
        clear hR
        gi_wp2
        refine hR2.out.mono ?_
        clear hR2 hy c1 c2 c3
        rintro e W3 (⟨rfl, hJ3, hk3⟩ | ⟨rfl, hJx3, _⟩)
        · have HR3 : Hid (J hi ((unitsL p n 8).take (k + 1)) W3 ∧ KeepsC (fun r => r = b1 ∨ r = b2 ∨ r = b3) W.heap.size hi W W3) := ⟨by rw [take_next HX.out]; exact hJ3, HR.out.2.trans hk3⟩
          have c1 := (boxed_keep HK.out.1 HR3.out.2 (.inl rfl)).cell
          have c2 := (boxed_keep HK.out.2.1 HR3.out.2 (.inr (.inl rfl))).cell
          have c3 := (boxed_keep HK.out.2.2 HR3.out.2 (.inr (.inr rfl))).cell
          clear hJ3 hk3
          gi_wp2
          go_roundw
          case rel => exact ⟨k + 1, by rw [show p / 8 + (k : Int) + 1 = p / 8 + ((k + 1 : Nat) : Int) from by omega], lt_of_at HX.out, HR3⟩
          case measure => simp [intOf]; omega
        · have HS : Hid ((unitsL p n 8).take k ++ [p / 8 + (k : Int)] <+: unitsL p n 8) := by
            show _ <+: _
            rw [← take_next HX.out]; exact List.take_prefix _ _
          have HX3 := Lib.hid hJx3
          clear hJx3
          gi_wp2
          refine bodyPost_ret (results_none rfl _ _ _) rfl ?_
          exact ⟨⟨_, rfl⟩, hi, by rw [HH.out]; exact Nat.le_refl _, .inr ⟨_, HS.out, HX3.out⟩⟩
      · have hk : k = (unitsL p n 8).length := by have h1 := HL.out; have h2 := HLE.out; omega
        have HE := Lib.hid hk
        clear hk
        gi_wp2
        go_end0
        refine ⟨⟨_, rfl⟩, hi, by rw [HH.out]; exact Nat.le_refl _, .inl ?_⟩
        have h := HR.out.1
        rw [HE.out, List.take_of_length_le (Nat.le_refl _)] at h
        exact h
end Go.Proofs.Ytgcgbpehedkckaa
