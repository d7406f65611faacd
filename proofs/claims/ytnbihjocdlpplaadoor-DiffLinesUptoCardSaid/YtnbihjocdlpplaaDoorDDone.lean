/- The program's writer: done; what a patch of a call's own is. -/
import Derived.Test.YtnbihjocdlpplaaDoorDWriter
import Derived.Test.YtnbihjocdlpplaaDoorDEq
namespace Go.Proofs.YtnbihjocdlpplaaDoor
set_option linter.unusedVariables false
set_option linter.unusedSimpArgs false
open Go.RowKit
open Go.Lib
/-- a patch of the call's own: hunks in one block, the lines of each in a block of their own, all without spare room -/
def PatchAt (B : Nat) (w : World) (v : Value) (H : List Hk) : Prop :=
  ∃ (a : Option Addr) (c : Nat) (hs : List HCell), v = .slice a H.length H.length ∧ SW B w (.slice a H.length c) hs H [] ∧ ∀ h ∈ hs, h.2.2.1 = h.2.2.2
theorem SW.bare {B : Nat} {w : World} {vo : Value} {hs : List HCell} {H : List Hk} {vals : List Wait} (h : SW B w vo hs H vals) : SW B w vo hs H [] :=
  ⟨h.own, h.len, fun k c x h1 h2 => by
    obtain ⟨q1, q2, q3, q4, q5⟩ := h.each k c x h1 h2
    exact ⟨q1, q2, q3, q4, fun ad had => ⟨(q5 ad had).1, (q5 ad had).2.1, fun p hp => (by cases hp)⟩⟩, fun p hp => (by cases hp), fun i j p q hi hj _ => (by cases hi), h.dist⟩
theorem PatchAt.keep {B : Nat} {w w' : World} {v : Value} {H : List Hk} (h : PatchAt B w v H) (hb : Below w.heap.size w w') : PatchAt B w' v H := by
  obtain ⟨a, c, hs, h1, h2, h3⟩ := h
  exact ⟨a, c, hs, h1, h2.keep hb, h3⟩
theorem hk_len : ∀ hs : List HCell, (hs.flatMap hkCells).length = hs.length * 2 := by
  intro hs
  induction hs with
  | nil => rfl
  | cons x l ih => rw [List.flatMap_cons, List.length_append, ih, List.length_cons]; show 2 + _ = _; omega
/-- what a row of hunks reads as -/
theorem SW.reads {B : Nat} {w : World} {a : Option Addr} {c : Nat} {hs : List HCell} {H : List Hk} {vals : List Wait} {n : Nat} (h : SW B w (.slice a n c) hs H vals) : n = H.length ∧ ReadsK w a H.length (H.map toI) := by
  have hn : n = hs.length := by
    rcases h.own.2 with ⟨h1, h2⟩ | ⟨g, cap, cur, hv, _⟩
    · cases h1; exact h2.symm
    · cases hv; rfl
  subst hn
  refine ⟨h.len, by simp, fun h0 => ?_⟩
  obtain ⟨g, rfl, hg, hc⟩ := own_cell h.own (by rw [h.len]; exact h0)
  refine ⟨g, 0, rfl, hg, fun i x hx => ?_⟩
  rw [List.getElem?_map] at hx
  cases hy : H[i]? with
  | none => rw [hy] at hx; cases hx
  | some y =>
    rw [hy] at hx
    cases hx
    have hil := (List.getElem?_eq_some_iff.1 hy).1
    have hp : hs[i]? = some (hs[i]'(by rw [h.len]; exact hil)) := by simp
    obtain ⟨q1, q2, q3, q4, q5⟩ := h.each i _ y hp hy
    have hl : (hs[i]'(by rw [h.len]; exact hil)).2.2.1 = y.2.length := q4.len.symm
    have f0 := flat_at (f := hkCells) (c := 2) (fun _ => rfl) hp (j := 0) rfl
    have f1 := flat_at (f := hkCells) (c := 2) (fun _ => rfl) hp (j := 1) rfl
    refine ⟨_, _, ?_, ?_, by show ReadsS w _ y.2.length y.2; rw [← hl]; exact q4, by show y.2.length ≤ _; rw [← hl]; exact q2, q3⟩
    · rw [Nat.zero_add]
      have := hc _ _ f0
      rw [Nat.add_zero] at this
      rw [this, q1]
      rfl
    · rw [Nat.zero_add]
      rw [hc _ _ f1, hl]
      rfl
theorem PatchAt.reads {B : Nat} {w : World} {v : Value} {H : List Hk} (h : PatchAt B w v H) : ∃ a, v = .slice a H.length H.length ∧ ReadsK w a H.length (H.map toI) := by
  obtain ⟨a, c, hs, h1, h2, _⟩ := h
  exact ⟨a, h1, h2.reads.2⟩
theorem own_caps {w : World} {B : Nat} {e : TypeId} {size : Nat} {a : Option Addr} {n c m : Nat} {xs : List Value} (h : w.ownsRow B e size (.slice a n c) m xs) : n = m ∧ n ≤ c ∧ c ≤ maxLen := by
  rcases h.2 with ⟨h1, h2⟩ | ⟨g, cap, cur, hv, _, _, h3, h4, _⟩
  · cases h1; subst h2; exact ⟨rfl, Nat.le_refl _, Nat.zero_le _⟩
  · cases hv; exact ⟨rfl, h3, h4⟩
set_option maxHeartbeats 8000000 in
set_option maxRecDepth 100000 in
theorem doneC (w : World) (B p : Nat) (st : St7) (h : WS B w p st) (hH : st.out.length ≤ 1048500) :
    Calls Tryd.prog 43 #[.pointer (some ⟨p, 0, none⟩)] w fun e w' => ∃ v, e = .returned v ∧ PatchAt B w' v (doneW st) ∧ KB B p w w' ∧ B ≤ w'.heap.size := by
  obtain ⟨hs0, vo0, vs, vg, vc, h0⟩ := h
  have HW0 := Lib.hid h0
  clear h0
  have k1 := putK_le 1 st.same st.out
  have k2 := putK_le 2 st.gone (putK 1 st.same st.out)
  go_enter Tryd.func43, Tryd.ntmps43
  go_upto_region 4 with (first
    | (go_at_call_of 74 (Value.int .i64 1); refine (putC w B p hs0 st.out vo0 vs [(vs, st.same), (vg, st.gone), (vc, st.come)] 0 1 st.same HW0.out rfl (by omega)).mono ?_; rintro e w1 ⟨⟨u0, rfl⟩, vo1, hs1, v1, hw1, hb1, _⟩; have HW1 := Lib.hid hw1; have HB1 := Lib.hid hb1; clear hw1 hb1)
    | (go_at_call_of 74 (Value.int .i64 2); refine (putC w1 B p hs1 (putK 1 st.same st.out) vo1 vg [(v1, []), (vg, st.gone), (vc, st.come)] 1 2 st.gone HW1.out rfl (by omega)).mono ?_; rintro e w2 ⟨⟨u1, rfl⟩, vo2, hs2, v2, hw2, hb2, _⟩; have HW2 := Lib.hid hw2; have HB2 := Lib.hid hb2; clear hw2 hb2)
    | (go_at_call_of 74 (Value.int .i64 3); refine (putC w2 B p hs2 (putK 2 st.gone (putK 1 st.same st.out)) vo2 vc [(v1, []), (v2, []), (vc, st.come)] 2 3 st.come HW2.out rfl (by omega)).mono ?_; rintro e w3 ⟨⟨u2, rfl⟩, vo3, hs3, v3, hw3, hb3, _⟩; have HW3 := Lib.hid hw3; have HB3 := Lib.hid hb3; clear hw3 hb3))
  obtain ⟨a, c, hv⟩ := slice_own HW3.out.sw.own
  subst hv
  have d0 : w3.cell? ⟨p, 0, none⟩ = some (.slice a hs3.length c) := HW3.out.row.cell 0
  obtain ⟨_, c1, c2⟩ := own_caps HW3.out.sw.own
  have hcm : c ≤ 9223372036854775807 := by unfold maxLen at c2; omega
  have HC := Lib.hid (⟨c1, hcm⟩ : hs3.length ≤ c ∧ c ≤ 9223372036854775807)
  have hlen : hs3.length = (doneW st).length := HW3.out.sw.len
  have HFIN : Hid (PatchAt B w3 (.slice a hs3.length hs3.length) (doneW st)) := Lib.hid (by
    refine ⟨a, c, hs3, by rw [hlen], ?_, HW3.out.clip⟩
    rw [← hlen]
    exact HW3.out.sw.bare)
  obtain ⟨n, hn⟩ : ∃ n, n = hs3.length := ⟨_, rfl⟩
  rw [← hn] at d0 HC HFIN
  clear hn hlen c1 c2 k1 k2
  go_wp2_with (go_at_call 68; refine (clipH w3 a n c HC.out.1 HC.out.2).mono ?_; rintro e w4 ⟨rfl, rfl⟩)
  go_ret
  exact ⟨_, rfl, HFIN.out, (HB1.out.trans HB2.out).trans HB3.out, HW3.out.size⟩
end Go.Proofs.YtnbihjocdlpplaaDoor
