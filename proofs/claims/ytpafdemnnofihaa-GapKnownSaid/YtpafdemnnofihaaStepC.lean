/- A step of both gaps, whatever it is. -/
import Derived.Test.YtpafdemnnofihaaStepA
import Derived.Test.YtpafdemnnofihaaStepB
namespace Go.Proofs.Ytpafdemnnofihaa
open Go.RowKit
/-- what a step leaves -/
def StepPost (w : World) (g r : Nat) (s : List UInt8) (p : Nat) (e : Ending) (w' : World) : Prop :=
  ∃ g', (g' = g ∨ w.heap.size ≤ g') ∧ e = .returned (.tuple #[gapV g', .bool true]) ∧ Both w' g' r s p ∧ Kept2 w w' g r
theorem stepC (w : World) (g r : Nat) (s : List UInt8) (p : Nat) (H : Both w g r s p) (x : StepL) (hx : x.fine) :
    Calls Try.prog 27 #[gapV g, gapV r, .agg #[.int .i64 x.act, .int .i64 x.lo, .int .i64 x.hi, .string (bstr x.txt)]] w (StepPost w g r (x.next s p).1 (x.next s p).2) := by
  obtain ⟨act, lo, hi, txt⟩ := x
  obtain ⟨_, _, _, hm⟩ := hx
  simp only at hm ⊢
  by_cases h1 : act = 1
  · subst h1
    by_cases hq : 0 ≤ lo ∧ lo ≤ s.length
    · obtain ⟨q, rfl⟩ : ∃ q : Nat, lo = q := ⟨lo.toNat, by omega⟩
      refine (step1Yes w g r s p H q (by omega) hi txt).mono fun e w' ⟨he, hb, hk⟩ => ⟨g, .inl rfl, he, ?_, hk⟩
      simp only [StepL.next, if_pos, hq, and_self, Int.toNat_natCast]
      exact hb
    · refine (step1No w g r s p H lo (by omega) hi txt).mono fun e w' ⟨he, hb, hk⟩ => ⟨g, .inl rfl, he, ?_, hk⟩
      simp only [StepL.next, if_pos, if_neg hq]
      exact hb
  by_cases h2 : act = 2
  · subst h2
    by_cases hq : 0 ≤ lo ∧ lo ≤ s.length
    · obtain ⟨q, rfl⟩ : ∃ q : Nat, lo = q := ⟨lo.toNat, by omega⟩
      by_cases hr : txt.length ≤ 252 - s.length
      · refine (step2Yes w g r s p H q (by omega) hi txt hr).mono fun e w' ⟨he, hb, hk⟩ => ⟨g, .inl rfl, he, ?_, hk⟩
        simp only [StepL.next, if_neg h1, if_pos rfl, if_pos (And.intro hq.1 (And.intro hq.2 hr)), Int.toNat_natCast]
        exact hb
      · refine (step2Full w g r s p H q (by omega) hi txt (by omega) hm).mono fun e w' ⟨he, hb, hk⟩ => ⟨g, .inl rfl, he, ?_, hk⟩
        simp only [StepL.next, if_neg h1, if_pos rfl, if_neg (fun h : (0 : Int) ≤ (q : Int) ∧ (q : Int) ≤ s.length ∧ txt.length ≤ 252 - s.length => hr h.2.2)]
        exact hb
    · refine (step2No w g r s p H lo (by omega) hi txt).mono fun e w' ⟨he, hb, hk⟩ => ⟨g, .inl rfl, he, ?_, hk⟩
      simp only [StepL.next, if_neg h1, if_pos rfl, if_neg (fun h : 0 ≤ lo ∧ lo ≤ s.length ∧ txt.length ≤ 252 - s.length => hq ⟨h.1, h.2.1⟩)]
      exact hb
  by_cases h3 : act = 3
  · subst h3
    by_cases hq : 0 ≤ lo ∧ lo ≤ hi ∧ hi ≤ s.length
    · obtain ⟨f, rfl⟩ : ∃ f : Nat, lo = f := ⟨lo.toNat, by omega⟩
      obtain ⟨u, rfl⟩ : ∃ u : Nat, hi = u := ⟨hi.toNat, by omega⟩
      refine (step3Yes w g r s p H f u (by omega) (by omega) txt).mono fun e w' ⟨he, hb, hk⟩ => ⟨g, .inl rfl, he, ?_, hk⟩
      simp only [StepL.next, if_neg h1, if_neg h2, if_pos rfl, if_pos hq, Int.toNat_natCast]
      exact hb
    · refine (step3No w g r s p H lo hi (by omega) txt).mono fun e w' ⟨he, hb, hk⟩ => ⟨g, .inl rfl, he, ?_, hk⟩
      simp only [StepL.next, if_neg h1, if_neg h2, if_pos rfl, if_neg hq]
      exact hb
  have hn : StepL.next ⟨act, lo, hi, txt⟩ s p = (s, p) := by simp only [StepL.next, if_neg h1, if_neg h2, if_neg h3]
  rw [hn]
  by_cases h4 : act = 4
  · subst h4
    by_cases hq : 0 ≤ lo ∧ lo ≤ hi ∧ hi ≤ s.length
    · obtain ⟨f, rfl⟩ : ∃ f : Nat, lo = f := ⟨lo.toNat, by omega⟩
      obtain ⟨u, rfl⟩ : ∃ u : Nat, hi = u := ⟨hi.toNat, by omega⟩
      exact (step4Yes w g r s p H f u (by omega) (by omega) txt).mono fun e w' ⟨he, hb, hk⟩ => ⟨g, .inl rfl, he, hb, hk⟩
    · exact (step4No w g r s p H lo hi (by omega) txt).mono fun e w' ⟨he, hb, hk⟩ => ⟨g, .inl rfl, he, hb, hk⟩
  · exact (step5 w g r s p H act lo hi h1 h2 h3 h4 txt).mono fun e w' ⟨h, hh, he, hb, hk⟩ => ⟨h, .inr hh, he, hb, Kept2.below hk⟩
end Go.Proofs.Ytpafdemnnofihaa
