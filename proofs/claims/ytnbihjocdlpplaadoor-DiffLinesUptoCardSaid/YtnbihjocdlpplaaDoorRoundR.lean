/- A region that draws its order, within a round: by the laws that hold outside of one. -/
import Derived.Test.YtnbihjocdlpplaaDoorIterA
import Derived.OrdersHeld
import Derived.RegionIn
import Derived.Deep.RegionHeld
namespace Go.Proofs.YtnbihjocdlpplaaDoor
open Go.RowKit Go.Shelf
/-- only the plain way on -/
def OnlyN (K : Act → World → Prop) : Exit → Act → World → Prop
  | .normal, a, w => K a w
  | _, _, _ => False
theorem onlyN_out (K : Act → World → Prop) : ¬ LetsOut (OnlyN K) := fun ⟨_, _, h⟩ => h
theorem upon_in {l n : Nat} {P : Program} {o : Oper} {a : Act} {next : Act → World → Prop} {Q : Exit → Act → World → Prop} {r : Result Next} (h : o.upon P a next Q r) : o.uponIn (Fence.wide.inRound l) n P a next Q r := by
  cases r with
  | ok x w' =>
    cases x with
    | enter f args => exact ⟨fun h => (by cases h), callsIn_wide.2 h⟩
    | value v => exact h
    | skip => exact h
    | defer d => exact h
    | row row args => exact ⟨fun h => (by cases h), fun c cs _ => let ⟨v, w2, r, s⟩ := h c cs; ⟨v, w2, r, stepsIn_wide.2 s⟩⟩
    | _ => exact h.elim
  | halt x w' => cases x <;> first | exact h | exact h.elim
theorem wpOp_in {l n : Nat} {P : Program} {ops : Array Oper} {K0 : Act → World → Prop} {i : Nat} {K : Act → World → Prop} {a : Act} {w : World}
    (hd : (ops.toList.all fun o => match o.op with | .defer _ => false | _ => true) = true) (h : wpOp P ops (OnlyN K0) i K a w) : wpOpIn (Fence.wide.inRound l) n P ops (OnlyN K0) i K a w := by
  unfold wpOp at h
  unfold wpOpIn
  cases ho : ops[i]? with
  | none => rw [ho] at h; exact h
  | some o =>
    rw [ho] at h
    dsimp only at h ⊢
    have hnd : ∀ c, o.op ≠ .defer c := fun c e => by
      have hm : o ∈ ops.toList := by
        have := Array.mem_of_getElem? ho
        simpa using this
      have := List.all_eq_true.1 hd o hm
      rw [e] at this
      cases this
    by_cases hw : Region.wanted o (yielded ops a.tmps) = true
    · rw [if_pos hw] at h ⊢
      rcases h with h | h
      · refine ⟨fun _ _ => trivial, ?_⟩
        show o.uponIn _ _ _ _ _ _ ((Oper.semAt (some l) a.eval o).run P w)
        rw [Oper.semAt_some l _ _ hnd]
        exact upon_in h
      · exact absurd h.2 (onlyN_out K0)
    · rw [if_neg hw] at h ⊢
      exact ⟨fun _ _ => trivial, h⟩
theorem wpAny_in {l n : Nat} {P : Program} {md : Region.Mode} {ops : Array Oper} {K0 : Act → World → Prop}
    (hd : (ops.toList.all fun o => match o.op with | .defer _ => false | _ => true) = true) : ∀ (fuel : Nat) (listed : Array Bool) (a : Act) (w : World), wpAny P md ops (OnlyN K0) fuel listed a w → wpAnyIn (Fence.wide.inRound l) n P md ops (OnlyN K0) fuel listed a w
  | 0, _, _, _, h => h
  | fuel + 1, listed, a, w, h => ⟨h.1, fun i hi => wpOp_in hd (wpOp_mono (fun a' w' h' => wpAny_in hd fuel _ a' w' h') (h.2 i hi))⟩
/-- THE LAW: a region in a round, S held. -/
theorem wpIn_round_held {l n id : Nat} {P : Program} {ops : Array Oper} {Q : Exit → Act → World → Prop} {S : World → Prop} {a : Act} {w : World} (hm : P.follows .mixedOrders = true)
    (hd : (ops.toList.all fun o => match o.op with | .defer _ => false | _ => true) = true) (K0 : Act → World → Prop) (hK : ∀ a w, K0 a w → Q .normal a w)
    (h : wpAnyH P .any ops (OnlyN K0) S ops.size (Array.replicate ops.size false) a w.drew) : (Code.region id ops true).wpIn (Fence.wide.inRound l) n P Q a w := by
  refine wpIn_mono (wpIn_region_any (Q := OnlyN K0) hm (wpAny_in hd _ _ _ _ (wpAny_of_held _ _ _ _ h))) ?_
  intro e a' w' hq
  cases e with
  | normal => exact hK _ _ hq
  | _ => exact hq.elim
end Go.Proofs.YtnbihjocdlpplaaDoor
