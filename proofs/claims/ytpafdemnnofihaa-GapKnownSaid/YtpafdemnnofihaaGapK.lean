/- What the closed statement hands in. -/
import Derived.Test.YtpafdemnnofihaaOpenS
import Derived.Test.YtpafdemnnofihaaOff
namespace Go.Proofs.Ytpafdemnnofihaa
open Go.RowKit
theorem flat_cells : ∀ (L : List StepL) (i k : Nat) (x : StepL) (v : Value), L[i]? = some x → x.cells[k]? = some v → (L.flatMap StepL.cells)[i * 4 + k]? = some v
  | y :: L, 0, k, x, v, hx, hv => by
    simp at hx
    subst hx
    have hk : k < 4 := by
      have := (List.getElem?_eq_some_iff.1 hv).1
      simpa [StepL.cells] using this
    rw [List.flatMap_cons, Nat.zero_mul, Nat.zero_add, List.getElem?_append_left (by simp [StepL.cells]; omega)]
    exact hv
  | y :: L, i + 1, k, x, v, hx, hv => by
    have hx' : L[i]? = some x := by simpa using hx
    have ih := flat_cells L i k x v hx' hv
    rw [List.flatMap_cons, List.getElem?_append_right (by simp [StepL.cells]; omega)]
    rw [show (i + 1) * 4 + k - y.cells.length = i * 4 + k from by simp [StepL.cells]; omega]
    exact ih
theorem reads_steps_row {w : World} {g : Nat} {e : TypeId} {L : List StepL} (h : Row w g e (L.flatMap StepL.cells)) : ReadsSteps w (some ⟨g, 0, none⟩) L.length L :=
  ⟨rfl, fun _ => ⟨g, 0, rfl, h.lt, fun i x hx k v hv => by rw [Nat.zero_add, h.cell]; exact flat_cells L i k x v hx hv⟩⟩
/-- the script of the closed statement -/
def script17 : List StepL := [⟨2, 1, 0, [120, 121]⟩, ⟨1, 5, 0, []⟩, ⟨1, 252, 0, []⟩, ⟨4, 252, 252, []⟩, ⟨1, 6, 0, []⟩, ⟨1, -1, 0, []⟩, ⟨3, 0, 2, []⟩, ⟨3, 2, 1, []⟩, ⟨0, 0, 0, []⟩, ⟨2, 9, 0, []⟩, ⟨4, 1, 3, []⟩, ⟨4, 3, 1, []⟩, ⟨2, 0, 0, [97]⟩, ⟨2, 0, 0, [98]⟩, ⟨3, -1, 1, []⟩, ⟨3, 0, 253, []⟩, ⟨4, -1, 0, []⟩]
theorem script17_fine : ∀ y ∈ script17, y.fine := by
  have h : script17.all (fun y => (Lit.int .i64 y.act).wf && (Lit.int .i64 y.lo).wf && (Lit.int .i64 y.hi).wf && decide (y.txt.length ≤ 140737488351232)) = true := by decide +kernel
  intro y hy
  have h1 := List.all_eq_true.1 h y hy
  simp only [Bool.and_eq_true, decide_eq_true_eq] at h1
  exact ⟨h1.1.1.1, h1.1.1.2, h1.1.2, h1.2⟩
end Go.Proofs.Ytpafdemnnofihaa
