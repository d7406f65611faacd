/- strings.TrimLeft at blanks. -/
import Derived.Test.YtmhemahkcbgaoaaDoorShelfT
import Derived.Shelf.Strings.SlTrimAscii
import Derived.Test.YtmhemahkcbgaoaaDoorLineP
import Derived.Test.YtmhemahkcbgaoaaDoorMem
namespace Go.Proofs.YtmhemahkcbgaoaaDoor
set_option linter.unusedVariables false
set_option linter.unusedSimpArgs false
open Go.RowKit
theorem trim_eq (s : List UInt8) : Lib.trimLeftS s [32, 9] = s.dropWhile BlankB := by
  unfold Lib.trimLeftS
  congr 1
  funext x
  simp only [BlankB, List.contains_cons, List.contains_nil, Bool.or_false]
theorem trim_size (w : World) : (Tryd.prog.info? (Tryd.lays161_ren.t 116)).map (·.size) = some 256 := by kernel_rfl
theorem trimC (w : World) (s : List UInt8) : Calls Tryd.prog 66 #[.string (bstr s), .string (bstr [32, 9])] w fun e w' => e = .returned (.string (bstr (s.dropWhile BlankB))) ∧ Below w.heap.size w w' := by
  by_cases h0 : s = []
  · subst h0
    refine (Any.strings_TrimLeft_empty Tryd.lays161 (bstr []) (bstr [32, 9]) w (.inl (by rw [bstr_size]; rfl))).mono ?_
    rintro e w' ⟨rfl, rfl⟩
    exact ⟨rfl, Below.refl _ _⟩
  · have hl := List.length_pos_iff.2 h0
    refine (Any.strings_TrimLeft_set Tryd.lays161 (fun w => by kernel_rfl) (trim_size w) (bstr s) (bstr [32, 9]) w (by rw [bstr_size]; decide) (by rw [bstr_size]; exact hl) (by rw [bstr_size]; decide) (fun j b hj => ?_)).mono ?_
    · have hm : b ∈ [(32 : UInt8), 9] := List.mem_of_getElem? (by simpa [bstr] using hj)
      simp only [List.mem_cons, List.not_mem_nil, or_false] at hm
      rcases hm with rfl | rfl <;> decide
    · rintro e w' ⟨rfl, rfl⟩
      refine ⟨?_, ((Below.refl _ w).alloc (Nat.le_refl _) _).alloc (by simp) _⟩
      rw [← trim_eq]
      simp [bstr]
end Go.Proofs.YtmhemahkcbgaoaaDoor
