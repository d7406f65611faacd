/- What the row's list gives where it holds a type's handle: the variable that errors.As reads. -/
import Derived.Test.YtmhemahkcbgaoaaDoorLaid7
import Derived.Test.YtmhemahkcbgaoaaDoorFault
import Derived.LaidHandle
import Derived.Lay
import Derived.LaidMore
namespace Go.Proofs.YtmhemahkcbgaoaaDoor
set_option linter.unusedVariables false
set_option linter.unusedSimpArgs false
open Go.Lib Go.RowKit
theorem rt7 : (Tryd.prog.cutTypes.find? (·.1 == "internal/reflectlite.rtype")).map (·.2) = some 129 := by kernel_rfl
theorem oneRow7 : ((List.range 196).filter fun t => Tryd.prog.rowNamed t [101, 114, 114, 111, 114]) = [34] := by kernel_rfl
theorem size7 : Tryd.prog.types.size = 196 := by kernel_rfl
theorem err_of {l : List (String × DataW Unit)} {W : World} (h : laidMetH Tryd.prog l W) (m : (l.filter fun x => x.2.handleName?.isSome) = [("errors.errorType", Rows.laid_errors_errorType)]) : ErrT W := by
  unfold laidMetH at h
  rw [m] at h
  obtain ⟨name, u, ty, e1, e2, e3, e4, e5⟩ := h.2 _ (List.mem_singleton.2 rfl)
  have en : name = [101, 114, 114, 111, 114] := (Option.some.inj e1).symm
  subst en
  obtain rfl := Option.some.inj (rt7.symm.trans e2)
  have hm : ty ∈ (List.range 196).filter fun t => Tryd.prog.rowNamed t [101, 114, 114, 111, 114] := List.mem_filter.2 ⟨List.mem_range.2 (by rw [← size7]; exact e3), e4⟩
  rw [oneRow7] at hm
  obtain rfl := List.mem_singleton.1 hm
  have hh : typeHandle Tryd.prog 34 = .pointer (some ⟨7, 34, none⟩) := by kernel_rfl
  rw [hh] at e5
  have := World.var?_cell (show Tryd.prog.globalNamed "errors.errorType" = some 0 by kernel_rfl) e5 0
  unfold ErrT
  simpa using this
/-- the world in which the variable holds the handle, ahead of the tables -/
noncomputable def hBase (os : Os) : World :=
  { World.holding Tryd.prog os ⟨#[], #[], []⟩ with heap := (World.holding Tryd.prog os ⟨#[], #[], []⟩).heap.modify 0 fun
      | .cells _ t frozen => .cells #[.iface 129 (.agg #[.pointer (some ⟨7, 34, none⟩)])] t frozen
      | o => o }
noncomputable def hWorld (os : Os) (l : List (String × DataW Unit)) : World := (hBase os).layVars Tryd.prog (l.filter fun x => x.2.handleName?.isNone)
theorem hWorld_os (os : Os) (l : List (String × DataW Unit)) : (hWorld os l).os = os := World.layVars_os _ _ _
theorem laidMet_hWorld {os : Os} {l : List (String × DataW Unit)} (args : Array Value)
    (hf : (hBase os).layFits Tryd.prog (l.filter fun x => x.2.handleName?.isNone) [] = true)
    (hi : (hBase os).layIfaces Tryd.prog (l.filter fun x => x.2.handleName?.isNone) (hWorld os l) = true) :
    laidMet Tryd.prog (l.filter fun x => x.2.handleName?.isNone) ((hWorld os l).forCall (fun _ _ => 0) ⟨#[], args, []⟩).memory := by
  unfold hWorld at *
  generalize (l.filter fun x => x.2.handleName?.isNone) = laid at *
  have e1 : (laid.filter fun x => (laid.map (·.1)).contains x.1) = laid := List.filter_eq_self.2 fun x hx => List.contains_iff_mem.2 (List.mem_map.2 ⟨x, hx, rfl⟩)
  have e2 : (laid.filter fun x => !(laid.map (·.1)).contains x.1) = [] := List.filter_eq_nil_iff.2 fun x hx => by rw [List.contains_iff_mem.2 (List.mem_map.2 ⟨x, hx, rfl⟩)]; simp
  have h : laidMet Tryd.prog laid ((hBase os).layVars Tryd.prog laid) := laidMet_layVars (w0 := hBase os) (laid.map (·.1)) [] (by rw [e1]) (by rw [e1]; exact hf) (by rw [e1]; exact hi) (by rw [e2]; exact LaidIn.none)
  exact h.of_heap (by simp [World.memory, World.forCall, Input.heap])
end Go.Proofs.YtmhemahkcbgaoaaDoor
