/- Texts joined, one behind the other (Laid31, HandS). -/
import Derived.Test.YtchdeboialbdiaaGreatDoorSn48
import Derived.Test.YtchdeboialbdiaaGreatDoorRows
import Derived.Lib.LaidU8
import Derived.LaidSub
import Derived.LaidHandle
import Derived.Lay
import Derived.LaidMore
namespace Go.Proofs.YtchdeboialbdiaaGreatDoor
set_option linter.unusedVariables false
set_option linter.unusedSimpArgs false
set_option maxHeartbeats 8000000
set_option maxRecDepth 100000
open Go.Lib Go.RowKit
theorem tab_cells {w : World} {n : String} {k : IntKind} {zs : List Int} {d : DataW Unit} (hd0 : d = tabData k zs) (h : VarReads Tryz.prog w n d) {g : Nat} {t e : TypeId} {m : Nat} (hg : Tryz.prog.globalNamed n = some g) (hty : (Tryz.prog.globals[g]?).map (·.type) = some t)
  (ht : Tryz.prog.underlying t = some (.array m e)) (he : Tryz.prog.underlying e = some (.int k)) (hce : Tryz.prog.cellsOf e = 1) (hct : Tryz.prog.cellsOf t = m) : TabIs Tryz.prog w n k zs:=by
 subst hd0
 obtain ⟨g',t',cs,fuel,p,hg',ht',hvar,hd⟩:=h
 obtain rfl:=Option.some.inj (hg.symm.trans hg')
 obtain rfl:=Option.some.inj (hty.symm.trans ht')
 unfold TabIs
 rw [hvar,← cells_of_tab ht he hce hct hd]
theorem first_data : Rows.laid_unicode_utf8_first = tabData .u8 firstTab:=by kernel_rfl
theorem accept_data : (Rows.laid_unicode_utf8_acceptRanges : DataW Unit) = acceptData:=by kernel_rfl
theorem tabs_of {l : List (String × DataW Unit)} {w : World} (h : laidMet Tryz.prog l w) (m1 : ("unicode/utf8.first",Rows.laid_unicode_utf8_first) ∈ l) (m2 : ("unicode/utf8.acceptRanges",Rows.laid_unicode_utf8_acceptRanges) ∈ l) : Tabs w:=by
 have t1 : TabIs Tryz.prog w "unicode/utf8.first" .u8 firstTab:=tab_cells first_data (laidMet.reads h m1) (g:=2) (t:=187) (e:=5) (by kernel_rfl) (by kernel_rfl) Tryz.underlying187 Tryz.underlying5 (by kernel_rfl) (by kernel_rfl)
 have key : ∀ i,i < 16 → w.cell? ⟨3,2 * i,none⟩ = some (.int .u8 (accLo i : Int)) ∧ w.cell? ⟨3,2 * i + 1,none⟩ = some (.int .u8 (accHi i : Int)):=fun i hi => by
  have h4:=laidMet.reads h m2
  rw [accept_data] at h4
  obtain ⟨g,t,cs,fuel,p,hg,hty,hvar,hd⟩:=h4
  obtain rfl:=Option.some.inj ((show Tryz.prog.globalNamed "unicode/utf8.acceptRanges" = some 3 by kernel_rfl).symm.trans hg)
  obtain rfl:=Option.some.inj ((show (Tryz.prog.globals[3]?).map (·.type) = some 191 by kernel_rfl).symm.trans hty)
  have c138 : Tryz.prog.cellsOf 190 = 2:=by kernel_rfl
  have c5 : Tryz.prog.cellsOf 5 = 1:=by kernel_rfl
  obtain ⟨fuel',d,q,hdi,he⟩:=array_elem Tryz.underlying191 hd i hi
  simp only [List.getElem?_map,List.getElem?_range hi,Option.map_some,Option.some.injEq] at hdi
  subst hdi
  rw [c138] at he
  have hcs:=ints_of_struct Tryz.underlying190 (fun j f hj => by
   match j,hj with
   | 0,hj => simp at hj; subst hj; exact ⟨Tryz.underlying5,rfl,c5⟩
   | 1,hj => simp at hj; subst hj; exact ⟨Tryz.underlying5,rfl,c5⟩
   | j + 2,hj => simp at hj) (by rw [c138]; rfl) he
  have e0:=congrArg (·[0]?) hcs
  have e1:=congrArg (·[1]?) hcs
  simp only [List.getElem?_take,List.getElem?_drop] at e0 e1
  constructor
  ·rw [World.var?_cell hg hvar (2 * i),← Array.getElem?_toList]
   simpa [Nat.mul_comm] using e0
  ·rw [World.var?_cell hg hvar (2 * i + 1),← Array.getElem?_toList]
   simpa [Nat.mul_comm] using e1
 refine ⟨⟨fun c hc => ?_,fun i hi => ?_⟩,?_⟩
 ·have:=t1.cell (g:=2) (by kernel_rfl) c (by simpa [firstTab] using hc)
  rw [this]
  simp [firstTab,List.getD,hc]
 ·exact key i hi
 ·have:=World.block_lt_of_cell? w _ (key 0 (by decide)).1
  exact this
theorem rt7 : (Tryz.prog.cutTypes.find? (·.1 == "internal/reflectlite.rtype")).map (·.2) = some 163:=by kernel_rfl
theorem oneRow7 : ((List.range Tryz.prog.types.size).filter fun t => Tryz.prog.rowNamed t [101,114,114,111,114]) = [49]:=by kernel_rfl
theorem err_of {l : List (String × DataW Unit)} {W : World} (h : laidMetH Tryz.prog l W) (m : (l.filter fun x => x.2.handleName?.isSome) = [("errors.errorType",Rows.laid_errors_errorType)]) : ErrT W:=by
 unfold laidMetH at h
 rw [m] at h
 obtain ⟨name,u,ty,e1,e2,e3,e4,e5⟩:=h.2 _ (List.mem_singleton.2 rfl)
 have en : name = [101,114,114,111,114]:=(Option.some.inj e1).symm
 subst en
 obtain rfl:=Option.some.inj (rt7.symm.trans e2)
 have hm : ty ∈ (List.range Tryz.prog.types.size).filter fun t => Tryz.prog.rowNamed t [101,114,114,111,114]:=List.mem_filter.2 ⟨List.mem_range.2 e3,e4⟩
 rw [oneRow7] at hm
 obtain rfl:=List.mem_singleton.1 hm
 have hh : typeHandle Tryz.prog 49 = .pointer (some ⟨4, 49,none⟩):=by kernel_rfl
 rw [hh] at e5
 have:=World.var?_cell (show Tryz.prog.globalNamed "errors.errorType" = some 0 by kernel_rfl) e5 0
 unfold ErrT
 simpa using this
noncomputable def hBase (os : Os) : World :=
 { World.holding Tryz.prog os ⟨#[],#[],[]⟩ with heap:=(World.holding Tryz.prog os ⟨#[],#[],[]⟩).heap.modify 0 fun
   | .cells _ t frozen => .cells #[.iface 163 (.agg #[.pointer (some ⟨4, 49,none⟩)])] t frozen
   | o => o }
noncomputable def hWorld (os : Os) (l : List (String × DataW Unit)) : World:=(hBase os).layVars Tryz.prog (l.filter fun x => x.2.handleName?.isNone)
theorem hWorld_os (os : Os) (l : List (String × DataW Unit)) : (hWorld os l).os = os:=World.layVars_os _ _ _
theorem laidMet_hWorld {os : Os} {l : List (String × DataW Unit)} (args : Array Value)
  (hf : (hBase os).layFits Tryz.prog (l.filter fun x => x.2.handleName?.isNone) [] = true)
  (hi : (hBase os).layIfaces Tryz.prog (l.filter fun x => x.2.handleName?.isNone) (hWorld os l) = true) :
  laidMet Tryz.prog (l.filter fun x => x.2.handleName?.isNone) ((hWorld os l).forCall (fun _ _ => 0) ⟨#[],args,[]⟩).memory:=by
 unfold hWorld at *
 generalize (l.filter fun x => x.2.handleName?.isNone) = laid at *
 have e1 : (laid.filter fun x => (laid.map (·.1)).contains x.1) = laid:=List.filter_eq_self.2 fun x hx => List.contains_iff_mem.2 (List.mem_map.2 ⟨x,hx,rfl⟩)
 have e2 : (laid.filter fun x => !(laid.map (·.1)).contains x.1) = []:=List.filter_eq_nil_iff.2 fun x hx => by rw [List.contains_iff_mem.2 (List.mem_map.2 ⟨x,hx,rfl⟩)]; simp
 have h : laidMet Tryz.prog laid ((hBase os).layVars Tryz.prog laid):=laidMet_layVars (w0:=hBase os) (laid.map (·.1)) [] (by rw [e1]) (by rw [e1]; exact hf) (by rw [e1]; exact hi) (by rw [e2]; exact LaidIn.none)
 exact h.of_heap (by simp [World.memory,World.forCall,Input.heap])
end Go.Proofs.YtchdeboialbdiaaGreatDoor
