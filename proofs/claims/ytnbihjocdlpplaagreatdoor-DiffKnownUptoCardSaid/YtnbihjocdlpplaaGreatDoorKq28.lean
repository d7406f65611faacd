/- Texts joined, one behind the other (AsD, FaultD, LDiffTexts). -/
import Derived.Test.YtnbihjocdlpplaaGreatDoorKq27
import Derived.LaidEql
import Derived.Stop.Asserts
import Derived.RowKitTokens
import Derived.Deep.RegionHeld3
/- errors.As at an error of the layer: nil; or a pointer to a Fault, handed to a *Fault variable. (Turned from the guide's worked text 'ToyasAs'.) -/
namespace Go.Proofs.YtnbihjocdlpplaaGreatDoor
set_option linter.unusedVariables false
set_option linter.unusedSimpArgs false
open Go.RowKit Go.Extern.Stop Go.Stop Go.Extern
theorem as_nil (t : Value) (w : World) :
    Calls Tryz.prog 35 #[.nilIface, t] w fun e w' => e = .returned (.bool false) ∧ w' = w := by
  go_enter Tryz.func35, Tryz.ntmps35
  go_wp2
  go_ret
  exact ⟨rfl, rfl⟩

theorem Tryz.valueOf27 (t : Addr) (w : World) : (ReflectliteValue.unpack (.iface 59 (.pointer (some t)))).run Tryz.prog w
    = .ok (.agg #[.pointer (some ⟨4, 59, none⟩), .pointer (some ⟨w.heap.size, 0, none⟩), .int .u64 150]) (w.alloc (.cells #[.pointer (some t)] 59)) := by kernel_rfl
theorem Tryz.type27 (a : Addr) (w : World) : (ReflectliteValue.methodAny (ReflectliteValue.valueError "reflectlite.Value.Type" 0) (fun t _ _ _ => ReflectliteType.toType t) #[.agg #[.pointer (some ⟨4, 59, none⟩), .pointer (some a), .int .u64 150]]).run Tryz.prog w
    = .ok (.iface 127 (.agg #[.pointer (some ⟨4, 59, none⟩)])) w := by kernel_rfl
theorem Tryz.methodKind (h : Value) (w : World) : (Go.method (100 + 196) 127 (.agg #[h]) "Kind").run Tryz.prog w = .ok (116, h) w := by kernel_rfl
theorem Tryz.kind27 (w : World) : ((ReflectliteType.abiMethod fun t => (fun a : Nat => Value.int IntKind.u8 (a : Int)) <$> Rtype.kind t) #[.pointer (some ⟨4, 59, none⟩)]).run Tryz.prog w = .ok (.int .u8 22) w := by kernel_rfl
theorem Tryz.kind25 (w : World) : ((ReflectliteType.abiMethod fun t => (fun a : Nat => Value.int IntKind.u8 (a : Int)) <$> Rtype.kind t) #[.pointer (some ⟨4, 57, none⟩)]).run Tryz.prog w = .ok (.int .u8 22) w := by kernel_rfl

theorem rlm (z : Sem Value) (f : TypeId → Addr → Nat → Nat → Sem Value) (v : Value) :
    ReflectliteValue.method z f #[v] = (do match ← ReflectliteValue.parts v with | none => z | some (t, a, fl) => f t a fl (fl % 32)) := rfl
theorem Tryz.parts27 (a : Addr) (w : World) : (ReflectliteValue.parts (.agg #[.pointer (some ⟨4, 59, none⟩), .pointer (some a), .int .u64 150])).run Tryz.prog w = .ok (some (59, a, 150)) w := by kernel_rfl
theorem Tryz.isNil27 (a p : Addr) (W : World) (ha : W.cell? a = some (.pointer (some p))) :
    (ReflectliteValue.method (ReflectliteValue.valueError "reflectlite.Value.IsNil" 0) ReflectliteValue.isNil #[.agg #[.pointer (some ⟨4, 59, none⟩), .pointer (some a), .int .u64 150]]).run Tryz.prog W = .ok (.bool false) W := by
  rw [rlm]
  simp only [Sem.run_bind, Tryz.parts27, Result.andThen]
  simp [ReflectliteValue.isNil, loadVar, isAgg, underlying, Tryz.underlying59, ha, Result.andThen]

theorem Tryz.methodElem (h : Value) (w : World) : (Go.method (100 + 196) 127 (.agg #[h]) "Elem").run Tryz.prog w = .ok (129, .agg #[h]) w := by kernel_rfl
theorem Tryz.methodImplements (h : Value) (w : World) : (Go.method (100 + 196) 127 (.agg #[h]) "Implements").run Tryz.prog w = .ok (130, .agg #[h]) w := by kernel_rfl
theorem Tryz.methodAssignableTo (h : Value) (w : World) : (Go.method (100 + 196) 127 (.agg #[h]) "AssignableTo").run Tryz.prog w = .ok (127, .agg #[h]) w := by kernel_rfl
theorem Tryz.elem27 (w : World) : (ReflectliteType.method ReflectliteType.elem #[.agg #[.pointer (some ⟨4, 59, none⟩)]]).run Tryz.prog w = .ok (.iface 127 (.agg #[.pointer (some ⟨4, 57, none⟩)])) w := by kernel_rfl
theorem Tryz.implements25 (w : World) : (ReflectliteType.relation "Implements" ReflectliteType.implements_ #[.agg #[.pointer (some ⟨4, 57, none⟩)], .iface 127 (.agg #[.pointer (some ⟨4, 42, none⟩)])]).run Tryz.prog w = .ok (.bool true) w := by kernel_rfl
theorem Tryz.typeOf25 (v : Value) (w : World) : (ReflectliteType.typeOf #[.iface 57 v]).run Tryz.prog w = .ok (.iface 127 (.agg #[.pointer (some ⟨4, 57, none⟩)])) w := by kernel_rfl
theorem Tryz.assignable25 (w : World) : (ReflectliteType.relation "AssignableTo" ReflectliteType.assignableTo #[.agg #[.pointer (some ⟨4, 57, none⟩)], .iface 127 (.agg #[.pointer (some ⟨4, 57, none⟩)])]).run Tryz.prog w = .ok (.bool true) w := by kernel_rfl
theorem Tryz.valueOf25 (e : Addr) (w : World) : (ReflectliteValue.unpack (.iface 57 (.pointer (some e)))).run Tryz.prog w
    = .ok (.agg #[.pointer (some ⟨4, 57, none⟩), .pointer (some ⟨w.heap.size, 0, none⟩), .int .u64 150]) (w.alloc (.cells #[.pointer (some e)] 57)) := by kernel_rfl

theorem Tryz.elemOf27 (w : World) : (Rtype.elem? 59).run Tryz.prog w = .ok (some 57) w := by kernel_rfl
theorem Tryz.mk25 (p : Addr) (w : World) : (ReflectliteValue.mk 57 p ReflectliteValue.flagAddr).run Tryz.prog w = .ok (.agg #[.pointer (some ⟨4, 57, none⟩), .pointer (some p), .int .u64 406]) w := by kernel_rfl
theorem Tryz.elemV27 (a p : Addr) (W : World) (ha : W.cell? a = some (.pointer (some p))) :
    (ReflectliteValue.method (ReflectliteValue.valueError "reflectlite.Value.Elem" 0) ReflectliteValue.elem #[.agg #[.pointer (some ⟨4, 59, none⟩), .pointer (some a), .int .u64 150]]).run Tryz.prog W
      = .ok (.agg #[.pointer (some ⟨4, 57, none⟩), .pointer (some p), .int .u64 406]) W := by
  rw [rlm]
  simp only [Sem.run_bind, Tryz.parts27, Result.andThen]
  simp [ReflectliteValue.elem, loadVar, isAgg, underlying, Tryz.underlying59, ha, Result.andThen, Tryz.elemOf27, Tryz.mk25]
theorem rls (v x : Value) : ReflectliteValue.set #[v, x] = (do
    let (some (dst, a, fl), some (src, b, _)) := (← ReflectliteValue.parts v, ← ReflectliteValue.parts x)
      | unsupported (.noEntry "extern/(internal/reflectlite.Value).Set.zeroValue")
    if fl / ReflectliteValue.flagAddr % 2 == 0 then unsupported (.noEntry "extern/(internal/reflectlite.Value).Set.unaddressable")
    let val ← loadVar src b
    if ← Rtype.directlyAssignable dst src then storeVar dst a val
    else if ← Rtype.implements dst src then
      if (← Rtype.kind src) == 20 then
        match val with
        | .nilIface => unsupported (.noEntry "extern/reflectlite: a nil value of one interface type handed on as a value of another")
        | _ => storeVar dst a val
      else storeVar dst a (.iface src val)
    else panicString ("reflectlite.Set: value of type " ++ (← Rtype.spelt src) ++ " is not assignable to type " ++ (← Rtype.spelt dst))
    pure (.tuple #[])) := rfl
theorem Tryz.parts25a (a : Addr) (w : World) : (ReflectliteValue.parts (.agg #[.pointer (some ⟨4, 57, none⟩), .pointer (some a), .int .u64 406])).run Tryz.prog w = .ok (some (57, a, 406)) w := by kernel_rfl
theorem Tryz.parts25 (a : Addr) (w : World) : (ReflectliteValue.parts (.agg #[.pointer (some ⟨4, 57, none⟩), .pointer (some a), .int .u64 150])).run Tryz.prog w = .ok (some (57, a, 150)) w := by kernel_rfl
theorem Tryz.direct25 (w : World) : (Rtype.directlyAssignable 57 57).run Tryz.prog w = .ok true w := by kernel_rfl
theorem Tryz.size25 (w : World) : (sizeOf 57).run Tryz.prog w = .ok 1 w := by kernel_rfl
theorem Tryz.set25 (ta b e : Addr) (old : Value) (W : World) (hb : W.cell? b = some (.pointer (some e))) (ht : W.cell? ta = some old) (hf : W.frozen? ta = false) :
    (ReflectliteValue.set #[.agg #[.pointer (some ⟨4, 57, none⟩), .pointer (some ta), .int .u64 406], .agg #[.pointer (some ⟨4, 57, none⟩), .pointer (some b), .int .u64 150]]).run Tryz.prog W
      = .ok (.tuple #[]) (W.setCell ta (.pointer (some e))) := by
  rw [rls]
  simp only [Sem.run_bind, Tryz.parts25a, Tryz.parts25, Result.andThen]
  simp [ReflectliteValue.flagAddr, loadVar, isAgg, underlying, Tryz.underlying57, hb, Result.andThen, Tryz.direct25, storeVar, Value.cells, storeCells, Addr.add]
  rw [run_store Tryz.prog W ta _ _ (by rfl)]
  simp [ht, hf]

set_option maxHeartbeats 4000000 in
theorem as_hit (e t : Addr) (old : Value) (w : World) (hg : w.cell? ⟨0, 0, none⟩ = some (.iface 127 (.agg #[.pointer (some ⟨4, 42, none⟩)]))) (ht0 : w.cell? t = some old) (hf0 : w.frozen? t = false) :
    Calls Tryz.prog 35 #[.iface 57 (.pointer (some e)), .iface 59 (.pointer (some t))] w fun ev w' => ev = .returned (.bool true) ∧ w' = ((((w.alloc (.cells #[.pointer (some t)] 59)).alloc (.cells #[.pointer (some ⟨4, 59, none⟩), .pointer (some ⟨w.heap.size, 0, none⟩), .int .u64 150] 104)).alloc (.cells #[.pointer (some ⟨4, 59, none⟩), .pointer (some ⟨w.heap.size, 0, none⟩), .int .u64 150] 104)).alloc (.cells #[.pointer (some e)] 57)).setCell t (.pointer (some e)) := by
  have h6 := @run_callFunc_extern Tryz.prog 68 _ (fun args => ReflectliteValue.unpack (args.getD 0 (.tuple #[]))) Tryz.func68 (by kernel_rfl) (by kernel_rfl) (by kernel_rfl) (by kernel_rfl)
  have h7 := @run_callFunc_extern Tryz.prog 69 _ (ReflectliteValue.methodAny (ReflectliteValue.valueError "reflectlite.Value.Type" 0) (fun t _ _ _ => ReflectliteType.toType t)) Tryz.func69 (by kernel_rfl) (by kernel_rfl) (by kernel_rfl) (by kernel_rfl)
  have h8 := @run_callFunc_extern Tryz.prog 70 _ (ReflectliteValue.method (ReflectliteValue.valueError "reflectlite.Value.IsNil" 0) ReflectliteValue.isNil) Tryz.func70 (by kernel_rfl) (by kernel_rfl) (by kernel_rfl) (by kernel_rfl)
  have h27 := @run_callFunc_extern Tryz.prog 116 _ (ReflectliteType.abiMethod fun t => do pure (.int .u8 (← Rtype.kind t))) Tryz.func116 (by kernel_rfl) (by kernel_rfl) (by kernel_rfl) (by kernel_rfl)
  have h37 := @run_callFunc_extern Tryz.prog 129 _ (ReflectliteType.method ReflectliteType.elem) Tryz.func129 (by kernel_rfl) (by kernel_rfl) (by kernel_rfl) (by kernel_rfl)
  have h38 := @run_callFunc_extern Tryz.prog 130 _ (ReflectliteType.relation "Implements" ReflectliteType.implements_) Tryz.func130 (by kernel_rfl) (by kernel_rfl) (by kernel_rfl) (by kernel_rfl)
  have h10 := @run_callFunc_extern Tryz.prog 87 _ ReflectliteType.typeOf Tryz.func87 (by kernel_rfl) (by kernel_rfl) (by kernel_rfl) (by kernel_rfl)
  have h35 := @run_callFunc_extern Tryz.prog 127 _ (ReflectliteType.relation "AssignableTo" ReflectliteType.assignableTo) Tryz.func127 (by kernel_rfl) (by kernel_rfl) (by kernel_rfl) (by kernel_rfl)
  have h11 := @run_callFunc_extern Tryz.prog 88 _ (ReflectliteValue.method (ReflectliteValue.valueError "reflectlite.Value.Elem" 0) ReflectliteValue.elem) Tryz.func88 (by kernel_rfl) (by kernel_rfl) (by kernel_rfl) (by kernel_rfl)
  have h12 := @run_callFunc_extern Tryz.prog 89 _ ReflectliteValue.set Tryz.func89 (by kernel_rfl) (by kernel_rfl) (by kernel_rfl) (by kernel_rfl)
  have tO := Tryz.typeOf25
  have mA := Tryz.methodAssignableTo
  have a25 := Tryz.assignable25
  have v25 := Tryz.valueOf25
  have f6 := Tryz.valueOf27
  have f7 := Tryz.type27
  have mK := Tryz.methodKind
  have mE := Tryz.methodElem
  have mI := Tryz.methodImplements
  have k27 := Tryz.kind27
  have k25 := Tryz.kind25
  have e27 := Tryz.elem27
  have i25 := Tryz.implements25
  have n8 := Tryz.isNil27 ⟨w.heap.size, 0, none⟩ t ((w.alloc (.cells #[.pointer (some t)] 59)).alloc (.cells #[.pointer (some ⟨4, 59, none⟩), .pointer (some ⟨w.heap.size, 0, none⟩), .int .u64 150] 104)) (by simp)
  have hlt : 0 < w.heap.size := by
    rcases Nat.eq_zero_or_pos w.heap.size with h0 | h
    · simp [World.cell?, h0] at hg
    · exact h
  have hg2 : ((w.alloc (.cells #[.pointer (some t)] 59)).alloc (.cells #[.pointer (some ⟨4, 59, none⟩), .pointer (some ⟨w.heap.size, 0, none⟩), .int .u64 150] 104)).cell? ⟨0, 0, none⟩ = some (.iface 127 (.agg #[.pointer (some ⟨4, 42, none⟩)])) := by
    rw [World.cell?_alloc_lt _ _ ⟨0, 0, none⟩ (by simp), World.cell?_alloc_lt _ _ ⟨0, 0, none⟩ hlt]; exact hg
  have htl : t.block < w.heap.size := by
    rcases Nat.lt_or_ge t.block w.heap.size with h | h
    · exact h
    · simp [World.cell?, Array.getElem?_eq_none h] at ht0
  have el := Tryz.elemV27 ⟨w.heap.size, 0, none⟩ t (((w.alloc (.cells #[.pointer (some t)] 59)).alloc (.cells #[.pointer (some ⟨4, 59, none⟩), .pointer (some ⟨w.heap.size, 0, none⟩), .int .u64 150] 104)).alloc (.cells #[.pointer (some ⟨4, 59, none⟩), .pointer (some ⟨w.heap.size, 0, none⟩), .int .u64 150] 104)) (by rw [World.cell?_alloc_lt _ _ ⟨w.heap.size, 0, none⟩ (by simp; omega)]; simp)
  have st := Tryz.set25 t ⟨w.heap.size + 1 + 1 + 1, 0, none⟩ e old ((((w.alloc (.cells #[.pointer (some t)] 59)).alloc (.cells #[.pointer (some ⟨4, 59, none⟩), .pointer (some ⟨w.heap.size, 0, none⟩), .int .u64 150] 104)).alloc (.cells #[.pointer (some ⟨4, 59, none⟩), .pointer (some ⟨w.heap.size, 0, none⟩), .int .u64 150] 104)).alloc (.cells #[.pointer (some e)] 57))
    (by rw [World.cell?_alloc_at _ _ _ _ (by simp)]; rfl)
    (by rw [World.cell?_alloc_lt _ _ t (by simp; omega), World.cell?_alloc_lt _ _ t (by simp; omega), World.cell?_alloc_lt _ _ t (by simp; omega), World.cell?_alloc_lt _ _ t htl]; exact ht0)
    (by rw [World.frozen?_alloc_old _ _ t (by simp; omega), World.frozen?_alloc_old _ _ t (by simp; omega), World.frozen?_alloc_old _ _ t (by simp; omega), World.frozen?_alloc_old _ _ t (Nat.ne_of_lt htl)]; exact hf0)
  go_enter Tryz.func35, Tryz.ntmps35
  go_wp2
  refine wp_loop_rounds 1 ?_
  rw [rounds_succ]
  go_wp2
  go_ret
  exact ⟨rfl, rfl⟩
end Go.Proofs.YtnbihjocdlpplaaGreatDoor
/- errors.As at a fault, in plain words. -/
namespace Go.Proofs.YtnbihjocdlpplaaGreatDoor
set_option linter.unusedVariables false
set_option linter.unusedSimpArgs false
open Go.RowKit
/-- the handle of the type 'error', where errors.As reads it -/
def ErrT (w : World) : Prop := w.cell? ⟨0, 0, none⟩ = some (.iface 127 (.agg #[.pointer (some ⟨4, 42, none⟩)]))
theorem cell_lt {w : World} {b o : Nat} {v : Value} (h : w.cell? ⟨b, o, none⟩ = some v) : b < w.heap.size := by
  rcases Nat.lt_or_ge b w.heap.size with h1 | h1
  · exact h1
  · simp [World.cell?, Array.getElem?_eq_none h1] at h
theorem ErrT.next {w w' : World} (h : ErrT w) (b : Below w.heap.size w w') : ErrT w' := by
  unfold ErrT at *
  rw [b.cell (p := ⟨0, 0, none⟩) (cell_lt h)]
  exact h
set_option maxHeartbeats 4000000 in
/-- errors.As finds the fault; what else stood stays -/
theorem as_fault (w : World) (g t B : Nat) (c q : Int) (hR : Row w g 61 [.int .i64 c, .int .i64 q]) (hT : Row w t 57 [.pointer none]) (hE : ErrT w) (hB : B ≤ t) (hne : g ≠ t) :
    Calls Tryz.prog 35 #[.iface 57 (.pointer (some ⟨g, 0, none⟩)), .iface 59 (.pointer (some ⟨t, 0, none⟩))] w fun ev w' => ev = .returned (.bool true) ∧ w'.cell? ⟨t, 0, none⟩ = some (.pointer (some ⟨g, 0, none⟩)) ∧ w'.cell? ⟨g, 0, none⟩ = some (.int .i64 c) ∧ w'.cell? ⟨g, 1, none⟩ = some (.int .i64 q) ∧ Below B w w' ∧ ∀ k, k < w.heap.size → k ≠ t → w'.heap[k]? = w.heap[k]? := by
  have htl := hT.lt
  have hgl := hR.lt
  have ht0 : w.cell? ⟨t, 0, none⟩ = some (.pointer none) := hT.cell 0
  have hf0 : w.frozen? ⟨t, 0, none⟩ = false := hT.frozen 0
  refine (as_hit ⟨g, 0, none⟩ ⟨t, 0, none⟩ (.pointer none) w hE ht0 hf0).mono ?_
  rintro ev w' ⟨rfl, rfl⟩
  obtain ⟨w4, hw4⟩ : ∃ W, W = (((w.alloc (.cells #[.pointer (some ⟨t, 0, none⟩)] 59)).alloc (.cells #[.pointer (some ⟨4, 59, none⟩), .pointer (some ⟨w.heap.size, 0, none⟩), .int .u64 150] 104)).alloc (.cells #[.pointer (some ⟨4, 59, none⟩), .pointer (some ⟨w.heap.size, 0, none⟩), .int .u64 150] 104)).alloc (.cells #[.pointer (some ⟨g, 0, none⟩)] 57) := ⟨_, rfl⟩
  have hb4 : Below w.heap.size w w4 := by
    rw [hw4]
    exact ((((Below.refl _ w).alloc (Nat.le_refl _) _).alloc (by simp) _).alloc (by simp; omega) _).alloc (by simp; omega) _
  rw [← hw4]
  clear hw4
  have hT4 : Row w4 t 57 [.pointer none] := hT.keep hb4 htl
  have hR4 : Row w4 g 61 [.int .i64 c, .int .i64 q] := hR.keep hb4 hgl
  have hB4 : B ≤ w4.heap.size := by have := hb4.size; omega
  refine ⟨rfl, World.cell?_setCell_same _ _ _ (hT4.cell 0), ?_, ?_, ((hb4.mono (by omega)).setCell (p := ⟨t, 0, none⟩) hB _), fun k hk hkt => ?_⟩
  · rw [World.cell?_setCell_far _ _ _ _ (by simp only; omega)]; exact hR4.cell 0
  · rw [World.cell?_setCell_far _ _ _ _ (by simp only; omega)]; exact hR4.cell 1
  · rw [Below.heap_setCell _ _ _ _ (by simp only; omega)]
    exact hb4.block k hk
end Go.Proofs.YtnbihjocdlpplaaGreatDoor
/- DiffTexts: the walk. -/
namespace Go.Proofs.YtnbihjocdlpplaaGreatDoor
set_option linter.unusedVariables false
set_option linter.unusedSimpArgs false
open Go.RowKit
open Go.Lib hiding intOf
theorem print_parts (X : List HkI) : ∃ T E, printE X = .returned (.tuple #[.string (bstr T), .int .i64 E]) := by
  unfold printE
  split
  · exact ⟨_, _, rfl⟩
  · exact ⟨_, _, rfl⟩
theorem parse_bad {s : List UInt8} {p : Nat} (hp : parseOf s = .inl p) {w w' : World} {e : Ending} (h : ParP w s e w') : ∃ g, e = .returned (.tuple #[.slice none 0 0, .iface 57 (.pointer (some ⟨g, 0, none⟩))]) ∧ Row w' g 61 [.int .i64 310, .int .i64 (p : Int)] ∧ Below w.heap.size w w' := by
  rcases h with ⟨q, g, h1, h2, h3, h4⟩ | ⟨H, v, B, h1, _⟩
  · rw [hp] at h1
    cases h1
    exact ⟨g, h2, h3, h4⟩
  · rw [hp] at h1; cases h1
theorem parse_good {s : List UInt8} {H : List Hk} (hp : parseOf s = .inr H) {w w' : World} {e : Ending} (h : ParP w s e w') : ∃ v B, e = .returned (.tuple #[v, .nilIface]) ∧ PatchAt B w' v H ∧ w.heap.size ≤ B ∧ B ≤ w'.heap.size ∧ Below w.heap.size w w' := by
  rcases h with ⟨q, g, h1, h2, h3, h4⟩ | ⟨H', v, B, h1, h2, h3, h4, h5, h6⟩
  · rw [hp] at h1; cases h1
  · rw [hp] at h1
    cases h1
    exact ⟨v, B, h2, h3, h4, h5, h6⟩
theorem parse_badR {s : List UInt8} {p : Nat} (hp : parseOf s = .inl p) {w w' : World} {e : Ending} (h : ParQ w s e w') : e = .returned (.tuple #[.slice none 0 0, .int .i64 (p : Int), .bool false]) ∧ Below w.heap.size w w' := by
  rcases h with ⟨q, h1, h2, h3⟩ | ⟨H, a, c, h1, _⟩
  · rw [hp] at h1
    cases h1
    exact ⟨h2, h3⟩
  · rw [hp] at h1; cases h1
theorem parse_goodR {s : List UInt8} {H : List Hk} (hp : parseOf s = .inr H) {w w' : World} {e : Ending} (h : ParQ w s e w') : ∃ a c, e = .returned (.tuple #[.slice a H.length c, .int .i64 0, .bool true]) ∧ ReadsK w' a H.length (H.map toI) ∧ Below w.heap.size w w' := by
  rcases h with ⟨q, h1, h2, h3⟩ | ⟨H', a, c, h1, h2, h3, h4⟩
  · rw [hp] at h1; cases h1
  · rw [hp] at h1
    cases h1
    exact ⟨a, c, h2, h3, h4⟩
theorem parse_ok {s : List UInt8} {H : List Hk} (hp : parseOf s = .inr H) : checkB (H.map toI) = true := by
  unfold parseOf at hp
  split at hp
  · cases hp
  · split at hp
    · cases hp
      rename_i h
      exact h.1
    · cases hp
set_option maxHeartbeats 8000000 in
set_option maxRecDepth 100000 in
theorem diffTexts_walk (w : World) (a : Option Addr) (n c : Nat) (X : List HkI) (hX : ReadsK w a n X) (hnc : n ≤ c) (hcm : c ≤ maxLen) (hs : hunkSum X ≤ 1048576) (s : List UInt8) (hsl : s.length ≤ 1048576) (hT : Tabs w) (hE : ErrT w) :
    Calls Tryz.prog 9 #[.slice a n c, .string (bstr s)] w fun e w' => e = .returned (.bool true) ∧ Below w.heap.size w w' := by
  have HF := Lib.hid (sum_fit hs)
  have HT := Lib.hid hT
  have HE := Lib.hid hE
  have HX := Lib.hid hX
  have hn : n ≤ 1048576 := by rw [← hX.len]; have := hunkSum_fit X; omega
  obtain ⟨T, E, hTE⟩ := print_parts X
  have HS := Lib.hid (spareC w a n c X hX HF.out)
  have HPK := Lib.hid (fun W a c (hR : ReadsK W a n X) hW => printC W a n c X hR HF.out hW)
  have HPR := Lib.hid (fun W a c (hR : ReadsK W a n X) => printR W a n c X hR HF.out)
  rw [hTE] at HPK HPR
  have HQC := Lib.hid (fun W (hW : Tabs W) => parseC W s (by omega) hW)
  have HQR := Lib.hid (fun W => parseR W s (by omega))
  have b3 : (T != T) = false := by simp
  have b3' : (T == T) = true := by simp
  have b4 : (E != E) = false := by simp
  clear hT hE hX hTE hs hsl
  go_enter Tryz.func9, Tryz.ntmps9
  go_upto_region 2 with (go_at_call 25; refine (HS.out).mono ?_; rintro e w1 ⟨a1, c1, rfl, hS1, hb1⟩; have HS1 := Lib.hid hS1; have HB1 := Lib.hid hb1; clear hS1 hb1)
  have hk : ∀ W, Below w1.heap.size w1 W → SpareK W a1 n c1 X ∧ ReadsK W a1 n X ∧ ReadsK W a n X ∧ Tabs W ∧ Below w.heap.size w W ∧ ErrT W := fun W hW => by
    have h1 := HS1.out.keep hW
    have h2 : Below w.heap.size w W := HB1.out.trans (hW.mono HB1.out.size)
    exact ⟨h1, h1.reads, HX.out.keep h2 (Nat.le_refl _), HT.out.next h2, h2, HE.out.next h2⟩
  have HK := Lib.hid hk
  have HZ := Lib.hid (Below.refl w1.heap.size w1)
  clear hk
  go_upto_region 3 with (go_at_call 19; refine (HPK.out w1 a1 c1 (HK.out w1 HZ.out).2.1 (HK.out w1 HZ.out).2.2.2.1).mono ?_; rintro e w2 ⟨rfl, hb⟩; have HB2 := Lib.hid hb; clear hb)
  go_upto_region 4 with (go_at_call 33; refine (HPR.out w2 a c (HK.out w2 HB2.out).2.2.1).mono ?_; rintro e w3 ⟨rfl, hb⟩; have HB3 := Lib.hid (below_next HB2.out (Nat.le_refl _) hb); clear hb)
  go_upto_region 6 with (go_at_call 30; refine (keptC _ a1 a n c1 c X (HK.out w3 HB3.out).1 (HK.out w3 HB3.out).2.2.1 HF.out).mono ?_; rintro e w7 ⟨rfl, hq⟩; have HB7 := Lib.hid (HB3.out.trans (hq.below _)); clear hq)
  have s7 := HB7.out.size
  cases hpo : parseOf s with
  | inl p =>
    have HPC := Lib.hid (fun W (hW : Tabs W) => (HQC.out W hW).mono (fun e w' h => parse_bad hpo h))
    have HPD := Lib.hid (fun W => (HQR.out W).mono (fun e w' h => parse_badR hpo h))
    clear HQC HQR hpo
    go_upto_region 7 with (go_at_call 20; refine (HPC.out w7 (HK.out w7 HB7.out).2.2.2.1).mono ?_; rintro e w8 ⟨g8, rfl, hr, hb⟩; have HR8 := Lib.hid hr; have Hb8 := Lib.hid hb; have HB8 := Lib.hid (below_next HB7.out (Nat.le_refl _) hb); clear hr hb)
    go_upto_region 8 with (go_at_call 20; refine (HPC.out w8 (HK.out w8 HB8.out).2.2.2.1).mono ?_; rintro e w9 ⟨g9, rfl, hr, hb⟩; have Hb9 := Lib.hid hb; have HB9 := Lib.hid (below_next HB8.out (Nat.le_refl _) hb); clear hr hb)
    go_upto_region 9 with (go_at_call 34; refine (HPD.out w9).mono ?_; rintro e w10 ⟨rfl, hb⟩; have Hb10 := Lib.hid hb; have HB10 := Lib.hid (below_next HB9.out (Nat.le_refl _) hb); clear hb)
    have hr10 : Row w10 g8 61 [.int .i64 310, .int .i64 (p : Int)] := (HR8.out.keep Hb9.out HR8.out.lt).keep Hb10.out (Nat.lt_of_lt_of_le HR8.out.lt Hb9.out.size)
    have HR10 := Lib.hid hr10
    clear hr10 HR8
    go_upto_region 11 with (first
      | (go_at_call 13; refine (eqHunks w10 none none 0 0 0 [] (ReadsK.nil _ _) (ReadsK.nil _ _) (by omega) (fun x hx => by cases hx)).mono ?_; rintro e w11 ⟨rfl, hq⟩; have HQ11 := Lib.hid hq; clear hq)
      | (go_at_call 13; refine (eqHunks w11 none none 0 0 0 [] (ReadsK.nil _ _) (ReadsK.nil _ _) (by omega) (fun x hx => by cases hx)).mono ?_; rintro e w12 ⟨rfl, hq⟩; have HQ12 := Lib.hid (HQ11.out.trans hq); clear hq))
    have HR12 : Hid (Row w12 g8 61 [.int .i64 310, .int .i64 (p : Int)]) := Lib.hid (HR10.out.keep (HQ12.out.below _) HR10.out.lt)
    have HB12 := Lib.hid (HB10.out.trans (HQ12.out.below _))
    have hA := as_fault (w12.alloc (.cells #[.pointer none] 57)) g8 w12.heap.size w12.heap.size 310 (p : Int) (HR12.out.alloc _) (alloc_last _ _) ((HK.out w12 HB12.out).2.2.2.2.2.next ((Below.refl _ w12).alloc (Nat.le_refl _) _)) (Nat.le_refl _) (by have := HR12.out.lt; omega)
    have HA := Lib.hid hA
    clear hA
    go_upto_region 14 with (go_at_call 35; refine (HA.out).mono ?_; rintro ev w13 ⟨rfl, q1, q2, q3, hb13, hk13⟩; have HB13 := Lib.hid (below_next HB12.out (Nat.le_refl _) (((Below.refl _ w12).alloc (Nat.le_refl _) _).trans hb13)); clear hb13 hk13)
    clear q1 q2 q3
    have s13 := HB13.out.size
    have hnil : ∀ B W, PatchAt B W (.slice none 0 0) [] := fun B W => ⟨none, 0, [], rfl, SW.start _ _ _ (fun p hp => by cases hp), fun x hx => by cases hx⟩
    have HNIL := Lib.hid hnil
    clear hnil
    go_wp2_with (first
      | (go_at_call 14; refine (apartC w13 w13 w13.heap.size w13.heap.size (.slice none 0 0) (.slice none 0 0) [] [] (HNIL.out _ _) (Below.refl _ _) (HNIL.out _ _) (Nat.le_refl _) (Nat.le_refl _) (fun x hx => by cases hx) (fun x hx => by cases hx) (by simp) (by simp) (fun x hx => by cases hx) (fun x hx => by cases hx) (fun x hx => by cases hx)).mono ?_; rintro e w14 ⟨rfl, hb⟩; have HB14 : Hid (Below w1.heap.size w1 w14) := Lib.hid (below_next HB13.out (Nat.le_refl _) hb); clear hb)
      | (go_at_call 10; refine (worksC w14 (HK.out w14 HB14.out).2.2.2.1).mono ?_; rintro e w16 ⟨rfl, hb⟩; have HB16 := Lib.hid (below_next HB14.out (Nat.le_refl _) hb); clear hb))
    go_ret
    exact ⟨rfl, (HK.out _ HB16.out).2.2.2.2.1⟩
  | inr H =>
    have HPC := Lib.hid (fun W (hW : Tabs W) => (HQC.out W hW).mono (fun e w' h => parse_good hpo h))
    have HPD := Lib.hid (fun W => (HQR.out W).mono (fun e w' h => parse_goodR hpo h))
    have hok := hunks_small (parse_ok hpo)
    have HOK := Lib.hid hok
    have hHl := hok.2
    have HLI := Lib.hid (lenI (fun x hx => (HOK.out.1 x hx).2.2))
    clear HQC HQR hpo hok
    go_upto_region 7 with (go_at_call 20; refine (HPC.out w7 (HK.out w7 HB7.out).2.2.2.1).mono ?_; rintro e w8 ⟨v8, C8, rfl, hP, hL, hz, hb⟩; obtain ⟨a8, rfl, hr⟩ := hP.reads; have HP8 := Lib.hid hP; have HR8 := Lib.hid hr; have HL8 := Lib.hid hL; have HZ8 := Lib.hid hz; have Hb8 := Lib.hid hb; have HB8 := Lib.hid (below_next HB7.out (Nat.le_refl _) hb); clear hP hr hL hz hb)
    go_upto_region 8 with (go_at_call 20; refine (HPC.out w8 (HK.out w8 HB8.out).2.2.2.1).mono ?_; rintro e w9 ⟨v9, C9, rfl, hP, hL, hz, hb⟩; obtain ⟨a9, rfl, hr⟩ := hP.reads; have HP9 := Lib.hid hP; have HR9 := Lib.hid hr; have HL9 := Lib.hid hL; have HZ9 := Lib.hid hz; have Hb9 := Lib.hid hb; have HB9 := Lib.hid (below_next HB8.out (Nat.le_refl _) hb); clear hP hr hL hz hb)
    go_upto_region 9 with (go_at_call 34; refine (HPD.out w9).mono ?_; rintro e w10 ⟨a10, c10, rfl, hr, hb⟩; have HR10 := Lib.hid hr; have Hb10 := Lib.hid hb; have HB10 := Lib.hid (below_next HB9.out (Nat.le_refl _) hb); clear hr hb)
    have R8 : Hid (ReadsK w10 a8 H.length (H.map toI)) := Lib.hid ((HR8.out.keep Hb9.out (Nat.le_refl _)).keep Hb10.out (Nat.le_refl _))
    have R9 : Hid (ReadsK w10 a9 H.length (H.map toI)) := Lib.hid (HR9.out.keep Hb10.out (Nat.le_refl _))
    have s8 := Hb8.out.size
    have s9 := Hb9.out.size
    have s10 := Hb10.out.size
    obtain ⟨m, hm⟩ : ∃ m, m = H.length := ⟨_, rfl⟩
    rw [← hm] at R8 R9 HR10 hHl ⊢
    have HM := Lib.hid hm
    clear hm
    go_wp2_with (first
      | (go_at_call_of 13 (Value.slice a8 m m); refine (eqHunks w10 a8 a10 m m c10 _ R8.out HR10.out (by omega) HLI.out).mono ?_; rintro e w11 ⟨rfl, hq⟩; have HQ11 := Lib.hid hq; clear hq)
      | (go_at_call_of 13 (Value.slice a9 m m); refine (eqHunks w11 a9 a10 m m c10 _ (R9.out.quiet HQ11.out) (HR10.out.quiet HQ11.out) (by omega) HLI.out).mono ?_; rintro e w12 ⟨rfl, hq⟩; have HQ12 := Lib.hid (HQ11.out.trans hq); have HB12 := Lib.hid (HB10.out.trans (HQ12.out.below _)); have Hb12 : Hid (Below w9.heap.size w9 w12) := Lib.hid (Hb10.out.trans ((HQ12.out.below _).mono s10)); clear hq)
      | (go_at_call 14; refine (apartC w8 (w12.alloc (.cells #[.pointer none] 57)) C8 C9 _ _ H H (HM.out ▸ HP8.out) ((Hb9.out.trans (Hb12.out.mono s9)).alloc (Nat.le_trans s9 Hb12.out.size) _) (HM.out ▸ (HP9.out.keep (Hb12.out.alloc Hb12.out.size _))) HZ8.out HL9.out (fun x hx => (HOK.out.1 x hx).2.1) (fun x hx => (HOK.out.1 x hx).2.1) (by rw [← HM.out]; omega) (by rw [← HM.out]; omega) (fun x hx => by have := (HOK.out.1 x hx).2.2; omega) (fun x hx => by have := (HOK.out.1 x hx).2.2; omega) (fun x hx => by have := (HOK.out.1 x hx).1; omega)).mono ?_; rintro e w14 ⟨rfl, hb⟩; have HB14 : Hid (Below w1.heap.size w1 w14) := Lib.hid ((HB12.out.alloc HB12.out.size _).trans (hb.mono (Nat.le_trans s7 HL8.out))); clear hb)
      | (go_at_call 10; refine (worksC w14 (HK.out w14 HB14.out).2.2.2.1).mono ?_; rintro e w16 ⟨rfl, hb⟩; have HB16 := Lib.hid (below_next HB14.out (Nat.le_refl _) hb); clear hb))
    go_ret
    exact ⟨rfl, (HK.out _ HB16.out).2.2.2.2.1⟩
end Go.Proofs.YtnbihjocdlpplaaGreatDoor
