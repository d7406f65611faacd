/- Texts joined, one behind the other (AsS, FaultS, SFlt, LSeekQuoted, Laid31, HandS). -/
import Derived.Test.YtchdeboialbdiaaDoorSk25
import Derived.LaidEql
import Derived.Stop.Asserts
import Derived.RowKitTokens
import Derived.Deep.RegionHeld3
import Derived.Test.YtchdeboialbdiaaDoorRows
import Derived.Lib.LaidU8
import Derived.LaidSub
import Derived.LaidHandle
import Derived.Lay
import Derived.LaidMore
/- errors.As at an error of the layer: nil; or a pointer to a Fault, handed to a *Fault variable. (Turned from the guide's worked text 'ToyasAs'.) -/
namespace Go.Proofs.YtchdeboialbdiaaDoor
set_option linter.unusedVariables false
set_option linter.unusedSimpArgs false
open Go.RowKit Go.Extern.Stop Go.Stop Go.Extern
theorem Tryd.valueOf27 (t : Addr) (w : World) : (ReflectliteValue.unpack (.iface 123 (.pointer (some t)))).run Tryd.prog w
    = .ok (.agg #[.pointer (some ⟨4, 123, none⟩), .pointer (some ⟨w.heap.size, 0, none⟩), .int .u64 150]) (w.alloc (.cells #[.pointer (some t)] 123)) := by kernel_rfl
theorem Tryd.type27 (a : Addr) (w : World) : (ReflectliteValue.methodAny (ReflectliteValue.valueError "reflectlite.Value.Type" 0) (fun t _ _ _ => ReflectliteType.toType t) #[.agg #[.pointer (some ⟨4, 123, none⟩), .pointer (some a), .int .u64 150]]).run Tryd.prog w
    = .ok (.iface 168 (.agg #[.pointer (some ⟨4, 123, none⟩)])) w := by kernel_rfl
theorem Tryd.methodKind (h : Value) (w : World) : (Go.method (100 + 196) 168 (.agg #[h]) "Kind").run Tryd.prog w = .ok (134, h) w := by kernel_rfl
theorem Tryd.kind27 (w : World) : ((ReflectliteType.abiMethod fun t => (fun a : Nat => Value.int IntKind.u8 (a : Int)) <$> Rtype.kind t) #[.pointer (some ⟨4, 123, none⟩)]).run Tryd.prog w = .ok (.int .u8 22) w := by kernel_rfl
theorem Tryd.kind25 (w : World) : ((ReflectliteType.abiMethod fun t => (fun a : Nat => Value.int IntKind.u8 (a : Int)) <$> Rtype.kind t) #[.pointer (some ⟨4, 68, none⟩)]).run Tryd.prog w = .ok (.int .u8 22) w := by kernel_rfl

theorem rlm (z : Sem Value) (f : TypeId → Addr → Nat → Nat → Sem Value) (v : Value) :
    ReflectliteValue.method z f #[v] = (do match ← ReflectliteValue.parts v with | none => z | some (t, a, fl) => f t a fl (fl % 32)) := rfl
theorem Tryd.parts27 (a : Addr) (w : World) : (ReflectliteValue.parts (.agg #[.pointer (some ⟨4, 123, none⟩), .pointer (some a), .int .u64 150])).run Tryd.prog w = .ok (some (123, a, 150)) w := by kernel_rfl
theorem Tryd.isNil27 (a p : Addr) (W : World) (ha : W.cell? a = some (.pointer (some p))) :
    (ReflectliteValue.method (ReflectliteValue.valueError "reflectlite.Value.IsNil" 0) ReflectliteValue.isNil #[.agg #[.pointer (some ⟨4, 123, none⟩), .pointer (some a), .int .u64 150]]).run Tryd.prog W = .ok (.bool false) W := by
  rw [rlm]
  simp only [Sem.run_bind, Tryd.parts27, Result.andThen]
  simp [ReflectliteValue.isNil, loadVar, isAgg, underlying, Tryd.underlying123, ha, Result.andThen]

theorem Tryd.methodElem (h : Value) (w : World) : (Go.method (100 + 196) 168 (.agg #[h]) "Elem").run Tryd.prog w = .ok (147, .agg #[h]) w := by kernel_rfl
theorem Tryd.methodImplements (h : Value) (w : World) : (Go.method (100 + 196) 168 (.agg #[h]) "Implements").run Tryd.prog w = .ok (148, .agg #[h]) w := by kernel_rfl
theorem Tryd.methodAssignableTo (h : Value) (w : World) : (Go.method (100 + 196) 168 (.agg #[h]) "AssignableTo").run Tryd.prog w = .ok (145, .agg #[h]) w := by kernel_rfl
theorem Tryd.elem27 (w : World) : (ReflectliteType.method ReflectliteType.elem #[.agg #[.pointer (some ⟨4, 123, none⟩)]]).run Tryd.prog w = .ok (.iface 168 (.agg #[.pointer (some ⟨4, 68, none⟩)])) w := by kernel_rfl
theorem Tryd.implements25 (w : World) : (ReflectliteType.relation "Implements" ReflectliteType.implements_ #[.agg #[.pointer (some ⟨4, 68, none⟩)], .iface 168 (.agg #[.pointer (some ⟨4, 26, none⟩)])]).run Tryd.prog w = .ok (.bool true) w := by kernel_rfl
theorem Tryd.typeOf25 (v : Value) (w : World) : (ReflectliteType.typeOf #[.iface 68 v]).run Tryd.prog w = .ok (.iface 168 (.agg #[.pointer (some ⟨4, 68, none⟩)])) w := by kernel_rfl
theorem Tryd.assignable25 (w : World) : (ReflectliteType.relation "AssignableTo" ReflectliteType.assignableTo #[.agg #[.pointer (some ⟨4, 68, none⟩)], .iface 168 (.agg #[.pointer (some ⟨4, 68, none⟩)])]).run Tryd.prog w = .ok (.bool true) w := by kernel_rfl
theorem Tryd.valueOf25 (e : Addr) (w : World) : (ReflectliteValue.unpack (.iface 68 (.pointer (some e)))).run Tryd.prog w
    = .ok (.agg #[.pointer (some ⟨4, 68, none⟩), .pointer (some ⟨w.heap.size, 0, none⟩), .int .u64 150]) (w.alloc (.cells #[.pointer (some e)] 68)) := by kernel_rfl

theorem Tryd.elemOf27 (w : World) : (Rtype.elem? 123).run Tryd.prog w = .ok (some 68) w := by kernel_rfl
theorem Tryd.mk25 (p : Addr) (w : World) : (ReflectliteValue.mk 68 p ReflectliteValue.flagAddr).run Tryd.prog w = .ok (.agg #[.pointer (some ⟨4, 68, none⟩), .pointer (some p), .int .u64 406]) w := by kernel_rfl
theorem Tryd.elemV27 (a p : Addr) (W : World) (ha : W.cell? a = some (.pointer (some p))) :
    (ReflectliteValue.method (ReflectliteValue.valueError "reflectlite.Value.Elem" 0) ReflectliteValue.elem #[.agg #[.pointer (some ⟨4, 123, none⟩), .pointer (some a), .int .u64 150]]).run Tryd.prog W
      = .ok (.agg #[.pointer (some ⟨4, 68, none⟩), .pointer (some p), .int .u64 406]) W := by
  rw [rlm]
  simp only [Sem.run_bind, Tryd.parts27, Result.andThen]
  simp [ReflectliteValue.elem, loadVar, isAgg, underlying, Tryd.underlying123, ha, Result.andThen, Tryd.elemOf27, Tryd.mk25]
theorem rls (v x : Value) : ReflectliteValue.set #[v, x] = (do
    let (some (dst, a, fl), some (src, b, _)) := (← ReflectliteValue.parts v, ← ReflectliteValue.parts x)
      | unsupported (.noEntry "extern/(internal/reflectlite.Value).Set.zeroValue")
    if fl / ReflectliteValue.flagAddr % 2 == 0 then unsupported (.noEntry "extern/(internal/reflectlite.Value).Set.unaddressable")
    let val ← loadVar src b
    if ← Rtype.directlyAssignable dst src then storeVar dst a val
    else if ← Rtype.implements dst src then
      if (← Rtype.kind src) == 20 then
        match val with
        | .nilIface => unsupported (.noEntry "extern/reflectlite: a nil value of one interface type handed on as a value of another")
        | _ => storeVar dst a val
      else storeVar dst a (.iface src val)
    else panicString ("reflectlite.Set: value of type " ++ (← Rtype.spelt src) ++ " is not assignable to type " ++ (← Rtype.spelt dst))
    pure (.tuple #[])) := rfl
theorem Tryd.parts25a (a : Addr) (w : World) : (ReflectliteValue.parts (.agg #[.pointer (some ⟨4, 68, none⟩), .pointer (some a), .int .u64 406])).run Tryd.prog w = .ok (some (68, a, 406)) w := by kernel_rfl
theorem Tryd.parts25 (a : Addr) (w : World) : (ReflectliteValue.parts (.agg #[.pointer (some ⟨4, 68, none⟩), .pointer (some a), .int .u64 150])).run Tryd.prog w = .ok (some (68, a, 150)) w := by kernel_rfl
theorem Tryd.direct25 (w : World) : (Rtype.directlyAssignable 68 68).run Tryd.prog w = .ok true w := by kernel_rfl
theorem Tryd.set25 (ta b e : Addr) (old : Value) (W : World) (hb : W.cell? b = some (.pointer (some e))) (ht : W.cell? ta = some old) (hf : W.frozen? ta = false) :
    (ReflectliteValue.set #[.agg #[.pointer (some ⟨4, 68, none⟩), .pointer (some ta), .int .u64 406], .agg #[.pointer (some ⟨4, 68, none⟩), .pointer (some b), .int .u64 150]]).run Tryd.prog W
      = .ok (.tuple #[]) (W.setCell ta (.pointer (some e))) := by
  rw [rls]
  simp only [Sem.run_bind, Tryd.parts25a, Tryd.parts25, Result.andThen]
  simp [ReflectliteValue.flagAddr, loadVar, isAgg, underlying, Tryd.underlying68, hb, Result.andThen, Tryd.direct25, storeVar, Value.cells, storeCells, Addr.add]
  rw [run_store Tryd.prog W ta _ _ (by rfl)]
  simp [ht, hf]

set_option maxHeartbeats 4000000 in
theorem as_hit (e t : Addr) (old : Value) (w : World) (hg : w.cell? ⟨0, 0, none⟩ = some (.iface 168 (.agg #[.pointer (some ⟨4, 26, none⟩)]))) (ht0 : w.cell? t = some old) (hf0 : w.frozen? t = false) :
    Calls Tryd.prog 51 #[.iface 68 (.pointer (some e)), .iface 123 (.pointer (some t))] w fun ev w' => ev = .returned (.bool true) ∧ w' = ((((w.alloc (.cells #[.pointer (some t)] 123)).alloc (.cells #[.pointer (some ⟨4, 123, none⟩), .pointer (some ⟨w.heap.size, 0, none⟩), .int .u64 150] 145)).alloc (.cells #[.pointer (some ⟨4, 123, none⟩), .pointer (some ⟨w.heap.size, 0, none⟩), .int .u64 150] 145)).alloc (.cells #[.pointer (some e)] 68)).setCell t (.pointer (some e)) := by
  have h6 := @run_callFunc_extern Tryd.prog 70 _ (fun args => ReflectliteValue.unpack (args.getD 0 (.tuple #[]))) Tryd.func70 (by kernel_rfl) (by kernel_rfl) (by kernel_rfl) (by kernel_rfl)
  have h7 := @run_callFunc_extern Tryd.prog 71 _ (ReflectliteValue.methodAny (ReflectliteValue.valueError "reflectlite.Value.Type" 0) (fun t _ _ _ => ReflectliteType.toType t)) Tryd.func71 (by kernel_rfl) (by kernel_rfl) (by kernel_rfl) (by kernel_rfl)
  have h8 := @run_callFunc_extern Tryd.prog 72 _ (ReflectliteValue.method (ReflectliteValue.valueError "reflectlite.Value.IsNil" 0) ReflectliteValue.isNil) Tryd.func72 (by kernel_rfl) (by kernel_rfl) (by kernel_rfl) (by kernel_rfl)
  have h27 := @run_callFunc_extern Tryd.prog 134 _ (ReflectliteType.abiMethod fun t => do pure (.int .u8 (← Rtype.kind t))) Tryd.func134 (by kernel_rfl) (by kernel_rfl) (by kernel_rfl) (by kernel_rfl)
  have h37 := @run_callFunc_extern Tryd.prog 147 _ (ReflectliteType.method ReflectliteType.elem) Tryd.func147 (by kernel_rfl) (by kernel_rfl) (by kernel_rfl) (by kernel_rfl)
  have h38 := @run_callFunc_extern Tryd.prog 148 _ (ReflectliteType.relation "Implements" ReflectliteType.implements_) Tryd.func148 (by kernel_rfl) (by kernel_rfl) (by kernel_rfl) (by kernel_rfl)
  have h10 := @run_callFunc_extern Tryd.prog 94 _ ReflectliteType.typeOf Tryd.func94 (by kernel_rfl) (by kernel_rfl) (by kernel_rfl) (by kernel_rfl)
  have h35 := @run_callFunc_extern Tryd.prog 145 _ (ReflectliteType.relation "AssignableTo" ReflectliteType.assignableTo) Tryd.func145 (by kernel_rfl) (by kernel_rfl) (by kernel_rfl) (by kernel_rfl)
  have h11 := @run_callFunc_extern Tryd.prog 95 _ (ReflectliteValue.method (ReflectliteValue.valueError "reflectlite.Value.Elem" 0) ReflectliteValue.elem) Tryd.func95 (by kernel_rfl) (by kernel_rfl) (by kernel_rfl) (by kernel_rfl)
  have h12 := @run_callFunc_extern Tryd.prog 96 _ ReflectliteValue.set Tryd.func96 (by kernel_rfl) (by kernel_rfl) (by kernel_rfl) (by kernel_rfl)
  have tO := Tryd.typeOf25
  have mA := Tryd.methodAssignableTo
  have a25 := Tryd.assignable25
  have v25 := Tryd.valueOf25
  have f6 := Tryd.valueOf27
  have f7 := Tryd.type27
  have mK := Tryd.methodKind
  have mE := Tryd.methodElem
  have mI := Tryd.methodImplements
  have k27 := Tryd.kind27
  have k25 := Tryd.kind25
  have e27 := Tryd.elem27
  have i25 := Tryd.implements25
  have n8 := Tryd.isNil27 ⟨w.heap.size, 0, none⟩ t ((w.alloc (.cells #[.pointer (some t)] 123)).alloc (.cells #[.pointer (some ⟨4, 123, none⟩), .pointer (some ⟨w.heap.size, 0, none⟩), .int .u64 150] 145)) (by simp)
  have hlt : 0 < w.heap.size := by
    rcases Nat.eq_zero_or_pos w.heap.size with h0 | h
    · simp [World.cell?, h0] at hg
    · exact h
  have hg2 : ((w.alloc (.cells #[.pointer (some t)] 123)).alloc (.cells #[.pointer (some ⟨4, 123, none⟩), .pointer (some ⟨w.heap.size, 0, none⟩), .int .u64 150] 145)).cell? ⟨0, 0, none⟩ = some (.iface 168 (.agg #[.pointer (some ⟨4, 26, none⟩)])) := by
    rw [World.cell?_alloc_lt _ _ ⟨0, 0, none⟩ (by simp), World.cell?_alloc_lt _ _ ⟨0, 0, none⟩ hlt]; exact hg
  have htl : t.block < w.heap.size := by
    rcases Nat.lt_or_ge t.block w.heap.size with h | h
    · exact h
    · simp [World.cell?, Array.getElem?_eq_none h] at ht0
  have el := Tryd.elemV27 ⟨w.heap.size, 0, none⟩ t (((w.alloc (.cells #[.pointer (some t)] 123)).alloc (.cells #[.pointer (some ⟨4, 123, none⟩), .pointer (some ⟨w.heap.size, 0, none⟩), .int .u64 150] 145)).alloc (.cells #[.pointer (some ⟨4, 123, none⟩), .pointer (some ⟨w.heap.size, 0, none⟩), .int .u64 150] 145)) (by rw [World.cell?_alloc_lt _ _ ⟨w.heap.size, 0, none⟩ (by simp; omega)]; simp)
  have st := Tryd.set25 t ⟨w.heap.size + 1 + 1 + 1, 0, none⟩ e old ((((w.alloc (.cells #[.pointer (some t)] 123)).alloc (.cells #[.pointer (some ⟨4, 123, none⟩), .pointer (some ⟨w.heap.size, 0, none⟩), .int .u64 150] 145)).alloc (.cells #[.pointer (some ⟨4, 123, none⟩), .pointer (some ⟨w.heap.size, 0, none⟩), .int .u64 150] 145)).alloc (.cells #[.pointer (some e)] 68))
    (by rw [World.cell?_alloc_at _ _ _ _ (by simp)]; rfl)
    (by rw [World.cell?_alloc_lt _ _ t (by simp; omega), World.cell?_alloc_lt _ _ t (by simp; omega), World.cell?_alloc_lt _ _ t (by simp; omega), World.cell?_alloc_lt _ _ t htl]; exact ht0)
    (by rw [World.frozen?_alloc_old _ _ t (by simp; omega), World.frozen?_alloc_old _ _ t (by simp; omega), World.frozen?_alloc_old _ _ t (by simp; omega), World.frozen?_alloc_old _ _ t (Nat.ne_of_lt htl)]; exact hf0)
  go_enter Tryd.func51, Tryd.ntmps51
  go_wp2
  refine wp_loop_rounds 1 ?_
  rw [rounds_succ]
  go_wp2
  go_ret
  exact ⟨rfl, rfl⟩
end Go.Proofs.YtchdeboialbdiaaDoor
/- errors.As at a fault, in plain words. -/
namespace Go.Proofs.YtchdeboialbdiaaDoor
set_option linter.unusedVariables false
set_option linter.unusedSimpArgs false
open Go.RowKit
/-- the handle of the type 'error', where errors.As reads it -/
def ErrT (w : World) : Prop := w.cell? ⟨0, 0, none⟩ = some (.iface 168 (.agg #[.pointer (some ⟨4, 26, none⟩)]))
theorem cell_lt {w : World} {b o : Nat} {v : Value} (h : w.cell? ⟨b, o, none⟩ = some v) : b < w.heap.size := by
  rcases Nat.lt_or_ge b w.heap.size with h1 | h1
  · exact h1
  · simp [World.cell?, Array.getElem?_eq_none h1] at h
theorem ErrT.next {w w' : World} (h : ErrT w) (b : Below w.heap.size w w') : ErrT w' := by
  unfold ErrT at *
  rw [b.cell (p := ⟨0, 0, none⟩) (cell_lt h)]
  exact h
set_option maxHeartbeats 4000000 in
/-- errors.As finds the fault; what else stood stays -/
theorem as_fault (w : World) (g t B : Nat) (c q : Int) (hR : Row w g 70 [.int .i64 c, .int .i64 q]) (hT : Row w t 68 [.pointer none]) (hE : ErrT w) (hB : B ≤ t) (hne : g ≠ t) :
    Calls Tryd.prog 51 #[.iface 68 (.pointer (some ⟨g, 0, none⟩)), .iface 123 (.pointer (some ⟨t, 0, none⟩))] w fun ev w' => ev = .returned (.bool true) ∧ w'.cell? ⟨t, 0, none⟩ = some (.pointer (some ⟨g, 0, none⟩)) ∧ w'.cell? ⟨g, 0, none⟩ = some (.int .i64 c) ∧ w'.cell? ⟨g, 1, none⟩ = some (.int .i64 q) ∧ Below B w w' ∧ ∀ k, k < w.heap.size → k ≠ t → w'.heap[k]? = w.heap[k]? := by
  have htl := hT.lt
  have hgl := hR.lt
  have ht0 : w.cell? ⟨t, 0, none⟩ = some (.pointer none) := hT.cell 0
  have hf0 : w.frozen? ⟨t, 0, none⟩ = false := hT.frozen 0
  refine (as_hit ⟨g, 0, none⟩ ⟨t, 0, none⟩ (.pointer none) w hE ht0 hf0).mono ?_
  rintro ev w' ⟨rfl, rfl⟩
  obtain ⟨w4, hw4⟩ : ∃ W, W = (((w.alloc (.cells #[.pointer (some ⟨t, 0, none⟩)] 123)).alloc (.cells #[.pointer (some ⟨4, 123, none⟩), .pointer (some ⟨w.heap.size, 0, none⟩), .int .u64 150] 145)).alloc (.cells #[.pointer (some ⟨4, 123, none⟩), .pointer (some ⟨w.heap.size, 0, none⟩), .int .u64 150] 145)).alloc (.cells #[.pointer (some ⟨g, 0, none⟩)] 68) := ⟨_, rfl⟩
  have hb4 : Below w.heap.size w w4 := by
    rw [hw4]
    exact ((((Below.refl _ w).alloc (Nat.le_refl _) _).alloc (by simp) _).alloc (by simp; omega) _).alloc (by simp; omega) _
  rw [← hw4]
  clear hw4
  have hT4 : Row w4 t 68 [.pointer none] := hT.keep hb4 htl
  have hR4 : Row w4 g 70 [.int .i64 c, .int .i64 q] := hR.keep hb4 hgl
  have hB4 : B ≤ w4.heap.size := by have := hb4.size; omega
  refine ⟨rfl, World.cell?_setCell_same _ _ _ (hT4.cell 0), ?_, ?_, ((hb4.mono (by omega)).setCell (p := ⟨t, 0, none⟩) hB _), fun k hk hkt => ?_⟩
  · rw [World.cell?_setCell_far _ _ _ _ (by simp only; omega)]; exact hR4.cell 0
  · rw [World.cell?_setCell_far _ _ _ _ (by simp only; omega)]; exact hR4.cell 1
  · rw [Below.heap_setCell _ _ _ _ (by simp only; omega)]
    exact hb4.block k hk
end Go.Proofs.YtchdeboialbdiaaDoor
/- The statement's own 'fault', and the program's Text. -/
namespace Go.Proofs.YtchdeboialbdiaaDoor
set_option linter.unusedVariables false
set_option linter.unusedSimpArgs false
open Go.RowKit
open Go.Lib hiding intOf
set_option maxHeartbeats 4000000 in
set_option maxRecDepth 100000 in
theorem fault_nil (w : World) : Calls Tryd.prog 30 #[.nilIface] w fun e w' => e = .returned (.tuple #[.int .i64 0, .int .i64 0, .bool true]) ∧ w' = w := by
  go_enter Tryd.func30, Tryd.ntmps30
  go_wp2_with fail
  go_ret3
  exact ⟨rfl, rfl⟩
set_option maxHeartbeats 4000000 in
set_option maxRecDepth 100000 in
theorem fault_is (w : World) (g : Nat) (c q : Int) (hR : Row w g 70 [.int .i64 c, .int .i64 q]) (hc : (c == 0) = false) (hE : ErrT w) : Calls Tryd.prog 30 #[.iface 68 (.pointer (some ⟨g, 0, none⟩))] w fun e w' => e = .returned (.tuple #[.int .i64 c, .int .i64 q, .bool true]) ∧ Below w.heap.size w w' := by
  have hb : Below w.heap.size w (w.alloc (.cells #[.pointer none] 68)) := (Below.refl _ w).alloc (Nat.le_refl _) _
  have hT : Row (w.alloc (.cells #[.pointer none] 68)) w.heap.size 68 [.pointer none] := row_new w [.pointer none] _
  have hA := as_fault (w.alloc (.cells #[.pointer none] 68)) g w.heap.size w.heap.size c q (hR.keep hb hR.lt) hT (hE.next hb) (Nat.le_refl _) (by have := hR.lt; omega)
  have HA : Hid (Calls Tryd.prog 51 #[.iface 68 (.pointer (some ⟨g, 0, none⟩)), .iface 123 (.pointer (some ⟨w.heap.size, 0, none⟩))] (w.alloc (.cells #[.pointer none] 68)) fun e w' => e = .returned (.bool true) ∧ w'.cell? ⟨w.heap.size, 0, none⟩ = some (.pointer (some ⟨g, 0, none⟩)) ∧ w'.cell? ⟨g, 0, none⟩ = some (.int .i64 c) ∧ w'.cell? ⟨g, 1, none⟩ = some (.int .i64 q) ∧ Below w.heap.size w w') := Lib.hid (hA.mono (by
    rintro e w' ⟨h1, h2, h3, h4, h5, _⟩
    exact ⟨h1, h2, h3, h4, hb.trans h5⟩))
  clear hA hT hb hR hE
  go_enter Tryd.func30, Tryd.ntmps30
  go_wp2_with (go_at_call 51; refine (HA.out).mono ?_; rintro e w1 ⟨rfl, c0, c1, c2, hb1⟩; have HB1 := Lib.hid hb1; clear hb1)
  go_quiet (fail)
  go_wp2_with fail
  go_ret3
  exact ⟨rfl, HB1.out.trans (Quiet.below ⟨_, rfl⟩ _)⟩
set_option maxHeartbeats 4000000 in
set_option maxRecDepth 100000 in
theorem textC (w : World) (g : Nat) (l : List UInt8) (fo : Bool) (its : List Itm) (hP : PatIs w g l fo its) : Calls Tryd.prog 31 #[.pointer (some ⟨g, 0, none⟩)] w fun e w' => e = .returned (.string (bstr l)) ∧ w' = w := by
  obtain ⟨v, L, B, hrow, _, _⟩ := hP
  have c0 := hrow.cell 0
  have hl := hrow.lt
  clear hrow
  go_enter Tryd.func31, Tryd.ntmps31
  go_wp2_with fail
  go_ret
  exact ⟨rfl, rfl⟩
end Go.Proofs.YtchdeboialbdiaaDoor
/- SeekQuoted: a quoted text matches just where that text stands; answers are new memory. -/
namespace Go.Proofs.YtchdeboialbdiaaDoor
set_option linter.unusedVariables false
set_option linter.unusedSimpArgs false
open Go.RowKit
open Go.Lib hiding intOf
theorem quote_more (l : List UInt8) : l.length ≤ (quoteL l).length := by
  unfold quoteL
  induction l with
  | nil => exact Nat.le_refl _
  | cons x r ih =>
    rw [List.flatMap_cons, List.length_append, List.length_cons]
    have : 1 ≤ (qOne x).length := by unfold qOne; split <;> simp
    omega
set_option maxHeartbeats 8000000 in
set_option maxRecDepth 100000 in
theorem seekQuoted_walk (w : World) (bf : List UInt8) (hbf : bf.length ≤ 1048576) (s : List UInt8) (hs : s.length ≤ 1048576) (bh : List UInt8) (hbh : bh.length ≤ 1048576) (hT : Tabs w) (hE : ErrT w) :
    Calls Tryd.prog 8 #[.string (bstr bf), .string (bstr s), .string (bstr bh)] w fun e w' => e = .returned (.bool true) ∧ Below w.heap.size w w' := by
  have hQ := quoteC w s (by omega)
  obtain ⟨q, hq⟩ : ∃ q, quoteL s = q := ⟨_, rfl⟩
  have hql := quote_len s
  have hqm := quote_more s
  have hit := quote_items s
  rw [hq] at hQ hql hqm hit
  have HQ := Lib.hid hQ
  have HT := Lib.hid hT
  have HE := Lib.hid hE
  have HIT := Lib.hid hit
  clear hQ hq hT hE hit
  by_cases hbig : 256 < q.length
  · have hbi : (256 : Int) < (q.length : Int) := by omega
    have HC : Hid (∀ W, Tabs W → Calls Tryd.prog 10 #[.string (bstr q)] W fun e w' => ∃ g, e = .returned (.tuple #[.pointer none, .iface 68 (.pointer (some ⟨g, 0, none⟩))]) ∧ Row w' g 70 [.int .i64 4, .int .i64 0] ∧ Below W.heap.size W w') := Lib.hid (fun W hW => (compileF W q (by omega) hW).mono (by
      rintro e w' ⟨hb, h⟩
      rw [if_pos hbig] at h
      obtain ⟨g, h1, _, h2⟩ := h
      exact ⟨g, h1, h2, hb⟩))
    go_enter Tryd.func8, Tryd.ntmps8
    go_wp2_with (first
      | (go_at_call 24; refine (HQ.out).mono ?_; rintro e w1 ⟨rfl, hb1⟩; have HB1 := Lib.hid hb1; clear hb1)
      | (go_at_call 10; refine (HC.out w1 (HT.out.next HB1.out)).mono ?_; rintro e w2 ⟨g, rfl, hr2, hb2⟩; have HR2 := Lib.hid hr2; have HB2 := Lib.hid (HB1.out.trans (hb2.mono HB1.out.size)); clear hr2 hb2)
      | (go_at_call 30; refine (fault_is _ g 4 0 HR2.out (by decide) (HE.out.next HB2.out)).mono ?_; rintro e w3 ⟨rfl, hb3⟩; have HB3 := Lib.hid (HB2.out.trans (hb3.mono HB2.out.size)); clear hb3)
      | (go_at_call 12; refine (worksC _ (HT.out.next HB3.out)).mono ?_; rintro e w4 ⟨rfl, hb4⟩; have HB4 := Lib.hid (HB3.out.trans (hb4.mono HB3.out.size)); clear hb4))
    go_ret
    exact ⟨rfl, HB4.out⟩
  · have hbi : ¬ (256 : Int) < (q.length : Int) := by omega
    have hsl : s.length ≤ 256 := by omega
    obtain ⟨its, hits⟩ : ∃ i, (plainP (valsL s)).map itB = i := ⟨_, rfl⟩
    have HC : Hid (∀ W, Tabs W → Calls Tryd.prog 10 #[.string (bstr q)] W fun e w' => ∃ g, e = .returned (.tuple #[.pointer (some ⟨g, 0, none⟩), .nilIface]) ∧ Hid (PatIs w' g q false its) ∧ Below W.heap.size W w') := Lib.hid (fun W hW => (compileF W q (by omega) hW).mono (by
      rintro e w' ⟨hb, h⟩
      rw [if_neg hbig, HIT.out.1, HIT.out.2, hits] at h
      obtain ⟨g, h1, _, h2⟩ := h
      exact ⟨g, h1, Lib.hid h2.is, hb⟩))
    have HIL : Hid (its.length ≤ 256) := Lib.hid (by
      have := vals_len s
      rw [← hits, List.length_map]
      unfold plainP
      rw [List.length_map]
      omega)
    obtain ⟨A, hA⟩ : ∃ A, bf.take 50 = A := ⟨_, rfl⟩
    have hAl : A.length ≤ 50 := by rw [← hA, List.length_take]; omega
    obtain ⟨Z, hZ⟩ : ∃ Z, bh.take 50 = Z := ⟨_, rfl⟩
    have hZl : Z.length ≤ 50 := by rw [← hZ, List.length_take]; omega
    have HCA : Hid (∀ W, Calls Tryd.prog 13 #[.string (bstr bf), .int .i64 50] W fun e w' => e = .returned (.string (bstr A)) ∧ w' = W) := Lib.hid (fun W => by rw [← hA]; exact cutC W bf 50 (by decide))
    have HCZ : Hid (∀ W, Calls Tryd.prog 13 #[.string (bstr bh), .int .i64 50] W fun e w' => e = .returned (.string (bstr Z)) ∧ w' = W) := Lib.hid (fun W => by rw [← hZ]; exact cutC W bh 50 (by decide))
    have HITS := Lib.hid hits
    have hll : (q == q) = true := by simp
    have hl2 : (q != q) = false := by simp
    clear hits hA hZ hqm hql hbig
    go_enter Tryd.func8, Tryd.ntmps8
    go_wp2_with (first
      | (go_at_call 24; refine (HQ.out).mono ?_; rintro e w1 ⟨rfl, hb1⟩; have HB1 := Lib.hid hb1; clear hb1)
      | (go_at_call 10; refine (HC.out w1 (HT.out.next HB1.out)).mono ?_; rintro e w2 ⟨g, rfl, HP2, hb2⟩; have HB2 := Lib.hid (HB1.out.trans (hb2.mono HB1.out.size)); clear hb2)
      | (go_at_call 31; refine (textC _ g q false its HP2.out).mono ?_; rintro e w5 ⟨rfl, hw5⟩; obtain rfl := hw5.symm)
      | (go_at_call 13; (with_reducible refine (HCA.out _).mono ?_); rintro e w5 ⟨rfl, hw5⟩; obtain rfl := hw5.symm)
      | (go_at_call 13; (with_reducible refine (HCZ.out _).mono ?_); rintro e w5 ⟨rfl, hw5⟩; obtain rfl := hw5.symm))
    obtain ⟨t, ht⟩ : ∃ t, A ++ (s ++ Z) = t := ⟨_, rfl⟩
    have htl : t.length ≤ 356 := by rw [← ht, List.length_append, List.length_append]; omega
    rw [ht]
    clear ht hAl hZl
    obtain ⟨N, hN⟩ : ∃ N, t.length = N := ⟨_, rfl⟩
    have hsz : (bstr t).size = N := by rw [bstr_size, hN]
    rw [hN] at htl
    have HN := Lib.hid hN
    have HTB : Hid (∀ W, Below w2.heap.size w2 W → Tabs W ∧ Below w.heap.size w W ∧ PatIs W g q false its) := Lib.hid (fun W hb => by
      have h1 := HB2.out
      have h3 := h1.trans (hb.mono h1.size)
      exact ⟨HT.out.next h3, h3, HP2.out.keep hb⟩)
    clear hN
    go_loopw [14] (fun u wr => ∃ k : Nat, u = .int .i64 (k : Int) ∧ k ≤ N + 1 ∧ Hid (Below w2.heap.size w2 wr)) (fun u _ => N + 2 - (RowKit.intOf u).toNat)
    case atStart => exact ⟨0, rfl, Nat.zero_le _, Lib.hid (Below.refl _ _)⟩
    case round =>
      obtain ⟨k, rfl, hk, HR⟩ := hrel
      by_cases hlt : k ≤ N
      · have hki : (k : Int) ≤ (N : Int) := by omega
        have hM := matchPC wr g q t false its (k : Int) (HTB.out wr HR.out).2.2 (by rw [HN.out]; omega) (by have := HIL.out; omega) (HTB.out wr HR.out).1
        rw [← HITS.out, match_quote] at hM
        obtain ⟨sl, hsl2⟩ : ∃ sl, s.length = sl := ⟨_, rfl⟩
        have hss : (bstr s).size = sl := by rw [bstr_size, hsl2]
        by_cases hst : StandP t s k
        · rw [if_pos hst] at hM
          unfold placeV at hM
          dsimp only at hM
          rw [hsl2, show ((k + sl : Nat) : Int) = (k : Int) + (sl : Int) by omega] at hM
          have HM := Lib.hid hM
          have HS := Lib.hid (fun W => standsC W t s k true ⟨fun _ => hst, fun _ => rfl⟩ (by rw [HN.out]; exact hlt) (by rw [HN.out]; omega) (by omega))
          have e1 : (((k : Int) + (sl : Int)) != ((k : Int) + (sl : Int))) = false := by simp
          rw [hsl2] at hsl
          clear hM hst hsl2 hs
          go_wp2_with (first
            | (go_at_call 14; refine (HM.out).mono ?_; rintro e w5 ⟨rfl, hb5⟩; have HB5 := Lib.hid (HR.out.trans (hb5.mono HR.out.size)); clear hb5)
            | (go_at_call 32; refine (HS.out _).mono ?_; rintro e w6 ⟨rfl, hb6⟩; have HB6 := Lib.hid (HB5.out.trans (hb6.mono HB5.out.size)); clear hb6))
          go_roundw
          case rel => exact ⟨k + 1, by go_num, by omega, HB6⟩
          case measure => simp [RowKit.intOf]; omega
        · rw [if_neg hst] at hM
          unfold placeV at hM
          dsimp only at hM
          have HM := Lib.hid hM
          have HS := Lib.hid (fun W => standsC W t s k false ⟨fun h => (by cases h), fun h => absurd h hst⟩ (by rw [HN.out]; exact hlt) (by rw [HN.out]; omega) (by omega))
          clear hM hst hsl2 hs
          go_wp2_with (first
            | (go_at_call 14; refine (HM.out).mono ?_; rintro e w5 ⟨rfl, hb5⟩; have HB5 := Lib.hid (HR.out.trans (hb5.mono HR.out.size)); clear hb5)
            | (go_at_call 32; refine (HS.out _).mono ?_; rintro e w6 ⟨rfl, hb6⟩; have HB6 := Lib.hid (HB5.out.trans (hb6.mono HB5.out.size)); clear hb6))
          go_roundw
          case rel => exact ⟨k + 1, by go_num, by omega, HB6⟩
          case measure => simp [RowKit.intOf]; omega
      · obtain rfl : k = N + 1 := by omega
        have hki : ¬ ((N : Int) + 1) ≤ (N : Int) := by omega
        go_wp2_with (go_at_call 12; refine (worksC _ (HTB.out _ HR.out).1).mono ?_; rintro e w4 ⟨rfl, hb4⟩; have HB4 := Lib.hid ((HTB.out _ HR.out).2.1.trans (hb4.mono (HTB.out _ HR.out).2.1.size)); clear hb4)
        go_ret
        exact ⟨rfl, HB4.out⟩
end Go.Proofs.YtchdeboialbdiaaDoor
/- What the row's list gives: the tables in the world. -/
namespace Go.Proofs.YtchdeboialbdiaaDoor
set_option linter.unusedVariables false
set_option linter.unusedSimpArgs false
open Go.Lib Go.RowKit
theorem tab_cells {w : World} {n : String} {k : IntKind} {zs : List Int} {d : DataW Unit} (hd0 : d = tabData k zs) (h : VarReads Tryd.prog w n d) {g : Nat} {t e : TypeId} {m : Nat} (hg : Tryd.prog.globalNamed n = some g) (hty : (Tryd.prog.globals[g]?).map (·.type) = some t)
    (ht : Tryd.prog.underlying t = some (.array m e)) (he : Tryd.prog.underlying e = some (.int k)) (hce : Tryd.prog.cellsOf e = 1) (hct : Tryd.prog.cellsOf t = m) : TabIs Tryd.prog w n k zs := by
  subst hd0
  obtain ⟨g', t', cs, fuel, p, hg', ht', hvar, hd⟩ := h
  obtain rfl := Option.some.inj (hg.symm.trans hg')
  obtain rfl := Option.some.inj (hty.symm.trans ht')
  unfold TabIs
  rw [hvar, ← cells_of_tab ht he hce hct hd]
theorem first_data : Rows.laid_unicode_utf8_first = tabData .u8 firstTab := by kernel_rfl
theorem accept_data : (Rows.laid_unicode_utf8_acceptRanges : DataW Unit) = acceptData := by kernel_rfl
theorem tabs_of {l : List (String × DataW Unit)} {w : World} (h : laidMet Tryd.prog l w) (m1 : ("unicode/utf8.first", Rows.laid_unicode_utf8_first) ∈ l) (m2 : ("unicode/utf8.acceptRanges", Rows.laid_unicode_utf8_acceptRanges) ∈ l) : Tabs w := by
  have t1 : TabIs Tryd.prog w "unicode/utf8.first" .u8 firstTab := tab_cells first_data (laidMet.reads h m1) (g := 2) (t := 189) (e := 5) (by kernel_rfl) (by kernel_rfl) Tryd.underlying189 Tryd.underlying5 (by kernel_rfl) (by kernel_rfl)
  have key : ∀ i, i < 16 → w.cell? ⟨3, 2 * i, none⟩ = some (.int .u8 (accLo i : Int)) ∧ w.cell? ⟨3, 2 * i + 1, none⟩ = some (.int .u8 (accHi i : Int)) := fun i hi => by
    have h4 := laidMet.reads h m2
    rw [accept_data] at h4
    obtain ⟨g, t, cs, fuel, p, hg, hty, hvar, hd⟩ := h4
    obtain rfl := Option.some.inj ((show Tryd.prog.globalNamed "unicode/utf8.acceptRanges" = some 3 by kernel_rfl).symm.trans hg)
    obtain rfl := Option.some.inj ((show (Tryd.prog.globals[3]?).map (·.type) = some 193 by kernel_rfl).symm.trans hty)
    have c138 : Tryd.prog.cellsOf 192 = 2 := by kernel_rfl
    have c5 : Tryd.prog.cellsOf 5 = 1 := by kernel_rfl
    obtain ⟨fuel', d, q, hdi, he⟩ := array_elem Tryd.underlying193 hd i hi
    simp only [List.getElem?_map, List.getElem?_range hi, Option.map_some, Option.some.injEq] at hdi
    subst hdi
    rw [c138] at he
    have hcs := ints_of_struct Tryd.underlying192 (fun j f hj => by
      match j, hj with
      | 0, hj => simp at hj; subst hj; exact ⟨Tryd.underlying5, rfl, c5⟩
      | 1, hj => simp at hj; subst hj; exact ⟨Tryd.underlying5, rfl, c5⟩
      | j + 2, hj => simp at hj) (by rw [c138]; rfl) he
    have e0 := congrArg (·[0]?) hcs
    have e1 := congrArg (·[1]?) hcs
    simp only [List.getElem?_take, List.getElem?_drop] at e0 e1
    constructor
    · rw [World.var?_cell hg hvar (2 * i), ← Array.getElem?_toList]
      simpa [Nat.mul_comm] using e0
    · rw [World.var?_cell hg hvar (2 * i + 1), ← Array.getElem?_toList]
      simpa [Nat.mul_comm] using e1
  refine ⟨⟨fun c hc => ?_, fun i hi => ?_⟩, ?_⟩
  · have := t1.cell (g := 2) (by kernel_rfl) c (by simpa [firstTab] using hc)
    rw [this]
    simp [firstTab, List.getD, hc]
  · exact key i hi
  · have := World.block_lt_of_cell? w _ (key 0 (by decide)).1
    exact this
end Go.Proofs.YtchdeboialbdiaaDoor
/- What the row's list gives where it holds a type's handle: the variable that errors.As reads. -/
namespace Go.Proofs.YtchdeboialbdiaaDoor
set_option linter.unusedVariables false
set_option linter.unusedSimpArgs false
open Go.Lib Go.RowKit
theorem rt7 : (Tryd.prog.cutTypes.find? (·.1 == "internal/reflectlite.rtype")).map (·.2) = some 168 := by kernel_rfl
theorem oneRow7 : ((List.range Tryd.prog.types.size).filter fun t => Tryd.prog.rowNamed t [101, 114, 114, 111, 114]) = [26] := by kernel_rfl
theorem err_of {l : List (String × DataW Unit)} {W : World} (h : laidMetH Tryd.prog l W) (m : (l.filter fun x => x.2.handleName?.isSome) = [("errors.errorType", Rows.laid_errors_errorType)]) : ErrT W := by
  unfold laidMetH at h
  rw [m] at h
  obtain ⟨name, u, ty, e1, e2, e3, e4, e5⟩ := h.2 _ (List.mem_singleton.2 rfl)
  have en : name = [101, 114, 114, 111, 114] := (Option.some.inj e1).symm
  subst en
  obtain rfl := Option.some.inj (rt7.symm.trans e2)
  have hm : ty ∈ (List.range Tryd.prog.types.size).filter fun t => Tryd.prog.rowNamed t [101, 114, 114, 111, 114] := List.mem_filter.2 ⟨List.mem_range.2 e3, e4⟩
  rw [oneRow7] at hm
  obtain rfl := List.mem_singleton.1 hm
  have hh : typeHandle Tryd.prog 26 = .pointer (some ⟨4, 26, none⟩) := by kernel_rfl
  rw [hh] at e5
  have := World.var?_cell (show Tryd.prog.globalNamed "errors.errorType" = some 0 by kernel_rfl) e5 0
  unfold ErrT
  simpa using this
/-- the world in which the variable holds the handle, ahead of the tables -/
noncomputable def hBase (os : Os) : World :=
  { World.holding Tryd.prog os ⟨#[], #[], []⟩ with heap := (World.holding Tryd.prog os ⟨#[], #[], []⟩).heap.modify 0 fun
      | .cells _ t frozen => .cells #[.iface 168 (.agg #[.pointer (some ⟨4, 26, none⟩)])] t frozen
      | o => o }
noncomputable def hWorld (os : Os) (l : List (String × DataW Unit)) : World := (hBase os).layVars Tryd.prog (l.filter fun x => x.2.handleName?.isNone)
theorem hWorld_os (os : Os) (l : List (String × DataW Unit)) : (hWorld os l).os = os := World.layVars_os _ _ _
theorem laidMet_hWorld {os : Os} {l : List (String × DataW Unit)} (args : Array Value)
    (hf : (hBase os).layFits Tryd.prog (l.filter fun x => x.2.handleName?.isNone) [] = true)
    (hi : (hBase os).layIfaces Tryd.prog (l.filter fun x => x.2.handleName?.isNone) (hWorld os l) = true) :
    laidMet Tryd.prog (l.filter fun x => x.2.handleName?.isNone) ((hWorld os l).forCall (fun _ _ => 0) ⟨#[], args, []⟩).memory := by
  unfold hWorld at *
  generalize (l.filter fun x => x.2.handleName?.isNone) = laid at *
  have e1 : (laid.filter fun x => (laid.map (·.1)).contains x.1) = laid := List.filter_eq_self.2 fun x hx => List.contains_iff_mem.2 (List.mem_map.2 ⟨x, hx, rfl⟩)
  have e2 : (laid.filter fun x => !(laid.map (·.1)).contains x.1) = [] := List.filter_eq_nil_iff.2 fun x hx => by rw [List.contains_iff_mem.2 (List.mem_map.2 ⟨x, hx, rfl⟩)]; simp
  have h : laidMet Tryd.prog laid ((hBase os).layVars Tryd.prog laid) := laidMet_layVars (w0 := hBase os) (laid.map (·.1)) [] (by rw [e1]) (by rw [e1]; exact hf) (by rw [e1]; exact hi) (by rw [e2]; exact LaidIn.none)
  exact h.of_heap (by simp [World.memory, World.forCall, Input.heap])
end Go.Proofs.YtchdeboialbdiaaDoor
