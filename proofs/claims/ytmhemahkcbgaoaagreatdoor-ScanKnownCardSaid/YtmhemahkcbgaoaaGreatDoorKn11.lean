/- Texts joined, one behind the other (As, Fault, ScanN, InC, ScanO). -/
import Derived.Test.YtmhemahkcbgaoaaGreatDoorKn10
import Derived.LaidEql
import Derived.Stop.Asserts
import Derived.RowKitTokens
import Derived.Deep.DeepCutAuto
import Derived.BigQuiet
/- errors.As at an error of the layer: nil; or a pointer to a Fault, handed to a *Fault variable. (Turned from the guide's worked text 'ToyasAs'.) -/
namespace Go.Proofs.YtmhemahkcbgaoaaGreatDoor
set_option linter.unusedVariables false
set_option linter.unusedSimpArgs false
open Go.RowKit Go.Extern.Stop Go.Stop Go.Extern
theorem as_nil (t : Value) (w : World) :
    Calls Tryz.prog 35 #[.nilIface, t] w fun e w' => e = .returned (.bool false) ∧ w' = w := by
  go_enter Tryz.func35, Tryz.ntmps35
  go_wp2
  go_ret
  exact ⟨rfl, rfl⟩

theorem Tryz.valueOf27 (t : Addr) (w : World) : (ReflectliteValue.unpack (.iface 63 (.pointer (some t)))).run Tryz.prog w
    = .ok (.agg #[.pointer (some ⟨7, 63, none⟩), .pointer (some ⟨w.heap.size, 0, none⟩), .int .u64 150]) (w.alloc (.cells #[.pointer (some t)] 63)) := by kernel_rfl
theorem Tryz.type27 (a : Addr) (w : World) : (ReflectliteValue.methodAny (ReflectliteValue.valueError "reflectlite.Value.Type" 0) (fun t _ _ _ => ReflectliteType.toType t) #[.agg #[.pointer (some ⟨7, 63, none⟩), .pointer (some a), .int .u64 150]]).run Tryz.prog w
    = .ok (.iface 118 (.agg #[.pointer (some ⟨7, 63, none⟩)])) w := by kernel_rfl
theorem Tryz.methodKind (h : Value) (w : World) : (Go.method (100 + 196) 118 (.agg #[h]) "Kind").run Tryz.prog w = .ok (121, h) w := by kernel_rfl
theorem Tryz.kind27 (w : World) : ((ReflectliteType.abiMethod fun t => (fun a : Nat => Value.int IntKind.u8 (a : Int)) <$> Rtype.kind t) #[.pointer (some ⟨7, 63, none⟩)]).run Tryz.prog w = .ok (.int .u8 22) w := by kernel_rfl
theorem Tryz.kind25 (w : World) : ((ReflectliteType.abiMethod fun t => (fun a : Nat => Value.int IntKind.u8 (a : Int)) <$> Rtype.kind t) #[.pointer (some ⟨7, 54, none⟩)]).run Tryz.prog w = .ok (.int .u8 22) w := by kernel_rfl

theorem rlm (z : Sem Value) (f : TypeId → Addr → Nat → Nat → Sem Value) (v : Value) :
    ReflectliteValue.method z f #[v] = (do match ← ReflectliteValue.parts v with | none => z | some (t, a, fl) => f t a fl (fl % 32)) := rfl
theorem Tryz.parts27 (a : Addr) (w : World) : (ReflectliteValue.parts (.agg #[.pointer (some ⟨7, 63, none⟩), .pointer (some a), .int .u64 150])).run Tryz.prog w = .ok (some (63, a, 150)) w := by kernel_rfl
theorem Tryz.isNil27 (a p : Addr) (W : World) (ha : W.cell? a = some (.pointer (some p))) :
    (ReflectliteValue.method (ReflectliteValue.valueError "reflectlite.Value.IsNil" 0) ReflectliteValue.isNil #[.agg #[.pointer (some ⟨7, 63, none⟩), .pointer (some a), .int .u64 150]]).run Tryz.prog W = .ok (.bool false) W := by
  rw [rlm]
  simp only [Sem.run_bind, Tryz.parts27, Result.andThen]
  simp [ReflectliteValue.isNil, loadVar, isAgg, underlying, Tryz.underlying63, ha, Result.andThen]

theorem Tryz.methodElem (h : Value) (w : World) : (Go.method (100 + 196) 118 (.agg #[h]) "Elem").run Tryz.prog w = .ok (134, .agg #[h]) w := by kernel_rfl
theorem Tryz.methodImplements (h : Value) (w : World) : (Go.method (100 + 196) 118 (.agg #[h]) "Implements").run Tryz.prog w = .ok (135, .agg #[h]) w := by kernel_rfl
theorem Tryz.methodAssignableTo (h : Value) (w : World) : (Go.method (100 + 196) 118 (.agg #[h]) "AssignableTo").run Tryz.prog w = .ok (132, .agg #[h]) w := by kernel_rfl
theorem Tryz.elem27 (w : World) : (ReflectliteType.method ReflectliteType.elem #[.agg #[.pointer (some ⟨7, 63, none⟩)]]).run Tryz.prog w = .ok (.iface 118 (.agg #[.pointer (some ⟨7, 54, none⟩)])) w := by kernel_rfl
theorem Tryz.implements25 (w : World) : (ReflectliteType.relation "Implements" ReflectliteType.implements_ #[.agg #[.pointer (some ⟨7, 54, none⟩)], .iface 118 (.agg #[.pointer (some ⟨7, 32, none⟩)])]).run Tryz.prog w = .ok (.bool true) w := by kernel_rfl
theorem Tryz.typeOf25 (v : Value) (w : World) : (ReflectliteType.typeOf #[.iface 54 v]).run Tryz.prog w = .ok (.iface 118 (.agg #[.pointer (some ⟨7, 54, none⟩)])) w := by kernel_rfl
theorem Tryz.assignable25 (w : World) : (ReflectliteType.relation "AssignableTo" ReflectliteType.assignableTo #[.agg #[.pointer (some ⟨7, 54, none⟩)], .iface 118 (.agg #[.pointer (some ⟨7, 54, none⟩)])]).run Tryz.prog w = .ok (.bool true) w := by kernel_rfl
theorem Tryz.valueOf25 (e : Addr) (w : World) : (ReflectliteValue.unpack (.iface 54 (.pointer (some e)))).run Tryz.prog w
    = .ok (.agg #[.pointer (some ⟨7, 54, none⟩), .pointer (some ⟨w.heap.size, 0, none⟩), .int .u64 150]) (w.alloc (.cells #[.pointer (some e)] 54)) := by kernel_rfl

theorem Tryz.elemOf27 (w : World) : (Rtype.elem? 63).run Tryz.prog w = .ok (some 54) w := by kernel_rfl
theorem Tryz.mk25 (p : Addr) (w : World) : (ReflectliteValue.mk 54 p ReflectliteValue.flagAddr).run Tryz.prog w = .ok (.agg #[.pointer (some ⟨7, 54, none⟩), .pointer (some p), .int .u64 406]) w := by kernel_rfl
theorem Tryz.elemV27 (a p : Addr) (W : World) (ha : W.cell? a = some (.pointer (some p))) :
    (ReflectliteValue.method (ReflectliteValue.valueError "reflectlite.Value.Elem" 0) ReflectliteValue.elem #[.agg #[.pointer (some ⟨7, 63, none⟩), .pointer (some a), .int .u64 150]]).run Tryz.prog W
      = .ok (.agg #[.pointer (some ⟨7, 54, none⟩), .pointer (some p), .int .u64 406]) W := by
  rw [rlm]
  simp only [Sem.run_bind, Tryz.parts27, Result.andThen]
  simp [ReflectliteValue.elem, loadVar, isAgg, underlying, Tryz.underlying63, ha, Result.andThen, Tryz.elemOf27, Tryz.mk25]
theorem rls (v x : Value) : ReflectliteValue.set #[v, x] = (do
    let (some (dst, a, fl), some (src, b, _)) := (← ReflectliteValue.parts v, ← ReflectliteValue.parts x)
      | unsupported (.noEntry "extern/(internal/reflectlite.Value).Set.zeroValue")
    if fl / ReflectliteValue.flagAddr % 2 == 0 then unsupported (.noEntry "extern/(internal/reflectlite.Value).Set.unaddressable")
    let val ← loadVar src b
    if ← Rtype.directlyAssignable dst src then storeVar dst a val
    else if ← Rtype.implements dst src then
      if (← Rtype.kind src) == 20 then
        match val with
        | .nilIface => unsupported (.noEntry "extern/reflectlite: a nil value of one interface type handed on as a value of another")
        | _ => storeVar dst a val
      else storeVar dst a (.iface src val)
    else panicString ("reflectlite.Set: value of type " ++ (← Rtype.spelt src) ++ " is not assignable to type " ++ (← Rtype.spelt dst))
    pure (.tuple #[])) := rfl
theorem Tryz.parts25a (a : Addr) (w : World) : (ReflectliteValue.parts (.agg #[.pointer (some ⟨7, 54, none⟩), .pointer (some a), .int .u64 406])).run Tryz.prog w = .ok (some (54, a, 406)) w := by kernel_rfl
theorem Tryz.parts25 (a : Addr) (w : World) : (ReflectliteValue.parts (.agg #[.pointer (some ⟨7, 54, none⟩), .pointer (some a), .int .u64 150])).run Tryz.prog w = .ok (some (54, a, 150)) w := by kernel_rfl
theorem Tryz.direct25 (w : World) : (Rtype.directlyAssignable 54 54).run Tryz.prog w = .ok true w := by kernel_rfl
theorem Tryz.size25 (w : World) : (sizeOf 54).run Tryz.prog w = .ok 1 w := by kernel_rfl
theorem Tryz.set25 (ta b e : Addr) (old : Value) (W : World) (hb : W.cell? b = some (.pointer (some e))) (ht : W.cell? ta = some old) (hf : W.frozen? ta = false) :
    (ReflectliteValue.set #[.agg #[.pointer (some ⟨7, 54, none⟩), .pointer (some ta), .int .u64 406], .agg #[.pointer (some ⟨7, 54, none⟩), .pointer (some b), .int .u64 150]]).run Tryz.prog W
      = .ok (.tuple #[]) (W.setCell ta (.pointer (some e))) := by
  rw [rls]
  simp only [Sem.run_bind, Tryz.parts25a, Tryz.parts25, Result.andThen]
  simp [ReflectliteValue.flagAddr, loadVar, isAgg, underlying, Tryz.underlying54, hb, Result.andThen, Tryz.direct25, storeVar, Value.cells, storeCells, Addr.add]
  rw [run_store Tryz.prog W ta _ _ (by rfl)]
  simp [ht, hf]

set_option maxHeartbeats 4000000 in
theorem as_hit (e t : Addr) (old : Value) (w : World) (hg : w.cell? ⟨0, 0, none⟩ = some (.iface 118 (.agg #[.pointer (some ⟨7, 32, none⟩)]))) (ht0 : w.cell? t = some old) (hf0 : w.frozen? t = false) :
    Calls Tryz.prog 35 #[.iface 54 (.pointer (some e)), .iface 63 (.pointer (some t))] w fun ev w' => ev = .returned (.bool true) ∧ w' = ((((w.alloc (.cells #[.pointer (some t)] 63)).alloc (.cells #[.pointer (some ⟨7, 63, none⟩), .pointer (some ⟨w.heap.size, 0, none⟩), .int .u64 150] 96)).alloc (.cells #[.pointer (some ⟨7, 63, none⟩), .pointer (some ⟨w.heap.size, 0, none⟩), .int .u64 150] 96)).alloc (.cells #[.pointer (some e)] 54)).setCell t (.pointer (some e)) := by
  have h6 := @run_callFunc_extern Tryz.prog 54 _ (fun args => ReflectliteValue.unpack (args.getD 0 (.tuple #[]))) Tryz.func54 (by kernel_rfl) (by kernel_rfl) (by kernel_rfl) (by kernel_rfl)
  have h7 := @run_callFunc_extern Tryz.prog 55 _ (ReflectliteValue.methodAny (ReflectliteValue.valueError "reflectlite.Value.Type" 0) (fun t _ _ _ => ReflectliteType.toType t)) Tryz.func55 (by kernel_rfl) (by kernel_rfl) (by kernel_rfl) (by kernel_rfl)
  have h8 := @run_callFunc_extern Tryz.prog 56 _ (ReflectliteValue.method (ReflectliteValue.valueError "reflectlite.Value.IsNil" 0) ReflectliteValue.isNil) Tryz.func56 (by kernel_rfl) (by kernel_rfl) (by kernel_rfl) (by kernel_rfl)
  have h27 := @run_callFunc_extern Tryz.prog 121 _ (ReflectliteType.abiMethod fun t => do pure (.int .u8 (← Rtype.kind t))) Tryz.func121 (by kernel_rfl) (by kernel_rfl) (by kernel_rfl) (by kernel_rfl)
  have h37 := @run_callFunc_extern Tryz.prog 134 _ (ReflectliteType.method ReflectliteType.elem) Tryz.func134 (by kernel_rfl) (by kernel_rfl) (by kernel_rfl) (by kernel_rfl)
  have h38 := @run_callFunc_extern Tryz.prog 135 _ (ReflectliteType.relation "Implements" ReflectliteType.implements_) Tryz.func135 (by kernel_rfl) (by kernel_rfl) (by kernel_rfl) (by kernel_rfl)
  have h10 := @run_callFunc_extern Tryz.prog 71 _ ReflectliteType.typeOf Tryz.func71 (by kernel_rfl) (by kernel_rfl) (by kernel_rfl) (by kernel_rfl)
  have h35 := @run_callFunc_extern Tryz.prog 132 _ (ReflectliteType.relation "AssignableTo" ReflectliteType.assignableTo) Tryz.func132 (by kernel_rfl) (by kernel_rfl) (by kernel_rfl) (by kernel_rfl)
  have h11 := @run_callFunc_extern Tryz.prog 72 _ (ReflectliteValue.method (ReflectliteValue.valueError "reflectlite.Value.Elem" 0) ReflectliteValue.elem) Tryz.func72 (by kernel_rfl) (by kernel_rfl) (by kernel_rfl) (by kernel_rfl)
  have h12 := @run_callFunc_extern Tryz.prog 73 _ ReflectliteValue.set Tryz.func73 (by kernel_rfl) (by kernel_rfl) (by kernel_rfl) (by kernel_rfl)
  have tO := Tryz.typeOf25
  have mA := Tryz.methodAssignableTo
  have a25 := Tryz.assignable25
  have v25 := Tryz.valueOf25
  have f6 := Tryz.valueOf27
  have f7 := Tryz.type27
  have mK := Tryz.methodKind
  have mE := Tryz.methodElem
  have mI := Tryz.methodImplements
  have k27 := Tryz.kind27
  have k25 := Tryz.kind25
  have e27 := Tryz.elem27
  have i25 := Tryz.implements25
  have n8 := Tryz.isNil27 ⟨w.heap.size, 0, none⟩ t ((w.alloc (.cells #[.pointer (some t)] 63)).alloc (.cells #[.pointer (some ⟨7, 63, none⟩), .pointer (some ⟨w.heap.size, 0, none⟩), .int .u64 150] 96)) (by simp)
  have hlt : 0 < w.heap.size := by
    rcases Nat.eq_zero_or_pos w.heap.size with h0 | h
    · simp [World.cell?, h0] at hg
    · exact h
  have hg2 : ((w.alloc (.cells #[.pointer (some t)] 63)).alloc (.cells #[.pointer (some ⟨7, 63, none⟩), .pointer (some ⟨w.heap.size, 0, none⟩), .int .u64 150] 96)).cell? ⟨0, 0, none⟩ = some (.iface 118 (.agg #[.pointer (some ⟨7, 32, none⟩)])) := by
    rw [World.cell?_alloc_lt _ _ ⟨0, 0, none⟩ (by simp), World.cell?_alloc_lt _ _ ⟨0, 0, none⟩ hlt]; exact hg
  have htl : t.block < w.heap.size := by
    rcases Nat.lt_or_ge t.block w.heap.size with h | h
    · exact h
    · simp [World.cell?, Array.getElem?_eq_none h] at ht0
  have el := Tryz.elemV27 ⟨w.heap.size, 0, none⟩ t (((w.alloc (.cells #[.pointer (some t)] 63)).alloc (.cells #[.pointer (some ⟨7, 63, none⟩), .pointer (some ⟨w.heap.size, 0, none⟩), .int .u64 150] 96)).alloc (.cells #[.pointer (some ⟨7, 63, none⟩), .pointer (some ⟨w.heap.size, 0, none⟩), .int .u64 150] 96)) (by rw [World.cell?_alloc_lt _ _ ⟨w.heap.size, 0, none⟩ (by simp; omega)]; simp)
  have st := Tryz.set25 t ⟨w.heap.size + 1 + 1 + 1, 0, none⟩ e old ((((w.alloc (.cells #[.pointer (some t)] 63)).alloc (.cells #[.pointer (some ⟨7, 63, none⟩), .pointer (some ⟨w.heap.size, 0, none⟩), .int .u64 150] 96)).alloc (.cells #[.pointer (some ⟨7, 63, none⟩), .pointer (some ⟨w.heap.size, 0, none⟩), .int .u64 150] 96)).alloc (.cells #[.pointer (some e)] 54))
    (by rw [World.cell?_alloc_at _ _ _ _ (by simp)]; rfl)
    (by rw [World.cell?_alloc_lt _ _ t (by simp; omega), World.cell?_alloc_lt _ _ t (by simp; omega), World.cell?_alloc_lt _ _ t (by simp; omega), World.cell?_alloc_lt _ _ t htl]; exact ht0)
    (by rw [World.frozen?_alloc_old _ _ t (by simp; omega), World.frozen?_alloc_old _ _ t (by simp; omega), World.frozen?_alloc_old _ _ t (by simp; omega), World.frozen?_alloc_old _ _ t (Nat.ne_of_lt htl)]; exact hf0)
  go_enter Tryz.func35, Tryz.ntmps35
  go_wp2
  refine wp_loop_rounds 1 ?_
  rw [rounds_succ]
  go_wp2
  go_ret
  exact ⟨rfl, rfl⟩
end Go.Proofs.YtmhemahkcbgaoaaGreatDoor
/- isFault: is an error nil for OK, and else a fault with this code and place? -/
namespace Go.Proofs.YtmhemahkcbgaoaaGreatDoor
set_option linter.unusedVariables false
set_option linter.unusedSimpArgs false
open Go.RowKit
/-- the handle of the type 'error', where errors.As reads it -/
def ErrT (w : World) : Prop := w.cell? ⟨0, 0, none⟩ = some (.iface 118 (.agg #[.pointer (some ⟨7, 32, none⟩)]))
theorem cell_lt {w : World} {b o : Nat} {v : Value} (h : w.cell? ⟨b, o, none⟩ = some v) : b < w.heap.size := by
  rcases Nat.lt_or_ge b w.heap.size with h1 | h1
  · exact h1
  · simp [World.cell?, Array.getElem?_eq_none h1] at h
theorem ErrT.next {w w' : World} (h : ErrT w) (b : Below w.heap.size w w') : ErrT w' := by
  unfold ErrT at *
  rw [b.cell (p := ⟨0, 0, none⟩) (cell_lt h)]
  exact h
theorem isFault_nil (w : World) (e p : Int) : Calls Tryz.prog 14 #[.nilIface, .int .i64 e, .int .i64 p] w fun ev w' => ev = .returned (.bool (e == 0)) ∧ w' = w := by
  go_enter Tryz.func14, Tryz.ntmps14
  go_wp2
  go_ret
  exact ⟨rfl, rfl⟩
set_option maxHeartbeats 4000000 in
theorem isFault_hit (w : World) (g : Nat) (c q e p : Int) (b1 b2 b3 : Bool) (h1 : (c == e) = b1) (h2 : (q == p) = b2) (h3 : (e != 0) = b3) (hR : Row w g 56 [.int .i64 c, .int .i64 q]) (hE : ErrT w) :
    Calls Tryz.prog 14 #[.iface 54 (.pointer (some ⟨g, 0, none⟩)), .int .i64 e, .int .i64 p] w fun ev w' => ev = .returned (.bool (b1 && (b2 && b3))) ∧ Below w.heap.size w w' := by
  have hlt : 0 < w.heap.size := cell_lt hE
  have hgl := hR.lt
  have hEA : (w.alloc (.cells #[.pointer none] 54)).cell? ⟨0, 0, none⟩ = some (.iface 118 (.agg #[.pointer (some ⟨7, 32, none⟩)])) := by
    rw [World.cell?_alloc_lt _ _ ⟨0, 0, none⟩ hlt]; exact hE
  have htA : (w.alloc (.cells #[.pointer none] 54)).cell? ⟨w.heap.size, 0, none⟩ = some (.pointer none) := by simp
  have hfA : (w.alloc (.cells #[.pointer none] 54)).frozen? ⟨w.heap.size, 0, none⟩ = false := by simp
  have hA : Calls Tryz.prog 35 #[.iface 54 (.pointer (some ⟨g, 0, none⟩)), .iface 63 (.pointer (some ⟨w.heap.size, 0, none⟩))] (w.alloc (.cells #[.pointer none] 54)) fun ev w' => ev = .returned (.bool true) ∧ w'.cell? ⟨w.heap.size, 0, none⟩ = some (.pointer (some ⟨g, 0, none⟩)) ∧ w'.cell? ⟨g, 0, none⟩ = some (.int .i64 c) ∧ w'.cell? ⟨g, 1, none⟩ = some (.int .i64 q) ∧ Below w.heap.size w w' := by
    refine (as_hit ⟨g, 0, none⟩ ⟨w.heap.size, 0, none⟩ (.pointer none) _ hEA htA hfA).mono ?_
    rintro ev w' ⟨rfl, rfl⟩
    have r0 : Row (w.alloc (.cells #[.pointer none] 54)) w.heap.size 54 [.pointer none] := alloc_last _ _
    have r1 := ((((r0.alloc (.cells #[.pointer (some ⟨w.heap.size, 0, none⟩)] 63)).alloc (.cells #[.pointer (some ⟨7, 63, none⟩), .pointer (some ⟨(w.alloc (.cells #[.pointer none] 54)).heap.size, 0, none⟩), .int .u64 150] 96)).alloc (.cells #[.pointer (some ⟨7, 63, none⟩), .pointer (some ⟨(w.alloc (.cells #[.pointer none] 54)).heap.size, 0, none⟩), .int .u64 150] 96)).alloc (.cells #[.pointer (some ⟨g, 0, none⟩)] 54)).set 0 (.pointer (some ⟨g, 0, none⟩))
    have r2 := (((((hR.alloc (.cells #[.pointer none] 54)).alloc (.cells #[.pointer (some ⟨w.heap.size, 0, none⟩)] 63)).alloc (.cells #[.pointer (some ⟨7, 63, none⟩), .pointer (some ⟨(w.alloc (.cells #[.pointer none] 54)).heap.size, 0, none⟩), .int .u64 150] 96)).alloc (.cells #[.pointer (some ⟨7, 63, none⟩), .pointer (some ⟨(w.alloc (.cells #[.pointer none] 54)).heap.size, 0, none⟩), .int .u64 150] 96)).alloc (.cells #[.pointer (some ⟨g, 0, none⟩)] 54)).other (p := ⟨w.heap.size, 0, none⟩) (show w.heap.size ≠ g by omega) (.pointer (some ⟨g, 0, none⟩))
    refine ⟨rfl, r1.cell 0, r2.cell 0, r2.cell 1, ?_⟩
    exact ((((((Below.refl _ w).alloc (Nat.le_refl _) _).alloc (by simp) _).alloc (by simp; omega) _).alloc (by simp; omega) _).alloc (by simp; omega) _).setCell (p := ⟨w.heap.size, 0, none⟩) (Nat.le_refl _) _
  have HA := Lib.hid hA
  clear hE hEA htA hfA hR hA
  cases b1
  all_goals cases b2
  all_goals cases b3
  all_goals
    go_enter Tryz.func14, Tryz.ntmps14
    go_wp2_with (go_at_call 35; refine (HA.out).mono ?_; rintro ev w1 ⟨rfl, c0, c1, c2, hb⟩)
    go_ret
    exact ⟨rfl, hb⟩
end Go.Proofs.YtmhemahkcbgaoaaGreatDoor
/- A token's bytes, by the program. -/
namespace Go.Proofs.YtmhemahkcbgaoaaGreatDoor
set_option linter.unusedVariables false
set_option linter.unusedSimpArgs false
open Go.RowKit
open Go.Lib hiding intOf
theorem below_grow {w : World} (k : Nat) (os : Array Obj) : Below w.heap.size w (Go.Sort.grow (w.drewN k) os) := by
  refine ⟨rfl, rfl, rfl, ?_, fun j hj => ?_⟩
  · simp [Go.Sort.grow]
  · simp [Go.Sort.grow, Array.getElem?_append, hj]
theorem itoaC (w : World) (n : Int) (h0 : -9223372036854775808 ≤ n) (h1 : n ≤ 9223372036854775807) (hT : Tabs w) :
    Calls Tryz.prog 50 #[.int .i64 n] w fun e w' => e = .returned (.string (bstr (itoa n))) ∧ Below w.heap.size w w' := by
  refine (Tryz.strconv_Itoa n h0 h1 w hT.pow).mono ?_
  rintro e w' ⟨rfl, k, os, rfl⟩
  exact ⟨rfl, below_grow k os⟩
def badRun (b : Bool) (l : List UInt8) : Bool := b || l.any fun x => !decide (RunN x.toNat)
theorem badRun_next {b : Bool} {l : List UInt8} {k : Nat} {x : UInt8} (hx : l[k]? = some x) : badRun b (l.take (k + 1)) = (badRun b (l.take k) || !decide (RunN x.toNat)) := by
  unfold badRun
  rw [take_next hx, List.any_append, Bool.or_assoc]
  simp
def PrintedQ (w : World) (t : Tok) (e : Ending) (w' : World) : Prop := ∃ (s : List UInt8) (b : Bool), e = .returned (.tuple #[.string (bstr s), .bool b]) ∧ printed t = (if b = true then some s else none) ∧ Below w.heap.size w w'
theorem printed_one (a n : Int) (s : List UInt8) (b : Bool) (hb : b = (!decide (s = []) && (!badRun (numOf s).isSome s && decide (n = 0)))) : printed ⟨1, a, s, n⟩ = if b = true then some s else none := by
  subst hb
  unfold printed
  simp only [if_true]
  by_cases h0 : s = []
  · subst h0; simp
  · have hl : ¬ s.length = 0 := fun h => h0 (List.eq_nil_of_length_eq_zero h)
    simp only [hl, h0, false_or, decide_false, Bool.not_false, Bool.true_and, badRun]
    have e : (∃ x ∈ s, ¬ RunN x.toNat) ↔ (s.any fun x => !decide (RunN x.toNat)) = true := by simp
    by_cases hA : (numOf s).isSome = true
    · rw [if_pos (.inl hA), hA]; rfl
    by_cases hB : ∃ x ∈ s, ¬ RunN x.toNat
    · rw [if_pos (.inr (.inl hB)), e.1 hB]; simp
    by_cases hC : n = 0
    · have hB' : (s.any fun x => !decide (RunN x.toNat)) = false := by
        cases h : (s.any fun x => !decide (RunN x.toNat))
        · rfl
        · exact absurd (e.2 h) hB
      have hA' : (numOf s).isSome = false := by simpa using hA
      rw [if_neg (fun h => by rcases h with h | h | h; exact hA h; exact hB h; exact h hC), hA', hB']
      simp [hC]
    · rw [if_pos (.inr (.inr hC))]
      simp [hC]
def tokV (t : Tok) : Value := .agg (tokCells t).toArray
set_option maxHeartbeats 4000000 in
theorem printed_word (w : World) (a n : Int) (s : List UInt8) (hs : s.length ≤ 1048576) :
    Calls Tryz.prog 45 #[.agg #[.int .i64 1, .int .i64 a, .string (bstr s), .int .i64 n]] w (PrintedQ w ⟨1, a, s, n⟩) := by
  obtain ⟨m, hm⟩ : ∃ m, m = s.length := ⟨_, rfl⟩
  have hsz : (bstr s).size = m := by rw [bstr_size, hm]
  have HN := Lib.hid hm
  have HNU := Lib.hid (fun w1 => numberC w1 s (by omega))
  rw [← hm] at hs
  obtain ⟨N0, hN0⟩ : ∃ N0, (((numOf s).getD 0 : Nat) : Int) = N0 := ⟨_, rfl⟩
  obtain ⟨b0, hb0⟩ : ∃ b0, (numOf s).isSome = b0 := ⟨_, rfl⟩
  rw [hN0, hb0] at HNU
  have HB0 := Lib.hid hb0
  clear hm hN0 hb0
  go_enter Tryz.func45, Tryz.ntmps45
  go_upto_region 1 with fail
  obtain ⟨w1, hw1⟩ : ∃ w1, w1 = w.alloc (.cells #[.int .i64 1, .int .i64 a, .string (bstr s), .int .i64 n] 28) := ⟨_, rfl⟩
  have hR : Row w1 w.heap.size 28 [.int .i64 1, .int .i64 a, .string (bstr s), .int .i64 n] := by rw [hw1]; exact alloc_last _ _
  have hb1 : Below w.heap.size w w1 := by rw [hw1]; exact (Below.refl _ _).alloc (Nat.le_refl _) _
  rw [← hw1]
  clear hw1
  have c0 := Row.cell hR 0
  have c2 := Row.cell hR 2
  have c3 := Row.cell hR 3
  simp only [List.getElem?_cons_zero, List.getElem?_cons_succ] at c0 c2 c3
  go_wp2_with (go_at_call 29; refine (HNU.out _).mono ?_; rintro e wq ⟨rfl, hwq⟩; obtain rfl := hwq.symm)
  go_loopw [5, 20] (fun isv kv w2 => ∃ k : Nat, k ≤ m ∧ kv = .int .i64 (k : Int) ∧ isv = .bool (badRun b0 (s.take k)) ∧ w2 = w1) (fun _ kv _ => m - (RowKit.intOf kv).toNat)
  case atStart => exact ⟨0, Nat.zero_le _, rfl, by simp [badRun], rfl⟩
  case round =>
    obtain ⟨k, hkm, rfl, rfl, rfl⟩ := hrel
    by_cases hlt : k < m
    · obtain ⟨x, hx⟩ := some_at (l := s) (k := k) (by rw [← HN.out]; exact hlt)
      have ik : k < (bstr s).size := by rw [hsz]; exact hlt
      have hxa : (bstr s)[k]'ik = x := bstr_at hx _
      have HX := Lib.hid hx
      have HRN := Lib.hid (fun w1 => runsC w1 x.toNat)
      obtain ⟨r0, hr0⟩ : ∃ r0, decide (RunN x.toNat) = r0 := ⟨_, rfl⟩
      obtain ⟨q0, hq0⟩ : ∃ q0, badRun b0 (s.take k) = q0 := ⟨_, rfl⟩
      rw [hr0] at HRN
      rw [hq0]
      have HNX := Lib.hid (badRun_next (b := b0) hx)
      rw [hr0, hq0] at HNX
      clear hx hr0 hq0
      cases q0
      · go_wp2_with (go_at_call 27; refine (HRN.out _).mono ?_; rintro e wq ⟨rfl, hwq⟩; obtain rfl := hwq.symm)
        go_roundw
        case rel => exact ⟨k + 1, by omega, by go_num, by rw [HNX.out]; cases r0 <;> rfl, trivial⟩
        case measure => simp [RowKit.intOf]; omega
      · go_wp2_with (go_at_call 27; refine (HRN.out _).mono ?_; rintro e wq ⟨rfl, hwq⟩; obtain rfl := hwq.symm)
        go_roundw
        case rel => exact ⟨k + 1, by omega, by go_num, by rw [HNX.out]; rfl, trivial⟩
        case measure => simp [RowKit.intOf]; omega
    · obtain rfl : k = m := by omega
      have hall : s.take k = s := List.take_of_length_le (by rw [← HN.out]; exact Nat.le_refl _)
      rw [hall, ← HB0.out]
      obtain ⟨q0, hq0⟩ : ∃ q0, badRun (numOf s).isSome s = q0 := ⟨_, rfl⟩
      rw [hq0]
      have HQ0 := Lib.hid hq0
      clear hq0 hall
      rcases Nat.eq_zero_or_pos k with h0 | h0
      · have hs0 : s = [] := List.eq_nil_of_length_eq_zero (by rw [← HN.out]; exact h0)
        subst hs0
        go_wp2
        go_quiet (fail)
        go_wp2
        go_ret2
        exact ⟨[], _, rfl, printed_one _ _ _ _ (by have := HQ0.out; simp_all), bl_drewN hb1 _⟩
      · have hnil : s ≠ [] := by rintro rfl; have := HN.out; simp at this; omega
        cases q0
        · by_cases hn : n = 0
          · subst hn
            go_wp2
            go_quiet (fail)
            go_wp2
            go_ret2
            exact ⟨s, _, rfl, printed_one _ _ _ _ (by have := HQ0.out; simp_all), bl_drewN hb1 _⟩
          · have hnb : (n == 0) = false := by simpa using hn
            go_wp2
            go_quiet (fail)
            go_wp2
            go_ret2
            exact ⟨s, _, rfl, printed_one _ _ _ _ (by have := HQ0.out; simp_all), bl_drewN hb1 _⟩
        · go_wp2
          go_quiet (fail)
          go_wp2
          go_ret2
          exact ⟨s, _, rfl, printed_one _ _ _ _ (by have := HQ0.out; simp_all), bl_drewN hb1 _⟩
end Go.Proofs.YtmhemahkcbgaoaaGreatDoor
/- Regions that draw their order and whose calls make memory: walked once, in a class of worlds. -/
namespace Go.Proofs.YtmhemahkcbgaoaaGreatDoor
set_option linter.unusedVariables false
set_option linter.unusedSimpArgs false
open Go.RowKit
/-- a world behind w that keeps all of w's blocks: the class in which a region that draws its order is walked once -/
def InC (w w' : World) : Prop := Below w.heap.size w w'
theorem InC.cell {w w' : World} (h : InC w w') {p : Addr} {v : Value} (hc : w.cell? p = some v) : w'.cell? p = some v := by
  have hl : p.block < w.heap.size := by
    rcases Nat.lt_or_ge p.block w.heap.size with h | h
    · exact h
    · simp [World.cell?, Array.getElem?_eq_none h] at hc
  rw [Below.cell h hl]; exact hc
theorem InC.next {w w' w2 : World} (h : InC w w') (b : Below w'.heap.size w' w2) : InC w w2 := Below.trans h (b.mono h.size)
theorem wp_region_inC {P : Program} {id : Nat} {Q : Exit → Act → World → Prop} {a : Act} {w : World} {l : List Oper} (hm : P.follows .mixedOrders = true) (hB : Region.lexB .any l.toArray = true)
    (h : wpQuiet P l.toArray (InC w) (fun a' => ∀ w', InC w w' → Q .normal a' w') l a) : (Code.region id l.toArray true).wp P Q a w :=
  wp_region_quiet (C := InC w) hm hB (bl_drewN (Below.refl _ w) 1) (by simpa using h)
end Go.Proofs.YtmhemahkcbgaoaaGreatDoor
/- A token's bytes, by the program: numbers, texts; the whole contract. -/
namespace Go.Proofs.YtmhemahkcbgaoaaGreatDoor
set_option linter.unusedVariables false
set_option linter.unusedSimpArgs false
open Go.RowKit
open Go.Lib hiding intOf
set_option maxHeartbeats 4000000 in
theorem printed_num (w : World) (a n : Int) (s : List UInt8) (h0 : -9223372036854775808 ≤ n) (h1 : n ≤ 9223372036854775807) (hT : Tabs w) :
    Calls Tryz.prog 45 #[.agg #[.int .i64 2, .int .i64 a, .string (bstr s), .int .i64 n]] w (PrintedQ w ⟨2, a, s, n⟩) := by
  go_enter Tryz.func45, Tryz.ntmps45
  go_upto_region 1 with fail
  obtain ⟨w1, hw1⟩ : ∃ w1, w1 = w.alloc (.cells #[.int .i64 2, .int .i64 a, .string (bstr s), .int .i64 n] 28) := ⟨_, rfl⟩
  have hR : Row w1 w.heap.size 28 [.int .i64 2, .int .i64 a, .string (bstr s), .int .i64 n] := by rw [hw1]; exact alloc_last _ _
  have hb1 : Below w.heap.size w w1 := by rw [hw1]; exact (Below.refl _ _).alloc (Nat.le_refl _) _
  rw [← hw1]
  clear hw1
  have HI : Hid (∀ w', InC w1 w' → Calls Tryz.prog 50 #[.int .i64 n] w' fun e w'' => e = .returned (.string (bstr (itoa n))) ∧ InC w1 w'') := Lib.hid fun w' h => (itoaC w' n h0 h1 ((hT.next hb1).next h)).mono fun e w'' ⟨he, hb⟩ => ⟨he, h.next hb⟩
  have c0 := Row.cell hR 0
  have c2 := Row.cell hR 2
  have c3 := Row.cell hR 3
  simp only [List.getElem?_cons_zero, List.getElem?_cons_succ] at c0 c2 c3
  have HC : Hid (∀ w', InC w1 w' → w'.cell? ⟨w.heap.size, 2, none⟩ = some (.string (bstr s)) ∧ w'.cell? ⟨w.heap.size, 3, none⟩ = some (.int .i64 n)) := Lib.hid fun w' h => ⟨h.cell c2, h.cell c3⟩
  clear h0 h1
  go_wp2
  clear c2 c3
  by_cases hs : s = []
  · subst hs
    refine wp_region_inC (by kernel_rfl) (by kernel_rfl) ?_
    repeat (first
      | (refine wpQuiet_step (fun K hK => ?_); go_simp; refine hK _ ?_; clear hK K)
      | (refine wpQuiet_step (fun K hK => ?_); go_simp; apply Exists.intro; refine ⟨fun w' hw' => ?_, hK _ ?_⟩; (first | rfl | (go_at_call 50; exact HI.out _ hw') | (obtain ⟨d2, d3⟩ := HC.out _ hw'; go_simp; rfl) | (obtain ⟨d2, d3⟩ := HC.out _ hw'; go_simp; done)); clear hK K))
    refine wpQuiet_nil ?_
    intro w5 hb5
    go_wp2
    go_ret2
    exact ⟨itoa n, decide (0 ≤ n), rfl, by unfold printed; by_cases hn : n < 0 <;> simp [hn] <;> omega, hb1.trans (Below.mono hb5 hb1.size)⟩
  · obtain ⟨x, s', rfl⟩ := List.exists_cons_of_ne_nil hs
    refine wp_region_inC (by kernel_rfl) (by kernel_rfl) ?_
    repeat (first
      | (refine wpQuiet_step (fun K hK => ?_); go_simp; refine hK _ ?_; clear hK K)
      | (refine wpQuiet_step (fun K hK => ?_); go_simp; apply Exists.intro; refine ⟨fun w' hw' => ?_, hK _ ?_⟩; (first | rfl | (go_at_call 50; exact HI.out _ hw') | (obtain ⟨d2, d3⟩ := HC.out _ hw'; go_simp; rfl) | (obtain ⟨d2, d3⟩ := HC.out _ hw'; go_simp; done)); clear hK K))
    refine wpQuiet_nil ?_
    intro w5 hb5
    go_wp2
    go_ret2
    exact ⟨itoa n, false, rfl, by unfold printed; simp, hb1.trans (Below.mono hb5 hb1.size)⟩
set_option maxHeartbeats 4000000 in
theorem printed_text (w : World) (a n : Int) (s : List UInt8) (hs : s.length ≤ 1048576) (hT : Tabs w) :
    Calls Tryz.prog 45 #[.agg #[.int .i64 3, .int .i64 a, .string (bstr s), .int .i64 n]] w (PrintedQ w ⟨3, a, s, n⟩) := by
  go_enter Tryz.func45, Tryz.ntmps45
  go_upto_region 1 with fail
  obtain ⟨w1, hw1⟩ : ∃ w1, w1 = w.alloc (.cells #[.int .i64 3, .int .i64 a, .string (bstr s), .int .i64 n] 28) := ⟨_, rfl⟩
  have hR : Row w1 w.heap.size 28 [.int .i64 3, .int .i64 a, .string (bstr s), .int .i64 n] := by rw [hw1]; exact alloc_last _ _
  have hb1 : Below w.heap.size w w1 := by rw [hw1]; exact (Below.refl _ _).alloc (Nat.le_refl _) _
  rw [← hw1]
  clear hw1
  have HI : Hid (∀ w', InC w1 w' → Calls Tryz.prog 18 #[.string (bstr s)] w' fun e w'' => e = .returned (.string (bstr (quoteOf s))) ∧ InC w1 w'') := Lib.hid fun w' h => (quoteC w' s hs ((hT.next hb1).next h)).mono fun e w'' ⟨he, hb⟩ => ⟨he, h.next hb⟩
  have c0 := Row.cell hR 0
  have c2 := Row.cell hR 2
  have c3 := Row.cell hR 3
  simp only [List.getElem?_cons_zero, List.getElem?_cons_succ] at c0 c2 c3
  have HC : Hid (∀ w', InC w1 w' → w'.cell? ⟨w.heap.size, 2, none⟩ = some (.string (bstr s)) ∧ w'.cell? ⟨w.heap.size, 3, none⟩ = some (.int .i64 n)) := Lib.hid fun w' h => ⟨h.cell c2, h.cell c3⟩
  clear hs
  go_wp2
  clear c2 c3
  refine wp_region_inC (by kernel_rfl) (by kernel_rfl) ?_
  repeat (first
    | (refine wpQuiet_step (fun K hK => ?_); go_simp; refine hK _ ?_; clear hK K)
    | (refine wpQuiet_step (fun K hK => ?_); go_simp; apply Exists.intro; refine ⟨fun w' hw' => ?_, hK _ ?_⟩; (first | rfl | (go_at_call 18; exact HI.out _ hw') | (obtain ⟨d2, d3⟩ := HC.out _ hw'; go_simp; rfl) | (obtain ⟨d2, d3⟩ := HC.out _ hw'; go_simp; done)); clear hK K))
  refine wpQuiet_nil ?_
  intro w5 hb5
  go_wp2
  go_ret2
  exact ⟨quoteOf s, n == 0, rfl, by unfold printed; by_cases hn : n = 0 <;> simp [hn], hb1.trans (Below.mono hb5 hb1.size)⟩
theorem printed_none (w : World) (k a n : Int) (s : List UInt8) (h1 : k ≠ 1) (h2 : k ≠ 2) (h3 : k ≠ 3) :
    Calls Tryz.prog 45 #[.agg #[.int .i64 k, .int .i64 a, .string (bstr s), .int .i64 n]] w (PrintedQ w ⟨k, a, s, n⟩) := by
  have e1 : (k == 1) = false := by simpa using h1
  have e2 : (k == 2) = false := by simpa using h2
  have e3 : (k == 3) = false := by simpa using h3
  have hp : printed ⟨k, a, s, n⟩ = none := by unfold printed; simp [h1, h2, h3]
  have HP := Lib.hid hp
  clear hp h1 h2 h3
  go_enter Tryz.func45, Tryz.ntmps45
  go_wp2
  go_ret2
  exact ⟨[], false, rfl, HP.out, (Below.refl _ _).alloc (Nat.le_refl _) _⟩
/-- a token within the reading's bounds -/
def TokOk (t : Tok) : Prop := t.text.length ≤ 1048576 ∧ -9223372036854775808 ≤ t.num ∧ t.num ≤ 9223372036854775807
theorem printedC (w : World) (t : Tok) (h : TokOk t) (hT : Tabs w) : Calls Tryz.prog 45 #[tokV t] w (PrintedQ w t) := by
  obtain ⟨k, a, s, n⟩ := t
  obtain ⟨h0, h1, h2⟩ := h
  by_cases e1 : k = 1
  · subst e1; exact printed_word w a n s h0
  by_cases e2 : k = 2
  · subst e2; exact printed_num w a n s h1 h2 hT
  by_cases e3 : k = 3
  · subst e3; exact printed_text w a n s h0 hT
  exact printed_none w k a n s e1 e2 e3
end Go.Proofs.YtmhemahkcbgaoaaGreatDoor
