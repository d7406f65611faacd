/- Texts joined, one behind the other (AsD, FaultD, DSpare). -/
import Derived.Test.YtnbihjocdlpplaaDoorDp25
import Derived.LaidEql
import Derived.Stop.Asserts
import Derived.RowKitTokens
import Derived.Deep.RegionHeld3
/- errors.As at an error of the layer: nil; or a pointer to a Fault, handed to a *Fault variable. (Turned from the guide's worked text 'ToyasAs'.) -/
namespace Go.Proofs.YtnbihjocdlpplaaDoor
set_option linter.unusedVariables false
set_option linter.unusedSimpArgs false
open Go.RowKit Go.Extern.Stop Go.Stop Go.Extern
theorem as_nil (t : Value) (w : World) :
    Calls Tryd.prog 37 #[.nilIface, t] w fun e w' => e = .returned (.bool false) ∧ w' = w := by
  go_enter Tryd.func37, Tryd.ntmps37
  go_wp2
  go_ret
  exact ⟨rfl, rfl⟩

theorem Tryd.valueOf27 (t : Addr) (w : World) : (ReflectliteValue.unpack (.iface 60 (.pointer (some t)))).run Tryd.prog w
    = .ok (.agg #[.pointer (some ⟨4, 60, none⟩), .pointer (some ⟨w.heap.size, 0, none⟩), .int .u64 150]) (w.alloc (.cells #[.pointer (some t)] 60)) := by kernel_rfl
theorem Tryd.type27 (a : Addr) (w : World) : (ReflectliteValue.methodAny (ReflectliteValue.valueError "reflectlite.Value.Type" 0) (fun t _ _ _ => ReflectliteType.toType t) #[.agg #[.pointer (some ⟨4, 60, none⟩), .pointer (some a), .int .u64 150]]).run Tryd.prog w
    = .ok (.iface 128 (.agg #[.pointer (some ⟨4, 60, none⟩)])) w := by kernel_rfl
theorem Tryd.methodKind (h : Value) (w : World) : (Go.method (100 + 196) 128 (.agg #[h]) "Kind").run Tryd.prog w = .ok (118, h) w := by kernel_rfl
theorem Tryd.kind27 (w : World) : ((ReflectliteType.abiMethod fun t => (fun a : Nat => Value.int IntKind.u8 (a : Int)) <$> Rtype.kind t) #[.pointer (some ⟨4, 60, none⟩)]).run Tryd.prog w = .ok (.int .u8 22) w := by kernel_rfl
theorem Tryd.kind25 (w : World) : ((ReflectliteType.abiMethod fun t => (fun a : Nat => Value.int IntKind.u8 (a : Int)) <$> Rtype.kind t) #[.pointer (some ⟨4, 58, none⟩)]).run Tryd.prog w = .ok (.int .u8 22) w := by kernel_rfl

theorem rlm (z : Sem Value) (f : TypeId → Addr → Nat → Nat → Sem Value) (v : Value) :
    ReflectliteValue.method z f #[v] = (do match ← ReflectliteValue.parts v with | none => z | some (t, a, fl) => f t a fl (fl % 32)) := rfl
theorem Tryd.parts27 (a : Addr) (w : World) : (ReflectliteValue.parts (.agg #[.pointer (some ⟨4, 60, none⟩), .pointer (some a), .int .u64 150])).run Tryd.prog w = .ok (some (60, a, 150)) w := by kernel_rfl
theorem Tryd.isNil27 (a p : Addr) (W : World) (ha : W.cell? a = some (.pointer (some p))) :
    (ReflectliteValue.method (ReflectliteValue.valueError "reflectlite.Value.IsNil" 0) ReflectliteValue.isNil #[.agg #[.pointer (some ⟨4, 60, none⟩), .pointer (some a), .int .u64 150]]).run Tryd.prog W = .ok (.bool false) W := by
  rw [rlm]
  simp only [Sem.run_bind, Tryd.parts27, Result.andThen]
  simp [ReflectliteValue.isNil, loadVar, isAgg, underlying, Tryd.underlying60, ha, Result.andThen]

theorem Tryd.methodElem (h : Value) (w : World) : (Go.method (100 + 196) 128 (.agg #[h]) "Elem").run Tryd.prog w = .ok (131, .agg #[h]) w := by kernel_rfl
theorem Tryd.methodImplements (h : Value) (w : World) : (Go.method (100 + 196) 128 (.agg #[h]) "Implements").run Tryd.prog w = .ok (132, .agg #[h]) w := by kernel_rfl
theorem Tryd.methodAssignableTo (h : Value) (w : World) : (Go.method (100 + 196) 128 (.agg #[h]) "AssignableTo").run Tryd.prog w = .ok (129, .agg #[h]) w := by kernel_rfl
theorem Tryd.elem27 (w : World) : (ReflectliteType.method ReflectliteType.elem #[.agg #[.pointer (some ⟨4, 60, none⟩)]]).run Tryd.prog w = .ok (.iface 128 (.agg #[.pointer (some ⟨4, 58, none⟩)])) w := by kernel_rfl
theorem Tryd.implements25 (w : World) : (ReflectliteType.relation "Implements" ReflectliteType.implements_ #[.agg #[.pointer (some ⟨4, 58, none⟩)], .iface 128 (.agg #[.pointer (some ⟨4, 53, none⟩)])]).run Tryd.prog w = .ok (.bool true) w := by kernel_rfl
theorem Tryd.typeOf25 (v : Value) (w : World) : (ReflectliteType.typeOf #[.iface 58 v]).run Tryd.prog w = .ok (.iface 128 (.agg #[.pointer (some ⟨4, 58, none⟩)])) w := by kernel_rfl
theorem Tryd.assignable25 (w : World) : (ReflectliteType.relation "AssignableTo" ReflectliteType.assignableTo #[.agg #[.pointer (some ⟨4, 58, none⟩)], .iface 128 (.agg #[.pointer (some ⟨4, 58, none⟩)])]).run Tryd.prog w = .ok (.bool true) w := by kernel_rfl
theorem Tryd.valueOf25 (e : Addr) (w : World) : (ReflectliteValue.unpack (.iface 58 (.pointer (some e)))).run Tryd.prog w
    = .ok (.agg #[.pointer (some ⟨4, 58, none⟩), .pointer (some ⟨w.heap.size, 0, none⟩), .int .u64 150]) (w.alloc (.cells #[.pointer (some e)] 58)) := by kernel_rfl

theorem Tryd.elemOf27 (w : World) : (Rtype.elem? 60).run Tryd.prog w = .ok (some 58) w := by kernel_rfl
theorem Tryd.mk25 (p : Addr) (w : World) : (ReflectliteValue.mk 58 p ReflectliteValue.flagAddr).run Tryd.prog w = .ok (.agg #[.pointer (some ⟨4, 58, none⟩), .pointer (some p), .int .u64 406]) w := by kernel_rfl
theorem Tryd.elemV27 (a p : Addr) (W : World) (ha : W.cell? a = some (.pointer (some p))) :
    (ReflectliteValue.method (ReflectliteValue.valueError "reflectlite.Value.Elem" 0) ReflectliteValue.elem #[.agg #[.pointer (some ⟨4, 60, none⟩), .pointer (some a), .int .u64 150]]).run Tryd.prog W
      = .ok (.agg #[.pointer (some ⟨4, 58, none⟩), .pointer (some p), .int .u64 406]) W := by
  rw [rlm]
  simp only [Sem.run_bind, Tryd.parts27, Result.andThen]
  simp [ReflectliteValue.elem, loadVar, isAgg, underlying, Tryd.underlying60, ha, Result.andThen, Tryd.elemOf27, Tryd.mk25]
theorem rls (v x : Value) : ReflectliteValue.set #[v, x] = (do
    let (some (dst, a, fl), some (src, b, _)) := (← ReflectliteValue.parts v, ← ReflectliteValue.parts x)
      | unsupported (.noEntry "extern/(internal/reflectlite.Value).Set.zeroValue")
    if fl / ReflectliteValue.flagAddr % 2 == 0 then unsupported (.noEntry "extern/(internal/reflectlite.Value).Set.unaddressable")
    let val ← loadVar src b
    if ← Rtype.directlyAssignable dst src then storeVar dst a val
    else if ← Rtype.implements dst src then
      if (← Rtype.kind src) == 20 then
        match val with
        | .nilIface => unsupported (.noEntry "extern/reflectlite: a nil value of one interface type handed on as a value of another")
        | _ => storeVar dst a val
      else storeVar dst a (.iface src val)
    else panicString ("reflectlite.Set: value of type " ++ (← Rtype.spelt src) ++ " is not assignable to type " ++ (← Rtype.spelt dst))
    pure (.tuple #[])) := rfl
theorem Tryd.parts25a (a : Addr) (w : World) : (ReflectliteValue.parts (.agg #[.pointer (some ⟨4, 58, none⟩), .pointer (some a), .int .u64 406])).run Tryd.prog w = .ok (some (58, a, 406)) w := by kernel_rfl
theorem Tryd.parts25 (a : Addr) (w : World) : (ReflectliteValue.parts (.agg #[.pointer (some ⟨4, 58, none⟩), .pointer (some a), .int .u64 150])).run Tryd.prog w = .ok (some (58, a, 150)) w := by kernel_rfl
theorem Tryd.direct25 (w : World) : (Rtype.directlyAssignable 58 58).run Tryd.prog w = .ok true w := by kernel_rfl
theorem Tryd.size25 (w : World) : (sizeOf 58).run Tryd.prog w = .ok 1 w := by kernel_rfl
theorem Tryd.set25 (ta b e : Addr) (old : Value) (W : World) (hb : W.cell? b = some (.pointer (some e))) (ht : W.cell? ta = some old) (hf : W.frozen? ta = false) :
    (ReflectliteValue.set #[.agg #[.pointer (some ⟨4, 58, none⟩), .pointer (some ta), .int .u64 406], .agg #[.pointer (some ⟨4, 58, none⟩), .pointer (some b), .int .u64 150]]).run Tryd.prog W
      = .ok (.tuple #[]) (W.setCell ta (.pointer (some e))) := by
  rw [rls]
  simp only [Sem.run_bind, Tryd.parts25a, Tryd.parts25, Result.andThen]
  simp [ReflectliteValue.flagAddr, loadVar, isAgg, underlying, Tryd.underlying58, hb, Result.andThen, Tryd.direct25, storeVar, Value.cells, storeCells, Addr.add]
  rw [run_store Tryd.prog W ta _ _ (by rfl)]
  simp [ht, hf]

set_option maxHeartbeats 4000000 in
theorem as_hit (e t : Addr) (old : Value) (w : World) (hg : w.cell? ⟨0, 0, none⟩ = some (.iface 128 (.agg #[.pointer (some ⟨4, 53, none⟩)]))) (ht0 : w.cell? t = some old) (hf0 : w.frozen? t = false) :
    Calls Tryd.prog 37 #[.iface 58 (.pointer (some e)), .iface 60 (.pointer (some t))] w fun ev w' => ev = .returned (.bool true) ∧ w' = ((((w.alloc (.cells #[.pointer (some t)] 60)).alloc (.cells #[.pointer (some ⟨4, 60, none⟩), .pointer (some ⟨w.heap.size, 0, none⟩), .int .u64 150] 105)).alloc (.cells #[.pointer (some ⟨4, 60, none⟩), .pointer (some ⟨w.heap.size, 0, none⟩), .int .u64 150] 105)).alloc (.cells #[.pointer (some e)] 58)).setCell t (.pointer (some e)) := by
  have h6 := @run_callFunc_extern Tryd.prog 70 _ (fun args => ReflectliteValue.unpack (args.getD 0 (.tuple #[]))) Tryd.func70 (by kernel_rfl) (by kernel_rfl) (by kernel_rfl) (by kernel_rfl)
  have h7 := @run_callFunc_extern Tryd.prog 71 _ (ReflectliteValue.methodAny (ReflectliteValue.valueError "reflectlite.Value.Type" 0) (fun t _ _ _ => ReflectliteType.toType t)) Tryd.func71 (by kernel_rfl) (by kernel_rfl) (by kernel_rfl) (by kernel_rfl)
  have h8 := @run_callFunc_extern Tryd.prog 72 _ (ReflectliteValue.method (ReflectliteValue.valueError "reflectlite.Value.IsNil" 0) ReflectliteValue.isNil) Tryd.func72 (by kernel_rfl) (by kernel_rfl) (by kernel_rfl) (by kernel_rfl)
  have h27 := @run_callFunc_extern Tryd.prog 118 _ (ReflectliteType.abiMethod fun t => do pure (.int .u8 (← Rtype.kind t))) Tryd.func118 (by kernel_rfl) (by kernel_rfl) (by kernel_rfl) (by kernel_rfl)
  have h37 := @run_callFunc_extern Tryd.prog 131 _ (ReflectliteType.method ReflectliteType.elem) Tryd.func131 (by kernel_rfl) (by kernel_rfl) (by kernel_rfl) (by kernel_rfl)
  have h38 := @run_callFunc_extern Tryd.prog 132 _ (ReflectliteType.relation "Implements" ReflectliteType.implements_) Tryd.func132 (by kernel_rfl) (by kernel_rfl) (by kernel_rfl) (by kernel_rfl)
  have h10 := @run_callFunc_extern Tryd.prog 89 _ ReflectliteType.typeOf Tryd.func89 (by kernel_rfl) (by kernel_rfl) (by kernel_rfl) (by kernel_rfl)
  have h35 := @run_callFunc_extern Tryd.prog 129 _ (ReflectliteType.relation "AssignableTo" ReflectliteType.assignableTo) Tryd.func129 (by kernel_rfl) (by kernel_rfl) (by kernel_rfl) (by kernel_rfl)
  have h11 := @run_callFunc_extern Tryd.prog 90 _ (ReflectliteValue.method (ReflectliteValue.valueError "reflectlite.Value.Elem" 0) ReflectliteValue.elem) Tryd.func90 (by kernel_rfl) (by kernel_rfl) (by kernel_rfl) (by kernel_rfl)
  have h12 := @run_callFunc_extern Tryd.prog 91 _ ReflectliteValue.set Tryd.func91 (by kernel_rfl) (by kernel_rfl) (by kernel_rfl) (by kernel_rfl)
  have tO := Tryd.typeOf25
  have mA := Tryd.methodAssignableTo
  have a25 := Tryd.assignable25
  have v25 := Tryd.valueOf25
  have f6 := Tryd.valueOf27
  have f7 := Tryd.type27
  have mK := Tryd.methodKind
  have mE := Tryd.methodElem
  have mI := Tryd.methodImplements
  have k27 := Tryd.kind27
  have k25 := Tryd.kind25
  have e27 := Tryd.elem27
  have i25 := Tryd.implements25
  have n8 := Tryd.isNil27 ⟨w.heap.size, 0, none⟩ t ((w.alloc (.cells #[.pointer (some t)] 60)).alloc (.cells #[.pointer (some ⟨4, 60, none⟩), .pointer (some ⟨w.heap.size, 0, none⟩), .int .u64 150] 105)) (by simp)
  have hlt : 0 < w.heap.size := by
    rcases Nat.eq_zero_or_pos w.heap.size with h0 | h
    · simp [World.cell?, h0] at hg
    · exact h
  have hg2 : ((w.alloc (.cells #[.pointer (some t)] 60)).alloc (.cells #[.pointer (some ⟨4, 60, none⟩), .pointer (some ⟨w.heap.size, 0, none⟩), .int .u64 150] 105)).cell? ⟨0, 0, none⟩ = some (.iface 128 (.agg #[.pointer (some ⟨4, 53, none⟩)])) := by
    rw [World.cell?_alloc_lt _ _ ⟨0, 0, none⟩ (by simp), World.cell?_alloc_lt _ _ ⟨0, 0, none⟩ hlt]; exact hg
  have htl : t.block < w.heap.size := by
    rcases Nat.lt_or_ge t.block w.heap.size with h | h
    · exact h
    · simp [World.cell?, Array.getElem?_eq_none h] at ht0
  have el := Tryd.elemV27 ⟨w.heap.size, 0, none⟩ t (((w.alloc (.cells #[.pointer (some t)] 60)).alloc (.cells #[.pointer (some ⟨4, 60, none⟩), .pointer (some ⟨w.heap.size, 0, none⟩), .int .u64 150] 105)).alloc (.cells #[.pointer (some ⟨4, 60, none⟩), .pointer (some ⟨w.heap.size, 0, none⟩), .int .u64 150] 105)) (by rw [World.cell?_alloc_lt _ _ ⟨w.heap.size, 0, none⟩ (by simp; omega)]; simp)
  have st := Tryd.set25 t ⟨w.heap.size + 1 + 1 + 1, 0, none⟩ e old ((((w.alloc (.cells #[.pointer (some t)] 60)).alloc (.cells #[.pointer (some ⟨4, 60, none⟩), .pointer (some ⟨w.heap.size, 0, none⟩), .int .u64 150] 105)).alloc (.cells #[.pointer (some ⟨4, 60, none⟩), .pointer (some ⟨w.heap.size, 0, none⟩), .int .u64 150] 105)).alloc (.cells #[.pointer (some e)] 58))
    (by rw [World.cell?_alloc_at _ _ _ _ (by simp)]; rfl)
    (by rw [World.cell?_alloc_lt _ _ t (by simp; omega), World.cell?_alloc_lt _ _ t (by simp; omega), World.cell?_alloc_lt _ _ t (by simp; omega), World.cell?_alloc_lt _ _ t htl]; exact ht0)
    (by rw [World.frozen?_alloc_old _ _ t (by simp; omega), World.frozen?_alloc_old _ _ t (by simp; omega), World.frozen?_alloc_old _ _ t (by simp; omega), World.frozen?_alloc_old _ _ t (Nat.ne_of_lt htl)]; exact hf0)
  go_enter Tryd.func37, Tryd.ntmps37
  go_wp2
  refine wp_loop_rounds 1 ?_
  rw [rounds_succ]
  go_wp2
  go_ret
  exact ⟨rfl, rfl⟩
end Go.Proofs.YtnbihjocdlpplaaDoor
/- errors.As at a fault, in plain words. -/
namespace Go.Proofs.YtnbihjocdlpplaaDoor
set_option linter.unusedVariables false
set_option linter.unusedSimpArgs false
open Go.RowKit
/-- the handle of the type 'error', where errors.As reads it -/
def ErrT (w : World) : Prop := w.cell? ⟨0, 0, none⟩ = some (.iface 128 (.agg #[.pointer (some ⟨4, 53, none⟩)]))
theorem cell_lt {w : World} {b o : Nat} {v : Value} (h : w.cell? ⟨b, o, none⟩ = some v) : b < w.heap.size := by
  rcases Nat.lt_or_ge b w.heap.size with h1 | h1
  · exact h1
  · simp [World.cell?, Array.getElem?_eq_none h1] at h
theorem ErrT.next {w w' : World} (h : ErrT w) (b : Below w.heap.size w w') : ErrT w' := by
  unfold ErrT at *
  rw [b.cell (p := ⟨0, 0, none⟩) (cell_lt h)]
  exact h
set_option maxHeartbeats 4000000 in
/-- errors.As finds the fault; what else stood stays -/
theorem as_fault (w : World) (g t B : Nat) (c q : Int) (hR : Row w g 62 [.int .i64 c, .int .i64 q]) (hT : Row w t 58 [.pointer none]) (hE : ErrT w) (hB : B ≤ t) (hne : g ≠ t) :
    Calls Tryd.prog 37 #[.iface 58 (.pointer (some ⟨g, 0, none⟩)), .iface 60 (.pointer (some ⟨t, 0, none⟩))] w fun ev w' => ev = .returned (.bool true) ∧ w'.cell? ⟨t, 0, none⟩ = some (.pointer (some ⟨g, 0, none⟩)) ∧ w'.cell? ⟨g, 0, none⟩ = some (.int .i64 c) ∧ w'.cell? ⟨g, 1, none⟩ = some (.int .i64 q) ∧ Below B w w' ∧ ∀ k, k < w.heap.size → k ≠ t → w'.heap[k]? = w.heap[k]? := by
  have htl := hT.lt
  have hgl := hR.lt
  have ht0 : w.cell? ⟨t, 0, none⟩ = some (.pointer none) := hT.cell 0
  have hf0 : w.frozen? ⟨t, 0, none⟩ = false := hT.frozen 0
  refine (as_hit ⟨g, 0, none⟩ ⟨t, 0, none⟩ (.pointer none) w hE ht0 hf0).mono ?_
  rintro ev w' ⟨rfl, rfl⟩
  obtain ⟨w4, hw4⟩ : ∃ W, W = (((w.alloc (.cells #[.pointer (some ⟨t, 0, none⟩)] 60)).alloc (.cells #[.pointer (some ⟨4, 60, none⟩), .pointer (some ⟨w.heap.size, 0, none⟩), .int .u64 150] 105)).alloc (.cells #[.pointer (some ⟨4, 60, none⟩), .pointer (some ⟨w.heap.size, 0, none⟩), .int .u64 150] 105)).alloc (.cells #[.pointer (some ⟨g, 0, none⟩)] 58) := ⟨_, rfl⟩
  have hb4 : Below w.heap.size w w4 := by
    rw [hw4]
    exact ((((Below.refl _ w).alloc (Nat.le_refl _) _).alloc (by simp) _).alloc (by simp; omega) _).alloc (by simp; omega) _
  rw [← hw4]
  clear hw4
  have hT4 : Row w4 t 58 [.pointer none] := hT.keep hb4 htl
  have hR4 : Row w4 g 62 [.int .i64 c, .int .i64 q] := hR.keep hb4 hgl
  have hB4 : B ≤ w4.heap.size := by have := hb4.size; omega
  refine ⟨rfl, World.cell?_setCell_same _ _ _ (hT4.cell 0), ?_, ?_, ((hb4.mono (by omega)).setCell (p := ⟨t, 0, none⟩) hB _), fun k hk hkt => ?_⟩
  · rw [World.cell?_setCell_far _ _ _ _ (by simp only; omega)]; exact hR4.cell 0
  · rw [World.cell?_setCell_far _ _ _ _ (by simp only; omega)]; exact hR4.cell 1
  · rw [Below.heap_setCell _ _ _ _ (by simp only; omega)]
    exact hb4.block k hk
end Go.Proofs.YtnbihjocdlpplaaDoor
/- The statements' spare: a patch in memory of its own, with marked room behind it; and kept. -/
namespace Go.Proofs.YtnbihjocdlpplaaDoor
set_option linter.unusedVariables false
set_option linter.unusedSimpArgs false
open Go.RowKit
open Go.Lib hiding intOf
def behindT : List (List UInt8) := [[98, 101, 104, 105, 110, 100], [116, 104, 101, 109]]
/-- a patch with marked room behind it and behind its lines -/
structure SpareK (w : World) (a : Option Addr) (n c : Nat) (X : List HkI) : Prop where
  len : X.length = n
  room : n + 2 ≤ c ∧ c ≤ maxLen
  at_ : ∃ g, a = some ⟨g, 0, none⟩ ∧ g < w.heap.size ∧ w.cell? ⟨g, n * 2, none⟩ = some (.int .i64 77) ∧ w.cell? ⟨g, (n + 1) * 2, none⟩ = some (.int .i64 78) ∧
    ∀ i x, X[i]? = some x → ∃ gi ci, w.cell? ⟨g, i * 2, none⟩ = some (.int .i64 x.1) ∧ w.cell? ⟨g, i * 2 + 1, none⟩ = some (.slice (some ⟨gi, 0, none⟩) x.2.length ci) ∧ x.2.length + 2 ≤ ci ∧ ci ≤ maxLen ∧ ReadsS w (some ⟨gi, 0, none⟩) (x.2.length + 2) (x.2 ++ behindT)
theorem SpareK.keep {w w' : World} {a : Option Addr} {n c : Nat} {X : List HkI} (h : SpareK w a n c X) (hb : Below w.heap.size w w') : SpareK w' a n c X := by
  obtain ⟨h1, h2, g, h3, h4, h5, h6, h7⟩ := h
  refine ⟨h1, h2, g, h3, Nat.lt_of_lt_of_le h4 hb.size, (hb.cell (p := ⟨g, n * 2, none⟩) h4).trans h5, (hb.cell (p := ⟨g, (n + 1) * 2, none⟩) h4).trans h6, fun i x hx => ?_⟩
  obtain ⟨gi, ci, q1, q2, q3, q4, q5⟩ := h7 i x hx
  exact ⟨gi, ci, (hb.cell (p := ⟨g, i * 2, none⟩) h4).trans q1, (hb.cell (p := ⟨g, i * 2 + 1, none⟩) h4).trans q2, q3, q4, q5.keep hb (Nat.le_refl _)⟩
theorem ReadsS.short {w : World} {a : Option Addr} {n m : Nat} {L M : List (List UInt8)} (h : ReadsS w a n (L ++ M)) (hL : L.length = m) (hm : m ≤ n) : ReadsS w a m L := by
  obtain ⟨hl, h⟩ := h
  refine ⟨by rw [List.length_map, hL], fun h0 => ?_⟩
  obtain ⟨b, o, ha, hb, hc⟩ := h (by omega)
  refine ⟨b, o, ha, hb, fun j hj => ?_⟩
  rw [hc j (by omega), List.map_append, List.getElem?_append_left (by simp; omega)]
theorem SpareK.reads {w : World} {a : Option Addr} {n c : Nat} {X : List HkI} (h : SpareK w a n c X) : ReadsK w a n X := by
  obtain ⟨h1, h2, g, h3, h4, h5, h6, h7⟩ := h
  refine ⟨h1, fun _ => ⟨g, 0, h3, h4, fun i x hx => ?_⟩⟩
  obtain ⟨gi, ci, q1, q2, q3, q4, q5⟩ := h7 i x hx
  exact ⟨_, ci, by rw [Nat.zero_add]; exact q1, by rw [Nat.zero_add]; exact q2, q5.short rfl (by omega), by omega, q4⟩
/-- a row of hunks while it grows: the hunk, the block of its lines, their room -/
abbrev SpR := HkI × Nat × Nat
def spCells (r : SpR) : List Value := [.int .i64 r.1.1, .slice (some ⟨r.2.1, 0, none⟩) r.1.2.length r.2.2]
theorem spCells_one (r : SpR) : ∀ u ∈ spCells r, u.oneCell' = true := by
  intro u hu
  simp only [spCells, List.mem_cons, List.not_mem_nil, or_false] at hu
  rcases hu with rfl | rfl <;> rfl
structure SpL (B : Nat) (w : World) (vo : Value) (rows : List SpR) : Prop where
  own : w.ownsRow B 80 2 vo rows.length (rows.flatMap spCells)
  each : ∀ r ∈ rows, w.ownsRow B 9 1 (.slice (some ⟨r.2.1, 0, none⟩) (r.1.2.length + 2) r.2.2) (r.1.2.length + 2) ((r.1.2 ++ behindT).map S1)
theorem SpL.below {B : Nat} {w w' : World} {vo : Value} {rows : List SpR} (h : SpL B w vo rows) (hb : Below w.heap.size w w') : SpL B w' vo rows :=
  ⟨own_below h.own hb, fun r hr => own_below (h.each r hr) hb⟩
theorem SpL.push {B : Nat} {w w' : World} {vo v' : Value} {rows : List SpR} {r : SpR} (h : SpL B w vo rows) (hr : w.ownsRow B 9 1 (.slice (some ⟨r.2.1, 0, none⟩) (r.1.2.length + 2) r.2.2) (r.1.2.length + 2) ((r.1.2 ++ behindT).map S1)) (hp : AppPost w B 80 2 vo rows.length (rows.flatMap spCells) (spCells r) v' w') : SpL B w' v' (rows ++ [r]) := by
  have hty : ∀ b, vo.ownBlock = some b → ∃ (cur : Array Value) (e' : TypeId) (fr : Nat × Nat), w.heap[b]? = some (.cells cur e' fr) ∧ e' ≠ 9 := fun b hb2 => by
    obtain ⟨_, cur, hc⟩ := own_block h.own hb2
    exact ⟨cur, _, _, hc, by decide⟩
  refine ⟨?_, fun x hx => ?_⟩
  · rw [List.length_append, List.flatMap_append]
    simpa using hp.1
  · rcases List.mem_append.1 hx with hx | hx
    · exact own_keep_ty (h.each x hx) hp.2.1 hty
    · obtain rfl := List.mem_singleton.1 hx
      exact own_keep_ty hr hp.2.1 hty
theorem own_some {w : World} {B : Nat} {e : TypeId} {v : Value} {n : Nat} {xs : List Value} (h : w.ownsRow B e 1 v n xs) (hn : 0 < n) : ∃ g c, v = .slice (some ⟨g, 0, none⟩) n c ∧ n ≤ c ∧ c ≤ maxLen := by
  rcases h.2 with ⟨_, h0⟩ | ⟨g, cap, cur, hv, _, _, h1, h2, _⟩
  · omega
  · exact ⟨g, cap, hv, h1, h2⟩
def endCells : List Value := [.int .i64 77, .slice none 0 0, .int .i64 78, .slice none 0 0]
theorem endCells_one : ∀ u ∈ endCells, u.oneCell' = true := by
  intro u hu
  simp only [endCells, List.mem_cons, List.not_mem_nil, or_false] at hu
  rcases hu with rfl | rfl | rfl | rfl <;> rfl
theorem sp_len (rows : List SpR) : (rows.flatMap spCells).length = rows.length * 2 := by
  induction rows with
  | nil => rfl
  | cons x l ih => rw [List.flatMap_cons, List.length_append, ih, List.length_cons]; show 2 + _ = _; omega
/-- what stands behind the last append -/
theorem spare_done {B : Nat} {w w' : World} {vo v' : Value} {rows : List SpR} {X : List HkI} (h : SpL B w vo rows) (hX : rows.map (·.1) = X) (hown : w'.ownsRow B 80 2 v' (rows.length + 2) (rows.flatMap spCells ++ endCells)) (hg : w.grownBy w' vo.ownBlock) :
    ∃ a c, v' = .slice a (rows.length + 2) c ∧ SpareK w' a X.length c X := by
  have hty : ∀ b, vo.ownBlock = some b → ∃ (cur : Array Value) (e' : TypeId) (fr : Nat × Nat), w.heap[b]? = some (.cells cur e' fr) ∧ e' ≠ 9 := fun b hb2 => by
    obtain ⟨_, cur, hc⟩ := own_block h.own hb2
    exact ⟨cur, _, _, hc, by decide⟩
  have hXl : X.length = rows.length := by rw [← hX, List.length_map]
  obtain ⟨a, c, rfl⟩ := slice_own hown
  obtain ⟨_, h1, h2⟩ := own_caps hown
  obtain ⟨g, rfl, hgl, hc⟩ := own_cell hown (by omega)
  refine ⟨_, c, rfl, rfl, by omega, g, rfl, hgl, ?_, ?_, fun i x hx => ?_⟩
  · refine hc _ _ ?_
    rw [List.getElem?_append_right (by rw [sp_len, hXl]; omega), sp_len, hXl, Nat.sub_self]
    rfl
  · refine hc _ _ ?_
    rw [List.getElem?_append_right (by rw [sp_len, hXl]; omega), sp_len, hXl, show (rows.length + 1) * 2 - rows.length * 2 = 2 by omega]
    rfl
  · rw [← hX, List.getElem?_map] at hx
    cases hr : rows[i]? with
    | none => rw [hr] at hx; cases hx
    | some r =>
      rw [hr] at hx
      cases hx
      have hil := (List.getElem?_eq_some_iff.1 hr).1
      have f0 := flat_at (f := spCells) (c := 2) (fun _ => rfl) hr (j := 0) rfl
      have f1 := flat_at (f := spCells) (c := 2) (fun _ => rfl) hr (j := 1) rfl
      have ho := own_keep_ty (h.each r (List.mem_of_getElem? hr)) hg hty
      obtain ⟨_, q1, q2⟩ := own_caps ho
      obtain ⟨a', c', he, hrd, _, _⟩ := reads_of_own ho
      cases he
      refine ⟨r.2.1, r.2.2, hc _ _ ?_, hc _ _ ?_, q1, q2, ?_⟩
      · rw [List.getElem?_append_left (by rw [sp_len]; omega)]
        exact f0
      · rw [List.getElem?_append_left (by rw [sp_len]; omega)]
        exact f1
      · exact hrd
set_option maxHeartbeats 8000000 in
set_option maxRecDepth 100000 in
theorem spareC (w : World) (a : Option Addr) (n c : Nat) (X : List HkI) (hX : ReadsK w a n X) (hF : Fit X) :
    Calls Tryd.prog 18 #[.slice a n c] w fun e w' => ∃ a' c', e = .returned (.slice a' n c') ∧ SpareK w' a' n c' X ∧ Below w.heap.size w w' := by
  have HX := Lib.hid hX
  have HN := Lib.hid hX.len
  have HL := Lib.hid hF.2.1
  have hn : n ≤ 16777216 := by rw [← hX.len]; exact hF.1
  clear hX hF
  go_enter Tryd.func18, Tryd.ntmps18
  go_wp2
  go_loopw [3, 4] (fun vo ui wr => ∃ (i : Nat) (rows : List SpR), ui = .int .i64 (i : Int) ∧ i ≤ n ∧ Hid (rows.map (·.1) = X.take i ∧ rows.length = i ∧ SpL w.heap.size wr vo rows ∧ Below w.heap.size w wr)) (fun _ ui _ => n - (RowKit.intOf ui).toNat)
  case atStart => exact ⟨0, [], rfl, Nat.zero_le _, Lib.hid ⟨rfl, rfl, ⟨World.ownsRow_nil _ _ _ _, fun r hr => by cases hr⟩, Below.refl _ _⟩⟩
  case round =>
    obtain ⟨i, rows, rfl, hi, HR⟩ := hrel
    obtain ⟨vo, rfl⟩ : ∃ v : Value, v = u3 := ⟨_, rfl⟩
    have hwb := HR.out.2.2.2.size
    by_cases hlt : i < n
    · obtain ⟨b, off, x, ad, m, cm, rfl, hb, hx, hc0, hc1, hrs, hmc, hcm, hm⟩ := HX.out.at hlt
      have hml : m ≤ 16777216 := by
        have h1 := linesK_mem (List.mem_of_getElem? hx)
        have h2 := HL.out
        omega
      have HTK := Lib.hid (take_next hx)
      obtain ⟨kd, hkd⟩ : ∃ kd, kd = x.1 := ⟨_, rfl⟩
      rw [← hkd] at hc0
      have HKD := Lib.hid hkd
      have HRS := Lib.hid (hrs.keep HR.out.2.2.2 (Nat.le_refl _))
      have HM := Lib.hid hm
      have hit : (i : Int) < (n : Int) := by omega
      have hmc1 : (m : Int) ≤ (cm : Int) := by omega
      obtain ⟨w5, hw5⟩ : ∃ x : World, x = wr := ⟨_, rfl⟩
      have HR5 : Hid (rows.map (·.1) = X.take i ∧ rows.length = i ∧ SpL w.heap.size w5 vo rows ∧ Below w.heap.size w w5) := by rw [hw5]; exact HR
      have H0 : Hid (w5.ownsRow w5.heap.size 9 1 (.slice none 0 0) 0 []) := Lib.hid (World.ownsRow_nil _ _ _ _)
      rw [← hw5] at HRS hwb ⊢
      have hq : ∀ W, Below w.heap.size w W → W.cell? ⟨b, off + i * 2, none⟩ = some (.int .i64 kd) ∧ W.cell? ⟨b, off + i * 2 + 1, none⟩ = some (.slice ad m cm) := fun W hW => ⟨(hW.cell (p := ⟨b, off + i * 2, none⟩) hb).trans hc0, (hW.cell (p := ⟨b, off + i * 2 + 1, none⟩) hb).trans hc1⟩
      have HQ := Lib.hid hq
      obtain ⟨j0, j1⟩ := hq w5 HR5.out.2.2.2
      clear hx hrs hm hkd hw5 HR hq hc0 hc1 hb
      go_upto_region 8 with (first
        | (at_builtin; refine appSlice rfl _ _ rfl Tryd.underlying29 (.string ByteArray.empty) 1 16 infoStr rfl (by decide) (by decide) w5.heap.size (.slice none 0 0) 0 [] rfl H0.out ad m cm (x.2.map S1) rfl (by rw [List.length_map, HM.out, Nat.mul_one]) HRS.out.srcs (S1_one _) (by omega) (Nat.le_refl _) ?_; intro v6 w6 hO6 hg6; have hb6 : Below w5.heap.size w5 w6 := (Below.refl _ w5).grown hg6 (Nat.le_refl _) (fun k hk => by cases hk); have HO6 : Hid (w6.ownsRow w5.heap.size 9 1 v6 m (x.2.map S1)) := Lib.hid (by rw [List.nil_append, Nat.zero_add] at hO6; exact hO6); have HB6 := Lib.hid hb6; have hs6 := hb6.size; clear hO6 hg6 hb6)
        | (at_builtin; refine appSlice rfl _ _ rfl Tryd.underlying29 (.string ByteArray.empty) 1 16 infoStr rfl (by decide) (by decide) w5.heap.size v6 m (x.2.map S1) rfl (World.ownsRow.alloc HO6.out _) (some ⟨w6.heap.size, 0, none⟩) 2 2 (behindT.map S1) rfl rfl (fun _ => ⟨w6.heap.size, 0, rfl, fun j u hj => by { have h1 := new_cells w6 (behindT.map S1) 9 j u hj; rw [cell_add] at h1; exact h1 }⟩) (S1_one _) (by omega) (by simp; omega) ?_; intro v7 w7 hO7 hg7; have hb7 : Below w5.heap.size w5 w7 := (HB6.out.alloc hs6 _).grown hg7 (by simp; omega) (fun k hk => (World.ownsRow.lt HO6.out k hk).1); have HO7 : Hid (w7.ownsRow w5.heap.size 9 1 v7 (m + 2) ((x.2 ++ behindT).map S1)) := Lib.hid (by rw [List.map_append]; exact hO7); have HB7 := Lib.hid hb7; have hs7 := hb7.size; clear hO7 hg7 hb7))
      obtain ⟨g7, c7, hv7, hc71, hc72⟩ := own_some HO7.out (by omega)
      subst hv7
      have hc7i : (m : Int) ≤ (c7 : Int) := by omega
      have hc7m : c7 ≤ 9223372036854775807 := by unfold maxLen at hc72; omega
      have HBD : Hid (Below w5.heap.size w5 w7.drew) := Lib.hid HB7.out.drew
      have HSD : Hid (SpL w.heap.size w7.drew vo rows) := Lib.hid (HR5.out.2.2.1.below HBD.out)
      have HRI := HR5.out.2.1
      have hwd : w.heap.size ≤ w7.drew.heap.size := Nat.le_trans hwb hs7
      have HBW7 : Hid (Below w.heap.size w w7.drew) := Lib.hid (HR5.out.2.2.2.trans (HBD.out.mono hwb))
      obtain ⟨d0, d1⟩ := HQ.out _ HBW7.out
      have hrl : rows.length ≤ 1073741824 := by omega
      have hCS : spCells ((kd, x.2), g7, c7) = [.int .i64 kd, .slice (some ⟨g7, 0, none⟩) m c7] := by unfold spCells; rw [← HM.out]
      have HCS := Lib.hid hCS
      clear hCS j0 j1
      go_region_held3 (fun w' => w'.cell? ⟨b, off + i * 2, none⟩ = some (.int .i64 kd) ∧ w'.cell? ⟨b, off + i * 2 + 1, none⟩ = some (.slice ad m cm)) (first | exact ⟨d0, d1⟩ | exact HQ.out _ (by assumption) | exact HQ.out _ (HBW7.out.alloc hwd _) | go_keep) ((refine stepSep (by rfl) _ _ (by rfl) Tryd.underlying22 (.agg #[.int .i64 0, .slice none 0 0]) 2 32 infoHunk (by rfl) (by decide) (by decide) w.heap.size w7.drew vo rows.length (rows.flatMap spCells) [.int .i64 kd, .slice (some ⟨g7, 0, none⟩) m c7] (by rfl) (by rw [← HCS.out]; exact spCells_one _) (by rfl) HSD.out.own (by rfl) (by rfl) hrl hwd ?_; intro v8 w8 hp8; have hb8 : Below w.heap.size w w8 := HBW7.out.trans (hp8.below HSD.out.own hwd)))
      rw [← HCS.out] at hp8
      have HNX : Hid ((rows ++ [((kd, x.2), g7, c7)]).map (·.1) = X.take (i + 1) ∧ (rows ++ [((kd, x.2), g7, c7)]).length = i + 1 ∧ SpL w.heap.size w8 v8 (rows ++ [((kd, x.2), g7, c7)]) ∧ Below w.heap.size w w8) := by
        refine Lib.hid ⟨?_, by rw [List.length_append, HRI]; rfl, HSD.out.push ?_ hp8, hb8⟩
        · rw [List.map_append, HR5.out.1, HTK.out, HKD.out]
          rfl
        · have h1 := own_mono HO7.out hwb
          have h2 := own_below h1 ((Below.refl _ w7).drew)
          simp only [HM.out]
          exact h2
      clear hp8 hb8
      go_wp2
      go_roundw
      case rel => exact ⟨i + 1, _, by go_num, hlt, HNX⟩
      case measure => simp [RowKit.intOf]; omega
    · obtain rfl : i = n := by omega
      have hd : X.take i = X := List.take_of_length_le (by rw [HN.out]; exact Nat.le_refl _)
      rw [hd] at HR
      have hrl := HR.out.2.1
      have HXI : Hid (X.length = i) := HN
      have HSA : Hid (SpL w.heap.size (wr.alloc (.cells endCells.toArray 80)) vo rows ∧ Below w.heap.size w (wr.alloc (.cells endCells.toArray 80))) := Lib.hid ⟨HR.out.2.2.1.below ((Below.refl _ wr).alloc (Nat.le_refl _) _), HR.out.2.2.2.alloc hwb _⟩
      have HSZ : Hid (w.heap.size ≤ (wr.alloc (.cells endCells.toArray 80)).heap.size) := Lib.hid (by simp; omega)
      clear hd
      go_wp2_with (at_builtin; refine appSlice rfl _ _ rfl Tryd.underlying22 (.agg #[.int .i64 0, .slice none 0 0]) 2 32 infoHunk rfl (by decide) (by decide) w.heap.size vo rows.length (rows.flatMap spCells) rfl HSA.out.1.own (some ⟨wr.heap.size, 0, none⟩) 2 2 endCells rfl rfl (fun _ => ⟨wr.heap.size, 0, rfl, fun j u hj => by { have h1 := new_cells wr endCells 80 j u hj; rw [cell_add] at h1; exact h1 }⟩) endCells_one (by omega) HSZ.out ?_; intro v8 w8 hO8 hg8; obtain ⟨a8, c8, hv8, hS8⟩ := spare_done HSA.out.1 HR.out.1 hO8 hg8; subst hv8; have hb8 : Below w.heap.size w w8 := HSA.out.2.grown hg8 HSZ.out (fun k hk => (World.ownsRow.lt HSA.out.1.own k hk).1); rw [HXI.out] at hS8; have HS8 := Lib.hid hS8; have HB8 := Lib.hid hb8; have hr8 := hS8.room; have hr9 : (i : Int) ≤ (c8 : Int) := (by omega); have hr10 : c8 ≤ 9223372036854775807 := (by { have := hr8.2; unfold maxLen at this; omega }); clear hO8 hg8 hS8 hb8)
      go_ret
      exact ⟨a8, c8, rfl, HS8.out, HB8.out⟩
set_option maxHeartbeats 8000000 in
set_option maxRecDepth 100000 in
theorem keptC (w : World) (a b : Option Addr) (n c d : Nat) (X : List HkI) (hS : SpareK w a n c X) (hW : ReadsK w b n X) (hF : Fit X) :
    Calls Tryd.prog 26 #[.slice a n c, .slice b n d] w fun e w' => e = .returned (.bool true) ∧ Quiet w w' := by
  have hn : n ≤ 16777216 := by rw [← hS.len]; exact hF.1
  have HE := Lib.hid (eqHunks w a b n c d X hS.reads hW (by omega) (fun x hx => by have h1 := linesK_mem hx; have h2 := hF.2.1; omega))
  obtain ⟨hl, hroom, g, rfl, hgl, g77, g78, hat⟩ := hS
  have HL := Lib.hid hF.2.1
  have HAT := Lib.hid hat
  have hr1 : (n : Int) + 2 ≤ (c : Int) := by omega
  have hr2 : c ≤ 9223372036854775807 := by have := hroom.2; unfold maxLen at this; omega
  clear hat hF hW
  go_enter Tryd.func26, Tryd.ntmps26
  go_upto_region 3 with (go_at_call 12; refine (HE.out).mono ?_; rintro e w1 ⟨rfl, hq1⟩; have HQ1 := Lib.hid hq1; clear hq1)
  have e77 : w1.cell? ⟨g, n * 2, none⟩ = some (.int .i64 77) := by rw [← g77]; exact cell_rows (by rw [HQ1.out.heap])
  have e78 : w1.cell? ⟨g, (n + 1) * 2, none⟩ = some (.int .i64 78) := by rw [← g78]; exact cell_rows (by rw [HQ1.out.heap])
  have hq1 := HQ1.out
  have e78' : w1.cell? ⟨g, (n + 1) * 2, none⟩ = some (.int .i64 78) := e78
  obtain ⟨n1, hn1⟩ : ∃ n1, n + 1 = n1 := ⟨_, rfl⟩
  rw [hn1] at e78 e78'
  have hw1 : IntKind.i64.wrap ((n : Int) + 1) = (n1 : Int) := by rw [show (n : Int) + 1 = (n1 : Int) by omega]; exact IntWalk.i64_in _ (by omega)
  have hw2 : IntKind.i64.wrap ((n : Int) + 2) = (n : Int) + 2 := IntWalk.i64_in _ (by omega)
  have hb1 : (n1 : Int) < (n : Int) + 2 := by omega
  have HN1 := Lib.hid hn1
  clear hn1 hq1
  go_wp2
  clear hw1 hw2
  go_loopw [6] (fun ui wr => ∃ i : Nat, ui = .int .i64 (i : Int) ∧ i ≤ n ∧ Quiet w wr) (fun ui _ => n - (RowKit.intOf ui).toNat)
  case atStart => exact ⟨0, rfl, Nat.zero_le _, HQ1.out⟩
  case round =>
    obtain ⟨i, rfl, hi, hq⟩ := hrel
    by_cases hlt : i < n
    · have hx : X[i]? = some (X[i]'(by omega)) := by simp
      obtain ⟨gi, ci, q1, q2, q3, q4, q5⟩ := HAT.out i _ hx
      have hlx := linesK_mem (List.mem_of_getElem? hx)
      obtain ⟨m, hm⟩ : ∃ m, m = (X[i]'(by omega)).2.length := ⟨_, rfl⟩
      obtain ⟨L, hL⟩ : ∃ L, L = (X[i]'(by omega)).2 := ⟨_, rfl⟩
      rw [← hm] at q2 q3 q5 hlx
      rw [← hL] at q5 hm
      have hml : m ≤ 16777216 := by have := HL.out; omega
      have d1 : wr.cell? ⟨g, i * 2 + 1, none⟩ = some (.slice (some ⟨gi, 0, none⟩) m ci) := by rw [← q2]; exact cell_rows (by rw [hq.heap])
      have q6 := q5.quiet hq
      obtain ⟨b1, o1, y1, e1, _, hy1, hc1⟩ := q6.at (k := m) (by omega)
      obtain ⟨b2, o2, y2, e2, _, hy2, hc2⟩ := q6.at (k := m + 1) (by omega)
      cases e1
      cases e2
      rw [List.getElem?_append_right (by omega), ← hm, Nat.sub_self] at hy1
      rw [List.getElem?_append_right (by omega), ← hm, show m + 1 - m = 1 by omega] at hy2
      obtain rfl : [98, 101, 104, 105, 110, 100] = y1 := Option.some.inj hy1
      obtain rfl : [116, 104, 101, 109] = y2 := Option.some.inj hy2
      rw [Nat.zero_add] at hc1 hc2
      obtain ⟨m1, hm1⟩ : ∃ m1, m + 1 = m1 := ⟨_, rfl⟩
      rw [hm1] at hc2
      have hk : ∀ W, Quiet wr W → W.cell? ⟨gi, m, none⟩ = some (.string (bstr [98, 101, 104, 105, 110, 100])) ∧ W.cell? ⟨gi, m1, none⟩ = some (.string (bstr [116, 104, 101, 109])) := fun W hW => ⟨(cell_rows (by rw [hW.heap])).trans hc1, (cell_rows (by rw [hW.heap])).trans hc2⟩
      have HK := Lib.hid hk
      have hit : (i : Int) < (n : Int) := by omega
      have hmi : (m : Int) + 2 ≤ (ci : Int) := by omega
      have hci : ci ≤ 9223372036854775807 := by unfold maxLen at q4; omega
      have hv1 : IntKind.i64.wrap ((m : Int) + 2) = (m : Int) + 2 := IntWalk.i64_in _ (by omega)
      have HM1 := Lib.hid hm1
      have HMM := Lib.hid hm
      clear hk hc1 hc2 hx q1 q2 q3 q4 q5 q6 hlx hm hL hm1 hy1 hy2
      go_wp2
      go_quiet (fail)
      obtain ⟨wq, hwq⟩ : ∃ x, x = wr.drewN nq := ⟨_, rfl⟩
      obtain ⟨f1, f2⟩ := HK.out wq (by rw [hwq]; exact ⟨_, rfl⟩)
      have HQ2 : Hid (Quiet w wq) := Lib.hid (by rw [hwq]; exact hq.drewN _)
      rw [← hwq]
      have hv2 : IntKind.i64.wrap ((m : Int) + 2 - 2) = (m : Int) := by rw [show (m : Int) + 2 - 2 = (m : Int) by omega]; exact IntWalk.i64_in _ (by omega)
      have hv3 : IntKind.i64.wrap ((m : Int) + 2 - 1) = (m1 : Int) := by have := HM1.out; rw [show (m : Int) + 2 - 1 = (m1 : Int) by omega]; exact IntWalk.i64_in _ (by omega)
      have hu1 : (m : Int) < (m : Int) + 2 := by omega
      have hu2 : (m1 : Int) < (m : Int) + 2 := by have := HM1.out; omega
      clear hwq
      go_wp2
      go_roundw
      case rel => exact ⟨i + 1, by go_num, hlt, HQ2.out⟩
      case measure => simp [RowKit.intOf]; omega
    · obtain rfl : i = n := by omega
      go_wp2
      go_ret
      exact ⟨rfl, hq⟩
end Go.Proofs.YtnbihjocdlpplaaDoor
