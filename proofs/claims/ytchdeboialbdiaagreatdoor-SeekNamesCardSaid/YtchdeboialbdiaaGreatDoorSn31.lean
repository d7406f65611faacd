/- Texts joined, one behind the other (AsS, FaultS, SFlt, LSeekCompiles). -/
import Derived.Test.YtchdeboialbdiaaGreatDoorSn30
import Derived.LaidEql
import Derived.Stop.Asserts
import Derived.RowKitTokens
import Derived.Deep.RegionHeld3
namespace Go.Proofs.YtchdeboialbdiaaGreatDoor
set_option linter.unusedVariables false
set_option linter.unusedSimpArgs false
set_option maxHeartbeats 8000000
set_option maxRecDepth 100000
open Go.RowKit Go.Extern.Stop Go.Stop Go.Extern
theorem Tryz.valueOf27 (t : Addr) (w : World) : (ReflectliteValue.unpack (.iface 105 (.pointer (some t)))).run Tryz.prog w
  = .ok (.agg #[.pointer (some ⟨4, 105,none⟩),.pointer (some ⟨w.heap.size,0,none⟩),.int .u64 150]) (w.alloc (.cells #[.pointer (some t)] 105)):=by kernel_rfl
theorem Tryz.type27 (a : Addr) (w : World) : (ReflectliteValue.methodAny (ReflectliteValue.valueError "reflectlite.Value.Type" 0) (fun t _ _ _ => ReflectliteType.toType t) #[.agg #[.pointer (some ⟨4, 105,none⟩),.pointer (some a),.int .u64 150]]).run Tryz.prog w
  = .ok (.iface 163 (.agg #[.pointer (some ⟨4, 105,none⟩)])) w:=by kernel_rfl
theorem Tryz.methodKind (h : Value) (w : World) : (Go.method (100 + 196) 163 (.agg #[h]) "Kind").run Tryz.prog w = .ok (129,h) w:=by kernel_rfl
theorem Tryz.kind27 (w : World) : ((ReflectliteType.abiMethod fun t => (fun a : Nat => Value.int IntKind.u8 (a : Int)) <$> Rtype.kind t) #[.pointer (some ⟨4, 105,none⟩)]).run Tryz.prog w = .ok (.int .u8 22) w:=by kernel_rfl
theorem Tryz.kind25 (w : World) : ((ReflectliteType.abiMethod fun t => (fun a : Nat => Value.int IntKind.u8 (a : Int)) <$> Rtype.kind t) #[.pointer (some ⟨4, 82,none⟩)]).run Tryz.prog w = .ok (.int .u8 22) w:=by kernel_rfl
theorem rlm (z : Sem Value) (f : TypeId → Addr → Nat → Nat → Sem Value) (v : Value) :
  ReflectliteValue.method z f #[v] = (do match ← ReflectliteValue.parts v with | none => z | some (t,a,fl) => f t a fl (fl % 32)):=rfl
theorem Tryz.parts27 (a : Addr) (w : World) : (ReflectliteValue.parts (.agg #[.pointer (some ⟨4, 105,none⟩),.pointer (some a),.int .u64 150])).run Tryz.prog w = .ok (some (105,a,150)) w:=by kernel_rfl
theorem Tryz.isNil27 (a p : Addr) (W : World) (ha : W.cell? a = some (.pointer (some p))) :
  (ReflectliteValue.method (ReflectliteValue.valueError "reflectlite.Value.IsNil" 0) ReflectliteValue.isNil #[.agg #[.pointer (some ⟨4, 105,none⟩),.pointer (some a),.int .u64 150]]).run Tryz.prog W = .ok (.bool false) W:=by
 rw [rlm]
 simp only [Sem.run_bind, Tryz.parts27,Result.andThen]
 simp [ReflectliteValue.isNil,loadVar,isAgg,underlying, Tryz.underlying105,ha,Result.andThen]
theorem Tryz.methodElem (h : Value) (w : World) : (Go.method (100 + 196) 163 (.agg #[h]) "Elem").run Tryz.prog w = .ok (142,.agg #[h]) w:=by kernel_rfl
theorem Tryz.methodImplements (h : Value) (w : World) : (Go.method (100 + 196) 163 (.agg #[h]) "Implements").run Tryz.prog w = .ok (143,.agg #[h]) w:=by kernel_rfl
theorem Tryz.methodAssignableTo (h : Value) (w : World) : (Go.method (100 + 196) 163 (.agg #[h]) "AssignableTo").run Tryz.prog w = .ok (140,.agg #[h]) w:=by kernel_rfl
theorem Tryz.elem27 (w : World) : (ReflectliteType.method ReflectliteType.elem #[.agg #[.pointer (some ⟨4, 105,none⟩)]]).run Tryz.prog w = .ok (.iface 163 (.agg #[.pointer (some ⟨4, 82,none⟩)])) w:=by kernel_rfl
theorem Tryz.implements25 (w : World) : (ReflectliteType.relation "Implements" ReflectliteType.implements_ #[.agg #[.pointer (some ⟨4, 82,none⟩)],.iface 163 (.agg #[.pointer (some ⟨4, 49,none⟩)])]).run Tryz.prog w = .ok (.bool true) w:=by kernel_rfl
theorem Tryz.typeOf25 (v : Value) (w : World) : (ReflectliteType.typeOf #[.iface 82 v]).run Tryz.prog w = .ok (.iface 163 (.agg #[.pointer (some ⟨4, 82,none⟩)])) w:=by kernel_rfl
theorem Tryz.assignable25 (w : World) : (ReflectliteType.relation "AssignableTo" ReflectliteType.assignableTo #[.agg #[.pointer (some ⟨4, 82,none⟩)],.iface 163 (.agg #[.pointer (some ⟨4, 82,none⟩)])]).run Tryz.prog w = .ok (.bool true) w:=by kernel_rfl
theorem Tryz.valueOf25 (e : Addr) (w : World) : (ReflectliteValue.unpack (.iface 82 (.pointer (some e)))).run Tryz.prog w
  = .ok (.agg #[.pointer (some ⟨4, 82,none⟩),.pointer (some ⟨w.heap.size,0,none⟩),.int .u64 150]) (w.alloc (.cells #[.pointer (some e)] 82)):=by kernel_rfl
theorem Tryz.elemOf27 (w : World) : (Rtype.elem? 105).run Tryz.prog w = .ok (some 82) w:=by kernel_rfl
theorem Tryz.mk25 (p : Addr) (w : World) : (ReflectliteValue.mk 82 p ReflectliteValue.flagAddr).run Tryz.prog w = .ok (.agg #[.pointer (some ⟨4, 82,none⟩),.pointer (some p),.int .u64 406]) w:=by kernel_rfl
theorem Tryz.elemV27 (a p : Addr) (W : World) (ha : W.cell? a = some (.pointer (some p))) :
  (ReflectliteValue.method (ReflectliteValue.valueError "reflectlite.Value.Elem" 0) ReflectliteValue.elem #[.agg #[.pointer (some ⟨4, 105,none⟩),.pointer (some a),.int .u64 150]]).run Tryz.prog W
   = .ok (.agg #[.pointer (some ⟨4, 82,none⟩),.pointer (some p),.int .u64 406]) W:=by
 rw [rlm]
 simp only [Sem.run_bind, Tryz.parts27,Result.andThen]
 simp [ReflectliteValue.elem,loadVar,isAgg,underlying, Tryz.underlying105,ha,Result.andThen, Tryz.elemOf27, Tryz.mk25]
theorem rls (v x : Value) : ReflectliteValue.set #[v,x] = (do
  let (some (dst,a,fl),some (src,b,_)):=(← ReflectliteValue.parts v,← ReflectliteValue.parts x)
   | unsupported (.noEntry "extern/(internal/reflectlite.Value).Set.zeroValue")
  if fl / ReflectliteValue.flagAddr % 2 == 0 then unsupported (.noEntry "extern/(internal/reflectlite.Value).Set.unaddressable")
  let val ← loadVar src b
  if ← Rtype.directlyAssignable dst src then storeVar dst a val
  else if ← Rtype.implements dst src then
   if (← Rtype.kind src) == 20 then
    match val with
    | .nilIface => unsupported (.noEntry "extern/reflectlite: a nil value of one interface type handed on as a value of another")
    | _ => storeVar dst a val
   else storeVar dst a (.iface src val)
  else panicString ("reflectlite.Set: value of type " ++ (← Rtype.spelt src) ++ " is not assignable to type " ++ (← Rtype.spelt dst))
  pure (.tuple #[])):=rfl
theorem Tryz.parts25a (a : Addr) (w : World) : (ReflectliteValue.parts (.agg #[.pointer (some ⟨4, 82,none⟩),.pointer (some a),.int .u64 406])).run Tryz.prog w = .ok (some (82,a,406)) w:=by kernel_rfl
theorem Tryz.parts25 (a : Addr) (w : World) : (ReflectliteValue.parts (.agg #[.pointer (some ⟨4, 82,none⟩),.pointer (some a),.int .u64 150])).run Tryz.prog w = .ok (some (82,a,150)) w:=by kernel_rfl
theorem Tryz.direct25 (w : World) : (Rtype.directlyAssignable 82 82).run Tryz.prog w = .ok true w:=by kernel_rfl
theorem Tryz.set25 (ta b e : Addr) (old : Value) (W : World) (hb : W.cell? b = some (.pointer (some e))) (ht : W.cell? ta = some old) (hf : W.frozen? ta = false) :
  (ReflectliteValue.set #[.agg #[.pointer (some ⟨4, 82,none⟩),.pointer (some ta),.int .u64 406],.agg #[.pointer (some ⟨4, 82,none⟩),.pointer (some b),.int .u64 150]]).run Tryz.prog W
   = .ok (.tuple #[]) (W.setCell ta (.pointer (some e))):=by
 rw [rls]
 simp only [Sem.run_bind, Tryz.parts25a, Tryz.parts25,Result.andThen]
 simp [ReflectliteValue.flagAddr,loadVar,isAgg,underlying, Tryz.underlying82,hb,Result.andThen, Tryz.direct25,storeVar,Value.cells,storeCells,Addr.add]
 rw [run_store Tryz.prog W ta _ _ (by rfl)]
 simp [ht,hf]
theorem as_hit (e t : Addr) (old : Value) (w : World) (hg : w.cell? ⟨0,0,none⟩ = some (.iface 163 (.agg #[.pointer (some ⟨4, 49,none⟩)]))) (ht0 : w.cell? t = some old) (hf0 : w.frozen? t = false) :
  Calls Tryz.prog 37 #[.iface 82 (.pointer (some e)),.iface 105 (.pointer (some t))] w fun ev w' => ev = .returned (.bool true) ∧ w' = ((((w.alloc (.cells #[.pointer (some t)] 105)).alloc (.cells #[.pointer (some ⟨4, 105,none⟩),.pointer (some ⟨w.heap.size,0,none⟩),.int .u64 150] 133)).alloc (.cells #[.pointer (some ⟨4, 105,none⟩),.pointer (some ⟨w.heap.size,0,none⟩),.int .u64 150] 133)).alloc (.cells #[.pointer (some e)] 82)).setCell t (.pointer (some e)):=by
 have h6:=@run_callFunc_extern Tryz.prog 56 _ (fun args => ReflectliteValue.unpack (args.getD 0 (.tuple #[]))) Tryz.func56 (by kernel_rfl) (by kernel_rfl) (by kernel_rfl) (by kernel_rfl)
 have h7:=@run_callFunc_extern Tryz.prog 57 _ (ReflectliteValue.methodAny (ReflectliteValue.valueError "reflectlite.Value.Type" 0) (fun t _ _ _ => ReflectliteType.toType t)) Tryz.func57 (by kernel_rfl) (by kernel_rfl) (by kernel_rfl) (by kernel_rfl)
 have h8:=@run_callFunc_extern Tryz.prog 58 _ (ReflectliteValue.method (ReflectliteValue.valueError "reflectlite.Value.IsNil" 0) ReflectliteValue.isNil) Tryz.func58 (by kernel_rfl) (by kernel_rfl) (by kernel_rfl) (by kernel_rfl)
 have h27:=@run_callFunc_extern Tryz.prog 129 _ (ReflectliteType.abiMethod fun t => do pure (.int .u8 (← Rtype.kind t))) Tryz.func129 (by kernel_rfl) (by kernel_rfl) (by kernel_rfl) (by kernel_rfl)
 have h37:=@run_callFunc_extern Tryz.prog 142 _ (ReflectliteType.method ReflectliteType.elem) Tryz.func142 (by kernel_rfl) (by kernel_rfl) (by kernel_rfl) (by kernel_rfl)
 have h38:=@run_callFunc_extern Tryz.prog 143 _ (ReflectliteType.relation "Implements" ReflectliteType.implements_) Tryz.func143 (by kernel_rfl) (by kernel_rfl) (by kernel_rfl) (by kernel_rfl)
 have h10:=@run_callFunc_extern Tryz.prog 83 _ ReflectliteType.typeOf Tryz.func83 (by kernel_rfl) (by kernel_rfl) (by kernel_rfl) (by kernel_rfl)
 have h35:=@run_callFunc_extern Tryz.prog 140 _ (ReflectliteType.relation "AssignableTo" ReflectliteType.assignableTo) Tryz.func140 (by kernel_rfl) (by kernel_rfl) (by kernel_rfl) (by kernel_rfl)
 have h11:=@run_callFunc_extern Tryz.prog 84 _ (ReflectliteValue.method (ReflectliteValue.valueError "reflectlite.Value.Elem" 0) ReflectliteValue.elem) Tryz.func84 (by kernel_rfl) (by kernel_rfl) (by kernel_rfl) (by kernel_rfl)
 have h12:=@run_callFunc_extern Tryz.prog 85 _ ReflectliteValue.set Tryz.func85 (by kernel_rfl) (by kernel_rfl) (by kernel_rfl) (by kernel_rfl)
 have tO:=Tryz.typeOf25
 have mA:=Tryz.methodAssignableTo
 have a25:=Tryz.assignable25
 have v25:=Tryz.valueOf25
 have f6:=Tryz.valueOf27
 have f7:=Tryz.type27
 have mK:=Tryz.methodKind
 have mE:=Tryz.methodElem
 have mI:=Tryz.methodImplements
 have k27:=Tryz.kind27
 have k25:=Tryz.kind25
 have e27:=Tryz.elem27
 have i25:=Tryz.implements25
 have n8:=Tryz.isNil27 ⟨w.heap.size,0,none⟩ t ((w.alloc (.cells #[.pointer (some t)] 105)).alloc (.cells #[.pointer (some ⟨4, 105,none⟩),.pointer (some ⟨w.heap.size,0,none⟩),.int .u64 150] 133)) (by simp)
 have hlt : 0 < w.heap.size:=by
  rcases Nat.eq_zero_or_pos w.heap.size with h0 | h
  ·simp [World.cell?,h0] at hg
  ·exact h
 have hg2 : ((w.alloc (.cells #[.pointer (some t)] 105)).alloc (.cells #[.pointer (some ⟨4, 105,none⟩),.pointer (some ⟨w.heap.size,0,none⟩),.int .u64 150] 133)).cell? ⟨0,0,none⟩ = some (.iface 163 (.agg #[.pointer (some ⟨4, 49,none⟩)])):=by
  rw [World.cell?_alloc_lt _ _ ⟨0,0,none⟩ (by simp),World.cell?_alloc_lt _ _ ⟨0,0,none⟩ hlt]; exact hg
 have htl : t.block < w.heap.size:=by
  rcases Nat.lt_or_ge t.block w.heap.size with h | h
  ·exact h
  ·simp [World.cell?,Array.getElem?_eq_none h] at ht0
 have el:=Tryz.elemV27 ⟨w.heap.size,0,none⟩ t (((w.alloc (.cells #[.pointer (some t)] 105)).alloc (.cells #[.pointer (some ⟨4, 105,none⟩),.pointer (some ⟨w.heap.size,0,none⟩),.int .u64 150] 133)).alloc (.cells #[.pointer (some ⟨4, 105,none⟩),.pointer (some ⟨w.heap.size,0,none⟩),.int .u64 150] 133)) (by rw [World.cell?_alloc_lt _ _ ⟨w.heap.size,0,none⟩ (by simp; omega)]; simp)
 have st:=Tryz.set25 t ⟨w.heap.size + 1 + 1 + 1,0,none⟩ e old ((((w.alloc (.cells #[.pointer (some t)] 105)).alloc (.cells #[.pointer (some ⟨4, 105,none⟩),.pointer (some ⟨w.heap.size,0,none⟩),.int .u64 150] 133)).alloc (.cells #[.pointer (some ⟨4, 105,none⟩),.pointer (some ⟨w.heap.size,0,none⟩),.int .u64 150] 133)).alloc (.cells #[.pointer (some e)] 82))
  (by rw [World.cell?_alloc_at _ _ _ _ (by simp)]; rfl)
  (by rw [World.cell?_alloc_lt _ _ t (by simp; omega),World.cell?_alloc_lt _ _ t (by simp; omega),World.cell?_alloc_lt _ _ t (by simp; omega),World.cell?_alloc_lt _ _ t htl]; exact ht0)
  (by rw [World.frozen?_alloc_old _ _ t (by simp; omega),World.frozen?_alloc_old _ _ t (by simp; omega),World.frozen?_alloc_old _ _ t (by simp; omega),World.frozen?_alloc_old _ _ t (Nat.ne_of_lt htl)]; exact hf0)
 go_enter Tryz.func37, Tryz.ntmps37
 go_wp2
 refine wp_loop_rounds 1 ?_
 rw [rounds_succ]
 go_wp2
 go_ret
 exact ⟨rfl,rfl⟩
end Go.Proofs.YtchdeboialbdiaaGreatDoor
namespace Go.Proofs.YtchdeboialbdiaaGreatDoor
set_option linter.unusedVariables false
set_option linter.unusedSimpArgs false
set_option maxHeartbeats 8000000
set_option maxRecDepth 100000
open Go.RowKit
def ErrT (w : World) : Prop:=w.cell? ⟨0,0,none⟩ = some (.iface 163 (.agg #[.pointer (some ⟨4, 49,none⟩)]))
theorem cell_lt {w : World} {b o : Nat} {v : Value} (h : w.cell? ⟨b,o,none⟩ = some v) : b < w.heap.size:=by
 rcases Nat.lt_or_ge b w.heap.size with h1 | h1
 ·exact h1
 ·simp [World.cell?,Array.getElem?_eq_none h1] at h
theorem ErrT.next {w w' : World} (h : ErrT w) (b : Below w.heap.size w w') : ErrT w':=by
 unfold ErrT at *
 rw [b.cell (p:=⟨0,0,none⟩) (cell_lt h)]
 exact h
theorem as_fault (w : World) (g t B : Nat) (c q : Int) (hR : Row w g 84 [.int .i64 c,.int .i64 q]) (hT : Row w t 82 [.pointer none]) (hE : ErrT w) (hB : B ≤ t) (hne : g ≠ t) :
  Calls Tryz.prog 37 #[.iface 82 (.pointer (some ⟨g,0,none⟩)),.iface 105 (.pointer (some ⟨t,0,none⟩))] w fun ev w' => ev = .returned (.bool true) ∧ w'.cell? ⟨t,0,none⟩ = some (.pointer (some ⟨g,0,none⟩)) ∧ w'.cell? ⟨g,0,none⟩ = some (.int .i64 c) ∧ w'.cell? ⟨g,1,none⟩ = some (.int .i64 q) ∧ Below B w w' ∧ ∀ k,k < w.heap.size → k ≠ t → w'.heap[k]? = w.heap[k]?:=by
 have htl:=hT.lt
 have hgl:=hR.lt
 have ht0 : w.cell? ⟨t,0,none⟩ = some (.pointer none):=hT.cell 0
 have hf0 : w.frozen? ⟨t,0,none⟩ = false:=hT.frozen 0
 refine (as_hit ⟨g,0,none⟩ ⟨t,0,none⟩ (.pointer none) w hE ht0 hf0).mono ?_
 rintro ev w' ⟨rfl,rfl⟩
 obtain ⟨w4,hw4⟩ : ∃ W,W = (((w.alloc (.cells #[.pointer (some ⟨t,0,none⟩)] 105)).alloc (.cells #[.pointer (some ⟨4, 105,none⟩),.pointer (some ⟨w.heap.size,0,none⟩),.int .u64 150] 133)).alloc (.cells #[.pointer (some ⟨4, 105,none⟩),.pointer (some ⟨w.heap.size,0,none⟩),.int .u64 150] 133)).alloc (.cells #[.pointer (some ⟨g,0,none⟩)] 82):=⟨_,rfl⟩
 have hb4 : Below w.heap.size w w4:=by
  rw [hw4]
  exact ((((Below.refl _ w).alloc (Nat.le_refl _) _).alloc (by simp) _).alloc (by simp; omega) _).alloc (by simp; omega) _
 rw [← hw4]
 clear hw4
 have hT4 : Row w4 t 82 [.pointer none]:=hT.keep hb4 htl
 have hR4 : Row w4 g 84 [.int .i64 c,.int .i64 q]:=hR.keep hb4 hgl
 have hB4 : B ≤ w4.heap.size:=by have:=hb4.size; omega
 refine ⟨rfl,World.cell?_setCell_same _ _ _ (hT4.cell 0),?_,?_,((hb4.mono (by omega)).setCell (p:=⟨t,0,none⟩) hB _),fun k hk hkt => ?_⟩
 ·rw [World.cell?_setCell_far _ _ _ _ (by simp only; omega)]; exact hR4.cell 0
 ·rw [World.cell?_setCell_far _ _ _ _ (by simp only; omega)]; exact hR4.cell 1
 ·rw [Below.heap_setCell _ _ _ _ (by simp only; omega)]
  exact hb4.block k hk
end Go.Proofs.YtchdeboialbdiaaGreatDoor
namespace Go.Proofs.YtchdeboialbdiaaGreatDoor
set_option linter.unusedVariables false
set_option linter.unusedSimpArgs false
set_option maxHeartbeats 8000000
set_option maxRecDepth 100000
open Go.RowKit
open Go.Lib hiding intOf
theorem fault_nil (w : World) : Calls Tryz.prog 16 #[.nilIface] w fun e w' => e = .returned (.tuple #[.int .i64 0,.int .i64 0,.bool true]) ∧ w' = w:=by
 go_enter Tryz.func16, Tryz.ntmps16
 go_wp2_with fail
 go_ret3
 exact ⟨rfl,rfl⟩
theorem fault_is (w : World) (g : Nat) (c q : Int) (hR : Row w g 84 [.int .i64 c,.int .i64 q]) (hc : (c == 0) = false) (hE : ErrT w) : Calls Tryz.prog 16 #[.iface 82 (.pointer (some ⟨g,0,none⟩))] w fun e w' => e = .returned (.tuple #[.int .i64 c,.int .i64 q,.bool true]) ∧ Below w.heap.size w w':=by
 have hb : Below w.heap.size w (w.alloc (.cells #[.pointer none] 82)):=(Below.refl _ w).alloc (Nat.le_refl _) _
 have hT : Row (w.alloc (.cells #[.pointer none] 82)) w.heap.size 82 [.pointer none]:=row_new w [.pointer none] _
 have hA:=as_fault (w.alloc (.cells #[.pointer none] 82)) g w.heap.size w.heap.size c q (hR.keep hb hR.lt) hT (hE.next hb) (Nat.le_refl _) (by have:=hR.lt; omega)
 have HA : Hid (Calls Tryz.prog 37 #[.iface 82 (.pointer (some ⟨g,0,none⟩)),.iface 105 (.pointer (some ⟨w.heap.size,0,none⟩))] (w.alloc (.cells #[.pointer none] 82)) fun e w' => e = .returned (.bool true) ∧ w'.cell? ⟨w.heap.size,0,none⟩ = some (.pointer (some ⟨g,0,none⟩)) ∧ w'.cell? ⟨g,0,none⟩ = some (.int .i64 c) ∧ w'.cell? ⟨g,1,none⟩ = some (.int .i64 q) ∧ Below w.heap.size w w'):=Lib.hid (hA.mono (by
  rintro e w' ⟨h1,h2,h3,h4,h5,_⟩
  exact ⟨h1,h2,h3,h4,hb.trans h5⟩))
 clear hA hT hb hR hE
 go_enter Tryz.func16, Tryz.ntmps16
 go_wp2_with (go_at_call 37; refine (HA.out).mono ?_; rintro e w1 ⟨rfl,c0,c1,c2,hb1⟩; have HB1:=Lib.hid hb1; clear hb1)
 go_quiet (fail)
 go_wp2_with fail
 go_ret3
 exact ⟨rfl,HB1.out.trans (Quiet.below ⟨_,rfl⟩ _)⟩
theorem textC (w : World) (g : Nat) (l : List UInt8) (fo : Bool) (its : List Itm) (hP : PatIs w g l fo its) : Calls Tryz.prog 12 #[.pointer (some ⟨g,0,none⟩)] w fun e w' => e = .returned (.string (bstr l)) ∧ w' = w:=by
 obtain ⟨v,L,B,hrow,_,_⟩:=hP
 have c0:=hrow.cell 0
 have hl:=hrow.lt
 clear hrow
 go_enter Tryz.func12, Tryz.ntmps12
 go_wp2_with fail
 go_ret
 exact ⟨rfl,rfl⟩
theorem compiles_bad (w : World) (l : List UInt8) (c q : Int) (hc0 : (c == 0) = false) (hT : Tabs w) (hE : ErrT w)
  (h1 : Calls Tryz.prog 14 #[.string (bstr l)] w fun e w' => ∃ g,e = .returned (.tuple #[.pointer none,.iface 82 (.pointer (some ⟨g,0,none⟩))]) ∧ Row w' g 84 [.int .i64 c,.int .i64 q] ∧ Below w.heap.size w w')
  (h2 : ∀ W,Calls Tryz.prog 15 #[.string (bstr l)] W fun e w' => e = .returned (.tuple #[.agg #[.string { data:=#[] },.bool false,.slice none 0 0],.int .i64 q,.int .i64 c]) ∧ Below W.heap.size W w') :
  Calls Tryz.prog 4 #[.string (bstr l)] w fun e w' => e = .returned (.bool true) ∧ Below w.heap.size w w':=by
 have H1:=Lib.hid h1
 have H2:=Lib.hid h2
 have HT:=Lib.hid hT
 have HE:=Lib.hid hE
 have hcc : (c != c) = false:=by simp
 have hqq : (q != q) = false:=by simp
 have hc1 : (c != 0) = true:=by simp only [bne,hc0]; rfl
 clear h1 h2 hT hE
 go_enter Tryz.func4, Tryz.ntmps4
 go_wp2_with (first
  | (go_at_call 14; refine (H1.out).mono ?_; rintro e w1 ⟨g,rfl,hr1,hb1⟩; have HR1:=Lib.hid hr1; have HB1:=Lib.hid hb1; clear hr1 hb1)
  | (go_at_call 15; refine (H2.out _).mono ?_; rintro e w2 ⟨rfl,hb2⟩; have hb3 : Below w1.heap.size w1 (w2.alloc (.cells #[.string { data:=#[] },.bool false,.slice none 0 0] 54)):=hb2.alloc hb2.size _; have HR2:=Lib.hid (HR1.out.keep hb3 HR1.out.lt); have HB2:=Lib.hid (HB1.out.trans (hb3.mono HB1.out.size)); clear hb2 hb3)
  | (go_at_call 16; refine (fault_is _ g c q HR2.out hc0 (HE.out.next HB2.out)).mono ?_; rintro e w3 ⟨rfl,hb3⟩; have HB3:=Lib.hid (HB2.out.trans (hb3.mono HB2.out.size)); clear hb3)
  | (go_at_call 13; refine (worksC _ (HT.out.next HB3.out)).mono ?_; rintro e w4 ⟨rfl,hb4⟩; have HB4:=Lib.hid (HB3.out.trans (hb4.mono HB3.out.size)); clear hb4))
 go_ret
 exact ⟨rfl,HB4.out⟩
theorem seekCompiles_walk (w : World) (l : List UInt8) (hm : l.length ≤ 140737488351232) (hT : Tabs w) (hE : ErrT w) :
  Calls Tryz.prog 4 #[.string (bstr l)] w fun e w' => e = .returned (.bool true) ∧ Below w.heap.size w w':=by
 have hC:=compileC w l (by omega) hT
 have hR:=fun W => compR6 W l (by omega)
 unfold CompP at hC
 unfold RComp at hR
 by_cases hbig : 256 < l.length
 ·simp only [if_pos hbig] at hC hR
  refine compiles_bad w l 4 0 rfl hT hE (hC.mono ?_) (fun W => (hR W).mono ?_)
  ·rintro e w' ⟨hb,g,rfl,_,hr⟩
   exact ⟨g,rfl,hr,hb⟩
  ·rintro e w' ⟨hb,rfl⟩
   exact ⟨rfl,hb⟩
 ·simp only [if_neg hbig] at hC hR
  cases hI : itemsP (valsL l) with
  | inl b =>
   rw [hI] at hC
   simp only [hI] at hR
   refine compiles_bad w l 60 ((atsL l).getD b 0 : Int) rfl hT hE (hC.mono ?_) (fun W => (hR W).mono ?_)
   ·rintro e w' ⟨hb,g,rfl,_,hr⟩
    exact ⟨g,rfl,hr,hb⟩
   ·rintro e w' ⟨hb,rfl⟩
    exact ⟨rfl,hb⟩
  | inr its =>
   rw [hI] at hC
   simp only [hI] at hR
   obtain ⟨fo,hfo⟩ : ∃ b,foldedP (valsL l) = b:=⟨_,rfl⟩
   rw [hfo] at hC
   simp only [hfo] at hR
   have H1 : Hid (Calls Tryz.prog 14 #[.string (bstr l)] w fun e w' => ∃ g,e = .returned (.tuple #[.pointer (some ⟨g,0,none⟩),.nilIface]) ∧ PatIs w' g l fo its ∧ Below w.heap.size w w'):=Lib.hid (hC.mono (by
    rintro e w' ⟨hb,g,rfl,_,hp⟩
    exact ⟨g,rfl,hp,hb⟩))
   have H2 : Hid (∀ W,Calls Tryz.prog 15 #[.string (bstr l)] W fun e w' => ∃ a m c,e = .returned (.tuple #[.agg #[.string (bstr l),.bool fo,.slice a m c],.int .i64 0,.int .i64 0]) ∧ Below W.heap.size W w'):=Lib.hid (fun W => (hR W).mono (by
    rintro e w' ⟨hb,a,m,c,rfl,_⟩
    exact ⟨a,m,c,rfl,hb⟩))
   have HT:=Lib.hid hT
   have hll : (l == l) = true:=by simp
   clear hC hR hI hfo hbig hT hE
   go_enter Tryz.func4, Tryz.ntmps4
   go_wp2_with (first
    | (go_at_call 14; refine (H1.out).mono ?_; rintro e w1 ⟨g,rfl,hp1,hb1⟩; have HP1:=Lib.hid hp1; have HB1:=Lib.hid hb1; clear hp1 hb1)
    | (go_at_call 15; refine (H2.out _).mono ?_; rintro e w2 ⟨a,m,c,rfl,hb2⟩; have hb3 : Below w1.heap.size w1 (w2.alloc (.cells #[.string (bstr l),.bool fo,.slice a m c] 54)):=hb2.alloc hb2.size _; have HP2:=Lib.hid (HP1.out.keep hb3); have HB2:=Lib.hid (HB1.out.trans (hb3.mono HB1.out.size)); clear hb2 hb3)
    | (go_at_call 16; refine (fault_nil _).mono ?_; rintro e w3 ⟨rfl,rfl⟩)
    | (go_at_call 12; refine (textC _ g l fo its HP2.out).mono ?_; rintro e w5 ⟨rfl,rfl⟩)
    | (go_at_call 13; refine (worksC _ (HT.out.next HB2.out)).mono ?_; rintro e w4 ⟨rfl,hb4⟩; have HB4:=Lib.hid (HB2.out.trans (hb4.mono HB2.out.size)); clear hb4))
   go_ret
   exact ⟨rfl,HB4.out⟩
end Go.Proofs.YtchdeboialbdiaaGreatDoor
