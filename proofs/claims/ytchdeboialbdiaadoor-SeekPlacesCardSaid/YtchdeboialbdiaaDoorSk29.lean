/- Texts joined, one behind the other (LSeekPlaces). -/
import Derived.Test.YtchdeboialbdiaaDoorSk28
import Derived.LaidEql
import Derived.Stop.Asserts
import Derived.RowKitTokens
import Derived.Deep.RegionHeld3
/- SeekPlaces: pieces begin and end at places, rise, do not overlap; Match, Find and Last say so; answers are new memory. -/
namespace Go.Proofs.YtchdeboialbdiaaDoor
set_option linter.unusedVariables false
set_option linter.unusedSimpArgs false
open Go.RowKit Go.Shelf
open Go.Lib hiding intOf
attribute [local go_sem] Oper.semAt_some
attribute [local go_sem] Exit.noGoto
/-- only the plain way on -/
def OnlyN7 (K : Act → World → Prop) : Exit → Act → World → Prop
  | .normal, a, w => K a w
  | _, _, _ => False
theorem wpIn_only7 {F : Fence} {n : Nat} {P : Program} {c : Code} {Q : Exit → Act → World → Prop} {a : Act} {w : World} (h : c.wpIn F n P (OnlyN7 (Q .normal)) a w) : c.wpIn F n P Q a w := by
  refine wpIn_mono h ?_
  intro e a' w' hq
  cases e with
  | normal => exact hq
  | _ => exact hq.elim
theorem seq_nil7 (gf : Nat) (lb : Array Value) (w : World) : (binOp .eql 47 (.func (.func gf) #[] lb) .nilFunc).run Tryd.prog w = .ok (.bool false) w := by kernel_rfl
theorem results_cell_bool {P : Program} {fn : Func} {p : Tmp} {ty : TypeId} (h : fn.results = #[.cell p ty]) (tmps : Array Value) (w : World) (g : Nat) (b : Bool)
    (hp : tmps.getD p undef = .pointer (some ⟨g, 0, none⟩)) (hc : w.cell? ⟨g, 0, none⟩ = some (.bool b)) (hu : P.underlying ty = some .bool) : (results fn tmps).run P w = .ok (.bool b) w := by
  have hp' : tmps[p]?.getD undef = .pointer (some ⟨g, 0, none⟩) := by simpa using hp
  simp [results, h, hp', asAddr, loadVar, isAgg, hu, hc, run_underlying hu, go_sem]
/-- all that lies below is as it was, but the two boxes -/
structure PlI (w : World) (tb nb : Nat) (A : List Nat) (hi : Nat) (pre : List (Nat × Nat)) (W : World) : Prop where
  os : W.os = w.os
  tape : W.tape = w.tape
  output : W.output = w.output
  size : w.heap.size ≤ W.heap.size
  block : ∀ k, k < w.heap.size → k ≠ tb → k ≠ nb → W.heap[k]? = w.heap[k]?
  to_ : Row W tb 3 [.int .i64 ((toP A pre : Nat) : Int)]
  num : Row W nb 3 [.int .i64 (pre.length : Int)]
theorem PlI.abides {w : World} {tb nb hi : Nat} {A : List Nat} (ht : tb < w.heap.size) (hn : nb < w.heap.size) : AbidesC w.heap.size hi (PlI w tb nb A hi) := by
  intro pre B B' row h hg hm
  have ne : ∀ k, k < w.heap.size → some k ≠ row := fun k hk e => by have := (hm k e.symm).1; omega
  have hz := h.size
  exact ⟨hg.os.trans h.os, hg.tape.trans h.tape, hg.output.trans h.output, Nat.le_trans h.size hg.size, fun k hk h1 h2 => (hg.block k (by omega) (ne k hk)).trans (h.block k hk h1 h2),
    (hg.block tb (by omega) (ne tb ht)).trans h.to_, (hg.block nb (by omega) (ne nb hn)).trans h.num⟩
theorem PlI.next {w5 Wx wd : World} {tb nb hi : Nat} {A : List Nat} {pre : List (Nat × Nat)} {x : Nat × Nat} {Y : Int} {n : Nat} (h : PlI w5 tb nb A hi pre Wx) (hb : Below Wx.heap.size Wx wd) (hY : ((toP A (pre ++ [x]) : Nat) : Int) = Y) (hn : pre.length = n) (hlo : w5.heap.size ≤ hi) (hhi : hi ≤ Wx.heap.size) (ht : tb < w5.heap.size) (hnb : nb < w5.heap.size) (hne : tb ≠ nb) (o : Obj) :
    KeepsC (fun r => r < w5.heap.size ∧ r ≠ tb ∧ r ≠ nb) w5.heap.size hi Wx (((wd.setCell ⟨tb, 0, none⟩ (.int .i64 Y)).setCell ⟨nb, 0, none⟩ (.int .i64 ((n : Int) + 1))).alloc o) ∧ PlI w5 tb nb A hi (pre ++ [x]) (((wd.setCell ⟨tb, 0, none⟩ (.int .i64 Y)).setCell ⟨nb, 0, none⟩ (.int .i64 ((n : Int) + 1))).alloc o) := by
  have z0 := h.size
  have z1 := hb.size
  obtain ⟨W1, hW1⟩ : ∃ W, W = wd.setCell ⟨tb, 0, none⟩ (.int .i64 Y) := ⟨_, rfl⟩
  obtain ⟨W2, hW2⟩ : ∃ W, W = W1.setCell ⟨nb, 0, none⟩ (.int .i64 ((n : Int) + 1)) := ⟨_, rfl⟩
  have gs1 : wd.grownBy W1 (some tb) := by rw [hW1]; exact grownBy_setCell' wd tb _
  have gs2 : W1.grownBy W2 (some nb) := by rw [hW2]; exact grownBy_setCell' W1 nb _
  have gs3 : W2.grownBy (W2.alloc o) none := World.grownBy_alloc W2 o none
  have z2 := gs1.size
  have z3 := gs2.size
  have z4 := gs3.size
  have r1 : Row W1 tb 3 [.int .i64 Y] := by
    have := (h.to_.keep hb h.to_.lt).set 0 (.int .i64 Y)
    rw [hW1]
    exact this
  have r2 : Row W1 nb 3 [.int .i64 (pre.length : Int)] := by
    have := (h.num.keep hb h.num.lt).other (p := ⟨tb, 0, none⟩) hne (.int .i64 Y)
    rw [hW1]
    exact this
  have r3 : Row W2 nb 3 [.int .i64 ((n : Int) + 1)] := by
    have := r2.set 0 (.int .i64 ((n : Int) + 1))
    rw [hW2]
    exact this
  have r4 : Row W2 tb 3 [.int .i64 Y] := by
    have := r1.other (p := ⟨nb, 0, none⟩) (fun e => hne e.symm) (.int .i64 ((n : Int) + 1))
    rw [hW2]
    exact this
  rw [← hW1, ← hW2]
  refine ⟨(((KeepsC.below hb (fun r hr => by have := hr.1; omega) hhi).trans (KeepsC.grown gs1 (fun r hr => by have := hr.1; omega) (by omega) (fun r e => by cases e; exact ⟨fun h => h.2.1 rfl, .inl ht⟩))).trans (KeepsC.grown gs2 (fun r hr => by have := hr.1; omega) (by omega) (fun r e => by cases e; exact ⟨fun h => h.2.2 rfl, .inl hnb⟩))).trans (KeepsC.grown gs3 (fun r hr => by have := hr.1; omega) (by omega) (fun r e => by cases e)), ?_⟩
  refine ⟨((gs3.os.trans gs2.os).trans gs1.os).trans (hb.os.trans h.os), ((gs3.tape.trans gs2.tape).trans gs1.tape).trans (hb.tape.trans h.tape), ((gs3.output.trans gs2.output).trans gs1.output).trans (hb.output.trans h.output), by omega, fun k hk h1 h2 => ?_, ?_, ?_⟩
  · exact (gs3.block k (by omega) (fun e => by cases e)).trans ((gs2.block k (by omega) (fun e => h2 (Option.some.inj e))).trans ((gs1.block k (by omega) (fun e => h1 (Option.some.inj e))).trans ((hb.block k (by omega)).trans (h.block k hk h1 h2))))
  · rw [hY]
    exact r4.alloc o
  · rw [List.length_append, List.length_singleton, hn]
    exact r3.alloc o
theorem row_new' (w : World) (g : Nat) (xs : List Value) (t : TypeId) (h : w.heap.size = g) : Row (w.alloc (.cells xs.toArray t)) g t xs := h ▸ row_new w xs t
set_option maxHeartbeats 8000000 in
set_option maxRecDepth 100000 in
/-- a text that is no pattern: it says so -/
theorem places_bad (w : World) (l s : List UInt8) (c q : Int) (hc0 : (c == 0) = false) (hT : Tabs w) (hE : ErrT w)
    (h1 : ∀ W, Below w.heap.size w W → Calls Tryd.prog 10 #[.string (bstr l)] W fun e w' => ∃ g, e = .returned (.tuple #[.pointer none, .iface 68 (.pointer (some ⟨g, 0, none⟩))]) ∧ Row w' g 70 [.int .i64 c, .int .i64 q] ∧ Below W.heap.size W w') :
    Calls Tryd.prog 9 #[.string (bstr l), .string (bstr s)] w fun e w' => e = .returned (.bool true) ∧ Below w.heap.size w w' := by
  obtain ⟨W0, hW0⟩ : ∃ W, W = (w.alloc (.cells #[.string (bstr s)] 9)).alloc (.cells #[.bool false] 4) := ⟨_, rfl⟩
  have hb0 : Below w.heap.size w W0 := by rw [hW0]; exact ((Below.refl _ w).alloc (Nat.le_refl _) _).alloc (by simp) _
  have hz : W0.heap.size = w.heap.size + 2 := by rw [hW0]; simp
  have hrr : Row W0 (w.heap.size + 1) 4 [.bool false] := by
    rw [hW0]
    have := row_new (w.alloc (.cells #[.string (bstr s)] 9)) [.bool false] 4
    rw [World.size_alloc] at this
    exact this
  have H1 := Lib.hid (h1 W0 hb0)
  have HT := Lib.hid hT
  have HE := Lib.hid hE
  have HB0 := Lib.hid hb0
  have HRR := Lib.hid hrr
  have HW0 := Lib.hid hW0
  have HZ := Lib.hid hz
  have hc1 : (c != 0) = true := by simp only [bne, hc0]; rfl
  clear h1 hT hE hb0 hrr hW0 hz
  go_enter Tryd.func9, Tryd.ntmps9
  go_upto_region 1 with fail
  rw [← HW0.out]
  go_wp2_with (first
    | (go_at_call 10; refine (H1.out).mono ?_; rintro e w1 ⟨g, rfl, hr1, hb1⟩; have ha : Below w1.heap.size w1 (w1.alloc (.cells #[.pointer none] 24)) := (Below.refl _ w1).alloc (Nat.le_refl _) _; have HR1 := Lib.hid (hr1.keep ha hr1.lt); have hb2 := hb1.trans (ha.mono hb1.size); have HB1 := Lib.hid (HB0.out.trans (hb2.mono HB0.out.size)); have HRW := Lib.hid (HRR.out.keep hb2 HRR.out.lt); have HP1 := Lib.hid (row_new w1 [.pointer none] 24); clear ha hb1 hb2 hr1)
    | (go_at_call 30; refine (fault_is _ g c q HR1.out hc0 (HE.out.next HB1.out)).mono ?_; rintro e w3 ⟨rfl, hb3⟩; have hp3 : Row w3 w1.heap.size 24 [.pointer none] := HP1.out.keep hb3 HP1.out.lt; have p0 := hp3.cell 0; have pl := hp3.lt; have HRW := Lib.hid (HRW.out.keep hb3 HRW.out.lt); have HB3 := Lib.hid (HB1.out.trans (hb3.mono HB1.out.size)); clear hb3 hp3)
    | (go_at_call 12; refine (worksC _ (HT.out.next HB3.out)).mono ?_; rintro e w4 ⟨rfl, hb4⟩; have hr4 := HRW.out.keep hb4 HRW.out.lt; have k0 := hr4.cell 0; have kf := hr4.frozen 0; have kl := hr4.lt; have HRF := Lib.hid hr4; have HB4 := Lib.hid (HB3.out.trans (hb4.mono HB3.out.size)); clear hb4 hr4))
  have hrt := (HRF.out.set 0 (.bool true)).cell 0
  refine bodyPost_ret (results_cell_bool rfl _ _ (w.heap.size + 1) true rfl hrt Tryd.underlying4) rfl ?_
  exact ⟨rfl, HB4.out.setCell (p := ⟨w.heap.size + 1, 0, none⟩) (by show w.heap.size ≤ w.heap.size + 1; omega) _⟩
set_option maxHeartbeats 8000000 in
set_option maxRecDepth 100000 in
/-- a pattern: all its pieces are where they should be -/
theorem places_good (w : World) (l s : List UInt8) (fo : Bool) (its : List Itm) (hT : Tabs w) (hil : its.length ≤ 1000000)
    (h1 : ∀ W, Below w.heap.size w W → Calls Tryd.prog 10 #[.string (bstr l)] W fun e w' => ∃ g, e = .returned (.tuple #[.pointer (some ⟨g, 0, none⟩), .nilIface]) ∧ W.heap.size ≤ g ∧ PatFrom W.heap.size w' g l fo its ∧ Below W.heap.size W w') :
    Calls Tryd.prog 9 #[.string (bstr l), .string (bstr s)] w fun e w' => e = .returned (.bool true) ∧ Below w.heap.size w w' := by
  obtain ⟨S, hS⟩ : ∃ S, s.take 300 = S := ⟨_, rfl⟩
  have hSl : S.length ≤ 300 := by rw [← hS, List.length_take]; omega
  have hcut : ∀ W, Calls Tryd.prog 13 #[.string (bstr s), .int .i64 300] W fun e w' => e = .returned (.string (bstr S)) ∧ w' = W := fun W => by rw [← hS]; exact cutC W s 300 (by decide)
  have HCUT := Lib.hid hcut
  obtain ⟨W0, hW0⟩ : ∃ W, W = (w.alloc (.cells #[.string (bstr s)] 9)).alloc (.cells #[.bool false] 4) := ⟨_, rfl⟩
  have hb0 : Below w.heap.size w W0 := by rw [hW0]; exact ((Below.refl _ w).alloc (Nat.le_refl _) _).alloc (by simp) _
  have hz : W0.heap.size = w.heap.size + 2 := by rw [hW0]; simp
  have hrs : Row W0 w.heap.size 9 [.string (bstr s)] := by
    rw [hW0]
    exact (row_new w [.string (bstr s)] 9).alloc _
  have hrr : Row W0 (w.heap.size + 1) 4 [.bool false] := by
    rw [hW0]
    have := row_new (w.alloc (.cells #[.string (bstr s)] 9)) [.bool false] 4
    rw [World.size_alloc] at this
    exact this
  have hnil := fun lb w => seq_nil7 43 lb w
  have H1 := Lib.hid (h1 W0 hb0)
  have HT := Lib.hid hT
  have HB0 := Lib.hid hb0
  have HRR := Lib.hid hrr
  have HRS := Lib.hid hrs
  have HW0 := Lib.hid hW0
  have HZ := Lib.hid hz
  clear h1 hT hb0 hrr hrs hW0 hz hS hcut
  refine (callsIn_wide (n := 40)).1 ?_
  refine callsIn_of_wp_marks Tryd.func9 rfl trivial ?_ rfl
  simp only [Tryd.ntmps9, List.size_toArray, List.length_cons, List.length_nil, Nat.reduceAdd, Nat.reduceSub, Array.replicate_succ, Array.replicate_zero, List.push_toArray, List.append_toArray, List.nil_append, List.cons_append]
  gi_wp2_with (first
    | (refine ⟨trivial, ?_⟩; gi_at_call 10; rw [← HW0.out]; refine (callsIn_wide.2 H1.out).mono ?_; rintro e w1 ⟨g, rfl, hpg, hp1, hb1⟩; have HPG := Lib.hid hpg; have hs1 := HRS.out.keep hb1 HRS.out.lt; have s0 := hs1.cell 0; have sf := hs1.frozen 0; have sl := hs1.lt; have HP1 := Lib.hid hp1; have HB1 := Lib.hid hb1; have HS1 := Lib.hid hs1; have HR1 := Lib.hid (HRR.out.keep hb1 HRR.out.lt); have ne1 : w.heap.size ≠ w1.heap.size := Nat.ne_of_lt sl; have q0 : ((((w1.setCell ⟨w.heap.size, 0, none⟩ (.string (bstr S))).alloc (.cells #[.pointer (some ⟨g, 0, none⟩)] 24)).alloc (.cells #[.int .i64 0] 3)).alloc (.cells #[.int .i64 0] 3)).cell? ⟨w.heap.size, 0, none⟩ = some (.string (bstr S)) := ((((hs1.set 0 (.string (bstr S))).alloc _).alloc _).alloc _).cell 0; have q1 : ((((w1.setCell ⟨w.heap.size, 0, none⟩ (.string (bstr S))).alloc (.cells #[.pointer (some ⟨g, 0, none⟩)] 24)).alloc (.cells #[.int .i64 0] 3)).alloc (.cells #[.int .i64 0] 3)).cell? ⟨w1.heap.size, 0, none⟩ = some (.pointer (some ⟨g, 0, none⟩)) := (((row_new' (w1.setCell ⟨w.heap.size, 0, none⟩ (.string (bstr S))) w1.heap.size [.pointer (some ⟨g, 0, none⟩)] 24 (by simp)).alloc _).alloc _).cell 0; have HPW : Hid (Row ((((w1.setCell ⟨w.heap.size, 0, none⟩ (.string (bstr S))).alloc (.cells #[.pointer (some ⟨g, 0, none⟩)] 24)).alloc (.cells #[.int .i64 0] 3)).alloc (.cells #[.int .i64 0] 3)) w.heap.size 9 [.string (bstr S)] ∧ Row ((((w1.setCell ⟨w.heap.size, 0, none⟩ (.string (bstr S))).alloc (.cells #[.pointer (some ⟨g, 0, none⟩)] 24)).alloc (.cells #[.int .i64 0] 3)).alloc (.cells #[.int .i64 0] 3)) (w.heap.size + 1) 4 [.bool false] ∧ Row ((((w1.setCell ⟨w.heap.size, 0, none⟩ (.string (bstr S))).alloc (.cells #[.pointer (some ⟨g, 0, none⟩)] 24)).alloc (.cells #[.int .i64 0] 3)).alloc (.cells #[.int .i64 0] 3)) w1.heap.size 24 [.pointer (some ⟨g, 0, none⟩)] ∧ Row ((((w1.setCell ⟨w.heap.size, 0, none⟩ (.string (bstr S))).alloc (.cells #[.pointer (some ⟨g, 0, none⟩)] 24)).alloc (.cells #[.int .i64 0] 3)).alloc (.cells #[.int .i64 0] 3)) (w1.heap.size + 1) 3 [.int .i64 0] ∧ Row ((((w1.setCell ⟨w.heap.size, 0, none⟩ (.string (bstr S))).alloc (.cells #[.pointer (some ⟨g, 0, none⟩)] 24)).alloc (.cells #[.int .i64 0] 3)).alloc (.cells #[.int .i64 0] 3)) (w1.heap.size + 2) 3 [.int .i64 0]) := Lib.hid ⟨(((hs1.set 0 (.string (bstr S))).alloc _).alloc _).alloc _, ((((HR1.out.other (p := ⟨w.heap.size, 0, none⟩) (by show w.heap.size ≠ w.heap.size + 1; omega) _).alloc _).alloc _).alloc _), ((row_new' (w1.setCell ⟨w.heap.size, 0, none⟩ (.string (bstr S))) w1.heap.size [.pointer (some ⟨g, 0, none⟩)] 24 (by simp)).alloc _).alloc _, (row_new' ((w1.setCell ⟨w.heap.size, 0, none⟩ (.string (bstr S))).alloc (.cells #[.pointer (some ⟨g, 0, none⟩)] 24)) (w1.heap.size + 1) [.int .i64 0] 3 (by simp)).alloc _, row_new' _ (w1.heap.size + 2) [.int .i64 0] 3 (by simp)⟩; clear hp1 hb1 hs1 hpg)
    | (refine ⟨trivial, ?_⟩; gi_at_call 13; refine (callsIn_wide.2 (HCUT.out _)).mono ?_; rintro e w3 ⟨rfl, hw3⟩; obtain rfl := hw3.symm))
  refine ⟨trivial, ?_⟩
  refine (callsIn_wide.2 (allPC _ _ _)).mono ?_
  rintro e w5 ⟨rfl, hw5⟩
  have HW5 := Lib.hid hw5
  have v0 : w5.cell? ⟨w1.heap.size, 0, none⟩ = some (.pointer (some ⟨g, 0, none⟩)) := by
    rw [← hw5]
    exact ((HPW.out.2.2.1.alloc _).alloc _).cell 0
  have v1 : w1.heap.size < w5.heap.size := by
    rw [← hw5]
    simp
    omega
  have z5 : w5.heap.size = w1.heap.size + 1 + 1 + 1 + 1 + 1 := by rw [← hw5]; simp
  have yp : Row w5 (w1.heap.size + 1 + 1 + 1) 24 [.pointer (some ⟨g, 0, none⟩)] := by
    rw [← hw5]
    exact (row_new' _ (w1.heap.size + 1 + 1 + 1) [.pointer (some ⟨g, 0, none⟩)] 24 (by simp)).alloc _
  have ys : Row w5 (w1.heap.size + 1 + 1 + 1 + 1) 9 [.string (bstr S)] := by
    rw [← hw5]
    exact row_new' _ (w1.heap.size + 1 + 1 + 1 + 1) [.string (bstr S)] 9 (by simp)
  have rs5 : Row w5 w.heap.size 9 [.string (bstr S)] := by rw [← hw5]; exact (HPW.out.1.alloc _).alloc _
  have rr5 : Row w5 (w.heap.size + 1) 4 [.bool false] := by rw [← hw5]; exact (HPW.out.2.1.alloc _).alloc _
  have rp5 : Row w5 w1.heap.size 24 [.pointer (some ⟨g, 0, none⟩)] := by rw [← hw5]; exact (HPW.out.2.2.1.alloc _).alloc _
  have rt5 : Row w5 (w1.heap.size + 1) 3 [.int .i64 0] := by rw [← hw5]; exact (HPW.out.2.2.2.1.alloc _).alloc _
  have rn5 : Row w5 (w1.heap.size + 1 + 1) 3 [.int .i64 0] := by rw [← hw5]; exact (HPW.out.2.2.2.2.alloc _).alloc _
  have hw0s : w.heap.size + 2 ≤ w1.heap.size := by have := HB1.out.size; have h2 := HZ.out; omega
  have bS : Below w.heap.size w (w1.setCell ⟨w.heap.size, 0, none⟩ (.string (bstr S))) := (HB0.out.trans (HB1.out.mono HB0.out.size)).setCell (p := ⟨w.heap.size, 0, none⟩) (Nat.le_refl _) _
  have bS5 : Below w1.heap.size (w1.setCell ⟨w.heap.size, 0, none⟩ (.string (bstr S))) w5 := by
    have hz : (w1.setCell ⟨w.heap.size, 0, none⟩ (.string (bstr S))).heap.size = w1.heap.size := by simp
    have h0 := Below.refl w1.heap.size (w1.setCell ⟨w.heap.size, 0, none⟩ (.string (bstr S)))
    rw [← hw5]
    exact ((((h0.alloc (by rw [hz]; exact Nat.le_refl _) _).alloc (by simp) _).alloc (by simp; omega) _).alloc (by simp; omega) _).alloc (by simp; omega) _
  have b05 : Below w.heap.size w w5 := bS.trans (bS5.mono (by omega))
  have hzS : (w1.setCell ⟨w.heap.size, 0, none⟩ (.string (bstr S))).heap.size = w1.heap.size := by simp
  have hpatS : PatIs (w1.setCell ⟨w.heap.size, 0, none⟩ (.string (bstr S))) g l fo its := (HP1.out.grown 0 (.string (bstr S)) (by rw [HZ.out]; omega) (by have h1 := HPG.out; have h2 := HZ.out; omega)).is
  have hpat : PatIs w5 g l fo its := hpatS.keep (by rw [hzS]; exact bS5)
  have hT5 := HT.out.next b05
  clear hw5
  gi_wp2
  obtain ⟨y, hy⟩ : ∃ y, y = w1.heap.size := ⟨_, rfl⟩
  have hal : ∀ W, Below w5.heap.size w5 W → AlW (y + 1 + 1 + 1) (y + 1 + 1 + 1 + 1) g l fo its S W := fun W hb => by rw [hy]; exact ⟨hpat.keep hb, yp.keep hb yp.lt, ys.keep hb ys.lt, hT5.next hb⟩
  rw [← hy] at z5 yp ys rp5 rt5 rn5 hw0s ⊢
  have hrest : ∀ W, (∀ r, r < w5.heap.size → r ≠ y + 1 → r ≠ y + 1 + 1 → W.heap[r]? = w5.heap[r]?) → w5.heap.size ≤ W.heap.size → PatIs W g l fo its ∧ Tabs W := fun W h1 h2 => by
    have hq := PatIs.rows (W := W) hpatS (fun r hr => (h1 r (by rw [z5]; rw [hzS] at hr; omega) (by rw [hzS] at hr; omega) (by rw [hzS] at hr; omega)).trans (bS5.block r (by rw [hzS] at hr; exact hr))) (by rw [hzS]; omega)
    exact ⟨hq, hT5.rows (fun r hr => h1 r (by have := hT5.size; omega) (by have := HT.out.size; omega) (by have := HT.out.size; omega)) h2⟩
  have hst : Stays (fun r => r < w5.heap.size ∧ r ≠ y + 1 ∧ r ≠ y + 1 + 1) w5 (AlW (y + 1 + 1 + 1) (y + 1 + 1 + 1 + 1) g l fo its S) := fun W h1 h2 => by
    obtain ⟨h3, h4⟩ := hrest W (fun r hr ha hb => h1 r ⟨hr, ha, hb⟩) h2
    exact ⟨h3, row_rows yp (h1 _ ⟨by omega, by omega, by omega⟩), row_rows ys (h1 _ ⟨by omega, by omega, by omega⟩), h4⟩
  have hsq := fun m hm => allS1 m hm (fun r => r < w5.heap.size ∧ r ≠ y + 1 ∧ r ≠ y + 1 + 1) w5 (y + 1 + 1 + 1) (y + 1 + 1 + 1 + 1) g l S fo its hst (by omega) (by omega)
  have hll : (allP fo S its).length ≤ 301 := by
    have h1 := allGo_len fo (valsL S) its (valsL S).length ((valsL S).length + 1) 0
    have h2 := vals_len S
    unfold allP
    omega
  obtain ⟨A, hA⟩ : ∃ A, atsL S = A := ⟨_, rfl⟩
  obtain ⟨L, hL⟩ : ∃ L, allP fo S its = L := ⟨_, rfl⟩
  have HST := Lib.hid (fun (pre : List (Nat × Nat)) (x : Nat × Nat) (h : pre ++ [x] <+: L) => by have h1 := plc_step (fo := fo) (l := S) (its := its) (pre := pre) (x := x) (by rw [hL]; exact h); rw [hA] at h1; exact h1)
  have hle : ∀ a, a ∈ A → a ≤ 300 := fun a ha => by rw [← hA] at ha; have := ats_le ha; omega
  rw [hL] at hll hsq
  rw [hA] at hsq
  have HSQ := Lib.hid hsq
  have HREST := Lib.hid hrest
  have HB05 := Lib.hid b05
  have HLE := Lib.hid hle
  have HAA := Lib.hid hA
  have HLL := Lib.hid hL
  have HRS5 := Lib.hid rs5
  have HRR5 := Lib.hid rr5
  have HRP5 := Lib.hid rp5
  have HRT5 := Lib.hid rt5
  have HRN5 := Lib.hid rn5
  have HZ5 := Lib.hid z5
  have HHE := Lib.hid (enters_of Tryd.func43 (by kernel_rfl) rfl)
  have HY := Lib.hid hy
  clear hsq hst hrest hal hle hA hL rs5 rr5 rp5 rt5 rn5 yp ys hpat hpatS hT5 bS bS5 b05 hzS v0 v1 q0 q1 s0 sf sl ne1 hnil hy
  refine wpIn_rangeFunc_A rfl (by decide) (gf := 43) (lb := #[.pointer (some ⟨y + 1 + 1 + 1, 0, none⟩), .pointer (some ⟨y + 1 + 1 + 1 + 1, 0, none⟩)]) rfl trivial HHE.out (HSQ.out 39 (by decide)) (fun r hr => ⟨hr.1, rfl⟩) (Nat.le_refl _) (fun _ => rfl)
    (fun hi pre Wx => PlI w5 (y + 1) (y + 1 + 1) A hi pre Wx) (fun c hi pre Wx => False) ?hI ?hIx ?h0 (fun x => .cells #[.int .i64 ((A.getD x.1 0 : Nat) : Int), .int .i64 ((A.getD x.2 0 : Nat) : Int)] 40 (0, 0))
    (fun x g' => { tmps := #[.string (bstr l), .string (bstr s), undef, .pointer (some ⟨w.heap.size, 0, none⟩), .pointer (some ⟨w.heap.size + 1, 0, none⟩), .pointer (some ⟨y, 0, none⟩), .nilIface, undef, undef, undef, .pointer (some ⟨y + 1, 0, none⟩), .pointer (some ⟨y + 1 + 1, 0, none⟩), .func (.func 43) #[] #[.pointer (some ⟨y + 1 + 1 + 1, 0, none⟩), .pointer (some ⟨y + 1 + 1 + 1 + 1, 0, none⟩)], .pointer (some ⟨g', 0, none⟩), undef, undef, undef, undef, undef, undef, undef, undef, undef, undef, undef, .tuple #[.pointer (some ⟨g, 0, none⟩), .nilIface], .string (bstr l), .tuple #[.pointer (some ⟨g, 0, none⟩), .nilIface], .pointer (some ⟨g, 0, none⟩), .nilIface, .nilIface, .bool false, undef, undef, undef, undef, undef, undef, undef, undef, undef, undef, undef, undef, undef, undef, .string (bstr s), .string (bstr S), .pointer (some ⟨g, 0, none⟩), .string (bstr S), .func (.func 43) #[] #[.pointer (some ⟨y + 1 + 1 + 1, 0, none⟩), .pointer (some ⟨y + 1 + 1 + 1 + 1, 0, none⟩)], .pointer (some ⟨g, 0, none⟩), .bool false, .bool false, .func (.func 43) #[] #[.pointer (some ⟨y + 1 + 1 + 1, 0, none⟩), .pointer (some ⟨y + 1 + 1 + 1 + 1, 0, none⟩)], .bool false, .bool false, .func (.func 43) #[] #[.pointer (some ⟨y + 1 + 1 + 1, 0, none⟩), .pointer (some ⟨y + 1 + 1 + 1 + 1, 0, none⟩)], .agg #[.int .i64 ((A.getD x.1 0 : Nat) : Int), .int .i64 ((A.getD x.2 0 : Nat) : Int)], undef, undef, undef, undef, undef, undef, undef, undef, undef, undef, undef, undef, undef, undef, undef, undef, undef, undef, undef, undef, undef, undef, undef, undef, undef, undef, undef, undef, undef, undef, undef, undef, undef, undef, undef, undef, undef, undef, undef, undef, undef, undef, undef, undef, undef, undef, undef, undef, undef, undef, undef, undef, undef, undef, undef, undef, undef, undef, undef, undef, undef, undef, undef, undef, undef, undef, undef, undef, undef, undef, undef, undef, undef, undef, undef, undef, undef, undef, undef, undef, undef, undef, undef, undef, undef, undef, undef, undef, undef, undef, undef, undef, undef, undef, undef, undef, undef, undef, undef, undef, undef, undef, undef, undef, undef, undef, undef, undef, undef, undef, undef, undef, undef, undef, undef, undef, undef, undef, undef, undef, undef, undef, undef, undef, undef, undef, undef, undef, undef, undef, undef, undef, undef], defers := [] }) ?assign ?body ?done ?stop
  case assign =>
    intro l' x Wx Kc hK
    obtain ⟨xa, xb⟩ := x
    unfold pieceA
    dsimp only at hK ⊢
    generalize ((A.getD xa 0 : Nat) : Int) = X at hK ⊢
    generalize ((A.getD xb 0 : Nat) : Int) = Y at hK ⊢
    gi_wp2
    exact hK
  case hI => exact fun hi => PlI.abides (by rw [HZ5.out]; omega) (by rw [HZ5.out]; omega)
  case hIx => exact fun c hi pre B B' row h => h.elim
  case h0 => exact fun hi hh => ⟨rfl, rfl, rfl, Nat.le_refl _, fun _ _ _ _ => rfl, HRT5.out, HRN5.out⟩
  case stop => exact fun D hi c pre W _ _ _ h => h.elim
  case body =>
    rintro l' hi g' pre x Wx hhi1 hhi2 hob hpx h1
    obtain ⟨xa, xb⟩ := x
    dsimp only at hob ⊢
    obtain ⟨m1, m2, m3, m4, m5, fa, fb, m6, m7, m8⟩ := HST.out pre (xa, xb) hpx
    dsimp only at m1 m2 m3 m4 m5 m6 m7 m8
    have hpl : pre.length + 1 ≤ 301 := by have := (show pre ++ [(xa, xb)] <+: L from hpx).length_le; rw [List.length_append, List.length_singleton] at this; omega
    have hto' : toP A (pre ++ [(xa, xb)]) = A.getD xb 0 := toP_snoc A pre (xa, xb)
    have hlx := HLE.out _ m4
    have hly := HLE.out _ m5
    have hrow : Row Wx g' 40 [.int .i64 ((A.getD xa 0 : Nat) : Int), .int .i64 ((A.getD xb 0 : Nat) : Int)] := hob
    have HSX := Lib.hid (HREST.out Wx (fun r hr ha hb => h1.block r hr ha hb) h1.size)
    have hsx : Row Wx w.heap.size 9 [.string (bstr S)] := row_rows HRS5.out (h1.block _ (by have := HRS5.out.lt; exact this) (by omega) (by omega))
    have hpx2 : Row Wx y 24 [.pointer (some ⟨g, 0, none⟩)] := row_rows HRP5.out (h1.block _ (by rw [HZ5.out]; omega) (by omega) (by omega))
    obtain ⟨n, hn⟩ : ∃ n, pre.length = n := ⟨_, rfl⟩
    obtain ⟨tq, hto⟩ : ∃ t : Int, ((toP A pre : Nat) : Int) = t := ⟨_, rfl⟩
    obtain ⟨X, hX⟩ : ∃ X : Int, ((A.getD xa 0 : Nat) : Int) = X := ⟨_, rfl⟩
    obtain ⟨Y, hY⟩ : ∃ Y : Int, ((A.getD xb 0 : Nat) : Int) = Y := ⟨_, rfl⟩
    obtain ⟨F, hF⟩ : ∃ F : Int, ((A.getD fa 0 : Nat) : Int) = F := ⟨_, rfl⟩
    obtain ⟨G, hG⟩ : ∃ G : Int, ((A.getD fb 0 : Nat) : Int) = G := ⟨_, rfl⟩
    have hrt := h1.to_
    have hrn := h1.num
    rw [hX, hY] at hrow
    rw [hto] at hrt
    rw [hn] at hrn hpl
    have k1 : ¬ X < tq := by omega
    have k2 : ¬ Y < X := by omega
    have k3 : ¬ X < F := by omega
    have k4 : Y ≤ 300 := by omega
    have k5 : 0 ≤ Y := by omega
    have kyy : (Y != Y) = false := by simp
    have HGX : Hid (g' < Wx.heap.size) := Lib.hid hrow.lt
    have HFC : Hid (∀ W, Below Wx.heap.size Wx W → W.cell? ⟨w.heap.size, 0, none⟩ = some (.string (bstr S)) ∧ W.cell? ⟨y, 0, none⟩ = some (.pointer (some ⟨g, 0, none⟩)) ∧ W.cell? ⟨g', 0, none⟩ = some (.int .i64 X) ∧ W.cell? ⟨g', 1, none⟩ = some (.int .i64 Y) ∧ W.cell? ⟨y + 1, 0, none⟩ = some (.int .i64 tq) ∧ W.frozen? ⟨y + 1, 0, none⟩ = false ∧ W.cell? ⟨y + 1 + 1, 0, none⟩ = some (.int .i64 (n : Int)) ∧ W.frozen? ⟨y + 1 + 1, 0, none⟩ = false ∧ w.heap.size < W.heap.size ∧ y < W.heap.size ∧ g' < W.heap.size ∧ y + 1 < W.heap.size ∧ y + 1 + 1 < W.heap.size) := Lib.hid (fun W hb => ⟨(hsx.keep hb hsx.lt).cell 0, (hpx2.keep hb hpx2.lt).cell 0, (hrow.keep hb hrow.lt).cell 0, (hrow.keep hb hrow.lt).cell 1, (hrt.keep hb hrt.lt).cell 0, (hrt.keep hb hrt.lt).frozen 0, (hrn.keep hb hrn.lt).cell 0, (hrn.keep hb hrn.lt).frozen 0, (hsx.keep hb hsx.lt).lt, (hpx2.keep hb hpx2.lt).lt, (hrow.keep hb hrow.lt).lt, (hrt.keep hb hrt.lt).lt, (hrn.keep hb hrn.lt).lt⟩)
    have HMC : Hid (Calls Tryd.prog 14 #[.pointer (some ⟨g, 0, none⟩), .string (bstr S), .int .i64 X] Wx fun e w' => e = .returned (.tuple #[.int .i64 Y, .bool true]) ∧ Below Wx.heap.size Wx w') := Lib.hid (by
      have := matchPC Wx g l S fo its X HSX.out.1 (by omega) (by omega) HSX.out.2
      rw [← hX, m1] at this
      unfold placeV at this
      dsimp only at this
      rw [hX, hY] at this
      exact this)
    have HBX : Hid (∀ W, Calls Tryd.prog 33 #[.string (bstr S), .int .i64 X] W fun e w' => e = .returned (.bool true) ∧ Below W.heap.size W w') := Lib.hid (fun W => by have := beginsU W S X (by omega); rw [show placeB S X = true from (by unfold placeB; rw [decide_eq_true_iff]; exact ⟨_, by rw [HAA.out]; exact m4, hX⟩)] at this; exact this)
    have HBY : Hid (∀ W, Calls Tryd.prog 33 #[.string (bstr S), .int .i64 Y] W fun e w' => e = .returned (.bool true) ∧ Below W.heap.size W w') := Lib.hid (fun W => by have := beginsU W S Y (by omega); rw [show placeB S Y = true from (by unfold placeB; rw [decide_eq_true_iff]; exact ⟨_, by rw [HAA.out]; exact m5, hY⟩)] at this; exact this)
    have HFD : Hid (∀ W, Below Wx.heap.size Wx W → Calls Tryd.prog 16 #[.pointer (some ⟨g, 0, none⟩), .string (bstr S), .int .i64 tq] W fun e w' => e = .returned (.tuple #[.agg #[.int .i64 F, .int .i64 G], .bool true]) ∧ Below W.heap.size W w') := Lib.hid (fun W hb => by
      have := findC W g l S fo its tq (HSX.out.1.keep hb) (by omega) (by omega) (HSX.out.2.next hb)
      rw [← hto, m6] at this
      unfold pieceV at this
      dsimp only at this
      rw [HAA.out, hF, hG, hto] at this
      exact this)
    have H1 := Lib.hid h1
    have HTO := Lib.hid hto'
    have HN := Lib.hid hn
    have HY2 := Lib.hid hY
    have HGH : Hid (hi ≤ g') := Lib.hid hhi2
    have HHI : Hid (w5.heap.size + 2 ≤ hi) := Lib.hid hhi1
    have hcs : (n = 0 ∧ F = X ∧ G = Y) ∨ n ≠ 0 := by
      by_cases h : n = 0
      · left
        obtain ⟨e1, e2⟩ := Prod.mk.inj (m8 (List.eq_nil_of_length_eq_zero (by omega)))
        subst e1 e2
        exact ⟨h, hF.symm.trans hX, hG.symm.trans hY⟩
      · exact .inr h
    clear hob hpx h1 m1 m2 m3 m4 m5 m6 m7 m8 hlx hly hrow hsx hpx2 hn hto hto' hX hY hF hG hrt hrn hhi1 hhi2
    obtain ⟨a0, a1, a2, a3, a4, a5, a6, a7, a8, a9, a10, a11, a12⟩ := HFC.out Wx (Below.refl _ _)
    rcases hcs with ⟨rfl, rfl, rfl⟩ | hn0
    · have kxx : (F != F) = false := by simp
      have kn : (((0 : Nat) : Int) == 0) = true := by simp
      gi_wp2_with (first
        | (refine ⟨trivial, ?_⟩; gi_at_call 14; refine (CallsIn.inRound l' (callsIn_wide.2 HMC.out)).mono ?_; rintro e wa ⟨rfl, hb⟩; obtain ⟨b0, b1, b2, b3, b4, b5, b6, b7, b8, b9, b10, b11, b12⟩ := HFC.out wa hb; have Ba := Lib.hid hb; clear hb)
        | (refine ⟨trivial, ?_⟩; gi_at_call 33; (with_reducible refine (CallsIn.inRound l' (callsIn_wide.2 (HBX.out wa))).mono ?_); rintro e wb ⟨rfl, hb⟩; have Bb := Lib.hid (Ba.out.trans (hb.mono Ba.out.size)); obtain ⟨c0, c1, c2, c3, c4, c5, c6, c7, c8, c9, c10, c11, c12⟩ := HFC.out wb Bb.out; clear hb)
        | (refine ⟨trivial, ?_⟩; gi_at_call 33; (with_reducible refine (CallsIn.inRound l' (callsIn_wide.2 (HBY.out wb))).mono ?_); rintro e wc ⟨rfl, hb⟩; have Bc := Lib.hid (Bb.out.trans (hb.mono Bb.out.size)); obtain ⟨d0, d1, d2, d3, d4, d5, d6, d7, d8, d9, d10, d11, d12⟩ := HFC.out wc Bc.out; clear hb)
        | (refine ⟨trivial, ?_⟩; gi_at_call 16; refine (CallsIn.inRound l' (callsIn_wide.2 (HFD.out wc Bc.out))).mono ?_; rintro e wd ⟨rfl, hb⟩; have Bd := Lib.hid (Bc.out.trans (hb.mono Bc.out.size)); obtain ⟨e0, e1, e2, e3, e4, e5, e6, e7, e8, e9, e10, e11, e12⟩ := HFC.out (wd.alloc (.cells #[.int .i64 F, .int .i64 G] 40)) (Bd.out.alloc Bd.out.size _); obtain ⟨_, _, _, _, _, _, _, _, f8, f9, f10, f11, f12⟩ := HFC.out wd Bd.out; clear hb))
      exact PlI.next (x := (xa, xb)) H1.out Bd.out (by rw [HTO.out]; exact HY2.out) HN.out (by have := HHI.out; omega) (by have h1 := HGH.out; have h2 := HGX.out; omega) (by rw [HZ5.out]; omega) (by rw [HZ5.out]; omega) (by omega) _
    · have kn : ((n : Int) == 0) = false := by rw [beq_eq_false_iff_ne]; omega
      gi_wp2_with (first
        | (refine ⟨trivial, ?_⟩; gi_at_call 14; refine (CallsIn.inRound l' (callsIn_wide.2 HMC.out)).mono ?_; rintro e wa ⟨rfl, hb⟩; obtain ⟨b0, b1, b2, b3, b4, b5, b6, b7, b8, b9, b10, b11, b12⟩ := HFC.out wa hb; have Ba := Lib.hid hb; clear hb)
        | (refine ⟨trivial, ?_⟩; gi_at_call 33; (with_reducible refine (CallsIn.inRound l' (callsIn_wide.2 (HBX.out wa))).mono ?_); rintro e wb ⟨rfl, hb⟩; have Bb := Lib.hid (Ba.out.trans (hb.mono Ba.out.size)); obtain ⟨c0, c1, c2, c3, c4, c5, c6, c7, c8, c9, c10, c11, c12⟩ := HFC.out wb Bb.out; clear hb)
        | (refine ⟨trivial, ?_⟩; gi_at_call 33; (with_reducible refine (CallsIn.inRound l' (callsIn_wide.2 (HBY.out wb))).mono ?_); rintro e wc ⟨rfl, hb⟩; have Bc := Lib.hid (Bb.out.trans (hb.mono Bb.out.size)); obtain ⟨d0, d1, d2, d3, d4, d5, d6, d7, d8, d9, d10, d11, d12⟩ := HFC.out wc Bc.out; clear hb)
        | (refine ⟨trivial, ?_⟩; gi_at_call 16; refine (CallsIn.inRound l' (callsIn_wide.2 (HFD.out wc Bc.out))).mono ?_; rintro e wd ⟨rfl, hb⟩; have Bd := Lib.hid (Bc.out.trans (hb.mono Bc.out.size)); obtain ⟨e0, e1, e2, e3, e4, e5, e6, e7, e8, e9, e10, e11, e12⟩ := HFC.out (wd.alloc (.cells #[.int .i64 F, .int .i64 G] 40)) (Bd.out.alloc Bd.out.size _); obtain ⟨_, _, _, _, _, _, _, _, f8, f9, f10, f11, f12⟩ := HFC.out wd Bd.out; clear hb))
      exact PlI.next (x := (xa, xb)) H1.out Bd.out (by rw [HTO.out]; exact HY2.out) HN.out (by have := HHI.out; omega) (by have h1 := HGH.out; have h2 := HGX.out; omega) (by rw [HZ5.out]; omega) (by rw [HZ5.out]; omega) (by omega) _
  case done =>
    rintro D hi xs Wx hD hDh hxs h1 hd
    obtain rfl : L = xs := (show xs = L from hxs).symm
    obtain ⟨pX, tX⟩ := HREST.out Wx (fun r hr ha hb => h1.block r hr ha hb) h1.size
    have hsx : Row Wx w.heap.size 9 [.string (bstr S)] := row_rows HRS5.out (h1.block _ (by have := HRS5.out.lt; exact this) (by omega) (by omega))
    have hrx : Row Wx (w.heap.size + 1) 4 [.bool false] := row_rows HRR5.out (h1.block _ (by have := HRR5.out.lt; exact this) (by omega) (by omega))
    have hpx : Row Wx y 24 [.pointer (some ⟨g, 0, none⟩)] := row_rows HRP5.out (h1.block _ (by rw [HZ5.out]; omega) (by omega) (by omega))
    have hrn := h1.num
    have b5x : Below w.heap.size w5 Wx := ⟨h1.os, h1.tape, h1.output, h1.size, fun k hk => h1.block k (by have := HB05.out.size; omega) (by omega) (by omega)⟩
    have HBX := Lib.hid (HB05.out.trans b5x)
    obtain ⟨n, hn⟩ : ∃ n, L.length = n := ⟨_, rfl⟩
    rw [hn] at hrn hll
    have HFC : Hid (∀ W, Below Wx.heap.size Wx W → W.cell? ⟨w.heap.size, 0, none⟩ = some (.string (bstr S)) ∧ W.cell? ⟨y, 0, none⟩ = some (.pointer (some ⟨g, 0, none⟩)) ∧ W.cell? ⟨y + 1 + 1, 0, none⟩ = some (.int .i64 (n : Int)) ∧ W.cell? ⟨w.heap.size + 1, 0, none⟩ = some (.bool false) ∧ W.frozen? ⟨w.heap.size + 1, 0, none⟩ = false ∧ w.heap.size < W.heap.size ∧ y < W.heap.size ∧ y + 1 + 1 < W.heap.size ∧ w.heap.size + 1 < W.heap.size) := Lib.hid (fun W hb => ⟨(hsx.keep hb hsx.lt).cell 0, (hpx.keep hb hpx.lt).cell 0, (hrn.keep hb hrn.lt).cell 0, (hrx.keep hb hrx.lt).cell 0, (hrx.keep hb hrx.lt).frozen 0, (hsx.keep hb hsx.lt).lt, (hpx.keep hb hpx.lt).lt, (hrn.keep hb hrn.lt).lt, (hrx.keep hb hrx.lt).lt⟩)
    have HRX := Lib.hid hrx
    have HPT : Hid (∀ W, Below Wx.heap.size Wx W → PatIs W g l fo its ∧ Tabs W) := Lib.hid (fun W hb => ⟨pX.keep hb, tX.next hb⟩)
    have HFI : Hid (∀ W, Below Wx.heap.size Wx W → Calls Tryd.prog 16 #[.pointer (some ⟨g, 0, none⟩), .string (bstr S), .int .i64 0] W fun e w' => e = .returned (pieceV A (findP fo S its 0)) ∧ Below W.heap.size W w') := Lib.hid (fun W hb => by have := findC W g l S fo its 0 (HPT.out W hb).1 (by omega) (by omega) (HPT.out W hb).2; rw [HAA.out] at this; exact this)
    have HLA : Hid (∀ W, Below Wx.heap.size Wx W → Calls Tryd.prog 18 #[.pointer (some ⟨g, 0, none⟩), .string (bstr S), .int .i64 (S.length : Int)] W fun e w' => e = .returned (pieceV A (lastP fo S its (S.length : Int))) ∧ Below W.heap.size W w') := Lib.hid (fun W hb => by have := lastC W g l S fo its (S.length : Int) (HPT.out W hb).1 (by omega) (by omega) (HPT.out W hb).2; rw [HAA.out] at this; exact this)
    have HMA : Hid (∀ W, Below Wx.heap.size Wx W → ∀ z : Int, Calls Tryd.prog 14 #[.pointer (some ⟨g, 0, none⟩), .string (bstr S), .int .i64 z] W fun e w' => e = .returned (placeV (matchP fo S its z)) ∧ Below W.heap.size W w') := Lib.hid (fun W hb z => matchPC W g l S fo its z (HPT.out W hb).1 (by omega) (by omega) (HPT.out W hb).2)
    have HWK : Hid (∀ W, Below Wx.heap.size Wx W → Calls Tryd.prog 12 #[] W fun e w' => e = .returned (.bool true) ∧ Below W.heap.size W w') := Lib.hid (fun W hb => worksC W (HPT.out W hb).2)
    have HD := Lib.hid hd
    have HDD : Hid (w5.heap.size ≤ D) := Lib.hid hD
    obtain ⟨N, hN⟩ : ∃ N, S.length = N := ⟨_, rfl⟩
    have hsz : (bstr S).size = N := by rw [bstr_size, hN]
    have HN := Lib.hid hN
    rw [hN] at HLA hSl
    clear hN pX tX hsx hrx hpx hrn b5x h1 hd hD hDh hxs
    obtain ⟨a0, a1, a2, a3, a4, a5, a6, a7, a8⟩ := HFC.out Wx (Below.refl _ _)
    cases L with
    | nil =>
      obtain ⟨p1, p2⟩ := plc_none HLL.out
      obtain rfl : n = 0 := hn.symm
      have HF1 := Lib.hid (HFI.out Wx (Below.refl _ _))
      rw [p1] at HF1
      have hl1 := HLA.out
      rw [HN.out] at p2
      rw [p2] at hl1
      unfold pieceV at HF1 hl1
      dsimp only at HF1 hl1
      have HL1 := Lib.hid hl1
      clear hl1 p1 p2
      gi_wp2_with (first
        | (refine ⟨trivial, ?_⟩; gi_at_call 16; refine (callsIn_wide.2 HF1.out).mono ?_; rintro e wa ⟨rfl, hb⟩; have Ba := Lib.hid (hb.alloc hb.size (.cells #[.int .i64 0, .int .i64 0] 40)); have Ra := Lib.hid (row_new wa [.int .i64 0, .int .i64 0] 40); obtain ⟨b0, b1, b2, b3, b4, b5, b6, b7, b8⟩ := HFC.out (wa.alloc (.cells #[.int .i64 0, .int .i64 0] 40)) Ba.out; obtain ⟨_, _, _, _, _, bb5, bb6, bb7, bb8⟩ := HFC.out wa hb; clear hb)
        | (refine ⟨trivial, ?_⟩; gi_at_call 18; refine (callsIn_wide.2 (HL1.out (wa.alloc (.cells #[.int .i64 0, .int .i64 0] 40)) Ba.out)).mono ?_; rintro e wb ⟨rfl, hb⟩; have hb2 := Ba.out.trans (hb.mono Ba.out.size); have Bb := Lib.hid (hb2.alloc hb2.size (.cells #[.int .i64 0, .int .i64 0] 40)); have rb := (show Row (wb.alloc (.cells #[.int .i64 0, .int .i64 0] 40)) wa.heap.size 40 [.int .i64 0, .int .i64 0] from (Ra.out.keep hb Ra.out.lt).alloc _); have x0 := rb.cell 0; have x1 := rb.cell 1; have x2 := (Ra.out.keep hb Ra.out.lt).lt; obtain ⟨c0, c1, c2, c3, c4, c5, c6, c7, c8⟩ := HFC.out (wb.alloc (.cells #[.int .i64 0, .int .i64 0] 40)) Bb.out; obtain ⟨_, _, _, _, _, cc5, cc6, cc7, cc8⟩ := HFC.out wb hb2; clear hb hb2 rb)
        | ((with_reducible show wpListIn _ _ _ _ _ (Oper.mk (some 166) _ _ _ _ _ :: _) _ _); go_must (refine wpListIn_skip (by kernel_rfl) (by kernel_rfl) ?_))
        | ((with_reducible show wpListIn _ _ _ _ _ (Oper.mk (some 167) _ _ _ _ _ :: _) _ _); go_must (refine wpListIn_skip (by kernel_rfl) (by kernel_rfl) ?_))
        | ((with_reducible show wpListIn _ _ _ _ _ (Oper.mk (some 168) _ _ _ _ _ :: _) _ _); go_must (refine wpListIn_skip (by kernel_rfl) (by kernel_rfl) ?_)))
      have HBZ : Hid (Below Wx.heap.size Wx (wb.alloc (.cells #[.int .i64 0, .int .i64 0] 40))) := Lib.hid Bb.out
      gi_loopw [22] (fun u wr => u = .int .i64 1 ∧ Hid (Below Wx.heap.size Wx wr)) (fun u _ => 0)
      case atStart => exact ⟨rfl, HBZ⟩
      case round =>
        obtain ⟨rfl, HR⟩ := hrel
        obtain ⟨d0, d1, d2, d3, d4, d5, d6, d7, d8⟩ := HFC.out wr HR.out
        gi_wp2_with (refine ⟨trivial, ?_⟩; gi_at_call 12; refine (callsIn_wide.2 (HWK.out wr HR.out)).mono ?_; rintro e w9 ⟨rfl, hb⟩; have HB9 := Lib.hid (HR.out.trans (hb.mono HR.out.size)); obtain ⟨e0, e1, e2, e3, e4, e5, e6, e7, e8⟩ := HFC.out w9 HB9.out; clear hb)
        have hdz := HDD.out
        have hz5 := HZ5.out
        have hb05 := HB05.out.size
        have hdl : D < Wx.heap.size := (Array.getElem?_eq_some_iff.1 HD.out).1
        have hd9 : w9.heap[D]? = some (.deferred (some [])) := (HB9.out.block D hdl).trans HD.out
        have hr9 : Row w9 (w.heap.size + 1) 4 [.bool false] := HRX.out.keep HB9.out HRX.out.lt
        have b9 : Below w.heap.size w w9 := HBX.out.trans (HB9.out.mono HBX.out.size)
        obtain ⟨WF, hWF⟩ : ∃ W, W = w9.setCell ⟨w.heap.size + 1, 0, none⟩ (.bool true) := ⟨_, rfl⟩
        have hrF : Row WF (w.heap.size + 1) 4 [.bool true] := by rw [hWF]; exact hr9.set 0 (.bool true)
        have hdF : WF.heap[D]? = some (.deferred (some [])) := by rw [hWF]; exact ((grownBy_setCell' w9 (w.heap.size + 1) (.bool true)).block D (Array.getElem?_eq_some_iff.1 hd9).1 (fun e => by have := Option.some.inj e; omega)).trans hd9
        have bF : Below w.heap.size w WF := by rw [hWF]; exact b9.setCell (p := ⟨w.heap.size + 1, 0, none⟩) (by show w.heap.size ≤ w.heap.size + 1; omega) _
        rw [← hWF]
        have HF := Lib.hid (And.intro hdF (And.intro hrF bF))
        change LeavesInM Fence.wide 40 Tryd.prog _ _ _ [{ target := .collected D, args := #[] }] .returning WF
        refine ⟨by simp, .inl ⟨_, _, rfl, run_takeDeferred HF.out.1, ?_⟩⟩
        have hrG := fun o => (show Row (WF.putObj D o) (w.heap.size + 1) 4 [.bool true] from (World.putObj_heap_other (by omega)).trans HF.out.2.1).cell 0
        refine ⟨_, results_cell_bool rfl _ _ (w.heap.size + 1) true rfl (hrG _) Tryd.underlying4, rfl, ?_⟩
        exact HF.out.2.2.grown (grownBy_putObj' _ D _) (by have := HF.out.2.2.size; omega) (fun r e => by cases e; omega)
    | cons x0 r =>
      obtain ⟨p1, pa, pb, p2, p3, p4, p6, p5⟩ := plc_some HLL.out
      have HF1 := Lib.hid (HFI.out Wx (Below.refl _ _))
      have hl1 := HLA.out
      rw [HN.out] at p2 p4 p6
      rw [p1] at HF1
      rw [p2] at hl1
      obtain ⟨xa, xb⟩ := x0
      unfold pieceV at HF1 hl1
      dsimp only at HF1 hl1 p3
      rw [HAA.out] at p3 p4 p5 p6
      obtain ⟨F, hF⟩ : ∃ X : Int, ((A.getD xa 0 : Nat) : Int) = X := ⟨_, rfl⟩
      obtain ⟨G, hG⟩ : ∃ X : Int, ((A.getD xb 0 : Nat) : Int) = X := ⟨_, rfl⟩
      obtain ⟨P, hP⟩ : ∃ X : Int, ((A.getD pa 0 : Nat) : Int) = X := ⟨_, rfl⟩
      obtain ⟨Q, hQ⟩ : ∃ X : Int, ((A.getD pb 0 : Nat) : Int) = X := ⟨_, rfl⟩
      have k1 : ¬ P < F := by omega
      have k2 : ¬ (N : Int) < Q := by omega
      have k3 : 0 ≤ P := by omega
      have k6 : P ≤ (N : Int) := by omega
      rw [hF, hG] at HF1
      rw [hP, hQ] at hl1
      rw [hP] at p5
      have HL1 := Lib.hid hl1
      have HP5 := Lib.hid p5
      have hnp : 0 < n := by rw [← hn, List.length_cons]; omega
      have hni : (0 : Int) < (n : Int) := by omega
      clear hl1 p1 p2 p3 p4 p5 p6 hF hG hP hQ hn
      gi_wp2_with (first
        | (refine ⟨trivial, ?_⟩; gi_at_call 16; refine (callsIn_wide.2 HF1.out).mono ?_; rintro e wa ⟨rfl, hb⟩; have Ba := Lib.hid (hb.alloc hb.size (.cells #[.int .i64 F, .int .i64 G] 40)); have Ra := Lib.hid (row_new wa [.int .i64 F, .int .i64 G] 40); obtain ⟨b0, b1, b2, b3, b4, b5, b6, b7, b8⟩ := HFC.out (wa.alloc (.cells #[.int .i64 F, .int .i64 G] 40)) Ba.out; obtain ⟨_, _, _, _, _, bb5, bb6, bb7, bb8⟩ := HFC.out wa hb; clear hb)
        | (refine ⟨trivial, ?_⟩; gi_at_call 18; refine (callsIn_wide.2 (HL1.out (wa.alloc (.cells #[.int .i64 F, .int .i64 G] 40)) Ba.out)).mono ?_; rintro e wb ⟨rfl, hb⟩; have hb2 := Ba.out.trans (hb.mono Ba.out.size); have Bb := Lib.hid (hb2.alloc hb2.size (.cells #[.int .i64 P, .int .i64 Q] 40)); have rb := (show Row (wb.alloc (.cells #[.int .i64 P, .int .i64 Q] 40)) wa.heap.size 40 [.int .i64 F, .int .i64 G] from (Ra.out.keep hb Ra.out.lt).alloc _); have x0 := rb.cell 0; have x1 := rb.cell 1; have x2 := (Ra.out.keep hb Ra.out.lt).lt; obtain ⟨c0, c1, c2, c3, c4, c5, c6, c7, c8⟩ := HFC.out (wb.alloc (.cells #[.int .i64 P, .int .i64 Q] 40)) Bb.out; obtain ⟨_, _, _, _, _, cc5, cc6, cc7, cc8⟩ := HFC.out wb hb2; clear hb hb2 rb))
      have HBZ : Hid (Below Wx.heap.size Wx (wb.alloc (.cells #[.int .i64 P, .int .i64 Q] 40))) := Lib.hid Bb.out
      gi_loopw [22] (fun u wr => ∃ z : Int, u = .int .i64 z ∧ P < z ∧ z ≤ (N : Int) + 1 ∧ Hid (Below Wx.heap.size Wx wr)) (fun u _ => ((N : Int) + 2 - RowKit.intOf u).toNat)
      case atStart => exact ⟨P + 1, by go_num, by omega, by omega, HBZ⟩
      case round =>
        obtain ⟨z, rfl, hz1, hz2, HR⟩ := hrel
        obtain ⟨d0, d1, d2, d3, d4, d5, d6, d7, d8⟩ := HFC.out wr HR.out
        by_cases hlt : z ≤ (N : Int)
        · have hmm := HMA.out wr HR.out z
          rw [HP5.out z hz1] at hmm
          unfold placeV at hmm
          dsimp only at hmm
          have HM1 := Lib.hid hmm
          clear hmm
          gi_wp2_with (refine ⟨trivial, ?_⟩; gi_at_call 14; refine (callsIn_wide.2 HM1.out).mono ?_; rintro e wm ⟨rfl, hb⟩; have HBM := Lib.hid (HR.out.trans (hb.mono HR.out.size)); clear hb)
          go_roundw
          case rel => exact ⟨z + 1, by go_num, by omega, by omega, HBM⟩
          case measure => simp [RowKit.intOf]; omega
        · skip
          gi_wp2_with (refine ⟨trivial, ?_⟩; gi_at_call 12; refine (callsIn_wide.2 (HWK.out wr HR.out)).mono ?_; rintro e w9 ⟨rfl, hb⟩; have HB9 := Lib.hid (HR.out.trans (hb.mono HR.out.size)); obtain ⟨e0, e1, e2, e3, e4, e5, e6, e7, e8⟩ := HFC.out w9 HB9.out; clear hb)
          have hdz := HDD.out
          have hz5 := HZ5.out
          have hb05 := HB05.out.size
          have hdl : D < Wx.heap.size := (Array.getElem?_eq_some_iff.1 HD.out).1
          have hd9 : w9.heap[D]? = some (.deferred (some [])) := (HB9.out.block D hdl).trans HD.out
          have hr9 : Row w9 (w.heap.size + 1) 4 [.bool false] := HRX.out.keep HB9.out HRX.out.lt
          have b9 : Below w.heap.size w w9 := HBX.out.trans (HB9.out.mono HBX.out.size)
          obtain ⟨WF, hWF⟩ : ∃ W, W = w9.setCell ⟨w.heap.size + 1, 0, none⟩ (.bool true) := ⟨_, rfl⟩
          have hrF : Row WF (w.heap.size + 1) 4 [.bool true] := by rw [hWF]; exact hr9.set 0 (.bool true)
          have hdF : WF.heap[D]? = some (.deferred (some [])) := by rw [hWF]; exact ((grownBy_setCell' w9 (w.heap.size + 1) (.bool true)).block D (Array.getElem?_eq_some_iff.1 hd9).1 (fun e => by have := Option.some.inj e; omega)).trans hd9
          have bF : Below w.heap.size w WF := by rw [hWF]; exact b9.setCell (p := ⟨w.heap.size + 1, 0, none⟩) (by show w.heap.size ≤ w.heap.size + 1; omega) _
          rw [← hWF]
          have HF := Lib.hid (And.intro hdF (And.intro hrF bF))
          change LeavesInM Fence.wide 40 Tryd.prog _ _ _ [{ target := .collected D, args := #[] }] .returning WF
          refine ⟨by simp, .inl ⟨_, _, rfl, run_takeDeferred HF.out.1, ?_⟩⟩
          have hrG := fun o => (show Row (WF.putObj D o) (w.heap.size + 1) 4 [.bool true] from (World.putObj_heap_other (by omega)).trans HF.out.2.1).cell 0
          refine ⟨_, results_cell_bool rfl _ _ (w.heap.size + 1) true rfl (hrG _) Tryd.underlying4, rfl, ?_⟩
          exact HF.out.2.2.grown (grownBy_putObj' _ D _) (by have := HF.out.2.2.size; omega) (fun r e => by cases e; omega)
theorem items_len7 : ∀ (V : List Nat) (f i : Nat) (acc its : List Itm), itemsGo V f i acc = .inr its → its.length ≤ acc.length + f
  | V, 0, i, acc, its, h => by
    rw [itemsGo] at h
    simp only [Sum.inr.injEq] at h
    rw [← h]; exact Nat.le_refl _
  | V, f + 1, i, acc, its, h => by
    rw [itemsGo] at h
    split at h
    · simp only [Sum.inr.injEq] at h
      rw [← h]; omega
    · split at h
      · cases h
      · have := items_len7 V f _ _ _ h
        rw [List.length_append, List.length_singleton] at this
        omega
theorem seekPlaces_walk (w : World) (l : List UInt8) (hm : l.length ≤ 140737488351232) (s : List UInt8) (hs : s.length ≤ 140737488351232) (hT : Tabs w) (hE : ErrT w) :
    Calls Tryd.prog 9 #[.string (bstr l), .string (bstr s)] w fun e w' => e = .returned (.bool true) ∧ Below w.heap.size w w' := by
  have hC := fun W (h : Below w.heap.size w W) => compileF W l (by omega) (hT.next h)
  unfold CompF at hC
  by_cases hbig : 256 < l.length
  · simp only [if_pos hbig] at hC
    refine places_bad w l s 4 0 rfl hT hE (fun W h => (hC W h).mono ?_)
    rintro e w' ⟨hb, g, rfl, _, hr⟩
    exact ⟨g, rfl, hr, hb⟩
  · simp only [if_neg hbig] at hC
    cases hI : itemsP (valsL l) with
    | inl b =>
      simp only [hI] at hC
      refine places_bad w l s 60 ((atsL l).getD b 0 : Int) rfl hT hE (fun W h => (hC W h).mono ?_)
      rintro e w' ⟨hb, g, rfl, _, hr⟩
      exact ⟨g, rfl, hr, hb⟩
    | inr its =>
      simp only [hI] at hC
      have hvl := vals_len l
      have hil := items_len7 _ _ _ _ _ hI
      rw [List.length_nil] at hil
      refine places_good w l s (foldedP (valsL l)) its hT (by omega) (fun W h => (hC W h).mono ?_)
      rintro e w' ⟨hb, g, rfl, hg, hp⟩
      exact ⟨g, rfl, hg, hp, hb⟩
end Go.Proofs.YtchdeboialbdiaaDoor
