/- Texts joined, one behind the other (DSideR, DSplit, Iter). -/
import Derived.Test.YtnbihjocdlpplaaGreatDoorKq05
import Derived.Deep.RegionHeld3
import Derived.Deep.DeepCutAuto
import Derived.IntWalk
import Derived.RangeFuncNested
import Derived.RangeFuncBound
import Derived.RangeFuncCalls
import Derived.RangeFuncLeaves
import Derived.Shelf.Abstract
import Derived.Shelf.RegionOpen
import Derived.OwnWalkIn
import Derived.TacticsInMore
import Derived.LoopNIn
import Derived.LoopIn
/- The sides of a patch and texts put together, by the reference. -/
namespace Go.Proofs.YtnbihjocdlpplaaGreatDoor
set_option linter.unusedVariables false
set_option linter.unusedSimpArgs false
open Go.RowKit
open Go.Lib
set_option maxHeartbeats 4000000 in
set_option maxRecDepth 100000 in
theorem sideR (w : World) (a : Option Addr) (n c : Nat) (X : List HkI) (k : Int) (hX : ReadsK w a n X) (hn : n ≤ 1073741824) (hl : linesK X ≤ 1073741824) :
    Calls Tryz.prog 64 #[.slice a n c, .int .i64 k] w fun e w' => ∃ v, e = .returned v ∧ StrOwn w.heap.size v (sideI k X) w' ∧ Below w.heap.size w w' := by
  have HX := Lib.hid hX
  have HL := Lib.hid hl
  have HN := Lib.hid hX.len
  have H0 : Hid (StrOwn w.heap.size (.slice none 0 0) [] w) := Lib.hid (World.ownsRow_nil _ _ _ _)
  clear hX hl
  go_enter Tryz.func64, Tryz.ntmps64
  go_wp2
  go_loopw [5, 6] (fun vv ui wr => ∃ i : Nat, ui = .int .i64 (i : Int) ∧ i ≤ n ∧ Hid (StrOwn w.heap.size vv (sideI k (X.take i)) wr ∧ Below w.heap.size w wr)) (fun _ ui _ => n - (RowKit.intOf ui).toNat)
  case atStart => exact ⟨0, rfl, Nat.zero_le _, Lib.hid ⟨H0.out, Below.refl _ _⟩⟩
  case round =>
    obtain ⟨i, rfl, hi, HR⟩ := hrel
    obtain ⟨vv, rfl⟩ : ∃ v : Value, v = u5 := ⟨_, rfl⟩
    by_cases hlt : i < n
    · obtain ⟨b, off, x, ad, m, cm, rfl, hb, hx, hc0, hc1, hrs, hmc, hcm, hm⟩ := (HX.out.keep HR.out.2 (Nat.le_refl _)).at hlt
      have hlx : linesK (X.take (i + 1)) ≤ 1073741824 := Nat.le_trans (linesK_take _ _) HL.out
      have hs1 : (sideI k (X.take i)).length + m ≤ 1073741824 := by
        rw [take_next hx, linesK_app] at hlx
        have h1 := sideI_len k (X.take i)
        have h2 : linesK [x] = m := by simp [linesK, hm]
        omega
      have HNX := Lib.hid (sideI_next (k := k) hx)
      obtain ⟨kd, hkd⟩ : ∃ kd, kd = x.1 := ⟨_, rfl⟩
      rw [← hkd] at hc0 HNX
      have HRS := Lib.hid hrs
      have HM := Lib.hid hm
      have hwb := HR.out.2.size
      have hit : (i : Int) < (n : Int) := by omega
      clear hx hrs hm hlx
      by_cases h1 : kd = 1 ∨ kd = k
      · rw [if_pos h1] at HNX
        have hbe : (kd == 1) = true ∨ ((kd == 1) = false ∧ (kd == k) = true) := by
          by_cases e : kd = 1
          · exact .inl (by rw [e]; rfl)
          · exact .inr ⟨by rw [beq_eq_false_iff_ne]; exact e, by rw [beq_iff_eq]; exact h1.resolve_left e⟩
        clear h1 hkd
        rcases hbe with q1 | ⟨q1, q2⟩
        all_goals
          go_wp2_with (at_builtin; refine appSlice rfl _ _ rfl Tryz.underlying22 (.string ByteArray.empty) 1 16 infoStr rfl (by decide) (by decide) w.heap.size vv (sideI k (X.take i)).length ((sideI k (X.take i)).map S1) rfl HR.out.1 ad m cm (x.2.map S1) rfl (by rw [List.length_map, HM.out, Nat.mul_one]) HRS.out.srcs (S1_one _) (by omega) hwb ?_; intro v8 w8 hO8 hg8)
          have HO8 : Hid (StrOwn w.heap.size v8 (sideI k (X.take (i + 1))) w8 ∧ Below w.heap.size w w8) := by
            refine Lib.hid ⟨by rw [HNX.out]; exact StrOwn.apps HM.out.symm hO8, ?_⟩
            exact HR.out.2.grown hg8 hwb (fun k hk => (World.ownsRow.lt HR.out.1 k hk).1)
          clear hO8 hg8
          go_roundw
          case rel => exact ⟨i + 1, by go_num, hlt, HO8⟩
          case measure => simp [RowKit.intOf]; omega
      · rw [if_neg h1, List.append_nil] at HNX
        have q1 : (kd == 1) = false := by rw [beq_eq_false_iff_ne]; exact fun e => h1 (.inl e)
        have q2 : (kd == k) = false := by rw [beq_eq_false_iff_ne]; exact fun e => h1 (.inr e)
        have hq1 : kd ≠ 1 := fun e => h1 (.inl e)
        have hq2 : kd ≠ k := fun e => h1 (.inr e)
        clear h1 hkd
        go_wp2
        go_roundw
        case rel => exact ⟨i + 1, by go_num, hlt, Lib.hid ⟨by rw [HNX.out]; exact HR.out.1, HR.out.2⟩⟩
        case measure => simp [RowKit.intOf]; omega
    · obtain rfl : i = n := by omega
      have hd : X.take i = X := List.take_of_length_le (by rw [HN.out]; exact Nat.le_refl _)
      have HD := Lib.hid hd
      clear hd
      go_wp2
      go_ret
      have h9 := HR.out.1
      rw [HD.out] at h9
      exact ⟨_, rfl, h9, HR.out.2⟩
theorem flat_next {L : List (List UInt8)} {i : Nat} {x : List UInt8} (h : L[i]? = some x) : (L.take (i + 1)).flatten = (L.take i).flatten ++ x := by
  rw [take_next h, List.flatten_append]
  simp
theorem flat_take (L : List (List UInt8)) (i : Nat) : (L.take i).flatten.length ≤ L.flatten.length := by
  have : L.flatten = (L.take i).flatten ++ (L.drop i).flatten := by rw [← List.flatten_append, List.take_append_drop]
  rw [this, List.length_append]
  omega
set_option maxHeartbeats 4000000 in
set_option maxRecDepth 100000 in
theorem joinR (w : World) (a : Option Addr) (n c : Nat) (L : List (List UInt8)) (h : ReadsS w a n L) (hn : n ≤ 1073741824) (hl : L.flatten.length ≤ 1099511627776) :
    Calls Tryz.prog 65 #[.slice a n c] w fun e w' => e = .returned (.string (bstr L.flatten)) ∧ Below w.heap.size w w' := by
  have HX := Lib.hid h
  have HL := Lib.hid hl
  have HN := Lib.hid h.len
  have H0 : Hid (OwnB w.heap.size (.slice none 0 0) [] w) := Lib.hid (World.ownsRow_nil _ _ _ _)
  clear h hl
  go_enter Tryz.func65, Tryz.ntmps65
  go_wp2
  go_loopw [3, 4] (fun vv ui wr => ∃ i : Nat, ui = .int .i64 (i : Int) ∧ i ≤ n ∧ Hid (OwnB w.heap.size vv (L.take i).flatten wr ∧ Below w.heap.size w wr)) (fun _ ui _ => n - (RowKit.intOf ui).toNat)
  case atStart => exact ⟨0, rfl, Nat.zero_le _, Lib.hid ⟨H0.out, Below.refl _ _⟩⟩
  case round =>
    obtain ⟨i, rfl, hi, HR⟩ := hrel
    obtain ⟨vv, rfl⟩ : ∃ v : Value, v = u3 := ⟨_, rfl⟩
    by_cases hlt : i < n
    · obtain ⟨b, off, x, rfl, hb, hx, hc0⟩ := (HX.out.keep HR.out.2 (Nat.le_refl _)).at hlt
      have HF := Lib.hid (flat_next hx)
      have hfx := flat_take L (i + 1)
      rw [HF.out, List.length_append] at hfx
      have hL := HL.out
      have l1 : (L.take i).flatten.length ≤ 1099511627776 := by omega
      have l2 : x.length ≤ 1099511627776 := by omega
      have hwb := HR.out.2.size
      have hit : (i : Int) < (n : Int) := by omega
      clear hx hfx hL
      go_wp2_with (at_builtin; refine appStr rfl _ _ rfl w.heap.size w vv (L.take i).flatten x rfl HR.out.1 rfl l1 l2 HR.out.2 hwb ?_; intro v8 w8 hO8 hb8 hs8)
      have HO8 : Hid (OwnB w.heap.size v8 (L.take (i + 1)).flatten w8 ∧ Below w.heap.size w w8) := Lib.hid ⟨by rw [HF.out]; exact hO8, hb8⟩
      clear hO8 hb8
      go_roundw
      case rel => exact ⟨i + 1, by go_num, hlt, HO8⟩
      case measure => simp [RowKit.intOf]; omega
    · obtain rfl : i = n := by omega
      have hd : L.take i = L := List.take_of_length_le (by rw [HN.out]; exact Nat.le_refl _)
      have hcv := conv_own HR.out.1
      rw [hd] at hcv
      clear hd
      go_wp2
      go_ret
      exact ⟨rfl, HR.out.2⟩
end Go.Proofs.YtnbihjocdlpplaaGreatDoor
/- The lines of a text with their ends, by the reference. -/
namespace Go.Proofs.YtnbihjocdlpplaaGreatDoor
set_option linter.unusedVariables false
set_option linter.unusedSimpArgs false
open Go.RowKit
open Go.Lib
/-- append to a row of the call's own, as one step of a region that draws its order -/
theorem stepApp {T e : TypeId} {w : World} {ops : Array Oper} {o : Oper} {a : Act} {K : Act → World → Prop} {Q : Exit → Act → World → Prop} {E : Prop} (hgd : o.guard = none) (sl x : Operand) (ho : o.op = .call { callee := .builtin .append, args := #[sl, x], argTypes := #[T, T] })
    (hT : Tryz.prog.underlying T = some (.slice e)) (z : Value) (size bytes : Nat) (hinfo : (Tryz.prog.info? e).map (fun i => (i.zero, i.size, i.bytes)) = some (some z, size, bytes)) (hz : z.cells.size = size) (hs0 : 0 < size) (hby : bytes ≤ 4096)
    (B B0 : Nat) (w0 wp : World) (v : Value) (n : Nat) (xs cs : List Value) (hcs : cs.length = size) (hone : ∀ u ∈ cs, u.oneCell' = true) (hs : a.eval sl = v) (hown : wp.ownsRow B e size v n xs) (hx : a.eval x = .slice (some ⟨wp.heap.size, 0, none⟩) 1 1) (hw : w = wp.alloc (.cells cs.toArray e)) (hl : n ≤ 1073741824) (hb : Below B0 w0 wp) (hB0 : B0 ≤ B) (hB : B ≤ wp.heap.size)
    (h : ∀ v' w', w'.ownsRow B e size v' (n + 1) (xs ++ cs) → Below B0 w0 w' → K (a.put o.dst v') w') : if Region.wanted o (yielded ops a.tmps) = true then Oper.wp Tryz.prog o a w K Q else E := by
  subst hw
  obtain ⟨i0, hi, hz0, hz1, hz2⟩ := info_parts hinfo
  have hwd : Region.wanted o (yielded ops a.tmps) = true := by simp [Region.wanted, hgd]
  rw [if_pos hwd]
  have hsz : (wp.alloc (.cells cs.toArray e)).heap.size = wp.heap.size + 1 := by simp
  have hbt : (n + 1) * bytes ≤ 140737488355328 := by
    calc (n + 1) * bytes ≤ (n + 1) * 4096 := Nat.mul_le_mul (Nat.le_refl _) hby
      _ ≤ 140737488355328 := by omega
  obtain ⟨v', w', hrun, r1, r2, _⟩ := run_append_own (P := Tryz.prog) (wp.alloc (.cells cs.toArray e)) B T o.type e i0 z size bytes hT hi hz0 hz1 hz2 hz hs0 v n xs (World.ownsRow.alloc hown _) ⟨wp.heap.size, 0, none⟩ 1 1 cs (by rw [hcs, Nat.one_mul]) (new_cells _ _ _) hone (by unfold maxLen; omega) hbt (by omega)
  have hlt : ∀ k, v.ownBlock = some k → B ≤ k := fun k hk => (World.ownsRow.lt hown k hk).1
  unfold Oper.wp
  simp [execOp, ho, resolve, invoke, builtin, hs, hx, hrun, Result.andThen]
  exact h v' w' r1 ((hb.alloc (Nat.le_trans hB0 hB) _).grown r2 (by omega) (fun k hk => Nat.le_trans hB0 (hlt k hk)))
theorem splitA_at {l : List UInt8} {k : Nat} {x : Nat × Nat × Nat} (h : (linesL l)[k]? = some x) : (splitA l)[k]? = some (pieceE l x) := by
  unfold splitA; rw [List.getElem?_map, h]; rfl
theorem linesGo_end (l : List UInt8) : ∀ f a i, a ≤ i → i ≤ l.length → ∀ x ∈ linesGo l f a i, x.2.1 + x.2.2 ≤ l.length
  | 0, a, i, _, _ => fun x hx => by rw [linesGo] at hx; cases hx
  | f + 1, a, i, hai, hil => by
    intro x hx
    rw [linesGo] at hx
    by_cases h1 : l.length ≤ i
    · rw [if_pos h1] at hx
      have : x = (a, l.length, 0) := by simpa using hx
      subst this
      simp
    rw [if_neg h1] at hx
    by_cases h2 : endL l i = 0
    · rw [if_pos h2] at hx
      exact linesGo_end l f a (i + 1) (by omega) (by omega) x hx
    rw [if_neg h2] at hx
    have h3 := (endL_le l i).resolve_left h2
    rcases List.mem_cons.1 hx with rfl | hx
    · exact h3
    · exact linesGo_end l f _ _ (Nat.le_refl _) h3 x hx
theorem linesL_end (l : List UInt8) : ∀ x ∈ linesL l, x.1 ≤ x.2.1 ∧ x.2.1 + x.2.2 ≤ l.length := fun x hx => ⟨(linesL_ok l x hx).1, linesGo_end l _ 0 0 (Nat.le_refl _) (Nat.zero_le _) x hx⟩
theorem pieceE_len {l : List UInt8} {x : Nat × Nat × Nat} (h : x.1 ≤ x.2.1 ∧ x.2.1 + x.2.2 ≤ l.length) : (pieceE l x).length = x.2.1 + x.2.2 - x.1 := by
  unfold pieceE
  rw [List.length_take, List.length_drop]
  omega
set_option maxHeartbeats 8000000 in
set_option maxRecDepth 100000 in
theorem splitAR (w : World) (l : List UInt8) (hm : l.length ≤ 67108864) :
    Calls Tryz.prog 73 #[.string (bstr l)] w fun e w' => ∃ v, e = .returned v ∧ StrOwn w.heap.size v (splitA l) w' ∧ Below w.heap.size w w' := by
  have HA := Lib.hid (fun w1 => allR w1 l hm)
  obtain ⟨m, hml⟩ : ∃ m, (linesL l).length = m := ⟨_, rfl⟩
  have hmm := linesL_len l
  rw [hml] at hmm
  have HM := Lib.hid hml
  have HS : Hid ((splitA l).length = m) := Lib.hid (by unfold splitA; rw [List.length_map, hml])
  have HOK := Lib.hid (linesL_end l)
  have hsz := bstr_size l
  clear hml
  go_enter Tryz.func73, Tryz.ntmps73
  go_upto_region 2 with (go_at_call 86; refine (HA.out _).mono ?_; rintro e w1 ⟨v1, rfl, hO1, hb1⟩)
  obtain ⟨a1, c1, hv1⟩ := slice_own hO1
  rw [HM.out] at hv1
  subst hv1
  have HO1 : Hid (w1.ownsRow w.heap.size 141 3 (.slice a1 m c1) m ((linesL l).flatMap lineCells)) := Lib.hid (by have := hO1; unfold OwnLn at this; rwa [HM.out] at this)
  have HB1 := Lib.hid hb1
  have hsb := hb1.size
  have H0 : Hid (StrOwn w1.heap.size (.slice none 0 0) ((splitA l).take 0) w1) := Lib.hid (World.ownsRow_nil _ _ _ _)
  clear hO1 hb1
  go_wp2
  go_loopw [4, 5] (fun vv ui wr => ∃ k : Nat, k ≤ m ∧ ui = .int .i64 (k : Int) ∧ Hid (StrOwn w1.heap.size vv ((splitA l).take k) wr ∧ Below w1.heap.size w1 wr)) (fun _ ui _ => m - (RowKit.intOf ui).toNat)
  case atStart => exact ⟨0, Nat.zero_le _, rfl, Lib.hid ⟨H0.out, Below.refl _ _⟩⟩
  case round =>
    obtain ⟨k, hkm, rfl, HR⟩ := hrel
    obtain ⟨vv, rfl⟩ : ∃ v : Value, v = u4 := ⟨_, rfl⟩
    clear H0
    by_cases hlt : k < m
    · obtain ⟨x, hx⟩ : ∃ x, (linesL l)[k]? = some x := ⟨_, List.getElem?_eq_getElem (by rw [HM.out]; exact hlt)⟩
      have hxo := HOK.out x (List.mem_of_getElem? hx)
      have HSX := Lib.hid (splitA_at hx)
      have hpl := pieceE_len hxo
      obtain ⟨g, rfl, hg, hcell⟩ := own_cell (own_below HO1.out (HR.out.2)) (by omega)
      obtain ⟨xa, xb, xe⟩ := x
      have e0 : wr.cell? ⟨g, k * 3, none⟩ = some (.int .i64 (xa : Int)) := hcell _ _ (flat_at (c := 3) (fun _ => rfl) hx (j := 0) rfl)
      have e1 : wr.cell? ⟨g, k * 3 + 1, none⟩ = some (.int .i64 (xb : Int)) := hcell _ _ (flat_at (c := 3) (fun _ => rfl) hx (j := 1) rfl)
      have e2 : wr.cell? ⟨g, k * 3 + 2, none⟩ = some (.int .i64 (xe : Int)) := hcell _ _ (flat_at (c := 3) (fun _ => rfl) hx (j := 2) rfl)
      simp only at hxo hpl
      obtain ⟨hab, hbl⟩ := hxo
      obtain ⟨y, hy⟩ : ∃ y, xb + xe = y := ⟨_, rfl⟩
      rw [hy] at hbl hpl
      have i0 : (xb : Int) + (xe : Int) = (y : Int) := by omega
      have iw : IntKind.i64.wrap ((xb : Int) + (xe : Int)) = (y : Int) := by rw [i0]; exact IntWalk.i64_in _ (by omega)
      have i1 : (xa : Int) ≤ (y : Int) := by omega
      have i2 : (y : Int) ≤ (l.length : Int) := by omega
      obtain ⟨S, hS⟩ : ∃ S, pieceE l (xa, xb, xe) = S := ⟨_, rfl⟩
      have hex : (bstr l).extract xa y = bstr S := by rw [← hS, bstr_extract, ← hy]; rfl
      rw [hS] at hpl HSX
      have hbw := HR.out.2.size
      have HB9 := Lib.hid HR.out.2
      have hkl : ((splitA l).take k).length ≤ 1073741824 := by rw [List.length_take, HS.out]; omega
      have HKL := Lib.hid hkl
      have hal : g < w1.heap.size := by
        have := own_cell HO1.out (by omega)
        obtain ⟨g', hg', hlt', _⟩ := this
        cases hg'
        exact hlt'
      clear hx hcell hS hkl hy i0
      go_wp2
      have HOD : Hid (StrOwn w1.heap.size vv ((splitA l).take k) wr.drew) := Lib.hid HR.out.1
      have HBD : Hid (Below w1.heap.size w1 wr.drew) := Lib.hid HB9.out.drew
      have hbd : w1.heap.size ≤ wr.drew.heap.size := hbw
      have hone : ∀ u ∈ [Value.string (bstr S)], u.oneCell' = true := by intro u hu; simp only [List.mem_singleton] at hu; subst hu; rfl
      have HONE := Lib.hid hone
      have hq : ∀ w8, Below w1.heap.size w1 w8 → w8.cell? ⟨g, k * 3, none⟩ = some (.int .i64 (xa : Int)) ∧ w8.cell? ⟨g, k * 3 + 1, none⟩ = some (.int .i64 (xb : Int)) ∧ w8.cell? ⟨g, k * 3 + 2, none⟩ = some (.int .i64 (xe : Int)) := fun w8 hb => by
        rw [hb.cell (p := ⟨g, k * 3, none⟩) hal, hb.cell (p := ⟨g, k * 3 + 1, none⟩) hal, hb.cell (p := ⟨g, k * 3 + 2, none⟩) hal, ← HB9.out.cell (p := ⟨g, k * 3, none⟩) hal, ← HB9.out.cell (p := ⟨g, k * 3 + 1, none⟩) hal, ← HB9.out.cell (p := ⟨g, k * 3 + 2, none⟩) hal]
        exact ⟨e0, e1, e2⟩
      have HQ := Lib.hid hq
      clear hone hq
      go_region_held3 (fun w' => w'.cell? ⟨g, k * 3, none⟩ = some (.int .i64 (xa : Int)) ∧ w'.cell? ⟨g, k * 3 + 1, none⟩ = some (.int .i64 (xb : Int)) ∧ w'.cell? ⟨g, k * 3 + 2, none⟩ = some (.int .i64 (xe : Int))) (first | exact ⟨e0, e1, e2⟩ | exact HQ.out _ (by assumption) | exact HQ.out _ (HBD.out.alloc hbd _) | go_keep) (first
        | ((refine stepApp (by rfl) _ _ (by rfl) Tryz.underlying22 (.string ByteArray.empty) 1 16 infoStr (by rfl) (by decide) (by decide) w1.heap.size w1.heap.size w1 wr.drew vv ((splitA l).take k).length (((splitA l).take k).map S1) [.string (bstr S)] (by rfl) HONE.out (by rfl) HOD.out (by rfl) (by rfl) HKL.out HBD.out (Nat.le_refl _) hbd ?_); intro v8 w8 hO8 hb8))
      have HNX : Hid (StrOwn w1.heap.size v8 ((splitA l).take (k + 1)) w8 ∧ Below w1.heap.size w1 w8) := Lib.hid ⟨by
        rw [take_next HSX.out]
        exact StrOwn.push hO8, hb8⟩
      clear hO8 hb8
      go_wp2
      go_roundw
      case rel => exact ⟨k + 1, by omega, by go_num, HNX⟩
      case measure => simp [RowKit.intOf]; omega
    · obtain rfl : k = m := by omega
      go_wp2
      go_ret
      refine ⟨_, rfl, ?_, HB1.out.trans (HR.out.2.mono hsb)⟩
      have := HR.out.1
      rw [List.take_of_length_le (by rw [HS.out]; exact Nat.le_refl _)] at this
      exact own_mono this hsb
/-- the lines here, as both make them -/
def SplitQ (w : World) (l : List UInt8) (e : Ending) (w' : World) : Prop := ∃ a n c, e = .returned (.slice a n c) ∧ n = (splitD l).length ∧ n ≤ c ∧ c ≤ maxLen ∧ ReadsS w' a n (splitD l) ∧ Below w.heap.size w w'
theorem splitA_len (l : List UInt8) : 0 < (splitA l).length ∧ (splitA l).length ≤ l.length + 1 := by
  refine ⟨List.length_pos_iff.2 (splitA_ne l), ?_⟩
  unfold splitA
  rw [List.length_map]
  exact linesL_len l
theorem splitD_take (l : List UInt8) (h : (splitA l).getLast? = some []) : splitD l = (splitA l).take ((splitA l).length - 1) := by
  unfold splitD
  rw [if_pos h, List.dropLast_eq_take]
theorem splitD_all (l : List UInt8) (h : ¬ (splitA l).getLast? = some []) : splitD l = splitA l := by
  unfold splitD
  rw [if_neg h]
theorem splitA_last (l : List UInt8) : ∃ x, (splitA l)[(splitA l).length - 1]? = some x ∧ (splitA l).getLast? = some x := by
  have h := splitA_len l
  refine ⟨(splitA l)[(splitA l).length - 1]'(by omega), List.getElem?_eq_getElem _, ?_⟩
  rw [List.getLast?_eq_getElem?]
  exact List.getElem?_eq_getElem _
theorem ReadsS.take {w : World} {a : Option Addr} {n : Nat} {L : List (List UInt8)} (h : ReadsS w a n L) (m : Nat) (hm : m ≤ n) : ReadsS w a m (L.take m) := by
  obtain ⟨hl, h⟩ := h
  rw [List.length_map] at hl
  refine ⟨by rw [List.length_map, List.length_take]; omega, fun h0 => ?_⟩
  obtain ⟨b, off, ha, hb, hc⟩ := h (by omega)
  refine ⟨b, off, ha, hb, fun j hj => ?_⟩
  rw [hc j (by omega), List.getElem?_map, List.getElem?_map, List.getElem?_take, if_pos hj]
set_option maxHeartbeats 4000000 in
theorem lastR (w : World) (a : Option Addr) (n c : Nat) (L : List (List UInt8)) (h : ReadsS w a n L) (hn : 0 < n) (hm : n ≤ 1073741824) (x : List UInt8) (hx : L[n - 1]? = some x) :
    Calls Tryz.prog 74 #[.slice a n c] w fun e w' => e = .returned (.int .i64 (if x = [] then 0 else 1)) ∧ w = w' := by
  obtain ⟨b, off, y, rfl, hb, hy, hc⟩ := h.at (k := n - 1) (by omega)
  rw [hx] at hy
  cases hy
  obtain ⟨q, rfl⟩ : ∃ q, n = q + 1 := ⟨n - 1, by omega⟩
  simp only [Nat.add_sub_cancel] at hc
  by_cases h0 : x = []
  · subst h0
    go_enter Tryz.func74, Tryz.ntmps74
    go_wp2
    go_ret
    exact ⟨rfl, rfl⟩
  · have he : x.isEmpty = false := by cases x with | nil => exact absurd rfl h0 | cons _ _ => rfl
    go_enter Tryz.func74, Tryz.ntmps74
    go_wp2
    all_goals go_ret
    all_goals first | exact ⟨rfl, rfl⟩ | exact ⟨by rw [if_neg h0], rfl⟩ | (exfalso; simp_all)
set_option maxHeartbeats 4000000 in
theorem splitR (w : World) (l : List UInt8) (hm : l.length ≤ 67108864) :
    Calls Tryz.prog 42 #[.string (bstr l)] w (SplitQ w l) := by
  have HA := Lib.hid (splitAR w l hm)
  obtain ⟨x, hx, hl⟩ := splitA_last l
  have hlen := splitA_len l
  obtain ⟨q, hq⟩ : ∃ q, (splitA l).length = q + 1 := ⟨(splitA l).length - 1, by omega⟩
  rw [hq] at hx hlen
  have HX := Lib.hid hx
  have HL := Lib.hid hl
  have HQ := Lib.hid hq
  have hq2 : q ≤ 67108865 := by omega
  clear hx hl hq hlen
  go_enter Tryz.func42, Tryz.ntmps42
  go_upto_region 2 with (go_at_call 73; refine (HA.out).mono ?_; rintro e w1 ⟨v1, rfl, hO1, hb1⟩)
  obtain ⟨a1, c1, hv1, hR1, hc1, hm1⟩ := readsS_own hO1
  rw [HQ.out] at hv1 hR1 hc1
  subst hv1
  have HR1 := Lib.hid hR1
  have HB1 := Lib.hid hb1
  have hLR := lastR w1 a1 (q + 1) c1 (splitA l) hR1 (by omega) (by omega) x HX.out
  have hcm : c1 ≤ 9223372036854775807 := by unfold maxLen at hm1; omega
  have HM1 := Lib.hid hm1
  clear hO1 hb1 hR1 hm1
  by_cases h0 : x = []
  · rw [if_pos h0] at hLR
    have HLR := Lib.hid hLR
    have HD := Lib.hid (splitD_take l (by rw [HL.out, h0]))
    clear hLR h0
    go_wp2_with (go_at_call 74; refine (HLR.out).mono ?_; rintro e w2 ⟨rfl, rfl⟩)
    go_ret
    refine ⟨_, _, _, rfl, ?_, by omega, HM1.out, ?_, HB1.out⟩
    · rw [HD.out, List.length_take, HQ.out]; omega
    · rw [HD.out, HQ.out]; exact HR1.out.take _ (by omega)
  · rw [if_neg h0] at hLR
    have HLR := Lib.hid hLR
    have HD := Lib.hid (splitD_all l (by rw [HL.out]; simpa using h0))
    clear hLR h0
    go_wp2_with (go_at_call 74; refine (HLR.out).mono ?_; rintro e w2 ⟨rfl, rfl⟩)
    go_ret
    refine ⟨_, _, _, rfl, ?_, by omega, HM1.out, ?_, HB1.out⟩
    · rw [HD.out, HQ.out]
    · rw [HD.out]; exact HR1.out
end Go.Proofs.YtnbihjocdlpplaaGreatDoor
/- A range over a function whose iterator keeps state of its own in cells: what the iterator owes, what the caller owes. -/
namespace Go.Proofs.YtnbihjocdlpplaaGreatDoor
open Go.RowKit Go.Shelf

/-- the rows that an iterator may turn: its own, from lo up to hi, and from lo on whatever is no cells -/
def MayTurn (lo hi : Nat) (A : World) (row : Option Nat) : Prop := ∀ r, row = some r → lo ≤ r ∧ (r < hi ∨ ∃ o : Obj, A.heap[r]? = some o ∧ o.isCells = false)
def AbidesC {β : Type} (lo hi : Nat) (J : β → World → Prop) : Prop := ∀ s A A' row, J s A → A.grownBy A' row → MayTurn lo hi A row → J s A'
/-- what a round that goes on keeps for its iterator: the rows of K, the iterator's own rows, and from lo on whatever is no cells -/
structure KeepsC (K : Nat → Prop) (lo hi : Nat) (W W' : World) : Prop where
  size : W.heap.size ≤ W'.heap.size
  rows : ∀ r, K r ∨ (lo ≤ r ∧ r < hi) → W'.heap[r]? = W.heap[r]?
  others : ∀ r (o : Obj), lo ≤ r → W.heap[r]? = some o → o.isCells = false → W'.heap[r]? = some o

theorem KeepsC.refl (K : Nat → Prop) (lo hi : Nat) (W : World) : KeepsC K lo hi W W := ⟨Nat.le_refl _, fun _ _ => rfl, fun _ _ _ h _ => h⟩
theorem KeepsC.trans {K : Nat → Prop} {lo hi : Nat} {A B C : World} (h : KeepsC K lo hi A B) (k : KeepsC K lo hi B C) : KeepsC K lo hi A C :=
  ⟨Nat.le_trans h.size k.size, fun r hr => (k.rows r hr).trans (h.rows r hr), fun r o hr ho hc => k.others r o hr (h.others r o hr ho hc) hc⟩
theorem KeepsC.less {K : Nat → Prop} {lo lo' hi : Nat} {A B : World} (h : KeepsC K lo hi A B) (hl : lo ≤ lo') : KeepsC K lo' hi A B :=
  ⟨h.size, fun r hr => h.rows r (hr.imp id (fun h => ⟨by omega, h.2⟩)), fun r o hr ho hc => h.others r o (by omega) ho hc⟩
theorem KeepsC.putObj {K : Nat → Prop} {lo hi : Nat} (W : World) {l : Nat} (o : Obj) (h0 : ¬ K l) (hl : l < lo) : KeepsC K lo hi W (W.putObj l o) :=
  ⟨by simp, fun r hr => World.putObj_heap_other (fun e => by subst e; exact hr.elim h0 (fun h => by omega)), fun r o' hr ho _ => (World.putObj_heap_other (by omega)).trans ho⟩
/-- a step that turns one row of cells of the caller's, or none -/
theorem KeepsC.grown {K : Nat → Prop} {lo hi : Nat} {W W' : World} {row : Option Nat} (hg : W.grownBy W' row) (hn : ∀ r, K r → r < W.heap.size) (hh : hi ≤ W.heap.size) (hr : ∀ r, row = some r → ¬ K r ∧ (r < lo ∨ (hi ≤ r ∧ ∀ o : Obj, W.heap[r]? = some o → o.isCells = true))) : KeepsC K lo hi W W' := by
  refine ⟨hg.size, fun r h => ?_, fun r o hl ho hc => ?_⟩
  · refine hg.block r (h.elim (hn r) (fun h => by omega)) (fun e => ?_)
    obtain ⟨h1, h2⟩ := hr r e.symm
    rcases h with h | h
    · exact h1 h
    · omega
  · refine (hg.block r (Array.getElem?_eq_some_iff.1 ho).1 (fun e => ?_)).trans ho
    obtain ⟨_, h | ⟨_, h⟩⟩ := hr r e.symm
    · omega
    · rw [h o ho] at hc; cases hc

/-- WHAT AN ITERATOR OWES: S: all that comes; Sp: a part that has come when a round has said no more. -/
def SeqC {α : Type} (F : Fence) (n : Nat) (P : Program) (g : Nat) (lb : Array Value) (encs : α → Array Value) (K : Nat → Prop) (w0 : World) (S Sp : List α → Prop) : Prop :=
  ∀ (l : Nat) (J Jx : Nat → List α → World → Prop) (W : World), (∀ r, K r → r < w0.heap.size ∧ W.heap[r]? = w0.heap[r]?) → w0.heap.size ≤ W.heap.size →
    (∀ hi, AbidesC W.heap.size hi (J hi)) → (∀ hi, AbidesC W.heap.size hi (Jx hi)) →
    (∀ hi pre x W1, J hi pre W1 → Sp (pre ++ [x]) → W.heap.size ≤ hi → hi ≤ W1.heap.size → YieldAt F (n - 1) P l (encs x) W1 fun e W' =>
      (e = .returned (.bool true) ∧ J hi (pre ++ [x]) W' ∧ KeepsC K W.heap.size hi W1 W') ∨ (e = .returned (.bool false) ∧ Jx hi (pre ++ [x]) W' ∧ KeepsC K W.heap.size hi W1 W')) →
    (∀ hi, W.heap.size ≤ hi → J hi [] W) →
    CallsIn F n P g (#[.func (.yield l) #[] #[]] ++ lb) W fun e W' => (∃ v, e = .returned v) ∧ ∃ hi, W.heap.size ≤ hi ∧ ((∃ xs, S xs ∧ J hi xs W') ∨ (∃ pre, Sp pre ∧ Jx hi pre W'))

/-- how the body of a round may be left -/
def postC {α : Type} (K : Nat → Prop) (lo hi : Nat) (I : Nat → List α → World → Prop) (Ix : Code → Nat → List α → World → Prop) (xs : List α) (W : World) : Exit → Act → World → Prop
  | .normal, _, W' => KeepsC K lo hi W W' ∧ I hi xs W'
  | .ret, _, W' => KeepsC K lo hi W W' ∧ Ix .ret hi xs W'
  | .exit id, _, W' => KeepsC K lo hi W W' ∧ Ix (.exit id) hi xs W'
  | .goto t, _, W' => KeepsC K lo hi W W' ∧ Ix (.goto t) hi xs W'
  | .panic _, _, _ => False
  | .outgrown, _, _ => False

theorem KeepsC.sub {K K' : Nat → Prop} {lo lo' hi : Nat} {A B : World} (h : KeepsC K lo hi A B) (hl : lo ≤ lo') (hK : ∀ r, K' r → lo ≤ r ∧ r < hi) : KeepsC K' lo' hi A B :=
  ⟨h.size, fun r hr => h.rows r (.inr (hr.elim (hK r) (fun h => ⟨by omega, h.2⟩))), fun r o hr ho hc => h.others r o (by omega) ho hc⟩
theorem grown_below {w w' : World} (h : Below w.heap.size w w') : w.grownBy w' none := ⟨h.os, h.tape, h.output, h.size, fun k hk _ => h.block k hk⟩
theorem RoundIn_any {F : Fence} (hd : F.depth = none) {m m' : Nat} {P : Program} {l l' : Nat} {f : FuncId} {tmps : Array Value} {assign body : Code} {w : World} {R : Ending → World → Prop} (h : RoundIn F m P l f tmps assign body w R) : RoundIn (F.inRound l') m' P l f tmps assign body w R :=
  ⟨h.1, fun c cs _ => h.2 c cs (fun d e => by rw [hd] at e; cases e)⟩
theorem grown_other {W W' : World} {row : Option Nat} {k : Nat} {o : Obj} (hg : W.grownBy W' row) (h : W.heap[k]? = some o) (hk : ∀ r, row = some r → r ≠ k) : W'.heap[k]? = some o :=
  (hg.block k (Array.getElem?_eq_some_iff.1 h).1 (fun e => hk k e.symm rfl)).trans h

variable {F : Fence} {n : Nat} {P : Program}
/-- THE CALLER's LAW. -/
theorem wpIn_rangeFunc_C {α : Type} {g : Operand} {ps : Array Tmp} {assign body : Code} {Q : Exit → Act → World → Prop} {a : Act} {w : World}
    (hro : F.round = none) (h1 : 1 ≤ n) {gf : Nat} {lb : Array Value} (hg : a.eval g = .func (.func gf) #[] lb) (hFg : F.fn gf) (eg : ∀ args w, (callFunc gf args).run P w = .ok (.enter gf args) w)
    {encs : α → Array Value} {K : Nat → Prop} {w0 : World} {S Sp : List α → Prop} (hseq : SeqC F (n - 1) P gf lb encs K w0 S Sp)
    (hb0 : ∀ r, K r → r < w0.heap.size ∧ w.heap[r]? = w0.heap[r]?) (hn0 : w0.heap.size ≤ w.heap.size) (hps : ∀ x, (encs x).size = ps.size)
    (I : Nat → List α → World → Prop) (Ix : Code → Nat → List α → World → Prop)
    (hI : ∀ hi, AbidesC w.heap.size hi (I hi)) (hIx : ∀ c hi, AbidesC w.heap.size hi (Ix c hi))
    (h0 : ∀ hi, w.heap.size ≤ hi → I hi [] w) (a₁ : α → Act)
    (hassign : ∀ (l : Nat) (x : α) (W : World) (Kc : Act → World → Prop), Kc (a₁ x) W →
      assign.wpIn (F.inRound l) (n - 1 - 1) P (Exit.then Kc (fun _ _ _ => False)) { tmps := (ps.zip (encs x)).foldl (fun t (p, v) => t.setIfInBounds p v) a.tmps, defers := [] } W)
    (hbody : ∀ (l hi : Nat) (pre : List α) (x : α) (W : World), w.heap.size + 2 ≤ hi → hi ≤ W.heap.size → Sp (pre ++ [x]) → I hi pre W → body.wpIn (F.inRound l) (n - 1 - 1) P (postC K w.heap.size hi I Ix (pre ++ [x]) W) (a₁ x) W)
    (hdone : ∀ (D hi : Nat) (xs : List α) (W : World), w.heap.size ≤ D → D < hi → S xs → I hi xs W → W.heap[D]? = some (.deferred (some [])) → Q .normal { a with defers := { target := .collected D, args := #[] } :: a.defers } W)
    (hstop : ∀ (D hi : Nat) (c : Code) (pre : List α) (W : World), w.heap.size ≤ D → D < hi → Sp pre → Ix c hi pre W → W.heap[D]? = some (.deferred (some [])) → c.wpIn F n P Q { a with defers := { target := .collected D, args := #[] } :: a.defers } W) :
    (Code.rangeFunc g ps assign body).wpIn F n P Q a w := by
  refine wpIn_rangeFunc ?_
  intro fn hfn
  rw [hro]
  obtain ⟨L, hL⟩ : ∃ L : LoopState → Option Code → Loop, L = fun st pe => { state := st, pending := pe, fn, tmps := a.tmps, params := ps, assign, body, defers := w.heap.size } := ⟨_, rfl⟩
  obtain ⟨s, hs⟩ : ∃ s, s = w.heap.size := ⟨_, rfl⟩
  obtain ⟨W1, hW1⟩ : ∃ W1, W1 = (w.alloc (.deferred (some []))).alloc (.loop (L .ready none)) := ⟨_, rfl⟩
  have z1 : W1.heap.size = s + 2 := by rw [hW1, hs]; simp
  have r1 : W1.heap[s + 1]? = some (.loop (L .ready none)) := by
    rw [hW1, hs]
    have := World.alloc_heap_new (w.alloc (.deferred (some []))) (.loop (L .ready none))
    rwa [World.size_alloc] at this
  have d1 : W1.heap[s]? = some (.deferred (some [])) := by
    rw [hW1, hs]; exact (Below.heap_alloc _ _ _ (by simp)).trans (World.alloc_heap_new w _)
  have turn0 : ∀ (hi : Nat) (A : World), MayTurn w.heap.size hi A none := fun _ _ r e => by cases e
  have i1 : ∀ hi, W1.heap.size ≤ hi → I hi [] W1 := by
    intro hi hh
    rw [hW1]
    exact hI hi _ _ _ none (hI hi _ _ _ none (h0 hi (by omega)) (World.grownBy_alloc w _ none) (turn0 _ _)) (World.grownBy_alloc _ _ none) (turn0 _ _)
  have hKw : ∀ r, K r → r < s := fun r hr => by have := (hb0 r hr).1; omega
  have b1 : ∀ r, K r → r < w0.heap.size ∧ W1.heap[r]? = w0.heap[r]? := fun r hr => by
    refine ⟨(hb0 r hr).1, ?_⟩
    rw [hW1, ← (hb0 r hr).2]
    have := hKw r hr
    exact (Below.heap_alloc _ _ _ (by simp; omega)).trans (Below.heap_alloc _ _ _ (by omega))
  have nK : ¬ K (s + 1) := fun h => by have := hKw _ h; omega
  have step : ∀ {β : Type} {J : β → World → Prop} {hi : Nat}, AbidesC w.heap.size hi J → ∀ s' (A A' : World) (row : Option Nat), J s' A → A.grownBy A' row → MayTurn W1.heap.size hi A row → J s' A' :=
    fun hJ s' A A' row hj hgr hm => hJ s' A A' row hj hgr (fun r e => ⟨by have := (hm r e).1; omega, (hm r e).2⟩)
  have past : ∀ {hi : Nat} {A : World} {row : Option Nat}, MayTurn W1.heap.size hi A row → ∀ k, k < s + 2 → ∀ r, row = some r → r ≠ k := fun hm k hk r e => by have := (hm r e).1; omega
  refine ⟨s + 1, [{ target := .collected s, args := #[] }], W1, { target := .fn (.func gf) lb, args := #[.func (.yield (s + 1)) #[] #[]] }, W1, gf,
    #[.func (.yield (s + 1)) #[] #[]] ++ lb, W1, ?_, ?_, ?_, ?_, fun _ => h1, ?_⟩
  · rw [hW1, hL, hs]; exact run_enterLoop_outer _ _ _ _ _
  · simp only [resolve, hg]
    simp [go_sem]
  · intro f' hf'; simp [Target.leads] at hf'; subst hf'; exact hFg
  · simp [invoke, go_sem, eg]
  · refine (hseq (s + 1)
      (fun hi pre W => I hi pre W ∧ W.heap[s + 1]? = some (.loop (L .ready none)) ∧ W.heap[s]? = some (.deferred (some [])))
      (fun hi pre W => ∃ c, Ix c hi pre W ∧ W.heap[s + 1]? = some (.loop (L .done (some c))) ∧ W.heap[s]? = some (.deferred (some [])))
      W1 b1 (by omega)
      (fun hi p A A' row hj hgr hm => ⟨step (hI hi) p A A' row hj.1 hgr hm, grown_other hgr hj.2.1 (past hm _ (by omega)), grown_other hgr hj.2.2 (past hm _ (by omega))⟩)
      (fun hi p A A' row hj hgr hm => by
        obtain ⟨c, h1, h2, h3⟩ := hj
        exact ⟨c, step (hIx c hi) p A A' row h1 hgr hm, grown_other hgr h2 (past hm _ (by omega)), grown_other hgr h3 (past hm _ (by omega))⟩)
      ?_ (fun hi hh => ⟨i1 hi hh, r1, d1⟩)).mono ?_
    · rintro hi pre x W ⟨hi0, hl, hk⟩ hsp hlo hhi
      have hlt : s + 1 < W.heap.size := (Array.getElem?_eq_some_iff.1 hl).1
      have hy := run_yield (P := P) (args := encs x) hl (by rw [hL]; exact hps x)
      rw [hL] at hy
      refine ⟨fn, _, assign, body, hy, roundIn_of_wpIn hfn (hassign _ x W _ ⟨_, run_beginRound hl (by rw [hL]), ?_⟩)⟩
      obtain ⟨Wb, hWb⟩ : ∃ Wb, Wb = W.putObj (s + 1) (.loop { L .ready none with state := .busy }) := ⟨_, rfl⟩
      have hl2 : Wb.heap[s + 1]? = some (.loop { L .ready none with state := .busy }) := by rw [hWb]; exact World.putObj_heap_same hlt
      have hk2 : Wb.heap[s]? = some (.deferred (some [])) := by rw [hWb]; exact (World.putObj_heap_other (by omega)).trans hk
      have zb : Wb.heap.size = W.heap.size := by rw [hWb]; simp
      have turnL : ∀ (A : World) (o : Obj), A.heap[s + 1]? = some o → o.isCells = false → MayTurn w.heap.size hi A (some (s + 1)) := fun A o ho hc r e => by cases e; exact ⟨by omega, .inr ⟨o, ho, hc⟩⟩
      have hib : I hi pre Wb := by rw [hWb]; exact hI hi _ _ _ _ hi0 (grownBy_putObj' W (s + 1) _) (turnL W _ hl rfl)
      have kb : KeepsC K W1.heap.size hi W Wb := by rw [hWb]; exact KeepsC.putObj W _ nK (by omega)
      have hlo2 : w.heap.size + 2 ≤ hi := by omega
      have hbd := hbody (s + 1) hi pre x Wb hlo2 (by omega) hsp hib
      rw [hWb] at hbd
      refine wpIn_mono hbd ?_
      rw [← hWb]
      have fin : ∀ (jump : Option Code) (W3 : World), KeepsC K w.heap.size hi Wb W3 →
          (Instr.endRound (s + 1) jump).run P W3 = .ok (.bool jump.isNone) (W3.putObj (s + 1) (.loop (L (if jump.isNone then .ready else .done) jump))) ∧
          MayTurn w.heap.size hi W3 (some (s + 1)) ∧
          (W3.putObj (s + 1) (.loop (L (if jump.isNone then .ready else .done) jump))).heap[s + 1]? = some (.loop (L (if jump.isNone then .ready else .done) jump)) ∧
          (W3.putObj (s + 1) (.loop (L (if jump.isNone then .ready else .done) jump))).heap[s]? = some (.deferred (some [])) ∧
          KeepsC K W1.heap.size hi W3 (W3.putObj (s + 1) (.loop (L (if jump.isNone then .ready else .done) jump))) := fun jump W3 hk3 => by
        have hl3 : W3.heap[s + 1]? = some (.loop { L .ready none with state := .busy }) := (hk3.rows _ (.inr ⟨by omega, by omega⟩)).trans hl2
        have hr := run_endRound (P := P) jump hl3
        have e1 : ({ { L .ready none with state := .busy } with state := if jump.isNone then .ready else .done, pending := jump } : Loop) = L (if jump.isNone then .ready else .done) jump := by rw [hL]
        rw [e1] at hr
        exact ⟨hr, turnL W3 _ hl3 rfl, World.putObj_heap_same (Array.getElem?_eq_some_iff.1 hl3).1, (World.putObj_heap_other (by omega)).trans ((hk3.rows _ (.inr ⟨by omega, by omega⟩)).trans hk2), KeepsC.putObj W3 _ nK (by omega)⟩
      rintro e a3 W3 hp
      cases e with
      | normal =>
        obtain ⟨hk3, hi3⟩ := hp
        obtain ⟨hr, ht, hl4, hk4, hk5⟩ := fin none W3 hk3
        exact ⟨_, _, hr, .inl ⟨rfl, ⟨hI hi _ _ _ _ hi3 (grownBy_putObj' W3 (s + 1) _) ht, hl4, hk4⟩, kb.trans ((hk3.less (by omega)).trans hk5)⟩⟩
      | ret =>
        obtain ⟨hk3, hi3⟩ := hp
        obtain ⟨hr, ht, hl4, hk4, hk5⟩ := fin (some .ret) W3 hk3
        exact ⟨_, _, hr, .inr ⟨rfl, ⟨.ret, hIx _ hi _ _ _ _ hi3 (grownBy_putObj' W3 (s + 1) _) ht, hl4, hk4⟩, kb.trans ((hk3.less (by omega)).trans hk5)⟩⟩
      | exit id =>
        obtain ⟨hk3, hi3⟩ := hp
        obtain ⟨hr, ht, hl4, hk4, hk5⟩ := fin (some (.exit id)) W3 hk3
        exact ⟨_, _, hr, .inr ⟨rfl, ⟨.exit id, hIx _ hi _ _ _ _ hi3 (grownBy_putObj' W3 (s + 1) _) ht, hl4, hk4⟩, kb.trans ((hk3.less (by omega)).trans hk5)⟩⟩
      | goto t =>
        obtain ⟨hk3, hi3⟩ := hp
        obtain ⟨hr, ht, hl4, hk4, hk5⟩ := fin (some (.goto t)) W3 hk3
        exact ⟨_, _, hr, .inr ⟨rfl, ⟨.goto t, hIx _ hi _ _ _ _ hi3 (grownBy_putObj' W3 (s + 1) _) ht, hl4, hk4⟩, kb.trans ((hk3.less (by omega)).trans hk5)⟩⟩
      | panic ch => exact hp.elim
      | outgrown => exact hp.elim
    · rintro e W2 ⟨⟨v, rfl⟩, hi, hlo, (⟨xs, hS, hi2, hl, hk⟩ | ⟨pre, hSp, c, hi2, hl, hk⟩)⟩
      · have ht : MayTurn w.heap.size hi W2 (some (s + 1)) := fun r e => by cases e; exact ⟨by omega, .inr ⟨_, hl, rfl⟩⟩
        have hr := run_endLoop (P := P) hl (by rw [hL]; simp)
        obtain ⟨o3, ho3⟩ : ∃ o3 : Obj, o3 = .loop { L .ready none with state := .exhausted } := ⟨_, rfl⟩
        rw [← ho3] at hr
        have e2 : (L .ready none).pending = none := by rw [hL]
        rw [e2] at hr
        refine ⟨none, _, hr, ?_⟩
        have := hdone s hi xs _ (by omega) (by omega) hS (hI hi _ _ _ _ hi2 (grownBy_putObj' W2 (s + 1) o3) ht) ((World.putObj_heap_other (by omega)).trans hk)
        exact this
      · have ht : MayTurn w.heap.size hi W2 (some (s + 1)) := fun r e => by cases e; exact ⟨by omega, .inr ⟨_, hl, rfl⟩⟩
        have hr := run_endLoop (P := P) hl (by rw [hL]; simp)
        obtain ⟨o3, ho3⟩ : ∃ o3 : Obj, o3 = .loop { L .done (some c) with state := .exhausted } := ⟨_, rfl⟩
        rw [← ho3] at hr
        have e2 : (L .done (some c)).pending = some c := by rw [hL]
        rw [e2] at hr
        refine ⟨some c, _, hr, ?_⟩
        exact hstop s hi c pre _ (by omega) (by omega) hSp (hIx c hi _ _ _ _ hi2 (grownBy_putObj' W2 (s + 1) o3) ht) ((World.putObj_heap_other (by omega)).trans hk)
end Go.Proofs.YtnbihjocdlpplaaGreatDoor
