/- Texts joined, one behind the other (DCount, DPrint). -/
import Derived.Test.YtnbihjocdlpplaaGreatDoorKq14
/- How many lines a text has, and whether a line has its end: by both. -/
namespace Go.Proofs.YtnbihjocdlpplaaGreatDoor
set_option linter.unusedVariables false
set_option linter.unusedSimpArgs false
open Go.RowKit Go.Shelf
open Go.Lib
attribute [local go_sem] Oper.semAt_some
set_option maxHeartbeats 4000000 in
set_option maxRecDepth 100000 in
theorem countC (w : World) (l : List UInt8) (hl : l.length ≤ 67108864) (hT : Tabs w) :
    Calls Tryz.prog 80 #[.string (bstr l)] w fun e w' => e = .returned (.int .i64 ((linesL l).length : Int)) ∧ Below w.heap.size w w' := by
  have hB7 := hT.size
  have HT := Lib.hid hT
  have hgf := enters_of Tryz.func90 (by kernel_rfl) rfl
  have HE := Lib.hid hgf
  clear hT hgf
  refine (callsIn_wide (n := 20)).1 ?_
  refine callsIn_of_wp_marks Tryz.func80 rfl trivial ?_ rfl
  simp only [Tryz.ntmps80, List.size_toArray, List.length_cons, List.length_nil, Nat.reduceAdd, Nat.reduceSub, Array.replicate_succ, Array.replicate_zero, List.push_toArray, List.append_toArray, List.nil_append, List.cons_append]
  gi_wp2_with (refine ⟨trivial, ?_⟩; gi_at_call 76; refine (callsIn_wide.2 (allC _ _)).mono ?_; rintro e w' ⟨rfl, hw'⟩)
  obtain ⟨s, hs⟩ : ∃ s, s = w.heap.size := ⟨_, rfl⟩
  have x1 : Boxed w' s 3 (.int .i64 0) := by rw [← hw', hs]; exact (Boxed.new w _ _).alloc _
  have x2 : Boxed w' (s + 1) 9 (.string (bstr l)) := by
    rw [← hw', hs]
    have := Boxed.new (w.alloc (.cells #[.int .i64 0] 3)) 9 (.string (bstr l))
    rwa [World.size_alloc] at this
  have zl : w'.heap.size = s + 2 := by rw [← hw', hs]; simp
  have bl : Below w.heap.size w w' := by rw [← hw']; exact ((Below.refl _ w).alloc (Nat.le_refl _) _).alloc (by simp) _
  rw [← hs] at bl hB7 ⊢
  have HTL : Hid (Tabs w') := Lib.hid (HT.out.below (hs ▸ bl) (by omega))
  have HSS := Lib.hid hs
  clear hs hw'
  have hseq := fun m hm => all1 m hm s (s + 1) w' l x2 hl HTL.out hB7 (by omega)
  have HSQ := Lib.hid hseq
  clear hseq
  refine wpIn_rangeFunc_C rfl (by decide) (gf := 90) (lb := #[.pointer (some ⟨s + 1, 0, none⟩)]) rfl trivial HE.out (HSQ.out 19 (by decide)) (fun r hr => ⟨by have hr : r < s ∨ r = s + 1 := hr; omega, rfl⟩) (Nat.le_refl _) (fun _ => rfl)
    (fun hi pre W => Below s w W ∧ Boxed W s 3 (.int .i64 (pre.length : Int)))
    (fun c hi pre W => False) ?hI ?hIx ?h0
    (fun x => { tmps := #[.string (bstr l), undef, .int .i64 0, .pointer (some ⟨s, 0, none⟩), .string (bstr l), .func (.func 90) #[] #[.pointer (some ⟨s + 1, 0, none⟩)], .agg #[.int .i64 (x.1 : Int), .int .i64 (x.2.1 : Int)], .int .i64 (x.2.2 : Int), undef, undef, undef], defers := [] }) ?assign ?body ?done ?stop
  case assign =>
    intro l' x Wx K hK
    obtain ⟨xa, xb, xe⟩ := x
    unfold pieceV
    gi_wp2
    exact hK
  case hI =>
    rintro hi pre A A' row ⟨h2, h3⟩ hg ht
    have ne : ∀ k, k < s + 2 → some k ≠ row := fun k hk e => by have := (ht k e.symm).1; omega
    exact ⟨h2.grown hg (by have := h3.lt; omega) (fun r e => by have := (ht r e).1; omega), h3.kept hg (ne _ (by omega))⟩
  case hIx =>
    rintro c hi pre A A' row h hg ht
    exact h
  case h0 =>
    intro hi hh
    exact ⟨bl, x1⟩
  case done =>
    rintro D hi xs Wx hD hDh rfl ⟨q2, q3⟩ hd
    have c3 := q3.cell
    have hlt := (Array.getElem?_eq_some_iff.1 hd).1
    have HQ2 := Lib.hid q2
    have HQ3 := Lib.hid q3
    clear q2 q3
    gi_wp2
    refine ⟨by simp, .inl ⟨_, _, rfl, run_takeDeferred hd, ?_⟩⟩
    refine ⟨_, results_tmp rfl _ _ _, rfl, ?_⟩
    rw [← HSS.out]
    exact HQ2.out.grown (grownBy_putObj' Wx D _) (by omega) (fun r e => by cases e; omega)
  case stop =>
    rintro D hi c pre Wx hD hDh hpre h hd
    exact h.elim
  case body =>
    rintro l' hi pre x Wx hhi1 hhi2 hpx ⟨q2, q3⟩
    have hpl := hpx.length_le
    have hll := linesL_len l
    rw [List.length_append, List.length_singleton] at hpl
    have c3 := q3.cell
    have f3 := q3.frozen
    have h1 : pre.length ≤ 67108864 := by omega
    have hn : (pre ++ [x]).length = pre.length + 1 := by simp
    have HQ2 := Lib.hid q2
    have HQ3 := Lib.hid q3
    obtain ⟨k, hk⟩ : ∃ k, k = pre.length := ⟨_, rfl⟩
    rw [← hk] at c3 h1 hn HQ3
    have HN := Lib.hid hn
    clear q2 q3 hpx hpl hn hk
    gi_wp2
    have hg : Wx.grownBy (Wx.setCell ⟨s, 0, none⟩ (.int .i64 ((k : Int) + 1))) (some s) := grownBy_setCell' Wx s _
    refine ⟨KeepsC.grown hg (fun r hr => by have hr : r < s ∨ r = s + 1 := hr; omega) (by omega) (fun r e => by cases e; exact ⟨fun h => by have h : s < s ∨ s = s + 1 := h; omega, .inl (by omega)⟩), HQ2.out.setCell (Nat.le_refl _) _, ?_⟩
    rw [HN.out, show ((k + 1 : Nat) : Int) = (k : Int) + 1 by omega]
    exact HQ3.out.set _
def endedL (l : List UInt8) : Bool := decide (1 < (linesL l).length)
theorem endsC (w : World) (l : List UInt8) (hl : l.length ≤ 67108864) (hT : Tabs w) :
    Calls Tryz.prog 54 #[.string (bstr l)] w fun e w' => e = .returned (.bool (endedL l)) ∧ Below w.heap.size w w' := by
  have HC := Lib.hid (countC w l hl hT)
  have hE : (decide ((1 : Int) < ((linesL l).length : Int))) = endedL l := by
    unfold endedL
    rw [decide_eq_decide]
    omega
  have HE := Lib.hid hE
  obtain ⟨n, hn⟩ : ∃ n, n = (linesL l).length := ⟨_, rfl⟩
  rw [← hn] at HC HE
  clear hE hn hT
  go_enter Tryz.func54, Tryz.ntmps54
  go_wp2_with (go_at_call 80; refine (HC.out).mono ?_; rintro e w1 ⟨rfl, hb1⟩; have HB1 := Lib.hid hb1; clear hb1)
  go_ret
  refine ⟨?_, HB1.out⟩
  rw [← HE.out]
  by_cases h : 1 < n
  · rw [decide_eq_true (show (1 : Int) < (n : Int) by omega)]; simp [h]
  · rw [decide_eq_false (show ¬ (1 : Int) < (n : Int) by omega)]; simp [h]
theorem endedR (w : World) (l : List UInt8) (hl : l.length ≤ 67108864) :
    Calls Tryz.prog 67 #[.string (bstr l)] w fun e w' => e = .returned (.bool (endedL l)) ∧ Below w.heap.size w w' := by
  have HC := Lib.hid (allR w l hl)
  have hE : (decide ((1 : Int) < ((linesL l).length : Int))) = endedL l := by
    unfold endedL
    rw [decide_eq_decide]
    omega
  have HE := Lib.hid hE
  clear hE
  go_enter Tryz.func67, Tryz.ntmps67
  go_wp2_with (go_at_call 86; refine (HC.out).mono ?_; rintro e w1 ⟨v1, rfl, hO1, hb1⟩; obtain ⟨a1, c1, rfl⟩ := slice_own hO1; have HB1 := Lib.hid hb1; clear hb1 hO1)
  go_ret
  refine ⟨?_, HB1.out⟩
  rw [← HE.out]
  by_cases h : 1 < (linesL l).length
  · rw [decide_eq_true (show (1 : Int) < ((linesL l).length : Int) by omega)]; simp [h]
  · rw [decide_eq_false (show ¬ (1 : Int) < ((linesL l).length : Int) by omega)]; simp [h]
end Go.Proofs.YtnbihjocdlpplaaGreatDoor
/- A patch's text, by both. -/
namespace Go.Proofs.YtnbihjocdlpplaaGreatDoor
set_option linter.unusedVariables false
set_option linter.unusedSimpArgs false
open Go.RowKit
open Go.Lib hiding intOf
/-- a builder that holds these bytes -/
def IsB (B : Nat) (acc : List UInt8) (w : World) : Prop := Lib.IsBuilderF 87 5 B B (Lib.byteCells acc) w
theorem IsB.below {B : Nat} {acc : List UInt8} {w w' : World} (h : IsB B acc w) (b : Below w.heap.size w w') : IsB B acc w' := by
  have hat : ∀ p, Lib.BuilderAtF 87 5 B B p (Lib.byteCells acc) w → Lib.BuilderAtF 87 5 B B p (Lib.byteCells acc) w' := by
    rintro p ⟨h1, v, h2, h3, h4⟩
    refine ⟨h1, v, (b.block B (Array.getElem?_eq_some_iff.1 h2).1).trans h2, ?_, h4⟩
    refine ⟨h3.1, ?_⟩
    rcases h3.2 with hn | ⟨g, cap, cur, fz, rfl, hb, hgg, rest⟩
    · exact .inl hn
    · exact .inr ⟨g, cap, cur, fz, rfl, hb, (b.block g (Array.getElem?_eq_some_iff.1 hgg).1).trans hgg, rest⟩
  exact h.elim (fun x => .inl (hat _ x)) (fun x => .inr (hat _ x))
theorem isB_fresh (w : World) : IsB w.heap.size [] (w.alloc (.cells #[.pointer none, .slice none 0 0] 87)) := Lib.IsBuilderF.of (Lib.fresh_isBuilder _ _ w)
theorem writeByteC (B : Nat) (acc : List UInt8) (x : UInt8) (w : World) (h : IsB B acc w) (hl : acc.length ≤ 1099511627776) (hB : B ≤ w.heap.size) :
    Calls Tryz.prog 52 #[.pointer (some ⟨B, 0, none⟩), .int .u8 (x.toNat : Int)] w fun e w' => e = .returned .nilIface ∧ IsB B (acc ++ [x]) w' ∧ Below B w w' ∧ Lib.OthersKept 5 (some B) w w' := by
  refine (Tryz.Builder_WriteByte_k B B _ (x.toNat : Int) w h (by rw [Lib.byteCells_length]; omega) hB).mono ?_
  rintro e w' ⟨rfl, h1, b1, b2⟩
  exact ⟨rfl, by unfold IsB; rw [Lib.byteCells_append]; exact Or.inr h1, b1, b2⟩
theorem writeStrC (B : Nat) (acc s : List UInt8) (w : World) (h : IsB B acc w) (hl : acc.length ≤ 1099511627776) (hs : s.length ≤ 1099511627776) (hB : B ≤ w.heap.size) :
    Calls Tryz.prog 53 #[.pointer (some ⟨B, 0, none⟩), .string (bstr s)] w fun e w' => e = .returned (.tuple #[.int .i64 (s.length : Int), .nilIface]) ∧ IsB B (acc ++ s) w' ∧ Below B w w' ∧ Lib.OthersKept 5 (some B) w w' := by
  refine (Tryz.Builder_WriteString_k B B _ (bstr s) w h (by rw [Lib.byteCells_length, bstr_size]; omega) hB).mono ?_
  rintro e w' ⟨rfl, h1, b1, b2⟩
  exact ⟨by rw [bstr_size], by unfold IsB; rw [Lib.byteCells_append]; exact Or.inr h1, b1, b2⟩
theorem stringC (B : Nat) (acc : List UInt8) (w : World) (h : IsB B acc w) (hB : B ≤ w.heap.size) :
    Calls Tryz.prog 55 #[.pointer (some ⟨B, 0, none⟩)] w fun e w' => e = .returned (.string (bstr acc)) ∧ Below B w w' := by
  refine (Tryz.Builder_String_any_k B B acc w h hB).mono ?_
  rintro e w' ⟨rfl, _, b1, _⟩
  exact ⟨rfl, b1⟩
/-- a patch's text -/
def sgn (k : Int) : UInt8 := if k = 1 then 32 else if k = 2 then 45 else 43
def tailP (s : List UInt8) : List UInt8 := if endedL s = true then [] else [10, 92, 10]
def rowP (k : Int) (s : List UInt8) : List UInt8 := sgn k :: (s ++ tailP s)
def printK (X : List HkI) : List UInt8 := X.flatMap fun h => h.2.flatMap (rowP h.1)
def printE (X : List HkI) : Ending := if checkB X = true then .returned (.tuple #[.string (bstr (printK X)), .int .i64 0]) else .returned (.tuple #[.string (bstr []), .int .i64 310])
theorem rowP_len (k : Int) (s : List UInt8) : (rowP k s).length ≤ s.length + 4 := by
  unfold rowP tailP
  split <;> simp
theorem rows_len (k : Int) (L : List (List UInt8)) : (L.flatMap (rowP k)).length ≤ L.flatten.length + 4 * L.length := by
  induction L with
  | nil => simp
  | cons s L ih =>
    have := rowP_len k s
    rw [List.flatMap_cons, List.length_append, List.flatten_cons, List.length_append, List.length_cons]
    omega
theorem printK_len (X : List HkI) : (printK X).length ≤ bytesK X + 4 * linesK X := by
  induction X with
  | nil => exact Nat.le_refl _
  | cons x X ih =>
    have := rows_len x.1 x.2
    unfold printK bytesK linesK at *
    rw [List.flatMap_cons, List.length_append, List.map_cons, List.sum_cons, List.map_cons, List.sum_cons]
    omega
theorem printK_drop {X : List HkI} {i : Nat} {x : HkI} (h : X[i]? = some x) : printK (X.drop i) = x.2.flatMap (rowP x.1) ++ printK (X.drop (i + 1)) := by
  rw [drop_consK h]; rfl
theorem rows_drop {L : List (List UInt8)} {j : Nat} {s : List UInt8} {k : Int} (h : L[j]? = some s) : (L.drop j).flatMap (rowP k) = sgn k :: (s ++ (tailP s ++ (L.drop (j + 1)).flatMap (rowP k))) := by
  obtain ⟨h1, h2⟩ := List.getElem?_eq_some_iff.1 h
  rw [List.drop_eq_getElem_cons h1, h2, List.flatMap_cons]
  simp [rowP]
theorem pre_len {a b c : List UInt8} (h : a ++ b = c) : a.length ≤ c.length := by rw [← h, List.length_append]; omega
theorem kept_row {p hb : Nat} {w w' : World} {e : TypeId} {xs : List Value} (h : Lib.OthersKept 5 (some p) w w') (hr : Row w hb e xs) (hne : hb ≠ p) (he : e ≠ 5) : Row w' hb e xs :=
  h hb _ hr (fun e' => hne (Option.some.inj e')) (fun c fz e' => by cases e'; exact he rfl)
set_option maxHeartbeats 16000000 in
set_option maxRecDepth 100000 in
theorem printC (w : World) (a : Option Addr) (n c : Nat) (X : List HkI) (hX : ReadsK w a n X) (hF : Fit X) (hT : Tabs w) :
    Calls Tryz.prog 19 #[.slice a n c] w fun e w' => e = printE X ∧ Below w.heap.size w w' := by
  have HX := Lib.hid hX
  have HN := Lib.hid hX.len
  have hn : n ≤ 16777216 := by rw [← hX.len]; exact hF.1
  have HC := Lib.hid (checkC w a n c X hX hF hT)
  have HBY := Lib.hid hF.2.2
  have HT := Lib.hid hT
  clear hX hF hT
  by_cases hk : checkB X = true
  · have HK : Hid (errP (checkB X) = 0) := Lib.hid (by rw [hk]; rfl)
    rw [HK.out] at HC
    have HCK := Lib.hid hk
    have HPE : Hid (printE X = .returned (.tuple #[.string (bstr (printK X)), .int .i64 0])) := Lib.hid (by unfold printE; rw [if_pos hk])
    have hl := check_lines hk
    have HL := Lib.hid hl
    have hpl : (printK X).length ≤ 67200000 := by have := printK_len X; have := HBY.out; omega
    have HPL := Lib.hid hpl
    clear hk hpl
    go_enter Tryz.func19, Tryz.ntmps19
    go_upto_region 4 with (go_at_call 18; refine (HC.out).mono ?_; rintro e w3 ⟨rfl, hb3⟩; have HB3 := Lib.hid hb3; clear hb3)
    obtain ⟨p, hp⟩ : ∃ p, p = w3.heap.size := ⟨_, rfl⟩
    go_upto_region 5 with (fail)
    rw [← hp]
    obtain ⟨w6, hw6⟩ : ∃ x, x = w3.alloc (Obj.cells #[Value.pointer none, Value.slice none 0 0] 87) := ⟨_, rfl⟩
    rw [← hw6]
    have HW6 : Hid (IsB p [] w6 ∧ Below p w3 w6) := by
      rw [hw6, hp]
      exact Lib.hid ⟨isB_fresh w3, (Below.refl _ w3).alloc (Nat.le_refl _) _⟩
    have hz6 : p ≤ w6.heap.size := by rw [hw6, hp]; simp
    have HE := Lib.hid hp
    have HX3 : Hid (ReadsK w3 a n X) := Lib.hid (HX.out.keep HB3.out (Nat.le_refl _))
    have HT3 : Hid (Tabs w3) := Lib.hid (HT.out.next HB3.out)
    have hp4 : 4 ≤ p := by rw [hp]; exact HT3.out.size
    clear hw6 hp
    go_wp2
    go_loopw [17] (fun ui wr => ∃ (i : Nat) (acc : List UInt8), ui = .int .i64 (i : Int) ∧ i ≤ n ∧ Hid (IsB p acc wr ∧ Below p w3 wr ∧ acc ++ printK (X.drop i) = printK X ∧ p ≤ wr.heap.size)) (fun ui _ => n - (RowKit.intOf ui).toNat)
    case atStart => exact ⟨0, [], rfl, Nat.zero_le _, Lib.hid ⟨HW6.out.1, HW6.out.2, rfl, hz6⟩⟩
    case round =>
      obtain ⟨i, acc, rfl, hi, HR⟩ := hrel
      have hps := HR.out.2.2.2
      by_cases hlt : i < n
      · obtain ⟨b, off, x, ad, m, cm, rfl, hb, hx, hc0, hc1, hrs, hmc, hcm, hm⟩ := HX3.out.at hlt
        rw [← HE.out] at hb
        have hd0 : wr.cell? ⟨b, off + i * 2, none⟩ = some (.int .i64 x.1) := (HR.out.2.1.cell (p := ⟨b, off + i * 2, none⟩) hb).trans hc0
        have hd1 : wr.cell? ⟨b, off + i * 2 + 1, none⟩ = some (.slice ad m cm) := (HR.out.2.1.cell (p := ⟨b, off + i * 2 + 1, none⟩) hb).trans hc1
        have hkx : 1 ≤ x.1 ∧ x.1 ≤ 3 := by
          have h1 := HCK.out
          unfold checkB at h1
          rw [Bool.and_eq_true, Bool.and_eq_true] at h1
          exact (okB_mem X 0 h1.1.1 x (List.mem_of_getElem? hx)).1
        have hml : m ≤ 1024 := by
          have h1 := linesK_mem (List.mem_of_getElem? hx)
          omega
        have hxb : ∀ s ∈ x.2, s.length ≤ 67108864 := fun s hs => by
          have h1 := flat_le2 hs
          have h2 := bytesK_mem (List.mem_of_getElem? hx)
          have h3 := HBY.out
          omega
        have hfold := HR.out.2.2.1
        rw [printK_drop hx] at hfold
        obtain ⟨kd, hkd⟩ : ∃ kd, kd = x.1 := ⟨_, rfl⟩
        rw [← hkd] at hd0 hkx hfold
        have HFO := Lib.hid hfold
        have HXB := Lib.hid hxb
        have HRS := Lib.hid hrs
        have HM := Lib.hid hm
        have HKX := Lib.hid hkx
        have hit : (i : Int) < (n : Int) := by omega
        clear hx hrs hm hmc hc0 hc1 hkd hfold hxb hkx hb
        obtain ⟨hb, hhb⟩ : ∃ hb, hb = wr.heap.size := ⟨_, rfl⟩
        have hbp0 := HR.out.1
        go_upto_region 8 with (fail)
        rw [← hhb]
        obtain ⟨w7, hw7⟩ : ∃ x, x = wr.alloc (Obj.cells #[Value.int IntKind.i64 kd, Value.slice ad m cm] 25) := ⟨_, rfl⟩
        rw [← hw7]
        have hrow7 : Row w7 hb 25 [Value.int IntKind.i64 kd, Value.slice ad m cm] := by
          rw [hw7, hhb]; exact row_new wr [Value.int IntKind.i64 kd, Value.slice ad m cm] 25
        have hbp : hb ≠ p := by
          have hlt : p < wr.heap.size := by
            rcases hbp0 with ⟨_, v, h2, _⟩ | ⟨_, v, h2, _⟩
            · exact (Array.getElem?_eq_some_iff.1 h2).1
            · exact (Array.getElem?_eq_some_iff.1 h2).1
          omega
        have HW7 : Hid (IsB p acc w7 ∧ Below p w3 w7) := by
          rw [hw7]
          exact Lib.hid ⟨HR.out.1.below ((Below.refl _ wr).alloc (Nat.le_refl _) _), HR.out.2.1.alloc hps _⟩
        have hz7 : p ≤ w7.heap.size := by rw [hw7]; simp; omega
        have HROW7 := Lib.hid hrow7
        have f0 : w7.cell? ⟨hb, 0, none⟩ = some (Value.int IntKind.i64 kd) := hrow7.cell 0
        have f1 : w7.cell? ⟨hb, 1, none⟩ = some (Value.slice ad m cm) := hrow7.cell 1
        clear hw7 hhb hrow7 hd0 hd1 HR hps hbp0
        obtain ⟨acc0, hacc0⟩ : ∃ acc0, acc0 = acc := ⟨_, rfl⟩
        rw [← hacc0] at HFO HW7
        clear hacc0 acc
        go_wp2
        go_loopw [24] (fun uj wq => ∃ (j : Nat) (acc : List UInt8), uj = .int .i64 (j : Int) ∧ j ≤ m ∧ Hid (IsB p acc wq ∧ Below p w3 wq ∧ Row wq hb 25 [Value.int IntKind.i64 kd, Value.slice ad m cm] ∧ acc ++ ((x.2.drop j).flatMap (rowP kd) ++ printK (X.drop (i + 1))) = printK X)) (fun uj _ => m - (RowKit.intOf uj).toNat)
        case atStart => exact ⟨0, acc0, rfl, Nat.zero_le _, Lib.hid ⟨HW7.out.1, HW7.out.2, HROW7.out, HFO.out⟩⟩
        case round =>
          obtain ⟨j, acc, rfl, hj, HQ⟩ := hrel
          have g0 : wr.cell? ⟨hb, 0, none⟩ = some (Value.int IntKind.i64 kd) := HQ.out.2.2.1.cell 0
          have g1 : wr.cell? ⟨hb, 1, none⟩ = some (Value.slice ad m cm) := HQ.out.2.2.1.cell 1
          have hpq : p ≤ wr.heap.size := by
            have hlt : p < wr.heap.size := by
              rcases HQ.out.1 with ⟨_, v, h2, _⟩ | ⟨_, v, h2, _⟩
              · exact (Array.getElem?_eq_some_iff.1 h2).1
              · exact (Array.getElem?_eq_some_iff.1 h2).1
            omega
          by_cases hjl : j < m
          · obtain ⟨bl, ol, s, rfl, hbl, hs, hcs⟩ := (HRS.out.keep HQ.out.2.1 (Nat.le_of_eq HE.out.symm)).at hjl
            have hls2 := HXB.out s (List.mem_of_getElem? hs)
            have hls : s.length ≤ 1099511627776 := by omega
            have hacc : acc.length ≤ 1099511627000 := by have h1 := pre_len HQ.out.2.2.2; have h2 := HPL.out; omega
            have hacc2 : acc.length ≤ 67200000 := by have h1 := pre_len HQ.out.2.2.2; have h2 := HPL.out; omega
            have hfo := HQ.out.2.2.2
            rw [rows_drop hs] at hfo
            have HNF : Hid (acc ++ (sgn kd :: (s ++ (tailP s ++ ((x.2.drop (j + 1)).flatMap (rowP kd) ++ printK (X.drop (i + 1)))))) = printK X) := Lib.hid (by rw [← hfo]; simp)
            have HEN := Lib.hid (fun W hW => endsC W s hls2 hW)
            have hjt : (j : Int) < (m : Int) := by omega
            clear hs hfo hbl
            have hk3 : kd = 1 ∨ kd = 2 ∨ kd = 3 := by have := HKX.out; omega
            replace hacc : acc.length ≤ 1099511627776 := by omega
            rcases hk3 with rfl | rfl | rfl
            · have e1 : sgn 1 = 32 := rfl
              rw [e1] at HNF
              have hcases : endedL s = true ∨ endedL s = false := by cases endedL s <;> simp
              rcases hcases with he | he
              · have ht : tailP s = [] := by unfold tailP; rw [he]; rfl
                rw [ht, List.nil_append] at HNF
                rw [he] at HEN
                clear ht he
                go_wp2_with (first
                  | (go_at_call 52; refine (writeByteC p acc 32 wr HQ.out.1 hacc hpq).mono ?_; rintro e w8 ⟨rfl, h1, h2, h3⟩; have HI8 := Lib.hid h1; have HB8 := Lib.hid h2; have HK8 := Lib.hid h3; have hz8 := Nat.le_trans hpq h2.size; clear h1 h2 h3)
                  | (go_at_call 53; refine (writeStrC p (acc ++ [32]) s w8 HI8.out (by simp; omega) hls hz8).mono ?_; rintro e w9 ⟨rfl, h1, h2, h3⟩; have HI9 := Lib.hid h1; have HB9 := Lib.hid (HB8.out.trans h2); have HK9 := Lib.hid (HK8.out.trans h3); have hz9 := Nat.le_trans hz8 h2.size; clear h1 h2 h3)
                  | (go_at_call 54; refine (HEN.out w9 (HT3.out.below (HQ.out.2.1.trans HB9.out) hp4)).mono ?_; rintro e w10 ⟨rfl, h1⟩; have HI10 := Lib.hid (HI9.out.below h1); have HB10 := Lib.hid (HB9.out.trans (h1.mono hz9)); have HR10 := Lib.hid ((kept_row HK9.out HQ.out.2.2.1 hbp (by decide)).keep h1 (Row.lt (kept_row HK9.out HQ.out.2.2.1 hbp (by decide)))); clear h1))
                have HNX : Hid (IsB p ((acc ++ [32]) ++ s) w10 ∧ Below p w3 w10 ∧ Row w10 hb 25 [Value.int IntKind.i64 1, Value.slice (some ⟨bl, ol, none⟩) m cm]) := Lib.hid ⟨HI10.out, HQ.out.2.1.trans HB10.out, HR10.out⟩
                go_roundw
                case rel => exact ⟨j + 1, _, by go_num, hjl, Lib.hid ⟨HNX.out.1, HNX.out.2.1, HNX.out.2.2, by rw [← HNF.out]; simp⟩⟩
                case measure => simp [RowKit.intOf]; omega
              · have ht : tailP s = [10, 92, 10] := by unfold tailP; rw [he]; rfl
                rw [ht] at HNF
                rw [he] at HEN
                clear ht he
                go_wp2_with (first
                  | (go_at_call 52; refine (writeByteC p acc 32 wr HQ.out.1 hacc hpq).mono ?_; rintro e w8 ⟨rfl, h1, h2, h3⟩; have HI8 := Lib.hid h1; have HB8 := Lib.hid h2; have HK8 := Lib.hid h3; have hz8 := Nat.le_trans hpq h2.size; clear h1 h2 h3)
                  | (go_at_call_of 53 (Value.string (bstr s)); refine (writeStrC p (acc ++ [32]) s w8 HI8.out (by simp; omega) hls hz8).mono ?_; rintro e w9 ⟨rfl, h1, h2, h3⟩; have HI9 := Lib.hid h1; have HB9 := Lib.hid (HB8.out.trans h2); have HK9 := Lib.hid (HK8.out.trans h3); have hz9 := Nat.le_trans hz8 h2.size; clear h1 h2 h3)
                  | (go_at_call 54; refine (HEN.out w9 (HT3.out.below (HQ.out.2.1.trans HB9.out) hp4)).mono ?_; rintro e w10 ⟨rfl, h1⟩; have HI10 := Lib.hid (HI9.out.below h1); have HB10 := Lib.hid (HB9.out.trans (h1.mono hz9)); have HR10 := Lib.hid ((kept_row HK9.out HQ.out.2.2.1 hbp (by decide)).keep h1 (Row.lt (kept_row HK9.out HQ.out.2.2.1 hbp (by decide)))); have hz10 := Nat.le_trans hz9 h1.size; clear h1)
                  | (go_at_call 53; refine (writeStrC p ((acc ++ [32]) ++ s) [10, 92, 10] w10 HI10.out (by simp; omega) (by simp) hz10).mono ?_; rintro e w11 ⟨rfl, h1, h2, h3⟩; have HI11 := Lib.hid h1; have HB11 := Lib.hid (HB10.out.trans h2); have HR11 := Lib.hid (kept_row h3 HR10.out hbp (by decide)); clear h1 h2 h3))
                have HNX : Hid (IsB p (((acc ++ [32]) ++ s) ++ [10, 92, 10]) w11 ∧ Below p w3 w11 ∧ Row w11 hb 25 [Value.int IntKind.i64 1, Value.slice (some ⟨bl, ol, none⟩) m cm]) := Lib.hid ⟨HI11.out, HQ.out.2.1.trans HB11.out, HR11.out⟩
                go_roundw
                case rel => exact ⟨j + 1, _, by go_num, hjl, Lib.hid ⟨HNX.out.1, HNX.out.2.1, HNX.out.2.2, by rw [← HNF.out]; simp⟩⟩
                case measure => simp [RowKit.intOf]; omega
            · have e1 : sgn 2 = 45 := rfl
              rw [e1] at HNF
              have hcases : endedL s = true ∨ endedL s = false := by cases endedL s <;> simp
              rcases hcases with he | he
              · have ht : tailP s = [] := by unfold tailP; rw [he]; rfl
                rw [ht, List.nil_append] at HNF
                rw [he] at HEN
                clear ht he
                go_wp2_with (first
                  | (go_at_call 52; refine (writeByteC p acc 45 wr HQ.out.1 hacc hpq).mono ?_; rintro e w8 ⟨rfl, h1, h2, h3⟩; have HI8 := Lib.hid h1; have HB8 := Lib.hid h2; have HK8 := Lib.hid h3; have hz8 := Nat.le_trans hpq h2.size; clear h1 h2 h3)
                  | (go_at_call 53; refine (writeStrC p (acc ++ [45]) s w8 HI8.out (by simp; omega) hls hz8).mono ?_; rintro e w9 ⟨rfl, h1, h2, h3⟩; have HI9 := Lib.hid h1; have HB9 := Lib.hid (HB8.out.trans h2); have HK9 := Lib.hid (HK8.out.trans h3); have hz9 := Nat.le_trans hz8 h2.size; clear h1 h2 h3)
                  | (go_at_call 54; refine (HEN.out w9 (HT3.out.below (HQ.out.2.1.trans HB9.out) hp4)).mono ?_; rintro e w10 ⟨rfl, h1⟩; have HI10 := Lib.hid (HI9.out.below h1); have HB10 := Lib.hid (HB9.out.trans (h1.mono hz9)); have HR10 := Lib.hid ((kept_row HK9.out HQ.out.2.2.1 hbp (by decide)).keep h1 (Row.lt (kept_row HK9.out HQ.out.2.2.1 hbp (by decide)))); clear h1))
                have HNX : Hid (IsB p ((acc ++ [45]) ++ s) w10 ∧ Below p w3 w10 ∧ Row w10 hb 25 [Value.int IntKind.i64 2, Value.slice (some ⟨bl, ol, none⟩) m cm]) := Lib.hid ⟨HI10.out, HQ.out.2.1.trans HB10.out, HR10.out⟩
                go_roundw
                case rel => exact ⟨j + 1, _, by go_num, hjl, Lib.hid ⟨HNX.out.1, HNX.out.2.1, HNX.out.2.2, by rw [← HNF.out]; simp⟩⟩
                case measure => simp [RowKit.intOf]; omega
              · have ht : tailP s = [10, 92, 10] := by unfold tailP; rw [he]; rfl
                rw [ht] at HNF
                rw [he] at HEN
                clear ht he
                go_wp2_with (first
                  | (go_at_call 52; refine (writeByteC p acc 45 wr HQ.out.1 hacc hpq).mono ?_; rintro e w8 ⟨rfl, h1, h2, h3⟩; have HI8 := Lib.hid h1; have HB8 := Lib.hid h2; have HK8 := Lib.hid h3; have hz8 := Nat.le_trans hpq h2.size; clear h1 h2 h3)
                  | (go_at_call_of 53 (Value.string (bstr s)); refine (writeStrC p (acc ++ [45]) s w8 HI8.out (by simp; omega) hls hz8).mono ?_; rintro e w9 ⟨rfl, h1, h2, h3⟩; have HI9 := Lib.hid h1; have HB9 := Lib.hid (HB8.out.trans h2); have HK9 := Lib.hid (HK8.out.trans h3); have hz9 := Nat.le_trans hz8 h2.size; clear h1 h2 h3)
                  | (go_at_call 54; refine (HEN.out w9 (HT3.out.below (HQ.out.2.1.trans HB9.out) hp4)).mono ?_; rintro e w10 ⟨rfl, h1⟩; have HI10 := Lib.hid (HI9.out.below h1); have HB10 := Lib.hid (HB9.out.trans (h1.mono hz9)); have HR10 := Lib.hid ((kept_row HK9.out HQ.out.2.2.1 hbp (by decide)).keep h1 (Row.lt (kept_row HK9.out HQ.out.2.2.1 hbp (by decide)))); have hz10 := Nat.le_trans hz9 h1.size; clear h1)
                  | (go_at_call 53; refine (writeStrC p ((acc ++ [45]) ++ s) [10, 92, 10] w10 HI10.out (by simp; omega) (by simp) hz10).mono ?_; rintro e w11 ⟨rfl, h1, h2, h3⟩; have HI11 := Lib.hid h1; have HB11 := Lib.hid (HB10.out.trans h2); have HR11 := Lib.hid (kept_row h3 HR10.out hbp (by decide)); clear h1 h2 h3))
                have HNX : Hid (IsB p (((acc ++ [45]) ++ s) ++ [10, 92, 10]) w11 ∧ Below p w3 w11 ∧ Row w11 hb 25 [Value.int IntKind.i64 2, Value.slice (some ⟨bl, ol, none⟩) m cm]) := Lib.hid ⟨HI11.out, HQ.out.2.1.trans HB11.out, HR11.out⟩
                go_roundw
                case rel => exact ⟨j + 1, _, by go_num, hjl, Lib.hid ⟨HNX.out.1, HNX.out.2.1, HNX.out.2.2, by rw [← HNF.out]; simp⟩⟩
                case measure => simp [RowKit.intOf]; omega
            · have e1 : sgn 3 = 43 := rfl
              rw [e1] at HNF
              have hcases : endedL s = true ∨ endedL s = false := by cases endedL s <;> simp
              rcases hcases with he | he
              · have ht : tailP s = [] := by unfold tailP; rw [he]; rfl
                rw [ht, List.nil_append] at HNF
                rw [he] at HEN
                clear ht he
                go_wp2_with (first
                  | (go_at_call 52; refine (writeByteC p acc 43 wr HQ.out.1 hacc hpq).mono ?_; rintro e w8 ⟨rfl, h1, h2, h3⟩; have HI8 := Lib.hid h1; have HB8 := Lib.hid h2; have HK8 := Lib.hid h3; have hz8 := Nat.le_trans hpq h2.size; clear h1 h2 h3)
                  | (go_at_call 53; refine (writeStrC p (acc ++ [43]) s w8 HI8.out (by simp; omega) hls hz8).mono ?_; rintro e w9 ⟨rfl, h1, h2, h3⟩; have HI9 := Lib.hid h1; have HB9 := Lib.hid (HB8.out.trans h2); have HK9 := Lib.hid (HK8.out.trans h3); have hz9 := Nat.le_trans hz8 h2.size; clear h1 h2 h3)
                  | (go_at_call 54; refine (HEN.out w9 (HT3.out.below (HQ.out.2.1.trans HB9.out) hp4)).mono ?_; rintro e w10 ⟨rfl, h1⟩; have HI10 := Lib.hid (HI9.out.below h1); have HB10 := Lib.hid (HB9.out.trans (h1.mono hz9)); have HR10 := Lib.hid ((kept_row HK9.out HQ.out.2.2.1 hbp (by decide)).keep h1 (Row.lt (kept_row HK9.out HQ.out.2.2.1 hbp (by decide)))); clear h1))
                have HNX : Hid (IsB p ((acc ++ [43]) ++ s) w10 ∧ Below p w3 w10 ∧ Row w10 hb 25 [Value.int IntKind.i64 3, Value.slice (some ⟨bl, ol, none⟩) m cm]) := Lib.hid ⟨HI10.out, HQ.out.2.1.trans HB10.out, HR10.out⟩
                go_roundw
                case rel => exact ⟨j + 1, _, by go_num, hjl, Lib.hid ⟨HNX.out.1, HNX.out.2.1, HNX.out.2.2, by rw [← HNF.out]; simp⟩⟩
                case measure => simp [RowKit.intOf]; omega
              · have ht : tailP s = [10, 92, 10] := by unfold tailP; rw [he]; rfl
                rw [ht] at HNF
                rw [he] at HEN
                clear ht he
                go_wp2_with (first
                  | (go_at_call 52; refine (writeByteC p acc 43 wr HQ.out.1 hacc hpq).mono ?_; rintro e w8 ⟨rfl, h1, h2, h3⟩; have HI8 := Lib.hid h1; have HB8 := Lib.hid h2; have HK8 := Lib.hid h3; have hz8 := Nat.le_trans hpq h2.size; clear h1 h2 h3)
                  | (go_at_call_of 53 (Value.string (bstr s)); refine (writeStrC p (acc ++ [43]) s w8 HI8.out (by simp; omega) hls hz8).mono ?_; rintro e w9 ⟨rfl, h1, h2, h3⟩; have HI9 := Lib.hid h1; have HB9 := Lib.hid (HB8.out.trans h2); have HK9 := Lib.hid (HK8.out.trans h3); have hz9 := Nat.le_trans hz8 h2.size; clear h1 h2 h3)
                  | (go_at_call 54; refine (HEN.out w9 (HT3.out.below (HQ.out.2.1.trans HB9.out) hp4)).mono ?_; rintro e w10 ⟨rfl, h1⟩; have HI10 := Lib.hid (HI9.out.below h1); have HB10 := Lib.hid (HB9.out.trans (h1.mono hz9)); have HR10 := Lib.hid ((kept_row HK9.out HQ.out.2.2.1 hbp (by decide)).keep h1 (Row.lt (kept_row HK9.out HQ.out.2.2.1 hbp (by decide)))); have hz10 := Nat.le_trans hz9 h1.size; clear h1)
                  | (go_at_call 53; refine (writeStrC p ((acc ++ [43]) ++ s) [10, 92, 10] w10 HI10.out (by simp; omega) (by simp) hz10).mono ?_; rintro e w11 ⟨rfl, h1, h2, h3⟩; have HI11 := Lib.hid h1; have HB11 := Lib.hid (HB10.out.trans h2); have HR11 := Lib.hid (kept_row h3 HR10.out hbp (by decide)); clear h1 h2 h3))
                have HNX : Hid (IsB p (((acc ++ [43]) ++ s) ++ [10, 92, 10]) w11 ∧ Below p w3 w11 ∧ Row w11 hb 25 [Value.int IntKind.i64 3, Value.slice (some ⟨bl, ol, none⟩) m cm]) := Lib.hid ⟨HI11.out, HQ.out.2.1.trans HB11.out, HR11.out⟩
                go_roundw
                case rel => exact ⟨j + 1, _, by go_num, hjl, Lib.hid ⟨HNX.out.1, HNX.out.2.1, HNX.out.2.2, by rw [← HNF.out]; simp⟩⟩
                case measure => simp [RowKit.intOf]; omega
          · obtain rfl : j = m := by omega
            have hdr : x.2.drop j = [] := List.drop_of_length_le (by rw [HM.out]; exact Nat.le_refl _)
            have HNX : Hid (IsB p acc wr ∧ Below p w3 wr ∧ acc ++ printK (X.drop (i + 1)) = printK X ∧ p ≤ wr.heap.size) := by
              have h1 := HQ.out.2.2.2
              rw [hdr] at h1
              exact Lib.hid ⟨HQ.out.1, HQ.out.2.1, h1, hpq⟩
            clear hdr
            go_wp2
            go_roundw
            case rel => exact ⟨i + 1, _, by go_num, hlt, HNX⟩
            case measure => simp [RowKit.intOf]; omega
      · obtain rfl : i = n := by omega
        have hd : X.drop i = [] := List.drop_of_length_le (by rw [HN.out]; exact Nat.le_refl _)
        have hout := HR.out.2.2.1
        rw [hd] at hout
        have hout2 : acc = printK X := by rw [← hout]; simp [printK]
        subst hout2
        clear hd hout
        go_wp2_with (go_at_call 55; refine (stringC p _ wr HR.out.1 hps).mono ?_; rintro e w8 ⟨rfl, hb8⟩; have HB8 := Lib.hid hb8; clear hb8)
        go_ret2
        refine ⟨by rw [HPE.out]; rfl, ?_⟩
        have hbp : Below p w3 w8 := HR.out.2.1.trans HB8.out
        exact HB3.out.trans (hbp.mono (by rw [HE.out]; exact HB3.out.size))
  · rw [Bool.not_eq_true] at hk
    have HK : Hid (errP (checkB X) = 310) := Lib.hid (by rw [hk]; rfl)
    rw [HK.out] at HC
    have HPE : Hid (printE X = .returned (.tuple #[.string (bstr []), .int .i64 310])) := Lib.hid (by unfold printE; rw [hk]; rfl)
    clear hk
    go_enter Tryz.func19, Tryz.ntmps19
    go_wp2_with (go_at_call 18; refine (HC.out).mono ?_; rintro e w3 ⟨rfl, hb3⟩; have HB3 := Lib.hid hb3; clear hb3)
    go_ret2
    exact ⟨by rw [HPE.out]; rfl, HB3.out⟩
end Go.Proofs.YtnbihjocdlpplaaGreatDoor
