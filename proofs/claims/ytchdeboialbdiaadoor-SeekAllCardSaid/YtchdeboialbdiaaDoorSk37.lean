/- Texts joined, one behind the other (SCompF, SSm, SCut, SEq). -/
import Derived.Test.YtchdeboialbdiaaDoorSk36
/- Compile, where the pattern's memory begins: the program's Compile once more, with the bound kept. -/
namespace Go.Proofs.YtchdeboialbdiaaDoor
set_option linter.unusedVariables false
set_option linter.unusedSimpArgs false
open Go.RowKit
open Go.Lib hiding intOf
/-- a pattern whose parts lie above a bound -/
def PatFrom (B0 : Nat) (w : World) (g : Nat) (l : List UInt8) (fo : Bool) (its : List Itm) : Prop :=
  ∃ (v : Value) (L : List (Itm × Value)) (B : Nat), B0 ≤ B ∧ Row w g 84 [.string (bstr l), .bool true, v] ∧ L.map Prod.fst = its ∧ PartsOwn fo B v L w
theorem PatFrom.is {B0 : Nat} {w : World} {g : Nat} {l : List UInt8} {fo : Bool} {its : List Itm} (h : PatFrom B0 w g l fo its) : PatIs w g l fo its := by
  obtain ⟨v, L, B, _, h1, h2, h3⟩ := h
  exact ⟨v, L, B, h1, h2, h3⟩
/-- a store below the bound leaves it -/
theorem PatFrom.grown {B0 p : Nat} {w : World} {g : Nat} {l : List UInt8} {fo : Bool} {its : List Itm} (h : PatFrom B0 w g l fo its) (i : Nat) (u : Value) (hp : p < B0) (hg : p ≠ g) : PatFrom B0 (w.setCell ⟨p, i, none⟩ u) g l fo its := by
  obtain ⟨v, L, B, h0, h1, h2, h3⟩ := h
  exact ⟨v, L, B, h0, h1.other (p := ⟨p, i, none⟩) hg u, h2, h3.grown (grownBy_set w p i u) (by omega)⟩
def CompF (w : World) (l : List UInt8) (e : Ending) (w' : World) : Prop :=
  Below w.heap.size w w' ∧ if 256 < l.length then ∃ g, e = .returned (.tuple #[.pointer none, .iface 68 (.pointer (some ⟨g, 0, none⟩))]) ∧ w.heap.size ≤ g ∧ Row w' g 70 [.int .i64 4, .int .i64 0] else
    match itemsP (valsL l) with
    | .inl b => ∃ g, e = .returned (.tuple #[.pointer none, .iface 68 (.pointer (some ⟨g, 0, none⟩))]) ∧ w.heap.size ≤ g ∧ Row w' g 70 [.int .i64 60, .int .i64 ((atsL l).getD b 0 : Int)]
    | .inr its => ∃ g, e = .returned (.tuple #[.pointer (some ⟨g, 0, none⟩), .nilIface]) ∧ w.heap.size ≤ g ∧ PatFrom w.heap.size w' g l (foldedP (valsL l)) its
set_option maxHeartbeats 4000000 in
set_option maxRecDepth 100000 in
theorem compileF (w : World) (l : List UInt8) (hm : l.length ≤ 140737488355328) (hT : Tabs w) :
    Calls Tryd.prog 10 #[.string (bstr l)] w (CompF w l) := by
  by_cases hl : 256 < l.length
  · have h1 : (256 : Int) < (l.length : Int) := by omega
    have h2 : ¬ (l.length : Int) ≤ 256 := by omega
    have HL := Lib.hid hl
    clear hl hT
    go_enter Tryd.func10, Tryd.ntmps10
    go_wp2_with fail
    go_ret2
    unfold CompF
    rw [if_pos HL.out]
    exact ⟨(Below.refl _ w).alloc (Nat.le_refl _) _, w.heap.size, rfl, Nat.le_refl _, row_new w [.int .i64 4, .int .i64 0] 70⟩
  have h1 : ¬ (256 : Int) < (l.length : Int) := by omega
  have h2 : (l.length : Int) ≤ 256 := by omega
  have hC := charsC w l (by omega) hT
  have HL := Lib.hid hl
  have hC2 : Calls Tryd.prog 34 #[.string (bstr l)] w fun e w' => ∃ a c a2 c2, e = .returned (.tuple #[.slice a (valsL l).length c, .slice a2 (atsL l).length c2]) ∧ ReadsTok w' a (valsL l).length (valsL l) ∧ (∀ ad, a = some ad → w.heap.size ≤ ad.block ∧ ad.block < w'.heap.size) ∧ (0 < (valsL l).length → ∃ g, a = some ⟨g, 0, none⟩) ∧ (0 < (atsL l).length → ∃ g, a2 = some ⟨g, 0, none⟩ ∧ w.heap.size ≤ g ∧ g < w'.heap.size ∧ ∀ (k x : Nat), (atsL l)[k]? = some x → w'.cell? ⟨g, k, none⟩ = some (.int .i64 (x : Int))) ∧ Below w.heap.size w w' := hC.mono (by
    rintro e w' ⟨vl, va, rfl, ht, hi, hb⟩
    obtain ⟨a, c, rfl, r1, r2, r3⟩ := ht.shape
    obtain ⟨a2, c2, rfl, s1, s2⟩ := hi.shape
    exact ⟨a, c, a2, c2, rfl, r1, r2, r3, s2, hb⟩)
  have hvl := vals_len l
  have hal := ats_len l
  have hok := vals_ok l
  obtain ⟨V, hV⟩ : ∃ V, valsL l = V := ⟨_, rfl⟩
  obtain ⟨n, hn⟩ : ∃ n, V.length = n := ⟨_, rfl⟩
  rw [hV] at hvl hal hok hC2
  rw [hn] at hvl hal hC2
  obtain ⟨A, hA⟩ : ∃ A, atsL l = A := ⟨_, rfl⟩
  rw [hA] at hal hC2
  rw [hal] at hC2
  have HC := Lib.hid hC2
  have HAT := Lib.hid hA
  have HV := Lib.hid hV
  have HN := Lib.hid hn
  have HOK := Lib.hid hok
  have hn256 : n ≤ 256 := by omega
  have hPT0 : ∀ (i : Nat) (fo : Bool), i ≤ n → ∀ (W : World) (p : Nat) (a : Option Addr) (c : Nat), Scan W p a n c V i fo → (∀ ad, a = some ad → ad.block < W.heap.size) → Calls Tryd.prog 35 #[.pointer (some ⟨p, 0, none⟩)] W (PatP W p a n c V fo (itemsGo V (V.length + 1) i [])) := fun i fo hi W p a c hs ha => patternC W p a n c V i fo hs HOK.out hi (by omega) ha
  have HPT0 := Lib.hid hPT0
  have HAL := Lib.hid hal
  clear hl hT hC hvl hok hV hn hPT0 hC2 hA hal
  by_cases hf1 : 1 < n
  · have hf1i : (1 : Int) < (n : Int) := by omega
    have hf1j : ¬ (n : Int) ≤ 1 := by omega
    have hf1k : (0 : Int) < (n : Int) := by omega
    obtain ⟨v0, hv0⟩ : ∃ v, V[0]? = some v := ⟨_, List.getElem?_eq_getElem (by have := HN.out; omega)⟩
    obtain ⟨v1, hv1⟩ : ∃ v, V[1]? = some v := ⟨_, List.getElem?_eq_getElem (by have := HN.out; omega)⟩
    have okc : ∀ {k v : Nat}, V[k]? = some v → OkC v := fun {k v} h => by
      have := HOK.out v (List.mem_of_getElem? h)
      unfold OkC
      omega
    have hq0 : ∀ w', (binOp .eql 79 (.agg #[.int .i32 (tokR v0 : Int), .int .i64 (tokW v0 : Int)]) (.agg #[.int .i32 92, .int .i64 0])).run Tryd.prog w' = .ok (.bool (decide (v0 = 92))) w' := fun w' => by
      rw [tokQl]
      exact congrArg (fun b => Result.ok (Value.bool b) w') (tok_eq (okc hv0) (u := 92) (.inl (by decide)))
    have hq1 : ∀ w', (binOp .eql 79 (.agg #[.int .i32 (tokR v1 : Int), .int .i64 (tokW v1 : Int)]) (.agg #[.int .i32 105, .int .i64 0])).run Tryd.prog w' = .ok (.bool (decide (v1 = 105))) w' := fun w' => by
      rw [tokQl]
      exact congrArg (fun b => Result.ok (Value.bool b) w') (tok_eq (okc hv1) (u := 105) (.inl (by decide)))
    have HV0 := Lib.hid hv0
    have HV1 := Lib.hid hv1
    clear okc
    by_cases hf2 : v0 = 92 ∧ v1 = 105
    · have hfo : foldedP V = true := decide_eq_true ⟨by rw [hv0, hf2.1], by rw [hv1, hf2.2]⟩
      rw [decide_eq_true hf2.1] at hq0
      rw [decide_eq_true hf2.2] at hq1
      have hPT := HPT0.out 2 true hf1
      have hI0 : itemsP V = itemsGo V (V.length + 1) 2 [] := by
        unfold itemsP
        rw [hfo]
        rfl
      have HFO := Lib.hid hfo
      clear hf1 hfo HPT0 hv0 hv1 hf2
      cases hI : itemsGo V (V.length + 1) 2 [] with
      | inl b =>
        rw [hI] at hPT hI0
        have HI0 := Lib.hid hI0
        have HPT := Lib.hid hPT
        have hbn : b < A.length := by
          have := itemsGo_le V HOK.out _ _ _ (by have := HN.out; omega) b hI
          have := HN.out
          rw [HAL.out]
          omega
        have hbi : (b : Int) < ((n + 1 : Nat) : Int) := by rw [HAL.out] at hbn; omega
        have hbi2 : (b : Int) < (n : Int) + 1 := by omega
        have hbi3 : b < n + 1 := by omega
        obtain ⟨A0, hA0⟩ : ∃ x, A.getD b 0 = x := ⟨_, rfl⟩
        have HA0 := Lib.hid hA0
        clear hA0
        clear hPT hI hI0
        go_enter Tryd.func10, Tryd.ntmps10
        go_wp2_with (first | (go_at_call 34; refine (HC.out).mono ?_; rintro e w1 ⟨a, c, a2, c2, rfl, hrt, hab, hcl, hcell, hb⟩; have hsc := scan_new (c := c) hrt hab; have hsf := scan_newF (c := c) hrt hab; obtain ⟨bb, ha⟩ := hcl (by omega); subst ha; have hl0 := tok_at0 hsc.toks HV0.out; have hl1 := tok_at1 hsc.toks HV1.out; obtain ⟨u1, u2⟩ := hl0; obtain ⟨u3, u4⟩ := hl1; have HSF := Lib.hid hsf; clear hsf; have q1 := hsc.row.lt; have q2 := hsc.row.frozen 1; have q3 := hsc.row.frozen 2; have HB := Lib.hid hb; have HSC := Lib.hid hsc; have HAB := Lib.hid hab; have HCE := Lib.hid hcell; clear hrt hb hab hcl hcell hsc) | (go_at_call 35; refine (HPT.out (w1.alloc (.cells #[.slice (some ⟨bb, 0, none⟩) n c, .int .i64 2, .bool true] 77)) _ _ c HSF.out (fun ad h => by have := (HAB.out ad h).2; rw [World.size_alloc]; omega)).mono ?_; rintro e w4 ⟨hg4, rfl, hs4⟩; have i1 : w4.cell? ⟨w1.heap.size, 1, none⟩ = some (.int .i64 (b : Int)) := hs4.row.cell 1; obtain ⟨g2, ha2, hg21, hg22, hcc⟩ := HCE.out (by omega); subst ha2; have i2 := at_cell ((Below.refl w1.heap.size w1).alloc (Nat.le_refl _) _) hg4 hg22 hcc hbn; rw [HA0.out] at i2; have i3 := hs4.row.lt; have i4 : g2 < w4.heap.size := Nat.lt_of_lt_of_le (Nat.lt_of_lt_of_le hg22 (by rw [World.size_alloc]; exact Nat.le_succ _)) hg4.size; have HG4 := Lib.hid hg4; clear hg4 hs4 hcc))
        go_region
        all_goals go_wp2_with fail
        go_ret2
        have hbb := comp_below HB.out ((Below.refl w1.heap.size w1).alloc (Nat.le_refl _) _) HG4.out
        have hsz := hbb.size
        have hr : Row (w4.alloc (.cells #[.int .i64 60, .int .i64 ((A0 : Nat) : Int)] 70)) w4.heap.size 70 [.int .i64 60, .int .i64 ((A0 : Nat) : Int)] := row_new w4 _ _
        unfold CompF
        rw [if_neg HL.out, HV.out, HI0.out, HAT.out]
        dsimp only
        rw [HA0.out]
        exact ⟨(hbb.alloc hsz _).trans (Quiet.below ⟨1, rfl⟩ _), w4.heap.size, rfl, hsz, hr.keep (Quiet.below (w' := (w4.alloc _).drew) ⟨1, rfl⟩ _) hr.lt⟩
      | inr its =>
        rw [hI] at hPT hI0
        have HI0 := Lib.hid hI0
        have HPT := Lib.hid hPT
        clear hPT hI hI0
        go_enter Tryd.func10, Tryd.ntmps10
        go_wp2_with (first | (go_at_call 34; refine (HC.out).mono ?_; rintro e w1 ⟨a, c, a2, c2, rfl, hrt, hab, hcl, hcell, hb⟩; have hsc := scan_new (c := c) hrt hab; have hsf := scan_newF (c := c) hrt hab; obtain ⟨bb, ha⟩ := hcl (by omega); subst ha; have hl0 := tok_at0 hsc.toks HV0.out; have hl1 := tok_at1 hsc.toks HV1.out; obtain ⟨u1, u2⟩ := hl0; obtain ⟨u3, u4⟩ := hl1; have HSF := Lib.hid hsf; clear hsf; have q1 := hsc.row.lt; have q2 := hsc.row.frozen 1; have q3 := hsc.row.frozen 2; have HB := Lib.hid hb; have HSC := Lib.hid hsc; have HAB := Lib.hid hab; have HCE := Lib.hid hcell; clear hrt hb hab hcl hcell hsc) | (go_at_call 35; refine (HPT.out (w1.alloc (.cells #[.slice (some ⟨bb, 0, none⟩) n c, .int .i64 2, .bool true] 77)) _ _ c HSF.out (fun ad h => by have := (HAB.out ad h).2; rw [World.size_alloc]; omega)).mono ?_; rintro e w4 ⟨hg4, v, L, rfl, hL, hP⟩; obtain ⟨a3, c3, rfl⟩ := parts_shape hP; have HG4 := Lib.hid hg4; have HL4 := Lib.hid hL; have HP4 := Lib.hid hP; clear hg4 hL hP))
        go_ret2
        have hbb := comp_below HB.out ((Below.refl w1.heap.size w1).alloc (Nat.le_refl _) _) HG4.out
        have hsz := hbb.size
        have hal : Below w4.heap.size w4 (w4.alloc (.cells #[.string (bstr l), .bool true, .slice a3 L.length c3] 84)) := (Below.refl _ w4).alloc (Nat.le_refl _) _
        unfold CompF
        rw [if_neg HL.out, HV.out, HI0.out, HFO.out]
        exact ⟨hbb.alloc hsz _, w4.heap.size, rfl, hsz, _, L, _, (by have h7 := HB.out.size; first | omega | (simp only [World.size_alloc]; omega)), row_new w4 [.string (bstr l), .bool true, .slice a3 L.length c3] _, HL4.out, HP4.out.grown (grown_of_below hal (some w1.heap.size)) (by rw [World.size_alloc]; omega)⟩
    · have hfo : foldedP V = false := by
        refine decide_eq_false ?_
        rw [hv0, hv1]
        rintro ⟨h, h'⟩
        exact hf2 ⟨Option.some.inj h, Option.some.inj h'⟩
      have hPT := HPT0.out 0 false (Nat.zero_le _)
      have hI0 : itemsP V = itemsGo V (V.length + 1) 0 [] := by
        unfold itemsP
        rw [hfo]
        rfl
      have HFO := Lib.hid hfo
      obtain ⟨b0, hb0⟩ : ∃ b, decide (v0 = 92) = b := ⟨_, rfl⟩
      obtain ⟨b1, hb1⟩ : ∃ b, decide (v1 = 105) = b := ⟨_, rfl⟩
      rw [hb0] at hq0
      rw [hb1] at hq1
      have hbb : b0 = false ∨ (b0 = true ∧ b1 = false) := by
        cases b0 with
        | false => exact .inl rfl
        | true =>
          cases b1 with
          | false => exact .inr ⟨rfl, rfl⟩
          | true => exact absurd ⟨of_decide_eq_true hb0, of_decide_eq_true hb1⟩ hf2
      clear hf1 hfo HPT0 hv0 hv1 hf2 hb0 hb1
      rcases hbb with rfl | ⟨rfl, rfl⟩
      · cases hI : itemsGo V (V.length + 1) 0 [] with
        | inl b =>
          rw [hI] at hPT hI0
          have HI0 := Lib.hid hI0
          have HPT := Lib.hid hPT
          have hbn : b < A.length := by
            have := itemsGo_le V HOK.out _ _ _ (by have := HN.out; omega) b hI
            have := HN.out
            rw [HAL.out]
            omega
          have hbi : (b : Int) < ((n + 1 : Nat) : Int) := by rw [HAL.out] at hbn; omega
          have hbi2 : (b : Int) < (n : Int) + 1 := by omega
          have hbi3 : b < n + 1 := by omega
          obtain ⟨A0, hA0⟩ : ∃ x, A.getD b 0 = x := ⟨_, rfl⟩
          have HA0 := Lib.hid hA0
          clear hA0
          clear hPT hI hI0
          go_enter Tryd.func10, Tryd.ntmps10
          go_wp2_with (first | (go_at_call 34; refine (HC.out).mono ?_; rintro e w1 ⟨a, c, a2, c2, rfl, hrt, hab, hcl, hcell, hb⟩; have hsc := scan_new (c := c) hrt hab; obtain ⟨bb, ha⟩ := hcl (by omega); subst ha; have hl0 := tok_at0 hsc.toks HV0.out; have hl1 := tok_at1 hsc.toks HV1.out; obtain ⟨u1, u2⟩ := hl0; obtain ⟨u3, u4⟩ := hl1; have q1 := hsc.row.lt; have q2 := hsc.row.frozen 1; have q3 := hsc.row.frozen 2; have HB := Lib.hid hb; have HSC := Lib.hid hsc; have HAB := Lib.hid hab; have HCE := Lib.hid hcell; clear hrt hb hab hcl hcell hsc) | (go_at_call 35; refine (HPT.out (w1.alloc (.cells #[.slice (some ⟨bb, 0, none⟩) n c, .int .i64 0, .bool false] 77)) _ _ c HSC.out (fun ad h => by have := (HAB.out ad h).2; rw [World.size_alloc]; omega)).mono ?_; rintro e w4 ⟨hg4, rfl, hs4⟩; have i1 : w4.cell? ⟨w1.heap.size, 1, none⟩ = some (.int .i64 (b : Int)) := hs4.row.cell 1; obtain ⟨g2, ha2, hg21, hg22, hcc⟩ := HCE.out (by omega); subst ha2; have i2 := at_cell ((Below.refl w1.heap.size w1).alloc (Nat.le_refl _) _) hg4 hg22 hcc hbn; rw [HA0.out] at i2; have i3 := hs4.row.lt; have i4 : g2 < w4.heap.size := Nat.lt_of_lt_of_le (Nat.lt_of_lt_of_le hg22 (by rw [World.size_alloc]; exact Nat.le_succ _)) hg4.size; have HG4 := Lib.hid hg4; clear hg4 hs4 hcc))
          go_region
          all_goals go_wp2_with fail
          go_ret2
          have hbb := comp_below HB.out ((Below.refl w1.heap.size w1).alloc (Nat.le_refl _) _) HG4.out
          have hsz := hbb.size
          have hr : Row (w4.alloc (.cells #[.int .i64 60, .int .i64 ((A0 : Nat) : Int)] 70)) w4.heap.size 70 [.int .i64 60, .int .i64 ((A0 : Nat) : Int)] := row_new w4 _ _
          unfold CompF
          rw [if_neg HL.out, HV.out, HI0.out, HAT.out]
          dsimp only
          rw [HA0.out]
          exact ⟨(hbb.alloc hsz _).trans (Quiet.below ⟨1, rfl⟩ _), w4.heap.size, rfl, hsz, hr.keep (Quiet.below (w' := (w4.alloc _).drew) ⟨1, rfl⟩ _) hr.lt⟩
        | inr its =>
          rw [hI] at hPT hI0
          have HI0 := Lib.hid hI0
          have HPT := Lib.hid hPT
          clear hPT hI hI0
          go_enter Tryd.func10, Tryd.ntmps10
          go_wp2_with (first | (go_at_call 34; refine (HC.out).mono ?_; rintro e w1 ⟨a, c, a2, c2, rfl, hrt, hab, hcl, hcell, hb⟩; have hsc := scan_new (c := c) hrt hab; obtain ⟨bb, ha⟩ := hcl (by omega); subst ha; have hl0 := tok_at0 hsc.toks HV0.out; have hl1 := tok_at1 hsc.toks HV1.out; obtain ⟨u1, u2⟩ := hl0; obtain ⟨u3, u4⟩ := hl1; have q1 := hsc.row.lt; have q2 := hsc.row.frozen 1; have q3 := hsc.row.frozen 2; have HB := Lib.hid hb; have HSC := Lib.hid hsc; have HAB := Lib.hid hab; have HCE := Lib.hid hcell; clear hrt hb hab hcl hcell hsc) | (go_at_call 35; refine (HPT.out (w1.alloc (.cells #[.slice (some ⟨bb, 0, none⟩) n c, .int .i64 0, .bool false] 77)) _ _ c HSC.out (fun ad h => by have := (HAB.out ad h).2; rw [World.size_alloc]; omega)).mono ?_; rintro e w4 ⟨hg4, v, L, rfl, hL, hP⟩; obtain ⟨a3, c3, rfl⟩ := parts_shape hP; have HG4 := Lib.hid hg4; have HL4 := Lib.hid hL; have HP4 := Lib.hid hP; clear hg4 hL hP))
          go_ret2
          have hbb := comp_below HB.out ((Below.refl w1.heap.size w1).alloc (Nat.le_refl _) _) HG4.out
          have hsz := hbb.size
          have hal : Below w4.heap.size w4 (w4.alloc (.cells #[.string (bstr l), .bool true, .slice a3 L.length c3] 84)) := (Below.refl _ w4).alloc (Nat.le_refl _) _
          unfold CompF
          rw [if_neg HL.out, HV.out, HI0.out, HFO.out]
          exact ⟨hbb.alloc hsz _, w4.heap.size, rfl, hsz, _, L, _, (by have h7 := HB.out.size; first | omega | (simp only [World.size_alloc]; omega)), row_new w4 [.string (bstr l), .bool true, .slice a3 L.length c3] _, HL4.out, HP4.out.grown (grown_of_below hal (some w1.heap.size)) (by rw [World.size_alloc]; omega)⟩
      · cases hI : itemsGo V (V.length + 1) 0 [] with
        | inl b =>
          rw [hI] at hPT hI0
          have HI0 := Lib.hid hI0
          have HPT := Lib.hid hPT
          have hbn : b < A.length := by
            have := itemsGo_le V HOK.out _ _ _ (by have := HN.out; omega) b hI
            have := HN.out
            rw [HAL.out]
            omega
          have hbi : (b : Int) < ((n + 1 : Nat) : Int) := by rw [HAL.out] at hbn; omega
          have hbi2 : (b : Int) < (n : Int) + 1 := by omega
          have hbi3 : b < n + 1 := by omega
          obtain ⟨A0, hA0⟩ : ∃ x, A.getD b 0 = x := ⟨_, rfl⟩
          have HA0 := Lib.hid hA0
          clear hA0
          clear hPT hI hI0
          go_enter Tryd.func10, Tryd.ntmps10
          go_wp2_with (first | (go_at_call 34; refine (HC.out).mono ?_; rintro e w1 ⟨a, c, a2, c2, rfl, hrt, hab, hcl, hcell, hb⟩; have hsc := scan_new (c := c) hrt hab; obtain ⟨bb, ha⟩ := hcl (by omega); subst ha; have hl0 := tok_at0 hsc.toks HV0.out; have hl1 := tok_at1 hsc.toks HV1.out; obtain ⟨u1, u2⟩ := hl0; obtain ⟨u3, u4⟩ := hl1; have q1 := hsc.row.lt; have q2 := hsc.row.frozen 1; have q3 := hsc.row.frozen 2; have HB := Lib.hid hb; have HSC := Lib.hid hsc; have HAB := Lib.hid hab; have HCE := Lib.hid hcell; clear hrt hb hab hcl hcell hsc) | (go_at_call 35; refine (HPT.out (w1.alloc (.cells #[.slice (some ⟨bb, 0, none⟩) n c, .int .i64 0, .bool false] 77)) _ _ c HSC.out (fun ad h => by have := (HAB.out ad h).2; rw [World.size_alloc]; omega)).mono ?_; rintro e w4 ⟨hg4, rfl, hs4⟩; have i1 : w4.cell? ⟨w1.heap.size, 1, none⟩ = some (.int .i64 (b : Int)) := hs4.row.cell 1; obtain ⟨g2, ha2, hg21, hg22, hcc⟩ := HCE.out (by omega); subst ha2; have i2 := at_cell ((Below.refl w1.heap.size w1).alloc (Nat.le_refl _) _) hg4 hg22 hcc hbn; rw [HA0.out] at i2; have i3 := hs4.row.lt; have i4 : g2 < w4.heap.size := Nat.lt_of_lt_of_le (Nat.lt_of_lt_of_le hg22 (by rw [World.size_alloc]; exact Nat.le_succ _)) hg4.size; have HG4 := Lib.hid hg4; clear hg4 hs4 hcc))
          go_region
          all_goals go_wp2_with fail
          go_ret2
          have hbb := comp_below HB.out ((Below.refl w1.heap.size w1).alloc (Nat.le_refl _) _) HG4.out
          have hsz := hbb.size
          have hr : Row (w4.alloc (.cells #[.int .i64 60, .int .i64 ((A0 : Nat) : Int)] 70)) w4.heap.size 70 [.int .i64 60, .int .i64 ((A0 : Nat) : Int)] := row_new w4 _ _
          unfold CompF
          rw [if_neg HL.out, HV.out, HI0.out, HAT.out]
          dsimp only
          rw [HA0.out]
          exact ⟨(hbb.alloc hsz _).trans (Quiet.below ⟨1, rfl⟩ _), w4.heap.size, rfl, hsz, hr.keep (Quiet.below (w' := (w4.alloc _).drew) ⟨1, rfl⟩ _) hr.lt⟩
        | inr its =>
          rw [hI] at hPT hI0
          have HI0 := Lib.hid hI0
          have HPT := Lib.hid hPT
          clear hPT hI hI0
          go_enter Tryd.func10, Tryd.ntmps10
          go_wp2_with (first | (go_at_call 34; refine (HC.out).mono ?_; rintro e w1 ⟨a, c, a2, c2, rfl, hrt, hab, hcl, hcell, hb⟩; have hsc := scan_new (c := c) hrt hab; obtain ⟨bb, ha⟩ := hcl (by omega); subst ha; have hl0 := tok_at0 hsc.toks HV0.out; have hl1 := tok_at1 hsc.toks HV1.out; obtain ⟨u1, u2⟩ := hl0; obtain ⟨u3, u4⟩ := hl1; have q1 := hsc.row.lt; have q2 := hsc.row.frozen 1; have q3 := hsc.row.frozen 2; have HB := Lib.hid hb; have HSC := Lib.hid hsc; have HAB := Lib.hid hab; have HCE := Lib.hid hcell; clear hrt hb hab hcl hcell hsc) | (go_at_call 35; refine (HPT.out (w1.alloc (.cells #[.slice (some ⟨bb, 0, none⟩) n c, .int .i64 0, .bool false] 77)) _ _ c HSC.out (fun ad h => by have := (HAB.out ad h).2; rw [World.size_alloc]; omega)).mono ?_; rintro e w4 ⟨hg4, v, L, rfl, hL, hP⟩; obtain ⟨a3, c3, rfl⟩ := parts_shape hP; have HG4 := Lib.hid hg4; have HL4 := Lib.hid hL; have HP4 := Lib.hid hP; clear hg4 hL hP))
          go_ret2
          have hbb := comp_below HB.out ((Below.refl w1.heap.size w1).alloc (Nat.le_refl _) _) HG4.out
          have hsz := hbb.size
          have hal : Below w4.heap.size w4 (w4.alloc (.cells #[.string (bstr l), .bool true, .slice a3 L.length c3] 84)) := (Below.refl _ w4).alloc (Nat.le_refl _) _
          unfold CompF
          rw [if_neg HL.out, HV.out, HI0.out, HFO.out]
          exact ⟨hbb.alloc hsz _, w4.heap.size, rfl, hsz, _, L, _, (by have h7 := HB.out.size; first | omega | (simp only [World.size_alloc]; omega)), row_new w4 [.string (bstr l), .bool true, .slice a3 L.length c3] _, HL4.out, HP4.out.grown (grown_of_below hal (some w1.heap.size)) (by rw [World.size_alloc]; omega)⟩
  · have hf1i : ¬ (1 : Int) < (n : Int) := by omega
    have hf1j : (n : Int) ≤ 1 := by omega
    have hfo : foldedP V = false := by
      refine decide_eq_false ?_
      rintro ⟨_, h⟩
      have := lt_of_some h
      have := HN.out
      omega
    have hPT := HPT0.out 0 false (Nat.zero_le _)
    have hI0 : itemsP V = itemsGo V (V.length + 1) 0 [] := by
      unfold itemsP
      rw [hfo]
      rfl
    have HFO := Lib.hid hfo
    clear hf1 hfo HPT0
    cases hI : itemsGo V (V.length + 1) 0 [] with
    | inl b =>
      rw [hI] at hPT hI0
      have HI0 := Lib.hid hI0
      have HPT := Lib.hid hPT
      have hbn : b < A.length := by
        have := itemsGo_le V HOK.out _ _ _ (by have := HN.out; omega) b hI
        have := HN.out
        rw [HAL.out]
        omega
      have hbi : (b : Int) < ((n + 1 : Nat) : Int) := by rw [HAL.out] at hbn; omega
      have hbi2 : (b : Int) < (n : Int) + 1 := by omega
      have hbi3 : b < n + 1 := by omega
      obtain ⟨A0, hA0⟩ : ∃ x, A.getD b 0 = x := ⟨_, rfl⟩
      have HA0 := Lib.hid hA0
      clear hA0
      clear hPT hI hI0
      go_enter Tryd.func10, Tryd.ntmps10
      go_wp2_with (first | (go_at_call 34; refine (HC.out).mono ?_; rintro e w1 ⟨a, c, a2, c2, rfl, hrt, hab, hcl, hcell, hb⟩; have hsc := scan_new (c := c) hrt hab; have q1 := hsc.row.lt; have q2 := hsc.row.frozen 1; have q3 := hsc.row.frozen 2; have HB := Lib.hid hb; have HSC := Lib.hid hsc; have HAB := Lib.hid hab; have HCE := Lib.hid hcell; clear hrt hb hab hcl hcell hsc) | (go_at_call 35; refine (HPT.out (w1.alloc (.cells #[.slice a n c, .int .i64 0, .bool false] 77)) _ a c HSC.out (fun ad h => by have := (HAB.out ad h).2; rw [World.size_alloc]; omega)).mono ?_; rintro e w4 ⟨hg4, rfl, hs4⟩; have i1 : w4.cell? ⟨w1.heap.size, 1, none⟩ = some (.int .i64 (b : Int)) := hs4.row.cell 1; obtain ⟨g2, ha2, hg21, hg22, hcc⟩ := HCE.out (by omega); subst ha2; have i2 := at_cell ((Below.refl w1.heap.size w1).alloc (Nat.le_refl _) _) hg4 hg22 hcc hbn; rw [HA0.out] at i2; have i3 := hs4.row.lt; have i4 : g2 < w4.heap.size := Nat.lt_of_lt_of_le (Nat.lt_of_lt_of_le hg22 (by rw [World.size_alloc]; exact Nat.le_succ _)) hg4.size; have HG4 := Lib.hid hg4; clear hg4 hs4 hcc))
      go_region
      all_goals go_wp2_with fail
      go_ret2
      have hbb := comp_below HB.out ((Below.refl w1.heap.size w1).alloc (Nat.le_refl _) _) HG4.out
      have hsz := hbb.size
      have hr : Row (w4.alloc (.cells #[.int .i64 60, .int .i64 ((A0 : Nat) : Int)] 70)) w4.heap.size 70 [.int .i64 60, .int .i64 ((A0 : Nat) : Int)] := row_new w4 _ _
      unfold CompF
      rw [if_neg HL.out, HV.out, HI0.out, HAT.out]
      dsimp only
      rw [HA0.out]
      exact ⟨(hbb.alloc hsz _).trans (Quiet.below ⟨1, rfl⟩ _), w4.heap.size, rfl, hsz, hr.keep (Quiet.below (w' := (w4.alloc _).drew) ⟨1, rfl⟩ _) hr.lt⟩
    | inr its =>
      rw [hI] at hPT hI0
      have HI0 := Lib.hid hI0
      have HPT := Lib.hid hPT
      clear hPT hI hI0
      go_enter Tryd.func10, Tryd.ntmps10
      go_wp2_with (first | (go_at_call 34; refine (HC.out).mono ?_; rintro e w1 ⟨a, c, a2, c2, rfl, hrt, hab, hcl, hcell, hb⟩; have hsc := scan_new (c := c) hrt hab; have q1 := hsc.row.lt; have q2 := hsc.row.frozen 1; have q3 := hsc.row.frozen 2; have HB := Lib.hid hb; have HSC := Lib.hid hsc; have HAB := Lib.hid hab; have HCE := Lib.hid hcell; clear hrt hb hab hcl hcell hsc) | (go_at_call 35; refine (HPT.out (w1.alloc (.cells #[.slice a n c, .int .i64 0, .bool false] 77)) _ a c HSC.out (fun ad h => by have := (HAB.out ad h).2; rw [World.size_alloc]; omega)).mono ?_; rintro e w4 ⟨hg4, v, L, rfl, hL, hP⟩; obtain ⟨a3, c3, rfl⟩ := parts_shape hP; have HG4 := Lib.hid hg4; have HL4 := Lib.hid hL; have HP4 := Lib.hid hP; clear hg4 hL hP))
      go_ret2
      have hbb := comp_below HB.out ((Below.refl w1.heap.size w1).alloc (Nat.le_refl _) _) HG4.out
      have hsz := hbb.size
      have hal : Below w4.heap.size w4 (w4.alloc (.cells #[.string (bstr l), .bool true, .slice a3 L.length c3] 84)) := (Below.refl _ w4).alloc (Nat.le_refl _) _
      unfold CompF
      rw [if_neg HL.out, HV.out, HI0.out, HFO.out]
      exact ⟨hbb.alloc hsz _, w4.heap.size, rfl, hsz, _, L, _, (by have h7 := HB.out.size; first | omega | (simp only [World.size_alloc]; omega)), row_new w4 [.string (bstr l), .bool true, .slice a3 L.length c3] _, HL4.out, HP4.out.grown (grown_of_below hal (some w1.heap.size)) (by rw [World.size_alloc]; omega)⟩
end Go.Proofs.YtchdeboialbdiaaDoor
/- What SeekMatches holds in memory. -/
namespace Go.Proofs.YtchdeboialbdiaaDoor
set_option linter.unusedVariables false
set_option linter.unusedSimpArgs false
open Go.RowKit
open Go.Lib hiding intOf
/-- items that are read stay over a store into a block of another kind -/
theorem ItRd.grown {w w' : World} {v : Value} {its : List Itm} (h : ItRd w v its) {p t : Nat} {xs : List Value} (hg : w.grownBy w' (some p)) (hr : Row w p t xs) (h1 : t ≠ 90) (h2 : t ≠ 133) : ItRd w' v its := by
  obtain ⟨L, hL, ⟨a, c, hv, hc⟩, he⟩ := h
  refine ⟨L, hL, ⟨a, c, hv, fun hn => ?_⟩, fun q hq => (he q hq).grown hg (fun b hb => by cases hb; exact ⟨_, _, hr, h2⟩)⟩
  obtain ⟨g, cur, h5, h6, h7⟩ := hc hn
  refine ⟨g, cur, h5, (hg.block g (Array.getElem?_eq_some_iff.1 h6).1 (fun e => ?_)).trans h6, h7⟩
  simp only [Option.some.injEq] at e
  subst e
  have := hr.out.symm.trans h6
  simp only [Option.some.injEq, Obj.cells.injEq] at this
  exact h1 this.2.1
structure SmW (w W : World) (b2 : Nat) (lk pv : List Value) (g : Nat) (l : List UInt8) (fo : Bool) (its : List Itm) (v : Value) : Prop where
  look : Row W w.heap.size 23 lk
  pat : Row W b2 31 pv
  frm : PatFrom (w.heap.size + 1) W g l fo its
  it : ItRd W v its
  below : Below w.heap.size w W
theorem PatFrom.keep {B0 : Nat} {w w' : World} {g : Nat} {l : List UInt8} {fo : Bool} {its : List Itm} (h : PatFrom B0 w g l fo its) (hb : Below w.heap.size w w') : PatFrom B0 w' g l fo its := by
  obtain ⟨v, L, B, h0, h1, h2, h3⟩ := h
  refine ⟨v, L, B, h0, h1.keep hb h1.lt, h2, own_below h3.1 hb, fun q hq => ?_⟩
  rcases h3.2 q hq with h | ⟨h, K, hk, ha, hF⟩
  · exact .inl h
  · exact .inr ⟨h, K, hk, ha, hF.below hb (Nat.le_refl _)⟩
theorem SmW.next {w W W' : World} {b2 : Nat} {lk pv : List Value} {g : Nat} {l : List UInt8} {fo : Bool} {its : List Itm} {v : Value} (h : SmW w W b2 lk pv g l fo its v) (hb : Below W.heap.size W W') : SmW w W' b2 lk pv g l fo its v :=
  ⟨h.look.keep hb h.look.lt, h.pat.keep hb h.pat.lt, h.frm.keep hb, h.it.below hb, h.below.trans (hb.mono h.below.size)⟩
theorem row_ne {W : World} {g g' t t' : Nat} {xs ys : List Value} (h : Row W g t xs) (h' : Row W g' t' ys) (ht : t ≠ t') : g ≠ g' := by
  intro e
  subst e
  have := h.out.symm.trans h'.out
  simp only [Option.some.injEq, Obj.cells.injEq] at this
  exact ht this.2.1
/-- a store into the Look -/
theorem SmW.put {w W : World} {b2 : Nat} {lk pv : List Value} {g : Nat} {l : List UInt8} {fo : Bool} {its : List Itm} {v : Value} (h : SmW w W b2 lk pv g l fo its v) (i : Nat) (u : Value) : SmW w (W.setCell ⟨w.heap.size, i, none⟩ u) b2 (lk.set i u) pv g l fo its v := by
  have hf := h.frm
  obtain ⟨_, _, _, _, hrow, _⟩ := id hf
  exact ⟨h.look.set i u, h.pat.other (p := ⟨w.heap.size, i, none⟩) (row_ne h.look h.pat (by decide)) u, hf.grown i u (by omega) (row_ne h.look hrow (by decide)), h.it.grown (grownBy_set W w.heap.size i u) h.look (by decide) (by decide), h.below.setCell (p := ⟨w.heap.size, i, none⟩) (Nat.le_refl _) u⟩
end Go.Proofs.YtchdeboialbdiaaDoor
/- A text cut. -/
namespace Go.Proofs.YtchdeboialbdiaaDoor
set_option linter.unusedVariables false
set_option linter.unusedSimpArgs false
open Go.RowKit
open Go.Lib hiding intOf
theorem cutC (w : World) (l : List UInt8) (k : Nat) (hk : k ≤ 1048576) : Calls Tryd.prog 13 #[.string (bstr l), .int .i64 (k : Int)] w fun e w' => e = .returned (.string (bstr (l.take k))) ∧ w' = w := by
  by_cases h : k < l.length
  · have h1 : (k : Int) < (l.length : Int) := by omega
    have h2 : ¬ (l.length : Int) ≤ (k : Int) := by omega
    have h3 : (k : Int) ≤ (l.length : Int) := by omega
    obtain ⟨T, hT⟩ : ∃ T, l.take k = T := ⟨_, rfl⟩
    rw [hT]
    have hT2 : (l.drop 0).take (k - 0) = T := by rw [List.drop_zero, Nat.sub_zero]; exact hT
    go_enter Tryd.func13, Tryd.ntmps13
    go_wp2_with fail
    go_ret
    exact ⟨by first | rfl | (rw [← hT]; rfl), rfl⟩
  · have h1 : ¬ (k : Int) < (l.length : Int) := by omega
    have h2 : (l.length : Int) ≤ (k : Int) := by omega
    rw [List.take_of_length_le (by omega)]
    go_enter Tryd.func13, Tryd.ntmps13
    go_wp2_with fail
    go_ret
    exact ⟨rfl, rfl⟩
end Go.Proofs.YtchdeboialbdiaaDoor
/- Rows of pieces that are read: the same? -/
namespace Go.Proofs.YtchdeboialbdiaaDoor
set_option linter.unusedVariables false
set_option linter.unusedSimpArgs false
open Go.RowKit
open Go.Lib
theorem pc_at {A : List Nat} : ∀ {L : List (Nat × Nat)} {k : Nat} {x : Nat × Nat}, L[k]? = some x → (L.flatMap (pcCells A))[k * 2]? = some (.int .i64 ((A.getD x.1 0 : Nat) : Int)) ∧ (L.flatMap (pcCells A))[k * 2 + 1]? = some (.int .i64 ((A.getD x.2 0 : Nat) : Int))
  | [], k, x, h => by simp at h
  | y :: r, 0, x, h => by
    simp only [List.getElem?_cons_zero, Option.some.injEq] at h
    subst h
    exact ⟨rfl, rfl⟩
  | y :: r, k + 1, x, h => by
    rw [List.getElem?_cons_succ] at h
    obtain ⟨h1, h2⟩ := pc_at (A := A) h
    rw [List.flatMap_cons, show (k + 1) * 2 = (pcCells A y).length + k * 2 from by simp [pcCells]; omega, show (pcCells A y).length + k * 2 + 1 = (pcCells A y).length + (k * 2 + 1) from by omega]
    rw [List.getElem?_append_right (by omega), List.getElem?_append_right (by omega)]
    rw [show (pcCells A y).length + k * 2 - (pcCells A y).length = k * 2 by omega, show (pcCells A y).length + (k * 2 + 1) - (pcCells A y).length = k * 2 + 1 by omega]
    exact ⟨h1, h2⟩
theorem PcOwn.at {B : Nat} {a : Option Addr} {n c : Nat} {A : List Nat} {L : List (Nat × Nat)} {w : World} (h : PcOwn B (.slice a n c) A L w) (hn : L.length = n) {k : Nat} (hk : k < n) :
    ∃ g x y, a = some ⟨g, 0, none⟩ ∧ g < w.heap.size ∧ w.cell? ⟨g, k * 2, none⟩ = some (.int .i64 x) ∧ w.cell? ⟨g, k * 2 + 1, none⟩ = some (.int .i64 y) ∧ ∃ q, L[k]? = some q ∧ x = ((A.getD q.1 0 : Nat) : Int) ∧ y = ((A.getD q.2 0 : Nat) : Int) := by
  unfold PcOwn at h
  rw [hn] at h
  obtain ⟨g, h1, h2, h3⟩ := own_cell h (by omega)
  have hx : L[k]? = some L[k] := List.getElem?_eq_getElem (by omega)
  obtain ⟨h4, h5⟩ := pc_at (A := A) hx
  exact ⟨g, _, _, h1, h2, h3 _ _ h4, h3 _ _ h5, _, hx, rfl, rfl⟩
theorem PcOwn.quiet {B : Nat} {v : Value} {A : List Nat} {L : List (Nat × Nat)} {w w' : World} (h : PcOwn B v A L w) (hq : Quiet w w') : PcOwn B v A L w' := own_below h (hq.below w.heap.size)
theorem PcOwn.take {B : Nat} {a : Option Addr} {n c m : Nat} {A : List Nat} {L : List (Nat × Nat)} {w : World} (h : PcOwn B (.slice a n c) A L w) (hn : L.length = n) (hm : m ≤ n) : PcOwn B (.slice a m c) A (L.take m) w := by
  have hl : (L.take m).length = m := by rw [List.length_take]; omega
  have hf : ∀ (X : List (Nat × Nat)), (X.flatMap (pcCells A)).length = X.length * 2 := by
    intro X
    induction X with
    | nil => rfl
    | cons x r ih => rw [List.flatMap_cons, List.length_append, ih, List.length_cons, show (pcCells A x).length = 2 from rfl]; omega
  have hs : L.flatMap (pcCells A) = (L.take m).flatMap (pcCells A) ++ (L.drop m).flatMap (pcCells A) := by rw [← List.flatMap_append, List.take_append_drop]
  unfold PcOwn at h ⊢
  rw [hn] at h
  obtain ⟨h1, h2⟩ := h
  rw [hl]
  refine ⟨by rw [hf, hl], ?_⟩
  rcases h2 with ⟨h3, h4⟩ | ⟨g, cap, cur, h3, h4, h5, h6, h7, h8, h9⟩
  · left
    subst h4
    obtain rfl : m = 0 := by omega
    exact ⟨h3, rfl⟩
  · cases h3
    refine .inr ⟨g, c, cur, rfl, h4, h5, by omega, h7, h8, ?_⟩
    have h10 := congrArg (List.take (m * 2)) h9
    rw [List.take_take, hs, Nat.min_eq_left (by omega)] at h10
    rw [h10, List.take_append_of_le_length (by rw [hf, hl]; exact Nat.le_refl _), List.take_of_length_le (by rw [hf, hl]; exact Nat.le_refl _)]
set_option maxHeartbeats 4000000 in
theorem eqC (w : World) (A : List Nat) (L : List (Nat × Nat)) (B1 B2 : Nat) (a1 a2 : Option Addr) (n c1 c2 : Nat) (h1 : PcOwn B1 (.slice a1 n c1) A L w) (h2 : PcOwn B2 (.slice a2 n c2) A L w) (hn : L.length = n) (hb : n ≤ 1073741824) :
    Calls Tryd.prog 22 #[.slice a1 n c1, .slice a2 n c2] w fun e w' => e = .returned (.bool true) ∧ Quiet w w' := by
  have HA := Lib.hid h1
  have HB := Lib.hid h2
  have HN := Lib.hid hn
  clear h1 h2 hn
  have hne : ((n : Int) != (n : Int)) = false := by simp
  go_enter Tryd.func22, Tryd.ntmps22
  go_wp2
  go_loopw [5] (fun i wr => ∃ k : Nat, k ≤ n ∧ i = .int .i64 k ∧ Quiet w wr) (fun i _ => n - (RowKit.intOf i).toNat)
  case atStart => exact ⟨0, Nat.zero_le _, rfl, Quiet.refl _⟩
  case round =>
    obtain ⟨k, hk, rfl, hq⟩ := hrel
    by_cases hlt : k < n
    · obtain ⟨g1, x, y, rfl, g1l, c11, c12, q, hq1, hx1, hy1⟩ := (HA.out.quiet hq).at HN.out hlt
      obtain ⟨g2, x2, y2, rfl, g2l, c21, c22, q2, hq2, hx2, hy2⟩ := (HB.out.quiet hq).at HN.out hlt
      obtain rfl : q = q2 := by rw [hq1] at hq2; exact Option.some.inj hq2
      obtain rfl : x2 = x := by rw [hx1, hx2]
      obtain rfl : y2 = y := by rw [hy1, hy2]
      have e1 : (x2 != x2) = false := by simp
      have e2 : (y2 != y2) = false := by simp
      have e3 : (x2 == x2) = true := by simp
      have e4 : (y2 == y2) = true := by simp
      clear hq1 hq2 hx1 hy1 hx2 hy2
      go_wp2
      go_quiet (fail)
      go_wp2
      go_roundw
      case rel => exact ⟨k + 1, by omega, by go_num, hq.drewN _⟩
      case measure => simp [RowKit.intOf]; omega
    · obtain rfl : k = n := by omega
      go_wp2
      go_ret
      exact ⟨rfl, hq⟩
theorem withinC (w : World) (x n : Int) (hn : 1 ≤ n) (hn2 : n ≤ 1073741824) :
    Calls Tryd.prog 23 #[.int .i64 x, .int .i64 n] w fun e w' => (∃ k : Nat, e = .returned (.int .i64 (k : Int)) ∧ (k : Int) < n) ∧ w' = w := by
  have htl : (x.tmod n).natAbs < n.natAbs := by rw [Int.natAbs_tmod]; exact Nat.mod_lt _ (by omega)
  obtain ⟨t, ht⟩ : ∃ t, x.tmod n = t := ⟨_, rfl⟩
  rw [ht] at htl
  have h1 : -n < t := by omega
  have h2 : t < n := by omega
  have hb0 : ¬ n = 0 := by omega
  by_cases h0 : t < 0
  · go_enter Tryd.func23, Tryd.ntmps23
    go_wp2
    go_ret
    exact ⟨⟨(t + n).toNat, by rw [Int.toNat_of_nonneg (by omega)]; rfl, by omega⟩, rfl⟩
  · go_enter Tryd.func23, Tryd.ntmps23
    go_wp2
    go_ret
    exact ⟨⟨t.toNat, by rw [Int.toNat_of_nonneg (by omega)]; rfl, by omega⟩, rfl⟩
end Go.Proofs.YtchdeboialbdiaaDoor
