/- Texts joined, one behind the other (SCompF, SCut, SRefA). -/
import Derived.Test.YtchdeboialbdiaaDoorSk22
/- Compile, where the pattern's memory begins: the program's Compile once more, with the bound kept. -/
namespace Go.Proofs.YtchdeboialbdiaaDoor
set_option linter.unusedVariables false
set_option linter.unusedSimpArgs false
open Go.RowKit
open Go.Lib hiding intOf
/-- a pattern whose parts lie above a bound -/
def PatFrom (B0 : Nat) (w : World) (g : Nat) (l : List UInt8) (fo : Bool) (its : List Itm) : Prop :=
  ∃ (v : Value) (L : List (Itm × Value)) (B : Nat), B0 ≤ B ∧ Row w g 84 [.string (bstr l), .bool true, v] ∧ L.map Prod.fst = its ∧ PartsOwn fo B v L w
theorem PatFrom.is {B0 : Nat} {w : World} {g : Nat} {l : List UInt8} {fo : Bool} {its : List Itm} (h : PatFrom B0 w g l fo its) : PatIs w g l fo its := by
  obtain ⟨v, L, B, _, h1, h2, h3⟩ := h
  exact ⟨v, L, B, h1, h2, h3⟩
/-- a store below the bound leaves it -/
theorem PatFrom.grown {B0 p : Nat} {w : World} {g : Nat} {l : List UInt8} {fo : Bool} {its : List Itm} (h : PatFrom B0 w g l fo its) (i : Nat) (u : Value) (hp : p < B0) (hg : p ≠ g) : PatFrom B0 (w.setCell ⟨p, i, none⟩ u) g l fo its := by
  obtain ⟨v, L, B, h0, h1, h2, h3⟩ := h
  exact ⟨v, L, B, h0, h1.other (p := ⟨p, i, none⟩) hg u, h2, h3.grown (grownBy_set w p i u) (by omega)⟩
def CompF (w : World) (l : List UInt8) (e : Ending) (w' : World) : Prop :=
  Below w.heap.size w w' ∧ if 256 < l.length then ∃ g, e = .returned (.tuple #[.pointer none, .iface 68 (.pointer (some ⟨g, 0, none⟩))]) ∧ w.heap.size ≤ g ∧ Row w' g 70 [.int .i64 4, .int .i64 0] else
    match itemsP (valsL l) with
    | .inl b => ∃ g, e = .returned (.tuple #[.pointer none, .iface 68 (.pointer (some ⟨g, 0, none⟩))]) ∧ w.heap.size ≤ g ∧ Row w' g 70 [.int .i64 60, .int .i64 ((atsL l).getD b 0 : Int)]
    | .inr its => ∃ g, e = .returned (.tuple #[.pointer (some ⟨g, 0, none⟩), .nilIface]) ∧ w.heap.size ≤ g ∧ PatFrom w.heap.size w' g l (foldedP (valsL l)) its
set_option maxHeartbeats 4000000 in
set_option maxRecDepth 100000 in
theorem compileF (w : World) (l : List UInt8) (hm : l.length ≤ 140737488355328) (hT : Tabs w) :
    Calls Tryd.prog 10 #[.string (bstr l)] w (CompF w l) := by
  by_cases hl : 256 < l.length
  · have h1 : (256 : Int) < (l.length : Int) := by omega
    have h2 : ¬ (l.length : Int) ≤ 256 := by omega
    have HL := Lib.hid hl
    clear hl hT
    go_enter Tryd.func10, Tryd.ntmps10
    go_wp2_with fail
    go_ret2
    unfold CompF
    rw [if_pos HL.out]
    exact ⟨(Below.refl _ w).alloc (Nat.le_refl _) _, w.heap.size, rfl, Nat.le_refl _, row_new w [.int .i64 4, .int .i64 0] 70⟩
  have h1 : ¬ (256 : Int) < (l.length : Int) := by omega
  have h2 : (l.length : Int) ≤ 256 := by omega
  have hC := charsC w l (by omega) hT
  have HL := Lib.hid hl
  have hC2 : Calls Tryd.prog 34 #[.string (bstr l)] w fun e w' => ∃ a c a2 c2, e = .returned (.tuple #[.slice a (valsL l).length c, .slice a2 (atsL l).length c2]) ∧ ReadsTok w' a (valsL l).length (valsL l) ∧ (∀ ad, a = some ad → w.heap.size ≤ ad.block ∧ ad.block < w'.heap.size) ∧ (0 < (valsL l).length → ∃ g, a = some ⟨g, 0, none⟩) ∧ (0 < (atsL l).length → ∃ g, a2 = some ⟨g, 0, none⟩ ∧ w.heap.size ≤ g ∧ g < w'.heap.size ∧ ∀ (k x : Nat), (atsL l)[k]? = some x → w'.cell? ⟨g, k, none⟩ = some (.int .i64 (x : Int))) ∧ Below w.heap.size w w' := hC.mono (by
    rintro e w' ⟨vl, va, rfl, ht, hi, hb⟩
    obtain ⟨a, c, rfl, r1, r2, r3⟩ := ht.shape
    obtain ⟨a2, c2, rfl, s1, s2⟩ := hi.shape
    exact ⟨a, c, a2, c2, rfl, r1, r2, r3, s2, hb⟩)
  have hvl := vals_len l
  have hal := ats_len l
  have hok := vals_ok l
  obtain ⟨V, hV⟩ : ∃ V, valsL l = V := ⟨_, rfl⟩
  obtain ⟨n, hn⟩ : ∃ n, V.length = n := ⟨_, rfl⟩
  rw [hV] at hvl hal hok hC2
  rw [hn] at hvl hal hC2
  obtain ⟨A, hA⟩ : ∃ A, atsL l = A := ⟨_, rfl⟩
  rw [hA] at hal hC2
  rw [hal] at hC2
  have HC := Lib.hid hC2
  have HAT := Lib.hid hA
  have HV := Lib.hid hV
  have HN := Lib.hid hn
  have HOK := Lib.hid hok
  have hn256 : n ≤ 256 := by omega
  have hPT0 : ∀ (i : Nat) (fo : Bool), i ≤ n → ∀ (W : World) (p : Nat) (a : Option Addr) (c : Nat), Scan W p a n c V i fo → (∀ ad, a = some ad → ad.block < W.heap.size) → Calls Tryd.prog 35 #[.pointer (some ⟨p, 0, none⟩)] W (PatP W p a n c V fo (itemsGo V (V.length + 1) i [])) := fun i fo hi W p a c hs ha => patternC W p a n c V i fo hs HOK.out hi (by omega) ha
  have HPT0 := Lib.hid hPT0
  have HAL := Lib.hid hal
  clear hl hT hC hvl hok hV hn hPT0 hC2 hA hal
  by_cases hf1 : 1 < n
  · have hf1i : (1 : Int) < (n : Int) := by omega
    have hf1j : ¬ (n : Int) ≤ 1 := by omega
    have hf1k : (0 : Int) < (n : Int) := by omega
    obtain ⟨v0, hv0⟩ : ∃ v, V[0]? = some v := ⟨_, List.getElem?_eq_getElem (by have := HN.out; omega)⟩
    obtain ⟨v1, hv1⟩ : ∃ v, V[1]? = some v := ⟨_, List.getElem?_eq_getElem (by have := HN.out; omega)⟩
    have okc : ∀ {k v : Nat}, V[k]? = some v → OkC v := fun {k v} h => by
      have := HOK.out v (List.mem_of_getElem? h)
      unfold OkC
      omega
    have hq0 : ∀ w', (binOp .eql 79 (.agg #[.int .i32 (tokR v0 : Int), .int .i64 (tokW v0 : Int)]) (.agg #[.int .i32 92, .int .i64 0])).run Tryd.prog w' = .ok (.bool (decide (v0 = 92))) w' := fun w' => by
      rw [tokQl]
      exact congrArg (fun b => Result.ok (Value.bool b) w') (tok_eq (okc hv0) (u := 92) (.inl (by decide)))
    have hq1 : ∀ w', (binOp .eql 79 (.agg #[.int .i32 (tokR v1 : Int), .int .i64 (tokW v1 : Int)]) (.agg #[.int .i32 105, .int .i64 0])).run Tryd.prog w' = .ok (.bool (decide (v1 = 105))) w' := fun w' => by
      rw [tokQl]
      exact congrArg (fun b => Result.ok (Value.bool b) w') (tok_eq (okc hv1) (u := 105) (.inl (by decide)))
    have HV0 := Lib.hid hv0
    have HV1 := Lib.hid hv1
    clear okc
    by_cases hf2 : v0 = 92 ∧ v1 = 105
    · have hfo : foldedP V = true := decide_eq_true ⟨by rw [hv0, hf2.1], by rw [hv1, hf2.2]⟩
      rw [decide_eq_true hf2.1] at hq0
      rw [decide_eq_true hf2.2] at hq1
      have hPT := HPT0.out 2 true hf1
      have hI0 : itemsP V = itemsGo V (V.length + 1) 2 [] := by
        unfold itemsP
        rw [hfo]
        rfl
      have HFO := Lib.hid hfo
      clear hf1 hfo HPT0 hv0 hv1 hf2
      cases hI : itemsGo V (V.length + 1) 2 [] with
      | inl b =>
        rw [hI] at hPT hI0
        have HI0 := Lib.hid hI0
        have HPT := Lib.hid hPT
        have hbn : b < A.length := by
          have := itemsGo_le V HOK.out _ _ _ (by have := HN.out; omega) b hI
          have := HN.out
          rw [HAL.out]
          omega
        have hbi : (b : Int) < ((n + 1 : Nat) : Int) := by rw [HAL.out] at hbn; omega
        have hbi2 : (b : Int) < (n : Int) + 1 := by omega
        have hbi3 : b < n + 1 := by omega
        obtain ⟨A0, hA0⟩ : ∃ x, A.getD b 0 = x := ⟨_, rfl⟩
        have HA0 := Lib.hid hA0
        clear hA0
        clear hPT hI hI0
        go_enter Tryd.func10, Tryd.ntmps10
        go_wp2_with (first | (go_at_call 34; refine (HC.out).mono ?_; rintro e w1 ⟨a, c, a2, c2, rfl, hrt, hab, hcl, hcell, hb⟩; have hsc := scan_new (c := c) hrt hab; have hsf := scan_newF (c := c) hrt hab; obtain ⟨bb, ha⟩ := hcl (by omega); subst ha; have hl0 := tok_at0 hsc.toks HV0.out; have hl1 := tok_at1 hsc.toks HV1.out; obtain ⟨u1, u2⟩ := hl0; obtain ⟨u3, u4⟩ := hl1; have HSF := Lib.hid hsf; clear hsf; have q1 := hsc.row.lt; have q2 := hsc.row.frozen 1; have q3 := hsc.row.frozen 2; have HB := Lib.hid hb; have HSC := Lib.hid hsc; have HAB := Lib.hid hab; have HCE := Lib.hid hcell; clear hrt hb hab hcl hcell hsc) | (go_at_call 35; refine (HPT.out (w1.alloc (.cells #[.slice (some ⟨bb, 0, none⟩) n c, .int .i64 2, .bool true] 77)) _ _ c HSF.out (fun ad h => by have := (HAB.out ad h).2; rw [World.size_alloc]; omega)).mono ?_; rintro e w4 ⟨hg4, rfl, hs4⟩; have i1 : w4.cell? ⟨w1.heap.size, 1, none⟩ = some (.int .i64 (b : Int)) := hs4.row.cell 1; obtain ⟨g2, ha2, hg21, hg22, hcc⟩ := HCE.out (by omega); subst ha2; have i2 := at_cell ((Below.refl w1.heap.size w1).alloc (Nat.le_refl _) _) hg4 hg22 hcc hbn; rw [HA0.out] at i2; have i3 := hs4.row.lt; have i4 : g2 < w4.heap.size := Nat.lt_of_lt_of_le (Nat.lt_of_lt_of_le hg22 (by rw [World.size_alloc]; exact Nat.le_succ _)) hg4.size; have HG4 := Lib.hid hg4; clear hg4 hs4 hcc))
        go_region
        all_goals go_wp2_with fail
        go_ret2
        have hbb := comp_below HB.out ((Below.refl w1.heap.size w1).alloc (Nat.le_refl _) _) HG4.out
        have hsz := hbb.size
        have hr : Row (w4.alloc (.cells #[.int .i64 60, .int .i64 ((A0 : Nat) : Int)] 70)) w4.heap.size 70 [.int .i64 60, .int .i64 ((A0 : Nat) : Int)] := row_new w4 _ _
        unfold CompF
        rw [if_neg HL.out, HV.out, HI0.out, HAT.out]
        dsimp only
        rw [HA0.out]
        exact ⟨(hbb.alloc hsz _).trans (Quiet.below ⟨1, rfl⟩ _), w4.heap.size, rfl, hsz, hr.keep (Quiet.below (w' := (w4.alloc _).drew) ⟨1, rfl⟩ _) hr.lt⟩
      | inr its =>
        rw [hI] at hPT hI0
        have HI0 := Lib.hid hI0
        have HPT := Lib.hid hPT
        clear hPT hI hI0
        go_enter Tryd.func10, Tryd.ntmps10
        go_wp2_with (first | (go_at_call 34; refine (HC.out).mono ?_; rintro e w1 ⟨a, c, a2, c2, rfl, hrt, hab, hcl, hcell, hb⟩; have hsc := scan_new (c := c) hrt hab; have hsf := scan_newF (c := c) hrt hab; obtain ⟨bb, ha⟩ := hcl (by omega); subst ha; have hl0 := tok_at0 hsc.toks HV0.out; have hl1 := tok_at1 hsc.toks HV1.out; obtain ⟨u1, u2⟩ := hl0; obtain ⟨u3, u4⟩ := hl1; have HSF := Lib.hid hsf; clear hsf; have q1 := hsc.row.lt; have q2 := hsc.row.frozen 1; have q3 := hsc.row.frozen 2; have HB := Lib.hid hb; have HSC := Lib.hid hsc; have HAB := Lib.hid hab; have HCE := Lib.hid hcell; clear hrt hb hab hcl hcell hsc) | (go_at_call 35; refine (HPT.out (w1.alloc (.cells #[.slice (some ⟨bb, 0, none⟩) n c, .int .i64 2, .bool true] 77)) _ _ c HSF.out (fun ad h => by have := (HAB.out ad h).2; rw [World.size_alloc]; omega)).mono ?_; rintro e w4 ⟨hg4, v, L, rfl, hL, hP⟩; obtain ⟨a3, c3, rfl⟩ := parts_shape hP; have HG4 := Lib.hid hg4; have HL4 := Lib.hid hL; have HP4 := Lib.hid hP; clear hg4 hL hP))
        go_ret2
        have hbb := comp_below HB.out ((Below.refl w1.heap.size w1).alloc (Nat.le_refl _) _) HG4.out
        have hsz := hbb.size
        have hal : Below w4.heap.size w4 (w4.alloc (.cells #[.string (bstr l), .bool true, .slice a3 L.length c3] 84)) := (Below.refl _ w4).alloc (Nat.le_refl _) _
        unfold CompF
        rw [if_neg HL.out, HV.out, HI0.out, HFO.out]
        exact ⟨hbb.alloc hsz _, w4.heap.size, rfl, hsz, _, L, _, (by have h7 := HB.out.size; first | omega | (simp only [World.size_alloc]; omega)), row_new w4 [.string (bstr l), .bool true, .slice a3 L.length c3] _, HL4.out, HP4.out.grown (grown_of_below hal (some w1.heap.size)) (by rw [World.size_alloc]; omega)⟩
    · have hfo : foldedP V = false := by
        refine decide_eq_false ?_
        rw [hv0, hv1]
        rintro ⟨h, h'⟩
        exact hf2 ⟨Option.some.inj h, Option.some.inj h'⟩
      have hPT := HPT0.out 0 false (Nat.zero_le _)
      have hI0 : itemsP V = itemsGo V (V.length + 1) 0 [] := by
        unfold itemsP
        rw [hfo]
        rfl
      have HFO := Lib.hid hfo
      obtain ⟨b0, hb0⟩ : ∃ b, decide (v0 = 92) = b := ⟨_, rfl⟩
      obtain ⟨b1, hb1⟩ : ∃ b, decide (v1 = 105) = b := ⟨_, rfl⟩
      rw [hb0] at hq0
      rw [hb1] at hq1
      have hbb : b0 = false ∨ (b0 = true ∧ b1 = false) := by
        cases b0 with
        | false => exact .inl rfl
        | true =>
          cases b1 with
          | false => exact .inr ⟨rfl, rfl⟩
          | true => exact absurd ⟨of_decide_eq_true hb0, of_decide_eq_true hb1⟩ hf2
      clear hf1 hfo HPT0 hv0 hv1 hf2 hb0 hb1
      rcases hbb with rfl | ⟨rfl, rfl⟩
      · cases hI : itemsGo V (V.length + 1) 0 [] with
        | inl b =>
          rw [hI] at hPT hI0
          have HI0 := Lib.hid hI0
          have HPT := Lib.hid hPT
          have hbn : b < A.length := by
            have := itemsGo_le V HOK.out _ _ _ (by have := HN.out; omega) b hI
            have := HN.out
            rw [HAL.out]
            omega
          have hbi : (b : Int) < ((n + 1 : Nat) : Int) := by rw [HAL.out] at hbn; omega
          have hbi2 : (b : Int) < (n : Int) + 1 := by omega
          have hbi3 : b < n + 1 := by omega
          obtain ⟨A0, hA0⟩ : ∃ x, A.getD b 0 = x := ⟨_, rfl⟩
          have HA0 := Lib.hid hA0
          clear hA0
          clear hPT hI hI0
          go_enter Tryd.func10, Tryd.ntmps10
          go_wp2_with (first | (go_at_call 34; refine (HC.out).mono ?_; rintro e w1 ⟨a, c, a2, c2, rfl, hrt, hab, hcl, hcell, hb⟩; have hsc := scan_new (c := c) hrt hab; obtain ⟨bb, ha⟩ := hcl (by omega); subst ha; have hl0 := tok_at0 hsc.toks HV0.out; have hl1 := tok_at1 hsc.toks HV1.out; obtain ⟨u1, u2⟩ := hl0; obtain ⟨u3, u4⟩ := hl1; have q1 := hsc.row.lt; have q2 := hsc.row.frozen 1; have q3 := hsc.row.frozen 2; have HB := Lib.hid hb; have HSC := Lib.hid hsc; have HAB := Lib.hid hab; have HCE := Lib.hid hcell; clear hrt hb hab hcl hcell hsc) | (go_at_call 35; refine (HPT.out (w1.alloc (.cells #[.slice (some ⟨bb, 0, none⟩) n c, .int .i64 0, .bool false] 77)) _ _ c HSC.out (fun ad h => by have := (HAB.out ad h).2; rw [World.size_alloc]; omega)).mono ?_; rintro e w4 ⟨hg4, rfl, hs4⟩; have i1 : w4.cell? ⟨w1.heap.size, 1, none⟩ = some (.int .i64 (b : Int)) := hs4.row.cell 1; obtain ⟨g2, ha2, hg21, hg22, hcc⟩ := HCE.out (by omega); subst ha2; have i2 := at_cell ((Below.refl w1.heap.size w1).alloc (Nat.le_refl _) _) hg4 hg22 hcc hbn; rw [HA0.out] at i2; have i3 := hs4.row.lt; have i4 : g2 < w4.heap.size := Nat.lt_of_lt_of_le (Nat.lt_of_lt_of_le hg22 (by rw [World.size_alloc]; exact Nat.le_succ _)) hg4.size; have HG4 := Lib.hid hg4; clear hg4 hs4 hcc))
          go_region
          all_goals go_wp2_with fail
          go_ret2
          have hbb := comp_below HB.out ((Below.refl w1.heap.size w1).alloc (Nat.le_refl _) _) HG4.out
          have hsz := hbb.size
          have hr : Row (w4.alloc (.cells #[.int .i64 60, .int .i64 ((A0 : Nat) : Int)] 70)) w4.heap.size 70 [.int .i64 60, .int .i64 ((A0 : Nat) : Int)] := row_new w4 _ _
          unfold CompF
          rw [if_neg HL.out, HV.out, HI0.out, HAT.out]
          dsimp only
          rw [HA0.out]
          exact ⟨(hbb.alloc hsz _).trans (Quiet.below ⟨1, rfl⟩ _), w4.heap.size, rfl, hsz, hr.keep (Quiet.below (w' := (w4.alloc _).drew) ⟨1, rfl⟩ _) hr.lt⟩
        | inr its =>
          rw [hI] at hPT hI0
          have HI0 := Lib.hid hI0
          have HPT := Lib.hid hPT
          clear hPT hI hI0
          go_enter Tryd.func10, Tryd.ntmps10
          go_wp2_with (first | (go_at_call 34; refine (HC.out).mono ?_; rintro e w1 ⟨a, c, a2, c2, rfl, hrt, hab, hcl, hcell, hb⟩; have hsc := scan_new (c := c) hrt hab; obtain ⟨bb, ha⟩ := hcl (by omega); subst ha; have hl0 := tok_at0 hsc.toks HV0.out; have hl1 := tok_at1 hsc.toks HV1.out; obtain ⟨u1, u2⟩ := hl0; obtain ⟨u3, u4⟩ := hl1; have q1 := hsc.row.lt; have q2 := hsc.row.frozen 1; have q3 := hsc.row.frozen 2; have HB := Lib.hid hb; have HSC := Lib.hid hsc; have HAB := Lib.hid hab; have HCE := Lib.hid hcell; clear hrt hb hab hcl hcell hsc) | (go_at_call 35; refine (HPT.out (w1.alloc (.cells #[.slice (some ⟨bb, 0, none⟩) n c, .int .i64 0, .bool false] 77)) _ _ c HSC.out (fun ad h => by have := (HAB.out ad h).2; rw [World.size_alloc]; omega)).mono ?_; rintro e w4 ⟨hg4, v, L, rfl, hL, hP⟩; obtain ⟨a3, c3, rfl⟩ := parts_shape hP; have HG4 := Lib.hid hg4; have HL4 := Lib.hid hL; have HP4 := Lib.hid hP; clear hg4 hL hP))
          go_ret2
          have hbb := comp_below HB.out ((Below.refl w1.heap.size w1).alloc (Nat.le_refl _) _) HG4.out
          have hsz := hbb.size
          have hal : Below w4.heap.size w4 (w4.alloc (.cells #[.string (bstr l), .bool true, .slice a3 L.length c3] 84)) := (Below.refl _ w4).alloc (Nat.le_refl _) _
          unfold CompF
          rw [if_neg HL.out, HV.out, HI0.out, HFO.out]
          exact ⟨hbb.alloc hsz _, w4.heap.size, rfl, hsz, _, L, _, (by have h7 := HB.out.size; first | omega | (simp only [World.size_alloc]; omega)), row_new w4 [.string (bstr l), .bool true, .slice a3 L.length c3] _, HL4.out, HP4.out.grown (grown_of_below hal (some w1.heap.size)) (by rw [World.size_alloc]; omega)⟩
      · cases hI : itemsGo V (V.length + 1) 0 [] with
        | inl b =>
          rw [hI] at hPT hI0
          have HI0 := Lib.hid hI0
          have HPT := Lib.hid hPT
          have hbn : b < A.length := by
            have := itemsGo_le V HOK.out _ _ _ (by have := HN.out; omega) b hI
            have := HN.out
            rw [HAL.out]
            omega
          have hbi : (b : Int) < ((n + 1 : Nat) : Int) := by rw [HAL.out] at hbn; omega
          have hbi2 : (b : Int) < (n : Int) + 1 := by omega
          have hbi3 : b < n + 1 := by omega
          obtain ⟨A0, hA0⟩ : ∃ x, A.getD b 0 = x := ⟨_, rfl⟩
          have HA0 := Lib.hid hA0
          clear hA0
          clear hPT hI hI0
          go_enter Tryd.func10, Tryd.ntmps10
          go_wp2_with (first | (go_at_call 34; refine (HC.out).mono ?_; rintro e w1 ⟨a, c, a2, c2, rfl, hrt, hab, hcl, hcell, hb⟩; have hsc := scan_new (c := c) hrt hab; obtain ⟨bb, ha⟩ := hcl (by omega); subst ha; have hl0 := tok_at0 hsc.toks HV0.out; have hl1 := tok_at1 hsc.toks HV1.out; obtain ⟨u1, u2⟩ := hl0; obtain ⟨u3, u4⟩ := hl1; have q1 := hsc.row.lt; have q2 := hsc.row.frozen 1; have q3 := hsc.row.frozen 2; have HB := Lib.hid hb; have HSC := Lib.hid hsc; have HAB := Lib.hid hab; have HCE := Lib.hid hcell; clear hrt hb hab hcl hcell hsc) | (go_at_call 35; refine (HPT.out (w1.alloc (.cells #[.slice (some ⟨bb, 0, none⟩) n c, .int .i64 0, .bool false] 77)) _ _ c HSC.out (fun ad h => by have := (HAB.out ad h).2; rw [World.size_alloc]; omega)).mono ?_; rintro e w4 ⟨hg4, rfl, hs4⟩; have i1 : w4.cell? ⟨w1.heap.size, 1, none⟩ = some (.int .i64 (b : Int)) := hs4.row.cell 1; obtain ⟨g2, ha2, hg21, hg22, hcc⟩ := HCE.out (by omega); subst ha2; have i2 := at_cell ((Below.refl w1.heap.size w1).alloc (Nat.le_refl _) _) hg4 hg22 hcc hbn; rw [HA0.out] at i2; have i3 := hs4.row.lt; have i4 : g2 < w4.heap.size := Nat.lt_of_lt_of_le (Nat.lt_of_lt_of_le hg22 (by rw [World.size_alloc]; exact Nat.le_succ _)) hg4.size; have HG4 := Lib.hid hg4; clear hg4 hs4 hcc))
          go_region
          all_goals go_wp2_with fail
          go_ret2
          have hbb := comp_below HB.out ((Below.refl w1.heap.size w1).alloc (Nat.le_refl _) _) HG4.out
          have hsz := hbb.size
          have hr : Row (w4.alloc (.cells #[.int .i64 60, .int .i64 ((A0 : Nat) : Int)] 70)) w4.heap.size 70 [.int .i64 60, .int .i64 ((A0 : Nat) : Int)] := row_new w4 _ _
          unfold CompF
          rw [if_neg HL.out, HV.out, HI0.out, HAT.out]
          dsimp only
          rw [HA0.out]
          exact ⟨(hbb.alloc hsz _).trans (Quiet.below ⟨1, rfl⟩ _), w4.heap.size, rfl, hsz, hr.keep (Quiet.below (w' := (w4.alloc _).drew) ⟨1, rfl⟩ _) hr.lt⟩
        | inr its =>
          rw [hI] at hPT hI0
          have HI0 := Lib.hid hI0
          have HPT := Lib.hid hPT
          clear hPT hI hI0
          go_enter Tryd.func10, Tryd.ntmps10
          go_wp2_with (first | (go_at_call 34; refine (HC.out).mono ?_; rintro e w1 ⟨a, c, a2, c2, rfl, hrt, hab, hcl, hcell, hb⟩; have hsc := scan_new (c := c) hrt hab; obtain ⟨bb, ha⟩ := hcl (by omega); subst ha; have hl0 := tok_at0 hsc.toks HV0.out; have hl1 := tok_at1 hsc.toks HV1.out; obtain ⟨u1, u2⟩ := hl0; obtain ⟨u3, u4⟩ := hl1; have q1 := hsc.row.lt; have q2 := hsc.row.frozen 1; have q3 := hsc.row.frozen 2; have HB := Lib.hid hb; have HSC := Lib.hid hsc; have HAB := Lib.hid hab; have HCE := Lib.hid hcell; clear hrt hb hab hcl hcell hsc) | (go_at_call 35; refine (HPT.out (w1.alloc (.cells #[.slice (some ⟨bb, 0, none⟩) n c, .int .i64 0, .bool false] 77)) _ _ c HSC.out (fun ad h => by have := (HAB.out ad h).2; rw [World.size_alloc]; omega)).mono ?_; rintro e w4 ⟨hg4, v, L, rfl, hL, hP⟩; obtain ⟨a3, c3, rfl⟩ := parts_shape hP; have HG4 := Lib.hid hg4; have HL4 := Lib.hid hL; have HP4 := Lib.hid hP; clear hg4 hL hP))
          go_ret2
          have hbb := comp_below HB.out ((Below.refl w1.heap.size w1).alloc (Nat.le_refl _) _) HG4.out
          have hsz := hbb.size
          have hal : Below w4.heap.size w4 (w4.alloc (.cells #[.string (bstr l), .bool true, .slice a3 L.length c3] 84)) := (Below.refl _ w4).alloc (Nat.le_refl _) _
          unfold CompF
          rw [if_neg HL.out, HV.out, HI0.out, HFO.out]
          exact ⟨hbb.alloc hsz _, w4.heap.size, rfl, hsz, _, L, _, (by have h7 := HB.out.size; first | omega | (simp only [World.size_alloc]; omega)), row_new w4 [.string (bstr l), .bool true, .slice a3 L.length c3] _, HL4.out, HP4.out.grown (grown_of_below hal (some w1.heap.size)) (by rw [World.size_alloc]; omega)⟩
  · have hf1i : ¬ (1 : Int) < (n : Int) := by omega
    have hf1j : (n : Int) ≤ 1 := by omega
    have hfo : foldedP V = false := by
      refine decide_eq_false ?_
      rintro ⟨_, h⟩
      have := lt_of_some h
      have := HN.out
      omega
    have hPT := HPT0.out 0 false (Nat.zero_le _)
    have hI0 : itemsP V = itemsGo V (V.length + 1) 0 [] := by
      unfold itemsP
      rw [hfo]
      rfl
    have HFO := Lib.hid hfo
    clear hf1 hfo HPT0
    cases hI : itemsGo V (V.length + 1) 0 [] with
    | inl b =>
      rw [hI] at hPT hI0
      have HI0 := Lib.hid hI0
      have HPT := Lib.hid hPT
      have hbn : b < A.length := by
        have := itemsGo_le V HOK.out _ _ _ (by have := HN.out; omega) b hI
        have := HN.out
        rw [HAL.out]
        omega
      have hbi : (b : Int) < ((n + 1 : Nat) : Int) := by rw [HAL.out] at hbn; omega
      have hbi2 : (b : Int) < (n : Int) + 1 := by omega
      have hbi3 : b < n + 1 := by omega
      obtain ⟨A0, hA0⟩ : ∃ x, A.getD b 0 = x := ⟨_, rfl⟩
      have HA0 := Lib.hid hA0
      clear hA0
      clear hPT hI hI0
      go_enter Tryd.func10, Tryd.ntmps10
      go_wp2_with (first | (go_at_call 34; refine (HC.out).mono ?_; rintro e w1 ⟨a, c, a2, c2, rfl, hrt, hab, hcl, hcell, hb⟩; have hsc := scan_new (c := c) hrt hab; have q1 := hsc.row.lt; have q2 := hsc.row.frozen 1; have q3 := hsc.row.frozen 2; have HB := Lib.hid hb; have HSC := Lib.hid hsc; have HAB := Lib.hid hab; have HCE := Lib.hid hcell; clear hrt hb hab hcl hcell hsc) | (go_at_call 35; refine (HPT.out (w1.alloc (.cells #[.slice a n c, .int .i64 0, .bool false] 77)) _ a c HSC.out (fun ad h => by have := (HAB.out ad h).2; rw [World.size_alloc]; omega)).mono ?_; rintro e w4 ⟨hg4, rfl, hs4⟩; have i1 : w4.cell? ⟨w1.heap.size, 1, none⟩ = some (.int .i64 (b : Int)) := hs4.row.cell 1; obtain ⟨g2, ha2, hg21, hg22, hcc⟩ := HCE.out (by omega); subst ha2; have i2 := at_cell ((Below.refl w1.heap.size w1).alloc (Nat.le_refl _) _) hg4 hg22 hcc hbn; rw [HA0.out] at i2; have i3 := hs4.row.lt; have i4 : g2 < w4.heap.size := Nat.lt_of_lt_of_le (Nat.lt_of_lt_of_le hg22 (by rw [World.size_alloc]; exact Nat.le_succ _)) hg4.size; have HG4 := Lib.hid hg4; clear hg4 hs4 hcc))
      go_region
      all_goals go_wp2_with fail
      go_ret2
      have hbb := comp_below HB.out ((Below.refl w1.heap.size w1).alloc (Nat.le_refl _) _) HG4.out
      have hsz := hbb.size
      have hr : Row (w4.alloc (.cells #[.int .i64 60, .int .i64 ((A0 : Nat) : Int)] 70)) w4.heap.size 70 [.int .i64 60, .int .i64 ((A0 : Nat) : Int)] := row_new w4 _ _
      unfold CompF
      rw [if_neg HL.out, HV.out, HI0.out, HAT.out]
      dsimp only
      rw [HA0.out]
      exact ⟨(hbb.alloc hsz _).trans (Quiet.below ⟨1, rfl⟩ _), w4.heap.size, rfl, hsz, hr.keep (Quiet.below (w' := (w4.alloc _).drew) ⟨1, rfl⟩ _) hr.lt⟩
    | inr its =>
      rw [hI] at hPT hI0
      have HI0 := Lib.hid hI0
      have HPT := Lib.hid hPT
      clear hPT hI hI0
      go_enter Tryd.func10, Tryd.ntmps10
      go_wp2_with (first | (go_at_call 34; refine (HC.out).mono ?_; rintro e w1 ⟨a, c, a2, c2, rfl, hrt, hab, hcl, hcell, hb⟩; have hsc := scan_new (c := c) hrt hab; have q1 := hsc.row.lt; have q2 := hsc.row.frozen 1; have q3 := hsc.row.frozen 2; have HB := Lib.hid hb; have HSC := Lib.hid hsc; have HAB := Lib.hid hab; have HCE := Lib.hid hcell; clear hrt hb hab hcl hcell hsc) | (go_at_call 35; refine (HPT.out (w1.alloc (.cells #[.slice a n c, .int .i64 0, .bool false] 77)) _ a c HSC.out (fun ad h => by have := (HAB.out ad h).2; rw [World.size_alloc]; omega)).mono ?_; rintro e w4 ⟨hg4, v, L, rfl, hL, hP⟩; obtain ⟨a3, c3, rfl⟩ := parts_shape hP; have HG4 := Lib.hid hg4; have HL4 := Lib.hid hL; have HP4 := Lib.hid hP; clear hg4 hL hP))
      go_ret2
      have hbb := comp_below HB.out ((Below.refl w1.heap.size w1).alloc (Nat.le_refl _) _) HG4.out
      have hsz := hbb.size
      have hal : Below w4.heap.size w4 (w4.alloc (.cells #[.string (bstr l), .bool true, .slice a3 L.length c3] 84)) := (Below.refl _ w4).alloc (Nat.le_refl _) _
      unfold CompF
      rw [if_neg HL.out, HV.out, HI0.out, HFO.out]
      exact ⟨hbb.alloc hsz _, w4.heap.size, rfl, hsz, _, L, _, (by have h7 := HB.out.size; first | omega | (simp only [World.size_alloc]; omega)), row_new w4 [.string (bstr l), .bool true, .slice a3 L.length c3] _, HL4.out, HP4.out.grown (grown_of_below hal (some w1.heap.size)) (by rw [World.size_alloc]; omega)⟩
end Go.Proofs.YtchdeboialbdiaaDoor
/- A text cut. -/
namespace Go.Proofs.YtchdeboialbdiaaDoor
set_option linter.unusedVariables false
set_option linter.unusedSimpArgs false
open Go.RowKit
open Go.Lib hiding intOf
theorem cutC (w : World) (l : List UInt8) (k : Nat) (hk : k ≤ 1048576) : Calls Tryd.prog 13 #[.string (bstr l), .int .i64 (k : Int)] w fun e w' => e = .returned (.string (bstr (l.take k))) ∧ w' = w := by
  by_cases h : k < l.length
  · have h1 : (k : Int) < (l.length : Int) := by omega
    have h2 : ¬ (l.length : Int) ≤ (k : Int) := by omega
    have h3 : (k : Int) ≤ (l.length : Int) := by omega
    obtain ⟨T, hT⟩ : ∃ T, l.take k = T := ⟨_, rfl⟩
    rw [hT]
    have hT2 : (l.drop 0).take (k - 0) = T := by rw [List.drop_zero, Nat.sub_zero]; exact hT
    go_enter Tryd.func13, Tryd.ntmps13
    go_wp2_with fail
    go_ret
    exact ⟨by first | rfl | (rw [← hT]; rfl), rfl⟩
  · have h1 : ¬ (k : Int) < (l.length : Int) := by omega
    have h2 : (l.length : Int) ≤ (k : Int) := by omega
    rw [List.take_of_length_le (by omega)]
    go_enter Tryd.func13, Tryd.ntmps13
    go_wp2_with fail
    go_ret
    exact ⟨rfl, rfl⟩
end Go.Proofs.YtchdeboialbdiaaDoor
/- The reference's first character: May, number, begins, Sequence, First. -/
namespace Go.Proofs.YtchdeboialbdiaaDoor
set_option linter.unusedVariables false
set_option linter.unusedSimpArgs false
open Go.RowKit
open Go.Lib hiding intOf
abbrev U1 (n : Nat) : Value := .int .u8 (n : Int)
set_option maxHeartbeats 4000000 in
set_option maxRecDepth 100000 in
theorem mayR6 (w : World) (r : Int) : Calls Tryd.prog 48 #[.int .i32 r] w fun e w' => e = .returned (.bool (mayI r)) ∧ w' = w := by
  unfold mayI
  by_cases a : 0 ≤ r
  · by_cases b : r ≤ 1114111
    · by_cases c : r < 55296
      · rw [decide_eq_true a, decide_eq_true b, decide_eq_true c]
        go_enter Tryd.func48, Tryd.ntmps48
        go_wp2_with fail
        go_ret
        exact ⟨rfl, rfl⟩
      · by_cases d : 57343 < r
        · rw [decide_eq_true a, decide_eq_true b, decide_eq_false c, decide_eq_true d]
          go_enter Tryd.func48, Tryd.ntmps48
          go_wp2_with fail
          go_ret
          exact ⟨rfl, rfl⟩
        · rw [decide_eq_true a, decide_eq_true b, decide_eq_false c, decide_eq_false d]
          go_enter Tryd.func48, Tryd.ntmps48
          go_wp2_with fail
          go_ret
          exact ⟨rfl, rfl⟩
    · rw [decide_eq_true a, decide_eq_false b, Bool.and_false, Bool.false_and]
      go_enter Tryd.func48, Tryd.ntmps48
      go_wp2_with fail
      go_ret
      exact ⟨rfl, rfl⟩
  · rw [decide_eq_false a, Bool.false_and, Bool.false_and]
    go_enter Tryd.func48, Tryd.ntmps48
    go_wp2_with fail
    go_ret
    exact ⟨rfl, rfl⟩
/-- a number's part: of the first i bytes of k -/
def numPart (l : List UInt8) (b : Int) : Nat → Int
  | 0 => 0
  | 1 => (bN l 0 : Int) - b
  | i + 1 => numPart l b i * 64 + bN l i % 64
theorem byte_at {l : List UInt8} {i : Nat} (h : i < l.length) : ∃ x : UInt8, l[i]? = some x ∧ bN l i = x.toNat := by
  obtain ⟨x, hx⟩ := some_at h
  exact ⟨x, hx, by unfold bN; rw [List.getD_eq_getElem?_getD, hx]; rfl⟩
theorem part_next (l : List UInt8) (b : Int) (i : Nat) (h : 1 ≤ i) : numPart l b (i + 1) = numPart l b i * 64 + bN l i % 64 := by
  obtain ⟨j, rfl⟩ : ∃ j, i = j + 1 := ⟨i - 1, by omega⟩
  rfl
theorem part_bound (l : List UInt8) (b : Int) (h0 : 0 ≤ b) (h1 : b ≤ 256) (i : Nat) (hi : 1 ≤ i) (h4 : i ≤ 4) : -100000000 ≤ numPart l b i ∧ numPart l b i ≤ 100000000 := by
  have b0 := bN_lt l 0
  have b1 := bN_lt l 1
  have b2 := bN_lt l 2
  have b3 := bN_lt l 3
  have h : i = 1 ∨ i = 2 ∨ i = 3 ∨ i = 4 := by omega
  rcases h with rfl | rfl | rfl | rfl
  · show -100000000 ≤ (bN l 0 : Int) - b ∧ (bN l 0 : Int) - b ≤ _; omega
  · show -100000000 ≤ ((bN l 0 : Int) - b) * 64 + bN l 1 % 64 ∧ ((bN l 0 : Int) - b) * 64 + bN l 1 % 64 ≤ _; omega
  · show -100000000 ≤ (((bN l 0 : Int) - b) * 64 + bN l 1 % 64) * 64 + bN l 2 % 64 ∧ (((bN l 0 : Int) - b) * 64 + bN l 1 % 64) * 64 + bN l 2 % 64 ≤ _; omega
  · show -100000000 ≤ ((((bN l 0 : Int) - b) * 64 + bN l 1 % 64) * 64 + bN l 2 % 64) * 64 + bN l 3 % 64 ∧ ((((bN l 0 : Int) - b) * 64 + bN l 1 % 64) * 64 + bN l 2 % 64) * 64 + bN l 3 % 64 ≤ _; omega
theorem part_num (l : List UInt8) (k : Nat) (hk : k = 2 ∨ k = 3 ∨ k = 4) : numI l k = numPart l (if k = 2 then 192 else if k = 3 then 224 else 240) k := by
  rcases hk with rfl | rfl | rfl <;> rfl
set_option maxHeartbeats 4000000 in
set_option maxRecDepth 100000 in
theorem numberR6 (w : World) (l : List UInt8) (k : Nat) (h1 : 1 ≤ k) (h4 : k ≤ 4) (hl : k ≤ l.length) (hm : l.length ≤ 140737488355328) : Calls Tryd.prog 67 #[.string (bstr l), .int .i64 (k : Int)] w fun e w' => e = .returned (.int .i32 (numI l k)) ∧ Quiet w w' := by
  have hsz : (bstr l).size = l.length := bstr_size l
  obtain ⟨x, hx, hb⟩ := byte_at (l := l) (i := 0) (by omega)
  have i1 : 0 < (bstr l).size := by rw [hsz]; omega
  have hxa : (bstr l)[0]'i1 = x := bstr_at hx _
  have hxl := x.toNat_lt
  have hli : (0 : Int) < (l.length : Int) := by omega
  by_cases hk1 : k = 1
  · subst hk1
    have e : numI l 1 = (x.toNat : Int) := by show (bN l 0 : Int) = _; rw [hb]
    rw [e]
    clear e hx hb
    go_enter Tryd.func67, Tryd.ntmps67
    go_wp2_with fail
    go_ret
    exact ⟨rfl, Quiet.refl _⟩
  have hk : k = 2 ∨ k = 3 ∨ k = 4 := by omega
  obtain ⟨b, hbb, hb0, hb1⟩ : ∃ b : Int, b = (if k = 2 then 192 else if k = 3 then 224 else 240) ∧ 0 ≤ b ∧ b ≤ 256 := ⟨_, rfl, by rcases hk with rfl | rfl | rfl <;> decide, by rcases hk with rfl | rfl | rfl <;> decide⟩
  rw [part_num l k hk, ← hbb]
  have HP1 : Hid (numPart l b 1 = (x.toNat : Int) - b) := Lib.hid (by show (bN l 0 : Int) - b = _; rw [hb])
  have HPN := Lib.hid (part_next l b)
  have HPB := Lib.hid (part_bound l b hb0 hb1)
  have hk1f : ((k : Int) == 1) = false := by rw [beq_eq_false_iff_ne]; omega
  have hw : IntKind.i64.wrap ((256 : Int) - (256 : Int) / 2 ^ k) = b := by
    rw [hbb]
    rcases hk with rfl | rfl | rfl <;> decide
  have hw2 : (256 : Int) - (256 : Int) / 2 ^ k = b := by
    rw [hbb]
    rcases hk with rfl | rfl | rfl <;> decide
  clear hx hb hbb
  go_enter Tryd.func67, Tryd.ntmps67
  go_wp2_with fail
  go_quiet (fail)
  go_wp2_with fail
  go_loopw [5, 6] (fun un ui wr => ∃ i : Nat, ui = .int .i64 (i : Int) ∧ un = .int .i64 (numPart l b i) ∧ 1 ≤ i ∧ i ≤ k ∧ wr = w.drewN nq) (fun _ ui _ => k - (RowKit.intOf ui).toNat)
  case atStart => exact ⟨1, rfl, by rw [HP1.out], Nat.le_refl _, h1, rfl⟩
  case round =>
    obtain ⟨i, rfl, rfl, hi1, hik, rfl⟩ := hrel
    have hpb := HPB.out i hi1 (by omega)
    by_cases hlt : i < k
    · obtain ⟨y, hy, hby⟩ := byte_at (l := l) (i := i) (by omega)
      have i2 : i < (bstr l).size := by rw [hsz]; omega
      have hya : (bstr l)[i]'i2 = y := bstr_at hy _
      have hyl := y.toNat_lt
      have hik2 : (i : Int) < (k : Int) := by omega
      have hil : (i : Int) < (l.length : Int) := by omega
      have hn := HPN.out i hi1
      have hnb := HPB.out (i + 1) (by omega) (by omega)
      rw [hby] at hn
      have hmd : (y.toNat : Int).tmod 64 = (y.toNat : Int) % 64 := Int.tmod_eq_emod_of_nonneg (by omega)
      obtain ⟨r, hr⟩ : ∃ r, (y.toNat : Int) % 64 = r := ⟨_, rfl⟩
      rw [hr] at hn hmd
      have hrb : 0 ≤ r ∧ r < 64 := by omega
      obtain ⟨hr0, hr1⟩ := hrb
      obtain ⟨P, hP⟩ : ∃ P, numPart l b i = P := ⟨_, rfl⟩
      obtain ⟨P2, hP2⟩ : ∃ P, numPart l b (i + 1) = P := ⟨_, rfl⟩
      rw [hP] at hn hpb ⊢
      rw [hP2] at hn hnb
      have HN := Lib.hid hn
      have HP2 := Lib.hid hP2
      clear hr hn hy hby hP hP2
      go_wp2_with fail
      go_roundw
      case rel => exact ⟨i + 1, by go_num, by rw [HP2.out, HN.out], by omega, by omega, by first | rfl | trivial⟩
      case measure => simp [RowKit.intOf]; omega
    · obtain rfl : i = k := by omega
      have hnl : ¬ (i : Int) < (i : Int) := by omega
      obtain ⟨P, hP⟩ : ∃ P, numPart l b i = P := ⟨_, rfl⟩
      rw [hP] at hpb ⊢
      have HP := Lib.hid hP
      clear hP hlt
      go_wp2_with fail
      go_ret
      exact ⟨by rw [HP.out]; rfl, ⟨nq, rfl⟩⟩
/-- do the bytes begin with these? -/
def begU (l : List UInt8) (X : List Nat) (i : Nat) : Prop := ∀ k, k < i → bN l k = X.getD k 0
theorem beg_true {l : List UInt8} {X : List Nat} (h : X.length ≤ l.length) (hb : begU l X X.length) : begN l X = true := by
  unfold begN
  rw [Bool.and_eq_true]
  refine ⟨decide_eq_true h, List.all_eq_true.2 fun k hk => decide_eq_true (hb k (List.mem_range.1 hk))⟩
theorem beg_false {l : List UInt8} {X : List Nat} {k : Nat} (hk : k < X.length) (h : bN l k ≠ X.getD k 0) : begN l X = false := by
  unfold begN
  rw [Bool.and_eq_false_iff]
  right
  rw [List.all_eq_false]
  exact ⟨k, List.mem_range.2 hk, by simpa using h⟩
set_option maxHeartbeats 4000000 in
set_option maxRecDepth 100000 in
theorem beginsR6 (w : World) (l : List UInt8) (a : Option Addr) (n c : Nat) (X : List Nat) (hX : X.length = n) (hr : Reads w a n (X.map U1)) (hn : n ≤ 8) (hm : l.length ≤ 140737488355328) : Calls Tryd.prog 68 #[.string (bstr l), .slice a n c] w fun e w' => e = .returned (.bool (begN l X)) ∧ Quiet w w' := by
  have hsz : (bstr l).size = l.length := bstr_size l
  by_cases hll : l.length < n
  · have e : begN l X = false := by unfold begN; rw [decide_eq_false (by omega), Bool.false_and]
    have h1 : (l.length : Int) < (n : Int) := by omega
    rw [e]
    clear e hr
    go_enter Tryd.func68, Tryd.ntmps68
    go_wp2_with fail
    go_ret
    exact ⟨rfl, Quiet.refl _⟩
  have h1 : ¬ (l.length : Int) < (n : Int) := by omega
  have HX := Lib.hid hX
  have HR := Lib.hid hr
  clear hX hr
  go_enter Tryd.func68, Tryd.ntmps68
  go_wp2_with fail
  go_loopw [5] (fun ui wr => ∃ i : Nat, ui = .int .i64 (i : Int) ∧ i ≤ n ∧ Hid (begU l X i ∧ Quiet w wr)) (fun ui _ => n - (RowKit.intOf ui).toNat)
  case atStart => exact ⟨0, rfl, Nat.zero_le _, Lib.hid ⟨fun k hk => by omega, Quiet.refl _⟩⟩
  case round =>
    obtain ⟨i, rfl, hi, HI⟩ := hrel
    by_cases hlt : i < n
    · obtain ⟨y, hy, hby⟩ := byte_at (l := l) (i := i) (by omega)
      have i2 : i < (bstr l).size := by rw [hsz]; omega
      have hya : (bstr l)[i]'i2 = y := bstr_at hy _
      have hin : (i : Int) < (n : Int) := by omega
      have hil : (i : Int) < (l.length : Int) := by omega
      obtain ⟨b1, o1, x, rfl, hb1, hx, hcx⟩ := (HR.out.quiet HI.out.2).at (k := i) hlt
      rw [List.getElem?_map] at hx
      obtain ⟨z, hz⟩ : ∃ z, X.getD i 0 = z := ⟨_, rfl⟩
      have hxz : x = U1 z := by
        rw [List.getElem?_eq_getElem (by rw [HX.out]; exact hlt)] at hx
        have h2 := Option.some.inj hx
        rw [List.getD_eq_getElem?_getD, List.getElem?_eq_getElem (by rw [HX.out]; exact hlt)] at hz
        rw [← h2, ← hz]
        rfl
      subst hxz
      have HZ := Lib.hid hz
      have HBY := Lib.hid hby
      clear hx hz hby hy
      by_cases he : y.toNat = z
      · have hbe : ((y.toNat : Int) != (z : Int)) = false := by simp; omega
        have HE := Lib.hid he
        clear he
        go_wp2_with fail
        go_quiet (fail)
        go_wp2_with fail
        go_roundw
        case rel => exact ⟨i + 1, by go_num, by omega, Lib.hid ⟨fun k hk => by
          by_cases hki : k = i
          · rw [hki, HBY.out, HZ.out, HE.out]
          · exact HI.out.1 k (by omega), HI.out.2.drewN _⟩⟩
        case measure => simp [RowKit.intOf]; omega
      · have hbe : ((y.toNat : Int) != (z : Int)) = true := by simp; omega
        have e : begN l X = false := beg_false (k := i) (by rw [HX.out]; exact hlt) (by rw [HBY.out, HZ.out]; exact he)
        have HE := Lib.hid e
        clear e he
        go_wp2_with fail
        go_quiet (fail)
        go_wp2_with fail
        go_ret
        exact ⟨by rw [HE.out]; rfl, HI.out.2.drewN _⟩
    · obtain rfl : i = n := by omega
      have hnl : ¬ (i : Int) < (i : Int) := by omega
      have e : begN l X = true := beg_true (by rw [HX.out]; omega) (by rw [HX.out]; exact HI.out.1)
      have HE := Lib.hid e
      clear e hlt
      go_wp2_with fail
      go_ret
      exact ⟨by rw [HE.out]; rfl, HI.out.2⟩
theorem div_nat (n k : Nat) (hk : 0 < k) : (n : Int).tdiv (k : Int) = ((n / k : Nat) : Int) := by
  rw [Int.tdiv_eq_ediv_of_nonneg (by omega)]
  rfl
theorem mod_nat (n k : Nat) : (n : Int).tmod (k : Int) = ((n % k : Nat) : Int) := by
  rw [Int.tmod_eq_emod_of_nonneg (by omega)]
  rfl
theorem u_reads {W : World} {g : Nat} {t : TypeId} {xs : List Value} {X : List Nat} (hR : Row W g t xs) (hx : xs = X.map U1) : Reads W (some ⟨g, 0, none⟩) X.length (X.map U1) := by
  have := hR.reads 0 xs.length (by omega)
  rw [List.drop_zero, List.take_length] at this
  subst hx
  rwa [List.length_map] at this
def SeqR (w : World) (X : List Nat) (e : Ending) (w' : World) : Prop :=
  ∃ a, e = .returned (.slice a X.length X.length) ∧ Reads w' a X.length (X.map U1) ∧ Below w.heap.size w w'
set_option maxHeartbeats 4000000 in
set_option maxRecDepth 100000 in
theorem seqR6 (w : World) (n : Nat) (hn : n ≤ 1114111) : Calls Tryd.prog 69 #[.int .i32 (n : Int)] w (SeqR w (seqN n)) := by
  unfold seqN
  by_cases h1 : n < 128
  · rw [if_pos h1]
    have i1 : (n : Int) < 128 := by omega
    go_enter Tryd.func69, Tryd.ntmps69
    go_wp2_with fail
    go_ret
    exact ⟨_, rfl, u_reads (row_new w [U1 n] _) rfl, (Below.refl _ w).alloc (Nat.le_refl _) _⟩
  rw [if_neg h1]
  have i1 : ¬ (n : Int) < 128 := by omega
  by_cases h2 : n < 2048
  · rw [if_pos h2]
    have i2 : (n : Int) < 2048 := by omega
    have q1 := div_nat n 64 (by decide)
    have q2 := mod_nat n 64
    obtain ⟨q, hq⟩ : ∃ q, n / 64 = q := ⟨_, rfl⟩
    obtain ⟨r, hr⟩ : ∃ r, n % 64 = r := ⟨_, rfl⟩
    have hqb : q < 32 := by omega
    have hrb : r < 64 := by omega
    rw [hq] at q1 ⊢
    rw [hr] at q2 ⊢
    rw [show ((64 : Nat) : Int) = 64 from rfl] at q1 q2
    clear hq hr
    go_enter Tryd.func69, Tryd.ntmps69
    go_wp2_with fail
    go_ret
    exact ⟨_, rfl, u_reads (row_new w _ _) rfl, (Below.refl _ w).alloc (Nat.le_refl _) _⟩
  rw [if_neg h2]
  have i2 : ¬ (n : Int) < 2048 := by omega
  by_cases h3 : n < 65536
  · rw [if_pos h3]
    have i3 : (n : Int) < 65536 := by omega
    have q1 := div_nat n 4096 (by decide)
    have q3 := div_nat n 64 (by decide)
    have q2 := mod_nat n 64
    have q4 := mod_nat (n / 64) 64
    obtain ⟨q, hq⟩ : ∃ q, n / 4096 = q := ⟨_, rfl⟩
    obtain ⟨r, hr⟩ : ∃ r, n % 64 = r := ⟨_, rfl⟩
    obtain ⟨s, hs⟩ : ∃ s, n / 64 % 64 = s := ⟨_, rfl⟩
    obtain ⟨u, hu⟩ : ∃ u, n / 64 = u := ⟨_, rfl⟩
    have hqb : q < 16 := by omega
    have hrb : r < 64 := by omega
    have hsb : s < 64 := by omega
    have hub : u < 1024 := by omega
    rw [hq] at q1 ⊢
    rw [hr] at q2 ⊢
    rw [hs] at q4 ⊢
    rw [hu] at q3 q4
    rw [show ((64 : Nat) : Int) = 64 from rfl] at q2 q3 q4
    rw [show ((4096 : Nat) : Int) = 4096 from rfl] at q1
    clear hq hr hs hu
    go_enter Tryd.func69, Tryd.ntmps69
    go_wp2_with fail
    go_ret
    exact ⟨_, rfl, u_reads (row_new w _ _) rfl, (Below.refl _ w).alloc (Nat.le_refl _) _⟩
  rw [if_neg h3]
  have i3 : ¬ (n : Int) < 65536 := by omega
  have q1 := div_nat n 262144 (by decide)
  have q2 := mod_nat n 64
  have q3 := div_nat n 64 (by decide)
  have q4 := mod_nat (n / 64) 64
  have q5 := div_nat n 4096 (by decide)
  have q6 := mod_nat (n / 4096) 64
  obtain ⟨q, hq⟩ : ∃ q, n / 262144 = q := ⟨_, rfl⟩
  obtain ⟨r, hr⟩ : ∃ r, n % 64 = r := ⟨_, rfl⟩
  obtain ⟨s, hs⟩ : ∃ s, n / 64 % 64 = s := ⟨_, rfl⟩
  obtain ⟨t, ht⟩ : ∃ t, n / 4096 % 64 = t := ⟨_, rfl⟩
  obtain ⟨u, hu⟩ : ∃ u, n / 64 = u := ⟨_, rfl⟩
  obtain ⟨v, hv⟩ : ∃ v, n / 4096 = v := ⟨_, rfl⟩
  have hqb : q < 8 := by omega
  have hrb : r < 64 := by omega
  have hsb : s < 64 := by omega
  have htb : t < 64 := by omega
  have hub : u < 65536 := by omega
  have hvb : v < 65536 := by omega
  rw [hq] at q1 ⊢
  rw [hr] at q2 ⊢
  rw [hs] at q4 ⊢
  rw [ht] at q6 ⊢
  rw [hu] at q3 q4
  rw [hv] at q5 q6
  rw [show ((64 : Nat) : Int) = 64 from rfl] at q2 q3 q4 q6
  rw [show ((4096 : Nat) : Int) = 4096 from rfl] at q5
  rw [show ((262144 : Nat) : Int) = 262144 from rfl] at q1
  clear hq hr hs ht hu hv
  go_enter Tryd.func69, Tryd.ntmps69
  go_wp2_with fail
  go_ret
  exact ⟨_, rfl, u_reads (row_new w _ _) rfl, (Below.refl _ w).alloc (Nat.le_refl _) _⟩
end Go.Proofs.YtchdeboialbdiaaDoor
