/- Texts joined, one behind the other (SCompF, SAllP). -/
import Derived.Test.YtchdeboialbdiaaDoorSk22
/- Compile, where the pattern's memory begins: the program's Compile once more, with the bound kept. -/
namespace Go.Proofs.YtchdeboialbdiaaDoor
set_option linter.unusedVariables false
set_option linter.unusedSimpArgs false
open Go.RowKit
open Go.Lib hiding intOf
/-- a pattern whose parts lie above a bound -/
def PatFrom (B0 : Nat) (w : World) (g : Nat) (l : List UInt8) (fo : Bool) (its : List Itm) : Prop :=
  ∃ (v : Value) (L : List (Itm × Value)) (B : Nat), B0 ≤ B ∧ Row w g 84 [.string (bstr l), .bool true, v] ∧ L.map Prod.fst = its ∧ PartsOwn fo B v L w
theorem PatFrom.is {B0 : Nat} {w : World} {g : Nat} {l : List UInt8} {fo : Bool} {its : List Itm} (h : PatFrom B0 w g l fo its) : PatIs w g l fo its := by
  obtain ⟨v, L, B, _, h1, h2, h3⟩ := h
  exact ⟨v, L, B, h1, h2, h3⟩
/-- a store below the bound leaves it -/
theorem PatFrom.grown {B0 p : Nat} {w : World} {g : Nat} {l : List UInt8} {fo : Bool} {its : List Itm} (h : PatFrom B0 w g l fo its) (i : Nat) (u : Value) (hp : p < B0) (hg : p ≠ g) : PatFrom B0 (w.setCell ⟨p, i, none⟩ u) g l fo its := by
  obtain ⟨v, L, B, h0, h1, h2, h3⟩ := h
  exact ⟨v, L, B, h0, h1.other (p := ⟨p, i, none⟩) hg u, h2, h3.grown (grownBy_set w p i u) (by omega)⟩
def CompF (w : World) (l : List UInt8) (e : Ending) (w' : World) : Prop :=
  Below w.heap.size w w' ∧ if 256 < l.length then ∃ g, e = .returned (.tuple #[.pointer none, .iface 68 (.pointer (some ⟨g, 0, none⟩))]) ∧ w.heap.size ≤ g ∧ Row w' g 70 [.int .i64 4, .int .i64 0] else
    match itemsP (valsL l) with
    | .inl b => ∃ g, e = .returned (.tuple #[.pointer none, .iface 68 (.pointer (some ⟨g, 0, none⟩))]) ∧ w.heap.size ≤ g ∧ Row w' g 70 [.int .i64 60, .int .i64 ((atsL l).getD b 0 : Int)]
    | .inr its => ∃ g, e = .returned (.tuple #[.pointer (some ⟨g, 0, none⟩), .nilIface]) ∧ w.heap.size ≤ g ∧ PatFrom w.heap.size w' g l (foldedP (valsL l)) its
set_option maxHeartbeats 4000000 in
set_option maxRecDepth 100000 in
theorem compileF (w : World) (l : List UInt8) (hm : l.length ≤ 140737488355328) (hT : Tabs w) :
    Calls Tryd.prog 10 #[.string (bstr l)] w (CompF w l) := by
  by_cases hl : 256 < l.length
  · have h1 : (256 : Int) < (l.length : Int) := by omega
    have h2 : ¬ (l.length : Int) ≤ 256 := by omega
    have HL := Lib.hid hl
    clear hl hT
    go_enter Tryd.func10, Tryd.ntmps10
    go_wp2_with fail
    go_ret2
    unfold CompF
    rw [if_pos HL.out]
    exact ⟨(Below.refl _ w).alloc (Nat.le_refl _) _, w.heap.size, rfl, Nat.le_refl _, row_new w [.int .i64 4, .int .i64 0] 70⟩
  have h1 : ¬ (256 : Int) < (l.length : Int) := by omega
  have h2 : (l.length : Int) ≤ 256 := by omega
  have hC := charsC w l (by omega) hT
  have HL := Lib.hid hl
  have hC2 : Calls Tryd.prog 34 #[.string (bstr l)] w fun e w' => ∃ a c a2 c2, e = .returned (.tuple #[.slice a (valsL l).length c, .slice a2 (atsL l).length c2]) ∧ ReadsTok w' a (valsL l).length (valsL l) ∧ (∀ ad, a = some ad → w.heap.size ≤ ad.block ∧ ad.block < w'.heap.size) ∧ (0 < (valsL l).length → ∃ g, a = some ⟨g, 0, none⟩) ∧ (0 < (atsL l).length → ∃ g, a2 = some ⟨g, 0, none⟩ ∧ w.heap.size ≤ g ∧ g < w'.heap.size ∧ ∀ (k x : Nat), (atsL l)[k]? = some x → w'.cell? ⟨g, k, none⟩ = some (.int .i64 (x : Int))) ∧ Below w.heap.size w w' := hC.mono (by
    rintro e w' ⟨vl, va, rfl, ht, hi, hb⟩
    obtain ⟨a, c, rfl, r1, r2, r3⟩ := ht.shape
    obtain ⟨a2, c2, rfl, s1, s2⟩ := hi.shape
    exact ⟨a, c, a2, c2, rfl, r1, r2, r3, s2, hb⟩)
  have hvl := vals_len l
  have hal := ats_len l
  have hok := vals_ok l
  obtain ⟨V, hV⟩ : ∃ V, valsL l = V := ⟨_, rfl⟩
  obtain ⟨n, hn⟩ : ∃ n, V.length = n := ⟨_, rfl⟩
  rw [hV] at hvl hal hok hC2
  rw [hn] at hvl hal hC2
  obtain ⟨A, hA⟩ : ∃ A, atsL l = A := ⟨_, rfl⟩
  rw [hA] at hal hC2
  rw [hal] at hC2
  have HC := Lib.hid hC2
  have HAT := Lib.hid hA
  have HV := Lib.hid hV
  have HN := Lib.hid hn
  have HOK := Lib.hid hok
  have hn256 : n ≤ 256 := by omega
  have hPT0 : ∀ (i : Nat) (fo : Bool), i ≤ n → ∀ (W : World) (p : Nat) (a : Option Addr) (c : Nat), Scan W p a n c V i fo → (∀ ad, a = some ad → ad.block < W.heap.size) → Calls Tryd.prog 35 #[.pointer (some ⟨p, 0, none⟩)] W (PatP W p a n c V fo (itemsGo V (V.length + 1) i [])) := fun i fo hi W p a c hs ha => patternC W p a n c V i fo hs HOK.out hi (by omega) ha
  have HPT0 := Lib.hid hPT0
  have HAL := Lib.hid hal
  clear hl hT hC hvl hok hV hn hPT0 hC2 hA hal
  by_cases hf1 : 1 < n
  · have hf1i : (1 : Int) < (n : Int) := by omega
    have hf1j : ¬ (n : Int) ≤ 1 := by omega
    have hf1k : (0 : Int) < (n : Int) := by omega
    obtain ⟨v0, hv0⟩ : ∃ v, V[0]? = some v := ⟨_, List.getElem?_eq_getElem (by have := HN.out; omega)⟩
    obtain ⟨v1, hv1⟩ : ∃ v, V[1]? = some v := ⟨_, List.getElem?_eq_getElem (by have := HN.out; omega)⟩
    have okc : ∀ {k v : Nat}, V[k]? = some v → OkC v := fun {k v} h => by
      have := HOK.out v (List.mem_of_getElem? h)
      unfold OkC
      omega
    have hq0 : ∀ w', (binOp .eql 79 (.agg #[.int .i32 (tokR v0 : Int), .int .i64 (tokW v0 : Int)]) (.agg #[.int .i32 92, .int .i64 0])).run Tryd.prog w' = .ok (.bool (decide (v0 = 92))) w' := fun w' => by
      rw [tokQl]
      exact congrArg (fun b => Result.ok (Value.bool b) w') (tok_eq (okc hv0) (u := 92) (.inl (by decide)))
    have hq1 : ∀ w', (binOp .eql 79 (.agg #[.int .i32 (tokR v1 : Int), .int .i64 (tokW v1 : Int)]) (.agg #[.int .i32 105, .int .i64 0])).run Tryd.prog w' = .ok (.bool (decide (v1 = 105))) w' := fun w' => by
      rw [tokQl]
      exact congrArg (fun b => Result.ok (Value.bool b) w') (tok_eq (okc hv1) (u := 105) (.inl (by decide)))
    have HV0 := Lib.hid hv0
    have HV1 := Lib.hid hv1
    clear okc
    by_cases hf2 : v0 = 92 ∧ v1 = 105
    · have hfo : foldedP V = true := decide_eq_true ⟨by rw [hv0, hf2.1], by rw [hv1, hf2.2]⟩
      rw [decide_eq_true hf2.1] at hq0
      rw [decide_eq_true hf2.2] at hq1
      have hPT := HPT0.out 2 true hf1
      have hI0 : itemsP V = itemsGo V (V.length + 1) 2 [] := by
        unfold itemsP
        rw [hfo]
        rfl
      have HFO := Lib.hid hfo
      clear hf1 hfo HPT0 hv0 hv1 hf2
      cases hI : itemsGo V (V.length + 1) 2 [] with
      | inl b =>
        rw [hI] at hPT hI0
        have HI0 := Lib.hid hI0
        have HPT := Lib.hid hPT
        have hbn : b < A.length := by
          have := itemsGo_le V HOK.out _ _ _ (by have := HN.out; omega) b hI
          have := HN.out
          rw [HAL.out]
          omega
        have hbi : (b : Int) < ((n + 1 : Nat) : Int) := by rw [HAL.out] at hbn; omega
        have hbi2 : (b : Int) < (n : Int) + 1 := by omega
        have hbi3 : b < n + 1 := by omega
        obtain ⟨A0, hA0⟩ : ∃ x, A.getD b 0 = x := ⟨_, rfl⟩
        have HA0 := Lib.hid hA0
        clear hA0
        clear hPT hI hI0
        go_enter Tryd.func10, Tryd.ntmps10
        go_wp2_with (first | (go_at_call 34; refine (HC.out).mono ?_; rintro e w1 ⟨a, c, a2, c2, rfl, hrt, hab, hcl, hcell, hb⟩; have hsc := scan_new (c := c) hrt hab; have hsf := scan_newF (c := c) hrt hab; obtain ⟨bb, ha⟩ := hcl (by omega); subst ha; have hl0 := tok_at0 hsc.toks HV0.out; have hl1 := tok_at1 hsc.toks HV1.out; obtain ⟨u1, u2⟩ := hl0; obtain ⟨u3, u4⟩ := hl1; have HSF := Lib.hid hsf; clear hsf; have q1 := hsc.row.lt; have q2 := hsc.row.frozen 1; have q3 := hsc.row.frozen 2; have HB := Lib.hid hb; have HSC := Lib.hid hsc; have HAB := Lib.hid hab; have HCE := Lib.hid hcell; clear hrt hb hab hcl hcell hsc) | (go_at_call 35; refine (HPT.out (w1.alloc (.cells #[.slice (some ⟨bb, 0, none⟩) n c, .int .i64 2, .bool true] 77)) _ _ c HSF.out (fun ad h => by have := (HAB.out ad h).2; rw [World.size_alloc]; omega)).mono ?_; rintro e w4 ⟨hg4, rfl, hs4⟩; have i1 : w4.cell? ⟨w1.heap.size, 1, none⟩ = some (.int .i64 (b : Int)) := hs4.row.cell 1; obtain ⟨g2, ha2, hg21, hg22, hcc⟩ := HCE.out (by omega); subst ha2; have i2 := at_cell ((Below.refl w1.heap.size w1).alloc (Nat.le_refl _) _) hg4 hg22 hcc hbn; rw [HA0.out] at i2; have i3 := hs4.row.lt; have i4 : g2 < w4.heap.size := Nat.lt_of_lt_of_le (Nat.lt_of_lt_of_le hg22 (by rw [World.size_alloc]; exact Nat.le_succ _)) hg4.size; have HG4 := Lib.hid hg4; clear hg4 hs4 hcc))
        go_region
        all_goals go_wp2_with fail
        go_ret2
        have hbb := comp_below HB.out ((Below.refl w1.heap.size w1).alloc (Nat.le_refl _) _) HG4.out
        have hsz := hbb.size
        have hr : Row (w4.alloc (.cells #[.int .i64 60, .int .i64 ((A0 : Nat) : Int)] 70)) w4.heap.size 70 [.int .i64 60, .int .i64 ((A0 : Nat) : Int)] := row_new w4 _ _
        unfold CompF
        rw [if_neg HL.out, HV.out, HI0.out, HAT.out]
        dsimp only
        rw [HA0.out]
        exact ⟨(hbb.alloc hsz _).trans (Quiet.below ⟨1, rfl⟩ _), w4.heap.size, rfl, hsz, hr.keep (Quiet.below (w' := (w4.alloc _).drew) ⟨1, rfl⟩ _) hr.lt⟩
      | inr its =>
        rw [hI] at hPT hI0
        have HI0 := Lib.hid hI0
        have HPT := Lib.hid hPT
        clear hPT hI hI0
        go_enter Tryd.func10, Tryd.ntmps10
        go_wp2_with (first | (go_at_call 34; refine (HC.out).mono ?_; rintro e w1 ⟨a, c, a2, c2, rfl, hrt, hab, hcl, hcell, hb⟩; have hsc := scan_new (c := c) hrt hab; have hsf := scan_newF (c := c) hrt hab; obtain ⟨bb, ha⟩ := hcl (by omega); subst ha; have hl0 := tok_at0 hsc.toks HV0.out; have hl1 := tok_at1 hsc.toks HV1.out; obtain ⟨u1, u2⟩ := hl0; obtain ⟨u3, u4⟩ := hl1; have HSF := Lib.hid hsf; clear hsf; have q1 := hsc.row.lt; have q2 := hsc.row.frozen 1; have q3 := hsc.row.frozen 2; have HB := Lib.hid hb; have HSC := Lib.hid hsc; have HAB := Lib.hid hab; have HCE := Lib.hid hcell; clear hrt hb hab hcl hcell hsc) | (go_at_call 35; refine (HPT.out (w1.alloc (.cells #[.slice (some ⟨bb, 0, none⟩) n c, .int .i64 2, .bool true] 77)) _ _ c HSF.out (fun ad h => by have := (HAB.out ad h).2; rw [World.size_alloc]; omega)).mono ?_; rintro e w4 ⟨hg4, v, L, rfl, hL, hP⟩; obtain ⟨a3, c3, rfl⟩ := parts_shape hP; have HG4 := Lib.hid hg4; have HL4 := Lib.hid hL; have HP4 := Lib.hid hP; clear hg4 hL hP))
        go_ret2
        have hbb := comp_below HB.out ((Below.refl w1.heap.size w1).alloc (Nat.le_refl _) _) HG4.out
        have hsz := hbb.size
        have hal : Below w4.heap.size w4 (w4.alloc (.cells #[.string (bstr l), .bool true, .slice a3 L.length c3] 84)) := (Below.refl _ w4).alloc (Nat.le_refl _) _
        unfold CompF
        rw [if_neg HL.out, HV.out, HI0.out, HFO.out]
        exact ⟨hbb.alloc hsz _, w4.heap.size, rfl, hsz, _, L, _, (by have h7 := HB.out.size; first | omega | (simp only [World.size_alloc]; omega)), row_new w4 [.string (bstr l), .bool true, .slice a3 L.length c3] _, HL4.out, HP4.out.grown (grown_of_below hal (some w1.heap.size)) (by rw [World.size_alloc]; omega)⟩
    · have hfo : foldedP V = false := by
        refine decide_eq_false ?_
        rw [hv0, hv1]
        rintro ⟨h, h'⟩
        exact hf2 ⟨Option.some.inj h, Option.some.inj h'⟩
      have hPT := HPT0.out 0 false (Nat.zero_le _)
      have hI0 : itemsP V = itemsGo V (V.length + 1) 0 [] := by
        unfold itemsP
        rw [hfo]
        rfl
      have HFO := Lib.hid hfo
      obtain ⟨b0, hb0⟩ : ∃ b, decide (v0 = 92) = b := ⟨_, rfl⟩
      obtain ⟨b1, hb1⟩ : ∃ b, decide (v1 = 105) = b := ⟨_, rfl⟩
      rw [hb0] at hq0
      rw [hb1] at hq1
      have hbb : b0 = false ∨ (b0 = true ∧ b1 = false) := by
        cases b0 with
        | false => exact .inl rfl
        | true =>
          cases b1 with
          | false => exact .inr ⟨rfl, rfl⟩
          | true => exact absurd ⟨of_decide_eq_true hb0, of_decide_eq_true hb1⟩ hf2
      clear hf1 hfo HPT0 hv0 hv1 hf2 hb0 hb1
      rcases hbb with rfl | ⟨rfl, rfl⟩
      · cases hI : itemsGo V (V.length + 1) 0 [] with
        | inl b =>
          rw [hI] at hPT hI0
          have HI0 := Lib.hid hI0
          have HPT := Lib.hid hPT
          have hbn : b < A.length := by
            have := itemsGo_le V HOK.out _ _ _ (by have := HN.out; omega) b hI
            have := HN.out
            rw [HAL.out]
            omega
          have hbi : (b : Int) < ((n + 1 : Nat) : Int) := by rw [HAL.out] at hbn; omega
          have hbi2 : (b : Int) < (n : Int) + 1 := by omega
          have hbi3 : b < n + 1 := by omega
          obtain ⟨A0, hA0⟩ : ∃ x, A.getD b 0 = x := ⟨_, rfl⟩
          have HA0 := Lib.hid hA0
          clear hA0
          clear hPT hI hI0
          go_enter Tryd.func10, Tryd.ntmps10
          go_wp2_with (first | (go_at_call 34; refine (HC.out).mono ?_; rintro e w1 ⟨a, c, a2, c2, rfl, hrt, hab, hcl, hcell, hb⟩; have hsc := scan_new (c := c) hrt hab; obtain ⟨bb, ha⟩ := hcl (by omega); subst ha; have hl0 := tok_at0 hsc.toks HV0.out; have hl1 := tok_at1 hsc.toks HV1.out; obtain ⟨u1, u2⟩ := hl0; obtain ⟨u3, u4⟩ := hl1; have q1 := hsc.row.lt; have q2 := hsc.row.frozen 1; have q3 := hsc.row.frozen 2; have HB := Lib.hid hb; have HSC := Lib.hid hsc; have HAB := Lib.hid hab; have HCE := Lib.hid hcell; clear hrt hb hab hcl hcell hsc) | (go_at_call 35; refine (HPT.out (w1.alloc (.cells #[.slice (some ⟨bb, 0, none⟩) n c, .int .i64 0, .bool false] 77)) _ _ c HSC.out (fun ad h => by have := (HAB.out ad h).2; rw [World.size_alloc]; omega)).mono ?_; rintro e w4 ⟨hg4, rfl, hs4⟩; have i1 : w4.cell? ⟨w1.heap.size, 1, none⟩ = some (.int .i64 (b : Int)) := hs4.row.cell 1; obtain ⟨g2, ha2, hg21, hg22, hcc⟩ := HCE.out (by omega); subst ha2; have i2 := at_cell ((Below.refl w1.heap.size w1).alloc (Nat.le_refl _) _) hg4 hg22 hcc hbn; rw [HA0.out] at i2; have i3 := hs4.row.lt; have i4 : g2 < w4.heap.size := Nat.lt_of_lt_of_le (Nat.lt_of_lt_of_le hg22 (by rw [World.size_alloc]; exact Nat.le_succ _)) hg4.size; have HG4 := Lib.hid hg4; clear hg4 hs4 hcc))
          go_region
          all_goals go_wp2_with fail
          go_ret2
          have hbb := comp_below HB.out ((Below.refl w1.heap.size w1).alloc (Nat.le_refl _) _) HG4.out
          have hsz := hbb.size
          have hr : Row (w4.alloc (.cells #[.int .i64 60, .int .i64 ((A0 : Nat) : Int)] 70)) w4.heap.size 70 [.int .i64 60, .int .i64 ((A0 : Nat) : Int)] := row_new w4 _ _
          unfold CompF
          rw [if_neg HL.out, HV.out, HI0.out, HAT.out]
          dsimp only
          rw [HA0.out]
          exact ⟨(hbb.alloc hsz _).trans (Quiet.below ⟨1, rfl⟩ _), w4.heap.size, rfl, hsz, hr.keep (Quiet.below (w' := (w4.alloc _).drew) ⟨1, rfl⟩ _) hr.lt⟩
        | inr its =>
          rw [hI] at hPT hI0
          have HI0 := Lib.hid hI0
          have HPT := Lib.hid hPT
          clear hPT hI hI0
          go_enter Tryd.func10, Tryd.ntmps10
          go_wp2_with (first | (go_at_call 34; refine (HC.out).mono ?_; rintro e w1 ⟨a, c, a2, c2, rfl, hrt, hab, hcl, hcell, hb⟩; have hsc := scan_new (c := c) hrt hab; obtain ⟨bb, ha⟩ := hcl (by omega); subst ha; have hl0 := tok_at0 hsc.toks HV0.out; have hl1 := tok_at1 hsc.toks HV1.out; obtain ⟨u1, u2⟩ := hl0; obtain ⟨u3, u4⟩ := hl1; have q1 := hsc.row.lt; have q2 := hsc.row.frozen 1; have q3 := hsc.row.frozen 2; have HB := Lib.hid hb; have HSC := Lib.hid hsc; have HAB := Lib.hid hab; have HCE := Lib.hid hcell; clear hrt hb hab hcl hcell hsc) | (go_at_call 35; refine (HPT.out (w1.alloc (.cells #[.slice (some ⟨bb, 0, none⟩) n c, .int .i64 0, .bool false] 77)) _ _ c HSC.out (fun ad h => by have := (HAB.out ad h).2; rw [World.size_alloc]; omega)).mono ?_; rintro e w4 ⟨hg4, v, L, rfl, hL, hP⟩; obtain ⟨a3, c3, rfl⟩ := parts_shape hP; have HG4 := Lib.hid hg4; have HL4 := Lib.hid hL; have HP4 := Lib.hid hP; clear hg4 hL hP))
          go_ret2
          have hbb := comp_below HB.out ((Below.refl w1.heap.size w1).alloc (Nat.le_refl _) _) HG4.out
          have hsz := hbb.size
          have hal : Below w4.heap.size w4 (w4.alloc (.cells #[.string (bstr l), .bool true, .slice a3 L.length c3] 84)) := (Below.refl _ w4).alloc (Nat.le_refl _) _
          unfold CompF
          rw [if_neg HL.out, HV.out, HI0.out, HFO.out]
          exact ⟨hbb.alloc hsz _, w4.heap.size, rfl, hsz, _, L, _, (by have h7 := HB.out.size; first | omega | (simp only [World.size_alloc]; omega)), row_new w4 [.string (bstr l), .bool true, .slice a3 L.length c3] _, HL4.out, HP4.out.grown (grown_of_below hal (some w1.heap.size)) (by rw [World.size_alloc]; omega)⟩
      · cases hI : itemsGo V (V.length + 1) 0 [] with
        | inl b =>
          rw [hI] at hPT hI0
          have HI0 := Lib.hid hI0
          have HPT := Lib.hid hPT
          have hbn : b < A.length := by
            have := itemsGo_le V HOK.out _ _ _ (by have := HN.out; omega) b hI
            have := HN.out
            rw [HAL.out]
            omega
          have hbi : (b : Int) < ((n + 1 : Nat) : Int) := by rw [HAL.out] at hbn; omega
          have hbi2 : (b : Int) < (n : Int) + 1 := by omega
          have hbi3 : b < n + 1 := by omega
          obtain ⟨A0, hA0⟩ : ∃ x, A.getD b 0 = x := ⟨_, rfl⟩
          have HA0 := Lib.hid hA0
          clear hA0
          clear hPT hI hI0
          go_enter Tryd.func10, Tryd.ntmps10
          go_wp2_with (first | (go_at_call 34; refine (HC.out).mono ?_; rintro e w1 ⟨a, c, a2, c2, rfl, hrt, hab, hcl, hcell, hb⟩; have hsc := scan_new (c := c) hrt hab; obtain ⟨bb, ha⟩ := hcl (by omega); subst ha; have hl0 := tok_at0 hsc.toks HV0.out; have hl1 := tok_at1 hsc.toks HV1.out; obtain ⟨u1, u2⟩ := hl0; obtain ⟨u3, u4⟩ := hl1; have q1 := hsc.row.lt; have q2 := hsc.row.frozen 1; have q3 := hsc.row.frozen 2; have HB := Lib.hid hb; have HSC := Lib.hid hsc; have HAB := Lib.hid hab; have HCE := Lib.hid hcell; clear hrt hb hab hcl hcell hsc) | (go_at_call 35; refine (HPT.out (w1.alloc (.cells #[.slice (some ⟨bb, 0, none⟩) n c, .int .i64 0, .bool false] 77)) _ _ c HSC.out (fun ad h => by have := (HAB.out ad h).2; rw [World.size_alloc]; omega)).mono ?_; rintro e w4 ⟨hg4, rfl, hs4⟩; have i1 : w4.cell? ⟨w1.heap.size, 1, none⟩ = some (.int .i64 (b : Int)) := hs4.row.cell 1; obtain ⟨g2, ha2, hg21, hg22, hcc⟩ := HCE.out (by omega); subst ha2; have i2 := at_cell ((Below.refl w1.heap.size w1).alloc (Nat.le_refl _) _) hg4 hg22 hcc hbn; rw [HA0.out] at i2; have i3 := hs4.row.lt; have i4 : g2 < w4.heap.size := Nat.lt_of_lt_of_le (Nat.lt_of_lt_of_le hg22 (by rw [World.size_alloc]; exact Nat.le_succ _)) hg4.size; have HG4 := Lib.hid hg4; clear hg4 hs4 hcc))
          go_region
          all_goals go_wp2_with fail
          go_ret2
          have hbb := comp_below HB.out ((Below.refl w1.heap.size w1).alloc (Nat.le_refl _) _) HG4.out
          have hsz := hbb.size
          have hr : Row (w4.alloc (.cells #[.int .i64 60, .int .i64 ((A0 : Nat) : Int)] 70)) w4.heap.size 70 [.int .i64 60, .int .i64 ((A0 : Nat) : Int)] := row_new w4 _ _
          unfold CompF
          rw [if_neg HL.out, HV.out, HI0.out, HAT.out]
          dsimp only
          rw [HA0.out]
          exact ⟨(hbb.alloc hsz _).trans (Quiet.below ⟨1, rfl⟩ _), w4.heap.size, rfl, hsz, hr.keep (Quiet.below (w' := (w4.alloc _).drew) ⟨1, rfl⟩ _) hr.lt⟩
        | inr its =>
          rw [hI] at hPT hI0
          have HI0 := Lib.hid hI0
          have HPT := Lib.hid hPT
          clear hPT hI hI0
          go_enter Tryd.func10, Tryd.ntmps10
          go_wp2_with (first | (go_at_call 34; refine (HC.out).mono ?_; rintro e w1 ⟨a, c, a2, c2, rfl, hrt, hab, hcl, hcell, hb⟩; have hsc := scan_new (c := c) hrt hab; obtain ⟨bb, ha⟩ := hcl (by omega); subst ha; have hl0 := tok_at0 hsc.toks HV0.out; have hl1 := tok_at1 hsc.toks HV1.out; obtain ⟨u1, u2⟩ := hl0; obtain ⟨u3, u4⟩ := hl1; have q1 := hsc.row.lt; have q2 := hsc.row.frozen 1; have q3 := hsc.row.frozen 2; have HB := Lib.hid hb; have HSC := Lib.hid hsc; have HAB := Lib.hid hab; have HCE := Lib.hid hcell; clear hrt hb hab hcl hcell hsc) | (go_at_call 35; refine (HPT.out (w1.alloc (.cells #[.slice (some ⟨bb, 0, none⟩) n c, .int .i64 0, .bool false] 77)) _ _ c HSC.out (fun ad h => by have := (HAB.out ad h).2; rw [World.size_alloc]; omega)).mono ?_; rintro e w4 ⟨hg4, v, L, rfl, hL, hP⟩; obtain ⟨a3, c3, rfl⟩ := parts_shape hP; have HG4 := Lib.hid hg4; have HL4 := Lib.hid hL; have HP4 := Lib.hid hP; clear hg4 hL hP))
          go_ret2
          have hbb := comp_below HB.out ((Below.refl w1.heap.size w1).alloc (Nat.le_refl _) _) HG4.out
          have hsz := hbb.size
          have hal : Below w4.heap.size w4 (w4.alloc (.cells #[.string (bstr l), .bool true, .slice a3 L.length c3] 84)) := (Below.refl _ w4).alloc (Nat.le_refl _) _
          unfold CompF
          rw [if_neg HL.out, HV.out, HI0.out, HFO.out]
          exact ⟨hbb.alloc hsz _, w4.heap.size, rfl, hsz, _, L, _, (by have h7 := HB.out.size; first | omega | (simp only [World.size_alloc]; omega)), row_new w4 [.string (bstr l), .bool true, .slice a3 L.length c3] _, HL4.out, HP4.out.grown (grown_of_below hal (some w1.heap.size)) (by rw [World.size_alloc]; omega)⟩
  · have hf1i : ¬ (1 : Int) < (n : Int) := by omega
    have hf1j : (n : Int) ≤ 1 := by omega
    have hfo : foldedP V = false := by
      refine decide_eq_false ?_
      rintro ⟨_, h⟩
      have := lt_of_some h
      have := HN.out
      omega
    have hPT := HPT0.out 0 false (Nat.zero_le _)
    have hI0 : itemsP V = itemsGo V (V.length + 1) 0 [] := by
      unfold itemsP
      rw [hfo]
      rfl
    have HFO := Lib.hid hfo
    clear hf1 hfo HPT0
    cases hI : itemsGo V (V.length + 1) 0 [] with
    | inl b =>
      rw [hI] at hPT hI0
      have HI0 := Lib.hid hI0
      have HPT := Lib.hid hPT
      have hbn : b < A.length := by
        have := itemsGo_le V HOK.out _ _ _ (by have := HN.out; omega) b hI
        have := HN.out
        rw [HAL.out]
        omega
      have hbi : (b : Int) < ((n + 1 : Nat) : Int) := by rw [HAL.out] at hbn; omega
      have hbi2 : (b : Int) < (n : Int) + 1 := by omega
      have hbi3 : b < n + 1 := by omega
      obtain ⟨A0, hA0⟩ : ∃ x, A.getD b 0 = x := ⟨_, rfl⟩
      have HA0 := Lib.hid hA0
      clear hA0
      clear hPT hI hI0
      go_enter Tryd.func10, Tryd.ntmps10
      go_wp2_with (first | (go_at_call 34; refine (HC.out).mono ?_; rintro e w1 ⟨a, c, a2, c2, rfl, hrt, hab, hcl, hcell, hb⟩; have hsc := scan_new (c := c) hrt hab; have q1 := hsc.row.lt; have q2 := hsc.row.frozen 1; have q3 := hsc.row.frozen 2; have HB := Lib.hid hb; have HSC := Lib.hid hsc; have HAB := Lib.hid hab; have HCE := Lib.hid hcell; clear hrt hb hab hcl hcell hsc) | (go_at_call 35; refine (HPT.out (w1.alloc (.cells #[.slice a n c, .int .i64 0, .bool false] 77)) _ a c HSC.out (fun ad h => by have := (HAB.out ad h).2; rw [World.size_alloc]; omega)).mono ?_; rintro e w4 ⟨hg4, rfl, hs4⟩; have i1 : w4.cell? ⟨w1.heap.size, 1, none⟩ = some (.int .i64 (b : Int)) := hs4.row.cell 1; obtain ⟨g2, ha2, hg21, hg22, hcc⟩ := HCE.out (by omega); subst ha2; have i2 := at_cell ((Below.refl w1.heap.size w1).alloc (Nat.le_refl _) _) hg4 hg22 hcc hbn; rw [HA0.out] at i2; have i3 := hs4.row.lt; have i4 : g2 < w4.heap.size := Nat.lt_of_lt_of_le (Nat.lt_of_lt_of_le hg22 (by rw [World.size_alloc]; exact Nat.le_succ _)) hg4.size; have HG4 := Lib.hid hg4; clear hg4 hs4 hcc))
      go_region
      all_goals go_wp2_with fail
      go_ret2
      have hbb := comp_below HB.out ((Below.refl w1.heap.size w1).alloc (Nat.le_refl _) _) HG4.out
      have hsz := hbb.size
      have hr : Row (w4.alloc (.cells #[.int .i64 60, .int .i64 ((A0 : Nat) : Int)] 70)) w4.heap.size 70 [.int .i64 60, .int .i64 ((A0 : Nat) : Int)] := row_new w4 _ _
      unfold CompF
      rw [if_neg HL.out, HV.out, HI0.out, HAT.out]
      dsimp only
      rw [HA0.out]
      exact ⟨(hbb.alloc hsz _).trans (Quiet.below ⟨1, rfl⟩ _), w4.heap.size, rfl, hsz, hr.keep (Quiet.below (w' := (w4.alloc _).drew) ⟨1, rfl⟩ _) hr.lt⟩
    | inr its =>
      rw [hI] at hPT hI0
      have HI0 := Lib.hid hI0
      have HPT := Lib.hid hPT
      clear hPT hI hI0
      go_enter Tryd.func10, Tryd.ntmps10
      go_wp2_with (first | (go_at_call 34; refine (HC.out).mono ?_; rintro e w1 ⟨a, c, a2, c2, rfl, hrt, hab, hcl, hcell, hb⟩; have hsc := scan_new (c := c) hrt hab; have q1 := hsc.row.lt; have q2 := hsc.row.frozen 1; have q3 := hsc.row.frozen 2; have HB := Lib.hid hb; have HSC := Lib.hid hsc; have HAB := Lib.hid hab; have HCE := Lib.hid hcell; clear hrt hb hab hcl hcell hsc) | (go_at_call 35; refine (HPT.out (w1.alloc (.cells #[.slice a n c, .int .i64 0, .bool false] 77)) _ a c HSC.out (fun ad h => by have := (HAB.out ad h).2; rw [World.size_alloc]; omega)).mono ?_; rintro e w4 ⟨hg4, v, L, rfl, hL, hP⟩; obtain ⟨a3, c3, rfl⟩ := parts_shape hP; have HG4 := Lib.hid hg4; have HL4 := Lib.hid hL; have HP4 := Lib.hid hP; clear hg4 hL hP))
      go_ret2
      have hbb := comp_below HB.out ((Below.refl w1.heap.size w1).alloc (Nat.le_refl _) _) HG4.out
      have hsz := hbb.size
      have hal : Below w4.heap.size w4 (w4.alloc (.cells #[.string (bstr l), .bool true, .slice a3 L.length c3] 84)) := (Below.refl _ w4).alloc (Nat.le_refl _) _
      unfold CompF
      rw [if_neg HL.out, HV.out, HI0.out, HFO.out]
      exact ⟨hbb.alloc hsz _, w4.heap.size, rfl, hsz, _, L, _, (by have h7 := HB.out.size; first | omega | (simp only [World.size_alloc]; omega)), row_new w4 [.string (bstr l), .bool true, .slice a3 L.length c3] _, HL4.out, HP4.out.grown (grown_of_below hal (some w1.heap.size)) (by rw [World.size_alloc]; omega)⟩
end Go.Proofs.YtchdeboialbdiaaDoor
/- All pieces of a text: plain law. -/
namespace Go.Proofs.YtchdeboialbdiaaDoor
set_option linter.unusedVariables false
set_option linter.unusedSimpArgs false
open Go.Lib hiding intOf
/-- all pieces from the i-th place on, by the numbers of their places -/
def allGo (fo : Bool) (V : List Nat) (its : List Itm) (n : Nat) : Nat → Nat → List (Nat × Nat)
  | 0, _ => []
  | f + 1, i => if n < i then [] else match longestP fo V its i with
    | none => allGo fo V its n f (i + 1)
    | some j => (i, j) :: allGo fo V its n f (max (i + 1) j)
def allP (fo : Bool) (l : List UInt8) (its : List Itm) : List (Nat × Nat) := allGo fo (valsL l) its (valsL l).length ((valsL l).length + 1) 0
theorem allGo_fuel (fo : Bool) (V : List Nat) (its : List Itm) (n : Nat) : ∀ f g i, n < i + f → n < i + g → allGo fo V its n f i = allGo fo V its n g i
  | 0, 0, i, _, _ => rfl
  | 0, g + 1, i, h1, _ => by rw [allGo, allGo, if_pos (by omega)]
  | f + 1, 0, i, _, h2 => by rw [allGo, allGo, if_pos (by omega)]
  | f + 1, g + 1, i, h1, h2 => by
    rw [allGo, allGo]
    by_cases hi : n < i
    · rw [if_pos hi, if_pos hi]
    · rw [if_neg hi, if_neg hi]
      cases longestP fo V its i with
      | none => exact allGo_fuel fo V its n f g (i + 1) (by omega) (by omega)
      | some j =>
        dsimp only
        rw [allGo_fuel fo V its n f g (max (i + 1) j) (by omega) (by omega)]
theorem allGo_none {fo : Bool} {V : List Nat} {its : List Itm} {n f i : Nat} (hi : ¬ n < i) (h : longestP fo V its i = none) : allGo fo V its n (f + 1) i = allGo fo V its n f (i + 1) := by rw [allGo, if_neg hi, h]
theorem allGo_some {fo : Bool} {V : List Nat} {its : List Itm} {n f i j : Nat} (hi : ¬ n < i) (h : longestP fo V its i = some j) : allGo fo V its n (f + 1) i = (i, j) :: allGo fo V its n f (max (i + 1) j) := by rw [allGo, if_neg hi, h]
theorem allGo_end {fo : Bool} {V : List Nat} {its : List Itm} {n f i : Nat} (hi : n < i) : allGo fo V its n f i = [] := by
  cases f with
  | zero => rfl
  | succ f => rw [allGo, if_pos hi]
theorem allGo_len (fo : Bool) (V : List Nat) (its : List Itm) (n : Nat) : ∀ f i, (allGo fo V its n f i).length ≤ f
  | 0, i => Nat.le_refl _
  | f + 1, i => by
    rw [allGo]
    split
    · exact Nat.zero_le _
    · split
      · have := allGo_len fo V its n f (i + 1); omega
      · rename_i j _
        have := allGo_len fo V its n f (max (i + 1) j)
        rw [List.length_cons]
        omega
/-- each piece is a match; they lie one behind the other -/
theorem allGo_mem (fo : Bool) (V : List Nat) (its : List Itm) (n : Nat) : ∀ f i x, x ∈ allGo fo V its n f i → i ≤ x.1 ∧ x.1 ≤ n ∧ longestP fo V its x.1 = some x.2
  | 0, i, x, h => by cases h
  | f + 1, i, x, h => by
    rw [allGo] at h
    split at h
    · cases h
    · rename_i hi
      split at h
      · have := allGo_mem fo V its n f (i + 1) x h
        exact ⟨by omega, this.2⟩
      · rename_i j hj
        rcases List.mem_cons.1 h with rfl | h
        · exact ⟨Nat.le_refl _, by dsimp only; omega, hj⟩
        · have := allGo_mem fo V its n f _ x h
          exact ⟨by omega, this.2⟩
/-- a place from which a pattern matches, behind the i-th one, is told -/
theorem allGo_ne (fo : Bool) (V : List Nat) (its : List Itm) (n : Nat) : ∀ f i k j, n < i + f → i ≤ k → k ≤ n → longestP fo V its k = some j → ∃ x r, allGo fo V its n f i = x :: r ∧ x.1 ≤ k
  | 0, i, k, j, h1, h2, h3, _ => by omega
  | f + 1, i, k, j, h1, h2, h3, h4 => by
    have hi : ¬ n < i := by omega
    cases hl : longestP fo V its i with
    | none =>
      rw [allGo_none hi hl]
      have hne : i ≠ k := by rintro rfl; rw [hl] at h4; cases h4
      exact allGo_ne fo V its n f (i + 1) k j (by omega) (by omega) h3 h4
    | some j2 =>
      rw [allGo_some hi hl]
      exact ⟨_, _, rfl, h2⟩
/-- the first piece is the first match -/
theorem allGo_first (fo : Bool) (V : List Nat) (its : List Itm) (n : Nat) : ∀ f i x r, allGo fo V its n f i = x :: r → ∀ k, i ≤ k → k < x.1 → longestP fo V its k = none
  | 0, i, x, r, h => by cases h
  | f + 1, i, x, r, h => by
    intro k h1 h2
    by_cases hi : n < i
    · rw [allGo_end hi] at h; cases h
    · cases hl : longestP fo V its i with
      | none =>
        rw [allGo_none hi hl] at h
        by_cases hk : k = i
        · rw [hk]; exact hl
        · exact allGo_first fo V its n f (i + 1) x r h k (by omega) h2
      | some j =>
        rw [allGo_some hi hl] at h
        cases h
        dsimp only at h2
        omega
/-- the last place up to one at which a pattern matches, and how far -/
def lastGo (fo : Bool) (V A : List Nat) (its : List Itm) (tz : Int) : Nat → Option (Nat × Nat)
  | 0 => none
  | i + 1 => if (A.getD i 0 : Int) ≤ tz then (match longestP fo V its i with | some j => some (i, j) | none => lastGo fo V A its tz i) else lastGo fo V A its tz i
def lastP (fo : Bool) (l : List UInt8) (its : List Itm) (tz : Int) : Option (Nat × Nat) := lastGo fo (valsL l) (atsL l) its tz ((valsL l).length + 1)
theorem findGo_spec (fo : Bool) (V A : List Nat) (its : List Itm) (fr : Int) : ∀ f i, match findGo fo V A its fr f i with
    | some (a, b) => i ≤ a ∧ a < i + f ∧ fr ≤ (A.getD a 0 : Int) ∧ longestP fo V its a = some b ∧ ∀ k, i ≤ k → k < a → fr ≤ (A.getD k 0 : Int) → longestP fo V its k = none
    | none => ∀ k, i ≤ k → k < i + f → fr ≤ (A.getD k 0 : Int) → longestP fo V its k = none
  | 0, i => by
    show ∀ k, i ≤ k → k < i + 0 → _
    intro k h1 h2
    omega
  | f + 1, i => by
    have ih := findGo_spec fo V A its fr f (i + 1)
    rw [findGo]
    by_cases hf : fr ≤ (A.getD i 0 : Int)
    · rw [if_pos hf]
      cases hl : longestP fo V its i with
      | some j => exact ⟨Nat.le_refl _, by omega, hf, hl, fun k h1 h2 => by omega⟩
      | none =>
        dsimp only
        cases hg : findGo fo V A its fr f (i + 1) with
        | none =>
          rw [hg] at ih
          intro k h1 h2 h3
          by_cases hk : k = i
          · rw [hk]; exact hl
          · exact ih k (by omega) (by omega) h3
        | some x =>
          rw [hg] at ih
          obtain ⟨a, b⟩ := x
          obtain ⟨h1, h2, h3, h4, h5⟩ := ih
          refine ⟨by omega, by omega, h3, h4, fun k k1 k2 k3 => ?_⟩
          by_cases hk : k = i
          · rw [hk]; exact hl
          · exact h5 k (by omega) k2 k3
    · rw [if_neg hf]
      cases hg : findGo fo V A its fr f (i + 1) with
      | none =>
        rw [hg] at ih
        intro k h1 h2 h3
        by_cases hk : k = i
        · rw [hk] at h3; exact absurd h3 hf
        · exact ih k (by omega) (by omega) h3
      | some x =>
        rw [hg] at ih
        obtain ⟨a, b⟩ := x
        obtain ⟨h1, h2, h3, h4, h5⟩ := ih
        refine ⟨by omega, by omega, h3, h4, fun k k1 k2 k3 => ?_⟩
        by_cases hk : k = i
        · rw [hk] at k3; exact absurd k3 hf
        · exact h5 k (by omega) k2 k3
theorem lastGo_spec (fo : Bool) (V A : List Nat) (its : List Itm) (tz : Int) : ∀ i, match lastGo fo V A its tz i with
    | some (a, b) => a < i ∧ (A.getD a 0 : Int) ≤ tz ∧ longestP fo V its a = some b ∧ ∀ k, a < k → k < i → (A.getD k 0 : Int) ≤ tz → longestP fo V its k = none
    | none => ∀ k, k < i → (A.getD k 0 : Int) ≤ tz → longestP fo V its k = none
  | 0 => by
    show ∀ k, k < 0 → _
    intro k h1
    omega
  | i + 1 => by
    have ih := lastGo_spec fo V A its tz i
    rw [lastGo]
    by_cases hf : (A.getD i 0 : Int) ≤ tz
    · rw [if_pos hf]
      cases hl : longestP fo V its i with
      | some j => exact ⟨by omega, hf, hl, fun k h1 h2 => by omega⟩
      | none =>
        dsimp only
        cases hg : lastGo fo V A its tz i with
        | none =>
          rw [hg] at ih
          intro k h1 h3
          by_cases hk : k = i
          · rw [hk]; exact hl
          · exact ih k (by omega) h3
        | some x =>
          rw [hg] at ih
          obtain ⟨a, b⟩ := x
          obtain ⟨h1, h3, h4, h5⟩ := ih
          refine ⟨by omega, h3, h4, fun k k1 k2 k3 => ?_⟩
          by_cases hk : k = i
          · rw [hk]; exact hl
          · exact h5 k k1 (by omega) k3
    · rw [if_neg hf]
      cases hg : lastGo fo V A its tz i with
      | none =>
        rw [hg] at ih
        intro k h1 h3
        by_cases hk : k = i
        · rw [hk] at h3; exact absurd h3 hf
        · exact ih k (by omega) h3
      | some x =>
        rw [hg] at ih
        obtain ⟨a, b⟩ := x
        obtain ⟨h1, h3, h4, h5⟩ := ih
        refine ⟨by omega, h3, h4, fun k k1 k2 k3 => ?_⟩
        by_cases hk : k = i
        · rw [hk] at k3; exact absurd k3 hf
        · exact h5 k k1 (by omega) k3
theorem matchGo_mem {fo : Bool} {V A : List Nat} {its : List Itm} {p : Int} : ∀ {f i : Nat} {y : Nat}, matchGo fo V A its p f i = some y → ∃ k j, i ≤ k ∧ k < i + f ∧ (A.getD k 0 : Int) = p ∧ longestP fo V its k = some j ∧ y = A.getD j 0
  | 0, i, y, h => by cases h
  | f + 1, i, y, h => by
    rw [matchGo] at h
    by_cases he : (A.getD i 0 : Int) = p
    · rw [if_pos he] at h
      cases hl : longestP fo V its i with
      | none => rw [hl] at h; cases h
      | some j =>
        rw [hl] at h
        exact ⟨i, j, Nat.le_refl _, by omega, he, hl, (Option.some.inj h).symm⟩
    · rw [if_neg he] at h
      obtain ⟨k, j, h1, h2, h3⟩ := matchGo_mem h
      exact ⟨k, j, by omega, by omega, h3⟩
/-- places rise -/
theorem atsGo_rise : ∀ (f : Nat) (l : List UInt8) (a : Nat), ((charsGo f l a).map Prod.snd).Pairwise (· < ·) ∧ ∀ p ∈ (charsGo f l a).map Prod.snd, a ≤ p ∧ p < a + l.length
  | 0, l, a => ⟨List.Pairwise.nil, fun p h => by cases h⟩
  | f + 1, l, a => by
    by_cases hl : l = []
    · subst hl
      rw [charsGo_stop]
      exact ⟨List.Pairwise.nil, fun p h => by cases h⟩
    · have hw := chr1_width hl
      obtain ⟨h1, h2⟩ := atsGo_rise f (l.drop (chr1 l).2) (a + (chr1 l).2)
      rw [charsGo_next hl, List.map_cons]
      refine ⟨List.pairwise_cons.2 ⟨fun p hp => ?_, h1⟩, fun p hp => ?_⟩
      · have := (h2 p hp).1
        show a < p
        omega
      · rcases List.mem_cons.1 hp with he | hp
        · dsimp only at he
          omega
        · have := h2 p hp
          rw [List.length_drop] at this
          omega
theorem ats_rise (l : List UInt8) : (atsL l).Pairwise (· < ·) := by
  obtain ⟨h1, h2⟩ := atsGo_rise l.length l 0
  unfold atsL charsL
  refine List.pairwise_append.2 ⟨h1, List.pairwise_singleton .., fun a ha b hb => ?_⟩
  rw [List.mem_singleton] at hb
  have := (h2 a ha).2
  omega
theorem ats_lt {l : List UInt8} {i j : Nat} (h : i < j) (hj : j < (atsL l).length) : (atsL l).getD i 0 < (atsL l).getD j 0 := by
  rw [List.getD_eq_getElem?_getD, List.getD_eq_getElem?_getD, List.getElem?_eq_getElem (by omega : i < (atsL l).length), List.getElem?_eq_getElem hj]
  exact List.pairwise_iff_getElem.1 (ats_rise l) i j (by omega) hj h
theorem ats_mono {l : List UInt8} {i j : Nat} (h : i ≤ j) (hj : j < (atsL l).length) : (atsL l).getD i 0 ≤ (atsL l).getD j 0 := by
  rcases Nat.lt_or_ge i j with h1 | h1
  · exact Nat.le_of_lt (ats_lt h1 hj)
  · obtain rfl : i = j := by omega
    exact Nat.le_refl _
theorem ats_inj {l : List UInt8} {i j : Nat} (hi : i < (atsL l).length) (hj : j < (atsL l).length) (h : (atsL l).getD i 0 = (atsL l).getD j 0) : i = j := by
  rcases Nat.lt_trichotomy i j with h1 | h1 | h1
  · have := ats_lt h1 hj; omega
  · exact h1
  · have := ats_lt h1 hi; omega
/-- at a place: how far the pattern goes from there -/
theorem match_at {fo : Bool} {l : List UInt8} {its : List Itm} {i : Nat} (hi : i < (atsL l).length) : matchP fo l its ((atsL l).getD i 0 : Int) = (longestP fo (valsL l) its i).map fun j => (atsL l).getD j 0 := by
  have hal := ats_len l
  have key : ∀ f k, k + f = (atsL l).length → k ≤ i → matchGo fo (valsL l) (atsL l) its (((atsL l).getD i 0 : Nat) : Int) f k = (longestP fo (valsL l) its i).map fun j => (atsL l).getD j 0 := by
    intro f
    induction f with
    | zero => intro k h1 h2; omega
    | succ f ih =>
      intro k h1 h2
      rw [matchGo]
      by_cases hk : k = i
      · subst hk
        rw [if_pos rfl]
        cases longestP fo (valsL l) its k <;> rfl
      · rw [if_neg (fun e => hk (ats_inj (by omega) hi (by omega)))]
        exact ih (k + 1) (by omega) (by omega)
  exact key _ 0 (by omega) (Nat.zero_le _)
end Go.Proofs.YtchdeboialbdiaaDoor
