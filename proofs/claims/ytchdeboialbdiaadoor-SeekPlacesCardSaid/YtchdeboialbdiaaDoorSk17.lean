/- Texts joined, one behind the other (SComp). -/
import Derived.Test.YtchdeboialbdiaaDoorSk16
/- The program's Compile. -/
namespace Go.Proofs.YtchdeboialbdiaaDoor
set_option linter.unusedVariables false
set_option linter.unusedSimpArgs false
open Go.RowKit
open Go.Lib hiding intOf
theorem TokOwn.shape {B : Nat} {v : Value} {V : List Nat} {w : World} (h : TokOwn B v V w) : ∃ a c, v = .slice a V.length c ∧ ReadsTok w a V.length V ∧ (∀ ad, a = some ad → B ≤ ad.block ∧ ad.block < w.heap.size) ∧ (0 < V.length → ∃ g, a = some ⟨g, 0, none⟩) := by
  rcases h.2 with ⟨rfl, h0⟩ | ⟨g, cap, cur, rfl, hB, hg, hc1, hc2, hc3, hc4⟩
  · exact ⟨none, 0, by rw [h0], ⟨rfl, fun h => by omega⟩, (fun ad h => by cases h), fun h => by omega⟩
  · have hgl := (Array.getElem?_eq_some_iff.1 hg).1
    refine ⟨_, _, rfl, ⟨rfl, fun hn => ⟨g, 0, rfl, hgl, fun i v hv => ?_⟩⟩, fun ad h => by cases h; exact ⟨hB, hgl⟩, fun _ => ⟨g, rfl⟩⟩
    have hi : i < V.length := (List.getElem?_eq_some_iff.1 hv).1
    have key : ∀ k u, (V.flatMap tokCells)[k]? = some u → w.cell? ⟨g, 0 + k, none⟩ = some u := by
      intro k u hk
      rw [← hc4, List.getElem?_take] at hk
      have hkl : k < V.length * 2 := by
        apply Decidable.byContradiction
        intro hc
        rw [if_neg hc] at hk
        cases hk
      rw [if_pos hkl] at hk
      simp only [World.cell?, hg, Nat.zero_add]
      simpa using hk
    have flat : ∀ (V : List Nat) (i v : Nat), V[i]? = some v → (V.flatMap tokCells)[i * 2]? = some (.int .i32 (tokR v : Int)) ∧ (V.flatMap tokCells)[i * 2 + 1]? = some (.int .i64 (tokW v : Int)) := by
      intro V
      induction V with
      | nil => intro i v h; simp at h
      | cons x V ih =>
        intro i v h
        cases i with
        | zero =>
          simp only [List.getElem?_cons_zero, Option.some.injEq] at h
          subst h
          exact ⟨rfl, rfl⟩
        | succ i =>
          rw [List.getElem?_cons_succ] at h
          obtain ⟨r1, r2⟩ := ih i v h
          rw [List.flatMap_cons]
          constructor
          · rw [List.getElem?_append_right (by show 2 ≤ _; omega)]
            show (V.flatMap tokCells)[(i + 1) * 2 - 2]? = _
            rw [show (i + 1) * 2 - 2 = i * 2 by omega]
            exact r1
          · rw [List.getElem?_append_right (by show 2 ≤ _; omega)]
            show (V.flatMap tokCells)[(i + 1) * 2 + 1 - 2]? = _
            rw [show (i + 1) * 2 + 1 - 2 = i * 2 + 1 by omega]
            exact r2
    obtain ⟨r1, r2⟩ := flat V i v hv
    exact ⟨key _ _ r1, key _ _ r2⟩
theorem IntOwn.shape {B : Nat} {v : Value} {L : List Nat} {w : World} (h : IntOwn B v L w) : ∃ a c, v = .slice a L.length c ∧ (∀ ad, a = some ad → B ≤ ad.block ∧ ad.block < w.heap.size) ∧ (0 < L.length → ∃ g, a = some ⟨g, 0, none⟩ ∧ B ≤ g ∧ g < w.heap.size ∧ ∀ (k x : Nat), L[k]? = some x → w.cell? ⟨g, k, none⟩ = some (.int .i64 (x : Int))) := by
  rcases h.2 with ⟨rfl, h0⟩ | ⟨g, cap, cur, rfl, hB, hg, hc1, hc2, hc3, hc4⟩
  · exact ⟨none, 0, by rw [h0], (fun ad h => by cases h), fun h => by omega⟩
  · have hgl := (Array.getElem?_eq_some_iff.1 hg).1
    refine ⟨_, _, rfl, fun ad h => by cases h; exact ⟨hB, hgl⟩, fun hn => ⟨g, rfl, hB, hgl, fun k x hx => ?_⟩⟩
    have hk : k < L.length := (List.getElem?_eq_some_iff.1 hx).1
    rw [Nat.mul_one] at hc4
    have hm : (L.map I1)[k]? = some (I1 x) := by rw [List.getElem?_map, hx]; rfl
    rw [← hc4, List.getElem?_take, if_pos hk] at hm
    simp only [World.cell?, hg]
    simpa [I1] using hm
/-- a pattern in memory: it stays as long as all that is there stays -/
def PatIs (w : World) (g : Nat) (l : List UInt8) (fo : Bool) (its : List Itm) : Prop :=
  ∃ (v : Value) (L : List (Itm × Value)) (B : Nat), Row w g 84 [.string (bstr l), .bool true, v] ∧ L.map Prod.fst = its ∧ PartsOwn fo B v L w
def CompP (w : World) (l : List UInt8) (e : Ending) (w' : World) : Prop :=
  Below w.heap.size w w' ∧ if 256 < l.length then ∃ g, e = .returned (.tuple #[.pointer none, .iface 68 (.pointer (some ⟨g, 0, none⟩))]) ∧ w.heap.size ≤ g ∧ Row w' g 70 [.int .i64 4, .int .i64 0] else
    match itemsP (valsL l) with
    | .inl b => ∃ g, e = .returned (.tuple #[.pointer none, .iface 68 (.pointer (some ⟨g, 0, none⟩))]) ∧ w.heap.size ≤ g ∧ Row w' g 70 [.int .i64 60, .int .i64 ((atsL l).getD b 0 : Int)]
    | .inr its => ∃ g, e = .returned (.tuple #[.pointer (some ⟨g, 0, none⟩), .nilIface]) ∧ w.heap.size ≤ g ∧ PatIs w' g l (foldedP (valsL l)) its
theorem vals_len (l : List UInt8) : (valsL l).length ≤ l.length := by
  unfold valsL
  rw [List.length_map]
  exact charsGo_len _ _ _
theorem ats_len (l : List UInt8) : (atsL l).length = (valsL l).length + 1 := by
  unfold atsL valsL
  rw [List.length_append, List.length_map, List.length_map, List.length_singleton]
theorem scan_newF {w : World} {B n c : Nat} {a : Option Addr} {V : List Nat} (h : ReadsTok w a n V) (hab : ∀ ad, a = some ad → B ≤ ad.block ∧ ad.block < w.heap.size) : Scan (w.alloc (.cells #[.slice a n c, .int .i64 2, .bool true] 77)) w.heap.size a n c V 2 true :=
  ⟨row_new w [.slice a n c, .int .i64 2, .bool true] _, h.keep ((Below.refl _ w).alloc (Nat.le_refl _) _) (Nat.le_refl _), fun ad h => by have := (hab ad h).2; omega⟩
theorem scan_new {w : World} {B n c : Nat} {a : Option Addr} {V : List Nat} (h : ReadsTok w a n V) (hab : ∀ ad, a = some ad → B ≤ ad.block ∧ ad.block < w.heap.size) : Scan (w.alloc (.cells #[.slice a n c, .int .i64 0, .bool false] 77)) w.heap.size a n c V 0 false :=
  ⟨row_new w [.slice a n c, .int .i64 0, .bool false] _, h.keep ((Below.refl _ w).alloc (Nat.le_refl _) _) (Nat.le_refl _), fun ad h => by have := (hab ad h).2; omega⟩
theorem parts_shape {fo : Bool} {B : Nat} {v : Value} {L : List (Itm × Value)} {W : World} (h : PartsOwn fo B v L W) : ∃ a c, v = .slice a L.length c := by
  rcases h.1.2 with ⟨rfl, h0⟩ | ⟨g, cap, cur, rfl, _⟩
  · exact ⟨none, 0, by rw [h0]⟩
  · exact ⟨_, _, rfl⟩
/-- a place's cell behind the scanner's work -/
theorem at_cell {w1 W3 w4 : World} {g b : Nat} {L : List Nat} (hb : Below w1.heap.size w1 W3) (hg : W3.grownBy w4 (some w1.heap.size)) (hlt : g < w1.heap.size) (hc : ∀ (k x : Nat), L[k]? = some x → w1.cell? ⟨g, k, none⟩ = some (.int .i64 (x : Int))) (hbn : b < L.length) : w4.cell? ⟨g, b, none⟩ = some (.int .i64 ((L.getD b 0 : Nat) : Int)) := by
  have h1 : w4.heap[g]? = w1.heap[g]? := (hg.block g (Nat.lt_of_lt_of_le hlt hb.size) (fun e => by cases e; omega)).trans (hb.block g hlt)
  rw [World.cell?_of_block (a := ⟨g, b, none⟩) h1]
  have := hc b (L.getD b 0) (by rw [List.getD_eq_getElem?_getD, List.getElem?_eq_getElem hbn]; rfl)
  exact this
theorem comp_below {w w1 W3 w4 : World} (h1 : Below w.heap.size w w1) (h2 : Below w1.heap.size w1 W3) (hg : W3.grownBy w4 (some w1.heap.size)) : Below w.heap.size w w4 := by
  have hs := h1.size
  exact (h1.trans (h2.mono hs)).grown hg (by have := h2.size; omega) (fun k hk => by cases hk; exact hs)
theorem tok_at {w : World} {g n i v : Nat} {V : List Nat} (h : ReadsTok w (some ⟨g, 0, none⟩) n V) (hv : V[i]? = some v) : w.cell? ⟨g, i * 2, none⟩ = some (.int .i32 (tokR v : Int)) ∧ w.cell? ⟨g, i * 2 + 1, none⟩ = some (.int .i64 (tokW v : Int)) := by
  obtain ⟨hl, h⟩ := h
  obtain ⟨b, off, ha, hlt, hc⟩ := h (by have := lt_of_some hv; omega)
  cases ha
  have := hc i v hv
  rwa [Nat.zero_add] at this
theorem tok_at0 {w : World} {g n v : Nat} {V : List Nat} (h : ReadsTok w (some ⟨g, 0, none⟩) n V) (hv : V[0]? = some v) : w.cell? ⟨g, 0, none⟩ = some (.int .i32 (tokR v : Int)) ∧ w.cell? ⟨g, 1, none⟩ = some (.int .i64 (tokW v : Int)) := tok_at h hv
theorem tok_at1 {w : World} {g n v : Nat} {V : List Nat} (h : ReadsTok w (some ⟨g, 0, none⟩) n V) (hv : V[1]? = some v) : w.cell? ⟨g, 2, none⟩ = some (.int .i32 (tokR v : Int)) ∧ w.cell? ⟨g, 3, none⟩ = some (.int .i64 (tokW v : Int)) := tok_at h hv
theorem Scan.fold {w : World} {p : Nat} {a : Option Addr} {n c : Nat} {V : List Nat} {i : Nat} {fo : Bool} (h : Scan w p a n c V i fo) : Scan (w.setCell ⟨p, 2, none⟩ (.bool true)) p a n c V i true :=
  ⟨h.row.set 2 (.bool true), h.toks.grown (grownBy_set w p 2 _) h.apart, h.apart⟩
set_option maxHeartbeats 4000000 in
set_option maxRecDepth 100000 in
theorem compileC (w : World) (l : List UInt8) (hm : l.length ≤ 140737488355328) (hT : Tabs w) :
    Calls Tryd.prog 10 #[.string (bstr l)] w (CompP w l) := by
  by_cases hl : 256 < l.length
  · have h1 : (256 : Int) < (l.length : Int) := by omega
    have h2 : ¬ (l.length : Int) ≤ 256 := by omega
    have HL := Lib.hid hl
    clear hl hT
    go_enter Tryd.func10, Tryd.ntmps10
    go_wp2_with fail
    go_ret2
    unfold CompP
    rw [if_pos HL.out]
    exact ⟨(Below.refl _ w).alloc (Nat.le_refl _) _, w.heap.size, rfl, Nat.le_refl _, row_new w [.int .i64 4, .int .i64 0] 70⟩
  have h1 : ¬ (256 : Int) < (l.length : Int) := by omega
  have h2 : (l.length : Int) ≤ 256 := by omega
  have hC := charsC w l (by omega) hT
  have HL := Lib.hid hl
  have hC2 : Calls Tryd.prog 34 #[.string (bstr l)] w fun e w' => ∃ a c a2 c2, e = .returned (.tuple #[.slice a (valsL l).length c, .slice a2 (atsL l).length c2]) ∧ ReadsTok w' a (valsL l).length (valsL l) ∧ (∀ ad, a = some ad → w.heap.size ≤ ad.block ∧ ad.block < w'.heap.size) ∧ (0 < (valsL l).length → ∃ g, a = some ⟨g, 0, none⟩) ∧ (0 < (atsL l).length → ∃ g, a2 = some ⟨g, 0, none⟩ ∧ w.heap.size ≤ g ∧ g < w'.heap.size ∧ ∀ (k x : Nat), (atsL l)[k]? = some x → w'.cell? ⟨g, k, none⟩ = some (.int .i64 (x : Int))) ∧ Below w.heap.size w w' := hC.mono (by
    rintro e w' ⟨vl, va, rfl, ht, hi, hb⟩
    obtain ⟨a, c, rfl, r1, r2, r3⟩ := ht.shape
    obtain ⟨a2, c2, rfl, s1, s2⟩ := hi.shape
    exact ⟨a, c, a2, c2, rfl, r1, r2, r3, s2, hb⟩)
  have hvl := vals_len l
  have hal := ats_len l
  have hok := vals_ok l
  obtain ⟨V, hV⟩ : ∃ V, valsL l = V := ⟨_, rfl⟩
  obtain ⟨n, hn⟩ : ∃ n, V.length = n := ⟨_, rfl⟩
  rw [hV] at hvl hal hok hC2
  rw [hn] at hvl hal hC2
  obtain ⟨A, hA⟩ : ∃ A, atsL l = A := ⟨_, rfl⟩
  rw [hA] at hal hC2
  rw [hal] at hC2
  have HC := Lib.hid hC2
  have HAT := Lib.hid hA
  have HV := Lib.hid hV
  have HN := Lib.hid hn
  have HOK := Lib.hid hok
  have hn256 : n ≤ 256 := by omega
  have hPT0 : ∀ (i : Nat) (fo : Bool), i ≤ n → ∀ (W : World) (p : Nat) (a : Option Addr) (c : Nat), Scan W p a n c V i fo → (∀ ad, a = some ad → ad.block < W.heap.size) → Calls Tryd.prog 35 #[.pointer (some ⟨p, 0, none⟩)] W (PatP W p a n c V fo (itemsGo V (V.length + 1) i [])) := fun i fo hi W p a c hs ha => patternC W p a n c V i fo hs HOK.out hi (by omega) ha
  have HPT0 := Lib.hid hPT0
  have HAL := Lib.hid hal
  clear hl hT hC hvl hok hV hn hPT0 hC2 hA hal
  by_cases hf1 : 1 < n
  · have hf1i : (1 : Int) < (n : Int) := by omega
    have hf1j : ¬ (n : Int) ≤ 1 := by omega
    have hf1k : (0 : Int) < (n : Int) := by omega
    obtain ⟨v0, hv0⟩ : ∃ v, V[0]? = some v := ⟨_, List.getElem?_eq_getElem (by have := HN.out; omega)⟩
    obtain ⟨v1, hv1⟩ : ∃ v, V[1]? = some v := ⟨_, List.getElem?_eq_getElem (by have := HN.out; omega)⟩
    have okc : ∀ {k v : Nat}, V[k]? = some v → OkC v := fun {k v} h => by
      have := HOK.out v (List.mem_of_getElem? h)
      unfold OkC
      omega
    have hq0 : ∀ w', (binOp .eql 79 (.agg #[.int .i32 (tokR v0 : Int), .int .i64 (tokW v0 : Int)]) (.agg #[.int .i32 92, .int .i64 0])).run Tryd.prog w' = .ok (.bool (decide (v0 = 92))) w' := fun w' => by
      rw [tokQl]
      exact congrArg (fun b => Result.ok (Value.bool b) w') (tok_eq (okc hv0) (u := 92) (.inl (by decide)))
    have hq1 : ∀ w', (binOp .eql 79 (.agg #[.int .i32 (tokR v1 : Int), .int .i64 (tokW v1 : Int)]) (.agg #[.int .i32 105, .int .i64 0])).run Tryd.prog w' = .ok (.bool (decide (v1 = 105))) w' := fun w' => by
      rw [tokQl]
      exact congrArg (fun b => Result.ok (Value.bool b) w') (tok_eq (okc hv1) (u := 105) (.inl (by decide)))
    have HV0 := Lib.hid hv0
    have HV1 := Lib.hid hv1
    clear okc
    by_cases hf2 : v0 = 92 ∧ v1 = 105
    · have hfo : foldedP V = true := decide_eq_true ⟨by rw [hv0, hf2.1], by rw [hv1, hf2.2]⟩
      rw [decide_eq_true hf2.1] at hq0
      rw [decide_eq_true hf2.2] at hq1
      have hPT := HPT0.out 2 true hf1
      have hI0 : itemsP V = itemsGo V (V.length + 1) 2 [] := by
        unfold itemsP
        rw [hfo]
        rfl
      have HFO := Lib.hid hfo
      clear hf1 hfo HPT0 hv0 hv1 hf2
      cases hI : itemsGo V (V.length + 1) 2 [] with
      | inl b =>
        rw [hI] at hPT hI0
        have HI0 := Lib.hid hI0
        have HPT := Lib.hid hPT
        have hbn : b < A.length := by
          have := itemsGo_le V HOK.out _ _ _ (by have := HN.out; omega) b hI
          have := HN.out
          rw [HAL.out]
          omega
        have hbi : (b : Int) < ((n + 1 : Nat) : Int) := by rw [HAL.out] at hbn; omega
        have hbi2 : (b : Int) < (n : Int) + 1 := by omega
        have hbi3 : b < n + 1 := by omega
        obtain ⟨A0, hA0⟩ : ∃ x, A.getD b 0 = x := ⟨_, rfl⟩
        have HA0 := Lib.hid hA0
        clear hA0
        clear hPT hI hI0
        go_enter Tryd.func10, Tryd.ntmps10
        go_wp2_with (first | (go_at_call 34; refine (HC.out).mono ?_; rintro e w1 ⟨a, c, a2, c2, rfl, hrt, hab, hcl, hcell, hb⟩; have hsc := scan_new (c := c) hrt hab; have hsf := scan_newF (c := c) hrt hab; obtain ⟨bb, ha⟩ := hcl (by omega); subst ha; have hl0 := tok_at0 hsc.toks HV0.out; have hl1 := tok_at1 hsc.toks HV1.out; obtain ⟨u1, u2⟩ := hl0; obtain ⟨u3, u4⟩ := hl1; have HSF := Lib.hid hsf; clear hsf; have q1 := hsc.row.lt; have q2 := hsc.row.frozen 1; have q3 := hsc.row.frozen 2; have HB := Lib.hid hb; have HSC := Lib.hid hsc; have HAB := Lib.hid hab; have HCE := Lib.hid hcell; clear hrt hb hab hcl hcell hsc) | (go_at_call 35; refine (HPT.out (w1.alloc (.cells #[.slice (some ⟨bb, 0, none⟩) n c, .int .i64 2, .bool true] 77)) _ _ c HSF.out (fun ad h => by have := (HAB.out ad h).2; rw [World.size_alloc]; omega)).mono ?_; rintro e w4 ⟨hg4, rfl, hs4⟩; have i1 : w4.cell? ⟨w1.heap.size, 1, none⟩ = some (.int .i64 (b : Int)) := hs4.row.cell 1; obtain ⟨g2, ha2, hg21, hg22, hcc⟩ := HCE.out (by omega); subst ha2; have i2 := at_cell ((Below.refl w1.heap.size w1).alloc (Nat.le_refl _) _) hg4 hg22 hcc hbn; rw [HA0.out] at i2; have i3 := hs4.row.lt; have i4 : g2 < w4.heap.size := Nat.lt_of_lt_of_le (Nat.lt_of_lt_of_le hg22 (by rw [World.size_alloc]; exact Nat.le_succ _)) hg4.size; have HG4 := Lib.hid hg4; clear hg4 hs4 hcc))
        go_region
        all_goals go_wp2_with fail
        go_ret2
        have hbb := comp_below HB.out ((Below.refl w1.heap.size w1).alloc (Nat.le_refl _) _) HG4.out
        have hsz := hbb.size
        have hr : Row (w4.alloc (.cells #[.int .i64 60, .int .i64 ((A0 : Nat) : Int)] 70)) w4.heap.size 70 [.int .i64 60, .int .i64 ((A0 : Nat) : Int)] := row_new w4 _ _
        unfold CompP
        rw [if_neg HL.out, HV.out, HI0.out, HAT.out]
        dsimp only
        rw [HA0.out]
        exact ⟨(hbb.alloc hsz _).trans (Quiet.below ⟨1, rfl⟩ _), w4.heap.size, rfl, hsz, hr.keep (Quiet.below (w' := (w4.alloc _).drew) ⟨1, rfl⟩ _) hr.lt⟩
      | inr its =>
        rw [hI] at hPT hI0
        have HI0 := Lib.hid hI0
        have HPT := Lib.hid hPT
        clear hPT hI hI0
        go_enter Tryd.func10, Tryd.ntmps10
        go_wp2_with (first | (go_at_call 34; refine (HC.out).mono ?_; rintro e w1 ⟨a, c, a2, c2, rfl, hrt, hab, hcl, hcell, hb⟩; have hsc := scan_new (c := c) hrt hab; have hsf := scan_newF (c := c) hrt hab; obtain ⟨bb, ha⟩ := hcl (by omega); subst ha; have hl0 := tok_at0 hsc.toks HV0.out; have hl1 := tok_at1 hsc.toks HV1.out; obtain ⟨u1, u2⟩ := hl0; obtain ⟨u3, u4⟩ := hl1; have HSF := Lib.hid hsf; clear hsf; have q1 := hsc.row.lt; have q2 := hsc.row.frozen 1; have q3 := hsc.row.frozen 2; have HB := Lib.hid hb; have HSC := Lib.hid hsc; have HAB := Lib.hid hab; have HCE := Lib.hid hcell; clear hrt hb hab hcl hcell hsc) | (go_at_call 35; refine (HPT.out (w1.alloc (.cells #[.slice (some ⟨bb, 0, none⟩) n c, .int .i64 2, .bool true] 77)) _ _ c HSF.out (fun ad h => by have := (HAB.out ad h).2; rw [World.size_alloc]; omega)).mono ?_; rintro e w4 ⟨hg4, v, L, rfl, hL, hP⟩; obtain ⟨a3, c3, rfl⟩ := parts_shape hP; have HG4 := Lib.hid hg4; have HL4 := Lib.hid hL; have HP4 := Lib.hid hP; clear hg4 hL hP))
        go_ret2
        have hbb := comp_below HB.out ((Below.refl w1.heap.size w1).alloc (Nat.le_refl _) _) HG4.out
        have hsz := hbb.size
        have hal : Below w4.heap.size w4 (w4.alloc (.cells #[.string (bstr l), .bool true, .slice a3 L.length c3] 84)) := (Below.refl _ w4).alloc (Nat.le_refl _) _
        unfold CompP
        rw [if_neg HL.out, HV.out, HI0.out, HFO.out]
        exact ⟨hbb.alloc hsz _, w4.heap.size, rfl, hsz, _, L, _, row_new w4 [.string (bstr l), .bool true, .slice a3 L.length c3] _, HL4.out, HP4.out.grown (grown_of_below hal (some w1.heap.size)) (by rw [World.size_alloc]; omega)⟩
    · have hfo : foldedP V = false := by
        refine decide_eq_false ?_
        rw [hv0, hv1]
        rintro ⟨h, h'⟩
        exact hf2 ⟨Option.some.inj h, Option.some.inj h'⟩
      have hPT := HPT0.out 0 false (Nat.zero_le _)
      have hI0 : itemsP V = itemsGo V (V.length + 1) 0 [] := by
        unfold itemsP
        rw [hfo]
        rfl
      have HFO := Lib.hid hfo
      obtain ⟨b0, hb0⟩ : ∃ b, decide (v0 = 92) = b := ⟨_, rfl⟩
      obtain ⟨b1, hb1⟩ : ∃ b, decide (v1 = 105) = b := ⟨_, rfl⟩
      rw [hb0] at hq0
      rw [hb1] at hq1
      have hbb : b0 = false ∨ (b0 = true ∧ b1 = false) := by
        cases b0 with
        | false => exact .inl rfl
        | true =>
          cases b1 with
          | false => exact .inr ⟨rfl, rfl⟩
          | true => exact absurd ⟨of_decide_eq_true hb0, of_decide_eq_true hb1⟩ hf2
      clear hf1 hfo HPT0 hv0 hv1 hf2 hb0 hb1
      rcases hbb with rfl | ⟨rfl, rfl⟩
      · cases hI : itemsGo V (V.length + 1) 0 [] with
        | inl b =>
          rw [hI] at hPT hI0
          have HI0 := Lib.hid hI0
          have HPT := Lib.hid hPT
          have hbn : b < A.length := by
            have := itemsGo_le V HOK.out _ _ _ (by have := HN.out; omega) b hI
            have := HN.out
            rw [HAL.out]
            omega
          have hbi : (b : Int) < ((n + 1 : Nat) : Int) := by rw [HAL.out] at hbn; omega
          have hbi2 : (b : Int) < (n : Int) + 1 := by omega
          have hbi3 : b < n + 1 := by omega
          obtain ⟨A0, hA0⟩ : ∃ x, A.getD b 0 = x := ⟨_, rfl⟩
          have HA0 := Lib.hid hA0
          clear hA0
          clear hPT hI hI0
          go_enter Tryd.func10, Tryd.ntmps10
          go_wp2_with (first | (go_at_call 34; refine (HC.out).mono ?_; rintro e w1 ⟨a, c, a2, c2, rfl, hrt, hab, hcl, hcell, hb⟩; have hsc := scan_new (c := c) hrt hab; obtain ⟨bb, ha⟩ := hcl (by omega); subst ha; have hl0 := tok_at0 hsc.toks HV0.out; have hl1 := tok_at1 hsc.toks HV1.out; obtain ⟨u1, u2⟩ := hl0; obtain ⟨u3, u4⟩ := hl1; have q1 := hsc.row.lt; have q2 := hsc.row.frozen 1; have q3 := hsc.row.frozen 2; have HB := Lib.hid hb; have HSC := Lib.hid hsc; have HAB := Lib.hid hab; have HCE := Lib.hid hcell; clear hrt hb hab hcl hcell hsc) | (go_at_call 35; refine (HPT.out (w1.alloc (.cells #[.slice (some ⟨bb, 0, none⟩) n c, .int .i64 0, .bool false] 77)) _ _ c HSC.out (fun ad h => by have := (HAB.out ad h).2; rw [World.size_alloc]; omega)).mono ?_; rintro e w4 ⟨hg4, rfl, hs4⟩; have i1 : w4.cell? ⟨w1.heap.size, 1, none⟩ = some (.int .i64 (b : Int)) := hs4.row.cell 1; obtain ⟨g2, ha2, hg21, hg22, hcc⟩ := HCE.out (by omega); subst ha2; have i2 := at_cell ((Below.refl w1.heap.size w1).alloc (Nat.le_refl _) _) hg4 hg22 hcc hbn; rw [HA0.out] at i2; have i3 := hs4.row.lt; have i4 : g2 < w4.heap.size := Nat.lt_of_lt_of_le (Nat.lt_of_lt_of_le hg22 (by rw [World.size_alloc]; exact Nat.le_succ _)) hg4.size; have HG4 := Lib.hid hg4; clear hg4 hs4 hcc))
          go_region
          all_goals go_wp2_with fail
          go_ret2
          have hbb := comp_below HB.out ((Below.refl w1.heap.size w1).alloc (Nat.le_refl _) _) HG4.out
          have hsz := hbb.size
          have hr : Row (w4.alloc (.cells #[.int .i64 60, .int .i64 ((A0 : Nat) : Int)] 70)) w4.heap.size 70 [.int .i64 60, .int .i64 ((A0 : Nat) : Int)] := row_new w4 _ _
          unfold CompP
          rw [if_neg HL.out, HV.out, HI0.out, HAT.out]
          dsimp only
          rw [HA0.out]
          exact ⟨(hbb.alloc hsz _).trans (Quiet.below ⟨1, rfl⟩ _), w4.heap.size, rfl, hsz, hr.keep (Quiet.below (w' := (w4.alloc _).drew) ⟨1, rfl⟩ _) hr.lt⟩
        | inr its =>
          rw [hI] at hPT hI0
          have HI0 := Lib.hid hI0
          have HPT := Lib.hid hPT
          clear hPT hI hI0
          go_enter Tryd.func10, Tryd.ntmps10
          go_wp2_with (first | (go_at_call 34; refine (HC.out).mono ?_; rintro e w1 ⟨a, c, a2, c2, rfl, hrt, hab, hcl, hcell, hb⟩; have hsc := scan_new (c := c) hrt hab; obtain ⟨bb, ha⟩ := hcl (by omega); subst ha; have hl0 := tok_at0 hsc.toks HV0.out; have hl1 := tok_at1 hsc.toks HV1.out; obtain ⟨u1, u2⟩ := hl0; obtain ⟨u3, u4⟩ := hl1; have q1 := hsc.row.lt; have q2 := hsc.row.frozen 1; have q3 := hsc.row.frozen 2; have HB := Lib.hid hb; have HSC := Lib.hid hsc; have HAB := Lib.hid hab; have HCE := Lib.hid hcell; clear hrt hb hab hcl hcell hsc) | (go_at_call 35; refine (HPT.out (w1.alloc (.cells #[.slice (some ⟨bb, 0, none⟩) n c, .int .i64 0, .bool false] 77)) _ _ c HSC.out (fun ad h => by have := (HAB.out ad h).2; rw [World.size_alloc]; omega)).mono ?_; rintro e w4 ⟨hg4, v, L, rfl, hL, hP⟩; obtain ⟨a3, c3, rfl⟩ := parts_shape hP; have HG4 := Lib.hid hg4; have HL4 := Lib.hid hL; have HP4 := Lib.hid hP; clear hg4 hL hP))
          go_ret2
          have hbb := comp_below HB.out ((Below.refl w1.heap.size w1).alloc (Nat.le_refl _) _) HG4.out
          have hsz := hbb.size
          have hal : Below w4.heap.size w4 (w4.alloc (.cells #[.string (bstr l), .bool true, .slice a3 L.length c3] 84)) := (Below.refl _ w4).alloc (Nat.le_refl _) _
          unfold CompP
          rw [if_neg HL.out, HV.out, HI0.out, HFO.out]
          exact ⟨hbb.alloc hsz _, w4.heap.size, rfl, hsz, _, L, _, row_new w4 [.string (bstr l), .bool true, .slice a3 L.length c3] _, HL4.out, HP4.out.grown (grown_of_below hal (some w1.heap.size)) (by rw [World.size_alloc]; omega)⟩
      · cases hI : itemsGo V (V.length + 1) 0 [] with
        | inl b =>
          rw [hI] at hPT hI0
          have HI0 := Lib.hid hI0
          have HPT := Lib.hid hPT
          have hbn : b < A.length := by
            have := itemsGo_le V HOK.out _ _ _ (by have := HN.out; omega) b hI
            have := HN.out
            rw [HAL.out]
            omega
          have hbi : (b : Int) < ((n + 1 : Nat) : Int) := by rw [HAL.out] at hbn; omega
          have hbi2 : (b : Int) < (n : Int) + 1 := by omega
          have hbi3 : b < n + 1 := by omega
          obtain ⟨A0, hA0⟩ : ∃ x, A.getD b 0 = x := ⟨_, rfl⟩
          have HA0 := Lib.hid hA0
          clear hA0
          clear hPT hI hI0
          go_enter Tryd.func10, Tryd.ntmps10
          go_wp2_with (first | (go_at_call 34; refine (HC.out).mono ?_; rintro e w1 ⟨a, c, a2, c2, rfl, hrt, hab, hcl, hcell, hb⟩; have hsc := scan_new (c := c) hrt hab; obtain ⟨bb, ha⟩ := hcl (by omega); subst ha; have hl0 := tok_at0 hsc.toks HV0.out; have hl1 := tok_at1 hsc.toks HV1.out; obtain ⟨u1, u2⟩ := hl0; obtain ⟨u3, u4⟩ := hl1; have q1 := hsc.row.lt; have q2 := hsc.row.frozen 1; have q3 := hsc.row.frozen 2; have HB := Lib.hid hb; have HSC := Lib.hid hsc; have HAB := Lib.hid hab; have HCE := Lib.hid hcell; clear hrt hb hab hcl hcell hsc) | (go_at_call 35; refine (HPT.out (w1.alloc (.cells #[.slice (some ⟨bb, 0, none⟩) n c, .int .i64 0, .bool false] 77)) _ _ c HSC.out (fun ad h => by have := (HAB.out ad h).2; rw [World.size_alloc]; omega)).mono ?_; rintro e w4 ⟨hg4, rfl, hs4⟩; have i1 : w4.cell? ⟨w1.heap.size, 1, none⟩ = some (.int .i64 (b : Int)) := hs4.row.cell 1; obtain ⟨g2, ha2, hg21, hg22, hcc⟩ := HCE.out (by omega); subst ha2; have i2 := at_cell ((Below.refl w1.heap.size w1).alloc (Nat.le_refl _) _) hg4 hg22 hcc hbn; rw [HA0.out] at i2; have i3 := hs4.row.lt; have i4 : g2 < w4.heap.size := Nat.lt_of_lt_of_le (Nat.lt_of_lt_of_le hg22 (by rw [World.size_alloc]; exact Nat.le_succ _)) hg4.size; have HG4 := Lib.hid hg4; clear hg4 hs4 hcc))
          go_region
          all_goals go_wp2_with fail
          go_ret2
          have hbb := comp_below HB.out ((Below.refl w1.heap.size w1).alloc (Nat.le_refl _) _) HG4.out
          have hsz := hbb.size
          have hr : Row (w4.alloc (.cells #[.int .i64 60, .int .i64 ((A0 : Nat) : Int)] 70)) w4.heap.size 70 [.int .i64 60, .int .i64 ((A0 : Nat) : Int)] := row_new w4 _ _
          unfold CompP
          rw [if_neg HL.out, HV.out, HI0.out, HAT.out]
          dsimp only
          rw [HA0.out]
          exact ⟨(hbb.alloc hsz _).trans (Quiet.below ⟨1, rfl⟩ _), w4.heap.size, rfl, hsz, hr.keep (Quiet.below (w' := (w4.alloc _).drew) ⟨1, rfl⟩ _) hr.lt⟩
        | inr its =>
          rw [hI] at hPT hI0
          have HI0 := Lib.hid hI0
          have HPT := Lib.hid hPT
          clear hPT hI hI0
          go_enter Tryd.func10, Tryd.ntmps10
          go_wp2_with (first | (go_at_call 34; refine (HC.out).mono ?_; rintro e w1 ⟨a, c, a2, c2, rfl, hrt, hab, hcl, hcell, hb⟩; have hsc := scan_new (c := c) hrt hab; obtain ⟨bb, ha⟩ := hcl (by omega); subst ha; have hl0 := tok_at0 hsc.toks HV0.out; have hl1 := tok_at1 hsc.toks HV1.out; obtain ⟨u1, u2⟩ := hl0; obtain ⟨u3, u4⟩ := hl1; have q1 := hsc.row.lt; have q2 := hsc.row.frozen 1; have q3 := hsc.row.frozen 2; have HB := Lib.hid hb; have HSC := Lib.hid hsc; have HAB := Lib.hid hab; have HCE := Lib.hid hcell; clear hrt hb hab hcl hcell hsc) | (go_at_call 35; refine (HPT.out (w1.alloc (.cells #[.slice (some ⟨bb, 0, none⟩) n c, .int .i64 0, .bool false] 77)) _ _ c HSC.out (fun ad h => by have := (HAB.out ad h).2; rw [World.size_alloc]; omega)).mono ?_; rintro e w4 ⟨hg4, v, L, rfl, hL, hP⟩; obtain ⟨a3, c3, rfl⟩ := parts_shape hP; have HG4 := Lib.hid hg4; have HL4 := Lib.hid hL; have HP4 := Lib.hid hP; clear hg4 hL hP))
          go_ret2
          have hbb := comp_below HB.out ((Below.refl w1.heap.size w1).alloc (Nat.le_refl _) _) HG4.out
          have hsz := hbb.size
          have hal : Below w4.heap.size w4 (w4.alloc (.cells #[.string (bstr l), .bool true, .slice a3 L.length c3] 84)) := (Below.refl _ w4).alloc (Nat.le_refl _) _
          unfold CompP
          rw [if_neg HL.out, HV.out, HI0.out, HFO.out]
          exact ⟨hbb.alloc hsz _, w4.heap.size, rfl, hsz, _, L, _, row_new w4 [.string (bstr l), .bool true, .slice a3 L.length c3] _, HL4.out, HP4.out.grown (grown_of_below hal (some w1.heap.size)) (by rw [World.size_alloc]; omega)⟩
  · have hf1i : ¬ (1 : Int) < (n : Int) := by omega
    have hf1j : (n : Int) ≤ 1 := by omega
    have hfo : foldedP V = false := by
      refine decide_eq_false ?_
      rintro ⟨_, h⟩
      have := lt_of_some h
      have := HN.out
      omega
    have hPT := HPT0.out 0 false (Nat.zero_le _)
    have hI0 : itemsP V = itemsGo V (V.length + 1) 0 [] := by
      unfold itemsP
      rw [hfo]
      rfl
    have HFO := Lib.hid hfo
    clear hf1 hfo HPT0
    cases hI : itemsGo V (V.length + 1) 0 [] with
    | inl b =>
      rw [hI] at hPT hI0
      have HI0 := Lib.hid hI0
      have HPT := Lib.hid hPT
      have hbn : b < A.length := by
        have := itemsGo_le V HOK.out _ _ _ (by have := HN.out; omega) b hI
        have := HN.out
        rw [HAL.out]
        omega
      have hbi : (b : Int) < ((n + 1 : Nat) : Int) := by rw [HAL.out] at hbn; omega
      have hbi2 : (b : Int) < (n : Int) + 1 := by omega
      have hbi3 : b < n + 1 := by omega
      obtain ⟨A0, hA0⟩ : ∃ x, A.getD b 0 = x := ⟨_, rfl⟩
      have HA0 := Lib.hid hA0
      clear hA0
      clear hPT hI hI0
      go_enter Tryd.func10, Tryd.ntmps10
      go_wp2_with (first | (go_at_call 34; refine (HC.out).mono ?_; rintro e w1 ⟨a, c, a2, c2, rfl, hrt, hab, hcl, hcell, hb⟩; have hsc := scan_new (c := c) hrt hab; have q1 := hsc.row.lt; have q2 := hsc.row.frozen 1; have q3 := hsc.row.frozen 2; have HB := Lib.hid hb; have HSC := Lib.hid hsc; have HAB := Lib.hid hab; have HCE := Lib.hid hcell; clear hrt hb hab hcl hcell hsc) | (go_at_call 35; refine (HPT.out (w1.alloc (.cells #[.slice a n c, .int .i64 0, .bool false] 77)) _ a c HSC.out (fun ad h => by have := (HAB.out ad h).2; rw [World.size_alloc]; omega)).mono ?_; rintro e w4 ⟨hg4, rfl, hs4⟩; have i1 : w4.cell? ⟨w1.heap.size, 1, none⟩ = some (.int .i64 (b : Int)) := hs4.row.cell 1; obtain ⟨g2, ha2, hg21, hg22, hcc⟩ := HCE.out (by omega); subst ha2; have i2 := at_cell ((Below.refl w1.heap.size w1).alloc (Nat.le_refl _) _) hg4 hg22 hcc hbn; rw [HA0.out] at i2; have i3 := hs4.row.lt; have i4 : g2 < w4.heap.size := Nat.lt_of_lt_of_le (Nat.lt_of_lt_of_le hg22 (by rw [World.size_alloc]; exact Nat.le_succ _)) hg4.size; have HG4 := Lib.hid hg4; clear hg4 hs4 hcc))
      go_region
      all_goals go_wp2_with fail
      go_ret2
      have hbb := comp_below HB.out ((Below.refl w1.heap.size w1).alloc (Nat.le_refl _) _) HG4.out
      have hsz := hbb.size
      have hr : Row (w4.alloc (.cells #[.int .i64 60, .int .i64 ((A0 : Nat) : Int)] 70)) w4.heap.size 70 [.int .i64 60, .int .i64 ((A0 : Nat) : Int)] := row_new w4 _ _
      unfold CompP
      rw [if_neg HL.out, HV.out, HI0.out, HAT.out]
      dsimp only
      rw [HA0.out]
      exact ⟨(hbb.alloc hsz _).trans (Quiet.below ⟨1, rfl⟩ _), w4.heap.size, rfl, hsz, hr.keep (Quiet.below (w' := (w4.alloc _).drew) ⟨1, rfl⟩ _) hr.lt⟩
    | inr its =>
      rw [hI] at hPT hI0
      have HI0 := Lib.hid hI0
      have HPT := Lib.hid hPT
      clear hPT hI hI0
      go_enter Tryd.func10, Tryd.ntmps10
      go_wp2_with (first | (go_at_call 34; refine (HC.out).mono ?_; rintro e w1 ⟨a, c, a2, c2, rfl, hrt, hab, hcl, hcell, hb⟩; have hsc := scan_new (c := c) hrt hab; have q1 := hsc.row.lt; have q2 := hsc.row.frozen 1; have q3 := hsc.row.frozen 2; have HB := Lib.hid hb; have HSC := Lib.hid hsc; have HAB := Lib.hid hab; have HCE := Lib.hid hcell; clear hrt hb hab hcl hcell hsc) | (go_at_call 35; refine (HPT.out (w1.alloc (.cells #[.slice a n c, .int .i64 0, .bool false] 77)) _ a c HSC.out (fun ad h => by have := (HAB.out ad h).2; rw [World.size_alloc]; omega)).mono ?_; rintro e w4 ⟨hg4, v, L, rfl, hL, hP⟩; obtain ⟨a3, c3, rfl⟩ := parts_shape hP; have HG4 := Lib.hid hg4; have HL4 := Lib.hid hL; have HP4 := Lib.hid hP; clear hg4 hL hP))
      go_ret2
      have hbb := comp_below HB.out ((Below.refl w1.heap.size w1).alloc (Nat.le_refl _) _) HG4.out
      have hsz := hbb.size
      have hal : Below w4.heap.size w4 (w4.alloc (.cells #[.string (bstr l), .bool true, .slice a3 L.length c3] 84)) := (Below.refl _ w4).alloc (Nat.le_refl _) _
      unfold CompP
      rw [if_neg HL.out, HV.out, HI0.out, HFO.out]
      exact ⟨hbb.alloc hsz _, w4.heap.size, rfl, hsz, _, L, _, row_new w4 [.string (bstr l), .bool true, .slice a3 L.length c3] _, HL4.out, HP4.out.grown (grown_of_below hal (some w1.heap.size)) (by rw [World.size_alloc]; omega)⟩
end Go.Proofs.YtchdeboialbdiaaDoor
