/- Texts joined, one behind the other (LDiffLines, OpenH, LDiffPatches). -/
import Derived.Test.YtnbihjocdlpplaaDoorDp26
import Derived.Test.YtnbihjocdlpplaaDoorRows
import Derived.Deep.Slices
import Derived.OpenShut
import Derived.ProofKit
import Derived.JoinedCond
/- DiffLines: the walk. -/
namespace Go.Proofs.YtnbihjocdlpplaaDoor
set_option linter.unusedVariables false
set_option linter.unusedSimpArgs false
open Go.RowKit
open Go.Lib hiding intOf
def tooL (A C : List (List UInt8)) : Prop := 512 < A.length ∨ 512 < C.length
instance (A C : List (List UInt8)) : Decidable (tooL A C) := inferInstanceAs (Decidable (_ ∨ _))
def linesH (A C : List (List UInt8)) : List Hk := if tooL A C then [] else patchL A C
def linesE (A C : List (List UInt8)) : Int := if tooL A C then 4 else 0
theorem lines_own {w w' : World} {A C : List (List UInt8)} {e : Ending} (h : LinesP w A C e w') : ∃ v B, e = .returned (.tuple #[v, .int .i64 (linesE A C)]) ∧ PatchAt B w' v (linesH A C) ∧ w.heap.size ≤ B ∧ B ≤ w'.heap.size ∧ Below w.heap.size w w' := by
  rcases h with ⟨h, he, hb⟩ | ⟨h, v, B, he, hP, h1, h2, hb⟩
  · have ht : tooL A C := h
    refine ⟨.slice none 0 0, w.heap.size, by rw [he]; unfold linesE; rw [if_pos ht], ?_, Nat.le_refl _, hb.size, hb⟩
    unfold linesH
    rw [if_pos ht]
    exact ⟨none, 0, [], rfl, SW.start _ _ _ (fun p hp => by cases hp), fun x hx => by cases hx⟩
  · have ht : ¬ tooL A C := fun h' => by
      unfold tooL at h'
      omega
    refine ⟨v, B, by rw [he]; unfold linesE; rw [if_neg ht], ?_, h1, h2, hb⟩
    unfold linesH
    rw [if_neg ht]
    exact hP
theorem lines_read {w w' : World} {A C : List (List UInt8)} {e : Ending} (h : LinesQ w A C e w') : ∃ a c, e = .returned (.tuple #[.slice a (linesH A C).length c, .int .i64 (linesE A C)]) ∧ ReadsK w' a (linesH A C).length ((linesH A C).map toI) ∧ Below w.heap.size w w' := by
  rcases h with ⟨h, he, hb⟩ | ⟨h, v, hs, B, he, hS, h1, h2, hb⟩
  · have ht : tooL A C := h
    refine ⟨none, 0, by rw [he]; unfold linesE linesH; rw [if_pos ht, if_pos ht]; rfl, ?_, hb⟩
    unfold linesH
    rw [if_pos ht]
    exact ReadsK.nil _ _
  · have ht : ¬ tooL A C := fun h' => by
      unfold tooL at h'
      omega
    obtain ⟨a, c, rfl⟩ := slice_own hS.own
    have hr := hS.reads
    refine ⟨a, c, by rw [he]; unfold linesE linesH; rw [if_neg ht, if_neg ht, ← hr.1], ?_, hb⟩
    unfold linesH
    rw [if_neg ht]
    exact hr.2
theorem linesH_ok (A C : List (List UInt8)) : (∀ x ∈ linesH A C, (1 ≤ x.1 ∧ x.1 ≤ 3) ∧ x.2 ≠ [] ∧ x.2.length ≤ 1024) ∧ (linesH A C).length ≤ 1024 := by
  unfold linesH
  by_cases h : tooL A C
  · rw [if_pos h]
    exact ⟨fun x hx => (by cases hx), Nat.zero_le _⟩
  · rw [if_neg h]
    have hok := patch_okB A C
    have hm := okB_mem _ 0 hok
    have hl := lines_sides _ (fun x hx => (hm x hx).1)
    rw [(patch_sidesI A C).1, (patch_sidesI A C).2] at hl
    have h3 := len_lines _ (fun x hx => (hm x hx).2)
    unfold tooL at h
    rw [List.length_map] at h3
    refine ⟨fun x hx => ?_, by omega⟩
    have h1 := hm (toI x) (List.mem_map.2 ⟨x, hx, rfl⟩)
    have h2 := linesK_mem (List.mem_map.2 ⟨x, hx, rfl⟩ : toI x ∈ (patchL A C).map toI)
    have e1 : (toI x).1 = (x.1 : Int) := rfl
    have e2 : (toI x).2 = x.2 := rfl
    rw [e1, e2] at h1
    rw [e2] at h2
    exact ⟨⟨by omega, by omega⟩, h1.2, by omega⟩
theorem lenI {H : List Hk} (h : ∀ x ∈ H, x.2.length ≤ 1024) : ∀ x ∈ H.map toI, x.2.length ≤ 4611686018427387904 := fun x hx => by
  obtain ⟨y, hy, rfl⟩ := List.mem_map.1 hx
  have := h y hy
  show y.2.length ≤ _
  omega
set_option maxHeartbeats 4000000 in
set_option maxRecDepth 100000 in
theorem diffLines_walk (w : World) (x : List UInt8) (hx : x.length ≤ 1048576) (y : List UInt8) (hy : y.length ≤ 1048576) (hT : Tabs w) :
    Calls Tryd.prog 3 #[.string (bstr x), .string (bstr y)] w fun e w' => e = .returned (.bool true) ∧ Below w.heap.size w w' := by
  have HT := Lib.hid hT
  have HC := Lib.hid (fun W hW => (linesC W x y (by omega) (by omega) hW).mono (fun e w' h => lines_own h))
  have HR := Lib.hid (fun W => (linesR W x y (by omega) (by omega)).mono (fun e w' h => lines_read h))
  have hok := linesH_ok (splitD x) (splitD y)
  obtain ⟨H, hH⟩ : ∃ H, H = linesH (splitD x) (splitD y) := ⟨_, rfl⟩
  obtain ⟨cd, hcd⟩ : ∃ c, c = linesE (splitD x) (splitD y) := ⟨_, rfl⟩
  rw [← hH, ← hcd] at HC HR
  rw [← hH] at hok
  have HOK := Lib.hid hok
  have hlen := hok.2
  have hcc : (cd == cd) = true := by simp
  clear hT hok hH hcd
  go_enter Tryd.func3, Tryd.ntmps3
  go_upto_region 2 with (go_at_call 10; refine (HC.out w HT.out).mono ?_; rintro e w1 ⟨v1, B1, rfl, hP1, hB1, hz1, hb1⟩; obtain ⟨a1, rfl, hr1⟩ := hP1.reads; have HP1 := Lib.hid hP1; have HR1 := Lib.hid hr1; have HB1 := Lib.hid hb1; have HT1 := Lib.hid (HT.out.next hb1); have HZ1 := Lib.hid hz1; have HL1 := Lib.hid hB1; clear hP1 hr1 hb1 hz1 hB1)
  go_upto_region 3 with (go_at_call 10; refine (HC.out w1 HT1.out).mono ?_; rintro e w2 ⟨v2, B2, rfl, hP2, hB2, hz2, hb2⟩; obtain ⟨a2, rfl, hr2⟩ := hP2.reads; have HP2 := Lib.hid hP2; have HR2 := Lib.hid hr2; have HB2 := Lib.hid hb2; have HL2 := Lib.hid hB2; clear hP2 hr2 hb2 hz2 hB2)
  have s1 := HB1.out.size
  have s2 := HB2.out.size
  go_upto_region 4 with (go_at_call 11; refine (HR.out w2).mono ?_; rintro e w3 ⟨a3, c3, rfl, hr3, hb3⟩; have HR3 := Lib.hid hr3; have HB3 := Lib.hid hb3; clear hr3 hb3)
  have s3 := HB3.out.size
  have R1 : Hid (ReadsK w3 a1 H.length (H.map toI)) := Lib.hid ((HR1.out.keep HB2.out (Nat.le_refl _)).keep HB3.out (Nat.le_refl _))
  have R2 : Hid (ReadsK w3 a2 H.length (H.map toI)) := Lib.hid (HR2.out.keep HB3.out (Nat.le_refl _))
  have HBW : Hid (Below w.heap.size w w3) := Lib.hid (HB1.out.trans ((HB2.out.trans (HB3.out.mono s2)).mono s1))
  have HLI := Lib.hid (lenI (fun x hx => (HOK.out.1 x hx).2.2))
  obtain ⟨n, hn⟩ : ∃ n, n = H.length := ⟨_, rfl⟩
  rw [← hn] at R1 R2 HR3 hlen ⊢
  have HN := Lib.hid hn
  clear hn
  go_wp2_with (first
    | (go_at_call_of 12 (Value.slice a1 n n); refine (eqHunks w3 a1 a3 n n c3 _ R1.out HR3.out (by omega) HLI.out).mono ?_; rintro e w4 ⟨rfl, hq4⟩; have HQ4 := Lib.hid hq4; clear hq4)
    | (go_at_call_of 12 (Value.slice a2 n n); refine (eqHunks w4 a2 a3 n n c3 _ (R2.out.quiet HQ4.out) (HR3.out.quiet HQ4.out) (by omega) HLI.out).mono ?_; rintro e w5 ⟨rfl, hq5⟩; have HQ5 := Lib.hid (HQ4.out.trans hq5); clear hq5)
    | (go_at_call 13; refine (apartC w1 w5 B1 B2 _ _ H H (HN.out ▸ HP1.out) (HB2.out.trans ((HB3.out.trans (HQ5.out.below _)).mono s2)) (HN.out ▸ (HP2.out.keep (HB3.out.trans ((HQ5.out.below _).mono s3)))) HZ1.out HL2.out (fun x hx => (HOK.out.1 x hx).2.1) (fun x hx => (HOK.out.1 x hx).2.1) (by rw [← HN.out]; omega) (by rw [← HN.out]; omega) (fun x hx => by have := (HOK.out.1 x hx).2.2; omega) (fun x hx => by have := (HOK.out.1 x hx).2.2; omega) (fun x hx => by have := (HOK.out.1 x hx).1; omega)).mono ?_; rintro e w6 ⟨rfl, hb6⟩; have HB6 := Lib.hid ((HBW.out.trans (HQ5.out.below _)).trans (hb6.mono HL1.out)); clear hb6)
    | (go_at_call 14; refine (worksC w6 (HT.out.next HB6.out)).mono ?_; rintro e w7 ⟨rfl, hb7⟩; have HB7 := Lib.hid (HB6.out.trans (hb7.mono HB6.out.size)); clear hb7))
  go_ret
  exact ⟨rfl, HB7.out⟩
end Go.Proofs.YtnbihjocdlpplaaDoor
/- A slice of texts, a slice of hunks that came in. -/
namespace Go.Proofs.YtnbihjocdlpplaaDoor
set_option linter.unusedVariables false
set_option linter.unusedSimpArgs false
open Go.ChangeShapes Go.WideShapes Go.ChangeAt Go.RowKit Go.Deep
def textSum (L : List (List UInt8)) : Nat := (L.map fun s => s.length + 1).sum
def hunkSum (X : List HkI) : Nat := (X.map fun h => textSum h.2 + 1).sum
theorem textSum_len (L : List (List UInt8)) : L.length + L.flatten.length = textSum L := by
  induction L with
  | nil => rfl
  | cons s L ih =>
    unfold textSum at *
    rw [List.length_cons, List.flatten_cons, List.length_append, List.map_cons, List.sum_cons]
    omega
theorem hunkSum_fit (X : List HkI) : X.length + linesK X + bytesK X = hunkSum X := by
  induction X with
  | nil => rfl
  | cons x X ih =>
    have := textSum_len x.2
    unfold hunkSum linesK bytesK at *
    rw [List.length_cons, List.map_cons, List.sum_cons, List.map_cons, List.sum_cons, List.map_cons, List.sum_cons]
    omega
theorem field_of {o : Option Field} {P : Program} {a b : Nat} {c : Option TypeDesc} (h : o.map (fun f => (f.offset, P.cellsOf f.type, P.underlying f.type)) = some (a, b, c)) : ∃ f, o = some f ∧ f.offset = a ∧ P.cellsOf f.type = b ∧ P.underlying f.type = c := by
  cases o with
  | none => cases h
  | some f =>
    simp only [Option.map_some, Option.some.injEq, Prod.mk.injEq] at h
    exact ⟨f, rfl, h.1, h.2.1, h.2.2⟩
theorem drop_one {cs : List Value} {k : Nat} (h : k < cs.length) : (cs.drop k).take 1 = [cs[k]] := by
  rw [List.drop_eq_getElem_cons h]; rfl
theorem bulk_mem {H : Type} {d : DataW H} {l : List (DataW H)} (h : d ∈ l) : Rows.uptoBulk d ≤ Rows.uptoBulkAll l := by
  induction l with
  | nil => cases h
  | cons x r ih =>
    simp only [Rows.uptoBulkAll]
    cases List.mem_cons.1 h with
    | inl e => subst e; omega
    | inr e => have := ih e; omega
theorem str_cells : Tryd.prog.cellsOf 9 = 1 := by kernel_rfl
theorem hunk_fields : ∃ fs : Array Field, Tryd.prog.underlying 80 = some (.struct fs) ∧ fs.size = 2 ∧
    (fs[0]?).map (fun f => (f.offset, Tryd.prog.cellsOf f.type, Tryd.prog.underlying f.type)) = some (0, 1, some (.int .i64)) ∧
    (fs[1]?).map (fun f => (f.offset, Tryd.prog.cellsOf f.type, Tryd.prog.underlying f.type)) = some (1, 1, some (.slice 9)) :=
  ⟨Tryd.prog.fieldsOf 80, by kernel_rfl, by kernel_rfl, by kernel_rfl, by kernel_rfl⟩
theorem hunk_cells : Tryd.prog.cellsOf 80 = 2 := by kernel_rfl
/-- a slice of texts -/
theorem openTexts {H : Type} {enc : TypeId × Value → H} {W : World} {base : Nat} {spare : Nat → Bool} {held : Bool} {fuel : Nat} {cs : List Value} {x : DataW H × List MemPlace} {t : TypeId} (ht : Tryd.prog.underlying t = some (.slice 9))
    (h : DataW.trod enc Tryd.prog W base spare held fuel t cs = some x) :
    ∃ (a : Option Addr) (n c : Nat) (L : List (List UInt8)), cs = [.slice a n c] ∧ ReadsS W a n L ∧ n ≤ c ∧ c ≤ maxLen ∧ textSum L ≤ Rows.uptoBulk x.1 := by
  rcases open_slice1 ht str_cells h with ⟨rfl, rfl⟩ | ⟨a, len, cap, m, nf, V, D, Pl, rfl, hb, hl, hm, hmm, rfl, hi⟩
  · exact ⟨none, 0, 0, [], rfl, Reads.nil _ _, Nat.le_refl _, Nat.zero_le _, Nat.zero_le _⟩
  · have hlm : len ≤ m := by rw [hmm]; split <;> omega
    have hone : ∀ i, i < len → ∃ s : List UInt8, W.cell? (a.add i) = some (S1 s) ∧ s.length + 1 ≤ Rows.uptoBulk (D i) := fun i hil => by
      obtain ⟨hc, ht'⟩ := hi i (by omega)
      obtain ⟨s, e1, y1, _⟩ := DataW.trod_string Tryd.underlying9 ht'
      obtain ⟨hD, _⟩ := Prod.mk.inj y1
      refine ⟨s.data.toList, ?_, ?_⟩
      · rw [hc, (List.cons.inj e1).1]
        rfl
      · rw [hD]
        simp [Rows.uptoBulk]
    let F : Nat → List UInt8 := fun i => if hil : i < len then Classical.choose (hone i hil) else []
    have hF : ∀ i, i < len → W.cell? (a.add i) = some (S1 (F i)) ∧ (F i).length + 1 ≤ Rows.uptoBulk (D i) := fun i hil => by
      have h1 := Classical.choose_spec (hone i hil)
      simp only [F, dif_pos hil]
      exact h1
    have hsum : textSum ((List.range len).map F) ≤ Rows.uptoBulkAll ((List.range len).map D) := by
      have hall : ∀ (l : List Nat), (∀ i ∈ l, i < len) → textSum (l.map F) ≤ Rows.uptoBulkAll (l.map D) := by
        intro l
        induction l with
        | nil => intro _; exact Nat.zero_le _
        | cons i l ih =>
          intro hl
          have h1 := ih fun j hj => hl j (List.mem_cons_of_mem _ hj)
          have h2 := (hF i (hl i (List.mem_cons_self ..))).2
          unfold textSum at h1 ⊢
          simp only [List.map_cons, List.sum_cons, Rows.uptoBulkAll] at h1 ⊢
          omega
      exact hall _ fun i hi => List.mem_range.1 hi
    refine ⟨some a, len, cap, (List.range len).map F, rfl, ⟨by simp, fun hn => ?_⟩, hl, hm, by simp only [Rows.uptoBulk]; omega⟩
    obtain ⟨b, o, sp⟩ := a
    have h0 := (hF 0 hn).1
    have hsp : sp = none := by
      simpa [Addr.add] using World.cell?_spot h0
    subst hsp
    have hlt : b < W.heap.size := by
      rw [cell_add] at h0
      exact World.block_lt_of_cell? W _ h0
    refine ⟨b, o, rfl, hlt, fun j hj => ?_⟩
    have h2 := (hF j hj).1
    rw [cell_add] at h2
    rw [h2, List.getElem?_map, List.getElem?_map, List.getElem?_range hj]
    rfl
theorem wf_u8 {x : Int} (h : (Lit.int .u8 x).wf = true) : 0 ≤ x ∧ x ≤ 255 := by
  simpa [Lit.wf, IntKind.min, IntKind.max, IntKind.signed, IntKind.bits] using h
theorem u8_cells : Tryd.prog.cellsOf 5 = 1 := by kernel_rfl
/-- a slice of bytes -/
theorem openU8 {H : Type} {enc : TypeId × Value → H} {W : World} {base : Nat} {spare : Nat → Bool} {held : Bool} {fuel : Nat} {cs : List Value} {x : DataW H × List MemPlace} {t : TypeId} (ht : Tryd.prog.underlying t = some (.slice 5))
    (h : DataW.trod enc Tryd.prog W base spare held fuel t cs = some x) :
    ∃ (a : Option Addr) (n c : Nat) (L : List UInt8), cs = [.slice a n c] ∧ Reads W a n (L.map B8) ∧ n ≤ c ∧ c ≤ maxLen ∧ L.length ≤ Rows.uptoBulk x.1 := by
  rcases open_slice1 ht u8_cells h with ⟨rfl, rfl⟩ | ⟨a, len, cap, m, nf, V, D, Pl, rfl, hb, hl, hm, hmm, rfl, hi⟩
  · exact ⟨none, 0, 0, [], rfl, Reads.nil _ _, Nat.le_refl _, Nat.zero_le _, Nat.zero_le _⟩
  · have hlm : len ≤ m := by rw [hmm]; split <;> omega
    have hone : ∀ i, i < len → ∃ s : UInt8, W.cell? (a.add i) = some (B8 s) ∧ 1 ≤ Rows.uptoBulk (D i) := fun i hil => by
      obtain ⟨hc, ht'⟩ := hi i (by omega)
      obtain ⟨k, e1, y1, w1⟩ := DataW.trod_int Tryd.underlying5 ht'
      obtain ⟨hD, _⟩ := Prod.mk.inj y1
      have hk := wf_u8 w1
      refine ⟨UInt8.ofNat k.toNat, ?_, ?_⟩
      · rw [hc, (List.cons.inj e1).1]
        have : (((UInt8.ofNat k.toNat).toNat : Nat) : Int) = k := by rw [UInt8.toNat_ofNat']; omega
        rw [B8, this]
      · rw [hD]
        simp [Rows.uptoBulk]
    let F : Nat → UInt8 := fun i => if hil : i < len then Classical.choose (hone i hil) else 0
    have hF : ∀ i, i < len → W.cell? (a.add i) = some (B8 (F i)) ∧ 1 ≤ Rows.uptoBulk (D i) := fun i hil => by
      have h1 := Classical.choose_spec (hone i hil)
      simp only [F, dif_pos hil]
      exact h1
    have hsum : ((List.range len).map F).length ≤ Rows.uptoBulkAll ((List.range len).map D) := by
      have hall : ∀ (l : List Nat), (∀ i ∈ l, i < len) → (l.map F).length ≤ Rows.uptoBulkAll (l.map D) := by
        intro l
        induction l with
        | nil => intro _; exact Nat.zero_le _
        | cons i l ih =>
          intro hl
          have h1 := ih fun j hj => hl j (List.mem_cons_of_mem _ hj)
          have h2 := (hF i (hl i (List.mem_cons_self ..))).2
          simp only [List.map_cons, List.length_cons, Rows.uptoBulkAll] at h1 ⊢
          omega
      exact hall _ fun i hi => List.mem_range.1 hi
    refine ⟨some a, len, cap, (List.range len).map F, rfl, ⟨by simp, fun hn => ?_⟩, hl, hm, by simp only [Rows.uptoBulk]; omega⟩
    obtain ⟨b, o, sp⟩ := a
    have h0 := (hF 0 hn).1
    have hsp : sp = none := by
      simpa [Addr.add] using World.cell?_spot h0
    subst hsp
    have hlt : b < W.heap.size := by
      rw [cell_add] at h0
      exact World.block_lt_of_cell? W _ h0
    refine ⟨b, o, rfl, hlt, fun j hj => ?_⟩
    have h2 := (hF j hj).1
    rw [cell_add] at h2
    rw [h2, List.getElem?_map, List.getElem?_map, List.getElem?_range hj]
    rfl
set_option maxRecDepth 100000 in
/-- one hunk out of its cells -/
theorem open_hunk {H : Type} {enc : TypeId × Value → H} {W : World} {base : Nat} {spare : Nat → Bool} {held : Bool} {fuel : Nat} {cs : List Value} {d : DataW H} {ps : List MemPlace}
    (h : DataW.trod enc Tryd.prog W base spare held fuel 80 cs = some (d, ps)) :
    ∃ (x : HkI) (ad : Option Addr) (c : Nat), cs = [.int .i64 x.1, .slice ad x.2.length c] ∧ ReadsS W ad x.2.length x.2 ∧ x.2.length ≤ c ∧ c ≤ maxLen ∧ textSum x.2 + 1 ≤ Rows.uptoBulk d := by
  obtain ⟨hf, uf, fsz, s0, s1⟩ := hunk_fields
  obtain ⟨ys, n, _, hx, hcl, hyl, hfd⟩ := DataW.trod_struct uf h
  rw [hunk_cells] at hcl
  rw [fsz] at hyl
  obtain ⟨f0, g0, o0, k0, u0⟩ := field_of s0
  obtain ⟨f1, g1, o1, k1, u1⟩ := field_of s1
  have t0 := hfd 0 f0 g0
  have t1 := hfd 1 f1 g1
  rw [o0, k0, drop_one (by omega), List.getElem?_eq_getElem (by omega)] at t0
  rw [o1, k1, drop_one (by omega), List.getElem?_eq_getElem (by omega)] at t1
  obtain ⟨n0, e0, y0, w0⟩ := DataW.trod_int u0 t0
  obtain ⟨ad, m, c, L, e1, hr, hmc, hcm, hsum⟩ := openTexts u1 t1
  have hml : L.length = m := hr.len
  subst hml
  refine ⟨(n0, L), ad, c, ?_, hr, hmc, hcm, ?_⟩
  · match cs, hcl, e0, e1 with
    | [c0, c1], _, e0, e1 =>
      obtain rfl : c0 = .int .i64 n0 := (List.cons.inj e0).1
      obtain rfl : c1 = .slice ad L.length c := (List.cons.inj e1).1
      rfl
  · obtain ⟨rfl, _⟩ := Prod.mk.inj hx
    have hm : (ys[1]'(by omega)).1 ∈ ys.map (·.1) := List.mem_map.2 ⟨ys[1]'(by omega), List.getElem_mem _, rfl⟩
    have h1 := bulk_mem hm
    simp only [Rows.uptoBulk] at h1 ⊢
    have h2 : textSum L ≤ Rows.uptoBulk (ys[1]'(by omega)).1 := hsum
    show textSum L + 1 ≤ _
    omega
/-- a slice of hunks -/
theorem openHunks {H : Type} {enc : TypeId × Value → H} {W : World} {base : Nat} {spare : Nat → Bool} {held : Bool} {fuel : Nat} {cs : List Value} {x : DataW H × List MemPlace} {t : TypeId} (ht : Tryd.prog.underlying t = some (.slice 80))
    (h : DataW.trod enc Tryd.prog W base spare held fuel t cs = some x) :
    ∃ (a : Option Addr) (n c : Nat) (X : List HkI), cs = [.slice a n c] ∧ ReadsK W a n X ∧ n ≤ c ∧ c ≤ maxLen ∧ hunkSum X ≤ Rows.uptoBulk x.1 := by
  rcases open_slice ht h with ⟨rfl, rfl⟩ | ⟨a, len, cap, m, nf, D, Pl, rfl, hb, hl, hm, hmm, rfl, hi⟩
  · exact ⟨none, 0, 0, [], rfl, ReadsK.nil _ _, Nat.le_refl _, Nat.zero_le _, Nat.zero_le _⟩
  · have hlm : len ≤ m := by rw [hmm]; split <;> omega
    have hone : ∀ i, i < len → ∃ y : HkI, (∃ ad c, W.cell? (a.add (i * 2)) = some (.int .i64 y.1) ∧ W.cell? (a.add (i * 2 + 1)) = some (.slice ad y.2.length c) ∧ ReadsS W ad y.2.length y.2 ∧ y.2.length ≤ c ∧ c ≤ maxLen) ∧ textSum y.2 + 1 ≤ Rows.uptoBulk (D i) := fun i hil => by
      obtain ⟨cs', hc, ht'⟩ := hi i (by omega)
      obtain ⟨y, ad, c, hy, hr, h1, h2, h3⟩ := open_hunk ht'
      obtain ⟨_, hcl, hat⟩ := World.cells?_some hc
      rw [hunk_cells] at hcl hat
      have e : ∀ k, (a.add (i * 2)).add k = a.add (i * 2 + k) := fun k => by
        unfold Addr.add; split <;> split <;> simp_all <;> omega
      have c0 := hat 0 (by omega)
      have c1 := hat 1 (by omega)
      rw [hy, e] at c0 c1
      exact ⟨y, ⟨ad, c, c0, c1, hr, h1, h2⟩, h3⟩
    let F : Nat → HkI := fun i => if hil : i < len then Classical.choose (hone i hil) else (0, [])
    have hF : ∀ i, i < len → (∃ ad c, W.cell? (a.add (i * 2)) = some (.int .i64 (F i).1) ∧ W.cell? (a.add (i * 2 + 1)) = some (.slice ad (F i).2.length c) ∧ ReadsS W ad (F i).2.length (F i).2 ∧ (F i).2.length ≤ c ∧ c ≤ maxLen) ∧ textSum (F i).2 + 1 ≤ Rows.uptoBulk (D i) := fun i hil => by
      have h1 := Classical.choose_spec (hone i hil)
      simp only [F, dif_pos hil]
      exact h1
    have hsum : hunkSum ((List.range len).map F) ≤ Rows.uptoBulkAll ((List.range len).map D) := by
      have hall : ∀ (l : List Nat), (∀ i ∈ l, i < len) → hunkSum (l.map F) ≤ Rows.uptoBulkAll (l.map D) := by
        intro l
        induction l with
        | nil => intro _; exact Nat.zero_le _
        | cons i l ih =>
          intro hl
          have h1 := ih fun j hj => hl j (List.mem_cons_of_mem _ hj)
          have h2 := (hF i (hl i (List.mem_cons_self ..))).2
          unfold hunkSum at h1 ⊢
          simp only [List.map_cons, List.sum_cons, Rows.uptoBulkAll] at h1 ⊢
          omega
      exact hall _ fun i hi => List.mem_range.1 hi
    refine ⟨some a, len, cap, (List.range len).map F, rfl, ⟨by simp, fun hn => ?_⟩, hl, hm, by simp only [Rows.uptoBulk]; omega⟩
    obtain ⟨b, o, sp⟩ := a
    obtain ⟨ad0, c0, h0, _⟩ := (hF 0 hn).1
    have hsp : sp = none := by
      simpa [Addr.add] using World.cell?_spot h0
    subst hsp
    have hlt : b < W.heap.size := by
      rw [cell_add] at h0
      exact World.block_lt_of_cell? W _ h0
    refine ⟨b, o, rfl, hlt, fun i x hx => ?_⟩
    have hil : i < len := by
      have := (List.getElem?_eq_some_iff.1 hx).1
      simpa using this
    rw [List.getElem?_map, List.getElem?_range hil] at hx
    obtain rfl : F i = x := by simpa using hx
    obtain ⟨ad, c, h1, h2, h3⟩ := (hF i hil).1
    rw [cell_add] at h1 h2
    exact ⟨ad, c, h1, by rw [Nat.add_assoc]; exact h2, h3⟩
end Go.Proofs.YtnbihjocdlpplaaDoor
/- DiffPatches: the walk. -/
namespace Go.Proofs.YtnbihjocdlpplaaDoor
set_option linter.unusedVariables false
set_option linter.unusedSimpArgs false
open Go.RowKit
open Go.Lib hiding intOf
theorem sum_fit {X : List HkI} (h : hunkSum X ≤ 1048576) : Fit X := by
  have := hunkSum_fit X
  exact ⟨by omega, by omega, by omega⟩
def backH (X : List HkI) : List Hk := if checkB X = true then backI X else []
theorem opsB_lines (X : List HkI) (h : ∀ x ∈ X, 1 ≤ x.1 ∧ x.1 ≤ 3) : (opsB X).flatMap lineA = sideI 3 X ∧ (opsB X).flatMap lineB = sideI 2 X := by
  induction X with
  | nil => exact ⟨rfl, rfl⟩
  | cons x X ih =>
    obtain ⟨i1, i2⟩ := ih (fun y hy => h y (List.mem_cons_of_mem _ hy))
    have hk := h x (by simp)
    have hrow : ∀ L : List (List UInt8), (L.map (opB x.1)).flatMap lineA = (if x.1 = 1 ∨ x.1 = 3 then L else []) ∧ (L.map (opB x.1)).flatMap lineB = (if x.1 = 1 ∨ x.1 = 2 then L else []) := by
      intro L
      have hk3 : x.1 = 1 ∨ x.1 = 2 ∨ x.1 = 3 := by omega
      induction L with
      | nil => simp
      | cons s L ihL =>
        rw [List.map_cons, List.flatMap_cons, List.flatMap_cons, ihL.1, ihL.2]
        rcases hk3 with e | e | e <;> simp [e, opB, lineA, lineB]
    rw [opsB_cons, List.flatMap_append, List.flatMap_append, i1, i2, (hrow x.2).1, (hrow x.2).2]
    unfold sideI
    rw [List.flatMap_cons, List.flatMap_cons]
    exact ⟨rfl, rfl⟩
theorem back_okB (X : List HkI) : okB 0 ((backI X).map toI) = true := (okB_to _ 0).2 (patchOf_ok _)
theorem back_sides {X : List HkI} (h : okB 0 X = true) : sideI 2 ((backI X).map toI) = sideI 3 X ∧ sideI 3 ((backI X).map toI) = sideI 2 X := by
  have hl := opsB_lines X (fun x hx => (okB_mem X 0 h x hx).1)
  have hp := patchOf_sides (opsB X)
  have e2 := sideI_to 2 (backI X)
  have e3 := sideI_to 3 (backI X)
  exact ⟨(e2.trans hp.1).trans hl.1, (e3.trans hp.2).trans hl.2⟩
theorem check_parts {X : List HkI} (h : checkB X = true) : okB 0 X = true ∧ wholeB (sideI 2 X) = true ∧ wholeB (sideI 3 X) = true := by
  unfold checkB at h
  rw [Bool.and_eq_true, Bool.and_eq_true] at h
  exact ⟨h.1.1, h.1.2, h.2⟩
theorem back_check {X : List HkI} (h : checkB X = true) : checkB ((backI X).map toI) = true := by
  obtain ⟨h1, h2, h3⟩ := check_parts h
  unfold checkB
  rw [back_okB, (back_sides h1).1, (back_sides h1).2, h2, h3]
  rfl
theorem hunks_small {H : List Hk} (h : checkB (H.map toI) = true) : (∀ x ∈ H, (1 ≤ x.1 ∧ x.1 ≤ 3) ∧ x.2 ≠ [] ∧ x.2.length ≤ 1024) ∧ H.length ≤ 1024 := by
  obtain ⟨h1, _, _⟩ := check_parts h
  have hm := okB_mem _ 0 h1
  have hl := check_lines h
  have h3 := len_lines _ (fun x hx => (hm x hx).2)
  rw [List.length_map] at h3
  refine ⟨fun x hx => ?_, by omega⟩
  have q1 := hm (toI x) (List.mem_map.2 ⟨x, hx, rfl⟩)
  have q2 := linesK_mem (List.mem_map.2 ⟨x, hx, rfl⟩ : toI x ∈ H.map toI)
  have e1 : (toI x).1 = (x.1 : Int) := rfl
  have e2 : (toI x).2 = x.2 := rfl
  rw [e1, e2] at q1
  rw [e2] at q2
  exact ⟨⟨by omega, by omega⟩, q1.2, by omega⟩
theorem backH_ok (X : List HkI) : (∀ x ∈ backH X, (1 ≤ x.1 ∧ x.1 ≤ 3) ∧ x.2 ≠ [] ∧ x.2.length ≤ 1024) ∧ (backH X).length ≤ 1024 := by
  unfold backH
  by_cases h : checkB X = true
  · rw [if_pos h]
    exact hunks_small (back_check h)
  · rw [if_neg h]
    exact ⟨fun x hx => (by cases hx), Nat.zero_le _⟩
theorem back_own {w w' : World} {X : List HkI} {e : Ending} (h : BackP w X e w') : ∃ v B, e = .returned (.tuple #[v, .int .i64 (errP (checkB X))]) ∧ PatchAt B w' v (backH X) ∧ w.heap.size ≤ B ∧ B ≤ w'.heap.size ∧ Below w.heap.size w w' := by
  rcases h with ⟨h, he, hb⟩ | ⟨h, v, B, he, hP, h1, h2, hb⟩
  · refine ⟨.slice none 0 0, w.heap.size, by rw [he, h]; rfl, ?_, Nat.le_refl _, hb.size, hb⟩
    unfold backH
    rw [h]
    exact ⟨none, 0, [], rfl, SW.start _ _ _ (fun p hp => by cases hp), fun x hx => by cases hx⟩
  · refine ⟨v, B, by rw [he, h]; rfl, ?_, h1, h2, hb⟩
    unfold backH
    rw [if_pos h]
    exact hP
theorem back_read {w w' : World} {X : List HkI} {e : Ending} (h : BackQ w X e w') : ∃ a c, e = .returned (.tuple #[.slice a (backH X).length c, .int .i64 (errP (checkB X))]) ∧ ReadsK w' a (backH X).length ((backH X).map toI) ∧ Below w.heap.size w w' := by
  rcases h with ⟨h, he, hb⟩ | ⟨h, a, c, he, hr, hb⟩
  · refine ⟨none, 0, by rw [he]; unfold backH; rw [h]; rfl, ?_, hb⟩
    unfold backH
    rw [h]
    exact ReadsK.nil _ _
  · refine ⟨a, c, by rw [he]; unfold backH; rw [if_pos h, h]; rfl, ?_, hb⟩
    unfold backH
    rw [if_pos h]
    exact hr
theorem apply_parts (s : List UInt8) (X : List HkI) : ∃ T E, applyE s X = .returned (.tuple #[.string (bstr T), .int .i64 E]) := by
  unfold applyE
  split
  · exact ⟨_, _, rfl⟩
  · exact ⟨_, _, rfl⟩
set_option maxHeartbeats 8000000 in
set_option maxRecDepth 100000 in
theorem diffPatches_walk (w : World) (a : Option Addr) (n c : Nat) (X : List HkI) (hX : ReadsK w a n X) (hnc : n ≤ c) (hcm : c ≤ maxLen) (hs : hunkSum X ≤ 1048576) (s : List UInt8) (hsl : s.length ≤ 1048576) (hT : Tabs w) :
    Calls Tryd.prog 5 #[.slice a n c, .string (bstr s)] w fun e w' => e = .returned (.bool true) ∧ Below w.heap.size w w' := by
  have HF := Lib.hid (sum_fit hs)
  have HT := Lib.hid hT
  have HX := Lib.hid hX
  have hok := backH_ok X
  have hn : n ≤ 1048576 := by rw [← hX.len]; have := hunkSum_fit X; omega
  obtain ⟨cd, hcd⟩ : ∃ cd, cd = errP (checkB X) := ⟨_, rfl⟩
  obtain ⟨ds, hds⟩ : ∃ ds : Int, ds = (distI X : Int) := ⟨_, rfl⟩
  obtain ⟨T, E, hTE⟩ := apply_parts s X
  obtain ⟨H, hH⟩ : ∃ H, H = backH X := ⟨_, rfl⟩
  have HS := Lib.hid (spareC w a n c X hX HF.out)
  have HCK := Lib.hid (fun W a c (hR : ReadsK W a n X) hW => checkC W a n c X hR HF.out hW)
  have HCR := Lib.hid (fun W a c (hR : ReadsK W a n X) => checkR W a n c X hR HF.out)
  have HDK := Lib.hid (fun W a c (hR : ReadsK W a n X) => distC W a n c X hR HF.out)
  have HDR := Lib.hid (fun W a c (hR : ReadsK W a n X) => distR W a n c X hR HF.out)
  have HAK := Lib.hid (fun W a c (hR : ReadsK W a n X) hW => applyC W s a n c X hR HF.out hW)
  have HAR := Lib.hid (fun W a c (hR : ReadsK W a n X) => applyR W s a n c X hR HF.out)
  have HBK := Lib.hid (fun W a c (hR : ReadsK W a n X) hW => (backC W a n c X hR HF.out hW).mono (fun e w' h => back_own h))
  have HBR := Lib.hid (fun W a c (hR : ReadsK W a n X) => (backR W a n c X hR HF.out).mono (fun e w' h => back_read h))
  rw [← hcd] at HCK HCR HBK HBR
  rw [← hds] at HDK HDR
  rw [hTE] at HAK HAR
  rw [← hH] at HBK HBR hok
  have HOK := Lib.hid hok
  have hHl := hok.2
  have HLI := Lib.hid (lenI (fun x hx => (HOK.out.1 x hx).2.2))
  have b1 : (cd != cd) = false := by simp
  have b2 : (ds != ds) = false := by simp
  have b3 : (T != T) = false := by simp
  have b3' : (T == T) = true := by simp
  have b4 : (E != E) = false := by simp
  have b5 : (cd == cd) = true := by simp
  clear hT hX hok hcd hds hTE hH hs hsl
  go_enter Tryd.func5, Tryd.ntmps5
  go_upto_region 2 with (go_at_call 18; refine (HS.out).mono ?_; rintro e w1 ⟨a1, c1, rfl, hS1, hb1⟩; have HS1 := Lib.hid hS1; have HB1 := Lib.hid hb1; clear hS1 hb1)
  have hk : ∀ W, Below w1.heap.size w1 W → SpareK W a1 n c1 X ∧ ReadsK W a1 n X ∧ ReadsK W a n X ∧ Tabs W ∧ Below w.heap.size w W := fun W hW => by
    have h1 := HS1.out.keep hW
    have h2 : Below w.heap.size w W := HB1.out.trans (hW.mono HB1.out.size)
    exact ⟨h1, h1.reads, HX.out.keep h2 (Nat.le_refl _), HT.out.next h2, h2⟩
  have HK := Lib.hid hk
  have HZ := Lib.hid (Below.refl w1.heap.size w1)
  clear hk
  go_upto_region 4 with (first
    | (go_at_call 19; refine (HCK.out w1 a1 c1 (HK.out w1 HZ.out).2.1 (HK.out w1 HZ.out).2.2.2.1).mono ?_; rintro e w2 ⟨rfl, hb⟩; have HB2 := Lib.hid hb; clear hb)
    | (go_at_call 20; refine (HCR.out w2 a c (HK.out w2 HB2.out).2.2.1).mono ?_; rintro e w3 ⟨rfl, hb⟩; have HB3 := Lib.hid (below_next HB2.out (Nat.le_refl _) hb); clear hb)
    | (go_at_call 17; refine (HDK.out w3 a1 c1 (HK.out w3 HB3.out).2.1).mono ?_; rintro e w4 ⟨rfl, hb⟩; have HB4 := Lib.hid (below_next HB3.out (Nat.le_refl _) hb); clear hb)
    | (go_at_call 21; refine (HDR.out w4 a c (HK.out w4 HB4.out).2.2.1).mono ?_; rintro e w5 ⟨rfl, hb⟩; have HB5 := Lib.hid (below_next HB4.out (Nat.le_refl _) hb); clear hb))
  go_upto_region 8 with (first
    | (go_at_call 22; refine (HAK.out w5 a1 c1 (HK.out w5 HB5.out).2.1 (HK.out w5 HB5.out).2.2.2.1).mono ?_; rintro e w6 ⟨rfl, hb⟩; have HB6 := Lib.hid (below_next HB5.out (Nat.le_refl _) hb); clear hb)
    | (go_at_call 23; refine (HAR.out w6 a c (HK.out w6 HB6.out).2.2.1).mono ?_; rintro e w7 ⟨rfl, hb⟩; have HB7 := Lib.hid (below_next HB6.out (Nat.le_refl _) hb); clear hb))
  go_upto_region 9 with (go_at_call 24; refine (HBK.out w7 a1 c1 (HK.out w7 HB7.out).2.1 (HK.out w7 HB7.out).2.2.2.1).mono ?_; rintro e w8 ⟨v8, C8, rfl, hP, hL, hz, hb⟩; obtain ⟨a8, rfl, hr⟩ := hP.reads; have HP8 := Lib.hid hP; have HR8 := Lib.hid hr; have HL8 := Lib.hid hL; have HZ8 := Lib.hid hz; have Hb8 := Lib.hid hb; have HB8 := Lib.hid (below_next HB7.out (Nat.le_refl _) hb); clear hP hr hL hz hb)
  go_upto_region 10 with (go_at_call 24; refine (HBK.out w8 a1 c1 (HK.out w8 HB8.out).2.1 (HK.out w8 HB8.out).2.2.2.1).mono ?_; rintro e w9 ⟨v9, C9, rfl, hP, hL, hz, hb⟩; obtain ⟨a9, rfl, hr⟩ := hP.reads; have HP9 := Lib.hid hP; have HR9 := Lib.hid hr; have HL9 := Lib.hid hL; have HZ9 := Lib.hid hz; have Hb9 := Lib.hid hb; have HB9 := Lib.hid (below_next HB8.out (Nat.le_refl _) hb); clear hP hr hL hz hb)
  go_upto_region 11 with (go_at_call 25; refine (HBR.out w9 a c (HK.out w9 HB9.out).2.2.1).mono ?_; rintro e w10 ⟨a10, c10, rfl, hr, hb⟩; have HR10 := Lib.hid hr; have Hb10 := Lib.hid hb; have HB10 := Lib.hid (below_next HB9.out (Nat.le_refl _) hb); clear hr hb)
  have R8 : Hid (ReadsK w10 a8 H.length (H.map toI)) := Lib.hid ((HR8.out.keep Hb9.out (Nat.le_refl _)).keep Hb10.out (Nat.le_refl _))
  have R9 : Hid (ReadsK w10 a9 H.length (H.map toI)) := Lib.hid (HR9.out.keep Hb10.out (Nat.le_refl _))
  have s8 := Hb8.out.size
  have s9 := Hb9.out.size
  have s10 := Hb10.out.size
  have s7 := HB7.out.size
  have s1 := HB1.out.size
  obtain ⟨m, hm⟩ : ∃ m, m = H.length := ⟨_, rfl⟩
  rw [← hm] at R8 R9 HR10 hHl ⊢
  have HM := Lib.hid hm
  clear hm
  go_wp2_with (first
    | (go_at_call_of 12 (Value.slice a8 m m); refine (eqHunks w10 a8 a10 m m c10 _ R8.out HR10.out (by omega) HLI.out).mono ?_; rintro e w11 ⟨rfl, hq⟩; have HQ11 := Lib.hid hq; clear hq)
    | (go_at_call_of 12 (Value.slice a9 m m); refine (eqHunks w11 a9 a10 m m c10 _ (R9.out.quiet HQ11.out) (HR10.out.quiet HQ11.out) (by omega) HLI.out).mono ?_; rintro e w12 ⟨rfl, hq⟩; have HQ12 := Lib.hid (HQ11.out.trans hq); have HB12 := Lib.hid (HB10.out.trans (HQ12.out.below _)); clear hq)
    | (go_at_call 26; refine (keptC _ a1 a n c1 c X (HK.out w12 HB12.out).1 (HK.out w12 HB12.out).2.2.1 HF.out).mono ?_; rintro e w13 ⟨rfl, hq⟩; have HQ13 := Lib.hid (HQ12.out.trans hq); have HB13 := Lib.hid (HB12.out.trans (hq.below _)); clear hq)
    | (go_at_call 13; refine (apartC w8 w13 C8 C9 _ _ H H (HM.out ▸ HP8.out) (Hb9.out.trans ((Hb10.out.trans (HQ13.out.below _)).mono s9)) (HM.out ▸ (HP9.out.keep (Hb10.out.trans ((HQ13.out.below _).mono s10)))) HZ8.out HL9.out (fun x hx => (HOK.out.1 x hx).2.1) (fun x hx => (HOK.out.1 x hx).2.1) (by rw [← HM.out]; omega) (by rw [← HM.out]; omega) (fun x hx => by have := (HOK.out.1 x hx).2.2; omega) (fun x hx => by have := (HOK.out.1 x hx).2.2; omega) (fun x hx => by have := (HOK.out.1 x hx).1; omega)).mono ?_; rintro e w14 ⟨rfl, hb⟩; have HB14 : Hid (Below w1.heap.size w1 w14) := Lib.hid (HB13.out.trans (hb.mono (Nat.le_trans s7 HL8.out))); clear hb)
    | (go_at_call 26; refine (keptC w14 a1 a n c1 c X (HK.out w14 HB14.out).1 (HK.out w14 HB14.out).2.2.1 HF.out).mono ?_; rintro e w15 ⟨rfl, hq⟩; have HB15 := Lib.hid (HB14.out.trans (hq.below _)); clear hq)
    | (go_at_call 14; refine (worksC w15 (HK.out w15 HB15.out).2.2.2.1).mono ?_; rintro e w16 ⟨rfl, hb⟩; have HB16 := Lib.hid (below_next HB15.out (Nat.le_refl _) hb); clear hb))
  go_ret
  exact ⟨rfl, (HK.out _ HB16.out).2.2.2.2⟩
end Go.Proofs.YtnbihjocdlpplaaDoor
