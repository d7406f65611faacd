/- Texts joined, one behind the other (LDiffTexts, Laid31, HandD). -/
import Derived.Test.YtnbihjocdlpplaaDoorDp27
import Derived.Test.YtnbihjocdlpplaaDoorRows
import Derived.Lib.LaidU8
import Derived.LaidSub
import Derived.LaidHandle
import Derived.Lay
import Derived.LaidMore
/- DiffTexts: the walk. -/
namespace Go.Proofs.YtnbihjocdlpplaaDoor
set_option linter.unusedVariables false
set_option linter.unusedSimpArgs false
open Go.RowKit
open Go.Lib hiding intOf
theorem print_parts (X : List HkI) : ∃ T E, printE X = .returned (.tuple #[.string (bstr T), .int .i64 E]) := by
  unfold printE
  split
  · exact ⟨_, _, rfl⟩
  · exact ⟨_, _, rfl⟩
theorem parse_bad {s : List UInt8} {p : Nat} (hp : parseOf s = .inl p) {w w' : World} {e : Ending} (h : ParP w s e w') : ∃ g, e = .returned (.tuple #[.slice none 0 0, .iface 58 (.pointer (some ⟨g, 0, none⟩))]) ∧ Row w' g 62 [.int .i64 310, .int .i64 (p : Int)] ∧ Below w.heap.size w w' := by
  rcases h with ⟨q, g, h1, h2, h3, h4⟩ | ⟨H, v, B, h1, _⟩
  · rw [hp] at h1
    cases h1
    exact ⟨g, h2, h3, h4⟩
  · rw [hp] at h1; cases h1
theorem parse_good {s : List UInt8} {H : List Hk} (hp : parseOf s = .inr H) {w w' : World} {e : Ending} (h : ParP w s e w') : ∃ v B, e = .returned (.tuple #[v, .nilIface]) ∧ PatchAt B w' v H ∧ w.heap.size ≤ B ∧ B ≤ w'.heap.size ∧ Below w.heap.size w w' := by
  rcases h with ⟨q, g, h1, h2, h3, h4⟩ | ⟨H', v, B, h1, h2, h3, h4, h5, h6⟩
  · rw [hp] at h1; cases h1
  · rw [hp] at h1
    cases h1
    exact ⟨v, B, h2, h3, h4, h5, h6⟩
theorem parse_badR {s : List UInt8} {p : Nat} (hp : parseOf s = .inl p) {w w' : World} {e : Ending} (h : ParQ w s e w') : e = .returned (.tuple #[.slice none 0 0, .int .i64 (p : Int), .bool false]) ∧ Below w.heap.size w w' := by
  rcases h with ⟨q, h1, h2, h3⟩ | ⟨H, a, c, h1, _⟩
  · rw [hp] at h1
    cases h1
    exact ⟨h2, h3⟩
  · rw [hp] at h1; cases h1
theorem parse_goodR {s : List UInt8} {H : List Hk} (hp : parseOf s = .inr H) {w w' : World} {e : Ending} (h : ParQ w s e w') : ∃ a c, e = .returned (.tuple #[.slice a H.length c, .int .i64 0, .bool true]) ∧ ReadsK w' a H.length (H.map toI) ∧ Below w.heap.size w w' := by
  rcases h with ⟨q, h1, h2, h3⟩ | ⟨H', a, c, h1, h2, h3, h4⟩
  · rw [hp] at h1; cases h1
  · rw [hp] at h1
    cases h1
    exact ⟨a, c, h2, h3, h4⟩
theorem parse_ok {s : List UInt8} {H : List Hk} (hp : parseOf s = .inr H) : checkB (H.map toI) = true := by
  unfold parseOf at hp
  split at hp
  · cases hp
  · split at hp
    · cases hp
      rename_i h
      exact h.1
    · cases hp
set_option maxHeartbeats 8000000 in
set_option maxRecDepth 100000 in
theorem diffTexts_walk (w : World) (a : Option Addr) (n c : Nat) (X : List HkI) (hX : ReadsK w a n X) (hnc : n ≤ c) (hcm : c ≤ maxLen) (hs : hunkSum X ≤ 1048576) (s : List UInt8) (hsl : s.length ≤ 1048576) (hT : Tabs w) (hE : ErrT w) :
    Calls Tryd.prog 9 #[.slice a n c, .string (bstr s)] w fun e w' => e = .returned (.bool true) ∧ Below w.heap.size w w' := by
  have HF := Lib.hid (sum_fit hs)
  have HT := Lib.hid hT
  have HE := Lib.hid hE
  have HX := Lib.hid hX
  have hn : n ≤ 1048576 := by rw [← hX.len]; have := hunkSum_fit X; omega
  obtain ⟨T, E, hTE⟩ := print_parts X
  have HS := Lib.hid (spareC w a n c X hX HF.out)
  have HPK := Lib.hid (fun W a c (hR : ReadsK W a n X) hW => printC W a n c X hR HF.out hW)
  have HPR := Lib.hid (fun W a c (hR : ReadsK W a n X) => printR W a n c X hR HF.out)
  rw [hTE] at HPK HPR
  have HQC := Lib.hid (fun W (hW : Tabs W) => parseC W s hsl hW)
  have HQR := Lib.hid (fun W => parseR W s hsl)
  have b3 : (T != T) = false := by simp
  have b3' : (T == T) = true := by simp
  have b4 : (E != E) = false := by simp
  clear hT hE hX hTE hs hsl
  go_enter Tryd.func9, Tryd.ntmps9
  go_upto_region 2 with (go_at_call 18; refine (HS.out).mono ?_; rintro e w1 ⟨a1, c1, rfl, hS1, hb1⟩; have HS1 := Lib.hid hS1; have HB1 := Lib.hid hb1; clear hS1 hb1)
  have hk : ∀ W, Below w1.heap.size w1 W → SpareK W a1 n c1 X ∧ ReadsK W a1 n X ∧ ReadsK W a n X ∧ Tabs W ∧ Below w.heap.size w W ∧ ErrT W := fun W hW => by
    have h1 := HS1.out.keep hW
    have h2 : Below w.heap.size w W := HB1.out.trans (hW.mono HB1.out.size)
    exact ⟨h1, h1.reads, HX.out.keep h2 (Nat.le_refl _), HT.out.next h2, h2, HE.out.next h2⟩
  have HK := Lib.hid hk
  have HZ := Lib.hid (Below.refl w1.heap.size w1)
  clear hk
  go_upto_region 3 with (go_at_call 33; refine (HPK.out w1 a1 c1 (HK.out w1 HZ.out).2.1 (HK.out w1 HZ.out).2.2.2.1).mono ?_; rintro e w2 ⟨rfl, hb⟩; have HB2 := Lib.hid hb; clear hb)
  go_upto_region 4 with (go_at_call 35; refine (HPR.out w2 a c (HK.out w2 HB2.out).2.2.1).mono ?_; rintro e w3 ⟨rfl, hb⟩; have HB3 := Lib.hid (below_next HB2.out (Nat.le_refl _) hb); clear hb)
  go_upto_region 6 with (go_at_call 26; refine (keptC _ a1 a n c1 c X (HK.out w3 HB3.out).1 (HK.out w3 HB3.out).2.2.1 HF.out).mono ?_; rintro e w7 ⟨rfl, hq⟩; have HB7 := Lib.hid (HB3.out.trans (hq.below _)); clear hq)
  have s7 := HB7.out.size
  cases hpo : parseOf s with
  | inl p =>
    have HPC := Lib.hid (fun W (hW : Tabs W) => (HQC.out W hW).mono (fun e w' h => parse_bad hpo h))
    have HPD := Lib.hid (fun W => (HQR.out W).mono (fun e w' h => parse_badR hpo h))
    clear HQC HQR hpo
    go_upto_region 7 with (go_at_call 34; refine (HPC.out w7 (HK.out w7 HB7.out).2.2.2.1).mono ?_; rintro e w8 ⟨g8, rfl, hr, hb⟩; have HR8 := Lib.hid hr; have Hb8 := Lib.hid hb; have HB8 := Lib.hid (below_next HB7.out (Nat.le_refl _) hb); clear hr hb)
    go_upto_region 8 with (go_at_call 34; refine (HPC.out w8 (HK.out w8 HB8.out).2.2.2.1).mono ?_; rintro e w9 ⟨g9, rfl, hr, hb⟩; have Hb9 := Lib.hid hb; have HB9 := Lib.hid (below_next HB8.out (Nat.le_refl _) hb); clear hr hb)
    go_upto_region 9 with (go_at_call 36; refine (HPD.out w9).mono ?_; rintro e w10 ⟨rfl, hb⟩; have Hb10 := Lib.hid hb; have HB10 := Lib.hid (below_next HB9.out (Nat.le_refl _) hb); clear hb)
    have hr10 : Row w10 g8 62 [.int .i64 310, .int .i64 (p : Int)] := (HR8.out.keep Hb9.out HR8.out.lt).keep Hb10.out (Nat.lt_of_lt_of_le HR8.out.lt Hb9.out.size)
    have HR10 := Lib.hid hr10
    clear hr10 HR8
    go_upto_region 11 with (first
      | (go_at_call 12; refine (eqHunks w10 none none 0 0 0 [] (ReadsK.nil _ _) (ReadsK.nil _ _) (by omega) (fun x hx => by cases hx)).mono ?_; rintro e w11 ⟨rfl, hq⟩; have HQ11 := Lib.hid hq; clear hq)
      | (go_at_call 12; refine (eqHunks w11 none none 0 0 0 [] (ReadsK.nil _ _) (ReadsK.nil _ _) (by omega) (fun x hx => by cases hx)).mono ?_; rintro e w12 ⟨rfl, hq⟩; have HQ12 := Lib.hid (HQ11.out.trans hq); clear hq))
    have HR12 : Hid (Row w12 g8 62 [.int .i64 310, .int .i64 (p : Int)]) := Lib.hid (HR10.out.keep (HQ12.out.below _) HR10.out.lt)
    have HB12 := Lib.hid (HB10.out.trans (HQ12.out.below _))
    have hA := as_fault (w12.alloc (.cells #[.pointer none] 58)) g8 w12.heap.size w12.heap.size 310 (p : Int) (HR12.out.alloc _) (alloc_last _ _) ((HK.out w12 HB12.out).2.2.2.2.2.next ((Below.refl _ w12).alloc (Nat.le_refl _) _)) (Nat.le_refl _) (by have := HR12.out.lt; omega)
    have HA := Lib.hid hA
    clear hA
    go_upto_region 14 with (go_at_call 37; refine (HA.out).mono ?_; rintro ev w13 ⟨rfl, q1, q2, q3, hb13, hk13⟩; have HB13 := Lib.hid (below_next HB12.out (Nat.le_refl _) (((Below.refl _ w12).alloc (Nat.le_refl _) _).trans hb13)); clear hb13 hk13)
    clear q1 q2 q3
    have s13 := HB13.out.size
    have hnil : ∀ B W, PatchAt B W (.slice none 0 0) [] := fun B W => ⟨none, 0, [], rfl, SW.start _ _ _ (fun p hp => by cases hp), fun x hx => by cases hx⟩
    have HNIL := Lib.hid hnil
    clear hnil
    go_wp2_with (first
      | (go_at_call 13; refine (apartC w13 w13 w13.heap.size w13.heap.size (.slice none 0 0) (.slice none 0 0) [] [] (HNIL.out _ _) (Below.refl _ _) (HNIL.out _ _) (Nat.le_refl _) (Nat.le_refl _) (fun x hx => by cases hx) (fun x hx => by cases hx) (by simp) (by simp) (fun x hx => by cases hx) (fun x hx => by cases hx) (fun x hx => by cases hx)).mono ?_; rintro e w14 ⟨rfl, hb⟩; have HB14 : Hid (Below w1.heap.size w1 w14) := Lib.hid (below_next HB13.out (Nat.le_refl _) hb); clear hb)
      | (go_at_call 14; refine (worksC w14 (HK.out w14 HB14.out).2.2.2.1).mono ?_; rintro e w16 ⟨rfl, hb⟩; have HB16 := Lib.hid (below_next HB14.out (Nat.le_refl _) hb); clear hb))
    go_ret
    exact ⟨rfl, (HK.out _ HB16.out).2.2.2.2.1⟩
  | inr H =>
    have HPC := Lib.hid (fun W (hW : Tabs W) => (HQC.out W hW).mono (fun e w' h => parse_good hpo h))
    have HPD := Lib.hid (fun W => (HQR.out W).mono (fun e w' h => parse_goodR hpo h))
    have hok := hunks_small (parse_ok hpo)
    have HOK := Lib.hid hok
    have hHl := hok.2
    have HLI := Lib.hid (lenI (fun x hx => (HOK.out.1 x hx).2.2))
    clear HQC HQR hpo hok
    go_upto_region 7 with (go_at_call 34; refine (HPC.out w7 (HK.out w7 HB7.out).2.2.2.1).mono ?_; rintro e w8 ⟨v8, C8, rfl, hP, hL, hz, hb⟩; obtain ⟨a8, rfl, hr⟩ := hP.reads; have HP8 := Lib.hid hP; have HR8 := Lib.hid hr; have HL8 := Lib.hid hL; have HZ8 := Lib.hid hz; have Hb8 := Lib.hid hb; have HB8 := Lib.hid (below_next HB7.out (Nat.le_refl _) hb); clear hP hr hL hz hb)
    go_upto_region 8 with (go_at_call 34; refine (HPC.out w8 (HK.out w8 HB8.out).2.2.2.1).mono ?_; rintro e w9 ⟨v9, C9, rfl, hP, hL, hz, hb⟩; obtain ⟨a9, rfl, hr⟩ := hP.reads; have HP9 := Lib.hid hP; have HR9 := Lib.hid hr; have HL9 := Lib.hid hL; have HZ9 := Lib.hid hz; have Hb9 := Lib.hid hb; have HB9 := Lib.hid (below_next HB8.out (Nat.le_refl _) hb); clear hP hr hL hz hb)
    go_upto_region 9 with (go_at_call 36; refine (HPD.out w9).mono ?_; rintro e w10 ⟨a10, c10, rfl, hr, hb⟩; have HR10 := Lib.hid hr; have Hb10 := Lib.hid hb; have HB10 := Lib.hid (below_next HB9.out (Nat.le_refl _) hb); clear hr hb)
    have R8 : Hid (ReadsK w10 a8 H.length (H.map toI)) := Lib.hid ((HR8.out.keep Hb9.out (Nat.le_refl _)).keep Hb10.out (Nat.le_refl _))
    have R9 : Hid (ReadsK w10 a9 H.length (H.map toI)) := Lib.hid (HR9.out.keep Hb10.out (Nat.le_refl _))
    have s8 := Hb8.out.size
    have s9 := Hb9.out.size
    have s10 := Hb10.out.size
    obtain ⟨m, hm⟩ : ∃ m, m = H.length := ⟨_, rfl⟩
    rw [← hm] at R8 R9 HR10 hHl ⊢
    have HM := Lib.hid hm
    clear hm
    go_wp2_with (first
      | (go_at_call_of 12 (Value.slice a8 m m); refine (eqHunks w10 a8 a10 m m c10 _ R8.out HR10.out (by omega) HLI.out).mono ?_; rintro e w11 ⟨rfl, hq⟩; have HQ11 := Lib.hid hq; clear hq)
      | (go_at_call_of 12 (Value.slice a9 m m); refine (eqHunks w11 a9 a10 m m c10 _ (R9.out.quiet HQ11.out) (HR10.out.quiet HQ11.out) (by omega) HLI.out).mono ?_; rintro e w12 ⟨rfl, hq⟩; have HQ12 := Lib.hid (HQ11.out.trans hq); have HB12 := Lib.hid (HB10.out.trans (HQ12.out.below _)); have Hb12 : Hid (Below w9.heap.size w9 w12) := Lib.hid (Hb10.out.trans ((HQ12.out.below _).mono s10)); clear hq)
      | (go_at_call 13; refine (apartC w8 (w12.alloc (.cells #[.pointer none] 58)) C8 C9 _ _ H H (HM.out ▸ HP8.out) ((Hb9.out.trans (Hb12.out.mono s9)).alloc (Nat.le_trans s9 Hb12.out.size) _) (HM.out ▸ (HP9.out.keep (Hb12.out.alloc Hb12.out.size _))) HZ8.out HL9.out (fun x hx => (HOK.out.1 x hx).2.1) (fun x hx => (HOK.out.1 x hx).2.1) (by rw [← HM.out]; omega) (by rw [← HM.out]; omega) (fun x hx => by have := (HOK.out.1 x hx).2.2; omega) (fun x hx => by have := (HOK.out.1 x hx).2.2; omega) (fun x hx => by have := (HOK.out.1 x hx).1; omega)).mono ?_; rintro e w14 ⟨rfl, hb⟩; have HB14 : Hid (Below w1.heap.size w1 w14) := Lib.hid ((HB12.out.alloc HB12.out.size _).trans (hb.mono (Nat.le_trans s7 HL8.out))); clear hb)
      | (go_at_call 14; refine (worksC w14 (HK.out w14 HB14.out).2.2.2.1).mono ?_; rintro e w16 ⟨rfl, hb⟩; have HB16 := Lib.hid (below_next HB14.out (Nat.le_refl _) hb); clear hb))
    go_ret
    exact ⟨rfl, (HK.out _ HB16.out).2.2.2.2.1⟩
end Go.Proofs.YtnbihjocdlpplaaDoor
/- What the row's list gives: the tables in the world. -/
namespace Go.Proofs.YtnbihjocdlpplaaDoor
set_option linter.unusedVariables false
set_option linter.unusedSimpArgs false
open Go.Lib Go.RowKit
theorem tab_cells {w : World} {n : String} {k : IntKind} {zs : List Int} {d : DataW Unit} (hd0 : d = tabData k zs) (h : VarReads Tryd.prog w n d) {g : Nat} {t e : TypeId} {m : Nat} (hg : Tryd.prog.globalNamed n = some g) (hty : (Tryd.prog.globals[g]?).map (·.type) = some t)
    (ht : Tryd.prog.underlying t = some (.array m e)) (he : Tryd.prog.underlying e = some (.int k)) (hce : Tryd.prog.cellsOf e = 1) (hct : Tryd.prog.cellsOf t = m) : TabIs Tryd.prog w n k zs := by
  subst hd0
  obtain ⟨g', t', cs, fuel, p, hg', ht', hvar, hd⟩ := h
  obtain rfl := Option.some.inj (hg.symm.trans hg')
  obtain rfl := Option.some.inj (hty.symm.trans ht')
  unfold TabIs
  rw [hvar, ← cells_of_tab ht he hce hct hd]
theorem first_data : Rows.laid_unicode_utf8_first = tabData .u8 firstTab := by kernel_rfl
theorem accept_data : (Rows.laid_unicode_utf8_acceptRanges : DataW Unit) = acceptData := by kernel_rfl
theorem tabs_of {l : List (String × DataW Unit)} {w : World} (h : laidMet Tryd.prog l w) (m1 : ("unicode/utf8.first", Rows.laid_unicode_utf8_first) ∈ l) (m2 : ("unicode/utf8.acceptRanges", Rows.laid_unicode_utf8_acceptRanges) ∈ l) : Tabs w := by
  have t1 : TabIs Tryd.prog w "unicode/utf8.first" .u8 firstTab := tab_cells first_data (laidMet.reads h m1) (g := 2) (t := 154) (e := 5) (by kernel_rfl) (by kernel_rfl) Tryd.underlying154 Tryd.underlying5 (by kernel_rfl) (by kernel_rfl)
  have key : ∀ i, i < 16 → w.cell? ⟨3, 2 * i, none⟩ = some (.int .u8 (accLo i : Int)) ∧ w.cell? ⟨3, 2 * i + 1, none⟩ = some (.int .u8 (accHi i : Int)) := fun i hi => by
    have h4 := laidMet.reads h m2
    rw [accept_data] at h4
    obtain ⟨g, t, cs, fuel, p, hg, hty, hvar, hd⟩ := h4
    obtain rfl := Option.some.inj ((show Tryd.prog.globalNamed "unicode/utf8.acceptRanges" = some 3 by kernel_rfl).symm.trans hg)
    obtain rfl := Option.some.inj ((show (Tryd.prog.globals[3]?).map (·.type) = some 158 by kernel_rfl).symm.trans hty)
    have c138 : Tryd.prog.cellsOf 157 = 2 := by kernel_rfl
    have c5 : Tryd.prog.cellsOf 5 = 1 := by kernel_rfl
    obtain ⟨fuel', d, q, hdi, he⟩ := array_elem Tryd.underlying158 hd i hi
    simp only [List.getElem?_map, List.getElem?_range hi, Option.map_some, Option.some.injEq] at hdi
    subst hdi
    rw [c138] at he
    have hcs := ints_of_struct Tryd.underlying157 (fun j f hj => by
      match j, hj with
      | 0, hj => simp at hj; subst hj; exact ⟨Tryd.underlying5, rfl, c5⟩
      | 1, hj => simp at hj; subst hj; exact ⟨Tryd.underlying5, rfl, c5⟩
      | j + 2, hj => simp at hj) (by rw [c138]; rfl) he
    have e0 := congrArg (·[0]?) hcs
    have e1 := congrArg (·[1]?) hcs
    simp only [List.getElem?_take, List.getElem?_drop] at e0 e1
    constructor
    · rw [World.var?_cell hg hvar (2 * i), ← Array.getElem?_toList]
      simpa [Nat.mul_comm] using e0
    · rw [World.var?_cell hg hvar (2 * i + 1), ← Array.getElem?_toList]
      simpa [Nat.mul_comm] using e1
  refine ⟨⟨fun c hc => ?_, fun i hi => ?_⟩, ?_⟩
  · have := t1.cell (g := 2) (by kernel_rfl) c (by simpa [firstTab] using hc)
    rw [this]
    simp [firstTab, List.getD, hc]
  · exact key i hi
  · have := World.block_lt_of_cell? w _ (key 0 (by decide)).1
    exact this
end Go.Proofs.YtnbihjocdlpplaaDoor
/- What the row's list gives where it holds a type's handle: the variable that errors.As reads. -/
namespace Go.Proofs.YtnbihjocdlpplaaDoor
set_option linter.unusedVariables false
set_option linter.unusedSimpArgs false
open Go.Lib Go.RowKit
theorem rt7 : (Tryd.prog.cutTypes.find? (·.1 == "internal/reflectlite.rtype")).map (·.2) = some 128 := by kernel_rfl
theorem oneRow7 : ((List.range Tryd.prog.types.size).filter fun t => Tryd.prog.rowNamed t [101, 114, 114, 111, 114]) = [53] := by kernel_rfl
theorem err_of {l : List (String × DataW Unit)} {W : World} (h : laidMetH Tryd.prog l W) (m : (l.filter fun x => x.2.handleName?.isSome) = [("errors.errorType", Rows.laid_errors_errorType)]) : ErrT W := by
  unfold laidMetH at h
  rw [m] at h
  obtain ⟨name, u, ty, e1, e2, e3, e4, e5⟩ := h.2 _ (List.mem_singleton.2 rfl)
  have en : name = [101, 114, 114, 111, 114] := (Option.some.inj e1).symm
  subst en
  obtain rfl := Option.some.inj (rt7.symm.trans e2)
  have hm : ty ∈ (List.range Tryd.prog.types.size).filter fun t => Tryd.prog.rowNamed t [101, 114, 114, 111, 114] := List.mem_filter.2 ⟨List.mem_range.2 e3, e4⟩
  rw [oneRow7] at hm
  obtain rfl := List.mem_singleton.1 hm
  have hh : typeHandle Tryd.prog 53 = .pointer (some ⟨4, 53, none⟩) := by kernel_rfl
  rw [hh] at e5
  have := World.var?_cell (show Tryd.prog.globalNamed "errors.errorType" = some 0 by kernel_rfl) e5 0
  unfold ErrT
  simpa using this
/-- the world in which the variable holds the handle, ahead of the tables -/
noncomputable def hBase (os : Os) : World :=
  { World.holding Tryd.prog os ⟨#[], #[], []⟩ with heap := (World.holding Tryd.prog os ⟨#[], #[], []⟩).heap.modify 0 fun
      | .cells _ t frozen => .cells #[.iface 128 (.agg #[.pointer (some ⟨4, 53, none⟩)])] t frozen
      | o => o }
noncomputable def hWorld (os : Os) (l : List (String × DataW Unit)) : World := (hBase os).layVars Tryd.prog (l.filter fun x => x.2.handleName?.isNone)
theorem hWorld_os (os : Os) (l : List (String × DataW Unit)) : (hWorld os l).os = os := World.layVars_os _ _ _
theorem laidMet_hWorld {os : Os} {l : List (String × DataW Unit)} (args : Array Value)
    (hf : (hBase os).layFits Tryd.prog (l.filter fun x => x.2.handleName?.isNone) [] = true)
    (hi : (hBase os).layIfaces Tryd.prog (l.filter fun x => x.2.handleName?.isNone) (hWorld os l) = true) :
    laidMet Tryd.prog (l.filter fun x => x.2.handleName?.isNone) ((hWorld os l).forCall (fun _ _ => 0) ⟨#[], args, []⟩).memory := by
  unfold hWorld at *
  generalize (l.filter fun x => x.2.handleName?.isNone) = laid at *
  have e1 : (laid.filter fun x => (laid.map (·.1)).contains x.1) = laid := List.filter_eq_self.2 fun x hx => List.contains_iff_mem.2 (List.mem_map.2 ⟨x, hx, rfl⟩)
  have e2 : (laid.filter fun x => !(laid.map (·.1)).contains x.1) = [] := List.filter_eq_nil_iff.2 fun x hx => by rw [List.contains_iff_mem.2 (List.mem_map.2 ⟨x, hx, rfl⟩)]; simp
  have h : laidMet Tryd.prog laid ((hBase os).layVars Tryd.prog laid) := laidMet_layVars (w0 := hBase os) (laid.map (·.1)) [] (by rw [e1]) (by rw [e1]; exact hf) (by rw [e1]; exact hi) (by rw [e2]; exact LaidIn.none)
  exact h.of_heap (by simp [World.memory, World.forCall, Input.heap])
end Go.Proofs.YtnbihjocdlpplaaDoor
