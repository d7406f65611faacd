/- Texts joined, one behind the other (DPrint, DPrintR). -/
import Derived.Test.YtnbihjocdlpplaaDoorDp15
/- A patch's text, by both. -/
namespace Go.Proofs.YtnbihjocdlpplaaDoor
set_option linter.unusedVariables false
set_option linter.unusedSimpArgs false
open Go.RowKit
open Go.Lib hiding intOf
/-- a builder that holds these bytes -/
def IsB (B : Nat) (acc : List UInt8) (w : World) : Prop := Lib.IsBuilderF 92 5 B B (Lib.byteCells acc) w
theorem IsB.below {B : Nat} {acc : List UInt8} {w w' : World} (h : IsB B acc w) (b : Below w.heap.size w w') : IsB B acc w' := by
  have hat : ∀ p, Lib.BuilderAtF 92 5 B B p (Lib.byteCells acc) w → Lib.BuilderAtF 92 5 B B p (Lib.byteCells acc) w' := by
    rintro p ⟨h1, v, h2, h3, h4⟩
    refine ⟨h1, v, (b.block B (Array.getElem?_eq_some_iff.1 h2).1).trans h2, ?_, h4⟩
    refine ⟨h3.1, ?_⟩
    rcases h3.2 with hn | ⟨g, cap, cur, fz, rfl, hb, hgg, rest⟩
    · exact .inl hn
    · exact .inr ⟨g, cap, cur, fz, rfl, hb, (b.block g (Array.getElem?_eq_some_iff.1 hgg).1).trans hgg, rest⟩
  exact h.elim (fun x => .inl (hat _ x)) (fun x => .inr (hat _ x))
theorem isB_fresh (w : World) : IsB w.heap.size [] (w.alloc (.cells #[.pointer none, .slice none 0 0] 92)) := Lib.IsBuilderF.of (Lib.fresh_isBuilder _ _ w)
theorem writeByteC (B : Nat) (acc : List UInt8) (x : UInt8) (w : World) (h : IsB B acc w) (hl : acc.length ≤ 1099511627776) (hB : B ≤ w.heap.size) :
    Calls Tryd.prog 59 #[.pointer (some ⟨B, 0, none⟩), .int .u8 (x.toNat : Int)] w fun e w' => e = .returned .nilIface ∧ IsB B (acc ++ [x]) w' ∧ Below B w w' ∧ Lib.OthersKept 5 (some B) w w' := by
  refine (Tryd.Builder_WriteByte_k B B _ (x.toNat : Int) w h (by rw [Lib.byteCells_length]; omega) hB).mono ?_
  rintro e w' ⟨rfl, h1, b1, b2⟩
  exact ⟨rfl, by unfold IsB; rw [Lib.byteCells_append]; exact Or.inr h1, b1, b2⟩
theorem writeStrC (B : Nat) (acc s : List UInt8) (w : World) (h : IsB B acc w) (hl : acc.length ≤ 1099511627776) (hs : s.length ≤ 1099511627776) (hB : B ≤ w.heap.size) :
    Calls Tryd.prog 60 #[.pointer (some ⟨B, 0, none⟩), .string (bstr s)] w fun e w' => e = .returned (.tuple #[.int .i64 (s.length : Int), .nilIface]) ∧ IsB B (acc ++ s) w' ∧ Below B w w' ∧ Lib.OthersKept 5 (some B) w w' := by
  refine (Tryd.Builder_WriteString_k B B _ (bstr s) w h (by rw [Lib.byteCells_length, bstr_size]; omega) hB).mono ?_
  rintro e w' ⟨rfl, h1, b1, b2⟩
  exact ⟨by rw [bstr_size], by unfold IsB; rw [Lib.byteCells_append]; exact Or.inr h1, b1, b2⟩
theorem stringC (B : Nat) (acc : List UInt8) (w : World) (h : IsB B acc w) (hB : B ≤ w.heap.size) :
    Calls Tryd.prog 62 #[.pointer (some ⟨B, 0, none⟩)] w fun e w' => e = .returned (.string (bstr acc)) ∧ Below B w w' := by
  refine (Tryd.Builder_String_any_k B B acc w h hB).mono ?_
  rintro e w' ⟨rfl, _, b1, _⟩
  exact ⟨rfl, b1⟩
/-- a patch's text -/
def sgn (k : Int) : UInt8 := if k = 1 then 32 else if k = 2 then 45 else 43
def tailP (s : List UInt8) : List UInt8 := if endedL s = true then [] else [10, 92, 10]
def rowP (k : Int) (s : List UInt8) : List UInt8 := sgn k :: (s ++ tailP s)
def printK (X : List HkI) : List UInt8 := X.flatMap fun h => h.2.flatMap (rowP h.1)
def printE (X : List HkI) : Ending := if checkB X = true then .returned (.tuple #[.string (bstr (printK X)), .int .i64 0]) else .returned (.tuple #[.string (bstr []), .int .i64 310])
theorem rowP_len (k : Int) (s : List UInt8) : (rowP k s).length ≤ s.length + 4 := by
  unfold rowP tailP
  split <;> simp
theorem rows_len (k : Int) (L : List (List UInt8)) : (L.flatMap (rowP k)).length ≤ L.flatten.length + 4 * L.length := by
  induction L with
  | nil => simp
  | cons s L ih =>
    have := rowP_len k s
    rw [List.flatMap_cons, List.length_append, List.flatten_cons, List.length_append, List.length_cons]
    omega
theorem printK_len (X : List HkI) : (printK X).length ≤ bytesK X + 4 * linesK X := by
  induction X with
  | nil => exact Nat.le_refl _
  | cons x X ih =>
    have := rows_len x.1 x.2
    unfold printK bytesK linesK at *
    rw [List.flatMap_cons, List.length_append, List.map_cons, List.sum_cons, List.map_cons, List.sum_cons]
    omega
theorem printK_drop {X : List HkI} {i : Nat} {x : HkI} (h : X[i]? = some x) : printK (X.drop i) = x.2.flatMap (rowP x.1) ++ printK (X.drop (i + 1)) := by
  rw [drop_consK h]; rfl
theorem rows_drop {L : List (List UInt8)} {j : Nat} {s : List UInt8} {k : Int} (h : L[j]? = some s) : (L.drop j).flatMap (rowP k) = sgn k :: (s ++ (tailP s ++ (L.drop (j + 1)).flatMap (rowP k))) := by
  obtain ⟨h1, h2⟩ := List.getElem?_eq_some_iff.1 h
  rw [List.drop_eq_getElem_cons h1, h2, List.flatMap_cons]
  simp [rowP]
theorem pre_len {a b c : List UInt8} (h : a ++ b = c) : a.length ≤ c.length := by rw [← h, List.length_append]; omega
theorem kept_row {p hb : Nat} {w w' : World} {e : TypeId} {xs : List Value} (h : Lib.OthersKept 5 (some p) w w') (hr : Row w hb e xs) (hne : hb ≠ p) (he : e ≠ 5) : Row w' hb e xs :=
  h hb _ hr (fun e' => hne (Option.some.inj e')) (fun c fz e' => by cases e'; exact he rfl)
set_option maxHeartbeats 16000000 in
set_option maxRecDepth 100000 in
theorem printC (w : World) (a : Option Addr) (n c : Nat) (X : List HkI) (hX : ReadsK w a n X) (hF : Fit X) (hT : Tabs w) :
    Calls Tryd.prog 33 #[.slice a n c] w fun e w' => e = printE X ∧ Below w.heap.size w w' := by
  have HX := Lib.hid hX
  have HN := Lib.hid hX.len
  have hn : n ≤ 16777216 := by rw [← hX.len]; exact hF.1
  have HC := Lib.hid (checkC w a n c X hX hF hT)
  have HBY := Lib.hid hF.2.2
  have HT := Lib.hid hT
  clear hX hF hT
  by_cases hk : checkB X = true
  · have HK : Hid (errP (checkB X) = 0) := Lib.hid (by rw [hk]; rfl)
    rw [HK.out] at HC
    have HCK := Lib.hid hk
    have HPE : Hid (printE X = .returned (.tuple #[.string (bstr (printK X)), .int .i64 0])) := Lib.hid (by unfold printE; rw [if_pos hk])
    have hl := check_lines hk
    have HL := Lib.hid hl
    have hpl : (printK X).length ≤ 67200000 := by have := printK_len X; have := HBY.out; omega
    have HPL := Lib.hid hpl
    clear hk hpl
    go_enter Tryd.func33, Tryd.ntmps33
    go_upto_region 4 with (go_at_call 19; refine (HC.out).mono ?_; rintro e w3 ⟨rfl, hb3⟩; have HB3 := Lib.hid hb3; clear hb3)
    obtain ⟨p, hp⟩ : ∃ p, p = w3.heap.size := ⟨_, rfl⟩
    go_upto_region 5 with (fail)
    rw [← hp]
    obtain ⟨w6, hw6⟩ : ∃ x, x = w3.alloc (Obj.cells #[Value.pointer none, Value.slice none 0 0] 92) := ⟨_, rfl⟩
    rw [← hw6]
    have HW6 : Hid (IsB p [] w6 ∧ Below p w3 w6) := by
      rw [hw6, hp]
      exact Lib.hid ⟨isB_fresh w3, (Below.refl _ w3).alloc (Nat.le_refl _) _⟩
    have hz6 : p ≤ w6.heap.size := by rw [hw6, hp]; simp
    have HE := Lib.hid hp
    have HX3 : Hid (ReadsK w3 a n X) := Lib.hid (HX.out.keep HB3.out (Nat.le_refl _))
    have HT3 : Hid (Tabs w3) := Lib.hid (HT.out.next HB3.out)
    have hp4 : 4 ≤ p := by rw [hp]; exact HT3.out.size
    clear hw6 hp
    go_wp2
    go_loopw [17] (fun ui wr => ∃ (i : Nat) (acc : List UInt8), ui = .int .i64 (i : Int) ∧ i ≤ n ∧ Hid (IsB p acc wr ∧ Below p w3 wr ∧ acc ++ printK (X.drop i) = printK X ∧ p ≤ wr.heap.size)) (fun ui _ => n - (RowKit.intOf ui).toNat)
    case atStart => exact ⟨0, [], rfl, Nat.zero_le _, Lib.hid ⟨HW6.out.1, HW6.out.2, rfl, hz6⟩⟩
    case round =>
      obtain ⟨i, acc, rfl, hi, HR⟩ := hrel
      have hps := HR.out.2.2.2
      by_cases hlt : i < n
      · obtain ⟨b, off, x, ad, m, cm, rfl, hb, hx, hc0, hc1, hrs, hmc, hcm, hm⟩ := HX3.out.at hlt
        rw [← HE.out] at hb
        have hd0 : wr.cell? ⟨b, off + i * 2, none⟩ = some (.int .i64 x.1) := (HR.out.2.1.cell (p := ⟨b, off + i * 2, none⟩) hb).trans hc0
        have hd1 : wr.cell? ⟨b, off + i * 2 + 1, none⟩ = some (.slice ad m cm) := (HR.out.2.1.cell (p := ⟨b, off + i * 2 + 1, none⟩) hb).trans hc1
        have hkx : 1 ≤ x.1 ∧ x.1 ≤ 3 := by
          have h1 := HCK.out
          unfold checkB at h1
          rw [Bool.and_eq_true, Bool.and_eq_true] at h1
          exact (okB_mem X 0 h1.1.1 x (List.mem_of_getElem? hx)).1
        have hml : m ≤ 1024 := by
          have h1 := linesK_mem (List.mem_of_getElem? hx)
          omega
        have hxb : ∀ s ∈ x.2, s.length ≤ 67108864 := fun s hs => by
          have h1 := flat_le2 hs
          have h2 := bytesK_mem (List.mem_of_getElem? hx)
          have h3 := HBY.out
          omega
        have hfold := HR.out.2.2.1
        rw [printK_drop hx] at hfold
        obtain ⟨kd, hkd⟩ : ∃ kd, kd = x.1 := ⟨_, rfl⟩
        rw [← hkd] at hd0 hkx hfold
        have HFO := Lib.hid hfold
        have HXB := Lib.hid hxb
        have HRS := Lib.hid hrs
        have HM := Lib.hid hm
        have HKX := Lib.hid hkx
        have hit : (i : Int) < (n : Int) := by omega
        clear hx hrs hm hmc hc0 hc1 hkd hfold hxb hkx hb
        obtain ⟨hb, hhb⟩ : ∃ hb, hb = wr.heap.size := ⟨_, rfl⟩
        have hbp0 := HR.out.1
        go_upto_region 8 with (fail)
        rw [← hhb]
        obtain ⟨w7, hw7⟩ : ∃ x, x = wr.alloc (Obj.cells #[Value.int IntKind.i64 kd, Value.slice ad m cm] 80) := ⟨_, rfl⟩
        rw [← hw7]
        have hrow7 : Row w7 hb 80 [Value.int IntKind.i64 kd, Value.slice ad m cm] := by
          rw [hw7, hhb]; exact row_new wr [Value.int IntKind.i64 kd, Value.slice ad m cm] 80
        have hbp : hb ≠ p := by
          have hlt : p < wr.heap.size := by
            rcases hbp0 with ⟨_, v, h2, _⟩ | ⟨_, v, h2, _⟩
            · exact (Array.getElem?_eq_some_iff.1 h2).1
            · exact (Array.getElem?_eq_some_iff.1 h2).1
          omega
        have HW7 : Hid (IsB p acc w7 ∧ Below p w3 w7) := by
          rw [hw7]
          exact Lib.hid ⟨HR.out.1.below ((Below.refl _ wr).alloc (Nat.le_refl _) _), HR.out.2.1.alloc hps _⟩
        have hz7 : p ≤ w7.heap.size := by rw [hw7]; simp; omega
        have HROW7 := Lib.hid hrow7
        have f0 : w7.cell? ⟨hb, 0, none⟩ = some (Value.int IntKind.i64 kd) := hrow7.cell 0
        have f1 : w7.cell? ⟨hb, 1, none⟩ = some (Value.slice ad m cm) := hrow7.cell 1
        clear hw7 hhb hrow7 hd0 hd1 HR hps hbp0
        obtain ⟨acc0, hacc0⟩ : ∃ acc0, acc0 = acc := ⟨_, rfl⟩
        rw [← hacc0] at HFO HW7
        clear hacc0 acc
        go_wp2
        go_loopw [24] (fun uj wq => ∃ (j : Nat) (acc : List UInt8), uj = .int .i64 (j : Int) ∧ j ≤ m ∧ Hid (IsB p acc wq ∧ Below p w3 wq ∧ Row wq hb 80 [Value.int IntKind.i64 kd, Value.slice ad m cm] ∧ acc ++ ((x.2.drop j).flatMap (rowP kd) ++ printK (X.drop (i + 1))) = printK X)) (fun uj _ => m - (RowKit.intOf uj).toNat)
        case atStart => exact ⟨0, acc0, rfl, Nat.zero_le _, Lib.hid ⟨HW7.out.1, HW7.out.2, HROW7.out, HFO.out⟩⟩
        case round =>
          obtain ⟨j, acc, rfl, hj, HQ⟩ := hrel
          have g0 : wr.cell? ⟨hb, 0, none⟩ = some (Value.int IntKind.i64 kd) := HQ.out.2.2.1.cell 0
          have g1 : wr.cell? ⟨hb, 1, none⟩ = some (Value.slice ad m cm) := HQ.out.2.2.1.cell 1
          have hpq : p ≤ wr.heap.size := by
            have hlt : p < wr.heap.size := by
              rcases HQ.out.1 with ⟨_, v, h2, _⟩ | ⟨_, v, h2, _⟩
              · exact (Array.getElem?_eq_some_iff.1 h2).1
              · exact (Array.getElem?_eq_some_iff.1 h2).1
            omega
          by_cases hjl : j < m
          · obtain ⟨bl, ol, s, rfl, hbl, hs, hcs⟩ := (HRS.out.keep HQ.out.2.1 (Nat.le_of_eq HE.out.symm)).at hjl
            have hls2 := HXB.out s (List.mem_of_getElem? hs)
            have hls : s.length ≤ 1099511627776 := by omega
            have hacc : acc.length ≤ 1099511627000 := by have h1 := pre_len HQ.out.2.2.2; have h2 := HPL.out; omega
            have hacc2 : acc.length ≤ 67200000 := by have h1 := pre_len HQ.out.2.2.2; have h2 := HPL.out; omega
            have hfo := HQ.out.2.2.2
            rw [rows_drop hs] at hfo
            have HNF : Hid (acc ++ (sgn kd :: (s ++ (tailP s ++ ((x.2.drop (j + 1)).flatMap (rowP kd) ++ printK (X.drop (i + 1)))))) = printK X) := Lib.hid (by rw [← hfo]; simp)
            have HEN := Lib.hid (fun W hW => endsC W s hls2 hW)
            have hjt : (j : Int) < (m : Int) := by omega
            clear hs hfo hbl
            have hk3 : kd = 1 ∨ kd = 2 ∨ kd = 3 := by have := HKX.out; omega
            replace hacc : acc.length ≤ 1099511627776 := by omega
            rcases hk3 with rfl | rfl | rfl
            · have e1 : sgn 1 = 32 := rfl
              rw [e1] at HNF
              have hcases : endedL s = true ∨ endedL s = false := by cases endedL s <;> simp
              rcases hcases with he | he
              · have ht : tailP s = [] := by unfold tailP; rw [he]; rfl
                rw [ht, List.nil_append] at HNF
                rw [he] at HEN
                clear ht he
                go_wp2_with (first
                  | (go_at_call 59; refine (writeByteC p acc 32 wr HQ.out.1 hacc hpq).mono ?_; rintro e w8 ⟨rfl, h1, h2, h3⟩; have HI8 := Lib.hid h1; have HB8 := Lib.hid h2; have HK8 := Lib.hid h3; have hz8 := Nat.le_trans hpq h2.size; clear h1 h2 h3)
                  | (go_at_call 60; refine (writeStrC p (acc ++ [32]) s w8 HI8.out (by simp; omega) hls hz8).mono ?_; rintro e w9 ⟨rfl, h1, h2, h3⟩; have HI9 := Lib.hid h1; have HB9 := Lib.hid (HB8.out.trans h2); have HK9 := Lib.hid (HK8.out.trans h3); have hz9 := Nat.le_trans hz8 h2.size; clear h1 h2 h3)
                  | (go_at_call 61; refine (HEN.out w9 (HT3.out.below (HQ.out.2.1.trans HB9.out) hp4)).mono ?_; rintro e w10 ⟨rfl, h1⟩; have HI10 := Lib.hid (HI9.out.below h1); have HB10 := Lib.hid (HB9.out.trans (h1.mono hz9)); have HR10 := Lib.hid ((kept_row HK9.out HQ.out.2.2.1 hbp (by decide)).keep h1 (Row.lt (kept_row HK9.out HQ.out.2.2.1 hbp (by decide)))); clear h1))
                have HNX : Hid (IsB p ((acc ++ [32]) ++ s) w10 ∧ Below p w3 w10 ∧ Row w10 hb 80 [Value.int IntKind.i64 1, Value.slice (some ⟨bl, ol, none⟩) m cm]) := Lib.hid ⟨HI10.out, HQ.out.2.1.trans HB10.out, HR10.out⟩
                go_roundw
                case rel => exact ⟨j + 1, _, by go_num, hjl, Lib.hid ⟨HNX.out.1, HNX.out.2.1, HNX.out.2.2, by rw [← HNF.out]; simp⟩⟩
                case measure => simp [RowKit.intOf]; omega
              · have ht : tailP s = [10, 92, 10] := by unfold tailP; rw [he]; rfl
                rw [ht] at HNF
                rw [he] at HEN
                clear ht he
                go_wp2_with (first
                  | (go_at_call 59; refine (writeByteC p acc 32 wr HQ.out.1 hacc hpq).mono ?_; rintro e w8 ⟨rfl, h1, h2, h3⟩; have HI8 := Lib.hid h1; have HB8 := Lib.hid h2; have HK8 := Lib.hid h3; have hz8 := Nat.le_trans hpq h2.size; clear h1 h2 h3)
                  | (go_at_call_of 60 (Value.string (bstr s)); refine (writeStrC p (acc ++ [32]) s w8 HI8.out (by simp; omega) hls hz8).mono ?_; rintro e w9 ⟨rfl, h1, h2, h3⟩; have HI9 := Lib.hid h1; have HB9 := Lib.hid (HB8.out.trans h2); have HK9 := Lib.hid (HK8.out.trans h3); have hz9 := Nat.le_trans hz8 h2.size; clear h1 h2 h3)
                  | (go_at_call 61; refine (HEN.out w9 (HT3.out.below (HQ.out.2.1.trans HB9.out) hp4)).mono ?_; rintro e w10 ⟨rfl, h1⟩; have HI10 := Lib.hid (HI9.out.below h1); have HB10 := Lib.hid (HB9.out.trans (h1.mono hz9)); have HR10 := Lib.hid ((kept_row HK9.out HQ.out.2.2.1 hbp (by decide)).keep h1 (Row.lt (kept_row HK9.out HQ.out.2.2.1 hbp (by decide)))); have hz10 := Nat.le_trans hz9 h1.size; clear h1)
                  | (go_at_call 60; refine (writeStrC p ((acc ++ [32]) ++ s) [10, 92, 10] w10 HI10.out (by simp; omega) (by simp) hz10).mono ?_; rintro e w11 ⟨rfl, h1, h2, h3⟩; have HI11 := Lib.hid h1; have HB11 := Lib.hid (HB10.out.trans h2); have HR11 := Lib.hid (kept_row h3 HR10.out hbp (by decide)); clear h1 h2 h3))
                have HNX : Hid (IsB p (((acc ++ [32]) ++ s) ++ [10, 92, 10]) w11 ∧ Below p w3 w11 ∧ Row w11 hb 80 [Value.int IntKind.i64 1, Value.slice (some ⟨bl, ol, none⟩) m cm]) := Lib.hid ⟨HI11.out, HQ.out.2.1.trans HB11.out, HR11.out⟩
                go_roundw
                case rel => exact ⟨j + 1, _, by go_num, hjl, Lib.hid ⟨HNX.out.1, HNX.out.2.1, HNX.out.2.2, by rw [← HNF.out]; simp⟩⟩
                case measure => simp [RowKit.intOf]; omega
            · have e1 : sgn 2 = 45 := rfl
              rw [e1] at HNF
              have hcases : endedL s = true ∨ endedL s = false := by cases endedL s <;> simp
              rcases hcases with he | he
              · have ht : tailP s = [] := by unfold tailP; rw [he]; rfl
                rw [ht, List.nil_append] at HNF
                rw [he] at HEN
                clear ht he
                go_wp2_with (first
                  | (go_at_call 59; refine (writeByteC p acc 45 wr HQ.out.1 hacc hpq).mono ?_; rintro e w8 ⟨rfl, h1, h2, h3⟩; have HI8 := Lib.hid h1; have HB8 := Lib.hid h2; have HK8 := Lib.hid h3; have hz8 := Nat.le_trans hpq h2.size; clear h1 h2 h3)
                  | (go_at_call 60; refine (writeStrC p (acc ++ [45]) s w8 HI8.out (by simp; omega) hls hz8).mono ?_; rintro e w9 ⟨rfl, h1, h2, h3⟩; have HI9 := Lib.hid h1; have HB9 := Lib.hid (HB8.out.trans h2); have HK9 := Lib.hid (HK8.out.trans h3); have hz9 := Nat.le_trans hz8 h2.size; clear h1 h2 h3)
                  | (go_at_call 61; refine (HEN.out w9 (HT3.out.below (HQ.out.2.1.trans HB9.out) hp4)).mono ?_; rintro e w10 ⟨rfl, h1⟩; have HI10 := Lib.hid (HI9.out.below h1); have HB10 := Lib.hid (HB9.out.trans (h1.mono hz9)); have HR10 := Lib.hid ((kept_row HK9.out HQ.out.2.2.1 hbp (by decide)).keep h1 (Row.lt (kept_row HK9.out HQ.out.2.2.1 hbp (by decide)))); clear h1))
                have HNX : Hid (IsB p ((acc ++ [45]) ++ s) w10 ∧ Below p w3 w10 ∧ Row w10 hb 80 [Value.int IntKind.i64 2, Value.slice (some ⟨bl, ol, none⟩) m cm]) := Lib.hid ⟨HI10.out, HQ.out.2.1.trans HB10.out, HR10.out⟩
                go_roundw
                case rel => exact ⟨j + 1, _, by go_num, hjl, Lib.hid ⟨HNX.out.1, HNX.out.2.1, HNX.out.2.2, by rw [← HNF.out]; simp⟩⟩
                case measure => simp [RowKit.intOf]; omega
              · have ht : tailP s = [10, 92, 10] := by unfold tailP; rw [he]; rfl
                rw [ht] at HNF
                rw [he] at HEN
                clear ht he
                go_wp2_with (first
                  | (go_at_call 59; refine (writeByteC p acc 45 wr HQ.out.1 hacc hpq).mono ?_; rintro e w8 ⟨rfl, h1, h2, h3⟩; have HI8 := Lib.hid h1; have HB8 := Lib.hid h2; have HK8 := Lib.hid h3; have hz8 := Nat.le_trans hpq h2.size; clear h1 h2 h3)
                  | (go_at_call_of 60 (Value.string (bstr s)); refine (writeStrC p (acc ++ [45]) s w8 HI8.out (by simp; omega) hls hz8).mono ?_; rintro e w9 ⟨rfl, h1, h2, h3⟩; have HI9 := Lib.hid h1; have HB9 := Lib.hid (HB8.out.trans h2); have HK9 := Lib.hid (HK8.out.trans h3); have hz9 := Nat.le_trans hz8 h2.size; clear h1 h2 h3)
                  | (go_at_call 61; refine (HEN.out w9 (HT3.out.below (HQ.out.2.1.trans HB9.out) hp4)).mono ?_; rintro e w10 ⟨rfl, h1⟩; have HI10 := Lib.hid (HI9.out.below h1); have HB10 := Lib.hid (HB9.out.trans (h1.mono hz9)); have HR10 := Lib.hid ((kept_row HK9.out HQ.out.2.2.1 hbp (by decide)).keep h1 (Row.lt (kept_row HK9.out HQ.out.2.2.1 hbp (by decide)))); have hz10 := Nat.le_trans hz9 h1.size; clear h1)
                  | (go_at_call 60; refine (writeStrC p ((acc ++ [45]) ++ s) [10, 92, 10] w10 HI10.out (by simp; omega) (by simp) hz10).mono ?_; rintro e w11 ⟨rfl, h1, h2, h3⟩; have HI11 := Lib.hid h1; have HB11 := Lib.hid (HB10.out.trans h2); have HR11 := Lib.hid (kept_row h3 HR10.out hbp (by decide)); clear h1 h2 h3))
                have HNX : Hid (IsB p (((acc ++ [45]) ++ s) ++ [10, 92, 10]) w11 ∧ Below p w3 w11 ∧ Row w11 hb 80 [Value.int IntKind.i64 2, Value.slice (some ⟨bl, ol, none⟩) m cm]) := Lib.hid ⟨HI11.out, HQ.out.2.1.trans HB11.out, HR11.out⟩
                go_roundw
                case rel => exact ⟨j + 1, _, by go_num, hjl, Lib.hid ⟨HNX.out.1, HNX.out.2.1, HNX.out.2.2, by rw [← HNF.out]; simp⟩⟩
                case measure => simp [RowKit.intOf]; omega
            · have e1 : sgn 3 = 43 := rfl
              rw [e1] at HNF
              have hcases : endedL s = true ∨ endedL s = false := by cases endedL s <;> simp
              rcases hcases with he | he
              · have ht : tailP s = [] := by unfold tailP; rw [he]; rfl
                rw [ht, List.nil_append] at HNF
                rw [he] at HEN
                clear ht he
                go_wp2_with (first
                  | (go_at_call 59; refine (writeByteC p acc 43 wr HQ.out.1 hacc hpq).mono ?_; rintro e w8 ⟨rfl, h1, h2, h3⟩; have HI8 := Lib.hid h1; have HB8 := Lib.hid h2; have HK8 := Lib.hid h3; have hz8 := Nat.le_trans hpq h2.size; clear h1 h2 h3)
                  | (go_at_call 60; refine (writeStrC p (acc ++ [43]) s w8 HI8.out (by simp; omega) hls hz8).mono ?_; rintro e w9 ⟨rfl, h1, h2, h3⟩; have HI9 := Lib.hid h1; have HB9 := Lib.hid (HB8.out.trans h2); have HK9 := Lib.hid (HK8.out.trans h3); have hz9 := Nat.le_trans hz8 h2.size; clear h1 h2 h3)
                  | (go_at_call 61; refine (HEN.out w9 (HT3.out.below (HQ.out.2.1.trans HB9.out) hp4)).mono ?_; rintro e w10 ⟨rfl, h1⟩; have HI10 := Lib.hid (HI9.out.below h1); have HB10 := Lib.hid (HB9.out.trans (h1.mono hz9)); have HR10 := Lib.hid ((kept_row HK9.out HQ.out.2.2.1 hbp (by decide)).keep h1 (Row.lt (kept_row HK9.out HQ.out.2.2.1 hbp (by decide)))); clear h1))
                have HNX : Hid (IsB p ((acc ++ [43]) ++ s) w10 ∧ Below p w3 w10 ∧ Row w10 hb 80 [Value.int IntKind.i64 3, Value.slice (some ⟨bl, ol, none⟩) m cm]) := Lib.hid ⟨HI10.out, HQ.out.2.1.trans HB10.out, HR10.out⟩
                go_roundw
                case rel => exact ⟨j + 1, _, by go_num, hjl, Lib.hid ⟨HNX.out.1, HNX.out.2.1, HNX.out.2.2, by rw [← HNF.out]; simp⟩⟩
                case measure => simp [RowKit.intOf]; omega
              · have ht : tailP s = [10, 92, 10] := by unfold tailP; rw [he]; rfl
                rw [ht] at HNF
                rw [he] at HEN
                clear ht he
                go_wp2_with (first
                  | (go_at_call 59; refine (writeByteC p acc 43 wr HQ.out.1 hacc hpq).mono ?_; rintro e w8 ⟨rfl, h1, h2, h3⟩; have HI8 := Lib.hid h1; have HB8 := Lib.hid h2; have HK8 := Lib.hid h3; have hz8 := Nat.le_trans hpq h2.size; clear h1 h2 h3)
                  | (go_at_call_of 60 (Value.string (bstr s)); refine (writeStrC p (acc ++ [43]) s w8 HI8.out (by simp; omega) hls hz8).mono ?_; rintro e w9 ⟨rfl, h1, h2, h3⟩; have HI9 := Lib.hid h1; have HB9 := Lib.hid (HB8.out.trans h2); have HK9 := Lib.hid (HK8.out.trans h3); have hz9 := Nat.le_trans hz8 h2.size; clear h1 h2 h3)
                  | (go_at_call 61; refine (HEN.out w9 (HT3.out.below (HQ.out.2.1.trans HB9.out) hp4)).mono ?_; rintro e w10 ⟨rfl, h1⟩; have HI10 := Lib.hid (HI9.out.below h1); have HB10 := Lib.hid (HB9.out.trans (h1.mono hz9)); have HR10 := Lib.hid ((kept_row HK9.out HQ.out.2.2.1 hbp (by decide)).keep h1 (Row.lt (kept_row HK9.out HQ.out.2.2.1 hbp (by decide)))); have hz10 := Nat.le_trans hz9 h1.size; clear h1)
                  | (go_at_call 60; refine (writeStrC p ((acc ++ [43]) ++ s) [10, 92, 10] w10 HI10.out (by simp; omega) (by simp) hz10).mono ?_; rintro e w11 ⟨rfl, h1, h2, h3⟩; have HI11 := Lib.hid h1; have HB11 := Lib.hid (HB10.out.trans h2); have HR11 := Lib.hid (kept_row h3 HR10.out hbp (by decide)); clear h1 h2 h3))
                have HNX : Hid (IsB p (((acc ++ [43]) ++ s) ++ [10, 92, 10]) w11 ∧ Below p w3 w11 ∧ Row w11 hb 80 [Value.int IntKind.i64 3, Value.slice (some ⟨bl, ol, none⟩) m cm]) := Lib.hid ⟨HI11.out, HQ.out.2.1.trans HB11.out, HR11.out⟩
                go_roundw
                case rel => exact ⟨j + 1, _, by go_num, hjl, Lib.hid ⟨HNX.out.1, HNX.out.2.1, HNX.out.2.2, by rw [← HNF.out]; simp⟩⟩
                case measure => simp [RowKit.intOf]; omega
          · obtain rfl : j = m := by omega
            have hdr : x.2.drop j = [] := List.drop_of_length_le (by rw [HM.out]; exact Nat.le_refl _)
            have HNX : Hid (IsB p acc wr ∧ Below p w3 wr ∧ acc ++ printK (X.drop (i + 1)) = printK X ∧ p ≤ wr.heap.size) := by
              have h1 := HQ.out.2.2.2
              rw [hdr] at h1
              exact Lib.hid ⟨HQ.out.1, HQ.out.2.1, h1, hpq⟩
            clear hdr
            go_wp2
            go_roundw
            case rel => exact ⟨i + 1, _, by go_num, hlt, HNX⟩
            case measure => simp [RowKit.intOf]; omega
      · obtain rfl : i = n := by omega
        have hd : X.drop i = [] := List.drop_of_length_le (by rw [HN.out]; exact Nat.le_refl _)
        have hout := HR.out.2.2.1
        rw [hd] at hout
        have hout2 : acc = printK X := by rw [← hout]; simp [printK]
        subst hout2
        clear hd hout
        go_wp2_with (go_at_call 62; refine (stringC p _ wr HR.out.1 hps).mono ?_; rintro e w8 ⟨rfl, hb8⟩; have HB8 := Lib.hid hb8; clear hb8)
        go_ret2
        refine ⟨by rw [HPE.out]; rfl, ?_⟩
        have hbp : Below p w3 w8 := HR.out.2.1.trans HB8.out
        exact HB3.out.trans (hbp.mono (by rw [HE.out]; exact HB3.out.size))
  · rw [Bool.not_eq_true] at hk
    have HK : Hid (errP (checkB X) = 310) := Lib.hid (by rw [hk]; rfl)
    rw [HK.out] at HC
    have HPE : Hid (printE X = .returned (.tuple #[.string (bstr []), .int .i64 310])) := Lib.hid (by unfold printE; rw [hk]; rfl)
    clear hk
    go_enter Tryd.func33, Tryd.ntmps33
    go_wp2_with (go_at_call 19; refine (HC.out).mono ?_; rintro e w3 ⟨rfl, hb3⟩; have HB3 := Lib.hid hb3; clear hb3)
    go_ret2
    exact ⟨by rw [HPE.out]; rfl, HB3.out⟩
end Go.Proofs.YtnbihjocdlpplaaDoor
/- A patch's text, by the reference. -/
namespace Go.Proofs.YtnbihjocdlpplaaDoor
set_option linter.unusedVariables false
set_option linter.unusedSimpArgs false
open Go.RowKit
open Go.Lib hiding intOf
set_option maxHeartbeats 16000000 in
set_option maxRecDepth 100000 in
theorem printR (w : World) (a : Option Addr) (n c : Nat) (X : List HkI) (hX : ReadsK w a n X) (hF : Fit X) :
    Calls Tryd.prog 35 #[.slice a n c] w fun e w' => e = printE X ∧ Below w.heap.size w w' := by
  have HX := Lib.hid hX
  have HN := Lib.hid hX.len
  have hn : n ≤ 16777216 := by rw [← hX.len]; exact hF.1
  have HC := Lib.hid (checkR w a n c X hX hF)
  have HBY := Lib.hid hF.2.2
  clear hX hF
  by_cases hk : checkB X = true
  · have HK : Hid (errP (checkB X) = 0) := Lib.hid (by rw [hk]; rfl)
    rw [HK.out] at HC
    have HCK := Lib.hid hk
    have HPE : Hid (printE X = .returned (.tuple #[.string (bstr (printK X)), .int .i64 0])) := Lib.hid (by unfold printE; rw [if_pos hk])
    have hl := check_lines hk
    have hpl : (printK X).length ≤ 67200000 := by have := printK_len X; have := HBY.out; omega
    have HPL := Lib.hid hpl
    clear hk hpl
    go_enter Tryd.func35, Tryd.ntmps35
    go_wp2_with (go_at_call 20; refine (HC.out).mono ?_; rintro e w3 ⟨rfl, hb3⟩; have HB3 := Lib.hid hb3; clear hb3)
    have HX3 : Hid (ReadsK w3 a n X) := Lib.hid (HX.out.keep HB3.out (Nat.le_refl _))
    go_loopw [4, 5] (fun vo ui wr => ∃ (i : Nat) (acc : List UInt8), ui = .int .i64 (i : Int) ∧ i ≤ n ∧ Hid (OwnB w3.heap.size vo acc wr ∧ Below w3.heap.size w3 wr ∧ acc ++ printK (X.drop i) = printK X)) (fun _ ui _ => n - (RowKit.intOf ui).toNat)
    case atStart => exact ⟨0, [], rfl, Nat.zero_le _, Lib.hid ⟨World.ownsRow_nil _ _ _ _, Below.refl _ _, rfl⟩⟩
    case round =>
      obtain ⟨i, acc, rfl, hi, HR⟩ := hrel
      obtain ⟨vo, rfl⟩ : ∃ v : Value, v = u4 := ⟨_, rfl⟩
      by_cases hlt : i < n
      · obtain ⟨b, off, x, ad, m, cm, rfl, hb, hx, hc0, hc1, hrs, hmc, hcm, hm⟩ := HX3.out.at hlt
        have hd : ∀ W, Below w3.heap.size w3 W → W.cell? ⟨b, off + i * 2, none⟩ = some (.int .i64 x.1) ∧ W.cell? ⟨b, off + i * 2 + 1, none⟩ = some (.slice ad m cm) := fun W hW => ⟨(hW.cell (p := ⟨b, off + i * 2, none⟩) hb).trans hc0, (hW.cell (p := ⟨b, off + i * 2 + 1, none⟩) hb).trans hc1⟩
        have hkx : 1 ≤ x.1 ∧ x.1 ≤ 3 := by
          have h1 := HCK.out
          unfold checkB at h1
          rw [Bool.and_eq_true, Bool.and_eq_true] at h1
          exact (okB_mem X 0 h1.1.1 x (List.mem_of_getElem? hx)).1
        have hml : m ≤ 1024 := by
          have h1 := linesK_mem (List.mem_of_getElem? hx)
          omega
        have hxb : ∀ s ∈ x.2, s.length ≤ 67108864 := fun s hs => by
          have h1 := flat_le2 hs
          have h2 := bytesK_mem (List.mem_of_getElem? hx)
          have h3 := HBY.out
          omega
        have hfold := HR.out.2.2
        rw [printK_drop hx] at hfold
        obtain ⟨kd, hkd⟩ : ∃ kd, kd = x.1 := ⟨_, rfl⟩
        rw [← hkd] at hd hkx hfold
        have HD := Lib.hid hd
        have HFO := Lib.hid hfold
        have HXB := Lib.hid hxb
        have HRS := Lib.hid hrs
        have HM := Lib.hid hm
        have HKX := Lib.hid hkx
        have HR0 := Lib.hid HR.out
        have hit : (i : Int) < (n : Int) := by omega
        clear hx hrs hm hmc hc0 hc1 hkd hfold hxb hkx hb hd HR
        obtain ⟨acc0, hacc0⟩ : ∃ acc0, acc0 = acc := ⟨_, rfl⟩
        rw [← hacc0] at HFO HR0
        clear hacc0 acc
        go_wp2
        go_loopw [4, 6] (fun vo uj wq => ∃ (j : Nat) (acc : List UInt8), uj = .int .i64 (j : Int) ∧ j ≤ m ∧ Hid (OwnB w3.heap.size vo acc wq ∧ Below w3.heap.size w3 wq ∧ acc ++ ((x.2.drop j).flatMap (rowP kd) ++ printK (X.drop (i + 1))) = printK X)) (fun _ uj _ => m - (RowKit.intOf uj).toNat)
        case atStart => exact ⟨0, acc0, rfl, Nat.zero_le _, Lib.hid ⟨HR0.out.1, HR0.out.2.1, HFO.out⟩⟩
        case round =>
          obtain ⟨j, acc, rfl, hj, HQ⟩ := hrel
          obtain ⟨vq, rfl⟩ : ∃ v : Value, v = u4 := ⟨_, rfl⟩
          obtain ⟨g0, g1⟩ := HD.out wr HQ.out.2.1
          have hpq := HQ.out.2.1.size
          by_cases hjl : j < m
          · obtain ⟨bl, ol, s, rfl, hbl, hs, hcs⟩ := (HRS.out.keep HQ.out.2.1 (Nat.le_refl _)).at hjl
            have hls2 := HXB.out s (List.mem_of_getElem? hs)
            have hls : s.length ≤ 1099511627776 := by omega
            have hacc2 : acc.length ≤ 67200000 := by have h1 := pre_len HQ.out.2.2; have h2 := HPL.out; omega
            have hacc : acc.length ≤ 1099511627776 := by omega
            have hfo := HQ.out.2.2
            rw [rows_drop hs] at hfo
            have HNF : Hid (acc ++ (sgn kd :: (s ++ (tailP s ++ ((x.2.drop (j + 1)).flatMap (rowP kd) ++ printK (X.drop (i + 1)))))) = printK X) := Lib.hid (by rw [← hfo]; simp)
            have HEN := Lib.hid (fun W => endedR W s hls2)
            have hjt : (j : Int) < (m : Int) := by omega
            have hl1 : (acc ++ [sgn kd]).length ≤ 1099511627776 := by simp; omega
            have hl2 : ((acc ++ [sgn kd]) ++ s).length ≤ 1099511627776 := by simp; omega
            have HL1 := Lib.hid hl1
            have HL2 := Lib.hid hl2
            clear hs hfo hbl hl1 hl2
            have hk3 : kd = 1 ∨ kd = 2 ∨ kd = 3 := by have := HKX.out; omega
            have hcases : endedL s = true ∨ endedL s = false := by cases endedL s <;> simp
            rcases hk3 with rfl | rfl | rfl
            · have e1 : sgn 1 = 32 := rfl
              rw [e1] at HNF HL1 HL2
              rcases hcases with he | he
              · have ht : tailP s = [] := by unfold tailP; rw [he]; rfl
                rw [ht, List.nil_append] at HNF
                rw [he] at HEN
                clear ht he
                go_wp2_with (first
                  | (at_builtin; refine appOne rfl _ _ rfl w3.heap.size w3 wr vq acc 32 rfl HQ.out.1 rfl rfl hacc HQ.out.2.1 hpq ?_; intro v8 w8 hO8 hb8 hz8; have HO8 := Lib.hid hO8; have HB8 := Lib.hid hb8; clear hO8 hb8)
                  | (at_builtin; refine appStr rfl _ _ rfl w3.heap.size w3 v8 (acc ++ [32]) s rfl HO8.out rfl HL1.out hls HB8.out hz8 ?_; intro v9 w9 hO9 hb9 hz9; have HO9 := Lib.hid hO9; have HB9 := Lib.hid hb9; clear hO9 hb9)
                  | (go_at_call 69; refine (HEN.out w9).mono ?_; rintro e w10 ⟨rfl, h1⟩; have HO10 := Lib.hid (HO9.out.below h1); have HB10 := Lib.hid (HB9.out.trans (h1.mono hz9)); clear h1))
                have HNX : Hid (OwnB w3.heap.size v9 ((acc ++ [32]) ++ s) w10 ∧ Below w3.heap.size w3 w10) := Lib.hid ⟨HO10.out, HB10.out⟩
                go_roundw
                case rel => exact ⟨j + 1, _, by go_num, hjl, Lib.hid ⟨HNX.out.1, HNX.out.2, by rw [← HNF.out]; simp⟩⟩
                case measure => simp [RowKit.intOf]; omega
              · have ht : tailP s = [10, 92, 10] := by unfold tailP; rw [he]; rfl
                rw [ht] at HNF
                rw [he] at HEN
                clear ht he
                go_wp2_with (first
                  | (at_builtin; refine appOne rfl _ _ rfl w3.heap.size w3 wr vq acc 32 rfl HQ.out.1 rfl rfl hacc HQ.out.2.1 hpq ?_; intro v8 w8 hO8 hb8 hz8; have HO8 := Lib.hid hO8; have HB8 := Lib.hid hb8; clear hO8 hb8)
                  | (at_builtin; refine appStr rfl _ _ rfl w3.heap.size w3 v8 (acc ++ [32]) s rfl HO8.out rfl HL1.out hls HB8.out hz8 ?_; intro v9 w9 hO9 hb9 hz9; have HO9 := Lib.hid hO9; have HB9 := Lib.hid hb9; clear hO9 hb9)
                  | (go_at_call 69; refine (HEN.out w9).mono ?_; rintro e w10 ⟨rfl, h1⟩; have HO10 := Lib.hid (HO9.out.below h1); have HB10 := Lib.hid (HB9.out.trans (h1.mono hz9)); have hz10 := Nat.le_trans hz9 h1.size; clear h1)
                  | (at_builtin; refine appStr rfl _ _ rfl w3.heap.size w3 v9 ((acc ++ [32]) ++ s) [10, 92, 10] rfl HO10.out rfl HL2.out (by decide) HB10.out hz10 ?_; intro v11 w11 hO11 hb11 hz11; have HO11 := Lib.hid hO11; have HB11 := Lib.hid hb11; clear hO11 hb11))
                have HNX : Hid (OwnB w3.heap.size v11 (((acc ++ [32]) ++ s) ++ [10, 92, 10]) w11 ∧ Below w3.heap.size w3 w11) := Lib.hid ⟨HO11.out, HB11.out⟩
                go_roundw
                case rel => exact ⟨j + 1, _, by go_num, hjl, Lib.hid ⟨HNX.out.1, HNX.out.2, by rw [← HNF.out]; simp⟩⟩
                case measure => simp [RowKit.intOf]; omega
            · have e1 : sgn 2 = 45 := rfl
              rw [e1] at HNF HL1 HL2
              rcases hcases with he | he
              · have ht : tailP s = [] := by unfold tailP; rw [he]; rfl
                rw [ht, List.nil_append] at HNF
                rw [he] at HEN
                clear ht he
                go_wp2_with (first
                  | (at_builtin; refine appOne rfl _ _ rfl w3.heap.size w3 wr vq acc 45 rfl HQ.out.1 rfl rfl hacc HQ.out.2.1 hpq ?_; intro v8 w8 hO8 hb8 hz8; have HO8 := Lib.hid hO8; have HB8 := Lib.hid hb8; clear hO8 hb8)
                  | (at_builtin; refine appStr rfl _ _ rfl w3.heap.size w3 v8 (acc ++ [45]) s rfl HO8.out rfl HL1.out hls HB8.out hz8 ?_; intro v9 w9 hO9 hb9 hz9; have HO9 := Lib.hid hO9; have HB9 := Lib.hid hb9; clear hO9 hb9)
                  | (go_at_call 69; refine (HEN.out w9).mono ?_; rintro e w10 ⟨rfl, h1⟩; have HO10 := Lib.hid (HO9.out.below h1); have HB10 := Lib.hid (HB9.out.trans (h1.mono hz9)); clear h1))
                have HNX : Hid (OwnB w3.heap.size v9 ((acc ++ [45]) ++ s) w10 ∧ Below w3.heap.size w3 w10) := Lib.hid ⟨HO10.out, HB10.out⟩
                go_roundw
                case rel => exact ⟨j + 1, _, by go_num, hjl, Lib.hid ⟨HNX.out.1, HNX.out.2, by rw [← HNF.out]; simp⟩⟩
                case measure => simp [RowKit.intOf]; omega
              · have ht : tailP s = [10, 92, 10] := by unfold tailP; rw [he]; rfl
                rw [ht] at HNF
                rw [he] at HEN
                clear ht he
                go_wp2_with (first
                  | (at_builtin; refine appOne rfl _ _ rfl w3.heap.size w3 wr vq acc 45 rfl HQ.out.1 rfl rfl hacc HQ.out.2.1 hpq ?_; intro v8 w8 hO8 hb8 hz8; have HO8 := Lib.hid hO8; have HB8 := Lib.hid hb8; clear hO8 hb8)
                  | (at_builtin; refine appStr rfl _ _ rfl w3.heap.size w3 v8 (acc ++ [45]) s rfl HO8.out rfl HL1.out hls HB8.out hz8 ?_; intro v9 w9 hO9 hb9 hz9; have HO9 := Lib.hid hO9; have HB9 := Lib.hid hb9; clear hO9 hb9)
                  | (go_at_call 69; refine (HEN.out w9).mono ?_; rintro e w10 ⟨rfl, h1⟩; have HO10 := Lib.hid (HO9.out.below h1); have HB10 := Lib.hid (HB9.out.trans (h1.mono hz9)); have hz10 := Nat.le_trans hz9 h1.size; clear h1)
                  | (at_builtin; refine appStr rfl _ _ rfl w3.heap.size w3 v9 ((acc ++ [45]) ++ s) [10, 92, 10] rfl HO10.out rfl HL2.out (by decide) HB10.out hz10 ?_; intro v11 w11 hO11 hb11 hz11; have HO11 := Lib.hid hO11; have HB11 := Lib.hid hb11; clear hO11 hb11))
                have HNX : Hid (OwnB w3.heap.size v11 (((acc ++ [45]) ++ s) ++ [10, 92, 10]) w11 ∧ Below w3.heap.size w3 w11) := Lib.hid ⟨HO11.out, HB11.out⟩
                go_roundw
                case rel => exact ⟨j + 1, _, by go_num, hjl, Lib.hid ⟨HNX.out.1, HNX.out.2, by rw [← HNF.out]; simp⟩⟩
                case measure => simp [RowKit.intOf]; omega
            · have e1 : sgn 3 = 43 := rfl
              rw [e1] at HNF HL1 HL2
              rcases hcases with he | he
              · have ht : tailP s = [] := by unfold tailP; rw [he]; rfl
                rw [ht, List.nil_append] at HNF
                rw [he] at HEN
                clear ht he
                go_wp2_with (first
                  | (at_builtin; refine appOne rfl _ _ rfl w3.heap.size w3 wr vq acc 43 rfl HQ.out.1 rfl rfl hacc HQ.out.2.1 hpq ?_; intro v8 w8 hO8 hb8 hz8; have HO8 := Lib.hid hO8; have HB8 := Lib.hid hb8; clear hO8 hb8)
                  | (at_builtin; refine appStr rfl _ _ rfl w3.heap.size w3 v8 (acc ++ [43]) s rfl HO8.out rfl HL1.out hls HB8.out hz8 ?_; intro v9 w9 hO9 hb9 hz9; have HO9 := Lib.hid hO9; have HB9 := Lib.hid hb9; clear hO9 hb9)
                  | (go_at_call 69; refine (HEN.out w9).mono ?_; rintro e w10 ⟨rfl, h1⟩; have HO10 := Lib.hid (HO9.out.below h1); have HB10 := Lib.hid (HB9.out.trans (h1.mono hz9)); clear h1))
                have HNX : Hid (OwnB w3.heap.size v9 ((acc ++ [43]) ++ s) w10 ∧ Below w3.heap.size w3 w10) := Lib.hid ⟨HO10.out, HB10.out⟩
                go_roundw
                case rel => exact ⟨j + 1, _, by go_num, hjl, Lib.hid ⟨HNX.out.1, HNX.out.2, by rw [← HNF.out]; simp⟩⟩
                case measure => simp [RowKit.intOf]; omega
              · have ht : tailP s = [10, 92, 10] := by unfold tailP; rw [he]; rfl
                rw [ht] at HNF
                rw [he] at HEN
                clear ht he
                go_wp2_with (first
                  | (at_builtin; refine appOne rfl _ _ rfl w3.heap.size w3 wr vq acc 43 rfl HQ.out.1 rfl rfl hacc HQ.out.2.1 hpq ?_; intro v8 w8 hO8 hb8 hz8; have HO8 := Lib.hid hO8; have HB8 := Lib.hid hb8; clear hO8 hb8)
                  | (at_builtin; refine appStr rfl _ _ rfl w3.heap.size w3 v8 (acc ++ [43]) s rfl HO8.out rfl HL1.out hls HB8.out hz8 ?_; intro v9 w9 hO9 hb9 hz9; have HO9 := Lib.hid hO9; have HB9 := Lib.hid hb9; clear hO9 hb9)
                  | (go_at_call 69; refine (HEN.out w9).mono ?_; rintro e w10 ⟨rfl, h1⟩; have HO10 := Lib.hid (HO9.out.below h1); have HB10 := Lib.hid (HB9.out.trans (h1.mono hz9)); have hz10 := Nat.le_trans hz9 h1.size; clear h1)
                  | (at_builtin; refine appStr rfl _ _ rfl w3.heap.size w3 v9 ((acc ++ [43]) ++ s) [10, 92, 10] rfl HO10.out rfl HL2.out (by decide) HB10.out hz10 ?_; intro v11 w11 hO11 hb11 hz11; have HO11 := Lib.hid hO11; have HB11 := Lib.hid hb11; clear hO11 hb11))
                have HNX : Hid (OwnB w3.heap.size v11 (((acc ++ [43]) ++ s) ++ [10, 92, 10]) w11 ∧ Below w3.heap.size w3 w11) := Lib.hid ⟨HO11.out, HB11.out⟩
                go_roundw
                case rel => exact ⟨j + 1, _, by go_num, hjl, Lib.hid ⟨HNX.out.1, HNX.out.2, by rw [← HNF.out]; simp⟩⟩
                case measure => simp [RowKit.intOf]; omega
          · obtain rfl : j = m := by omega
            have hdr : x.2.drop j = [] := List.drop_of_length_le (by rw [HM.out]; exact Nat.le_refl _)
            have HNX : Hid (OwnB w3.heap.size vq acc wr ∧ Below w3.heap.size w3 wr ∧ acc ++ printK (X.drop (i + 1)) = printK X) := by
              have h1 := HQ.out.2.2
              rw [hdr] at h1
              exact Lib.hid ⟨HQ.out.1, HQ.out.2.1, h1⟩
            clear hdr
            go_wp2
            go_roundw
            case rel => exact ⟨i + 1, _, by go_num, hlt, HNX⟩
            case measure => simp [RowKit.intOf]; omega
      · obtain rfl : i = n := by omega
        have hd : X.drop i = [] := List.drop_of_length_le (by rw [HN.out]; exact Nat.le_refl _)
        have hout := HR.out.2.2
        rw [hd] at hout
        have hout2 : acc = printK X := by rw [← hout]; simp [printK]
        have hcv := conv_own HR.out.1
        rw [hout2] at hcv
        clear hd hout hout2
        go_wp2
        go_ret2
        exact ⟨by rw [HPE.out]; rfl, HB3.out.trans (HR.out.2.1.mono HB3.out.size)⟩
  · rw [Bool.not_eq_true] at hk
    have HK : Hid (errP (checkB X) = 310) := Lib.hid (by rw [hk]; rfl)
    rw [HK.out] at HC
    have HPE : Hid (printE X = .returned (.tuple #[.string (bstr []), .int .i64 310])) := Lib.hid (by unfold printE; rw [hk]; rfl)
    clear hk
    go_enter Tryd.func35, Tryd.ntmps35
    go_wp2_with (go_at_call 20; refine (HC.out).mono ?_; rintro e w3 ⟨rfl, hb3⟩; have HB3 := Lib.hid hb3; clear hb3)
    go_ret2
    exact ⟨by rw [HPE.out]; rfl, HB3.out⟩
end Go.Proofs.YtnbihjocdlpplaaDoor
