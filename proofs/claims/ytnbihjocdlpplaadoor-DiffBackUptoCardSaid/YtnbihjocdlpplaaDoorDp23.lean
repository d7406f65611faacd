/- Texts joined, one behind the other (DParN). -/
import Derived.Test.YtnbihjocdlpplaaDoorDp22
/- Parse: small contracts and what holds at the head of the loop over the rows. -/
namespace Go.Proofs.YtnbihjocdlpplaaDoor
set_option linter.unusedVariables false
set_option linter.unusedSimpArgs false
open Go.RowKit
open Go.Lib hiding intOf
theorem sign_idx (w : World) (x : UInt8) (rt : List UInt8) (k : Nat) (hk : kindOf (x :: rt) = k) :
    Calls Tryd.prog 63 #[.string ⟨#[32, 45, 43]⟩, .int .u8 (x.toNat : Int)] w fun e w' => e = .returned (.int .i64 ((k : Int) - 1)) ∧ w' = w := by
  refine (Tryd.strings_IndexByte ⟨#[32, 45, 43]⟩ (x.toNat : Int) w).mono ?_
  rintro e w' ⟨rfl, rfl⟩
  refine ⟨?_, rfl⟩
  have hx : ((x.toNat : Int)).toNat.toUInt8 = x := by simp
  rw [hx]
  have hall : ∀ n : Fin 256, indexByte [32, 45, 43] (UInt8.ofNat n.val) = (kindOf [UInt8.ofNat n.val] : Int) - 1 := by decide +kernel
  have h1 := hall ⟨x.toNat, x.toNat_lt⟩
  simp only [UInt8.ofNat_toNat] at h1
  have h2 : kindOf (x :: rt) = kindOf [x] := rfl
  rw [← hk, h2]
  exact congrArg (fun z => Ending.returned (.int .i64 z)) h1
theorem kind_le (r : List UInt8) : kindOf r ≤ 3 := by
  unfold kindOf
  repeat' split
  all_goals decide
theorem suffix_ten (r : List UInt8) : hasSuffix r [10] = endsTen r := by
  unfold hasSuffix endsTen
  rw [Bool.eq_iff_iff, List.isSuffixOf_iff_suffix, decide_eq_true_iff]
  constructor
  · rintro ⟨t, rfl⟩
    exact List.getLast?_concat
  · intro h
    rcases List.eq_nil_or_concat r with rfl | ⟨t, y, rfl⟩
    · cases h
    · rw [List.concat_eq_append, List.getLast?_concat] at h
      cases h
      rw [List.concat_eq_append]
      exact List.suffix_append _ _
theorem trim_ten {x : List UInt8} (h : endsTen x = true) : trimSuffix x [10] = x.dropLast := by
  unfold trimSuffix
  rw [suffix_ten, if_pos h, List.dropLast_eq_take]
  rfl
theorem suffixC (w : World) (r : List UInt8) (b : Bool) (hb : endsTen r = b) (hl : r.length ≤ 67108864) :
    Calls Tryd.prog 65 #[.string (bstr r), .string ⟨#[10]⟩] w fun e w' => e = .returned (.bool b) ∧ w' = w := by
  refine (Tryd.strings_HasSuffix (bstr r) ⟨#[10]⟩ w (by rw [bstr_size]; omega)).mono ?_
  rintro e w' ⟨rfl, rfl⟩
  refine ⟨?_, rfl⟩
  rw [bstr_list]
  show Ending.returned (.bool (hasSuffix r [10])) = _
  rw [suffix_ten, hb]
theorem trimC (w : World) (x : List UInt8) (h : endsTen x = true) (hl : x.length ≤ 67108864) :
    Calls Tryd.prog 66 #[.string (bstr x), .string ⟨#[10]⟩] w fun e w' => e = .returned (.string (bstr x.dropLast)) ∧ w' = w := by
  refine (Tryd.strings_TrimSuffix (bstr x) ⟨#[10]⟩ w (by rw [bstr_size]; omega)).mono ?_
  rintro e w' ⟨rfl, rfl⟩
  refine ⟨?_, rfl⟩
  rw [bstr_list]
  show Ending.returned (.string (bstr (trimSuffix x [10]))) = _
  rw [trim_ten h]
/-- what the pointer to the last line is -/
def LastP (o : Bool) (vl : Value) (hs : List HCell) (H : List Hk) : Prop :=
  if o = true then ∃ (D : List HCell) (c : HCell) (H' : List Hk) (k : Nat) (L : List (List UInt8)) (x : List UInt8) (gl : Nat), hs = D ++ [c] ∧ H = H' ++ [(k, L ++ [x])] ∧ c.2.1 = some ⟨gl, 0, none⟩ ∧ vl = .pointer (some ⟨gl, L.length, none⟩) ∧ endsTen x = true
  else vl = .pointer none
structure PL (B : Nat) (w1 : World) (rows : List (List UInt8)) (i p : Nat) (o : Bool) (hs : List HCell) (H : List Hk) (vo : Value) (wr : World) : Prop where
  go : parGo (rows.drop i) ⟨H, o, p⟩ = parGo rows ⟨[], false, 0⟩
  pw : PW B wr vo hs H
  bel : Below B w1 wr
  pos : p = (rows.take i).flatten.length
  cnt : H.length ≤ i
  lns : linesK (H.map toI) ≤ i
  byt : bytesK (H.map toI) ≤ p
theorem PL.start (B : Nat) (w1 : World) (rows : List (List UInt8)) : PL B w1 rows 0 0 false [] [] nilV w1 :=
  ⟨rfl, PW.start _ _, Below.refl _ _, rfl, Nat.le_refl _, Nat.le_refl _, Nat.le_refl _⟩
theorem parR_next {rows : List (List UInt8)} {i : Nat} {r : List UInt8} (h : rows[i]? = some r) (st : PSt) : parGo (rows.drop i) st = (match stepPar st r with | none => .inl st.pos | some st' => parGo (rows.drop (i + 1)) st') := by
  obtain ⟨h1, h2⟩ := List.getElem?_eq_some_iff.1 h
  rw [List.drop_eq_getElem_cons h1, h2, parGo]
  rfl
theorem flatP_next {rows : List (List UInt8)} {i : Nat} {r : List UInt8} (h : rows[i]? = some r) : (rows.take (i + 1)).flatten.length = (rows.take i).flatten.length + r.length := by
  rw [take_next h, List.flatten_append, List.length_append]
  simp
theorem flatP_le (rows : List (List UInt8)) (i : Nat) : (rows.take i).flatten.length ≤ rows.flatten.length := by
  have : rows.flatten = (rows.take i).flatten ++ (rows.drop i).flatten := by rw [← List.flatten_append, List.take_append_drop]
  rw [this, List.length_append]
  omega
theorem rowP_le {rows : List (List UInt8)} {i : Nat} {r : List UInt8} (h : rows[i]? = some r) : r.length ≤ rows.flatten.length := by
  have h1 := flatP_next h
  have h2 := flatP_le rows (i + 1)
  omega
/-- a sign and a line -/
theorem PL.put {B : Nat} {w1 wr w2 : World} {rows : List (List UInt8)} {i p k : Nat} {o : Bool} {hs hs' : List HCell} {H : List Hk} {vo vo' : Value} {x : UInt8} {rt : List UInt8} (h : PL B w1 rows i p o hs H vo wr) (hr : rows[i]? = some (x :: rt)) (hk : kindOf (x :: rt) = k) (hk0 : k ≠ 0)
    (hp : PW B w2 vo' hs' (lastPut H k rt)) (hb : Below B w1 w2) : PL B w1 rows (i + 1) (p + (rt.length + 1)) (endsTen (x :: rt)) hs' (lastPut H k rt) vo' w2 := by
  have hgo := h.go
  rw [parR_next hr] at hgo
  unfold stepPar at hgo
  rw [hk, if_pos hk0] at hgo
  have hsum := lastPut_sums H k rt
  have h1 := h.cnt
  have h2 := h.lns
  have h3 := h.byt
  refine ⟨hgo, hp, hb, by rw [flatP_next hr, ← h.pos]; rfl, by omega, by omega, by omega⟩
/-- an end taken off -/
theorem PL.off {B : Nat} {w1 wr w2 : World} {rows : List (List UInt8)} {i p : Nat} {hs : List HCell} {H : List Hk} {vo : Value} (h : PL B w1 rows i p true hs H vo wr) (hr : rows[i]? = some [92, 10]) (hne : ∀ x, H.getLast? = some x → x.2 ≠ [])
    (hp : PW B w2 vo hs (lastCut H)) (hb : Below B w1 w2) : PL B w1 rows (i + 1) (p + 2) false hs (lastCut H) vo w2 := by
  have hgo := h.go
  rw [parR_next hr] at hgo
  unfold stepPar at hgo
  rw [if_neg (by decide), if_pos ⟨rfl, rfl⟩] at hgo
  have hsum := lastCut_sums H hne
  have h1 := h.cnt
  have h2 := h.lns
  have h3 := h.byt
  refine ⟨hgo, hp, hb, by rw [flatP_next hr, ← h.pos]; rfl, by omega, by omega, by omega⟩
/-- neither -/
theorem PL.bad {B : Nat} {w1 wr : World} {rows : List (List UInt8)} {i p : Nat} {o : Bool} {hs : List HCell} {H : List Hk} {vo : Value} {r : List UInt8} (h : PL B w1 rows i p o hs H vo wr) (hr : rows[i]? = some r) (hk : kindOf r = 0) (hn : ¬ (r = [92, 10] ∧ o = true)) : parGo rows ⟨[], false, 0⟩ = .inl p := by
  have hgo := h.go
  rw [parR_next hr] at hgo
  unfold stepPar at hgo
  rw [if_neg (by omega), if_neg hn] at hgo
  exact hgo.symm
theorem PL.fit {B : Nat} {w1 wr : World} {rows : List (List UInt8)} {i p : Nat} {o : Bool} {hs : List HCell} {H : List Hk} {vo : Value} (h : PL B w1 rows i p o hs H vo wr) (hi : i ≤ 16777216) (hf : rows.flatten.length ≤ 67108864) : Fit (H.map toI) := by
  have h1 := h.cnt
  have h2 := h.lns
  have h3 := h.byt
  have h4 := h.pos
  have h5 := flatP_le rows i
  exact ⟨by rw [List.length_map]; omega, by omega, by omega⟩
theorem PL.done {B : Nat} {w1 wr : World} {rows : List (List UInt8)} {i p : Nat} {o : Bool} {hs : List HCell} {H : List Hk} {vo : Value} (h : PL B w1 rows i p o hs H vo wr) (hi : rows.length ≤ i) : parGo rows ⟨[], false, 0⟩ = .inr H := by
  have hgo := h.go
  rw [List.drop_of_length_le hi, parGo] at hgo
  exact hgo.symm
/-- the rows of a text: none is empty -/
theorem rowP_ne {s : List UInt8} {i : Nat} {r : List UInt8} (h : (splitD s)[i]? = some r) : ∃ x rt, r = x :: rt := by
  have := (line_splitD (List.mem_of_getElem? h)).1
  cases r with
  | nil => exact absurd rfl this
  | cons x rt => exact ⟨x, rt, rfl⟩
end Go.Proofs.YtnbihjocdlpplaaDoor
