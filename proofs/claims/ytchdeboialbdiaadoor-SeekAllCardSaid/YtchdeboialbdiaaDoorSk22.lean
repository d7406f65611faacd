/- Texts joined, one behind the other (SBegP, SMatch, SWorks, SRefA). -/
import Derived.Test.YtchdeboialbdiaaDoorSk21
/- Places of a text: a character begins; what utf.Begins tells. -/
namespace Go.Proofs.YtchdeboialbdiaaDoor
set_option linter.unusedVariables false
set_option linter.unusedSimpArgs false
open Go.RowKit
open Go.Lib hiding intOf
def folB (x : Nat) : Bool := decide (x / 64 = 2)
def begGo (l : List UInt8) (p : Nat) : Nat → Nat → Bool
  | 0, _ => true
  | f + 1, b => if b ≤ p then (if folB (bN l (p - b)) = true then begGo l p f (b + 1) else decide ((decodeL (l.drop (p - b))).2 ≤ b)) else true
def begB (l : List UInt8) (p : Nat) : Bool := if l.length ≤ p then decide (p = l.length) else if folB (bN l p) = true then begGo l p 3 1 else true
theorem dec_inner {X : List UInt8} {j : Nat} (h0 : 0 < j) (hj : j < (decodeL X).2) : folB (bN X j) = true := by
  rw [decodeL_N] at hj
  unfold decodeN at hj
  refine decide_eq_true ?_
  unfold bN
  have h4 : j = 1 ∨ j = 2 ∨ j = 3 ∨ 4 ≤ j := by omega
  revert hj
  repeat' split
  all_goals intro hj
  all_goals dsimp only at hj
  all_goals rcases h4 with rfl | rfl | rfl | h4
  all_goals omega
theorem chars_ge : ∀ (f : Nat) (l : List UInt8) (a p : Nat), p ∈ (charsGo f l a).map Prod.snd → a ≤ p
  | 0, l, a, p, h => by simp [charsGo] at h
  | f + 1, l, a, p, h => by
    by_cases hl : l = []
    · subst hl; simp [charsGo] at h
    · rw [charsGo_next hl, List.map_cons] at h
      rcases List.mem_cons.1 h with rfl | h
      · exact Nat.le_refl _
      · have := chars_ge f _ _ p h
        omega
theorem dec_le_chr {l : List UInt8} (hl : l ≠ []) : (decodeL l).2 ≤ (chr1 l).2 := by
  unfold chr1
  split
  · exact Nat.le_refl _
  · rename_i h
    exact Nat.le_of_eq (not_right hl h).2
theorem chr_inner {l : List UInt8} {j : Nat} (h0 : 0 < j) (hj : j < (chr1 l).2) : folB (bN l j) = true := by
  unfold chr1 at hj
  split at hj
  · exact dec_inner h0 hj
  · dsimp only at hj; omega
theorem bN_drop (l : List UInt8) (k j : Nat) : bN (l.drop k) j = bN l (k + j) := by
  unfold bN
  rw [List.getD_eq_getElem?_getD, List.getD_eq_getElem?_getD, List.getElem?_drop]
theorem chars_back : ∀ (f : Nat) (l : List UInt8) (a p t : Nat), l.length ≤ f → (p ∈ (charsGo f l a).map Prod.snd ∨ p = a + l.length) → a ≤ t → t < p → folB (bN l (t - a)) = false → (decodeL (l.drop (t - a))).2 + t ≤ p
  | 0, l, a, p, t, hf, hp, ha, ht, _ => by
    have : l.length = 0 := by omega
    rcases hp with h | h
    · simp [charsGo] at h
    · omega
  | f + 1, l, a, p, t, hf, hp, ha, ht, hfol => by
    by_cases hl : l = []
    · subst hl
      rcases hp with h | h
      · simp [charsGo] at h
      · simp at h; omega
    · have hw := chr1_width hl
      rw [charsGo_next hl, List.map_cons] at hp
      have hp2 : p ∈ (charsGo f (l.drop (chr1 l).2) (a + (chr1 l).2)).map Prod.snd ∨ p = a + (chr1 l).2 + (l.drop (chr1 l).2).length := by
        rcases hp with h | h
        · rcases List.mem_cons.1 h with h | h
          · omega
          · exact .inl h
        · right
          rw [List.length_drop]
          omega
      have hge : a + (chr1 l).2 ≤ p := by
        rcases hp2 with h | h
        · exact chars_ge f _ _ p h
        · omega
      by_cases h1 : t = a
      · subst h1
        rw [Nat.sub_self, List.drop_zero]
        have := dec_le_chr hl
        omega
      · by_cases h2 : t < a + (chr1 l).2
        · have := chr_inner (l := l) (j := t - a) (by omega) (by omega)
          rw [hfol] at this
          cases this
        · have ih := chars_back f (l.drop (chr1 l).2) (a + (chr1 l).2) p t (by rw [List.length_drop]; omega) hp2 (by omega) ht (by rw [bN_drop, show (chr1 l).2 + (t - (a + (chr1 l).2)) = t - a by omega]; exact hfol)
          rw [List.drop_drop, show (chr1 l).2 + (t - (a + (chr1 l).2)) = t - a by omega] at ih
          exact ih
theorem begGo_true (l : List UInt8) (p : Nat) (hp : p ∈ atsL l) : ∀ f b, 1 ≤ b → begGo l p f b = true
  | 0, b, _ => rfl
  | f + 1, b, hb => by
    rw [begGo]
    by_cases h1 : b ≤ p
    · rw [if_pos h1]
      by_cases h2 : folB (bN l (p - b)) = true
      · rw [if_pos h2]
        exact begGo_true l p hp f (b + 1) (by omega)
      · rw [if_neg h2]
        refine decide_eq_true ?_
        have hpp : p ∈ (charsGo l.length l 0).map Prod.snd ∨ p = 0 + l.length := by
          unfold atsL at hp
          rcases List.mem_append.1 hp with h | h
          · exact .inl h
          · rw [List.mem_singleton] at h
            exact .inr (by omega)
        have := chars_back l.length l 0 p (p - b) (Nat.le_refl _) hpp (Nat.zero_le _) (by omega) (by rw [Nat.sub_zero]; simpa using h2)
        rw [Nat.sub_zero] at this
        omega
    · rw [if_neg h1]
theorem begB_true {l : List UInt8} {p : Nat} (hp : p ∈ atsL l) (hl : p ≤ l.length) : begB l p = true := by
  unfold begB
  by_cases h1 : l.length ≤ p
  · rw [if_pos h1]
    exact decide_eq_true (by omega)
  · rw [if_neg h1]
    by_cases h2 : folB (bN l p) = true
    · rw [if_pos h2]
      exact begGo_true l p hp 3 1 (Nat.le_refl _)
    · rw [if_neg h2]
theorem fol_tab : ∀ x : Fin 256, (bits BinOp.and IntKind.u8 ((x.val : Nat) : Int) 192 == 128) = folB x.val := by decide +kernel
set_option maxHeartbeats 4000000 in
set_option maxRecDepth 100000 in
theorem followsC (w : World) (x : UInt8) : Calls Tryd.prog 61 #[.int .u8 (x.toNat : Int)] w fun e w' => e = .returned (.bool (folB x.toNat)) ∧ w' = w := by
  have h := fol_tab ⟨x.toNat, x.toNat_lt⟩
  have hx := x.toNat_lt
  have HH := Lib.hid h
  clear h
  go_enter Tryd.func61, Tryd.ntmps61
  go_wp2_with fail
  go_ret
  refine ⟨?_, rfl⟩
  rw [← HH.out]
  rfl
set_option maxHeartbeats 4000000 in
set_option maxRecDepth 100000 in
theorem beginsC (w : World) (l : List UInt8) (p : Nat) (hp : p ≤ l.length) (hm : l.length ≤ 67108864) (hT : Tabs w) : Calls Tryd.prog 38 #[.string (bstr l), .int .i64 (p : Int)] w fun e w' => e = .returned (.bool (begB l p)) ∧ Below w.heap.size w w' := by
  have hp0 : ¬ (p : Int) < 0 := by omega
  have hsz : (bstr l).size = l.length := bstr_size l
  by_cases hend : p = l.length
  · have e : begB l p = true := by unfold begB; rw [if_pos (by omega)]; exact decide_eq_true hend
    rw [e]
    have h1 : (l.length : Int) ≤ (p : Int) := by omega
    have h2 : ((p : Int) == (l.length : Int)) = true := by rw [beq_iff_eq]; omega
    clear e hend hT
    go_enter Tryd.func38, Tryd.ntmps38
    go_wp2_with fail
    go_ret
    exact ⟨rfl, Below.refl _ _⟩
  have hlt : p < l.length := by omega
  obtain ⟨x, hx⟩ := some_at hlt
  have i1 : p < (bstr l).size := by rw [hsz]; exact hlt
  have hxa : (bstr l)[p]'i1 = x := bstr_at hx _
  have hb : bN l p = x.toNat := by unfold bN; rw [List.getD_eq_getElem?_getD, hx]; rfl
  have h1 : ¬ (l.length : Int) ≤ (p : Int) := by omega
  have h1' : (p : Int) < (l.length : Int) := by omega
  have hxl := x.toNat_lt
  have HFX := Lib.hid (fun w => followsC w x)
  obtain ⟨fb, hfb⟩ : ∃ b, folB x.toNat = b := ⟨_, rfl⟩
  rw [hfb] at HFX
  cases fb with
  | false =>
    have e : begB l p = true := by unfold begB; rw [if_neg (by omega), hb, if_neg (by rw [hfb]; decide)]
    rw [e]
    clear e hfb hT hx hb
    go_enter Tryd.func38, Tryd.ntmps38
    go_wp2_with (go_at_call 61; refine (HFX.out _).mono ?_; rintro e w' ⟨rfl, rfl⟩)
    go_ret
    exact ⟨rfl, Below.refl _ _⟩
  | true =>
    have e : begB l p = begGo l p 3 1 := by unfold begB; rw [if_neg (by omega), hb, if_pos hfb]
    obtain ⟨T, hT0⟩ : ∃ T, begGo l p 3 1 = T := ⟨_, rfl⟩
    rw [e, hT0]
    have HT0 := Lib.hid hT0
    have HT := Lib.hid hT
    clear e hfb hT hx hb hT0
    go_enter Tryd.func38, Tryd.ntmps38
    go_wp2_with (go_at_call 61; refine (HFX.out _).mono ?_; rintro e w' ⟨rfl, rfl⟩)
    go_loopw [5] (fun ub wr => ∃ b : Nat, ub = .int .i64 (b : Int) ∧ 1 ≤ b ∧ b ≤ 4 ∧ wr = w' ∧ Hid (begGo l p (4 - b) b = T)) (fun ub _ => 4 - (RowKit.intOf ub).toNat)
    case atStart => exact ⟨1, rfl, by omega, by omega, rfl, HT0⟩
    case round =>
      obtain ⟨b, rfl, hb1, hb4, rfl, HI⟩ := hrel
      by_cases hgo : b < 4 ∧ b ≤ p
      · obtain ⟨hb, hbp⟩ := hgo
        obtain ⟨q, hq⟩ : ∃ q, p - b = q := ⟨_, rfl⟩
        have hq1 : (p : Int) - (b : Int) = (q : Int) := by omega
        have hq2 : IntKind.i64.wrap ((p : Int) - (b : Int)) = (q : Int) := by rw [hq1]; exact IntWalk.i64_in _ (by omega)
        have hql : q < l.length := by omega
        obtain ⟨y, hy⟩ := some_at hql
        have i2 : q < (bstr l).size := by rw [hsz]; exact hql
        have hya : (bstr l)[q]'i2 = y := bstr_at hy _
        have hby : bN l q = y.toNat := by unfold bN; rw [List.getD_eq_getElem?_getD, hy]; rfl
        have hqi : (q : Int) < (l.length : Int) := by omega
        have hqle : (q : Int) ≤ (l.length : Int) := by omega
        have hbi : (b : Int) < 4 := by omega
        have hbpi : (b : Int) ≤ (p : Int) := by omega
        have hyl := y.toNat_lt
        have hI := HI.out
        rw [show 4 - b = (3 - b) + 1 by omega, begGo, if_pos hbp, hq, hby] at hI
        have HFY := Lib.hid (fun w => followsC w y)
        obtain ⟨fy, hfy⟩ : ∃ b, folB y.toNat = b := ⟨_, rfl⟩
        rw [hfy] at HFY hI
        cases fy with
        | true =>
          rw [if_pos rfl] at hI
          have HIN := Lib.hid hI
          clear hI hfy hby hy hq
          go_wp2_with (go_at_call 61; refine (HFY.out _).mono ?_; rintro e w9 ⟨rfl, rfl⟩)
          go_roundw
          case rel => exact ⟨b + 1, by go_num, by omega, by omega, by first | rfl | trivial, by rw [show 4 - (b + 1) = 3 - b by omega]; exact HIN⟩
          case measure => simp [RowKit.intOf]; omega
        | false =>
          rw [if_neg (by decide)] at hI
          obtain ⟨D, hD⟩ : ∃ D, l.drop q = D := ⟨_, rfl⟩
          have hDn : D ≠ [] := by rw [← hD]; intro e; have := congrArg List.length e; simp at this; omega
          have hDl : D.length = l.length - q := by rw [← hD, List.length_drop]
          have hDt : D.take (l.length - q) = D := List.take_of_length_le (by omega)
          rw [hD] at hI
          have HF := Lib.hid (fun (W : World) (h : Tabs W) => firstC W D hDn h)
          obtain ⟨K, hK⟩ : ∃ K, (decodeL D).2 = K := ⟨_, rfl⟩
          obtain ⟨RR, hRR⟩ : ∃ R, (decodeL D).1 = R := ⟨_, rfl⟩
          have hKw := dec_width_four (l := D)
          rw [hK] at hI hKw
          rw [hK, hRR] at HF
          generalize decide (RightD (decodeL D)) = rb at *
          have hKb : decide (K ≤ b) = decide ((K : Int) ≤ (b : Int)) := by rw [decide_eq_decide]; omega
          have HKB := Lib.hid hKb
          have HIN := Lib.hid hI
          clear hI hfy hby hy hq hK hRR hKb
          go_wp2_with (first
            | (go_at_call 61; refine (HFY.out _).mono ?_; rintro e w9 ⟨rfl, rfl⟩)
            | (go_at_call 52; refine (HF.out _ HT.out).mono ?_; rintro e w8 ⟨rfl, hb8⟩))
          go_ret
          exact ⟨by first | (rw [← HIN.out]; rfl) | (rw [← HIN.out, HKB.out]; rfl), hb8⟩
      · have hI : T = true := by
          rw [← HI.out]
          by_cases hb : b < 4
          · rw [show 4 - b = (3 - b) + 1 by omega, begGo, if_neg (by omega)]
          · rw [show 4 - b = 0 by omega, begGo]
        subst hI
        by_cases hb : b < 4
        · have hbi : (b : Int) < 4 := by omega
          have hbp : ¬ (b : Int) ≤ (p : Int) := by omega
          have hbp2 : (p : Int) < (b : Int) := by omega
          go_wp2_with fail
          go_ret
          exact ⟨rfl, Below.refl _ _⟩
        · have hbi : ¬ (b : Int) < 4 := by omega
          have hbi2 : (4 : Int) ≤ (b : Int) := by omega
          go_wp2_with fail
          go_ret
          exact ⟨rfl, Below.refl _ _⟩
end Go.Proofs.YtchdeboialbdiaaDoor
/- The program's Match. -/
namespace Go.Proofs.YtchdeboialbdiaaDoor
set_option linter.unusedVariables false
set_option linter.unusedSimpArgs false
open Go.RowKit
open Go.Lib hiding intOf
/-- how far a pattern matches from a place -/
def matchGo (fo : Bool) (V A : List Nat) (its : List Itm) (p : Int) : Nat → Nat → Option Nat
  | 0, _ => none
  | f + 1, i => if (A.getD i 0 : Int) = p then (match longestP fo V its i with | some j => some (A.getD j 0) | none => none) else matchGo fo V A its p f (i + 1)
def matchP (fo : Bool) (l : List UInt8) (its : List Itm) (p : Int) : Option Nat := matchGo fo (valsL l) (atsL l) its p ((valsL l).length + 1) 0
def placeV (o : Option Nat) : Value := match o with
  | some y => .tuple #[.int .i64 (y : Int), .bool true]
  | none => .tuple #[.int .i64 0, .bool false]
theorem chars_lt : ∀ (f : Nat) (l : List UInt8) (a p : Nat), p ∈ (charsGo f l a).map Prod.snd → p < a + l.length
  | 0, l, a, p, h => by simp [charsGo] at h
  | f + 1, l, a, p, h => by
    by_cases hl : l = []
    · subst hl; simp [charsGo] at h
    · have hw := chr1_width hl
      rw [charsGo_next hl, List.map_cons] at h
      rcases List.mem_cons.1 h with rfl | h
      · omega
      · have := chars_lt f _ _ p h
        rw [List.length_drop] at this
        omega
theorem ats_le {l : List UInt8} {x : Nat} (h : x ∈ atsL l) : x ≤ l.length := by
  unfold atsL at h
  rcases List.mem_append.1 h with h | h
  · have := chars_lt _ _ _ _ h
    omega
  · rw [List.mem_singleton] at h
    omega
theorem matchGo_none {fo : Bool} {V A : List Nat} {its : List Itm} {p : Int} (h : ∀ x ∈ A, (x : Int) ≠ p) : ∀ f i, i + f ≤ A.length → matchGo fo V A its p f i = none
  | 0, i, _ => rfl
  | f + 1, i, hi => by
    have hx := getD_at (A := A) (k := i) (by omega)
    rw [matchGo, if_neg (h _ (List.mem_of_getElem? hx))]
    exact matchGo_none h f (i + 1) (by omega)
theorem match_none {fo : Bool} {l : List UInt8} {its : List Itm} {p : Int} (h : ∀ x ∈ atsL l, (x : Int) ≠ p) : matchP fo l its p = none := matchGo_none h _ _ (by rw [ats_len]; omega)
set_option maxHeartbeats 4000000 in
set_option maxRecDepth 100000 in
theorem matchPC (w : World) (g : Nat) (lp l : List UInt8) (fo : Bool) (its : List Itm) (at_ : Int) (hP : PatIs w g lp fo its) (hm : l.length ≤ 67108000) (hl : its.length ≤ 67108864) (hT : Tabs w) :
    Calls Tryd.prog 14 #[.pointer (some ⟨g, 0, none⟩), .string (bstr l), .int .i64 at_] w fun e w' => e = .returned (placeV (matchP fo l its at_)) ∧ Below w.heap.size w w' := by
  obtain ⟨vm, Lm, Bm, hrow, hrest⟩ := id hP
  have p1 : w.cell? ⟨g, 1, none⟩ = some (.bool true) := hrow.cell 1
  have p2 := hrow.lt
  by_cases hneg : at_ < 0
  · rw [match_none (fun x _ => by omega)]
    clear hP hrow hrest hT
    go_enter Tryd.func14, Tryd.ntmps14
    go_wp2_with fail
    go_ret2
    exact ⟨rfl, Below.refl _ _⟩
  by_cases hbig : (l.length : Int) < at_
  · rw [match_none (fun x hx => by have := ats_le hx; omega)]
    clear hP hrow hrest hT
    have hnn : 0 ≤ at_ := by omega
    have hb2 : ¬ at_ ≤ (l.length : Int) := by omega
    go_enter Tryd.func14, Tryd.ntmps14
    go_wp2_with fail
    go_ret2
    exact ⟨rfl, Below.refl _ _⟩
  obtain ⟨p, rfl⟩ : ∃ p : Nat, (p : Int) = at_ := ⟨at_.toNat, by omega⟩
  have hpl : p ≤ l.length := by omega
  have hBg := beginsC w l p hpl (by omega) hT
  have hle : (p : Int) ≤ (l.length : Int) := by omega
  have hnlt : ¬ (l.length : Int) < (p : Int) := by omega
  obtain ⟨bg, hbg⟩ : ∃ b, begB l p = b := ⟨_, rfl⟩
  rw [hbg] at hBg
  cases bg with
  | false =>
    rw [match_none (fun x hx => by
      intro e
      obtain rfl : x = p := by omega
      rw [begB_true hx hpl] at hbg
      cases hbg)]
    have HBG := Lib.hid hBg
    clear hP hrow hrest hT hBg hbg
    go_enter Tryd.func14, Tryd.ntmps14
    go_wp2_with (go_at_call 38; refine (HBG.out).mono ?_; rintro e w1 ⟨rfl, hb1⟩)
    go_ret2
    exact ⟨rfl, hb1⟩
  | true =>
    have HBG := Lib.hid hBg
    have hX := fun (W : World) (h : Below w.heap.size w W) => textOfC W l (by omega) (hT.below h hT.size)
    have hal := ats_len l
    have hvl := vals_len l
    have hok := vals_ok l
    unfold matchP
    unfold TextP at hX
    obtain ⟨V, hV⟩ : ∃ V, valsL l = V := ⟨_, rfl⟩
    obtain ⟨A, hA⟩ : ∃ A, atsL l = A := ⟨_, rfl⟩
    obtain ⟨n, hn⟩ : ∃ n, V.length = n := ⟨_, rfl⟩
    rw [hV] at hX hvl hok hal ⊢
    rw [hA] at hX hal ⊢
    rw [hn] at hX hvl hal ⊢
    have HN := Lib.hid hn
    have HAL := Lib.hid hal
    have HOK := Lib.hid hok
    have HX := Lib.hid hX
    have HP := Lib.hid hP
    obtain ⟨T, hT0⟩ : ∃ T, matchGo fo V A its (p : Int) (n + 1) 0 = T := ⟨_, rfl⟩
    rw [hT0]
    have HT0 := Lib.hid hT0
    have hnb : n ≤ 67108000 := by omega
    clear hX hal hvl hok hV hA hn hP hrow hrest hT hT0 hm hBg hbg hneg hbig
    go_enter Tryd.func14, Tryd.ntmps14
    go_wp2_with (first
      | (go_at_call 38; refine (HBG.out).mono ?_; rintro e w1 ⟨rfl, hb1⟩; have HB1 := Lib.hid hb1; clear hb1)
      | (go_at_call 39; refine (HX.out w1 HB1.out).mono ?_; rintro e w2 ⟨a, c, a2, c2, rfl, hrt, hai, hb2⟩; have HRT := Lib.hid hrt; have HAI := Lib.hid hai; have HB2 := Lib.hid (HB1.out.trans (hb2.mono HB1.out.size)); clear hrt hai hb2))
    have hw3 : ∀ W, W = w2.alloc (.cells #[.slice a n c, .slice a2 (n + 1) c2] 96) → Below w.heap.size w W ∧ Row W w2.heap.size 96 [.slice a n c, .slice a2 (n + 1) c2] := by
      rintro W rfl
      exact ⟨HB2.out.alloc HB2.out.size _, row_new w2 [.slice a n c, .slice a2 (n + 1) c2] _⟩
    have HW3 := Lib.hid hw3
    clear hw3
    go_loopw [42] (fun uk wr => ∃ k : Nat, uk = .int .i64 (k : Int) ∧ k ≤ n + 1 ∧ Hid (Below w.heap.size w wr ∧ Below w2.heap.size w2 wr ∧ Row wr w2.heap.size 96 [.slice a n c, .slice a2 (n + 1) c2] ∧ matchGo fo V A its (p : Int) (n + 1 - k) k = T)) (fun uk _ => n + 1 - (RowKit.intOf uk).toNat)
    case atStart =>
      obtain ⟨h1, h3⟩ := HW3.out _ rfl
      exact ⟨0, rfl, Nat.zero_le _, Lib.hid ⟨h1, (Below.refl _ w2).alloc (Nat.le_refl _) _, h3, HT0.out⟩⟩
    case round =>
      obtain ⟨k, rfl, hk, HR⟩ := hrel
      have t0 := HR.out.2.2.1.cell 0
      have t1 := HR.out.2.2.1.cell 1
      have t2 := HR.out.2.2.1.lt
      by_cases hlt : k < n + 1
      · obtain ⟨ga, rfl, hga, hac⟩ := HAI.out
        have x0 : wr.cell? ⟨ga, k, none⟩ = some (.int .i64 ((A.getD k 0 : Nat) : Int)) := by
          rw [World.cell?_of_block (a := ⟨ga, k, none⟩) (HR.out.2.1.block ga hga)]
          exact hac _ _ (getD_at (by rw [HAL.out]; exact hlt))
        have hT1 := HR.out.2.2.2
        rw [show n + 1 - k = (n - k) + 1 by omega, matchGo] at hT1
        obtain ⟨x, hx⟩ : ∃ x, A.getD k 0 = x := ⟨_, rfl⟩
        rw [hx] at x0 hT1
        clear hx
        have hlk : (k : Int) < ((n + 1 : Nat) : Int) := by omega
        have hlk2 : (k : Int) < (n : Int) + 1 := by omega
        by_cases hfr : (x : Int) = (p : Int)
        · rw [if_pos hfr] at hT1
          have hfr2 : ((x : Int) == (p : Int)) = true := by rw [beq_iff_eq]; exact hfr
          have hM := matchC wr g lp fo its a (some ⟨ga, 0, none⟩) n c (n + 1) c2 V k (HP.out.keep HR.out.1) (HRT.out.keep HR.out.2.1 (Nat.le_refl _)) HOK.out (by omega) (by omega) hl
          clear hfr
          cases hlo : longestP fo V its k with
          | none =>
            rw [hlo] at hM hT1
            dsimp only at hT1
            subst hT1
            have HM2 : Hid (Calls Tryd.prog 40 #[.pointer (some ⟨g, 0, none⟩), .agg #[.slice a n c, .slice (some ⟨ga, 0, none⟩) (n + 1) c2], .int .i64 (k : Int)] wr fun e w' => e = .returned (.int .i64 (-1)) ∧ Below wr.heap.size wr w') := Lib.hid hM
            clear hM hlo hac
            go_wp2_with (go_at_call 40; refine (HM2.out).mono ?_; rintro e w5 ⟨rfl, hb5⟩; have HB5 := Lib.hid hb5; clear hb5)
            go_ret2
            exact ⟨rfl, HR.out.1.trans (HB5.out.mono HR.out.1.size)⟩
          | some j =>
            rw [hlo] at hM hT1
            dsimp only at hT1
            have hjn : j ≤ n := by have := longest_le hlo; have := HN.out; omega
            have x1 : ∀ W, Below w2.heap.size w2 W → W.cell? ⟨ga, j, none⟩ = some (.int .i64 ((A.getD j 0 : Nat) : Int)) := fun W hW => by
              rw [World.cell?_of_block (a := ⟨ga, j, none⟩) (hW.block ga hga)]
              exact hac _ _ (getD_at (by rw [HAL.out]; omega))
            obtain ⟨y, hy⟩ : ∃ y, A.getD j 0 = y := ⟨_, rfl⟩
            rw [hy] at x1 hT1
            subst hT1
            have HX1 := Lib.hid x1
            have HM : Hid (Calls Tryd.prog 40 #[.pointer (some ⟨g, 0, none⟩), .agg #[.slice a n c, .slice (some ⟨ga, 0, none⟩) (n + 1) c2], .int .i64 (k : Int)] wr fun e w' => e = .returned (.int .i64 (j : Int)) ∧ Below wr.heap.size wr w') := Lib.hid hM
            have hjl : (j : Int) < ((n + 1 : Nat) : Int) := by omega
            have hjl2 : (j : Int) < (n : Int) + 1 := by omega
            clear hM hlo hac hy x1
            go_wp2_with (go_at_call 40; refine (HM.out).mono ?_; rintro e w5 ⟨rfl, hb5⟩; have y0 := HX1.out w5 (HR.out.2.1.trans (hb5.mono HR.out.2.1.size)); have k1 := HR.out.2.2.1.keep hb5 HR.out.2.2.1.lt; have k2 := k1.cell 1; have HB5 := Lib.hid hb5; clear hb5 k1)
            go_ret2
            exact ⟨rfl, HR.out.1.trans (HB5.out.mono HR.out.1.size)⟩
        · rw [if_neg hfr] at hT1
          have hfr2 : ((x : Int) == (p : Int)) = false := by rw [beq_eq_false_iff_ne]; exact hfr
          have HT1 := Lib.hid hT1
          clear hT1 hac hfr
          go_wp2_with fail
          go_roundw
          case rel => exact ⟨k + 1, by go_num, by omega, Lib.hid ⟨HR.out.1, HR.out.2.1, HR.out.2.2.1, by rw [show n + 1 - (k + 1) = n - k by omega]; exact HT1.out⟩⟩
          case measure => simp [RowKit.intOf]; omega
      · obtain rfl : k = n + 1 := by omega
        have hnl : ¬ ((n + 1 : Nat) : Int) < ((n + 1 : Nat) : Int) := by omega
        have hT1 := HR.out.2.2.2
        rw [Nat.sub_self, matchGo] at hT1
        subst hT1
        clear hlt hk
        go_wp2_with fail
        go_ret2
        exact ⟨rfl, HR.out.1⟩
end Go.Proofs.YtchdeboialbdiaaDoor
/- The statement's own check that the program works: a pattern, closed. -/
namespace Go.Proofs.YtchdeboialbdiaaDoor
set_option linter.unusedVariables false
set_option linter.unusedSimpArgs false
open Go.RowKit
open Go.Lib hiding intOf
def pat0 : List UInt8 := [91, 97, 45, 99, 93, 43, 92, 46]
def its0 : List Itm := [⟨91, false, [.rng 97 99], 1, true⟩, ⟨99, false, [.rng 46 46], 1, false⟩]
theorem pat0_items : itemsP (valsL pat0) = .inr its0 := by kernel_rfl
theorem pat0_fold : foldedP (valsL pat0) = false := by kernel_rfl
theorem pat0_match : matchP false [120, 97, 98, 46, 99] its0 1 = some 4 := by kernel_rfl
theorem pat0_find : pieceV (atsL [255, 97, 98, 46, 99]) (findP false [255, 97, 98, 46, 99] its0 0) = .tuple #[.agg #[.int .i64 1, .int .i64 4], .bool true] := by kernel_rfl
theorem pat0_none : pieceV (atsL [97, 98]) (findP false [97, 98] its0 0) = .tuple #[.agg #[.int .i64 0, .int .i64 0], .bool false] := by kernel_rfl
theorem pieceQl (w : World) (x y a b : Int) : (binOp .eql 40 (.agg #[.int .i64 x, .int .i64 y]) (.agg #[.int .i64 a, .int .i64 b])).run Tryd.prog w = .ok (.bool (x == a && y == b)) w := by
  rw [run_eql_struct]
  by_cases h1 : x = a
  · by_cases h2 : y = b
    · subst h1 h2
      go_simp
    · have q : (y == b) = false := by simpa using h2
      subst h1
      rw [q]
      go_simp
  · have q : (x == a) = false := by simpa using h1
    rw [q]
    go_simp
set_option maxHeartbeats 4000000 in
set_option maxRecDepth 100000 in
theorem worksC (w : World) (hT : Tabs w) : Calls Tryd.prog 12 #[] w fun e w' => e = .returned (.bool true) ∧ Below w.heap.size w w' := by
  have h1 : Calls Tryd.prog 10 #[.string { data := #[91, 97, 45, 99, 93, 43, 92, 46] }] w fun e w' => ∃ g, e = .returned (.tuple #[.pointer (some ⟨g, 0, none⟩), .nilIface]) ∧ PatIs w' g pat0 false its0 ∧ Below w.heap.size w w' := (compileC w pat0 (by decide) hT).mono (by
    rintro e w' ⟨hb, h⟩
    rw [if_neg (by decide), pat0_items, pat0_fold] at h
    obtain ⟨g, rfl, _, hp⟩ := h
    exact ⟨g, rfl, hp, hb⟩)
  have h2 : ∀ (W : World) (g : Nat), PatIs W g pat0 false its0 → Below w.heap.size w W → Calls Tryd.prog 14 #[.pointer (some ⟨g, 0, none⟩), .string { data := #[120, 97, 98, 46, 99] }, .int .i64 1] W fun e w' => e = .returned (.tuple #[.int .i64 4, .bool true]) ∧ Below W.heap.size W w' := fun W g hp hb => by
    have := matchPC W g pat0 [120, 97, 98, 46, 99] false its0 1 hp (by decide) (by decide) (hT.below hb hT.size)
    rw [pat0_match] at this
    exact this
  have h3 : ∀ (W : World) (g : Nat), PatIs W g pat0 false its0 → Below w.heap.size w W → Calls Tryd.prog 16 #[.pointer (some ⟨g, 0, none⟩), .string { data := #[255, 97, 98, 46, 99] }, .int .i64 0] W fun e w' => e = .returned (.tuple #[.agg #[.int .i64 1, .int .i64 4], .bool true]) ∧ Below W.heap.size W w' := fun W g hp hb => by
    have := findC W g pat0 [255, 97, 98, 46, 99] false its0 0 hp (by decide) (by decide) (hT.below hb hT.size)
    rw [pat0_find] at this
    exact this
  have h4 : ∀ (W : World) (g : Nat), PatIs W g pat0 false its0 → Below w.heap.size w W → Calls Tryd.prog 16 #[.pointer (some ⟨g, 0, none⟩), .string { data := #[97, 98] }, .int .i64 0] W fun e w' => e = .returned (.tuple #[.agg #[.int .i64 0, .int .i64 0], .bool false]) ∧ Below W.heap.size W w' := fun W g hp hb => by
    have := findC W g pat0 [97, 98] false its0 0 hp (by decide) (by decide) (hT.below hb hT.size)
    rw [pat0_none] at this
    exact this
  have pq := fun w => pieceQl w 1 4 1 4
  have H1 := Lib.hid h1
  have H2 := Lib.hid h2
  have H3 := Lib.hid h3
  have H4 := Lib.hid h4
  clear h1 h2 h3 h4 hT
  go_enter Tryd.func12, Tryd.ntmps12
  go_wp2_with (first
    | (go_at_call 10; with_reducible refine (H1.out).mono ?_; rintro e w1 ⟨g, rfl, hp1, hb1⟩; have HP1 := Lib.hid hp1; have HB1 := Lib.hid hb1; clear hp1 hb1)
    | (go_at_call 14; with_reducible refine (H2.out _ _ HP1.out HB1.out).mono ?_; rintro e w2 ⟨rfl, hb2⟩; have HP2 := Lib.hid (HP1.out.keep hb2); have HB2 := Lib.hid (HB1.out.trans (hb2.mono HB1.out.size)); clear hb2)
    | (go_at_call 16; with_reducible refine (H3.out _ _ HP2.out HB2.out).mono ?_; rintro e w3 ⟨rfl, hb3⟩; have HP3 := Lib.hid (HP2.out.keep hb3); have HB3 := Lib.hid (HB2.out.trans (hb3.mono HB2.out.size)); clear hb3)
    | (go_at_call 16; go_loud (with_reducible refine (H4.out (w3.alloc (.cells #[.int .i64 1, .int .i64 4] 40)) _ (HP3.out.keep ((Below.refl _ w3).alloc (Nat.le_refl _) _)) (HB3.out.alloc HB3.out.size _)).mono ?_); go_loud (rintro e w4 ⟨rfl, hb4⟩); go_loud (have c0 : w4.cell? ⟨w3.heap.size, 0, none⟩ = some (.int .i64 1) := (((row_new w3 [.int .i64 1, .int .i64 4] 40)).keep hb4 (by rw [World.size_alloc]; omega)).cell 0); go_loud (have c1 : w4.cell? ⟨w3.heap.size, 1, none⟩ = some (.int .i64 4) := (((row_new w3 [.int .i64 1, .int .i64 4] 40)).keep hb4 (by rw [World.size_alloc]; omega)).cell 1); go_loud (have hsl : w3.heap.size < w4.heap.size := (by have := hb4.size; rw [World.size_alloc] at this; omega)); go_loud (have HB4 := Lib.hid ((HB3.out.alloc HB3.out.size (.cells #[.int .i64 1, .int .i64 4] 40)).trans (hb4.mono (by have := HB3.out.size; rw [World.size_alloc]; omega)))); clear hb4))
  go_ret
  exact ⟨rfl, HB4.out.alloc HB4.out.size _⟩
end Go.Proofs.YtchdeboialbdiaaDoor
/- The reference's first character: May, number, begins, Sequence, First. -/
namespace Go.Proofs.YtchdeboialbdiaaDoor
set_option linter.unusedVariables false
set_option linter.unusedSimpArgs false
open Go.RowKit
open Go.Lib hiding intOf
abbrev U1 (n : Nat) : Value := .int .u8 (n : Int)
set_option maxHeartbeats 4000000 in
set_option maxRecDepth 100000 in
theorem mayR6 (w : World) (r : Int) : Calls Tryd.prog 48 #[.int .i32 r] w fun e w' => e = .returned (.bool (mayI r)) ∧ w' = w := by
  unfold mayI
  by_cases a : 0 ≤ r
  · by_cases b : r ≤ 1114111
    · by_cases c : r < 55296
      · rw [decide_eq_true a, decide_eq_true b, decide_eq_true c]
        go_enter Tryd.func48, Tryd.ntmps48
        go_wp2_with fail
        go_ret
        exact ⟨rfl, rfl⟩
      · by_cases d : 57343 < r
        · rw [decide_eq_true a, decide_eq_true b, decide_eq_false c, decide_eq_true d]
          go_enter Tryd.func48, Tryd.ntmps48
          go_wp2_with fail
          go_ret
          exact ⟨rfl, rfl⟩
        · rw [decide_eq_true a, decide_eq_true b, decide_eq_false c, decide_eq_false d]
          go_enter Tryd.func48, Tryd.ntmps48
          go_wp2_with fail
          go_ret
          exact ⟨rfl, rfl⟩
    · rw [decide_eq_true a, decide_eq_false b, Bool.and_false, Bool.false_and]
      go_enter Tryd.func48, Tryd.ntmps48
      go_wp2_with fail
      go_ret
      exact ⟨rfl, rfl⟩
  · rw [decide_eq_false a, Bool.false_and, Bool.false_and]
    go_enter Tryd.func48, Tryd.ntmps48
    go_wp2_with fail
    go_ret
    exact ⟨rfl, rfl⟩
/-- a number's part: of the first i bytes of k -/
def numPart (l : List UInt8) (b : Int) : Nat → Int
  | 0 => 0
  | 1 => (bN l 0 : Int) - b
  | i + 1 => numPart l b i * 64 + bN l i % 64
theorem byte_at {l : List UInt8} {i : Nat} (h : i < l.length) : ∃ x : UInt8, l[i]? = some x ∧ bN l i = x.toNat := by
  obtain ⟨x, hx⟩ := some_at h
  exact ⟨x, hx, by unfold bN; rw [List.getD_eq_getElem?_getD, hx]; rfl⟩
theorem part_next (l : List UInt8) (b : Int) (i : Nat) (h : 1 ≤ i) : numPart l b (i + 1) = numPart l b i * 64 + bN l i % 64 := by
  obtain ⟨j, rfl⟩ : ∃ j, i = j + 1 := ⟨i - 1, by omega⟩
  rfl
theorem part_bound (l : List UInt8) (b : Int) (h0 : 0 ≤ b) (h1 : b ≤ 256) (i : Nat) (hi : 1 ≤ i) (h4 : i ≤ 4) : -100000000 ≤ numPart l b i ∧ numPart l b i ≤ 100000000 := by
  have b0 := bN_lt l 0
  have b1 := bN_lt l 1
  have b2 := bN_lt l 2
  have b3 := bN_lt l 3
  have h : i = 1 ∨ i = 2 ∨ i = 3 ∨ i = 4 := by omega
  rcases h with rfl | rfl | rfl | rfl
  · show -100000000 ≤ (bN l 0 : Int) - b ∧ (bN l 0 : Int) - b ≤ _; omega
  · show -100000000 ≤ ((bN l 0 : Int) - b) * 64 + bN l 1 % 64 ∧ ((bN l 0 : Int) - b) * 64 + bN l 1 % 64 ≤ _; omega
  · show -100000000 ≤ (((bN l 0 : Int) - b) * 64 + bN l 1 % 64) * 64 + bN l 2 % 64 ∧ (((bN l 0 : Int) - b) * 64 + bN l 1 % 64) * 64 + bN l 2 % 64 ≤ _; omega
  · show -100000000 ≤ ((((bN l 0 : Int) - b) * 64 + bN l 1 % 64) * 64 + bN l 2 % 64) * 64 + bN l 3 % 64 ∧ ((((bN l 0 : Int) - b) * 64 + bN l 1 % 64) * 64 + bN l 2 % 64) * 64 + bN l 3 % 64 ≤ _; omega
theorem part_num (l : List UInt8) (k : Nat) (hk : k = 2 ∨ k = 3 ∨ k = 4) : numI l k = numPart l (if k = 2 then 192 else if k = 3 then 224 else 240) k := by
  rcases hk with rfl | rfl | rfl <;> rfl
set_option maxHeartbeats 4000000 in
set_option maxRecDepth 100000 in
theorem numberR6 (w : World) (l : List UInt8) (k : Nat) (h1 : 1 ≤ k) (h4 : k ≤ 4) (hl : k ≤ l.length) (hm : l.length ≤ 140737488355328) : Calls Tryd.prog 67 #[.string (bstr l), .int .i64 (k : Int)] w fun e w' => e = .returned (.int .i32 (numI l k)) ∧ Quiet w w' := by
  have hsz : (bstr l).size = l.length := bstr_size l
  obtain ⟨x, hx, hb⟩ := byte_at (l := l) (i := 0) (by omega)
  have i1 : 0 < (bstr l).size := by rw [hsz]; omega
  have hxa : (bstr l)[0]'i1 = x := bstr_at hx _
  have hxl := x.toNat_lt
  have hli : (0 : Int) < (l.length : Int) := by omega
  by_cases hk1 : k = 1
  · subst hk1
    have e : numI l 1 = (x.toNat : Int) := by show (bN l 0 : Int) = _; rw [hb]
    rw [e]
    clear e hx hb
    go_enter Tryd.func67, Tryd.ntmps67
    go_wp2_with fail
    go_ret
    exact ⟨rfl, Quiet.refl _⟩
  have hk : k = 2 ∨ k = 3 ∨ k = 4 := by omega
  obtain ⟨b, hbb, hb0, hb1⟩ : ∃ b : Int, b = (if k = 2 then 192 else if k = 3 then 224 else 240) ∧ 0 ≤ b ∧ b ≤ 256 := ⟨_, rfl, by rcases hk with rfl | rfl | rfl <;> decide, by rcases hk with rfl | rfl | rfl <;> decide⟩
  rw [part_num l k hk, ← hbb]
  have HP1 : Hid (numPart l b 1 = (x.toNat : Int) - b) := Lib.hid (by show (bN l 0 : Int) - b = _; rw [hb])
  have HPN := Lib.hid (part_next l b)
  have HPB := Lib.hid (part_bound l b hb0 hb1)
  have hk1f : ((k : Int) == 1) = false := by rw [beq_eq_false_iff_ne]; omega
  have hw : IntKind.i64.wrap ((256 : Int) - (256 : Int) / 2 ^ k) = b := by
    rw [hbb]
    rcases hk with rfl | rfl | rfl <;> decide
  have hw2 : (256 : Int) - (256 : Int) / 2 ^ k = b := by
    rw [hbb]
    rcases hk with rfl | rfl | rfl <;> decide
  clear hx hb hbb
  go_enter Tryd.func67, Tryd.ntmps67
  go_wp2_with fail
  go_quiet (fail)
  go_wp2_with fail
  go_loopw [5, 6] (fun un ui wr => ∃ i : Nat, ui = .int .i64 (i : Int) ∧ un = .int .i64 (numPart l b i) ∧ 1 ≤ i ∧ i ≤ k ∧ wr = w.drewN nq) (fun _ ui _ => k - (RowKit.intOf ui).toNat)
  case atStart => exact ⟨1, rfl, by rw [HP1.out], Nat.le_refl _, h1, rfl⟩
  case round =>
    obtain ⟨i, rfl, rfl, hi1, hik, rfl⟩ := hrel
    have hpb := HPB.out i hi1 (by omega)
    by_cases hlt : i < k
    · obtain ⟨y, hy, hby⟩ := byte_at (l := l) (i := i) (by omega)
      have i2 : i < (bstr l).size := by rw [hsz]; omega
      have hya : (bstr l)[i]'i2 = y := bstr_at hy _
      have hyl := y.toNat_lt
      have hik2 : (i : Int) < (k : Int) := by omega
      have hil : (i : Int) < (l.length : Int) := by omega
      have hn := HPN.out i hi1
      have hnb := HPB.out (i + 1) (by omega) (by omega)
      rw [hby] at hn
      have hmd : (y.toNat : Int).tmod 64 = (y.toNat : Int) % 64 := Int.tmod_eq_emod_of_nonneg (by omega)
      obtain ⟨r, hr⟩ : ∃ r, (y.toNat : Int) % 64 = r := ⟨_, rfl⟩
      rw [hr] at hn hmd
      have hrb : 0 ≤ r ∧ r < 64 := by omega
      obtain ⟨hr0, hr1⟩ := hrb
      obtain ⟨P, hP⟩ : ∃ P, numPart l b i = P := ⟨_, rfl⟩
      obtain ⟨P2, hP2⟩ : ∃ P, numPart l b (i + 1) = P := ⟨_, rfl⟩
      rw [hP] at hn hpb ⊢
      rw [hP2] at hn hnb
      have HN := Lib.hid hn
      have HP2 := Lib.hid hP2
      clear hr hn hy hby hP hP2
      go_wp2_with fail
      go_roundw
      case rel => exact ⟨i + 1, by go_num, by rw [HP2.out, HN.out], by omega, by omega, by first | rfl | trivial⟩
      case measure => simp [RowKit.intOf]; omega
    · obtain rfl : i = k := by omega
      have hnl : ¬ (i : Int) < (i : Int) := by omega
      obtain ⟨P, hP⟩ : ∃ P, numPart l b i = P := ⟨_, rfl⟩
      rw [hP] at hpb ⊢
      have HP := Lib.hid hP
      clear hP hlt
      go_wp2_with fail
      go_ret
      exact ⟨by rw [HP.out]; rfl, ⟨nq, rfl⟩⟩
/-- do the bytes begin with these? -/
def begU (l : List UInt8) (X : List Nat) (i : Nat) : Prop := ∀ k, k < i → bN l k = X.getD k 0
theorem beg_true {l : List UInt8} {X : List Nat} (h : X.length ≤ l.length) (hb : begU l X X.length) : begN l X = true := by
  unfold begN
  rw [Bool.and_eq_true]
  refine ⟨decide_eq_true h, List.all_eq_true.2 fun k hk => decide_eq_true (hb k (List.mem_range.1 hk))⟩
theorem beg_false {l : List UInt8} {X : List Nat} {k : Nat} (hk : k < X.length) (h : bN l k ≠ X.getD k 0) : begN l X = false := by
  unfold begN
  rw [Bool.and_eq_false_iff]
  right
  rw [List.all_eq_false]
  exact ⟨k, List.mem_range.2 hk, by simpa using h⟩
set_option maxHeartbeats 4000000 in
set_option maxRecDepth 100000 in
theorem beginsR6 (w : World) (l : List UInt8) (a : Option Addr) (n c : Nat) (X : List Nat) (hX : X.length = n) (hr : Reads w a n (X.map U1)) (hn : n ≤ 8) (hm : l.length ≤ 140737488355328) : Calls Tryd.prog 68 #[.string (bstr l), .slice a n c] w fun e w' => e = .returned (.bool (begN l X)) ∧ Quiet w w' := by
  have hsz : (bstr l).size = l.length := bstr_size l
  by_cases hll : l.length < n
  · have e : begN l X = false := by unfold begN; rw [decide_eq_false (by omega), Bool.false_and]
    have h1 : (l.length : Int) < (n : Int) := by omega
    rw [e]
    clear e hr
    go_enter Tryd.func68, Tryd.ntmps68
    go_wp2_with fail
    go_ret
    exact ⟨rfl, Quiet.refl _⟩
  have h1 : ¬ (l.length : Int) < (n : Int) := by omega
  have HX := Lib.hid hX
  have HR := Lib.hid hr
  clear hX hr
  go_enter Tryd.func68, Tryd.ntmps68
  go_wp2_with fail
  go_loopw [5] (fun ui wr => ∃ i : Nat, ui = .int .i64 (i : Int) ∧ i ≤ n ∧ Hid (begU l X i ∧ Quiet w wr)) (fun ui _ => n - (RowKit.intOf ui).toNat)
  case atStart => exact ⟨0, rfl, Nat.zero_le _, Lib.hid ⟨fun k hk => by omega, Quiet.refl _⟩⟩
  case round =>
    obtain ⟨i, rfl, hi, HI⟩ := hrel
    by_cases hlt : i < n
    · obtain ⟨y, hy, hby⟩ := byte_at (l := l) (i := i) (by omega)
      have i2 : i < (bstr l).size := by rw [hsz]; omega
      have hya : (bstr l)[i]'i2 = y := bstr_at hy _
      have hin : (i : Int) < (n : Int) := by omega
      have hil : (i : Int) < (l.length : Int) := by omega
      obtain ⟨b1, o1, x, rfl, hb1, hx, hcx⟩ := (HR.out.quiet HI.out.2).at (k := i) hlt
      rw [List.getElem?_map] at hx
      obtain ⟨z, hz⟩ : ∃ z, X.getD i 0 = z := ⟨_, rfl⟩
      have hxz : x = U1 z := by
        rw [List.getElem?_eq_getElem (by rw [HX.out]; exact hlt)] at hx
        have h2 := Option.some.inj hx
        rw [List.getD_eq_getElem?_getD, List.getElem?_eq_getElem (by rw [HX.out]; exact hlt)] at hz
        rw [← h2, ← hz]
        rfl
      subst hxz
      have HZ := Lib.hid hz
      have HBY := Lib.hid hby
      clear hx hz hby hy
      by_cases he : y.toNat = z
      · have hbe : ((y.toNat : Int) != (z : Int)) = false := by simp; omega
        have HE := Lib.hid he
        clear he
        go_wp2_with fail
        go_quiet (fail)
        go_wp2_with fail
        go_roundw
        case rel => exact ⟨i + 1, by go_num, by omega, Lib.hid ⟨fun k hk => by
          by_cases hki : k = i
          · rw [hki, HBY.out, HZ.out, HE.out]
          · exact HI.out.1 k (by omega), HI.out.2.drewN _⟩⟩
        case measure => simp [RowKit.intOf]; omega
      · have hbe : ((y.toNat : Int) != (z : Int)) = true := by simp; omega
        have e : begN l X = false := beg_false (k := i) (by rw [HX.out]; exact hlt) (by rw [HBY.out, HZ.out]; exact he)
        have HE := Lib.hid e
        clear e he
        go_wp2_with fail
        go_quiet (fail)
        go_wp2_with fail
        go_ret
        exact ⟨by rw [HE.out]; rfl, HI.out.2.drewN _⟩
    · obtain rfl : i = n := by omega
      have hnl : ¬ (i : Int) < (i : Int) := by omega
      have e : begN l X = true := beg_true (by rw [HX.out]; omega) (by rw [HX.out]; exact HI.out.1)
      have HE := Lib.hid e
      clear e hlt
      go_wp2_with fail
      go_ret
      exact ⟨by rw [HE.out]; rfl, HI.out.2⟩
theorem div_nat (n k : Nat) (hk : 0 < k) : (n : Int).tdiv (k : Int) = ((n / k : Nat) : Int) := by
  rw [Int.tdiv_eq_ediv_of_nonneg (by omega)]
  rfl
theorem mod_nat (n k : Nat) : (n : Int).tmod (k : Int) = ((n % k : Nat) : Int) := by
  rw [Int.tmod_eq_emod_of_nonneg (by omega)]
  rfl
theorem u_reads {W : World} {g : Nat} {t : TypeId} {xs : List Value} {X : List Nat} (hR : Row W g t xs) (hx : xs = X.map U1) : Reads W (some ⟨g, 0, none⟩) X.length (X.map U1) := by
  have := hR.reads 0 xs.length (by omega)
  rw [List.drop_zero, List.take_length] at this
  subst hx
  rwa [List.length_map] at this
def SeqR (w : World) (X : List Nat) (e : Ending) (w' : World) : Prop :=
  ∃ a, e = .returned (.slice a X.length X.length) ∧ Reads w' a X.length (X.map U1) ∧ Below w.heap.size w w'
set_option maxHeartbeats 4000000 in
set_option maxRecDepth 100000 in
theorem seqR6 (w : World) (n : Nat) (hn : n ≤ 1114111) : Calls Tryd.prog 69 #[.int .i32 (n : Int)] w (SeqR w (seqN n)) := by
  unfold seqN
  by_cases h1 : n < 128
  · rw [if_pos h1]
    have i1 : (n : Int) < 128 := by omega
    go_enter Tryd.func69, Tryd.ntmps69
    go_wp2_with fail
    go_ret
    exact ⟨_, rfl, u_reads (row_new w [U1 n] _) rfl, (Below.refl _ w).alloc (Nat.le_refl _) _⟩
  rw [if_neg h1]
  have i1 : ¬ (n : Int) < 128 := by omega
  by_cases h2 : n < 2048
  · rw [if_pos h2]
    have i2 : (n : Int) < 2048 := by omega
    have q1 := div_nat n 64 (by decide)
    have q2 := mod_nat n 64
    obtain ⟨q, hq⟩ : ∃ q, n / 64 = q := ⟨_, rfl⟩
    obtain ⟨r, hr⟩ : ∃ r, n % 64 = r := ⟨_, rfl⟩
    have hqb : q < 32 := by omega
    have hrb : r < 64 := by omega
    rw [hq] at q1 ⊢
    rw [hr] at q2 ⊢
    rw [show ((64 : Nat) : Int) = 64 from rfl] at q1 q2
    clear hq hr
    go_enter Tryd.func69, Tryd.ntmps69
    go_wp2_with fail
    go_ret
    exact ⟨_, rfl, u_reads (row_new w _ _) rfl, (Below.refl _ w).alloc (Nat.le_refl _) _⟩
  rw [if_neg h2]
  have i2 : ¬ (n : Int) < 2048 := by omega
  by_cases h3 : n < 65536
  · rw [if_pos h3]
    have i3 : (n : Int) < 65536 := by omega
    have q1 := div_nat n 4096 (by decide)
    have q3 := div_nat n 64 (by decide)
    have q2 := mod_nat n 64
    have q4 := mod_nat (n / 64) 64
    obtain ⟨q, hq⟩ : ∃ q, n / 4096 = q := ⟨_, rfl⟩
    obtain ⟨r, hr⟩ : ∃ r, n % 64 = r := ⟨_, rfl⟩
    obtain ⟨s, hs⟩ : ∃ s, n / 64 % 64 = s := ⟨_, rfl⟩
    obtain ⟨u, hu⟩ : ∃ u, n / 64 = u := ⟨_, rfl⟩
    have hqb : q < 16 := by omega
    have hrb : r < 64 := by omega
    have hsb : s < 64 := by omega
    have hub : u < 1024 := by omega
    rw [hq] at q1 ⊢
    rw [hr] at q2 ⊢
    rw [hs] at q4 ⊢
    rw [hu] at q3 q4
    rw [show ((64 : Nat) : Int) = 64 from rfl] at q2 q3 q4
    rw [show ((4096 : Nat) : Int) = 4096 from rfl] at q1
    clear hq hr hs hu
    go_enter Tryd.func69, Tryd.ntmps69
    go_wp2_with fail
    go_ret
    exact ⟨_, rfl, u_reads (row_new w _ _) rfl, (Below.refl _ w).alloc (Nat.le_refl _) _⟩
  rw [if_neg h3]
  have i3 : ¬ (n : Int) < 65536 := by omega
  have q1 := div_nat n 262144 (by decide)
  have q2 := mod_nat n 64
  have q3 := div_nat n 64 (by decide)
  have q4 := mod_nat (n / 64) 64
  have q5 := div_nat n 4096 (by decide)
  have q6 := mod_nat (n / 4096) 64
  obtain ⟨q, hq⟩ : ∃ q, n / 262144 = q := ⟨_, rfl⟩
  obtain ⟨r, hr⟩ : ∃ r, n % 64 = r := ⟨_, rfl⟩
  obtain ⟨s, hs⟩ : ∃ s, n / 64 % 64 = s := ⟨_, rfl⟩
  obtain ⟨t, ht⟩ : ∃ t, n / 4096 % 64 = t := ⟨_, rfl⟩
  obtain ⟨u, hu⟩ : ∃ u, n / 64 = u := ⟨_, rfl⟩
  obtain ⟨v, hv⟩ : ∃ v, n / 4096 = v := ⟨_, rfl⟩
  have hqb : q < 8 := by omega
  have hrb : r < 64 := by omega
  have hsb : s < 64 := by omega
  have htb : t < 64 := by omega
  have hub : u < 65536 := by omega
  have hvb : v < 65536 := by omega
  rw [hq] at q1 ⊢
  rw [hr] at q2 ⊢
  rw [hs] at q4 ⊢
  rw [ht] at q6 ⊢
  rw [hu] at q3 q4
  rw [hv] at q5 q6
  rw [show ((64 : Nat) : Int) = 64 from rfl] at q2 q3 q4 q6
  rw [show ((4096 : Nat) : Int) = 4096 from rfl] at q5
  rw [show ((262144 : Nat) : Int) = 262144 from rfl] at q1
  clear hq hr hs ht hu hv
  go_enter Tryd.func69, Tryd.ntmps69
  go_wp2_with fail
  go_ret
  exact ⟨_, rfl, u_reads (row_new w _ _) rfl, (Below.refl _ w).alloc (Nat.le_refl _) _⟩
end Go.Proofs.YtchdeboialbdiaaDoor
