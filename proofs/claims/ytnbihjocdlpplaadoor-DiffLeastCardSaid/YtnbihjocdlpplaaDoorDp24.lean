/- Texts joined, one behind the other (LDiffLeast). -/
import Derived.Test.YtnbihjocdlpplaaDoorDp23
/- DiffLeast: the walk. -/
namespace Go.Proofs.YtnbihjocdlpplaaDoor
set_option linter.unusedVariables false
set_option linter.unusedSimpArgs false
open Go.RowKit
open Go.Lib hiding intOf
def goodL (s : List UInt8) : Prop := (∃ t, s = t ++ [10] ∧ ∀ b ∈ t, plainB b) ∧ s.length ≤ 21
theorem good_letter (x : UInt8) : goodL (letB x ++ [10]) := ⟨⟨_, rfl, letB_plain x⟩, by show 2 ≤ 21; decide⟩
theorem good_bare (l : List UInt8) : goodL (bareL l ++ [10]) := ⟨⟨_, rfl, bareL_plain l⟩, by have := bareL_len l; rw [List.length_append, List.length_singleton]; omega⟩
def opLine : Op7 → List UInt8
  | .same s => s
  | .gone s => s
  | .come s => s
def AL (ops : List Op7) : List UInt8 := (ops.flatMap lineA).flatten
def BL (ops : List Op7) : List UInt8 := (ops.flatMap lineB).flatten
theorem AL_app (a b : List Op7) : AL (a ++ b) = AL a ++ AL b := by unfold AL; rw [List.flatMap_append, List.flatten_append]
theorem BL_app (a b : List Op7) : BL (a ++ b) = BL a ++ BL b := by unfold BL; rw [List.flatMap_append, List.flatten_append]
theorem cost_app (a b : List Op7) : costOps (a ++ b) = costOps a + costOps b := by unfold costOps; rw [List.map_append, List.sum_append]
def GoodO (ops : List Op7) : Prop := ∀ o ∈ ops, goodL (opLine o)
theorem goodO_app {a b : List Op7} (ha : GoodO a) (hb : GoodO b) : GoodO (a ++ b) := fun o ho => (List.mem_append.1 ho).elim (ha o) (hb o)
theorem goodO_lines {ops : List Op7} (h : GoodO ops) : (∀ s ∈ ops.flatMap lineA, goodL s) ∧ (∀ s ∈ ops.flatMap lineB, goodL s) := by
  constructor
  · intro s hs
    obtain ⟨o, ho, hso⟩ := List.mem_flatMap.1 hs
    have := h o ho
    cases o <;> simp [lineA] at hso <;> (subst hso; exact this)
  · intro s hs
    obtain ⟨o, ho, hso⟩ := List.mem_flatMap.1 hs
    have := h o ho
    cases o <;> simp [lineB] at hso <;> (subst hso; exact this)
theorem ops_len (ops : List Op7) : (ops.flatMap lineA).length ≤ ops.length ∧ (ops.flatMap lineB).length ≤ ops.length := by
  induction ops with
  | nil => exact ⟨Nat.le_refl _, Nat.le_refl _⟩
  | cons o r ih =>
    rw [List.flatMap_cons, List.flatMap_cons, List.length_append, List.length_append, List.length_cons]
    have h1 : (lineA o).length ≤ 1 := by cases o <;> simp [lineA]
    have h2 : (lineB o).length ≤ 1 := by cases o <;> simp [lineB]
    omega
theorem flat_len21 : ∀ L : List (List UInt8), (∀ s ∈ L, goodL s) → L.flatten.length ≤ L.length * 21
  | [], _ => Nat.zero_le _
  | s :: L, h => by
    have h1 := (h s (by simp)).2
    have h2 := flat_len21 L (fun x hx => h x (List.mem_cons_of_mem _ hx))
    rw [List.flatten_cons, List.length_append, List.length_cons]
    omega
theorem cost_len (ops : List Op7) : costOps ops ≤ ops.length := by
  induction ops with
  | nil => exact Nat.le_refl _
  | cons o r ih =>
    have : costOps (o :: r) = costOp o + costOps r := by unfold costOps; rw [List.map_cons, List.sum_cons]
    rw [this, List.length_cons]
    have h1 : costOp o ≤ 1 := by cases o <;> simp [costOp]
    omega
theorem least_facts {ops : List Op7} (h : GoodO ops) (hl : ops.length ≤ 180) :
    splitD (AL ops) = ops.flatMap lineA ∧ splitD (BL ops) = ops.flatMap lineB ∧ (AL ops).length ≤ 3780 ∧ (BL ops).length ≤ 3780 := by
  obtain ⟨g1, g2⟩ := goodO_lines h
  obtain ⟨l1, l2⟩ := ops_len ops
  refine ⟨splitD_good _ (fun s hs => (g1 s hs).1), splitD_good _ (fun s hs => (g2 s hs).1), ?_, ?_⟩
  · have := flat_len21 _ g1
    show (ops.flatMap lineA).flatten.length ≤ _
    omega
  · have := flat_len21 _ g2
    show (ops.flatMap lineB).flatten.length ≤ _
    omega
theorem least_end {ops : List Op7} (h : GoodO ops) (hl : ops.length ≤ 180) :
    linesE (splitD (AL ops)) (splitD (BL ops)) = 0 ∧ Fit ((linesH (splitD (AL ops)) (splitD (BL ops))).map toI) ∧ distI ((linesH (splitD (AL ops)) (splitD (BL ops))).map toI) ≤ costOps ops := by
  obtain ⟨e1, e2, b1, b2⟩ := least_facts h hl
  obtain ⟨l1, l2⟩ := ops_len ops
  have hA : (splitD (AL ops)).length ≤ 512 := by rw [e1]; omega
  have hB : (splitD (BL ops)).length ≤ 512 := by rw [e2]; omega
  have ht : ¬ tooL (splitD (AL ops)) (splitD (BL ops)) := fun h' => by unfold tooL at h'; omega
  refine ⟨by unfold linesE; rw [if_neg ht], ?_, ?_⟩
  · unfold linesH
    rw [if_neg ht]
    exact patch_fit hA hB (by omega)
  · unfold linesH
    rw [if_neg ht, distI_to, patch_dist, e1, e2]
    exact dist_min ops
theorem u8_at {W : World} {a : Option Addr} {n : Nat} {X : List UInt8} (h : Reads W a n (X.map B8)) {k : Nat} (hk : k < n) : ∃ b off x, a = some ⟨b, off, none⟩ ∧ b < W.heap.size ∧ W.cell? ⟨b, off + k, none⟩ = some (.int .u8 ((x : UInt8).toNat : Int)) := by
  obtain ⟨b, off, x, ha, hb, hx, hc⟩ := Reads.at h hk
  rw [List.getElem?_map] at hx
  obtain ⟨y, hy, rfl⟩ := Option.map_eq_some_iff.1 hx
  exact ⟨b, off, y, ha, hb, hc⟩
theorem textSum_mem {L : List (List UInt8)} {s : List UInt8} (h : s ∈ L) : s.length ≤ textSum L := by
  induction L with
  | nil => cases h
  | cons x r ih =>
    have e : textSum (x :: r) = (x.length + 1) + textSum r := by unfold textSum; rw [List.map_cons, List.sum_cons]
    rw [e]
    rcases List.mem_cons.1 h with rfl | h
    · omega
    · have := ih h; omega
theorem AL_gone (s : List UInt8) : AL [.gone s] = s := by simp [AL, lineA]
theorem AL_come (s : List UInt8) : AL [.come s] = [] := by simp [AL, lineA]
theorem AL_same (s : List UInt8) : AL [.same s] = s := by simp [AL, lineA]
theorem AL_nil : AL [] = [] := rfl
theorem BL_gone (s : List UInt8) : BL [.gone s] = [] := by simp [BL, lineB]
theorem BL_come (s : List UInt8) : BL [.come s] = s := by simp [BL, lineB]
theorem BL_same (s : List UInt8) : BL [.same s] = s := by simp [BL, lineB]
theorem BL_nil : BL [] = [] := rfl
theorem cost_gone (s : List UInt8) : costOps [.gone s] = 1 := rfl
theorem cost_come (s : List UInt8) : costOps [.come s] = 1 := rfl
theorem cost_same (s : List UInt8) : costOps [.same s] = 0 := rfl
theorem cost_nil : costOps [] = 0 := rfl
theorem goodO_one {o : Op7} (h : goodL (opLine o)) : GoodO [o] := fun p hp => by rw [List.mem_singleton.1 hp]; exact h
theorem goodO_nil : GoodO [] := fun _ h => by cases h
/-- what is carried round the loop -/
def Lst (w : World) (i : Nat) (ops : List Op7) (A B : List UInt8) (k : Nat) (wr : World) : Prop :=
  A = AL ops ∧ B = BL ops ∧ k = costOps ops ∧ GoodO ops ∧ ops.length ≤ 3 * i ∧ Below w.heap.size w wr
theorem Lst.next {w wr w' : World} {i : Nat} {ops : List Op7} {A B : List UInt8} {k : Nat} (h : Lst w i ops A B k wr) (d : List Op7) (hd : GoodO d) (hdl : d.length ≤ 3) (hb : Below w.heap.size w w') :
    Lst w (i + 1) (ops ++ d) (A ++ AL d) (B ++ BL d) (k + costOps d) w' := by
  obtain ⟨h1, h2, h3, h4, h5, h6⟩ := h
  refine ⟨by rw [AL_app, h1], by rw [BL_app, h2], by rw [cost_app, h3], goodO_app h4 hd, ?_, hb⟩
  rw [List.length_append]
  omega
theorem mod3 (x : UInt8) : ∃ r : Nat, (x.toNat : Int).tmod 3 = (r : Int) ∧ r < 3 := by
  have := x.toNat_lt
  exact ⟨x.toNat % 3, by rw [Int.tmod_eq_emod_of_nonneg (by omega)]; omega, by omega⟩
set_option maxHeartbeats 16000000 in
set_option maxRecDepth 100000 in
theorem diffLeast_walk (w : World) (a : Option Addr) (n c : Nat) (L : List (List UInt8)) (hL : ReadsS w a n L) (hnc : n ≤ c) (hcm : c ≤ maxLen) (hs : ∀ s ∈ L, s.length ≤ 140737488351232)
    (ax : Option Addr) (nx cx : Nat) (X : List UInt8) (hX : Reads w ax nx (X.map B8)) (hxc : nx ≤ cx) (hxm : cx ≤ maxLen)
    (ay : Option Addr) (ny cy : Nat) (Y : List UInt8) (hY : Reads w ay ny (Y.map B8)) (hyc : ny ≤ cy) (hym : cy ≤ maxLen) (hT : Tabs w) :
    Calls Tryd.prog 4 #[.slice a n c, .slice ax nx cx, .slice ay ny cy] w fun e w' => e = .returned (.bool true) ∧ Below w.heap.size w w' := by
  have HL := Lib.hid hL
  have HX := Lib.hid hX
  have HY := Lib.hid hY
  have HT := Lib.hid hT
  have HS := Lib.hid hs
  have hn : n ≤ 9223372036854775807 := by unfold maxLen at hcm; omega
  have hnx : nx ≤ 9223372036854775807 := by unfold maxLen at hxm; omega
  have hny : ny ≤ 9223372036854775807 := by unfold maxLen at hym; omega
  clear hL hX hY hT hs hnc hcm hxc hxm hyc hym
  go_enter Tryd.func4, Tryd.ntmps4
  go_wp2
  go_loopw [7, 8, 9, 10] (fun av bv nv iv wr => ∃ (i k : Nat) (ops : List Op7) (A B : List UInt8), av = .string (bstr A) ∧ bv = .string (bstr B) ∧ nv = .int .i64 (k : Int) ∧ iv = .int .i64 (i : Int) ∧ i ≤ 60 ∧ k ≤ 3 * i ∧ A.length ≤ 63 * i ∧ B.length ≤ 63 * i ∧ Hid (Lst w i ops A B k wr)) (fun _ _ _ iv _ => 60 - (RowKit.intOf iv).toNat)
  case atStart => exact ⟨0, 0, [], [], [], rfl, rfl, rfl, rfl, Nat.zero_le _, Nat.zero_le _, Nat.zero_le _, Nat.zero_le _, Lib.hid ⟨rfl, rfl, rfl, goodO_nil, Nat.zero_le _, Below.refl _ _⟩⟩
  case round =>
    obtain ⟨i, k, ops, A, B, rfl, rfl, rfl, rfl, h60, hk, hAl, hBl, HR⟩ := hrel
    by_cases hin : i ≤ n ∧ i < 60
    · obtain ⟨hin1, hin2⟩ := hin
      have HLW := Lib.hid (HL.out.keep HR.out.2.2.2.2.2 (Nat.le_refl _))
      have HXW := Lib.hid (Reads.keep HX.out HR.out.2.2.2.2.2 (Nat.le_refl _))
      have HYW := Lib.hid (Reads.keep HY.out HR.out.2.2.2.2.2 (Nat.le_refl _))
      have hix : (i : Int) ≤ (n : Int) := by omega
      by_cases hix : i < nx
      · obtain ⟨px, ox, x, rfl, hpx, hcx⟩ := u8_at HXW.out hix
        obtain ⟨rx, hrx, htx⟩ := mod3 x
        by_cases hzx : rx = 0
        · have hmx : (x.toNat : Int).tmod 3 = 0 := by rw [hrx, hzx]; rfl
          clear hrx htx hzx
          by_cases hiy : i < ny
          · obtain ⟨py, oy, y, rfl, hpy, hcy⟩ := u8_at HYW.out hiy
            obtain ⟨ry, hry, hty⟩ := mod3 y
            by_cases hzy : ry = 0
            · have hmy : (y.toNat : Int).tmod 3 = 0 := by rw [hry, hzy]; rfl
              clear hry hty hzy
              by_cases his : i < n
              · obtain ⟨ps, os, s, rfl, hps, hxs, hcs⟩ := HLW.out.at his
                have hsl : s.length ≤ 140737488351232 := HS.out s (List.mem_of_getElem? hxs)
                clear hxs
                have hgd : GoodO ([.gone (letB x ++ [10]), .come (letB y ++ [10]), .same (bareL s ++ [10])]) := by
                  intro o ho
                  simp only [List.mem_cons, List.not_mem_nil, or_false] at ho
                  rcases ho with rfl | rfl | rfl
                  · exact good_letter x
                  · exact good_letter y
                  · exact good_bare s
                have HGD := Lib.hid hgd
                clear hgd
                have hlx : (letB x).length ≤ 1 := Nat.le_refl _
                have hly : (letB y).length ≤ 1 := Nat.le_refl _
                have hbl := bareL_len s
                go_wp2_with (first
                  | (go_at_call_of 15 (Value.int .u8 (x.toNat : Int)); refine (letterC _ x).mono ?_; rintro e wx ⟨rfl, rfl⟩)
                  | (go_at_call_of 15 (Value.int .u8 (y.toNat : Int)); refine (letterC _ y).mono ?_; rintro e wy ⟨rfl, rfl⟩)
                  | (go_at_call 16; refine (bareC _ s (by omega)).mono ?_; rintro e ws ⟨rfl, hbs⟩; have HBS := Lib.hid (HR.out.2.2.2.2.2.trans (hbs.mono HR.out.2.2.2.2.2.size)); clear hbs))
                go_roundw
                case rel =>
                  have hnx9 := HR.out.next ([.gone (letB x ++ [10]), .come (letB y ++ [10]), .same (bareL s ++ [10])]) HGD.out (by simp) HBS.out
                  have eA : A ++ AL ([.gone (letB x ++ [10]), .come (letB y ++ [10]), .same (bareL s ++ [10])]) = A ++ (letB x ++ [10]) ++ (bareL s ++ [10]) := by simp [AL, lineA]
                  have eB : B ++ BL ([.gone (letB x ++ [10]), .come (letB y ++ [10]), .same (bareL s ++ [10])]) = B ++ (letB y ++ [10]) ++ (bareL s ++ [10]) := by simp [BL, lineB]
                  have ek : k + costOps ([.gone (letB x ++ [10]), .come (letB y ++ [10]), .same (bareL s ++ [10])]) = k + 1 + 1 := by simp [costOps, costOp]
                  rw [eA, eB, ek] at hnx9
                  exact ⟨i + 1, _, _, _, _, by first | rfl | simp [bstr_append], by first | rfl | simp [bstr_append], by first | rfl | go_num, by go_num, by omega, by omega, by first | omega | (simp only [List.length_append, List.length_singleton]; omega), by first | omega | (simp only [List.length_append, List.length_singleton]; omega), Lib.hid hnx9⟩
                case measure => simp [RowKit.intOf]; omega
              · have hgd : GoodO ([.gone (letB x ++ [10]), .come (letB y ++ [10])]) := by
                  intro o ho
                  simp only [List.mem_cons, List.not_mem_nil, or_false] at ho
                  rcases ho with rfl | rfl
                  · exact good_letter x
                  · exact good_letter y
                have HGD := Lib.hid hgd
                clear hgd
                have hlx : (letB x).length ≤ 1 := Nat.le_refl _
                have hly : (letB y).length ≤ 1 := Nat.le_refl _
                go_wp2_with (first
                  | (go_at_call_of 15 (Value.int .u8 (x.toNat : Int)); refine (letterC _ x).mono ?_; rintro e wx ⟨rfl, rfl⟩)
                  | (go_at_call_of 15 (Value.int .u8 (y.toNat : Int)); refine (letterC _ y).mono ?_; rintro e wy ⟨rfl, rfl⟩))
                go_roundw
                case rel =>
                  have hnx9 := HR.out.next ([.gone (letB x ++ [10]), .come (letB y ++ [10])]) HGD.out (by simp) HR.out.2.2.2.2.2
                  have eA : A ++ AL ([.gone (letB x ++ [10]), .come (letB y ++ [10])]) = A ++ (letB x ++ [10]) := by simp [AL, lineA]
                  have eB : B ++ BL ([.gone (letB x ++ [10]), .come (letB y ++ [10])]) = B ++ (letB y ++ [10]) := by simp [BL, lineB]
                  have ek : k + costOps ([.gone (letB x ++ [10]), .come (letB y ++ [10])]) = k + 1 + 1 := by simp [costOps, costOp]
                  rw [eA, eB, ek] at hnx9
                  exact ⟨i + 1, _, _, _, _, by first | rfl | simp [bstr_append], by first | rfl | simp [bstr_append], by first | rfl | go_num, by go_num, by omega, by omega, by first | omega | (simp only [List.length_append, List.length_singleton]; omega), by first | omega | (simp only [List.length_append, List.length_singleton]; omega), Lib.hid hnx9⟩
                case measure => simp [RowKit.intOf]; omega
            · have hqy : ((ry : Int) == 0) = false := by rw [beq_eq_false_iff_ne]; omega
              clear hzy
              by_cases his : i < n
              · obtain ⟨ps, os, s, rfl, hps, hxs, hcs⟩ := HLW.out.at his
                have hsl : s.length ≤ 140737488351232 := HS.out s (List.mem_of_getElem? hxs)
                clear hxs
                have hgd : GoodO ([.gone (letB x ++ [10]), .same (bareL s ++ [10])]) := by
                  intro o ho
                  simp only [List.mem_cons, List.not_mem_nil, or_false] at ho
                  rcases ho with rfl | rfl
                  · exact good_letter x
                  · exact good_bare s
                have HGD := Lib.hid hgd
                clear hgd
                have hlx : (letB x).length ≤ 1 := Nat.le_refl _
                have hbl := bareL_len s
                go_wp2_with (first
                  | (go_at_call_of 15 (Value.int .u8 (x.toNat : Int)); refine (letterC _ x).mono ?_; rintro e wx ⟨rfl, rfl⟩)
                  | (go_at_call 16; refine (bareC _ s (by omega)).mono ?_; rintro e ws ⟨rfl, hbs⟩; have HBS := Lib.hid (HR.out.2.2.2.2.2.trans (hbs.mono HR.out.2.2.2.2.2.size)); clear hbs))
                go_roundw
                case rel =>
                  have hnx9 := HR.out.next ([.gone (letB x ++ [10]), .same (bareL s ++ [10])]) HGD.out (by simp) HBS.out
                  have eA : A ++ AL ([.gone (letB x ++ [10]), .same (bareL s ++ [10])]) = A ++ (letB x ++ [10]) ++ (bareL s ++ [10]) := by simp [AL, lineA]
                  have eB : B ++ BL ([.gone (letB x ++ [10]), .same (bareL s ++ [10])]) = B ++ (bareL s ++ [10]) := by simp [BL, lineB]
                  have ek : k + costOps ([.gone (letB x ++ [10]), .same (bareL s ++ [10])]) = k + 1 := by simp [costOps, costOp]
                  rw [eA, eB, ek] at hnx9
                  exact ⟨i + 1, _, _, _, _, by first | rfl | simp [bstr_append], by first | rfl | simp [bstr_append], by first | rfl | go_num, by go_num, by omega, by omega, by first | omega | (simp only [List.length_append, List.length_singleton]; omega), by first | omega | (simp only [List.length_append, List.length_singleton]; omega), Lib.hid hnx9⟩
                case measure => simp [RowKit.intOf]; omega
              · have hgd : GoodO ([.gone (letB x ++ [10])]) := by
                  intro o ho
                  simp only [List.mem_cons, List.not_mem_nil, or_false] at ho
                  subst ho; exact good_letter x
                have HGD := Lib.hid hgd
                clear hgd
                have hlx : (letB x).length ≤ 1 := Nat.le_refl _
                go_wp2_with (go_at_call_of 15 (Value.int .u8 (x.toNat : Int)); refine (letterC _ x).mono ?_; rintro e wx ⟨rfl, rfl⟩)
                go_roundw
                case rel =>
                  have hnx9 := HR.out.next ([.gone (letB x ++ [10])]) HGD.out (by simp) HR.out.2.2.2.2.2
                  have eA : A ++ AL ([.gone (letB x ++ [10])]) = A ++ (letB x ++ [10]) := by simp [AL, lineA]
                  have eB : B ++ BL ([.gone (letB x ++ [10])]) = B := by simp [BL, lineB]
                  have ek : k + costOps ([.gone (letB x ++ [10])]) = k + 1 := by simp [costOps, costOp]
                  rw [eA, eB, ek] at hnx9
                  exact ⟨i + 1, _, _, _, _, by first | rfl | simp [bstr_append], by first | rfl | simp [bstr_append], by first | rfl | go_num, by go_num, by omega, by omega, by first | omega | (simp only [List.length_append, List.length_singleton]; omega), by first | omega | (simp only [List.length_append, List.length_singleton]; omega), Lib.hid hnx9⟩
                case measure => simp [RowKit.intOf]; omega
          · by_cases his : i < n
            · obtain ⟨ps, os, s, rfl, hps, hxs, hcs⟩ := HLW.out.at his
              have hsl : s.length ≤ 140737488351232 := HS.out s (List.mem_of_getElem? hxs)
              clear hxs
              have hgd : GoodO ([.gone (letB x ++ [10]), .same (bareL s ++ [10])]) := by
                intro o ho
                simp only [List.mem_cons, List.not_mem_nil, or_false] at ho
                rcases ho with rfl | rfl
                · exact good_letter x
                · exact good_bare s
              have HGD := Lib.hid hgd
              clear hgd
              have hlx : (letB x).length ≤ 1 := Nat.le_refl _
              have hbl := bareL_len s
              go_wp2_with (first
                | (go_at_call_of 15 (Value.int .u8 (x.toNat : Int)); refine (letterC _ x).mono ?_; rintro e wx ⟨rfl, rfl⟩)
                | (go_at_call 16; refine (bareC _ s (by omega)).mono ?_; rintro e ws ⟨rfl, hbs⟩; have HBS := Lib.hid (HR.out.2.2.2.2.2.trans (hbs.mono HR.out.2.2.2.2.2.size)); clear hbs))
              go_roundw
              case rel =>
                have hnx9 := HR.out.next ([.gone (letB x ++ [10]), .same (bareL s ++ [10])]) HGD.out (by simp) HBS.out
                have eA : A ++ AL ([.gone (letB x ++ [10]), .same (bareL s ++ [10])]) = A ++ (letB x ++ [10]) ++ (bareL s ++ [10]) := by simp [AL, lineA]
                have eB : B ++ BL ([.gone (letB x ++ [10]), .same (bareL s ++ [10])]) = B ++ (bareL s ++ [10]) := by simp [BL, lineB]
                have ek : k + costOps ([.gone (letB x ++ [10]), .same (bareL s ++ [10])]) = k + 1 := by simp [costOps, costOp]
                rw [eA, eB, ek] at hnx9
                exact ⟨i + 1, _, _, _, _, by first | rfl | simp [bstr_append], by first | rfl | simp [bstr_append], by first | rfl | go_num, by go_num, by omega, by omega, by first | omega | (simp only [List.length_append, List.length_singleton]; omega), by first | omega | (simp only [List.length_append, List.length_singleton]; omega), Lib.hid hnx9⟩
              case measure => simp [RowKit.intOf]; omega
            · have hgd : GoodO ([.gone (letB x ++ [10])]) := by
                intro o ho
                simp only [List.mem_cons, List.not_mem_nil, or_false] at ho
                subst ho; exact good_letter x
              have HGD := Lib.hid hgd
              clear hgd
              have hlx : (letB x).length ≤ 1 := Nat.le_refl _
              go_wp2_with (go_at_call_of 15 (Value.int .u8 (x.toNat : Int)); refine (letterC _ x).mono ?_; rintro e wx ⟨rfl, rfl⟩)
              go_roundw
              case rel =>
                have hnx9 := HR.out.next ([.gone (letB x ++ [10])]) HGD.out (by simp) HR.out.2.2.2.2.2
                have eA : A ++ AL ([.gone (letB x ++ [10])]) = A ++ (letB x ++ [10]) := by simp [AL, lineA]
                have eB : B ++ BL ([.gone (letB x ++ [10])]) = B := by simp [BL, lineB]
                have ek : k + costOps ([.gone (letB x ++ [10])]) = k + 1 := by simp [costOps, costOp]
                rw [eA, eB, ek] at hnx9
                exact ⟨i + 1, _, _, _, _, by first | rfl | simp [bstr_append], by first | rfl | simp [bstr_append], by first | rfl | go_num, by go_num, by omega, by omega, by first | omega | (simp only [List.length_append, List.length_singleton]; omega), by first | omega | (simp only [List.length_append, List.length_singleton]; omega), Lib.hid hnx9⟩
              case measure => simp [RowKit.intOf]; omega
        · have hqx : ((rx : Int) == 0) = false := by rw [beq_eq_false_iff_ne]; omega
          clear hzx
          by_cases hiy : i < ny
          · obtain ⟨py, oy, y, rfl, hpy, hcy⟩ := u8_at HYW.out hiy
            obtain ⟨ry, hry, hty⟩ := mod3 y
            by_cases hzy : ry = 0
            · have hmy : (y.toNat : Int).tmod 3 = 0 := by rw [hry, hzy]; rfl
              clear hry hty hzy
              by_cases his : i < n
              · obtain ⟨ps, os, s, rfl, hps, hxs, hcs⟩ := HLW.out.at his
                have hsl : s.length ≤ 140737488351232 := HS.out s (List.mem_of_getElem? hxs)
                clear hxs
                have hgd : GoodO ([.come (letB y ++ [10]), .same (bareL s ++ [10])]) := by
                  intro o ho
                  simp only [List.mem_cons, List.not_mem_nil, or_false] at ho
                  rcases ho with rfl | rfl
                  · exact good_letter y
                  · exact good_bare s
                have HGD := Lib.hid hgd
                clear hgd
                have hly : (letB y).length ≤ 1 := Nat.le_refl _
                have hbl := bareL_len s
                go_wp2_with (first
                  | (go_at_call_of 15 (Value.int .u8 (y.toNat : Int)); refine (letterC _ y).mono ?_; rintro e wy ⟨rfl, rfl⟩)
                  | (go_at_call 16; refine (bareC _ s (by omega)).mono ?_; rintro e ws ⟨rfl, hbs⟩; have HBS := Lib.hid (HR.out.2.2.2.2.2.trans (hbs.mono HR.out.2.2.2.2.2.size)); clear hbs))
                go_roundw
                case rel =>
                  have hnx9 := HR.out.next ([.come (letB y ++ [10]), .same (bareL s ++ [10])]) HGD.out (by simp) HBS.out
                  have eA : A ++ AL ([.come (letB y ++ [10]), .same (bareL s ++ [10])]) = A ++ (bareL s ++ [10]) := by simp [AL, lineA]
                  have eB : B ++ BL ([.come (letB y ++ [10]), .same (bareL s ++ [10])]) = B ++ (letB y ++ [10]) ++ (bareL s ++ [10]) := by simp [BL, lineB]
                  have ek : k + costOps ([.come (letB y ++ [10]), .same (bareL s ++ [10])]) = k + 1 := by simp [costOps, costOp]
                  rw [eA, eB, ek] at hnx9
                  exact ⟨i + 1, _, _, _, _, by first | rfl | simp [bstr_append], by first | rfl | simp [bstr_append], by first | rfl | go_num, by go_num, by omega, by omega, by first | omega | (simp only [List.length_append, List.length_singleton]; omega), by first | omega | (simp only [List.length_append, List.length_singleton]; omega), Lib.hid hnx9⟩
                case measure => simp [RowKit.intOf]; omega
              · have hgd : GoodO ([.come (letB y ++ [10])]) := by
                  intro o ho
                  simp only [List.mem_cons, List.not_mem_nil, or_false] at ho
                  subst ho; exact good_letter y
                have HGD := Lib.hid hgd
                clear hgd
                have hly : (letB y).length ≤ 1 := Nat.le_refl _
                go_wp2_with (go_at_call_of 15 (Value.int .u8 (y.toNat : Int)); refine (letterC _ y).mono ?_; rintro e wy ⟨rfl, rfl⟩)
                go_roundw
                case rel =>
                  have hnx9 := HR.out.next ([.come (letB y ++ [10])]) HGD.out (by simp) HR.out.2.2.2.2.2
                  have eA : A ++ AL ([.come (letB y ++ [10])]) = A := by simp [AL, lineA]
                  have eB : B ++ BL ([.come (letB y ++ [10])]) = B ++ (letB y ++ [10]) := by simp [BL, lineB]
                  have ek : k + costOps ([.come (letB y ++ [10])]) = k + 1 := by simp [costOps, costOp]
                  rw [eA, eB, ek] at hnx9
                  exact ⟨i + 1, _, _, _, _, by first | rfl | simp [bstr_append], by first | rfl | simp [bstr_append], by first | rfl | go_num, by go_num, by omega, by omega, by first | omega | (simp only [List.length_append, List.length_singleton]; omega), by first | omega | (simp only [List.length_append, List.length_singleton]; omega), Lib.hid hnx9⟩
                case measure => simp [RowKit.intOf]; omega
            · have hqy : ((ry : Int) == 0) = false := by rw [beq_eq_false_iff_ne]; omega
              clear hzy
              by_cases his : i < n
              · obtain ⟨ps, os, s, rfl, hps, hxs, hcs⟩ := HLW.out.at his
                have hsl : s.length ≤ 140737488351232 := HS.out s (List.mem_of_getElem? hxs)
                clear hxs
                have hgd : GoodO ([.same (bareL s ++ [10])]) := by
                  intro o ho
                  simp only [List.mem_cons, List.not_mem_nil, or_false] at ho
                  subst ho; exact good_bare s
                have HGD := Lib.hid hgd
                clear hgd
                have hbl := bareL_len s
                go_wp2_with (go_at_call 16; refine (bareC _ s (by omega)).mono ?_; rintro e ws ⟨rfl, hbs⟩; have HBS := Lib.hid (HR.out.2.2.2.2.2.trans (hbs.mono HR.out.2.2.2.2.2.size)); clear hbs)
                go_roundw
                case rel =>
                  have hnx9 := HR.out.next ([.same (bareL s ++ [10])]) HGD.out (by simp) HBS.out
                  have eA : A ++ AL ([.same (bareL s ++ [10])]) = A ++ (bareL s ++ [10]) := by simp [AL, lineA]
                  have eB : B ++ BL ([.same (bareL s ++ [10])]) = B ++ (bareL s ++ [10]) := by simp [BL, lineB]
                  have ek : k + costOps ([.same (bareL s ++ [10])]) = k := by simp [costOps, costOp]
                  rw [eA, eB, ek] at hnx9
                  exact ⟨i + 1, _, _, _, _, by first | rfl | simp [bstr_append], by first | rfl | simp [bstr_append], by first | rfl | go_num, by go_num, by omega, by omega, by first | omega | (simp only [List.length_append, List.length_singleton]; omega), by first | omega | (simp only [List.length_append, List.length_singleton]; omega), Lib.hid hnx9⟩
                case measure => simp [RowKit.intOf]; omega
              · have hgd : GoodO ([]) := by
                  intro o ho
                  cases ho
                have HGD := Lib.hid hgd
                clear hgd
                go_wp2
                go_roundw
                case rel =>
                  have hnx9 := HR.out.next ([]) HGD.out (by simp) HR.out.2.2.2.2.2
                  have eA : A ++ AL ([]) = A := by simp [AL, lineA]
                  have eB : B ++ BL ([]) = B := by simp [BL, lineB]
                  have ek : k + costOps ([]) = k := by simp [costOps, costOp]
                  rw [eA, eB, ek] at hnx9
                  exact ⟨i + 1, _, _, _, _, by first | rfl | simp [bstr_append], by first | rfl | simp [bstr_append], by first | rfl | go_num, by go_num, by omega, by omega, by first | omega | (simp only [List.length_append, List.length_singleton]; omega), by first | omega | (simp only [List.length_append, List.length_singleton]; omega), Lib.hid hnx9⟩
                case measure => simp [RowKit.intOf]; omega
          · by_cases his : i < n
            · obtain ⟨ps, os, s, rfl, hps, hxs, hcs⟩ := HLW.out.at his
              have hsl : s.length ≤ 140737488351232 := HS.out s (List.mem_of_getElem? hxs)
              clear hxs
              have hgd : GoodO ([.same (bareL s ++ [10])]) := by
                intro o ho
                simp only [List.mem_cons, List.not_mem_nil, or_false] at ho
                subst ho; exact good_bare s
              have HGD := Lib.hid hgd
              clear hgd
              have hbl := bareL_len s
              go_wp2_with (go_at_call 16; refine (bareC _ s (by omega)).mono ?_; rintro e ws ⟨rfl, hbs⟩; have HBS := Lib.hid (HR.out.2.2.2.2.2.trans (hbs.mono HR.out.2.2.2.2.2.size)); clear hbs)
              go_roundw
              case rel =>
                have hnx9 := HR.out.next ([.same (bareL s ++ [10])]) HGD.out (by simp) HBS.out
                have eA : A ++ AL ([.same (bareL s ++ [10])]) = A ++ (bareL s ++ [10]) := by simp [AL, lineA]
                have eB : B ++ BL ([.same (bareL s ++ [10])]) = B ++ (bareL s ++ [10]) := by simp [BL, lineB]
                have ek : k + costOps ([.same (bareL s ++ [10])]) = k := by simp [costOps, costOp]
                rw [eA, eB, ek] at hnx9
                exact ⟨i + 1, _, _, _, _, by first | rfl | simp [bstr_append], by first | rfl | simp [bstr_append], by first | rfl | go_num, by go_num, by omega, by omega, by first | omega | (simp only [List.length_append, List.length_singleton]; omega), by first | omega | (simp only [List.length_append, List.length_singleton]; omega), Lib.hid hnx9⟩
              case measure => simp [RowKit.intOf]; omega
            · have hgd : GoodO ([]) := by
                intro o ho
                cases ho
              have HGD := Lib.hid hgd
              clear hgd
              go_wp2
              go_roundw
              case rel =>
                have hnx9 := HR.out.next ([]) HGD.out (by simp) HR.out.2.2.2.2.2
                have eA : A ++ AL ([]) = A := by simp [AL, lineA]
                have eB : B ++ BL ([]) = B := by simp [BL, lineB]
                have ek : k + costOps ([]) = k := by simp [costOps, costOp]
                rw [eA, eB, ek] at hnx9
                exact ⟨i + 1, _, _, _, _, by first | rfl | simp [bstr_append], by first | rfl | simp [bstr_append], by first | rfl | go_num, by go_num, by omega, by omega, by first | omega | (simp only [List.length_append, List.length_singleton]; omega), by first | omega | (simp only [List.length_append, List.length_singleton]; omega), Lib.hid hnx9⟩
              case measure => simp [RowKit.intOf]; omega
      · by_cases hiy : i < ny
        · obtain ⟨py, oy, y, rfl, hpy, hcy⟩ := u8_at HYW.out hiy
          obtain ⟨ry, hry, hty⟩ := mod3 y
          by_cases hzy : ry = 0
          · have hmy : (y.toNat : Int).tmod 3 = 0 := by rw [hry, hzy]; rfl
            clear hry hty hzy
            by_cases his : i < n
            · obtain ⟨ps, os, s, rfl, hps, hxs, hcs⟩ := HLW.out.at his
              have hsl : s.length ≤ 140737488351232 := HS.out s (List.mem_of_getElem? hxs)
              clear hxs
              have hgd : GoodO ([.come (letB y ++ [10]), .same (bareL s ++ [10])]) := by
                intro o ho
                simp only [List.mem_cons, List.not_mem_nil, or_false] at ho
                rcases ho with rfl | rfl
                · exact good_letter y
                · exact good_bare s
              have HGD := Lib.hid hgd
              clear hgd
              have hly : (letB y).length ≤ 1 := Nat.le_refl _
              have hbl := bareL_len s
              go_wp2_with (first
                | (go_at_call_of 15 (Value.int .u8 (y.toNat : Int)); refine (letterC _ y).mono ?_; rintro e wy ⟨rfl, rfl⟩)
                | (go_at_call 16; refine (bareC _ s (by omega)).mono ?_; rintro e ws ⟨rfl, hbs⟩; have HBS := Lib.hid (HR.out.2.2.2.2.2.trans (hbs.mono HR.out.2.2.2.2.2.size)); clear hbs))
              go_roundw
              case rel =>
                have hnx9 := HR.out.next ([.come (letB y ++ [10]), .same (bareL s ++ [10])]) HGD.out (by simp) HBS.out
                have eA : A ++ AL ([.come (letB y ++ [10]), .same (bareL s ++ [10])]) = A ++ (bareL s ++ [10]) := by simp [AL, lineA]
                have eB : B ++ BL ([.come (letB y ++ [10]), .same (bareL s ++ [10])]) = B ++ (letB y ++ [10]) ++ (bareL s ++ [10]) := by simp [BL, lineB]
                have ek : k + costOps ([.come (letB y ++ [10]), .same (bareL s ++ [10])]) = k + 1 := by simp [costOps, costOp]
                rw [eA, eB, ek] at hnx9
                exact ⟨i + 1, _, _, _, _, by first | rfl | simp [bstr_append], by first | rfl | simp [bstr_append], by first | rfl | go_num, by go_num, by omega, by omega, by first | omega | (simp only [List.length_append, List.length_singleton]; omega), by first | omega | (simp only [List.length_append, List.length_singleton]; omega), Lib.hid hnx9⟩
              case measure => simp [RowKit.intOf]; omega
            · have hgd : GoodO ([.come (letB y ++ [10])]) := by
                intro o ho
                simp only [List.mem_cons, List.not_mem_nil, or_false] at ho
                subst ho; exact good_letter y
              have HGD := Lib.hid hgd
              clear hgd
              have hly : (letB y).length ≤ 1 := Nat.le_refl _
              go_wp2_with (go_at_call_of 15 (Value.int .u8 (y.toNat : Int)); refine (letterC _ y).mono ?_; rintro e wy ⟨rfl, rfl⟩)
              go_roundw
              case rel =>
                have hnx9 := HR.out.next ([.come (letB y ++ [10])]) HGD.out (by simp) HR.out.2.2.2.2.2
                have eA : A ++ AL ([.come (letB y ++ [10])]) = A := by simp [AL, lineA]
                have eB : B ++ BL ([.come (letB y ++ [10])]) = B ++ (letB y ++ [10]) := by simp [BL, lineB]
                have ek : k + costOps ([.come (letB y ++ [10])]) = k + 1 := by simp [costOps, costOp]
                rw [eA, eB, ek] at hnx9
                exact ⟨i + 1, _, _, _, _, by first | rfl | simp [bstr_append], by first | rfl | simp [bstr_append], by first | rfl | go_num, by go_num, by omega, by omega, by first | omega | (simp only [List.length_append, List.length_singleton]; omega), by first | omega | (simp only [List.length_append, List.length_singleton]; omega), Lib.hid hnx9⟩
              case measure => simp [RowKit.intOf]; omega
          · have hqy : ((ry : Int) == 0) = false := by rw [beq_eq_false_iff_ne]; omega
            clear hzy
            by_cases his : i < n
            · obtain ⟨ps, os, s, rfl, hps, hxs, hcs⟩ := HLW.out.at his
              have hsl : s.length ≤ 140737488351232 := HS.out s (List.mem_of_getElem? hxs)
              clear hxs
              have hgd : GoodO ([.same (bareL s ++ [10])]) := by
                intro o ho
                simp only [List.mem_cons, List.not_mem_nil, or_false] at ho
                subst ho; exact good_bare s
              have HGD := Lib.hid hgd
              clear hgd
              have hbl := bareL_len s
              go_wp2_with (go_at_call 16; refine (bareC _ s (by omega)).mono ?_; rintro e ws ⟨rfl, hbs⟩; have HBS := Lib.hid (HR.out.2.2.2.2.2.trans (hbs.mono HR.out.2.2.2.2.2.size)); clear hbs)
              go_roundw
              case rel =>
                have hnx9 := HR.out.next ([.same (bareL s ++ [10])]) HGD.out (by simp) HBS.out
                have eA : A ++ AL ([.same (bareL s ++ [10])]) = A ++ (bareL s ++ [10]) := by simp [AL, lineA]
                have eB : B ++ BL ([.same (bareL s ++ [10])]) = B ++ (bareL s ++ [10]) := by simp [BL, lineB]
                have ek : k + costOps ([.same (bareL s ++ [10])]) = k := by simp [costOps, costOp]
                rw [eA, eB, ek] at hnx9
                exact ⟨i + 1, _, _, _, _, by first | rfl | simp [bstr_append], by first | rfl | simp [bstr_append], by first | rfl | go_num, by go_num, by omega, by omega, by first | omega | (simp only [List.length_append, List.length_singleton]; omega), by first | omega | (simp only [List.length_append, List.length_singleton]; omega), Lib.hid hnx9⟩
              case measure => simp [RowKit.intOf]; omega
            · have hgd : GoodO ([]) := by
                intro o ho
                cases ho
              have HGD := Lib.hid hgd
              clear hgd
              go_wp2
              go_roundw
              case rel =>
                have hnx9 := HR.out.next ([]) HGD.out (by simp) HR.out.2.2.2.2.2
                have eA : A ++ AL ([]) = A := by simp [AL, lineA]
                have eB : B ++ BL ([]) = B := by simp [BL, lineB]
                have ek : k + costOps ([]) = k := by simp [costOps, costOp]
                rw [eA, eB, ek] at hnx9
                exact ⟨i + 1, _, _, _, _, by first | rfl | simp [bstr_append], by first | rfl | simp [bstr_append], by first | rfl | go_num, by go_num, by omega, by omega, by first | omega | (simp only [List.length_append, List.length_singleton]; omega), by first | omega | (simp only [List.length_append, List.length_singleton]; omega), Lib.hid hnx9⟩
              case measure => simp [RowKit.intOf]; omega
        · by_cases his : i < n
          · obtain ⟨ps, os, s, rfl, hps, hxs, hcs⟩ := HLW.out.at his
            have hsl : s.length ≤ 140737488351232 := HS.out s (List.mem_of_getElem? hxs)
            clear hxs
            have hgd : GoodO ([.same (bareL s ++ [10])]) := by
              intro o ho
              simp only [List.mem_cons, List.not_mem_nil, or_false] at ho
              subst ho; exact good_bare s
            have HGD := Lib.hid hgd
            clear hgd
            have hbl := bareL_len s
            go_wp2_with (go_at_call 16; refine (bareC _ s (by omega)).mono ?_; rintro e ws ⟨rfl, hbs⟩; have HBS := Lib.hid (HR.out.2.2.2.2.2.trans (hbs.mono HR.out.2.2.2.2.2.size)); clear hbs)
            go_roundw
            case rel =>
              have hnx9 := HR.out.next ([.same (bareL s ++ [10])]) HGD.out (by simp) HBS.out
              have eA : A ++ AL ([.same (bareL s ++ [10])]) = A ++ (bareL s ++ [10]) := by simp [AL, lineA]
              have eB : B ++ BL ([.same (bareL s ++ [10])]) = B ++ (bareL s ++ [10]) := by simp [BL, lineB]
              have ek : k + costOps ([.same (bareL s ++ [10])]) = k := by simp [costOps, costOp]
              rw [eA, eB, ek] at hnx9
              exact ⟨i + 1, _, _, _, _, by first | rfl | simp [bstr_append], by first | rfl | simp [bstr_append], by first | rfl | go_num, by go_num, by omega, by omega, by first | omega | (simp only [List.length_append, List.length_singleton]; omega), by first | omega | (simp only [List.length_append, List.length_singleton]; omega), Lib.hid hnx9⟩
            case measure => simp [RowKit.intOf]; omega
          · have hgd : GoodO ([]) := by
              intro o ho
              cases ho
            have HGD := Lib.hid hgd
            clear hgd
            go_wp2
            go_roundw
            case rel =>
              have hnx9 := HR.out.next ([]) HGD.out (by simp) HR.out.2.2.2.2.2
              have eA : A ++ AL ([]) = A := by simp [AL, lineA]
              have eB : B ++ BL ([]) = B := by simp [BL, lineB]
              have ek : k + costOps ([]) = k := by simp [costOps, costOp]
              rw [eA, eB, ek] at hnx9
              exact ⟨i + 1, _, _, _, _, by first | rfl | simp [bstr_append], by first | rfl | simp [bstr_append], by first | rfl | go_num, by go_num, by omega, by omega, by first | omega | (simp only [List.length_append, List.length_singleton]; omega), by first | omega | (simp only [List.length_append, List.length_singleton]; omega), Lib.hid hnx9⟩
            case measure => simp [RowKit.intOf]; omega
    · by_cases h1 : i ≤ n
      · have h2 : ¬ i < 60 := fun h => hin ⟨h1, h⟩
        clear hin
        have hend := least_end HR.out.2.2.2.1 (by have := HR.out.2.2.2.2.1; omega)
        obtain ⟨hA9, hB9, hk9, hG9, hl9, hb9⟩ := HR.out
        have hft := least_facts hG9 (by omega)
        rw [← hA9, ← hB9, ← hk9] at hend
        obtain ⟨hE9, hF9, hD9⟩ := hend
        have HC := Lib.hid (fun W hW => (linesC W A B (by omega) (by omega) hW).mono (fun e w' h => lines_own h))
        rw [hE9] at HC
        obtain ⟨H, hH⟩ : ∃ H, H = linesH (splitD A) (splitD B) := ⟨_, rfl⟩
        rw [← hH] at HC hF9 hD9
        have HF9 := Lib.hid hF9
        have HD9 := Lib.hid (fun W a n c hR => distC W a n c (H.map toI) hR HF9.out)
        obtain ⟨ds, hds⟩ : ∃ ds, ds = distI (H.map toI) := ⟨_, rfl⟩
        rw [← hds] at hD9 HD9
        have hle : (ds : Int) ≤ (k : Int) := by omega
        clear hA9 hB9 hk9 hG9 hl9 hft hE9 hF9 hH hds
        have HB9 := Lib.hid hb9
        clear hb9
        go_wp2_with (first
          | (go_at_call 10; refine (HC.out _ (HT.out.next HB9.out)).mono ?_; rintro e w1 ⟨v1, B1, rfl, hP1, hB1, hz1, hb1⟩; obtain ⟨a1, rfl, hr1⟩ := hP1.reads; have HR1 := Lib.hid hr1; have HB1 := Lib.hid (HB9.out.trans (hb1.mono HB9.out.size)); clear hP1 hr1 hb1 hz1 hB1)
          | (go_at_call 17; refine (HD9.out _ _ _ _ HR1.out).mono ?_; rintro e w2 ⟨rfl, hb2⟩; have HB2 := Lib.hid (HB1.out.trans (hb2.mono HB1.out.size)); clear hb2)
          | (go_at_call 14; refine (worksC _ (HT.out.next HB2.out)).mono ?_; rintro e w3 ⟨rfl, hb3⟩; have HB3 := Lib.hid (HB2.out.trans (hb3.mono HB2.out.size)); clear hb3))
        go_ret
        exact ⟨rfl, HB3.out⟩
      · clear hin
        have hend := least_end HR.out.2.2.2.1 (by have := HR.out.2.2.2.2.1; omega)
        obtain ⟨hA9, hB9, hk9, hG9, hl9, hb9⟩ := HR.out
        have hft := least_facts hG9 (by omega)
        rw [← hA9, ← hB9, ← hk9] at hend
        obtain ⟨hE9, hF9, hD9⟩ := hend
        have HC := Lib.hid (fun W hW => (linesC W A B (by omega) (by omega) hW).mono (fun e w' h => lines_own h))
        rw [hE9] at HC
        obtain ⟨H, hH⟩ : ∃ H, H = linesH (splitD A) (splitD B) := ⟨_, rfl⟩
        rw [← hH] at HC hF9 hD9
        have HF9 := Lib.hid hF9
        have HD9 := Lib.hid (fun W a n c hR => distC W a n c (H.map toI) hR HF9.out)
        obtain ⟨ds, hds⟩ : ∃ ds, ds = distI (H.map toI) := ⟨_, rfl⟩
        rw [← hds] at hD9 HD9
        have hle : (ds : Int) ≤ (k : Int) := by omega
        clear hA9 hB9 hk9 hG9 hl9 hft hE9 hF9 hH hds
        have HB9 := Lib.hid hb9
        clear hb9
        go_wp2_with (first
          | (go_at_call 10; refine (HC.out _ (HT.out.next HB9.out)).mono ?_; rintro e w1 ⟨v1, B1, rfl, hP1, hB1, hz1, hb1⟩; obtain ⟨a1, rfl, hr1⟩ := hP1.reads; have HR1 := Lib.hid hr1; have HB1 := Lib.hid (HB9.out.trans (hb1.mono HB9.out.size)); clear hP1 hr1 hb1 hz1 hB1)
          | (go_at_call 17; refine (HD9.out _ _ _ _ HR1.out).mono ?_; rintro e w2 ⟨rfl, hb2⟩; have HB2 := Lib.hid (HB1.out.trans (hb2.mono HB1.out.size)); clear hb2)
          | (go_at_call 14; refine (worksC _ (HT.out.next HB2.out)).mono ?_; rintro e w3 ⟨rfl, hb3⟩; have HB3 := Lib.hid (HB2.out.trans (hb3.mono HB2.out.size)); clear hb3))
        go_ret
        exact ⟨rfl, HB3.out⟩
end Go.Proofs.YtnbihjocdlpplaaDoor
