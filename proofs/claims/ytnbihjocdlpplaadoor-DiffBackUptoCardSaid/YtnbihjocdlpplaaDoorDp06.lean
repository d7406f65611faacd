/- Texts joined, one behind the other (OwnB, DSide, DSideR, DSplit). -/
import Derived.Test.YtnbihjocdlpplaaDoorDp05
import Derived.Lib.AppendZeros
import Derived.Deep.RegionHeld3
import Derived.Deep.DeepCutAuto
import Derived.IntWalk
/- Rows of bytes of the call's own: append of a text, of a byte; as a text. -/
namespace Go.Proofs.YtnbihjocdlpplaaDoor
set_option linter.unusedVariables false
set_option linter.unusedSimpArgs false
open Go.RowKit
open Go.Lib
def OwnB (B : Nat) (v : Value) (acc : List UInt8) (w : World) : Prop := w.ownsRow B 5 1 v acc.length (acc.map B8)
theorem strCells_B8 (s : List UInt8) : Lib.strCells (bstr s) = s.map B8 := rfl
theorem OwnB.drewN {B : Nat} {v : Value} {acc : List UInt8} {w : World} (h : OwnB B v acc w) (n : Nat) : OwnB B v acc (w.drewN n) := h
theorem OwnB.below {B : Nat} {v : Value} {acc : List UInt8} {w w' : World} (h : OwnB B v acc w) (b : Below w.heap.size w w') : OwnB B v acc w' := by
  refine ⟨h.1, ?_⟩
  rcases h.2 with hn | ⟨g, cap, cur, rfl, hb, hgg, rest⟩
  · exact .inl hn
  · exact .inr ⟨g, cap, cur, rfl, hb, (b.block g (Array.getElem?_eq_some_iff.1 hgg).1).trans hgg, rest⟩
section
variable {ops : Array Oper} {rest : List Oper} {o : Oper} {a : Act} {w : World} {Q : Exit → Act → World → Prop}
/-- append of a text to a row of one's own -/
theorem appStr (hgd : o.guard = none) (sl x : Operand) (ho : o.op = .call { callee := .builtin .append, args := #[sl, x], argTypes := #[30, 9] })
    (B : Nat) (w0 : World) (v : Value) (acc s : List UInt8) (hs : a.eval sl = v) (hown : OwnB B v acc w) (hx : a.eval x = .string (bstr s)) (hl : acc.length ≤ 1099511627776) (hl2 : s.length ≤ 1099511627776) (hb : Below B w0 w) (hB : B ≤ w.heap.size)
    (h : ∀ v' w', OwnB B v' (acc ++ s) w' → Below B w0 w' → B ≤ w'.heap.size → wpList Tryd.prog ops Q rest (a.put o.dst v') w') : wpList Tryd.prog ops Q (o :: rest) a w := by
  obtain ⟨i0, hi, hz0, hz1, hz2⟩ := info_parts Tryd.infoU8
  refine Lib.wpList_append_own_string _ hgd sl x 30 9 ho B 5 i0 Tryd.underlying30 Tryd.underlying9 hi hz0 hz1 hz2 v acc.length _ hs hown (bstr s) hx (by rw [bstr_size]; unfold maxLen; omega) (by rw [bstr_size]; omega) hB ?_
  intro v' w' h1 h2 _
  have hbb : Below B w0 w' := hb.grown h2 hB (fun k hk => (World.ownsRow.lt hown k hk).1)
  refine h v' w' ?_ hbb (Nat.le_trans hB h2.size)
  unfold OwnB
  rw [List.length_append, List.map_append]
  rw [bstr_size, strCells_B8] at h1
  exact h1
/-- the same as one step of a region that draws its order -/
theorem stepAppStr {K : Act → World → Prop} {E : Prop} (hgd : o.guard = none) (sl x : Operand) (ho : o.op = .call { callee := .builtin .append, args := #[sl, x], argTypes := #[30, 9] })
    (B : Nat) (w0 : World) (v : Value) (acc s : List UInt8) (hs : a.eval sl = v) (hown : OwnB B v acc w) (hx : a.eval x = .string (bstr s)) (hl : acc.length ≤ 1099511627776) (hl2 : s.length ≤ 1099511627776) (hb : Below B w0 w) (hB : B ≤ w.heap.size)
    (h : ∀ v' w', OwnB B v' (acc ++ s) w' → Below B w0 w' → B ≤ w'.heap.size → K (a.put o.dst v') w') : if Region.wanted o (yielded ops a.tmps) = true then Oper.wp Tryd.prog o a w K Q else E := by
  obtain ⟨i0, hi, hz0, hz1, hz2⟩ := info_parts Tryd.infoU8
  have hw : Region.wanted o (yielded ops a.tmps) = true := by simp [Region.wanted, hgd]
  rw [if_pos hw]
  obtain ⟨v', w', hr, h1, h2, _⟩ := Lib.run_append_own_string (P := Tryd.prog) w B 30 9 o.type 5 i0 Tryd.underlying30 Tryd.underlying9 hi hz0 hz1 hz2 v acc.length _ hown (bstr s) (by rw [bstr_size]; unfold maxLen; omega) (by rw [bstr_size]; omega) hB
  have hbb : Below B w0 w' := hb.grown h2 hB (fun k hk => (World.ownsRow.lt hown k hk).1)
  unfold Oper.wp
  simp [execOp, ho, resolve, invoke, builtin, hs, hx, hr, Result.andThen]
  refine h _ _ ?_ hbb (Nat.le_trans hB h2.size)
  unfold OwnB
  rw [List.length_append, List.map_append]
  rw [bstr_size, strCells_B8] at h1
  exact h1
/-- append of one byte -/
theorem appOne (hgd : o.guard = none) (sl x : Operand) (ho : o.op = .call { callee := .builtin .append, args := #[sl, x], argTypes := #[30, 30] })
    (B : Nat) (w0 wp : World) (v : Value) (acc : List UInt8) (c : UInt8) (hs : a.eval sl = v) (hown : OwnB B v acc wp) (hx : a.eval x = .slice (some ⟨wp.heap.size, 0, none⟩) 1 1) (hw : w = wp.alloc (.cells #[B8 c] 5)) (hl : acc.length ≤ 1099511627776) (hb : Below B w0 wp) (hB : B ≤ wp.heap.size)
    (h : ∀ v' w', OwnB B v' (acc ++ [c]) w' → Below B w0 w' → B ≤ w'.heap.size → wpList Tryd.prog ops Q rest (a.put o.dst v') w') : wpList Tryd.prog ops Q (o :: rest) a w := by
  subst hw
  obtain ⟨i0, hi, hz0, hz1, hz2⟩ := info_parts Tryd.infoU8
  have hB' : B ≤ (wp.alloc (.cells #[B8 c] 5)).heap.size := by simp; omega
  refine wpList_append_own _ hgd sl x 30 ho B 5 i0 (.int .u8 0) 1 1 Tryd.underlying30 hi hz0 hz1 hz2 rfl (by decide) v acc.length _ hs (World.ownsRow.alloc hown _) ⟨wp.heap.size, 0, none⟩ 1 1 [B8 c] hx rfl (cell_one_new _ _ _) (by simp [Value.oneCell']) (by unfold maxLen; omega) (by omega) hB' ?_
  intro v' w' h1 h2 _
  have hbb : Below B w0 w' := below_append hb hB hown h2
  refine h v' w' ?_ hbb (Nat.le_trans hB' h2.size)
  unfold OwnB
  rw [List.length_append, List.map_append]
  exact h1
end
theorem conv_own {B : Nat} {v : Value} {acc : List UInt8} {w : World} (h : OwnB B v acc w) : (convert 30 9 v).run Tryd.prog w = .ok (.string (bstr acc)) w := by
  obtain ⟨a, c, rfl, hr, _, _⟩ := reads_of_own h
  exact run_bytes_str _ _ _ 5 Tryd.underlying30 Tryd.underlying5 Tryd.underlying9 _ _ _ acc hr
end Go.Proofs.YtnbihjocdlpplaaDoor
/- Join and Equal of the library on rows of texts; the sides of a patch, by both; put together. -/
namespace Go.Proofs.YtnbihjocdlpplaaDoor
set_option linter.unusedVariables false
set_option linter.unusedSimpArgs false
open Go.RowKit
open Go.Lib
theorem map_bstr_inj : ∀ {A B : List (List UInt8)}, A.map bstr = B.map bstr → A = B
  | [], [], _ => rfl
  | [], _ :: _, h => by cases h
  | _ :: _, [], h => by cases h
  | x :: A, y :: B, h => by
    rw [List.map_cons, List.map_cons, List.cons.injEq] at h
    rw [bstr_inj h.1, map_bstr_inj h.2]
theorem joinTail_flat (r : List (List UInt8)) : Lib.joinTail [] r = r.flatten := by
  unfold Lib.joinTail
  congr 1
  simp
theorem join_flat (L : List (List UInt8)) : Lib.join L [] = L.flatten := by
  cases L with
  | nil => rfl
  | cons x r => rw [Lib.join_cons, joinTail_flat, List.flatten_cons]
theorem joinC (w : World) (a : Option Addr) (n c : Nat) (L : List (List UInt8)) (h : ReadsS w a n L) (hc : n ≤ c) (hn : n ≤ 140737488355328) (hl : L.flatten.length ≤ 140737488355328) :
    Calls Tryd.prog 54 #[.slice a n c, .string (bstr [])] w fun e w' => e = .returned (.string (bstr L.flatten)) ∧ Below w.heap.size w w' := by
  by_cases h0 : n = 0
  · subst h0
    have hL : L = [] := List.eq_nil_of_length_eq_zero h.len
    subst hL
    refine (Tryd.strings_Join_none a c (bstr []) w).mono ?_
    rintro e w' ⟨rfl, rfl⟩
    exact ⟨rfl, Below.refl _ _⟩
  · obtain ⟨b, off, y, ha, hb, _, _⟩ := ReadsS.at h (k := 0) (by omega)
    subst ha
    have hlen := h.len
    have hn2 : (L.map bstr).length = n := by rw [List.length_map, hlen]
    have hm : ((L.map bstr).map (·.data.toList)) = L := by
      rw [List.map_map]
      conv => rhs; rw [← List.map_id L]
      exact List.map_congr_left fun x _ => bstr_list x
    have hcall := Tryd.strings_Join b off c (L.map bstr) (bstr []) w (fun j x hj => ?_) hb (by rw [hn2]; exact hn) (by rw [hn2]; exact hc) (by rw [hm, bstr_list, join_flat]; exact hl)
    · rw [hn2] at hcall
      refine hcall.mono ?_
      rintro e w' ⟨rfl, hb'⟩
      refine ⟨?_, hb'⟩
      rw [hm, bstr_list, join_flat]
      rfl
    · rw [List.getElem?_map] at hj
      have hjn : j < n := by
        cases hq : L[j]? with
        | none => rw [hq] at hj; cases hj
        | some z => rw [← hlen]; exact (List.getElem?_eq_some_iff.1 hq).1
      obtain ⟨b2, o2, z, ha2, _, hz, hcz⟩ := ReadsS.at h hjn
      cases ha2
      rw [hz] at hj
      cases hj
      exact hcz
theorem equalC (w : World) (a1 a2 : Option Addr) (n m c d : Nat) (A B : List (List UInt8)) (h1 : ReadsS w a1 n A) (h2 : ReadsS w a2 m B) (hn : n ≤ 9223372036854775807) (hm : m ≤ 9223372036854775807) :
    Calls Tryd.prog 78 #[.slice a1 n c, .slice a2 m d] w fun e w' => e = .returned (.bool (A == B)) ∧ ∃ q, w' = w.drewN q := by
  have hA := h1.len
  have hB := h2.len
  by_cases hnm : n = m
  · subst hnm
    by_cases h0 : n = 0
    · subst h0
      obtain rfl : A = [] := List.eq_nil_of_length_eq_zero hA
      obtain rfl : B = [] := List.eq_nil_of_length_eq_zero hB
      refine (Tryd.slices_Equal_string_empty a1 a2 c 0 d w hm).mono ?_
      rintro e w' ⟨rfl, rfl⟩
      exact ⟨rfl, 0, rfl⟩
    · obtain ⟨b1, o1, y1, e1, _, _, _⟩ := ReadsS.at h1 (k := 0) (by omega)
      obtain ⟨b2, o2, y2, e2, _, _, _⟩ := ReadsS.at h2 (k := 0) (by omega)
      subst e1 e2
      have hcell : ∀ {b o : Nat} {L : List (List UInt8)}, ReadsS w (some ⟨b, o, none⟩) n L → ∀ j, j < (L.map bstr).length → w.cell? ⟨b, o + j, none⟩ = some (.string ((L.map bstr).getD j ByteArray.empty)) := fun {b o L} h j hj => by
        have hjn : j < n := by rw [List.length_map, h.len] at hj; exact hj
        obtain ⟨b2, o2, z, ha2, _, hz, hcz⟩ := ReadsS.at h hjn
        cases ha2
        rw [hcz]
        simp [List.getD, hz]
      refine (Tryd.slices_Equal_string b1 o1 n c b2 o2 n d (A.map bstr) (B.map bstr) w (by simp; omega) (by simp; omega) hn hm (hcell h1) (hcell h2)).mono ?_
      rintro e w' ⟨rfl, hq⟩
      refine ⟨?_, hq⟩
      congr 2
      rw [List.take_of_length_le (by simp; omega), List.take_of_length_le (by simp; omega)]
      by_cases hab : A = B
      · subst hab; simp
      · rw [decide_eq_false (fun e => hab ?_), (beq_eq_false_iff_ne.2 hab)]
        exact map_bstr_inj e
  · refine (Tryd.slices_Equal_string_lens a1 a2 n c m d w hnm).mono ?_
    rintro e w' ⟨rfl, rfl⟩
    refine ⟨?_, 0, rfl⟩
    have : (A == B) = false := by
      rw [beq_eq_false_iff_ne]
      rintro rfl
      exact hnm (hA.symm.trans hB)
    rw [this]
theorem flat_le2 {s : List UInt8} : ∀ {L : List (List UInt8)}, s ∈ L → s.length ≤ L.flatten.length
  | x :: L, h => by
    rw [List.flatten_cons, List.length_append]
    rcases List.mem_cons.1 h with rfl | h
    · omega
    · have := flat_le2 h; omega
def linesK (X : List HkI) : Nat := (X.map fun h => h.2.length).sum
def bytesK (X : List HkI) : Nat := (X.map fun h => h.2.flatten.length).sum
theorem linesK_app (a b : List HkI) : linesK (a ++ b) = linesK a + linesK b := by unfold linesK; simp
theorem bytesK_app (a b : List HkI) : bytesK (a ++ b) = bytesK a + bytesK b := by unfold bytesK; simp
theorem linesK_take (X : List HkI) (i : Nat) : linesK (X.take i) ≤ linesK X := by
  have := linesK_app (X.take i) (X.drop i)
  rw [List.take_append_drop] at this
  omega
theorem linesK_mem {X : List HkI} {x : HkI} (h : x ∈ X) : x.2.length ≤ linesK X := by
  obtain ⟨a, b, rfl⟩ := List.append_of_mem h
  rw [linesK_app]
  have : linesK (x :: b) = x.2.length + linesK b := by simp [linesK]
  omega
theorem bytesK_mem {X : List HkI} {x : HkI} (h : x ∈ X) : x.2.flatten.length ≤ bytesK X := by
  obtain ⟨a, b, rfl⟩ := List.append_of_mem h
  rw [bytesK_app]
  have : bytesK (x :: b) = x.2.flatten.length + bytesK b := by simp [bytesK]
  omega
theorem sideI_len (k : Int) (X : List HkI) : (sideI k X).length ≤ linesK X := by
  induction X with
  | nil => exact Nat.le_refl _
  | cons x X ih =>
    unfold sideI linesK at *
    rw [List.flatMap_cons, List.length_append, List.map_cons, List.sum_cons]
    have h2 : (if x.1 = 1 ∨ x.1 = k then x.2 else []).length ≤ x.2.length := by split <;> simp
    omega
theorem sideI_bytes (k : Int) (X : List HkI) : (sideI k X).flatten.length ≤ bytesK X := by
  induction X with
  | nil => exact Nat.le_refl _
  | cons x X ih =>
    unfold sideI bytesK at *
    rw [List.flatMap_cons, List.flatten_append, List.length_append, List.map_cons, List.sum_cons]
    have h2 : (if x.1 = 1 ∨ x.1 = k then x.2 else []).flatten.length ≤ x.2.flatten.length := by
      split
      · exact Nat.le_refl _
      · exact Nat.zero_le _
    omega
theorem sideI_next {k : Int} {X : List HkI} {i : Nat} {x : HkI} (h : X[i]? = some x) : sideI k (X.take (i + 1)) = sideI k (X.take i) ++ (if x.1 = 1 ∨ x.1 = k then x.2 else []) := by
  rw [take_next h, sideI_app]
  simp [sideI]
theorem ReadsS.srcs {w : World} {a : Option Addr} {n : Nat} {L : List (List UInt8)} (h : ReadsS w a n L) : 0 < n → ∃ b off, a = some ⟨b, off, none⟩ ∧ ∀ j u, (L.map S1)[j]? = some u → w.cell? ⟨b, off + j, none⟩ = some u := fun hn => by
  obtain ⟨hl, h⟩ := h
  obtain ⟨b, o, rfl, _, hc⟩ := h hn
  exact ⟨b, o, rfl, fun j v hv => by rw [hc j (by rw [← hl]; exact (List.getElem?_eq_some_iff.1 hv).1), hv]⟩
theorem S1_one (L : List (List UInt8)) : ∀ u ∈ L.map S1, u.oneCell' = true := by
  intro u hu
  obtain ⟨x, _, rfl⟩ := List.mem_map.1 hu
  rfl
theorem StrOwn.apps {B : Nat} {v : Value} {L M : List (List UInt8)} {n : Nat} {w : World} (hn : n = M.length) (h : w.ownsRow B 9 1 v (L.length + n) (L.map S1 ++ M.map S1)) : StrOwn B v (L ++ M) w := by
  unfold StrOwn
  rw [List.length_append, List.map_append, ← hn]
  exact h
set_option maxHeartbeats 4000000 in
set_option maxRecDepth 100000 in
theorem sideC (w : World) (a : Option Addr) (n c : Nat) (X : List HkI) (k : Int) (hX : ReadsK w a n X) (hn : n ≤ 1073741824) (hl : linesK X ≤ 1073741824) :
    Calls Tryd.prog 50 #[.slice a n c, .int .i64 k] w fun e w' => ∃ v, e = .returned v ∧ StrOwn w.heap.size v (sideI k X) w' ∧ Below w.heap.size w w' := by
  have HX := Lib.hid hX
  have HL := Lib.hid hl
  have HN := Lib.hid hX.len
  have H0 : Hid (StrOwn w.heap.size (.slice none 0 0) [] w) := Lib.hid (World.ownsRow_nil _ _ _ _)
  clear hX hl
  go_enter Tryd.func50, Tryd.ntmps50
  go_wp2
  go_loopw [5, 10] (fun vv ui wr => ∃ i : Nat, ui = .int .i64 (i : Int) ∧ i ≤ n ∧ Hid (StrOwn w.heap.size vv (sideI k (X.take i)) wr ∧ Below w.heap.size w wr)) (fun _ ui _ => n - (RowKit.intOf ui).toNat)
  case atStart => exact ⟨0, rfl, Nat.zero_le _, Lib.hid ⟨H0.out, Below.refl _ _⟩⟩
  case round =>
    obtain ⟨i, rfl, hi, HR⟩ := hrel
    obtain ⟨vv, rfl⟩ : ∃ v : Value, v = u5 := ⟨_, rfl⟩
    by_cases hlt : i < n
    · obtain ⟨b, off, x, ad, m, cm, rfl, hb, hx, hc0, hc1, hrs, hmc, hcm, hm⟩ := (HX.out.keep HR.out.2 (Nat.le_refl _)).at hlt
      have hlx : linesK (X.take (i + 1)) ≤ 1073741824 := Nat.le_trans (linesK_take _ _) HL.out
      have hs1 : (sideI k (X.take i)).length + m ≤ 1073741824 := by
        rw [take_next hx, linesK_app] at hlx
        have h1 := sideI_len k (X.take i)
        have h2 : linesK [x] = m := by simp [linesK, hm]
        omega
      have HNX := Lib.hid (sideI_next (k := k) hx)
      obtain ⟨kd, hkd⟩ : ∃ kd, kd = x.1 := ⟨_, rfl⟩
      rw [← hkd] at hc0 HNX
      have HRS := Lib.hid hrs
      have HM := Lib.hid hm
      have hwb := HR.out.2.size
      have hit : (i : Int) < (n : Int) := by omega
      clear hx hrs hm hlx
      by_cases h1 : kd = 1 ∨ kd = k
      · rw [if_pos h1] at HNX
        have hbe : (kd == 1) = true ∨ ((kd == 1) = false ∧ (kd == k) = true) := by
          by_cases e : kd = 1
          · exact .inl (by rw [e]; rfl)
          · exact .inr ⟨by rw [beq_eq_false_iff_ne]; exact e, by rw [beq_iff_eq]; exact h1.resolve_left e⟩
        clear h1 hkd
        rcases hbe with q1 | ⟨q1, q2⟩
        all_goals
          go_wp2_with (at_builtin; refine appSlice rfl _ _ rfl Tryd.underlying29 (.string ByteArray.empty) 1 16 infoStr rfl (by decide) (by decide) w.heap.size vv (sideI k (X.take i)).length ((sideI k (X.take i)).map S1) rfl (World.ownsRow.alloc HR.out.1 _) ad m cm (x.2.map S1) rfl (by rw [List.length_map, HM.out, Nat.mul_one]) (HRS.out.keep (((Below.refl _ wr).alloc (Nat.le_refl _) _)) (Nat.le_refl _)).srcs (S1_one _) (by omega) (by simp; omega) ?_; intro v8 w8 hO8 hg8)
          have HO8 : Hid (StrOwn w.heap.size v8 (sideI k (X.take (i + 1))) w8 ∧ Below w.heap.size w w8) := by
            refine Lib.hid ⟨by rw [HNX.out]; exact StrOwn.apps HM.out.symm hO8, ?_⟩
            exact (HR.out.2.alloc hwb _).grown hg8 (by simp; omega) (fun k hk => (World.ownsRow.lt HR.out.1 k hk).1)
          clear hO8 hg8
          go_roundw
          case rel => exact ⟨i + 1, by go_num, hlt, HO8⟩
          case measure => simp [RowKit.intOf]; omega
      · rw [if_neg h1, List.append_nil] at HNX
        have q1 : (kd == 1) = false := by rw [beq_eq_false_iff_ne]; exact fun e => h1 (.inl e)
        have q2 : (kd == k) = false := by rw [beq_eq_false_iff_ne]; exact fun e => h1 (.inr e)
        have hq1 : kd ≠ 1 := fun e => h1 (.inl e)
        have hq2 : kd ≠ k := fun e => h1 (.inr e)
        clear h1 hkd
        go_wp2
        go_roundw
        case rel => exact ⟨i + 1, by go_num, hlt, Lib.hid ⟨by rw [HNX.out]; exact World.ownsRow.alloc HR.out.1 _, HR.out.2.alloc hwb _⟩⟩
        case measure => simp [RowKit.intOf]; omega
    · obtain rfl : i = n := by omega
      have hd : X.take i = X := List.take_of_length_le (by rw [HN.out]; exact Nat.le_refl _)
      have HD := Lib.hid hd
      clear hd
      go_wp2
      go_ret
      have h9 := HR.out.1
      rw [HD.out] at h9
      exact ⟨_, rfl, h9, HR.out.2⟩
end Go.Proofs.YtnbihjocdlpplaaDoor
/- The sides of a patch and texts put together, by the reference. -/
namespace Go.Proofs.YtnbihjocdlpplaaDoor
set_option linter.unusedVariables false
set_option linter.unusedSimpArgs false
open Go.RowKit
open Go.Lib
set_option maxHeartbeats 4000000 in
set_option maxRecDepth 100000 in
theorem sideR (w : World) (a : Option Addr) (n c : Nat) (X : List HkI) (k : Int) (hX : ReadsK w a n X) (hn : n ≤ 1073741824) (hl : linesK X ≤ 1073741824) :
    Calls Tryd.prog 51 #[.slice a n c, .int .i64 k] w fun e w' => ∃ v, e = .returned v ∧ StrOwn w.heap.size v (sideI k X) w' ∧ Below w.heap.size w w' := by
  have HX := Lib.hid hX
  have HL := Lib.hid hl
  have HN := Lib.hid hX.len
  have H0 : Hid (StrOwn w.heap.size (.slice none 0 0) [] w) := Lib.hid (World.ownsRow_nil _ _ _ _)
  clear hX hl
  go_enter Tryd.func51, Tryd.ntmps51
  go_wp2
  go_loopw [5, 6] (fun vv ui wr => ∃ i : Nat, ui = .int .i64 (i : Int) ∧ i ≤ n ∧ Hid (StrOwn w.heap.size vv (sideI k (X.take i)) wr ∧ Below w.heap.size w wr)) (fun _ ui _ => n - (RowKit.intOf ui).toNat)
  case atStart => exact ⟨0, rfl, Nat.zero_le _, Lib.hid ⟨H0.out, Below.refl _ _⟩⟩
  case round =>
    obtain ⟨i, rfl, hi, HR⟩ := hrel
    obtain ⟨vv, rfl⟩ : ∃ v : Value, v = u5 := ⟨_, rfl⟩
    by_cases hlt : i < n
    · obtain ⟨b, off, x, ad, m, cm, rfl, hb, hx, hc0, hc1, hrs, hmc, hcm, hm⟩ := (HX.out.keep HR.out.2 (Nat.le_refl _)).at hlt
      have hlx : linesK (X.take (i + 1)) ≤ 1073741824 := Nat.le_trans (linesK_take _ _) HL.out
      have hs1 : (sideI k (X.take i)).length + m ≤ 1073741824 := by
        rw [take_next hx, linesK_app] at hlx
        have h1 := sideI_len k (X.take i)
        have h2 : linesK [x] = m := by simp [linesK, hm]
        omega
      have HNX := Lib.hid (sideI_next (k := k) hx)
      obtain ⟨kd, hkd⟩ : ∃ kd, kd = x.1 := ⟨_, rfl⟩
      rw [← hkd] at hc0 HNX
      have HRS := Lib.hid hrs
      have HM := Lib.hid hm
      have hwb := HR.out.2.size
      have hit : (i : Int) < (n : Int) := by omega
      clear hx hrs hm hlx
      by_cases h1 : kd = 1 ∨ kd = k
      · rw [if_pos h1] at HNX
        have hbe : (kd == 1) = true ∨ ((kd == 1) = false ∧ (kd == k) = true) := by
          by_cases e : kd = 1
          · exact .inl (by rw [e]; rfl)
          · exact .inr ⟨by rw [beq_eq_false_iff_ne]; exact e, by rw [beq_iff_eq]; exact h1.resolve_left e⟩
        clear h1 hkd
        rcases hbe with q1 | ⟨q1, q2⟩
        all_goals
          go_wp2_with (at_builtin; refine appSlice rfl _ _ rfl Tryd.underlying29 (.string ByteArray.empty) 1 16 infoStr rfl (by decide) (by decide) w.heap.size vv (sideI k (X.take i)).length ((sideI k (X.take i)).map S1) rfl HR.out.1 ad m cm (x.2.map S1) rfl (by rw [List.length_map, HM.out, Nat.mul_one]) HRS.out.srcs (S1_one _) (by omega) hwb ?_; intro v8 w8 hO8 hg8)
          have HO8 : Hid (StrOwn w.heap.size v8 (sideI k (X.take (i + 1))) w8 ∧ Below w.heap.size w w8) := by
            refine Lib.hid ⟨by rw [HNX.out]; exact StrOwn.apps HM.out.symm hO8, ?_⟩
            exact HR.out.2.grown hg8 hwb (fun k hk => (World.ownsRow.lt HR.out.1 k hk).1)
          clear hO8 hg8
          go_roundw
          case rel => exact ⟨i + 1, by go_num, hlt, HO8⟩
          case measure => simp [RowKit.intOf]; omega
      · rw [if_neg h1, List.append_nil] at HNX
        have q1 : (kd == 1) = false := by rw [beq_eq_false_iff_ne]; exact fun e => h1 (.inl e)
        have q2 : (kd == k) = false := by rw [beq_eq_false_iff_ne]; exact fun e => h1 (.inr e)
        have hq1 : kd ≠ 1 := fun e => h1 (.inl e)
        have hq2 : kd ≠ k := fun e => h1 (.inr e)
        clear h1 hkd
        go_wp2
        go_roundw
        case rel => exact ⟨i + 1, by go_num, hlt, Lib.hid ⟨by rw [HNX.out]; exact HR.out.1, HR.out.2⟩⟩
        case measure => simp [RowKit.intOf]; omega
    · obtain rfl : i = n := by omega
      have hd : X.take i = X := List.take_of_length_le (by rw [HN.out]; exact Nat.le_refl _)
      have HD := Lib.hid hd
      clear hd
      go_wp2
      go_ret
      have h9 := HR.out.1
      rw [HD.out] at h9
      exact ⟨_, rfl, h9, HR.out.2⟩
theorem flat_next {L : List (List UInt8)} {i : Nat} {x : List UInt8} (h : L[i]? = some x) : (L.take (i + 1)).flatten = (L.take i).flatten ++ x := by
  rw [take_next h, List.flatten_append]
  simp
theorem flat_take (L : List (List UInt8)) (i : Nat) : (L.take i).flatten.length ≤ L.flatten.length := by
  have : L.flatten = (L.take i).flatten ++ (L.drop i).flatten := by rw [← List.flatten_append, List.take_append_drop]
  rw [this, List.length_append]
  omega
set_option maxHeartbeats 4000000 in
set_option maxRecDepth 100000 in
theorem joinR (w : World) (a : Option Addr) (n c : Nat) (L : List (List UInt8)) (h : ReadsS w a n L) (hn : n ≤ 1073741824) (hl : L.flatten.length ≤ 1099511627776) :
    Calls Tryd.prog 52 #[.slice a n c] w fun e w' => e = .returned (.string (bstr L.flatten)) ∧ Below w.heap.size w w' := by
  have HX := Lib.hid h
  have HL := Lib.hid hl
  have HN := Lib.hid h.len
  have H0 : Hid (OwnB w.heap.size (.slice none 0 0) [] w) := Lib.hid (World.ownsRow_nil _ _ _ _)
  clear h hl
  go_enter Tryd.func52, Tryd.ntmps52
  go_wp2
  go_loopw [3, 4] (fun vv ui wr => ∃ i : Nat, ui = .int .i64 (i : Int) ∧ i ≤ n ∧ Hid (OwnB w.heap.size vv (L.take i).flatten wr ∧ Below w.heap.size w wr)) (fun _ ui _ => n - (RowKit.intOf ui).toNat)
  case atStart => exact ⟨0, rfl, Nat.zero_le _, Lib.hid ⟨H0.out, Below.refl _ _⟩⟩
  case round =>
    obtain ⟨i, rfl, hi, HR⟩ := hrel
    obtain ⟨vv, rfl⟩ : ∃ v : Value, v = u3 := ⟨_, rfl⟩
    by_cases hlt : i < n
    · obtain ⟨b, off, x, rfl, hb, hx, hc0⟩ := (HX.out.keep HR.out.2 (Nat.le_refl _)).at hlt
      have HF := Lib.hid (flat_next hx)
      have hfx := flat_take L (i + 1)
      rw [HF.out, List.length_append] at hfx
      have hL := HL.out
      have l1 : (L.take i).flatten.length ≤ 1099511627776 := by omega
      have l2 : x.length ≤ 1099511627776 := by omega
      have hwb := HR.out.2.size
      have hit : (i : Int) < (n : Int) := by omega
      clear hx hfx hL
      go_wp2_with (at_builtin; refine appStr rfl _ _ rfl w.heap.size w vv (L.take i).flatten x rfl HR.out.1 rfl l1 l2 HR.out.2 hwb ?_; intro v8 w8 hO8 hb8 hs8)
      have HO8 : Hid (OwnB w.heap.size v8 (L.take (i + 1)).flatten w8 ∧ Below w.heap.size w w8) := Lib.hid ⟨by rw [HF.out]; exact hO8, hb8⟩
      clear hO8 hb8
      go_roundw
      case rel => exact ⟨i + 1, by go_num, hlt, HO8⟩
      case measure => simp [RowKit.intOf]; omega
    · obtain rfl : i = n := by omega
      have hd : L.take i = L := List.take_of_length_le (by rw [HN.out]; exact Nat.le_refl _)
      have hcv := conv_own HR.out.1
      rw [hd] at hcv
      clear hd
      go_wp2
      go_ret
      exact ⟨rfl, HR.out.2⟩
end Go.Proofs.YtnbihjocdlpplaaDoor
/- The lines of a text with their ends, by the reference. -/
namespace Go.Proofs.YtnbihjocdlpplaaDoor
set_option linter.unusedVariables false
set_option linter.unusedSimpArgs false
open Go.RowKit
open Go.Lib
/-- append to a row of the call's own, as one step of a region that draws its order -/
theorem stepApp {T e : TypeId} {w : World} {ops : Array Oper} {o : Oper} {a : Act} {K : Act → World → Prop} {Q : Exit → Act → World → Prop} {E : Prop} (hgd : o.guard = none) (sl x : Operand) (ho : o.op = .call { callee := .builtin .append, args := #[sl, x], argTypes := #[T, T] })
    (hT : Tryd.prog.underlying T = some (.slice e)) (z : Value) (size bytes : Nat) (hinfo : (Tryd.prog.info? e).map (fun i => (i.zero, i.size, i.bytes)) = some (some z, size, bytes)) (hz : z.cells.size = size) (hs0 : 0 < size) (hby : bytes ≤ 4096)
    (B B0 : Nat) (w0 wp : World) (v : Value) (n : Nat) (xs cs : List Value) (hcs : cs.length = size) (hone : ∀ u ∈ cs, u.oneCell' = true) (hs : a.eval sl = v) (hown : wp.ownsRow B e size v n xs) (hx : a.eval x = .slice (some ⟨wp.heap.size, 0, none⟩) 1 1) (hw : w = wp.alloc (.cells cs.toArray e)) (hl : n ≤ 1073741824) (hb : Below B0 w0 wp) (hB0 : B0 ≤ B) (hB : B ≤ wp.heap.size)
    (h : ∀ v' w', w'.ownsRow B e size v' (n + 1) (xs ++ cs) → Below B0 w0 w' → K (a.put o.dst v') w') : if Region.wanted o (yielded ops a.tmps) = true then Oper.wp Tryd.prog o a w K Q else E := by
  subst hw
  obtain ⟨i0, hi, hz0, hz1, hz2⟩ := info_parts hinfo
  have hwd : Region.wanted o (yielded ops a.tmps) = true := by simp [Region.wanted, hgd]
  rw [if_pos hwd]
  have hsz : (wp.alloc (.cells cs.toArray e)).heap.size = wp.heap.size + 1 := by simp
  have hbt : (n + 1) * bytes ≤ 140737488355328 := by
    calc (n + 1) * bytes ≤ (n + 1) * 4096 := Nat.mul_le_mul (Nat.le_refl _) hby
      _ ≤ 140737488355328 := by omega
  obtain ⟨v', w', hrun, r1, r2, _⟩ := run_append_own (P := Tryd.prog) (wp.alloc (.cells cs.toArray e)) B T o.type e i0 z size bytes hT hi hz0 hz1 hz2 hz hs0 v n xs (World.ownsRow.alloc hown _) ⟨wp.heap.size, 0, none⟩ 1 1 cs (by rw [hcs, Nat.one_mul]) (new_cells _ _ _) hone (by unfold maxLen; omega) hbt (by omega)
  have hlt : ∀ k, v.ownBlock = some k → B ≤ k := fun k hk => (World.ownsRow.lt hown k hk).1
  unfold Oper.wp
  simp [execOp, ho, resolve, invoke, builtin, hs, hx, hrun, Result.andThen]
  exact h v' w' r1 ((hb.alloc (Nat.le_trans hB0 hB) _).grown r2 (by omega) (fun k hk => Nat.le_trans hB0 (hlt k hk)))
theorem splitA_at {l : List UInt8} {k : Nat} {x : Nat × Nat × Nat} (h : (linesL l)[k]? = some x) : (splitA l)[k]? = some (pieceE l x) := by
  unfold splitA; rw [List.getElem?_map, h]; rfl
theorem linesGo_end (l : List UInt8) : ∀ f a i, a ≤ i → i ≤ l.length → ∀ x ∈ linesGo l f a i, x.2.1 + x.2.2 ≤ l.length
  | 0, a, i, _, _ => fun x hx => by rw [linesGo] at hx; cases hx
  | f + 1, a, i, hai, hil => by
    intro x hx
    rw [linesGo] at hx
    by_cases h1 : l.length ≤ i
    · rw [if_pos h1] at hx
      have : x = (a, l.length, 0) := by simpa using hx
      subst this
      simp
    rw [if_neg h1] at hx
    by_cases h2 : endL l i = 0
    · rw [if_pos h2] at hx
      exact linesGo_end l f a (i + 1) (by omega) (by omega) x hx
    rw [if_neg h2] at hx
    have h3 := (endL_le l i).resolve_left h2
    rcases List.mem_cons.1 hx with rfl | hx
    · exact h3
    · exact linesGo_end l f _ _ (Nat.le_refl _) h3 x hx
theorem linesL_end (l : List UInt8) : ∀ x ∈ linesL l, x.1 ≤ x.2.1 ∧ x.2.1 + x.2.2 ≤ l.length := fun x hx => ⟨(linesL_ok l x hx).1, linesGo_end l _ 0 0 (Nat.le_refl _) (Nat.zero_le _) x hx⟩
theorem pieceE_len {l : List UInt8} {x : Nat × Nat × Nat} (h : x.1 ≤ x.2.1 ∧ x.2.1 + x.2.2 ≤ l.length) : (pieceE l x).length = x.2.1 + x.2.2 - x.1 := by
  unfold pieceE
  rw [List.length_take, List.length_drop]
  omega
set_option maxHeartbeats 8000000 in
set_option maxRecDepth 100000 in
theorem splitAR (w : World) (l : List UInt8) (hm : l.length ≤ 67108864) :
    Calls Tryd.prog 75 #[.string (bstr l)] w fun e w' => ∃ v, e = .returned v ∧ StrOwn w.heap.size v (splitA l) w' ∧ Below w.heap.size w w' := by
  have HA := Lib.hid (fun w1 => allR w1 l hm)
  obtain ⟨m, hml⟩ : ∃ m, (linesL l).length = m := ⟨_, rfl⟩
  have hmm := linesL_len l
  rw [hml] at hmm
  have HM := Lib.hid hml
  have HS : Hid ((splitA l).length = m) := Lib.hid (by unfold splitA; rw [List.length_map, hml])
  have HOK := Lib.hid (linesL_end l)
  have hsz := bstr_size l
  clear hml
  go_enter Tryd.func75, Tryd.ntmps75
  go_upto_region 2 with (go_at_call 88; refine (HA.out _).mono ?_; rintro e w1 ⟨v1, rfl, hO1, hb1⟩)
  obtain ⟨a1, c1, hv1⟩ := slice_own hO1
  rw [HM.out] at hv1
  subst hv1
  have HO1 : Hid (w1.ownsRow w.heap.size 142 3 (.slice a1 m c1) m ((linesL l).flatMap lineCells)) := Lib.hid (by have := hO1; unfold OwnLn at this; rwa [HM.out] at this)
  have HB1 := Lib.hid hb1
  have hsb := hb1.size
  have H0 : Hid (StrOwn w1.heap.size (.slice none 0 0) ((splitA l).take 0) w1) := Lib.hid (World.ownsRow_nil _ _ _ _)
  clear hO1 hb1
  go_wp2
  go_loopw [4, 5] (fun vv ui wr => ∃ k : Nat, k ≤ m ∧ ui = .int .i64 (k : Int) ∧ Hid (StrOwn w1.heap.size vv ((splitA l).take k) wr ∧ Below w1.heap.size w1 wr)) (fun _ ui _ => m - (RowKit.intOf ui).toNat)
  case atStart => exact ⟨0, Nat.zero_le _, rfl, Lib.hid ⟨H0.out, Below.refl _ _⟩⟩
  case round =>
    obtain ⟨k, hkm, rfl, HR⟩ := hrel
    obtain ⟨vv, rfl⟩ : ∃ v : Value, v = u4 := ⟨_, rfl⟩
    clear H0
    by_cases hlt : k < m
    · obtain ⟨x, hx⟩ : ∃ x, (linesL l)[k]? = some x := ⟨_, List.getElem?_eq_getElem (by rw [HM.out]; exact hlt)⟩
      have hxo := HOK.out x (List.mem_of_getElem? hx)
      have HSX := Lib.hid (splitA_at hx)
      have hpl := pieceE_len hxo
      obtain ⟨g, rfl, hg, hcell⟩ := own_cell (own_below HO1.out (HR.out.2)) (by omega)
      obtain ⟨xa, xb, xe⟩ := x
      have e0 : wr.cell? ⟨g, k * 3, none⟩ = some (.int .i64 (xa : Int)) := hcell _ _ (flat_at (c := 3) (fun _ => rfl) hx (j := 0) rfl)
      have e1 : wr.cell? ⟨g, k * 3 + 1, none⟩ = some (.int .i64 (xb : Int)) := hcell _ _ (flat_at (c := 3) (fun _ => rfl) hx (j := 1) rfl)
      have e2 : wr.cell? ⟨g, k * 3 + 2, none⟩ = some (.int .i64 (xe : Int)) := hcell _ _ (flat_at (c := 3) (fun _ => rfl) hx (j := 2) rfl)
      simp only at hxo hpl
      obtain ⟨hab, hbl⟩ := hxo
      obtain ⟨y, hy⟩ : ∃ y, xb + xe = y := ⟨_, rfl⟩
      rw [hy] at hbl hpl
      have i0 : (xb : Int) + (xe : Int) = (y : Int) := by omega
      have iw : IntKind.i64.wrap ((xb : Int) + (xe : Int)) = (y : Int) := by rw [i0]; exact IntWalk.i64_in _ (by omega)
      have i1 : (xa : Int) ≤ (y : Int) := by omega
      have i2 : (y : Int) ≤ (l.length : Int) := by omega
      obtain ⟨S, hS⟩ : ∃ S, pieceE l (xa, xb, xe) = S := ⟨_, rfl⟩
      have hex : (bstr l).extract xa y = bstr S := by rw [← hS, bstr_extract, ← hy]; rfl
      rw [hS] at hpl HSX
      have hbw := HR.out.2.size
      have HB9 := Lib.hid HR.out.2
      have hkl : ((splitA l).take k).length ≤ 1073741824 := by rw [List.length_take, HS.out]; omega
      have HKL := Lib.hid hkl
      have hal : g < w1.heap.size := by
        have := own_cell HO1.out (by omega)
        obtain ⟨g', hg', hlt', _⟩ := this
        cases hg'
        exact hlt'
      clear hx hcell hS hkl hy i0
      go_wp2
      have HOD : Hid (StrOwn w1.heap.size vv ((splitA l).take k) wr.drew) := Lib.hid HR.out.1
      have HBD : Hid (Below w1.heap.size w1 wr.drew) := Lib.hid HB9.out.drew
      have hbd : w1.heap.size ≤ wr.drew.heap.size := hbw
      have hone : ∀ u ∈ [Value.string (bstr S)], u.oneCell' = true := by intro u hu; simp only [List.mem_singleton] at hu; subst hu; rfl
      have HONE := Lib.hid hone
      have hq : ∀ w8, Below w1.heap.size w1 w8 → w8.cell? ⟨g, k * 3, none⟩ = some (.int .i64 (xa : Int)) ∧ w8.cell? ⟨g, k * 3 + 1, none⟩ = some (.int .i64 (xb : Int)) ∧ w8.cell? ⟨g, k * 3 + 2, none⟩ = some (.int .i64 (xe : Int)) := fun w8 hb => by
        rw [hb.cell (p := ⟨g, k * 3, none⟩) hal, hb.cell (p := ⟨g, k * 3 + 1, none⟩) hal, hb.cell (p := ⟨g, k * 3 + 2, none⟩) hal, ← HB9.out.cell (p := ⟨g, k * 3, none⟩) hal, ← HB9.out.cell (p := ⟨g, k * 3 + 1, none⟩) hal, ← HB9.out.cell (p := ⟨g, k * 3 + 2, none⟩) hal]
        exact ⟨e0, e1, e2⟩
      have HQ := Lib.hid hq
      clear hone hq
      go_region_held3 (fun w' => w'.cell? ⟨g, k * 3, none⟩ = some (.int .i64 (xa : Int)) ∧ w'.cell? ⟨g, k * 3 + 1, none⟩ = some (.int .i64 (xb : Int)) ∧ w'.cell? ⟨g, k * 3 + 2, none⟩ = some (.int .i64 (xe : Int))) (first | exact ⟨e0, e1, e2⟩ | exact HQ.out _ (by assumption) | exact HQ.out _ (HBD.out.alloc hbd _) | go_keep) (first
        | ((refine stepApp (by rfl) _ _ (by rfl) Tryd.underlying29 (.string ByteArray.empty) 1 16 infoStr (by rfl) (by decide) (by decide) w1.heap.size w1.heap.size w1 wr.drew vv ((splitA l).take k).length (((splitA l).take k).map S1) [.string (bstr S)] (by rfl) HONE.out (by rfl) HOD.out (by rfl) (by rfl) HKL.out HBD.out (Nat.le_refl _) hbd ?_); intro v8 w8 hO8 hb8))
      have HNX : Hid (StrOwn w1.heap.size v8 ((splitA l).take (k + 1)) w8 ∧ Below w1.heap.size w1 w8) := Lib.hid ⟨by
        rw [take_next HSX.out]
        exact StrOwn.push hO8, hb8⟩
      clear hO8 hb8
      go_wp2
      go_roundw
      case rel => exact ⟨k + 1, by omega, by go_num, HNX⟩
      case measure => simp [RowKit.intOf]; omega
    · obtain rfl : k = m := by omega
      go_wp2
      go_ret
      refine ⟨_, rfl, ?_, HB1.out.trans (HR.out.2.mono hsb)⟩
      have := HR.out.1
      rw [List.take_of_length_le (by rw [HS.out]; exact Nat.le_refl _)] at this
      exact own_mono this hsb
/-- the lines here, as both make them -/
def SplitQ (w : World) (l : List UInt8) (e : Ending) (w' : World) : Prop := ∃ a n c, e = .returned (.slice a n c) ∧ n = (splitD l).length ∧ n ≤ c ∧ c ≤ maxLen ∧ ReadsS w' a n (splitD l) ∧ Below w.heap.size w w'
theorem splitA_len (l : List UInt8) : 0 < (splitA l).length ∧ (splitA l).length ≤ l.length + 1 := by
  refine ⟨List.length_pos_iff.2 (splitA_ne l), ?_⟩
  unfold splitA
  rw [List.length_map]
  exact linesL_len l
theorem splitD_take (l : List UInt8) (h : (splitA l).getLast? = some []) : splitD l = (splitA l).take ((splitA l).length - 1) := by
  unfold splitD
  rw [if_pos h, List.dropLast_eq_take]
theorem splitD_all (l : List UInt8) (h : ¬ (splitA l).getLast? = some []) : splitD l = splitA l := by
  unfold splitD
  rw [if_neg h]
theorem splitA_last (l : List UInt8) : ∃ x, (splitA l)[(splitA l).length - 1]? = some x ∧ (splitA l).getLast? = some x := by
  have h := splitA_len l
  refine ⟨(splitA l)[(splitA l).length - 1]'(by omega), List.getElem?_eq_getElem _, ?_⟩
  rw [List.getLast?_eq_getElem?]
  exact List.getElem?_eq_getElem _
theorem ReadsS.take {w : World} {a : Option Addr} {n : Nat} {L : List (List UInt8)} (h : ReadsS w a n L) (m : Nat) (hm : m ≤ n) : ReadsS w a m (L.take m) := by
  obtain ⟨hl, h⟩ := h
  rw [List.length_map] at hl
  refine ⟨by rw [List.length_map, List.length_take]; omega, fun h0 => ?_⟩
  obtain ⟨b, off, ha, hb, hc⟩ := h (by omega)
  refine ⟨b, off, ha, hb, fun j hj => ?_⟩
  rw [hc j (by omega), List.getElem?_map, List.getElem?_map, List.getElem?_take, if_pos hj]
set_option maxHeartbeats 4000000 in
theorem lastR (w : World) (a : Option Addr) (n c : Nat) (L : List (List UInt8)) (h : ReadsS w a n L) (hn : 0 < n) (hm : n ≤ 1073741824) (x : List UInt8) (hx : L[n - 1]? = some x) :
    Calls Tryd.prog 76 #[.slice a n c] w fun e w' => e = .returned (.int .i64 (if x = [] then 0 else 1)) ∧ w = w' := by
  obtain ⟨b, off, y, rfl, hb, hy, hc⟩ := h.at (k := n - 1) (by omega)
  rw [hx] at hy
  cases hy
  obtain ⟨q, rfl⟩ : ∃ q, n = q + 1 := ⟨n - 1, by omega⟩
  simp only [Nat.add_sub_cancel] at hc
  by_cases h0 : x = []
  · subst h0
    go_enter Tryd.func76, Tryd.ntmps76
    go_wp2
    go_ret
    exact ⟨rfl, rfl⟩
  · have he : x.isEmpty = false := by cases x with | nil => exact absurd rfl h0 | cons _ _ => rfl
    go_enter Tryd.func76, Tryd.ntmps76
    go_wp2
    all_goals go_ret
    all_goals first | exact ⟨rfl, rfl⟩ | exact ⟨by rw [if_neg h0], rfl⟩ | (exfalso; simp_all)
set_option maxHeartbeats 4000000 in
theorem splitR (w : World) (l : List UInt8) (hm : l.length ≤ 67108864) :
    Calls Tryd.prog 44 #[.string (bstr l)] w (SplitQ w l) := by
  have HA := Lib.hid (splitAR w l hm)
  obtain ⟨x, hx, hl⟩ := splitA_last l
  have hlen := splitA_len l
  obtain ⟨q, hq⟩ : ∃ q, (splitA l).length = q + 1 := ⟨(splitA l).length - 1, by omega⟩
  rw [hq] at hx hlen
  have HX := Lib.hid hx
  have HL := Lib.hid hl
  have HQ := Lib.hid hq
  have hq2 : q ≤ 67108865 := by omega
  clear hx hl hq hlen
  go_enter Tryd.func44, Tryd.ntmps44
  go_upto_region 2 with (go_at_call 75; refine (HA.out).mono ?_; rintro e w1 ⟨v1, rfl, hO1, hb1⟩)
  obtain ⟨a1, c1, hv1, hR1, hc1, hm1⟩ := readsS_own hO1
  rw [HQ.out] at hv1 hR1 hc1
  subst hv1
  have HR1 := Lib.hid hR1
  have HB1 := Lib.hid hb1
  have hLR := lastR w1 a1 (q + 1) c1 (splitA l) hR1 (by omega) (by omega) x HX.out
  have hcm : c1 ≤ 9223372036854775807 := by unfold maxLen at hm1; omega
  have HM1 := Lib.hid hm1
  clear hO1 hb1 hR1 hm1
  by_cases h0 : x = []
  · rw [if_pos h0] at hLR
    have HLR := Lib.hid hLR
    have HD := Lib.hid (splitD_take l (by rw [HL.out, h0]))
    clear hLR h0
    go_wp2_with (go_at_call 76; refine (HLR.out).mono ?_; rintro e w2 ⟨rfl, rfl⟩)
    go_ret
    refine ⟨_, _, _, rfl, ?_, by omega, HM1.out, ?_, HB1.out⟩
    · rw [HD.out, List.length_take, HQ.out]; omega
    · rw [HD.out, HQ.out]; exact HR1.out.take _ (by omega)
  · rw [if_neg h0] at hLR
    have HLR := Lib.hid hLR
    have HD := Lib.hid (splitD_all l (by rw [HL.out]; simpa using h0))
    clear hLR h0
    go_wp2_with (go_at_call 76; refine (HLR.out).mono ?_; rintro e w2 ⟨rfl, rfl⟩)
    go_ret
    refine ⟨_, _, _, rfl, ?_, by omega, HM1.out, ?_, HB1.out⟩
    · rw [HD.out, HQ.out]
    · rw [HD.out]; exact HR1.out
end Go.Proofs.YtnbihjocdlpplaaDoor
