/- Texts joined, one behind the other (DSide). -/
import Derived.Test.YtnbihjocdlpplaaDoorDp08
/- Join and Equal of the library on rows of texts; the sides of a patch, by both; put together. -/
namespace Go.Proofs.YtnbihjocdlpplaaDoor
set_option linter.unusedVariables false
set_option linter.unusedSimpArgs false
open Go.RowKit
open Go.Lib
theorem map_bstr_inj : ∀ {A B : List (List UInt8)}, A.map bstr = B.map bstr → A = B
  | [], [], _ => rfl
  | [], _ :: _, h => by cases h
  | _ :: _, [], h => by cases h
  | x :: A, y :: B, h => by
    rw [List.map_cons, List.map_cons, List.cons.injEq] at h
    rw [bstr_inj h.1, map_bstr_inj h.2]
theorem joinTail_flat (r : List (List UInt8)) : Lib.joinTail [] r = r.flatten := by
  unfold Lib.joinTail
  congr 1
  simp
theorem join_flat (L : List (List UInt8)) : Lib.join L [] = L.flatten := by
  cases L with
  | nil => rfl
  | cons x r => rw [Lib.join_cons, joinTail_flat, List.flatten_cons]
theorem joinC (w : World) (a : Option Addr) (n c : Nat) (L : List (List UInt8)) (h : ReadsS w a n L) (hc : n ≤ c) (hn : n ≤ 140737488355328) (hl : L.flatten.length ≤ 140737488355328) :
    Calls Tryd.prog 54 #[.slice a n c, .string (bstr [])] w fun e w' => e = .returned (.string (bstr L.flatten)) ∧ Below w.heap.size w w' := by
  by_cases h0 : n = 0
  · subst h0
    have hL : L = [] := List.eq_nil_of_length_eq_zero h.len
    subst hL
    refine (Tryd.strings_Join_none a c (bstr []) w).mono ?_
    rintro e w' ⟨rfl, rfl⟩
    exact ⟨rfl, Below.refl _ _⟩
  · obtain ⟨b, off, y, ha, hb, _, _⟩ := ReadsS.at h (k := 0) (by omega)
    subst ha
    have hlen := h.len
    have hn2 : (L.map bstr).length = n := by rw [List.length_map, hlen]
    have hm : ((L.map bstr).map (·.data.toList)) = L := by
      rw [List.map_map]
      conv => rhs; rw [← List.map_id L]
      exact List.map_congr_left fun x _ => bstr_list x
    have hcall := Tryd.strings_Join b off c (L.map bstr) (bstr []) w (fun j x hj => ?_) hb (by rw [hn2]; exact hn) (by rw [hn2]; exact hc) (by rw [hm, bstr_list, join_flat]; exact hl)
    · rw [hn2] at hcall
      refine hcall.mono ?_
      rintro e w' ⟨rfl, hb'⟩
      refine ⟨?_, hb'⟩
      rw [hm, bstr_list, join_flat]
      rfl
    · rw [List.getElem?_map] at hj
      have hjn : j < n := by
        cases hq : L[j]? with
        | none => rw [hq] at hj; cases hj
        | some z => rw [← hlen]; exact (List.getElem?_eq_some_iff.1 hq).1
      obtain ⟨b2, o2, z, ha2, _, hz, hcz⟩ := ReadsS.at h hjn
      cases ha2
      rw [hz] at hj
      cases hj
      exact hcz
theorem equalC (w : World) (a1 a2 : Option Addr) (n m c d : Nat) (A B : List (List UInt8)) (h1 : ReadsS w a1 n A) (h2 : ReadsS w a2 m B) (hn : n ≤ 9223372036854775807) (hm : m ≤ 9223372036854775807) :
    Calls Tryd.prog 78 #[.slice a1 n c, .slice a2 m d] w fun e w' => e = .returned (.bool (A == B)) ∧ ∃ q, w' = w.drewN q := by
  have hA := h1.len
  have hB := h2.len
  by_cases hnm : n = m
  · subst hnm
    by_cases h0 : n = 0
    · subst h0
      obtain rfl : A = [] := List.eq_nil_of_length_eq_zero hA
      obtain rfl : B = [] := List.eq_nil_of_length_eq_zero hB
      refine (Tryd.slices_Equal_string_empty a1 a2 c 0 d w hm).mono ?_
      rintro e w' ⟨rfl, rfl⟩
      exact ⟨rfl, 0, rfl⟩
    · obtain ⟨b1, o1, y1, e1, _, _, _⟩ := ReadsS.at h1 (k := 0) (by omega)
      obtain ⟨b2, o2, y2, e2, _, _, _⟩ := ReadsS.at h2 (k := 0) (by omega)
      subst e1 e2
      have hcell : ∀ {b o : Nat} {L : List (List UInt8)}, ReadsS w (some ⟨b, o, none⟩) n L → ∀ j, j < (L.map bstr).length → w.cell? ⟨b, o + j, none⟩ = some (.string ((L.map bstr).getD j ByteArray.empty)) := fun {b o L} h j hj => by
        have hjn : j < n := by rw [List.length_map, h.len] at hj; exact hj
        obtain ⟨b2, o2, z, ha2, _, hz, hcz⟩ := ReadsS.at h hjn
        cases ha2
        rw [hcz]
        simp [List.getD, hz]
      refine (Tryd.slices_Equal_string b1 o1 n c b2 o2 n d (A.map bstr) (B.map bstr) w (by simp; omega) (by simp; omega) hn hm (hcell h1) (hcell h2)).mono ?_
      rintro e w' ⟨rfl, hq⟩
      refine ⟨?_, hq⟩
      congr 2
      rw [List.take_of_length_le (by simp; omega), List.take_of_length_le (by simp; omega)]
      by_cases hab : A = B
      · subst hab; simp
      · rw [decide_eq_false (fun e => hab ?_), (beq_eq_false_iff_ne.2 hab)]
        exact map_bstr_inj e
  · refine (Tryd.slices_Equal_string_lens a1 a2 n c m d w hnm).mono ?_
    rintro e w' ⟨rfl, rfl⟩
    refine ⟨?_, 0, rfl⟩
    have : (A == B) = false := by
      rw [beq_eq_false_iff_ne]
      rintro rfl
      exact hnm (hA.symm.trans hB)
    rw [this]
theorem flat_le2 {s : List UInt8} : ∀ {L : List (List UInt8)}, s ∈ L → s.length ≤ L.flatten.length
  | x :: L, h => by
    rw [List.flatten_cons, List.length_append]
    rcases List.mem_cons.1 h with rfl | h
    · omega
    · have := flat_le2 h; omega
def linesK (X : List HkI) : Nat := (X.map fun h => h.2.length).sum
def bytesK (X : List HkI) : Nat := (X.map fun h => h.2.flatten.length).sum
theorem linesK_app (a b : List HkI) : linesK (a ++ b) = linesK a + linesK b := by unfold linesK; simp
theorem bytesK_app (a b : List HkI) : bytesK (a ++ b) = bytesK a + bytesK b := by unfold bytesK; simp
theorem linesK_take (X : List HkI) (i : Nat) : linesK (X.take i) ≤ linesK X := by
  have := linesK_app (X.take i) (X.drop i)
  rw [List.take_append_drop] at this
  omega
theorem linesK_mem {X : List HkI} {x : HkI} (h : x ∈ X) : x.2.length ≤ linesK X := by
  obtain ⟨a, b, rfl⟩ := List.append_of_mem h
  rw [linesK_app]
  have : linesK (x :: b) = x.2.length + linesK b := by simp [linesK]
  omega
theorem bytesK_mem {X : List HkI} {x : HkI} (h : x ∈ X) : x.2.flatten.length ≤ bytesK X := by
  obtain ⟨a, b, rfl⟩ := List.append_of_mem h
  rw [bytesK_app]
  have : bytesK (x :: b) = x.2.flatten.length + bytesK b := by simp [bytesK]
  omega
theorem sideI_len (k : Int) (X : List HkI) : (sideI k X).length ≤ linesK X := by
  induction X with
  | nil => exact Nat.le_refl _
  | cons x X ih =>
    unfold sideI linesK at *
    rw [List.flatMap_cons, List.length_append, List.map_cons, List.sum_cons]
    have h2 : (if x.1 = 1 ∨ x.1 = k then x.2 else []).length ≤ x.2.length := by split <;> simp
    omega
theorem sideI_bytes (k : Int) (X : List HkI) : (sideI k X).flatten.length ≤ bytesK X := by
  induction X with
  | nil => exact Nat.le_refl _
  | cons x X ih =>
    unfold sideI bytesK at *
    rw [List.flatMap_cons, List.flatten_append, List.length_append, List.map_cons, List.sum_cons]
    have h2 : (if x.1 = 1 ∨ x.1 = k then x.2 else []).flatten.length ≤ x.2.flatten.length := by
      split
      · exact Nat.le_refl _
      · exact Nat.zero_le _
    omega
theorem sideI_next {k : Int} {X : List HkI} {i : Nat} {x : HkI} (h : X[i]? = some x) : sideI k (X.take (i + 1)) = sideI k (X.take i) ++ (if x.1 = 1 ∨ x.1 = k then x.2 else []) := by
  rw [take_next h, sideI_app]
  simp [sideI]
theorem ReadsS.srcs {w : World} {a : Option Addr} {n : Nat} {L : List (List UInt8)} (h : ReadsS w a n L) : 0 < n → ∃ b off, a = some ⟨b, off, none⟩ ∧ ∀ j u, (L.map S1)[j]? = some u → w.cell? ⟨b, off + j, none⟩ = some u := fun hn => by
  obtain ⟨hl, h⟩ := h
  obtain ⟨b, o, rfl, _, hc⟩ := h hn
  exact ⟨b, o, rfl, fun j v hv => by rw [hc j (by rw [← hl]; exact (List.getElem?_eq_some_iff.1 hv).1), hv]⟩
theorem S1_one (L : List (List UInt8)) : ∀ u ∈ L.map S1, u.oneCell' = true := by
  intro u hu
  obtain ⟨x, _, rfl⟩ := List.mem_map.1 hu
  rfl
theorem StrOwn.apps {B : Nat} {v : Value} {L M : List (List UInt8)} {n : Nat} {w : World} (hn : n = M.length) (h : w.ownsRow B 9 1 v (L.length + n) (L.map S1 ++ M.map S1)) : StrOwn B v (L ++ M) w := by
  unfold StrOwn
  rw [List.length_append, List.map_append, ← hn]
  exact h
set_option maxHeartbeats 4000000 in
set_option maxRecDepth 100000 in
theorem sideC (w : World) (a : Option Addr) (n c : Nat) (X : List HkI) (k : Int) (hX : ReadsK w a n X) (hn : n ≤ 1073741824) (hl : linesK X ≤ 1073741824) :
    Calls Tryd.prog 50 #[.slice a n c, .int .i64 k] w fun e w' => ∃ v, e = .returned v ∧ StrOwn w.heap.size v (sideI k X) w' ∧ Below w.heap.size w w' := by
  have HX := Lib.hid hX
  have HL := Lib.hid hl
  have HN := Lib.hid hX.len
  have H0 : Hid (StrOwn w.heap.size (.slice none 0 0) [] w) := Lib.hid (World.ownsRow_nil _ _ _ _)
  clear hX hl
  go_enter Tryd.func50, Tryd.ntmps50
  go_wp2
  go_loopw [5, 10] (fun vv ui wr => ∃ i : Nat, ui = .int .i64 (i : Int) ∧ i ≤ n ∧ Hid (StrOwn w.heap.size vv (sideI k (X.take i)) wr ∧ Below w.heap.size w wr)) (fun _ ui _ => n - (RowKit.intOf ui).toNat)
  case atStart => exact ⟨0, rfl, Nat.zero_le _, Lib.hid ⟨H0.out, Below.refl _ _⟩⟩
  case round =>
    obtain ⟨i, rfl, hi, HR⟩ := hrel
    obtain ⟨vv, rfl⟩ : ∃ v : Value, v = u5 := ⟨_, rfl⟩
    by_cases hlt : i < n
    · obtain ⟨b, off, x, ad, m, cm, rfl, hb, hx, hc0, hc1, hrs, hmc, hcm, hm⟩ := (HX.out.keep HR.out.2 (Nat.le_refl _)).at hlt
      have hlx : linesK (X.take (i + 1)) ≤ 1073741824 := Nat.le_trans (linesK_take _ _) HL.out
      have hs1 : (sideI k (X.take i)).length + m ≤ 1073741824 := by
        rw [take_next hx, linesK_app] at hlx
        have h1 := sideI_len k (X.take i)
        have h2 : linesK [x] = m := by simp [linesK, hm]
        omega
      have HNX := Lib.hid (sideI_next (k := k) hx)
      obtain ⟨kd, hkd⟩ : ∃ kd, kd = x.1 := ⟨_, rfl⟩
      rw [← hkd] at hc0 HNX
      have HRS := Lib.hid hrs
      have HM := Lib.hid hm
      have hwb := HR.out.2.size
      have hit : (i : Int) < (n : Int) := by omega
      clear hx hrs hm hlx
      by_cases h1 : kd = 1 ∨ kd = k
      · rw [if_pos h1] at HNX
        have hbe : (kd == 1) = true ∨ ((kd == 1) = false ∧ (kd == k) = true) := by
          by_cases e : kd = 1
          · exact .inl (by rw [e]; rfl)
          · exact .inr ⟨by rw [beq_eq_false_iff_ne]; exact e, by rw [beq_iff_eq]; exact h1.resolve_left e⟩
        clear h1 hkd
        rcases hbe with q1 | ⟨q1, q2⟩
        all_goals
          go_wp2_with (at_builtin; refine appSlice rfl _ _ rfl Tryd.underlying29 (.string ByteArray.empty) 1 16 infoStr rfl (by decide) (by decide) w.heap.size vv (sideI k (X.take i)).length ((sideI k (X.take i)).map S1) rfl (World.ownsRow.alloc HR.out.1 _) ad m cm (x.2.map S1) rfl (by rw [List.length_map, HM.out, Nat.mul_one]) (HRS.out.keep (((Below.refl _ wr).alloc (Nat.le_refl _) _)) (Nat.le_refl _)).srcs (S1_one _) (by omega) (by simp; omega) ?_; intro v8 w8 hO8 hg8)
          have HO8 : Hid (StrOwn w.heap.size v8 (sideI k (X.take (i + 1))) w8 ∧ Below w.heap.size w w8) := by
            refine Lib.hid ⟨by rw [HNX.out]; exact StrOwn.apps HM.out.symm hO8, ?_⟩
            exact (HR.out.2.alloc hwb _).grown hg8 (by simp; omega) (fun k hk => (World.ownsRow.lt HR.out.1 k hk).1)
          clear hO8 hg8
          go_roundw
          case rel => exact ⟨i + 1, by go_num, hlt, HO8⟩
          case measure => simp [RowKit.intOf]; omega
      · rw [if_neg h1, List.append_nil] at HNX
        have q1 : (kd == 1) = false := by rw [beq_eq_false_iff_ne]; exact fun e => h1 (.inl e)
        have q2 : (kd == k) = false := by rw [beq_eq_false_iff_ne]; exact fun e => h1 (.inr e)
        have hq1 : kd ≠ 1 := fun e => h1 (.inl e)
        have hq2 : kd ≠ k := fun e => h1 (.inr e)
        clear h1 hkd
        go_wp2
        go_roundw
        case rel => exact ⟨i + 1, by go_num, hlt, Lib.hid ⟨by rw [HNX.out]; exact World.ownsRow.alloc HR.out.1 _, HR.out.2.alloc hwb _⟩⟩
        case measure => simp [RowKit.intOf]; omega
    · obtain rfl : i = n := by omega
      have hd : X.take i = X := List.take_of_length_le (by rw [HN.out]; exact Nat.le_refl _)
      have HD := Lib.hid hd
      clear hd
      go_wp2
      go_ret
      have h9 := HR.out.1
      rw [HD.out] at h9
      exact ⟨_, rfl, h9, HR.out.2⟩
end Go.Proofs.YtnbihjocdlpplaaDoor
