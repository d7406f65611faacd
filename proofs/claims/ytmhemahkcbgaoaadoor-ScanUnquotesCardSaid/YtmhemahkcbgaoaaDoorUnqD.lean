/- Unquote, by both. -/
import Derived.Test.YtmhemahkcbgaoaaDoorUnqC
import Derived.Test.YtmhemahkcbgaoaaDoorScanM
namespace Go.Proofs.YtmhemahkcbgaoaaDoor
set_option linter.unusedVariables false
set_option linter.unusedSimpArgs false
open Go.RowKit
open Go.Lib hiding intOf
def UnqQ (w : World) (r : Except (Nat × Nat) (List UInt8)) (e : Ending) (w' : World) : Prop :=
  ∃ (t : List UInt8) (err : Value), e = .returned (.tuple #[.string (bstr t), err]) ∧ Below w.heap.size w w' ∧ match r with
    | .ok s => t = s ∧ err = .nilIface
    | .error (c, p) => t = [] ∧ ∃ g, err = .iface 73 (.pointer (some ⟨g, 0, none⟩)) ∧ w.heap.size ≤ g ∧ Row w' g 75 [.int .i64 (c : Int), .int .i64 (p : Int)]
def UnqR (w : World) (r : Except (Nat × Nat) (List UInt8)) (e : Ending) (w' : World) : Prop :=
  ∃ (t : List UInt8) (c p : Int), e = .returned (.tuple #[.string (bstr t), .int .i64 c, .int .i64 p]) ∧ Below w.heap.size w w' ∧ match r with
    | .ok s => t = s ∧ c = 0 ∧ p = 0
    | .error (c', p') => t = [] ∧ c = (c' : Int) ∧ p = (p' : Int)
theorem unquote_cases (l : List UInt8) : (16384 < l.length ∧ unquoteOf l = .error (4, 0)) ∨ (l.length ≤ 16384 ∧ l.length = 0 ∧ unquoteOf l = .error (71, 0)) ∨
    (∃ x, l.length ≤ 16384 ∧ l[0]? = some x ∧ x ≠ 34 ∧ unquoteOf l = .error (71, 0)) ∨
    (l.length ≤ 16384 ∧ l[0]? = some 34 ∧ (quotedOf l).2.2 = false ∧ unquoteOf l = .error (71, (quotedOf l).2.1)) ∨
    (l.length ≤ 16384 ∧ l[0]? = some 34 ∧ (quotedOf l).2.2 = true ∧ (quotedOf l).2.1 < l.length ∧ unquoteOf l = .error (71, (quotedOf l).2.1)) ∨
    (l.length ≤ 16384 ∧ l[0]? = some 34 ∧ (quotedOf l).2.2 = true ∧ l.length ≤ (quotedOf l).2.1 ∧ unquoteOf l = .ok (quotedOf l).1) := by
  unfold unquoteOf
  by_cases h1 : 16384 < l.length
  · exact .inl ⟨h1, by rw [if_pos h1]⟩
  rw [if_neg h1]
  by_cases h0 : l.length = 0
  · exact .inr (.inl ⟨by omega, h0, by rw [if_pos (.inl h0)]⟩)
  obtain ⟨x, hx⟩ := some_at (l := l) (k := 0) (by omega)
  have hg : l.getD 0 0 = x := by rw [List.getD_eq_getElem?_getD, hx]; rfl
  rw [hg]
  by_cases h2 : x = 34
  · subst h2
    rw [if_neg (by rintro (h | h); · exact h0 h
                   · exact h rfl)]
    by_cases h3 : (quotedOf l).2.2 = false
    · exact .inr (.inr (.inr (.inl ⟨by omega, hx, h3, by rw [if_pos (.inl h3)]⟩)))
    have h3' : (quotedOf l).2.2 = true := by simpa using h3
    by_cases h4 : (quotedOf l).2.1 < l.length
    · exact .inr (.inr (.inr (.inr (.inl ⟨by omega, hx, h3', h4, by rw [if_pos (.inr h4)]⟩))))
    · exact .inr (.inr (.inr (.inr (.inr ⟨by omega, hx, h3', by omega, by rw [if_neg (fun h => h.elim h3 h4)]⟩))))
  · exact .inr (.inr (.inl ⟨x, by omega, hx, h2, by rw [if_pos (.inr h2)]⟩))
set_option maxHeartbeats 4000000 in
set_option maxRecDepth 100000 in
theorem unquoteC (w : World) (l : List UInt8) (hm : l.length ≤ 140737488355328) (hT : Tabs w) :
    Calls Tryd.prog 19 #[.string (bstr l)] w (UnqQ w (unquoteOf l)) := by
  obtain ⟨n, hn⟩ : ∃ n, n = l.length := ⟨_, rfl⟩
  have hsz : (bstr l).size = n := by rw [bstr_size, hn]
  rcases unquote_cases l with ⟨h1, hu⟩ | ⟨h1, h0, hu⟩ | ⟨x, h1, hx, hne, hu⟩ | ⟨h1, hx, hf, hu⟩ | ⟨h1, hx, hf, hlt, hu⟩ | ⟨h1, hx, hf, hge, hu⟩
  · rw [hu]
    rw [← hn] at hm h1
    clear hn hu
    go_enter Tryd.func19, Tryd.ntmps19
    go_wp2
    go_ret2
    exact ⟨[], _, rfl, (Below.refl _ _).alloc (Nat.le_refl _) _, rfl, w.heap.size, rfl, Nat.le_refl _, alloc_last _ _⟩
  · obtain rfl : l = [] := List.eq_nil_of_length_eq_zero h0
    rw [hu]
    clear hn hu hsz
    go_enter Tryd.func19, Tryd.ntmps19
    go_wp2
    go_ret2
    exact ⟨[], _, rfl, (Below.refl _ _).alloc (Nat.le_refl _) _, rfl, w.heap.size, rfl, Nat.le_refl _, alloc_last _ _⟩
  all_goals
    have hl0 : 0 < l.length := (List.getElem?_eq_some_iff.1 hx).1
    have i0 : 0 < (bstr l).size := by rw [hsz, hn]; exact hl0
    have hxa := bstr_at hx i0
    obtain ⟨y, l', hly⟩ : ∃ y l', l = y :: l' := by cases l with | nil => cases hx | cons y l' => exact ⟨y, l', rfl⟩
    have hne0 : (bstr l).toList = l := by rw [ByteArray.toList_eq]; simp [bstr]
    have hne1 : (bstr l).toList.isEmpty = false := by rw [hne0, hly]; rfl
    have hne2 : ((bstr l).toList == []) = false := by rw [hne0, hly]; rfl
    have hnl : l.isEmpty = false := by rw [hly]; rfl
  · rw [hu]
    have b0 : ((x.toNat : Int) == 34) = false := byte_ne (n := 34) (by decide) hne
    have b1 : ((x.toNat : Int) != 34) = true := by rw [bne, b0]; rfl
    rw [← hn] at hm h1 hl0
    clear hn hu hne hne0 hx hly
    go_enter Tryd.func19, Tryd.ntmps19
    go_wp2
    go_ret2
    exact ⟨[], _, rfl, (Below.refl _ _).alloc (Nat.le_refl _) _, rfl, w.heap.size, rfl, Nat.le_refl _, alloc_last _ _⟩
  all_goals
    have hQ := quotedC w l (by omega) hT
    rw [hu]
    rw [hf] at hQ
    obtain ⟨T, hTt⟩ : ∃ T, (quotedOf l).1 = T := ⟨_, rfl⟩
    obtain ⟨P, hP⟩ : ∃ P, (quotedOf l).2.1 = P := ⟨_, rfl⟩
    rw [hTt, hP] at hQ
    have HQ := Lib.hid hQ
    clear hQ hu hne0 hx hly hf
  · rw [hP]
    rw [← hn] at hm h1 hl0
    clear hn hTt hP
    go_enter Tryd.func19, Tryd.ntmps19
    go_wp2_with (go_at_call 43; refine (HQ.out).mono ?_; rintro e w2 ⟨rfl, hb2⟩)
    go_ret2
    exact ⟨[], _, rfl, hb2.alloc hb2.size _, rfl, w2.heap.size, rfl, hb2.size, alloc_last _ _⟩
  · rw [hP]
    rw [hP] at hlt
    rw [← hn] at hm h1 hl0 hlt
    clear hn hTt hP
    go_enter Tryd.func19, Tryd.ntmps19
    go_wp2_with (go_at_call 43; refine (HQ.out).mono ?_; rintro e w2 ⟨rfl, hb2⟩)
    go_ret2
    exact ⟨[], _, rfl, hb2.alloc hb2.size _, rfl, w2.heap.size, rfl, hb2.size, alloc_last _ _⟩
  · rw [hTt]
    rw [hP] at hge
    rw [← hn] at hm h1 hl0 hge
    clear hn hTt hP
    go_enter Tryd.func19, Tryd.ntmps19
    go_wp2_with (go_at_call 43; refine (HQ.out).mono ?_; rintro e w2 ⟨rfl, hb2⟩)
    go_ret2
    exact ⟨T, _, rfl, hb2, rfl, rfl⟩
set_option maxHeartbeats 4000000 in
set_option maxRecDepth 100000 in
theorem unquoteR (w : World) (l : List UInt8) (hm : l.length ≤ 140737488355328) :
    Calls Tryd.prog 23 #[.string (bstr l)] w (UnqR w (unquoteOf l)) := by
  obtain ⟨n, hn⟩ : ∃ n, n = l.length := ⟨_, rfl⟩
  have hsz : (bstr l).size = n := by rw [bstr_size, hn]
  rcases unquote_cases l with ⟨h1, hu⟩ | ⟨h1, h0, hu⟩ | ⟨x, h1, hx, hne, hu⟩ | ⟨h1, hx, hf, hu⟩ | ⟨h1, hx, hf, hlt, hu⟩ | ⟨h1, hx, hf, hge, hu⟩
  · rw [hu]
    rw [← hn] at hm h1
    clear hn hu
    go_enter Tryd.func23, Tryd.ntmps23
    go_wp2
    go_ret3
    exact ⟨[], _, _, rfl, Below.refl _ _, rfl, rfl, rfl⟩
  · rw [hu]
    rw [← hn] at hm h1 h0
    clear hn hu
    subst h0
    go_enter Tryd.func23, Tryd.ntmps23
    go_wp2
    go_ret3
    exact ⟨[], _, _, rfl, Below.refl _ _, rfl, rfl, rfl⟩
  all_goals
    have hl0 : 0 < l.length := (List.getElem?_eq_some_iff.1 hx).1
    have i0 : 0 < (bstr l).size := by rw [hsz, hn]; exact hl0
    have hxa := bstr_at hx i0
  · rw [hu]
    have b0 : ((x.toNat : Int) == 34) = false := byte_ne (n := 34) (by decide) hne
    have b1 : ((x.toNat : Int) != 34) = true := by rw [bne, b0]; rfl
    rw [← hn] at hm h1 hl0
    have z0 : ((n : Int) == 0) = false := nat_ne (b := 0) (by omega)
    clear hn hu hne hx
    go_enter Tryd.func23, Tryd.ntmps23
    go_wp2
    go_ret3
    exact ⟨[], _, _, rfl, Below.refl _ _, rfl, rfl, rfl⟩
  all_goals
    have hQ := quotedR w l (by omega)
    rw [hu]
    rw [hf] at hQ
    obtain ⟨T, hTt⟩ : ∃ T, (quotedOf l).1 = T := ⟨_, rfl⟩
    obtain ⟨P, hP⟩ : ∃ P, (quotedOf l).2.1 = P := ⟨_, rfl⟩
    rw [hTt, hP] at hQ
    have HQ := Lib.hid hQ
    clear hQ hu hx hf
  · rw [hP]
    rw [← hn] at hm h1 hl0
    have z0 : ((n : Int) == 0) = false := nat_ne (b := 0) (by omega)
    clear hn hTt hP
    go_enter Tryd.func23, Tryd.ntmps23
    go_wp2_with (go_at_call 45; refine (HQ.out).mono ?_; rintro e w2 ⟨rfl, hb2⟩)
    go_ret3
    exact ⟨[], _, _, rfl, hb2, rfl, rfl, rfl⟩
  · rw [hP]
    rw [hP] at hlt
    rw [← hn] at hm h1 hl0 hlt
    have z0 : ((n : Int) == 0) = false := nat_ne (b := 0) (by omega)
    clear hn hTt hP
    go_enter Tryd.func23, Tryd.ntmps23
    go_wp2_with (go_at_call 45; refine (HQ.out).mono ?_; rintro e w2 ⟨rfl, hb2⟩)
    go_ret3
    exact ⟨[], _, _, rfl, hb2, rfl, rfl, rfl⟩
  · rw [hTt]
    rw [hP] at hge
    rw [← hn] at hm h1 hl0 hge
    have z0 : ((n : Int) == 0) = false := nat_ne (b := 0) (by omega)
    clear hn hTt hP
    go_enter Tryd.func23, Tryd.ntmps23
    go_wp2_with (go_at_call 45; refine (HQ.out).mono ?_; rintro e w2 ⟨rfl, hb2⟩)
    go_ret3
    exact ⟨T, _, _, rfl, hb2, rfl, rfl, rfl⟩
end Go.Proofs.YtmhemahkcbgaoaaDoor
