/- Texts joined, one behind the other (DDone, DBack, DBackR). -/
import Derived.Test.YtnbihjocdlpplaaGreatDoorKq13
/- The program's writer: done; what a patch of a call's own is. -/
namespace Go.Proofs.YtnbihjocdlpplaaGreatDoor
set_option linter.unusedVariables false
set_option linter.unusedSimpArgs false
open Go.RowKit
open Go.Lib
/-- a patch of the call's own: hunks in one block, the lines of each in a block of their own, all without spare room -/
def PatchAt (B : Nat) (w : World) (v : Value) (H : List Hk) : Prop :=
  ∃ (a : Option Addr) (c : Nat) (hs : List HCell), v = .slice a H.length H.length ∧ SW B w (.slice a H.length c) hs H [] ∧ ∀ h ∈ hs, h.2.2.1 = h.2.2.2
theorem SW.bare {B : Nat} {w : World} {vo : Value} {hs : List HCell} {H : List Hk} {vals : List Wait} (h : SW B w vo hs H vals) : SW B w vo hs H [] :=
  ⟨h.own, h.len, fun k c x h1 h2 => by
    obtain ⟨q1, q2, q3, q4, q5⟩ := h.each k c x h1 h2
    exact ⟨q1, q2, q3, q4, fun ad had => ⟨(q5 ad had).1, (q5 ad had).2.1, fun p hp => (by cases hp)⟩⟩, fun p hp => (by cases hp), fun i j p q hi hj _ => (by cases hi), h.dist⟩
theorem PatchAt.keep {B : Nat} {w w' : World} {v : Value} {H : List Hk} (h : PatchAt B w v H) (hb : Below w.heap.size w w') : PatchAt B w' v H := by
  obtain ⟨a, c, hs, h1, h2, h3⟩ := h
  exact ⟨a, c, hs, h1, h2.keep hb, h3⟩
theorem hk_len : ∀ hs : List HCell, (hs.flatMap hkCells).length = hs.length * 2 := by
  intro hs
  induction hs with
  | nil => rfl
  | cons x l ih => rw [List.flatMap_cons, List.length_append, ih, List.length_cons]; show 2 + _ = _; omega
/-- what a row of hunks reads as -/
theorem SW.reads {B : Nat} {w : World} {a : Option Addr} {c : Nat} {hs : List HCell} {H : List Hk} {vals : List Wait} {n : Nat} (h : SW B w (.slice a n c) hs H vals) : n = H.length ∧ ReadsK w a H.length (H.map toI) := by
  have hn : n = hs.length := by
    rcases h.own.2 with ⟨h1, h2⟩ | ⟨g, cap, cur, hv, _⟩
    · cases h1; exact h2.symm
    · cases hv; rfl
  subst hn
  refine ⟨h.len, by simp, fun h0 => ?_⟩
  obtain ⟨g, rfl, hg, hc⟩ := own_cell h.own (by rw [h.len]; exact h0)
  refine ⟨g, 0, rfl, hg, fun i x hx => ?_⟩
  rw [List.getElem?_map] at hx
  cases hy : H[i]? with
  | none => rw [hy] at hx; cases hx
  | some y =>
    rw [hy] at hx
    cases hx
    have hil := (List.getElem?_eq_some_iff.1 hy).1
    have hp : hs[i]? = some (hs[i]'(by rw [h.len]; exact hil)) := by simp
    obtain ⟨q1, q2, q3, q4, q5⟩ := h.each i _ y hp hy
    have hl : (hs[i]'(by rw [h.len]; exact hil)).2.2.1 = y.2.length := q4.len.symm
    have f0 := flat_at (f := hkCells) (c := 2) (fun _ => rfl) hp (j := 0) rfl
    have f1 := flat_at (f := hkCells) (c := 2) (fun _ => rfl) hp (j := 1) rfl
    refine ⟨_, _, ?_, ?_, by show ReadsS w _ y.2.length y.2; rw [← hl]; exact q4, by show y.2.length ≤ _; rw [← hl]; exact q2, q3⟩
    · rw [Nat.zero_add]
      have := hc _ _ f0
      rw [Nat.add_zero] at this
      rw [this, q1]
      rfl
    · rw [Nat.zero_add]
      rw [hc _ _ f1, hl]
      rfl
theorem PatchAt.reads {B : Nat} {w : World} {v : Value} {H : List Hk} (h : PatchAt B w v H) : ∃ a, v = .slice a H.length H.length ∧ ReadsK w a H.length (H.map toI) := by
  obtain ⟨a, c, hs, h1, h2, _⟩ := h
  exact ⟨a, h1, h2.reads.2⟩
theorem own_caps {w : World} {B : Nat} {e : TypeId} {size : Nat} {a : Option Addr} {n c m : Nat} {xs : List Value} (h : w.ownsRow B e size (.slice a n c) m xs) : n = m ∧ n ≤ c ∧ c ≤ maxLen := by
  rcases h.2 with ⟨h1, h2⟩ | ⟨g, cap, cur, hv, _, _, h3, h4, _⟩
  · cases h1; subst h2; exact ⟨rfl, Nat.le_refl _, Nat.zero_le _⟩
  · cases hv; exact ⟨rfl, h3, h4⟩
set_option maxHeartbeats 8000000 in
set_option maxRecDepth 100000 in
theorem doneC (w : World) (B p : Nat) (st : St7) (h : WS B w p st) (hH : st.out.length ≤ 1048500) :
    Calls Tryz.prog 41 #[.pointer (some ⟨p, 0, none⟩)] w fun e w' => ∃ v, e = .returned v ∧ PatchAt B w' v (doneW st) ∧ KB B p w w' ∧ B ≤ w'.heap.size := by
  obtain ⟨hs0, vo0, vs, vg, vc, h0⟩ := h
  have HW0 := Lib.hid h0
  clear h0
  have k1 := putK_le 1 st.same st.out
  have k2 := putK_le 2 st.gone (putK 1 st.same st.out)
  go_enter Tryz.func41, Tryz.ntmps41
  go_upto_region 4 with (first
    | (go_at_call_of 72 (Value.int .i64 1); refine (putC w B p hs0 st.out vo0 vs [(vs, st.same), (vg, st.gone), (vc, st.come)] 0 1 st.same HW0.out rfl (by omega)).mono ?_; rintro e w1 ⟨⟨u0, rfl⟩, vo1, hs1, v1, hw1, hb1, _⟩; have HW1 := Lib.hid hw1; have HB1 := Lib.hid hb1; clear hw1 hb1)
    | (go_at_call_of 72 (Value.int .i64 2); refine (putC w1 B p hs1 (putK 1 st.same st.out) vo1 vg [(v1, []), (vg, st.gone), (vc, st.come)] 1 2 st.gone HW1.out rfl (by omega)).mono ?_; rintro e w2 ⟨⟨u1, rfl⟩, vo2, hs2, v2, hw2, hb2, _⟩; have HW2 := Lib.hid hw2; have HB2 := Lib.hid hb2; clear hw2 hb2)
    | (go_at_call_of 72 (Value.int .i64 3); refine (putC w2 B p hs2 (putK 2 st.gone (putK 1 st.same st.out)) vo2 vc [(v1, []), (v2, []), (vc, st.come)] 2 3 st.come HW2.out rfl (by omega)).mono ?_; rintro e w3 ⟨⟨u2, rfl⟩, vo3, hs3, v3, hw3, hb3, _⟩; have HW3 := Lib.hid hw3; have HB3 := Lib.hid hb3; clear hw3 hb3))
  obtain ⟨a, c, hv⟩ := slice_own HW3.out.sw.own
  subst hv
  have d0 : w3.cell? ⟨p, 0, none⟩ = some (.slice a hs3.length c) := HW3.out.row.cell 0
  obtain ⟨_, c1, c2⟩ := own_caps HW3.out.sw.own
  have hcm : c ≤ 9223372036854775807 := by unfold maxLen at c2; omega
  have HC := Lib.hid (⟨c1, hcm⟩ : hs3.length ≤ c ∧ c ≤ 9223372036854775807)
  have hlen : hs3.length = (doneW st).length := HW3.out.sw.len
  have HFIN : Hid (PatchAt B w3 (.slice a hs3.length hs3.length) (doneW st)) := Lib.hid (by
    refine ⟨a, c, hs3, by rw [hlen], ?_, HW3.out.clip⟩
    rw [← hlen]
    exact HW3.out.sw.bare)
  obtain ⟨n, hn⟩ : ∃ n, n = hs3.length := ⟨_, rfl⟩
  rw [← hn] at d0 HC HFIN
  clear hn hlen c1 c2 k1 k2
  go_wp2_with (go_at_call 61; refine (clipH w3 a n c HC.out.1 HC.out.2).mono ?_; rintro e w4 ⟨rfl, rfl⟩)
  go_ret
  exact ⟨_, rfl, HFIN.out, (HB1.out.trans HB2.out).trans HB3.out, HW3.out.size⟩
end Go.Proofs.YtnbihjocdlpplaaGreatDoor
/- The patch the other way, by the program. -/
namespace Go.Proofs.YtnbihjocdlpplaaGreatDoor
set_option linter.unusedVariables false
set_option linter.unusedSimpArgs false
open Go.RowKit
open Go.Lib
theorem lines_sides (X : List HkI) (h : ∀ x ∈ X, 1 ≤ x.1 ∧ x.1 ≤ 3) : linesK X ≤ (sideI 2 X).length + (sideI 3 X).length := by
  induction X with
  | nil => exact Nat.le_refl _
  | cons x X ih =>
    have h1 := ih (fun y hy => h y (List.mem_cons_of_mem _ hy))
    have h2 := h x (by simp)
    unfold sideI linesK at *
    rw [List.map_cons, List.sum_cons, List.flatMap_cons, List.flatMap_cons, List.length_append, List.length_append]
    have h3 : x.2.length ≤ (if x.1 = 1 ∨ x.1 = 2 then x.2 else []).length + (if x.1 = 1 ∨ x.1 = 3 then x.2 else []).length := by
      by_cases e : x.1 = 3
      · rw [if_pos (show x.1 = 1 ∨ x.1 = 3 from .inr e)]; omega
      · rw [if_pos (show x.1 = 1 ∨ x.1 = 2 by omega)]; omega
    omega
theorem bytes_sides (X : List HkI) (h : ∀ x ∈ X, 1 ≤ x.1 ∧ x.1 ≤ 3) : bytesK X ≤ (sideI 2 X).flatten.length + (sideI 3 X).flatten.length := by
  induction X with
  | nil => exact Nat.le_refl _
  | cons x X ih =>
    have h1 := ih (fun y hy => h y (List.mem_cons_of_mem _ hy))
    have h2 := h x (by simp)
    unfold sideI bytesK at *
    rw [List.map_cons, List.sum_cons, List.flatMap_cons, List.flatMap_cons, List.flatten_append, List.flatten_append, List.length_append, List.length_append]
    have h3 : x.2.flatten.length ≤ (if x.1 = 1 ∨ x.1 = 2 then x.2 else []).flatten.length + (if x.1 = 1 ∨ x.1 = 3 then x.2 else []).flatten.length := by
      by_cases e : x.1 = 3
      · rw [if_pos (show x.1 = 1 ∨ x.1 = 3 from .inr e)]; omega
      · rw [if_pos (show x.1 = 1 ∨ x.1 = 2 by omega)]; omega
    omega
theorem check_lines {X : List HkI} (h : checkB X = true) : linesK X ≤ 1024 := by
  unfold checkB at h
  rw [Bool.and_eq_true, Bool.and_eq_true] at h
  have h1 := lines_sides X (fun x hx => (okB_mem X 0 h.1.1 x hx).1)
  have h2 : (sideI 2 X).length ≤ 512 := by
    have := h.1.2
    unfold wholeB at this
    rw [Bool.and_eq_true, decide_eq_true_eq] at this
    exact this.1
  have h3 : (sideI 3 X).length ≤ 512 := by
    have := h.2
    unfold wholeB at this
    rw [Bool.and_eq_true, decide_eq_true_eq] at this
    exact this.1
  omega
theorem opsB_drop {X : List HkI} {i : Nat} {x : HkI} (h : X[i]? = some x) : opsB (X.drop i) = x.2.map (opB x.1) ++ opsB (X.drop (i + 1)) := by
  obtain ⟨h1, h2⟩ := List.getElem?_eq_some_iff.1 h
  rw [List.drop_eq_getElem_cons h1, h2, opsB_cons]
theorem mapd {L : List (List UInt8)} {j : Nat} {s : List UInt8} {k : Int} (h : L[j]? = some s) : (L.drop j).map (opB k) = opB k s :: (L.drop (j + 1)).map (opB k) := by
  obtain ⟨h1, h2⟩ := List.getElem?_eq_some_iff.1 h
  rw [List.drop_eq_getElem_cons h1, h2]
  rfl
/-- how much a state holds -/
def heldSt (st : St7) (m : Nat) : Prop := st.out.length ≤ 2 * m ∧ st.same.length ≤ m ∧ st.gone.length ≤ m ∧ st.come.length ≤ m
theorem held_step {st : St7} {m : Nat} (h : heldSt st m) (o : Op7) : heldSt (stepW st o) (m + 1) := by
  obtain ⟨h1, h2, h3, h4⟩ := h
  have k1 := putK_le 2 st.gone st.out
  have k2 := putK_le 3 st.come (putK 2 st.gone st.out)
  have k3 := putK_le 1 st.same st.out
  cases o with
  | same s =>
    refine ⟨?_, ?_, Nat.zero_le _, Nat.zero_le _⟩
    · show (putK 3 st.come (putK 2 st.gone st.out)).length ≤ _; omega
    · show (st.same ++ [s]).length ≤ _; rw [List.length_append, List.length_singleton]; omega
  | gone s =>
    refine ⟨?_, Nat.zero_le _, ?_, ?_⟩
    · show (putK 1 st.same st.out).length ≤ _; omega
    · show (st.gone ++ [s]).length ≤ _; rw [List.length_append, List.length_singleton]; omega
    · show st.come.length ≤ _; omega
  | come s =>
    refine ⟨?_, Nat.zero_le _, ?_, ?_⟩
    · show (putK 1 st.same st.out).length ≤ _; omega
    · show st.gone.length ≤ _; omega
    · show (st.come ++ [s]).length ≤ _; rw [List.length_append, List.length_singleton]; omega
/-- what a call that turns a patch answers -/
def BackP (w : World) (X : List HkI) (e : Ending) (w' : World) : Prop :=
  (checkB X = false ∧ e = .returned (.tuple #[.slice none 0 0, .int .i64 310]) ∧ Below w.heap.size w w') ∨
  (checkB X = true ∧ ∃ v B, e = .returned (.tuple #[v, .int .i64 0]) ∧ PatchAt B w' v (backI X) ∧ w.heap.size ≤ B ∧ B ≤ w'.heap.size ∧ Below w.heap.size w w')
set_option maxHeartbeats 16000000 in
set_option maxRecDepth 100000 in
theorem backC (w : World) (a : Option Addr) (n c : Nat) (X : List HkI) (hX : ReadsK w a n X) (hF : Fit X) (hT : Tabs w) :
    Calls Tryz.prog 17 #[.slice a n c] w (BackP w X) := by
  have HX := Lib.hid hX
  have HN := Lib.hid hX.len
  have hn : n ≤ 16777216 := by rw [← hX.len]; exact hF.1
  have HC := Lib.hid (checkC w a n c X hX hF hT)
  have HBY := Lib.hid hF.2.2
  clear hX hF hT
  by_cases hk : checkB X = true
  · have HK : Hid (errP (checkB X) = 0) := Lib.hid (by rw [hk]; rfl)
    rw [HK.out] at HC
    have HCK := Lib.hid hk
    have hl := check_lines hk
    have HL := Lib.hid hl
    clear hk
    go_enter Tryz.func17, Tryz.ntmps17
    go_upto_region 4 with (go_at_call 18; refine (HC.out).mono ?_; rintro e w3 ⟨rfl, hb3⟩; have HB3 := Lib.hid hb3; clear hb3)
    obtain ⟨p, hp⟩ : ∃ p, p = w3.heap.size := ⟨_, rfl⟩
    go_upto_region 5 with (fail)
    rw [← hp]
    obtain ⟨w6, hw6⟩ : ∃ x, x = w3.alloc (Obj.cells #[Value.slice none 0 0, Value.slice none 0 0, Value.slice none 0 0, Value.slice none 0 0] 67) := ⟨_, rfl⟩
    rw [← hw6]
    have HW6 : Hid (WS (p + 1) w6 p ⟨[], [], [], []⟩ ∧ Below p w3 w6) := by
      rw [hw6, hp]
      refine Lib.hid ⟨⟨[], nilV, nilV, nilV, nilV, ?_, by omega, by simp, SW.start _ _ _ (fun q hq => ?_), fun h hh => by cases hh⟩, (Below.refl _ w3).alloc (Nat.le_refl _) _⟩
      · exact row_new w3 [nilV, nilV, nilV, nilV] 67
      · simp only [List.mem_cons, List.not_mem_nil, or_false] at hq
        rcases hq with rfl | rfl | rfl <;> rfl
    have HE := Lib.hid hp
    have HX3 : Hid (ReadsK w3 a n X) := Lib.hid (HX.out.keep HB3.out (Nat.le_refl _))
    clear hw6 hp
    go_wp2
    go_loopw [19] (fun ui wr => ∃ (i : Nat) (st : St7), ui = .int .i64 (i : Int) ∧ i ≤ n ∧ Hid (WS (p + 1) wr p st ∧ Below p w3 wr ∧ doneW ((opsB (X.drop i)).foldl stepW st) = backI X ∧ heldSt st (linesK (X.take i)))) (fun ui _ => n - (RowKit.intOf ui).toNat)
    case atStart => exact ⟨0, _, rfl, Nat.zero_le _, Lib.hid ⟨HW6.out.1, HW6.out.2, rfl, Nat.zero_le _, Nat.zero_le _, Nat.zero_le _, Nat.zero_le _⟩⟩
    case round =>
      obtain ⟨i, st, rfl, hi, HR⟩ := hrel
      have hps : p ≤ wr.heap.size := Nat.le_trans (by omega) HR.out.1.size.1
      by_cases hlt : i < n
      · obtain ⟨b, off, x, ad, m, cm, rfl, hb, hx, hc0, hc1, hrs, hmc, hcm, hm⟩ := HX3.out.at hlt
        rw [← HE.out] at hb
        have hd0 : wr.cell? ⟨b, off + i * 2, none⟩ = some (.int .i64 x.1) := (HR.out.2.1.cell (p := ⟨b, off + i * 2, none⟩) hb).trans hc0
        have hd1 : wr.cell? ⟨b, off + i * 2 + 1, none⟩ = some (.slice ad m cm) := (HR.out.2.1.cell (p := ⟨b, off + i * 2 + 1, none⟩) hb).trans hc1
        have hkx : 1 ≤ x.1 ∧ x.1 ≤ 3 := by
          have h1 := HCK.out
          unfold checkB at h1
          rw [Bool.and_eq_true, Bool.and_eq_true] at h1
          exact (okB_mem X 0 h1.1.1 x (List.mem_of_getElem? hx)).1
        have hlx : linesK (X.take (i + 1)) = linesK (X.take i) + m := by
          rw [take_next hx, linesK_app]
          simp [linesK, hm]
        have hl2 : linesK (X.take (i + 1)) ≤ 1024 := Nat.le_trans (linesK_take _ _) HL.out
        rw [hlx] at hl2
        have hxb : ∀ s ∈ x.2, s.length ≤ 1099511627776 := fun s hs => by
          have h1 := flat_le2 hs
          have h2 := bytesK_mem (List.mem_of_getElem? hx)
          have h3 := HBY.out
          omega
        have hops := opsB_drop hx
        obtain ⟨kd, hkd⟩ : ∃ kd, kd = x.1 := ⟨_, rfl⟩
        rw [← hkd] at hd0 hkx hops
        obtain ⟨T, hT⟩ : ∃ T, T = linesK (X.take i) := ⟨_, rfl⟩
        rw [← hT] at hl2
        have hst := HR.out.2.2.2
        have hfold := HR.out.2.2.1
        rw [hops] at hfold
        rw [← hT] at hst hlx
        have HST := Lib.hid hst
        have HFO := Lib.hid hfold
        have HLX := Lib.hid hlx
        have HXB := Lib.hid hxb
        have HRS := Lib.hid hrs
        have HM := Lib.hid hm
        have HKX := Lib.hid hkx
        have hit : (i : Int) < (n : Int) := by omega
        have hmle : m ≤ 1024 := by omega
        clear hx hrs hm hmc hc0 hc1 hkd hops hst hfold hlx hT hxb hkx hb
        obtain ⟨hb, hhb⟩ : ∃ hb, hb = wr.heap.size := ⟨_, rfl⟩
        go_upto_region 8 with (fail)
        rw [← hhb]
        obtain ⟨w7, hw7⟩ : ∃ x, x = wr.alloc (Obj.cells #[Value.int IntKind.i64 kd, Value.slice ad m cm] 25) := ⟨_, rfl⟩
        rw [← hw7]
        have hrow7 : Row w7 hb 25 [Value.int IntKind.i64 kd, Value.slice ad m cm] := by
          rw [hw7, hhb]; exact row_new wr [Value.int IntKind.i64 kd, Value.slice ad m cm] 25
        have HW7 : Hid (WZ (fun k => k = hb) (p + 1) w7 p st ∧ Below p w3 w7) := by
          rw [hw7, hhb]
          exact Lib.hid ⟨HR.out.1.fresh _, HR.out.2.1.alloc hps _⟩
        have HROW7 := Lib.hid hrow7
        have f0 : w7.cell? ⟨hb, 0, none⟩ = some (Value.int IntKind.i64 kd) := hrow7.cell 0
        have f1 : w7.cell? ⟨hb, 1, none⟩ = some (Value.slice ad m cm) := hrow7.cell 1
        clear hw7 hhb hrow7 hd0 hd1 HR hps
        go_wp2
        go_loopw [26] (fun uj wq => ∃ (j : Nat) (st' : St7), uj = .int .i64 (j : Int) ∧ j ≤ m ∧ Hid (WZ (fun k => k = hb) (p + 1) wq p st' ∧ Below p w3 wq ∧ Row wq hb 25 [Value.int IntKind.i64 kd, Value.slice ad m cm] ∧ doneW (((x.2.drop j).map (opB kd) ++ opsB (X.drop (i + 1))).foldl stepW st') = backI X ∧ heldSt st' (T + j))) (fun uj _ => m - (RowKit.intOf uj).toNat)
        case atStart => exact ⟨0, st, rfl, Nat.zero_le _, Lib.hid ⟨HW7.out.1, HW7.out.2, HROW7.out, HFO.out, HST.out⟩⟩
        case round =>
          obtain ⟨j, st', rfl, hj, HQ⟩ := hrel
          have g0 : wr.cell? ⟨hb, 0, none⟩ = some (Value.int IntKind.i64 kd) := HQ.out.2.2.1.cell 0
          have g1 : wr.cell? ⟨hb, 1, none⟩ = some (Value.slice ad m cm) := HQ.out.2.2.1.cell 1
          have hpq : p ≤ wr.heap.size := Nat.le_trans (by omega) HQ.out.1.forget.size.1
          by_cases hjl : j < m
          · obtain ⟨bl, ol, s, rfl, hbl, hs, hcs⟩ := (HRS.out.keep HQ.out.2.1 (Nat.le_of_eq HE.out.symm)).at hjl
            have hls := HXB.out s (List.mem_of_getElem? hs)
            have hfo := HQ.out.2.2.2.1
            rw [mapd hs, List.cons_append, List.foldl_cons] at hfo
            obtain ⟨q1, q2, q3, q4⟩ := HQ.out.2.2.2.2
            have HNF := Lib.hid hfo
            have HNH := Lib.hid (held_step (o := opB kd s) HQ.out.2.2.2.2)
            have hjt : (j : Int) < (m : Int) := by omega
            clear hs hfo hbl
            have hk3 : kd = 1 ∨ kd = 2 ∨ kd = 3 := by have := HKX.out; omega
            rcases hk3 with rfl | rfl | rfl
            · have e1 : opB 1 s = .same s := rfl
              rw [e1] at HNF HNH
              go_wp2_with (go_at_call 38; refine (staysZ (fun k => k = hb) wr (p + 1) p st' s HQ.out.1 (by omega) (by omega) hls).mono ?_; rintro e w8 ⟨⟨u8, rfl⟩, hS, hkb8, hz8⟩; have HS := Lib.hid hS; have HKB := Lib.hid hkb8; have HZ := Lib.hid (hz8 hb rfl); clear hS hkb8 hz8)
              have HNX : Hid (WZ (fun k => k = hb) (p + 1) w8 p (stepW st' (.same s)) ∧ Below p w3 w8 ∧ Row w8 hb 25 [Value.int IntKind.i64 1, Value.slice (some ⟨bl, ol, none⟩) m cm]) := Lib.hid ⟨HS.out, HQ.out.2.1.trans (HKB.out.below (by omega) (Nat.le_refl _) hpq), HZ.out.trans HQ.out.2.2.1⟩
              go_roundw
              case rel => exact ⟨j + 1, _, by go_num, hjl, Lib.hid ⟨HNX.out.1, HNX.out.2.1, HNX.out.2.2, HNF.out, HNH.out⟩⟩
              case measure => simp [RowKit.intOf]; omega
            · have e1 : opB 2 s = .come s := rfl
              rw [e1] at HNF HNH
              go_wp2_with (go_at_call 40; refine (comesZ (fun k => k = hb) wr (p + 1) p st' s HQ.out.1 (by omega) (by omega) hls).mono ?_; rintro e w8 ⟨⟨u8, rfl⟩, hS, hkb8, hz8⟩; have HS := Lib.hid hS; have HKB := Lib.hid hkb8; have HZ := Lib.hid (hz8 hb rfl); clear hS hkb8 hz8)
              have HNX : Hid (WZ (fun k => k = hb) (p + 1) w8 p (stepW st' (.come s)) ∧ Below p w3 w8 ∧ Row w8 hb 25 [Value.int IntKind.i64 2, Value.slice (some ⟨bl, ol, none⟩) m cm]) := Lib.hid ⟨HS.out, HQ.out.2.1.trans (HKB.out.below (by omega) (Nat.le_refl _) hpq), HZ.out.trans HQ.out.2.2.1⟩
              go_roundw
              case rel => exact ⟨j + 1, _, by go_num, hjl, Lib.hid ⟨HNX.out.1, HNX.out.2.1, HNX.out.2.2, HNF.out, HNH.out⟩⟩
              case measure => simp [RowKit.intOf]; omega
            · have e1 : opB 3 s = .gone s := rfl
              rw [e1] at HNF HNH
              go_wp2_with (go_at_call 39; refine (goesZ (fun k => k = hb) wr (p + 1) p st' s HQ.out.1 (by omega) (by omega) hls).mono ?_; rintro e w8 ⟨⟨u8, rfl⟩, hS, hkb8, hz8⟩; have HS := Lib.hid hS; have HKB := Lib.hid hkb8; have HZ := Lib.hid (hz8 hb rfl); clear hS hkb8 hz8)
              have HNX : Hid (WZ (fun k => k = hb) (p + 1) w8 p (stepW st' (.gone s)) ∧ Below p w3 w8 ∧ Row w8 hb 25 [Value.int IntKind.i64 3, Value.slice (some ⟨bl, ol, none⟩) m cm]) := Lib.hid ⟨HS.out, HQ.out.2.1.trans (HKB.out.below (by omega) (Nat.le_refl _) hpq), HZ.out.trans HQ.out.2.2.1⟩
              go_roundw
              case rel => exact ⟨j + 1, _, by go_num, hjl, Lib.hid ⟨HNX.out.1, HNX.out.2.1, HNX.out.2.2, HNF.out, HNH.out⟩⟩
              case measure => simp [RowKit.intOf]; omega
          · obtain rfl : j = m := by omega
            have hdr : x.2.drop j = [] := List.drop_of_length_le (by rw [HM.out]; exact Nat.le_refl _)
            have HNX : Hid (WS (p + 1) wr p st' ∧ Below p w3 wr ∧ doneW ((opsB (X.drop (i + 1))).foldl stepW st') = backI X ∧ heldSt st' (linesK (X.take (i + 1)))) := by
              have h1 := HQ.out.2.2.2
              rw [hdr] at h1
              exact Lib.hid ⟨HQ.out.1.forget, HQ.out.2.1, h1.1, by rw [HLX.out]; exact h1.2⟩
            clear hdr
            go_wp2
            go_roundw
            case rel => exact ⟨i + 1, _, by go_num, hlt, HNX⟩
            case measure => simp [RowKit.intOf]; omega
      · obtain rfl : i = n := by omega
        have hd : X.drop i = [] := List.drop_of_length_le (by rw [HN.out]; exact Nat.le_refl _)
        have hout := HR.out.2.2.1
        rw [hd] at hout
        have hout2 : doneW st = backI X := hout
        have HOUT := Lib.hid hout2
        have hlo : st.out.length ≤ 2048 := by
          have h1 := HR.out.2.2.2.1
          have h2 := linesK_take X i
          have h3 := HL.out
          omega
        clear hd hout hout2
        go_wp2_with (go_at_call 41; refine (doneC wr (p + 1) p st HR.out.1 (by omega)).mono ?_; rintro e w8 ⟨v8, rfl, hP, hkb, hsz⟩; have HP := Lib.hid hP; have HKB := Lib.hid hkb; have HSZ := Lib.hid hsz; clear hP hkb hsz)
        go_ret2
        have hP := HP.out
        rw [HOUT.out] at hP
        refine .inr ⟨HCK.out, v8, p + 1, rfl, hP, by have h1 := HB3.out.size; have h2 := HE.out; omega, HSZ.out, ?_⟩
        have hbp : Below p w3 w8 := HR.out.2.1.trans (HKB.out.below (by omega) (Nat.le_refl _) hps)
        exact HB3.out.trans (hbp.mono (by rw [HE.out]; exact HB3.out.size))
  · rw [Bool.not_eq_true] at hk
    have HK : Hid (errP (checkB X) = 310) := Lib.hid (by rw [hk]; rfl)
    rw [HK.out] at HC
    have HCK := Lib.hid hk
    clear hk
    go_enter Tryz.func17, Tryz.ntmps17
    go_wp2_with (go_at_call 18; refine (HC.out).mono ?_; rintro e w3 ⟨rfl, hb3⟩; have HB3 := Lib.hid hb3; clear hb3)
    go_ret2
    exact .inl ⟨HCK.out, rfl, HB3.out⟩
end Go.Proofs.YtnbihjocdlpplaaGreatDoor
/- The patch the other way, by the reference. -/
namespace Go.Proofs.YtnbihjocdlpplaaGreatDoor
set_option linter.unusedVariables false
set_option linter.unusedSimpArgs false
open Go.RowKit
open Go.Lib
theorem SW.add {B : Nat} {w w' : World} {vo v : Value} {hs : List HCell} {H : List Hk} {L : List (List UInt8)} (h : SW B w vo hs H []) (hb : Below w.heap.size w w') (hB : B ≤ w.heap.size) (hv : StrOwn w.heap.size v L w') : SW B w' vo hs H [(v, L)] := by
  have h' := h.keep hb
  refine ⟨h'.own, h'.len, fun k c x h1 h2 => ?_, fun p hp => ?_, fun i j p q hi hj hij => ?_, h'.dist⟩
  · obtain ⟨e1, e2, e3, e4, e5⟩ := h'.each k c x h1 h2
    refine ⟨e1, e2, e3, e4, fun ad had => ⟨(e5 ad had).1, (e5 ad had).2.1, fun p hp e => ?_⟩⟩
    obtain rfl := List.mem_singleton.1 hp
    have h9 := (hv.lt _ e).1
    obtain ⟨_, ⟨cur, hcur⟩, _⟩ := (h.each k c x h1 h2).2.2.2.2 ad had
    have := (Array.getElem?_eq_some_iff.1 hcur).1
    omega
  · obtain rfl := List.mem_singleton.1 hp
    exact own_mono hv hB
  · have h1 := (List.getElem?_eq_some_iff.1 hi).1
    have h2 := (List.getElem?_eq_some_iff.1 hj).1
    simp at h1 h2
    omega
set_option maxHeartbeats 4000000 in
set_option maxRecDepth 100000 in
theorem copyR (w : World) (a : Option Addr) (n c : Nat) (L : List (List UInt8)) (h : ReadsS w a n L) (hn : n ≤ 1073741824) :
    Calls Tryz.prog 66 #[.slice a n c] w fun e w' => ∃ v, e = .returned v ∧ StrOwn w.heap.size v L w' ∧ Below w.heap.size w w' := by
  have HX := Lib.hid h
  have HN := Lib.hid h.len
  have H0 : Hid (StrOwn w.heap.size (.slice none 0 0) [] w) := Lib.hid (World.ownsRow_nil _ _ _ _)
  clear h
  go_enter Tryz.func66, Tryz.ntmps66
  go_wp2
  go_loopw [3, 4] (fun vv ui wr => ∃ i : Nat, ui = .int .i64 (i : Int) ∧ i ≤ n ∧ Hid (StrOwn w.heap.size vv (L.take i) wr ∧ Below w.heap.size w wr)) (fun _ ui _ => n - (RowKit.intOf ui).toNat)
  case atStart => exact ⟨0, rfl, Nat.zero_le _, Lib.hid ⟨H0.out, Below.refl _ _⟩⟩
  case round =>
    obtain ⟨i, rfl, hi, HR⟩ := hrel
    obtain ⟨vv, rfl⟩ : ∃ v : Value, v = u3 := ⟨_, rfl⟩
    by_cases hlt : i < n
    · obtain ⟨b, off, x, rfl, hb, hx, hc0⟩ := (HX.out.keep HR.out.2 (Nat.le_refl _)).at hlt
      have HF := Lib.hid (take_next hx)
      have hl : (L.take i).length ≤ 1073741824 := by rw [List.length_take]; omega
      have hwb := HR.out.2.size
      have hit : (i : Int) < (n : Int) := by omega
      clear hx
      go_wp2_with (at_builtin; refine appNew rfl _ _ rfl Tryz.underlying22 (.string ByteArray.empty) 1 16 infoStr rfl (by decide) (by decide) w.heap.size w.heap.size w wr vv (L.take i).length ((L.take i).map S1) [S1 x] rfl (by intro u hu; simp only [List.mem_singleton] at hu; subst hu; rfl) rfl HR.out.1 rfl rfl hl HR.out.2 (Nat.le_refl _) hwb ?_; intro v8 w8 hO8 hb8 hs8)
      have HO8 : Hid (StrOwn w.heap.size v8 (L.take (i + 1)) w8 ∧ Below w.heap.size w w8) := Lib.hid ⟨by rw [HF.out]; exact StrOwn.push hO8, hb8⟩
      clear hO8 hb8
      go_roundw
      case rel => exact ⟨i + 1, by go_num, hlt, HO8⟩
      case measure => simp [RowKit.intOf]; omega
    · obtain rfl : i = n := by omega
      have hd : L.take i = L := List.take_of_length_le (by rw [HN.out]; exact Nat.le_refl _)
      have HD := Lib.hid hd
      clear hd
      go_wp2
      go_ret
      have h9 := HR.out.1
      rw [HD.out] at h9
      exact ⟨_, rfl, h9, HR.out.2⟩
theorem len_lines (X : List HkI) (h : ∀ x ∈ X, x.2 ≠ []) : X.length ≤ linesK X := by
  induction X with
  | nil => exact Nat.le_refl _
  | cons x X ih =>
    have h1 := ih (fun y hy => h y (List.mem_cons_of_mem _ hy))
    have h2 : 0 < x.2.length := List.length_pos_iff.2 (h x (by simp))
    unfold linesK at *
    rw [List.map_cons, List.sum_cons, List.length_cons]
    omega
theorem drop_consK {X : List HkI} {i : Nat} {x : HkI} (h : X[i]? = some x) : X.drop i = x :: X.drop (i + 1) := by
  obtain ⟨h1, h2⟩ := List.getElem?_eq_some_iff.1 h
  rw [List.drop_eq_getElem_cons h1, h2]
theorem backGo_same {x : HkI} {r : List HkI} {out : List Hk} (h : x.1 = 1) : backGo (x :: r) out = backGo r (putK 1 x.2 out) := by
  rw [backGo.eq_def]; simp only [h, if_true]
theorem backGo_in {x : HkI} {r : List HkI} {out : List Hk} (h : x.1 = 3) : backGo (x :: r) out = backGo r (putK 2 x.2 out) := by
  rw [backGo.eq_def]; simp [h]
theorem backGo_two {x y : HkI} {r : List HkI} {out : List Hk} (h : x.1 = 2) (hy : y.1 = 3) : backGo (x :: y :: r) out = backGo r (putK 3 x.2 (putK 2 y.2 out)) := by
  rw [backGo.eq_def]; simp [h, hy]
theorem backGo_out {x : HkI} {r : List HkI} {out : List Hk} (h : x.1 = 2) (hy : ∀ y r', r = y :: r' → y.1 ≠ 3) : backGo (x :: r) out = backGo r (putK 3 x.2 out) := by
  rw [backGo.eq_def]
  cases r with
  | nil => simp [h, backGo]
  | cons y r' => simp [h, hy y r' rfl]
/-- what the reference's call answers -/
def BackQ (w : World) (X : List HkI) (e : Ending) (w' : World) : Prop :=
  (checkB X = false ∧ e = .returned (.tuple #[.slice none 0 0, .int .i64 310]) ∧ Below w.heap.size w w') ∨
  (checkB X = true ∧ ∃ a c, e = .returned (.tuple #[.slice a (backI X).length c, .int .i64 0]) ∧ ReadsK w' a (backI X).length ((backI X).map toI) ∧ Below w.heap.size w w')
/-- what the loop carries -/
structure LoopK (B : Nat) (w3 : World) (X : List HkI) (i : Nat) (vo : Value) (hs : List HCell) (H : List Hk) (wr : World) : Prop where
  sw : SW B wr vo hs H []
  size : B ≤ wr.heap.size
  bel : Below B w3 wr
  go : backGo (X.drop i) H = backI X
  len : H.length ≤ i
set_option maxHeartbeats 16000000 in
set_option maxRecDepth 100000 in
theorem backR (w : World) (a : Option Addr) (n c : Nat) (X : List HkI) (hX : ReadsK w a n X) (hF : Fit X) :
    Calls Tryz.prog 29 #[.slice a n c] w (BackQ w X) := by
  have HX := Lib.hid hX
  have HN := Lib.hid hX.len
  have HC := Lib.hid (checkR w a n c X hX hF)
  by_cases hk : checkB X = true
  · have HK : Hid (errP (checkB X) = 0) := Lib.hid (by rw [hk]; rfl)
    rw [HK.out] at HC
    have HCK := Lib.hid hk
    have hok : okB 0 X = true := by
      unfold checkB at hk
      rw [Bool.and_eq_true, Bool.and_eq_true] at hk
      exact hk.1.1
    have hl := check_lines hk
    have hn : n ≤ 1024 := by
      have := len_lines X (fun x hx => (okB_mem X 0 hok x hx).2)
      rw [hX.len] at this
      omega
    have HOK := Lib.hid hok
    have HBR := Lib.hid (back_ref hok)
    have HL := Lib.hid hl
    clear hk hX hF hok hl
    go_enter Tryz.func29, Tryz.ntmps29
    go_wp2_with (go_at_call 26; refine (HC.out).mono ?_; rintro e w3 ⟨rfl, hb3⟩; have HB3 := Lib.hid hb3; clear hb3)
    have HX3 : Hid (ReadsK w3 a n X) := Lib.hid (HX.out.keep HB3.out (Nat.le_refl _))
    go_loopw [4, 5] (fun vo ui wr => ∃ (i : Nat) (hs : List HCell) (H : List Hk), ui = .int .i64 (i : Int) ∧ i ≤ n ∧ Hid (LoopK w3.heap.size w3 X i vo hs H wr)) (fun _ ui _ => n - (RowKit.intOf ui).toNat)
    case atStart => exact ⟨0, [], [], rfl, Nat.zero_le _, Lib.hid ⟨SW.start _ _ _ (fun q hq => by cases hq), Nat.le_refl _, Below.refl _ _, HBR.out, Nat.zero_le _⟩⟩
    case round =>
      obtain ⟨i, hs, H, rfl, hi, HR⟩ := hrel
      obtain ⟨vo, rfl⟩ : ∃ v : Value, v = u4 := ⟨_, rfl⟩
      by_cases hlt : i < n
      · obtain ⟨b, off, x, ad, m, cm, rfl, hb, hx, hc0, hc1, hrs, hmc, hcm, hm⟩ := HX3.out.at hlt
        have hkx : 1 ≤ x.1 ∧ x.1 ≤ 3 := (okB_mem X 0 HOK.out x (List.mem_of_getElem? hx)).1
        have hml : m ≤ 1024 := by
          have h1 := linesK_mem (List.mem_of_getElem? hx)
          have h2 := HL.out
          omega
        have hH := HR.out.len
        have hdk := drop_consK hx
        have hgo := HR.out.go
        rw [hdk] at hgo
        have HGO := Lib.hid hgo
        have HRS := Lib.hid hrs
        have HX0 := Lib.hid hx
        have hd0 : wr.cell? ⟨b, off + i * 2, none⟩ = some (.int .i64 x.1) := (HR.out.bel.cell (p := ⟨b, off + i * 2, none⟩) hb).trans hc0
        have hd1 : wr.cell? ⟨b, off + i * 2 + 1, none⟩ = some (.slice ad m cm) := (HR.out.bel.cell (p := ⟨b, off + i * 2 + 1, none⟩) hb).trans hc1
        have hit : (i : Int) < (n : Int) := by omega
        have hcopy : ∀ W, Below w3.heap.size w3 W → Calls Tryz.prog 66 #[.slice ad m cm] W fun e w' => ∃ v, e = .returned v ∧ StrOwn W.heap.size v x.2 w' ∧ Below W.heap.size W w' := fun W hW => copyR W ad m cm x.2 (HRS.out.keep hW (Nat.le_refl _)) (by omega)
        have HCP := Lib.hid hcopy
        obtain ⟨kd, hkd⟩ : ∃ kd, kd = x.1 := ⟨_, rfl⟩
        rw [← hkd] at hd0
        have HKD := Lib.hid hkd
        clear hdk hgo hrs hcopy hc0 hc1 hmc hm
        have hk3 : kd = 1 ∨ kd = 3 ∨ kd = 2 := by omega
        clear hkd hkx
        rcases hk3 with rfl | rfl | rfl
        · have hg := HGO.out
          rw [backGo_same HKD.out.symm] at hg
          have HG := Lib.hid hg
          clear hg hx
          go_wp2_with (first
            | (go_at_call 66; refine (HCP.out wr HR.out.bel).mono ?_; rintro e w4 ⟨v4, rfl, hO4, hb4⟩; have HS4 := Lib.hid (HR.out.sw.add hb4 HR.out.size hO4); have HB4 := Lib.hid hb4; have hz4 := hb4.size; clear hO4 hb4)
            | (go_at_call 44; refine (hunkR w4 w3.heap.size vo v4 hs H [(v4, x.2)] 0 1 x.2 HS4.out (Nat.le_trans HR.out.size hz4) rfl (by omega)).mono ?_; rintro e w5 ⟨vo5, hs5, rfl, hS5, hB5, hb5⟩; have HS5 := Lib.hid hS5; have HB5 := Lib.hid hB5; have Hb5 := Lib.hid hb5; clear hS5 hB5 hb5))
          have k1 := putK_le 1 x.2 H
          have HNX : Hid (LoopK w3.heap.size w3 X (i + 1) vo5 hs5 (putK 1 x.2 H) w5) := Lib.hid ⟨HS5.out.bare, HB5.out, (HR.out.bel.trans (HB4.out.mono HR.out.size)).trans Hb5.out, HG.out, by omega⟩
          clear k1
          go_roundw
          case rel => exact ⟨i + 1, _, _, by go_num, hlt, HNX⟩
          case measure => simp [RowKit.intOf]; omega
        · have hg := HGO.out
          rw [backGo_in HKD.out.symm] at hg
          have HG := Lib.hid hg
          clear hg hx
          go_wp2_with (first
            | (go_at_call 66; refine (HCP.out wr HR.out.bel).mono ?_; rintro e w4 ⟨v4, rfl, hO4, hb4⟩; have HS4 := Lib.hid (HR.out.sw.add hb4 HR.out.size hO4); have HB4 := Lib.hid hb4; have hz4 := hb4.size; clear hO4 hb4)
            | (go_at_call 44; refine (hunkR w4 w3.heap.size vo v4 hs H [(v4, x.2)] 0 2 x.2 HS4.out (Nat.le_trans HR.out.size hz4) rfl (by omega)).mono ?_; rintro e w5 ⟨vo5, hs5, rfl, hS5, hB5, hb5⟩; have HS5 := Lib.hid hS5; have HB5 := Lib.hid hB5; have Hb5 := Lib.hid hb5; clear hS5 hB5 hb5))
          have k1 := putK_le 2 x.2 H
          have HNX : Hid (LoopK w3.heap.size w3 X (i + 1) vo5 hs5 (putK 2 x.2 H) w5) := Lib.hid ⟨HS5.out.bare, HB5.out, (HR.out.bel.trans (HB4.out.mono HR.out.size)).trans Hb5.out, HG.out, by omega⟩
          clear k1
          go_roundw
          case rel => exact ⟨i + 1, _, _, by go_num, hlt, HNX⟩
          case measure => simp [RowKit.intOf]; omega
        · by_cases h1n : i + 1 < n
          · obtain ⟨b2, off2, y, ad2, m2, cm2, ea2, _, hy, hc20, hc21, hrs2, _, _, hm2⟩ := HX3.out.at h1n
            cases ea2
            obtain ⟨i1, hi1⟩ : ∃ i1, i + 1 = i1 := ⟨_, rfl⟩
            have hdky := drop_consK hy
            have hml2 : m2 ≤ 1024 := by
              have h1 := linesK_mem (List.mem_of_getElem? hy)
              have h2 := HL.out
              omega
            rw [hi1] at hc20 hc21
            have hd20 : wr.cell? ⟨b, off + i1 * 2, none⟩ = some (.int .i64 y.1) := (HR.out.bel.cell (p := ⟨b, off + i1 * 2, none⟩) hb).trans hc20
            have hd21 : wr.cell? ⟨b, off + i1 * 2 + 1, none⟩ = some (.slice ad2 m2 cm2) := (HR.out.bel.cell (p := ⟨b, off + i1 * 2 + 1, none⟩) hb).trans hc21
            have hw : IntKind.i64.wrap ((i : Int) + 1) = (i1 : Int) := by rw [show (i : Int) + 1 = (i1 : Int) by omega]; exact IntWalk.i64_in _ (by omega)
            have hi1n : (i1 : Int) < (n : Int) := by omega
            have HRS2 := Lib.hid hrs2
            have hcopy2 : ∀ W, Below w3.heap.size w3 W → Calls Tryz.prog 66 #[.slice ad2 m2 cm2] W fun e w' => ∃ v, e = .returned v ∧ StrOwn W.heap.size v y.2 w' ∧ Below W.heap.size W w' := fun W hW => copyR W ad2 m2 cm2 y.2 (HRS2.out.keep hW (Nat.le_refl _)) (by omega)
            have HCP2 := Lib.hid hcopy2
            have hkc : ∀ W, Below w3.heap.size w3 W → W.cell? ⟨b, off + i * 2 + 1, none⟩ = some (.slice ad m cm) := fun W hW => (hW.cell (p := ⟨b, off + i * 2 + 1, none⟩) hb).trans ((HR.out.bel.cell (p := ⟨b, off + i * 2 + 1, none⟩) hb).symm.trans hd1)
            have HKC := Lib.hid hkc
            obtain ⟨ky, hky⟩ : ∃ ky, ky = y.1 := ⟨_, rfl⟩
            rw [← hky] at hd20
            rw [hi1] at hdky
            have hgo := HGO.out
            rw [show X.drop (i + 1) = X.drop i1 by rw [hi1], hdky] at hgo
            by_cases h3 : ky = 3
            · have hg := hgo
              rw [backGo_two HKD.out.symm (hky.symm.trans h3)] at hg
              have HG := Lib.hid hg
              subst h3
              have HI1 := Lib.hid hi1
              clear hg hgo hdky hy hx hi1 hky hrs2 hcopy2 hkc hc20 hc21 HGO
              go_wp2_with (first
                | (go_at_call_of 66 (Value.slice ad2 m2 cm2); refine (HCP2.out wr HR.out.bel).mono ?_; rintro e w4 ⟨v4, rfl, hO4, hb4⟩; have HS4 := Lib.hid (HR.out.sw.add hb4 HR.out.size hO4); have HB4 := Lib.hid (HR.out.bel.trans (hb4.mono HR.out.size)); have hz4 := Nat.le_trans HR.out.size hb4.size; have hk4 := HKC.out w4 HB4.out; clear hO4 hb4)
                | (go_at_call_of 44 (Value.int .i64 2); refine (hunkR w4 w3.heap.size vo v4 hs H [(v4, y.2)] 0 2 y.2 HS4.out hz4 rfl (by omega)).mono ?_; rintro e w5 ⟨vo5, hs5, rfl, hS5, hB5, hb5⟩; have HS5 := Lib.hid hS5.bare; have hz5 := hB5; have HB5 := Lib.hid (HB4.out.trans hb5); have hk5 := HKC.out w5 HB5.out; clear hS5 hB5 hb5)
                | (go_at_call_of 66 (Value.slice ad m cm); refine (HCP.out w5 HB5.out).mono ?_; rintro e w6 ⟨v6, rfl, hO6, hb6⟩; have HS6 := Lib.hid (HS5.out.add hb6 hz5 hO6); have HB6 := Lib.hid (HB5.out.trans (hb6.mono hz5)); have hz6 := Nat.le_trans hz5 hb6.size; clear hO6 hb6)
                | (go_at_call_of 44 (Value.int .i64 3); refine (hunkR w6 w3.heap.size vo5 v6 hs5 (putK 2 y.2 H) [(v6, x.2)] 0 3 x.2 HS6.out hz6 rfl (by have := putK_le 2 y.2 H; omega)).mono ?_; rintro e w7 ⟨vo7, hs7, rfl, hS7, hB7, hb7⟩; have HS7 := Lib.hid hS7.bare; have HZ7 := Lib.hid hB7; have HB7 := Lib.hid (HB6.out.trans hb7); clear hS7 hB7 hb7))
              have k1 := putK_le 2 y.2 H
              have k2 := putK_le 3 x.2 (putK 2 y.2 H)
              have hi1' := HI1.out
              have HNX : Hid (LoopK w3.heap.size w3 X (i1 + 1) vo7 hs7 (putK 3 x.2 (putK 2 y.2 H)) w7) := Lib.hid ⟨HS7.out, HZ7.out, HB7.out, HG.out, by omega⟩
              clear k1 k2
              go_roundw
              case rel => exact ⟨i1 + 1, _, _, by go_num, by omega, HNX⟩
              case measure => simp [RowKit.intOf]; omega
            · have hg := hgo
              rw [backGo_out HKD.out.symm (fun y' r' he => by cases he; rw [← hky]; exact h3), ← hdky] at hg
              have HG := Lib.hid hg
              have hb3 : (ky == 3) = false := by rw [beq_eq_false_iff_ne]; exact h3
              have HI1 := Lib.hid hi1
              clear hg hgo hdky hy hx hi1 hky hrs2 hcopy2 hkc hc20 hc21 HGO h3
              go_wp2_with (first
                | (go_at_call 66; refine (HCP.out wr HR.out.bel).mono ?_; rintro e w4 ⟨v4, rfl, hO4, hb4⟩; have HS4 := Lib.hid (HR.out.sw.add hb4 HR.out.size hO4); have HB4 := Lib.hid hb4; have hz4 := hb4.size; clear hO4 hb4)
                | (go_at_call 44; refine (hunkR w4 w3.heap.size vo v4 hs H [(v4, x.2)] 0 3 x.2 HS4.out (Nat.le_trans HR.out.size hz4) rfl (by omega)).mono ?_; rintro e w5 ⟨vo5, hs5, rfl, hS5, hB5, hb5⟩; have HS5 := Lib.hid hS5; have HB5 := Lib.hid hB5; have Hb5 := Lib.hid hb5; clear hS5 hB5 hb5))
              have k1 := putK_le 3 x.2 H
              have hi1' := HI1.out
              have HNX : Hid (LoopK w3.heap.size w3 X i1 vo5 hs5 (putK 3 x.2 H) w5) := Lib.hid ⟨HS5.out.bare, HB5.out, (HR.out.bel.trans (HB4.out.mono HR.out.size)).trans Hb5.out, HG.out, by omega⟩
              clear k1
              go_roundw
              case rel => exact ⟨i1, _, _, by go_num, by omega, HNX⟩
              case measure => simp [RowKit.intOf]; omega
          · have hg := HGO.out
            have hdn : X.drop (i + 1) = [] := List.drop_of_length_le (by rw [HN.out]; omega)
            rw [backGo_out HKD.out.symm (fun y' r' he => by rw [hdn] at he; cases he)] at hg
            have HG := Lib.hid hg
            have h1n' : ¬ (i : Int) + 1 < (n : Int) := by omega
            clear hg hx hdn
            go_wp2_with (first
              | (go_at_call 66; refine (HCP.out wr HR.out.bel).mono ?_; rintro e w4 ⟨v4, rfl, hO4, hb4⟩; have HS4 := Lib.hid (HR.out.sw.add hb4 HR.out.size hO4); have HB4 := Lib.hid hb4; have hz4 := hb4.size; clear hO4 hb4)
              | (go_at_call 44; refine (hunkR w4 w3.heap.size vo v4 hs H [(v4, x.2)] 0 3 x.2 HS4.out (Nat.le_trans HR.out.size hz4) rfl (by omega)).mono ?_; rintro e w5 ⟨vo5, hs5, rfl, hS5, hB5, hb5⟩; have HS5 := Lib.hid hS5; have HB5 := Lib.hid hB5; have Hb5 := Lib.hid hb5; clear hS5 hB5 hb5))
            have k1 := putK_le 3 x.2 H
            have HNX : Hid (LoopK w3.heap.size w3 X (i + 1) vo5 hs5 (putK 3 x.2 H) w5) := Lib.hid ⟨HS5.out.bare, HB5.out, (HR.out.bel.trans (HB4.out.mono HR.out.size)).trans Hb5.out, HG.out, by omega⟩
            clear k1
            go_roundw
            case rel => exact ⟨i + 1, _, _, by go_num, hlt, HNX⟩
            case measure => simp [RowKit.intOf]; omega
      · obtain rfl : i = n := by omega
        have hd : X.drop i = [] := List.drop_of_length_le (by rw [HN.out]; exact Nat.le_refl _)
        have hgo := HR.out.go
        rw [hd] at hgo
        have hgo2 : H = backI X := by rw [← hgo]; simp [backGo]
        subst hgo2
        obtain ⟨a9, c9, rfl⟩ := slice_own HR.out.sw.own
        have HRD := Lib.hid HR.out.sw.reads
        clear hd hgo
        go_wp2
        go_ret2
        refine .inr ⟨HCK.out, a9, c9, ?_, HRD.out.2, HB3.out.trans (HR.out.bel.mono HB3.out.size)⟩
        rw [← HRD.out.1]
        rfl
  · rw [Bool.not_eq_true] at hk
    have HK : Hid (errP (checkB X) = 310) := Lib.hid (by rw [hk]; rfl)
    rw [HK.out] at HC
    have HCK := Lib.hid hk
    clear hk hX hF
    go_enter Tryz.func29, Tryz.ntmps29
    go_wp2_with (go_at_call 26; refine (HC.out).mono ?_; rintro e w3 ⟨rfl, hb3⟩; have HB3 := Lib.hid hb3; clear hb3)
    go_ret2
    exact .inl ⟨HCK.out, rfl, HB3.out⟩
end Go.Proofs.YtnbihjocdlpplaaGreatDoor
