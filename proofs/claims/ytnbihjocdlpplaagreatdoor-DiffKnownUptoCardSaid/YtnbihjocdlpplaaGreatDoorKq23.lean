/- Texts joined, one behind the other (DSpare, OpenH). -/
import Derived.Test.YtnbihjocdlpplaaGreatDoorKq22
import Derived.Test.YtnbihjocdlpplaaGreatDoorRows
import Derived.Deep.Slices
import Derived.OpenShut
import Derived.ProofKit
import Derived.JoinedCond
/- The statements' spare: a patch in memory of its own, with marked room behind it; and kept. -/
namespace Go.Proofs.YtnbihjocdlpplaaGreatDoor
set_option linter.unusedVariables false
set_option linter.unusedSimpArgs false
open Go.RowKit
open Go.Lib hiding intOf
def behindT : List (List UInt8) := [[98, 101, 104, 105, 110, 100], [116, 104, 101, 109]]
/-- a patch with marked room behind it and behind its lines -/
structure SpareK (w : World) (a : Option Addr) (n c : Nat) (X : List HkI) : Prop where
  len : X.length = n
  room : n + 2 ≤ c ∧ c ≤ maxLen
  at_ : ∃ g, a = some ⟨g, 0, none⟩ ∧ g < w.heap.size ∧ w.cell? ⟨g, n * 2, none⟩ = some (.int .i64 77) ∧ w.cell? ⟨g, (n + 1) * 2, none⟩ = some (.int .i64 78) ∧
    ∀ i x, X[i]? = some x → ∃ gi ci, w.cell? ⟨g, i * 2, none⟩ = some (.int .i64 x.1) ∧ w.cell? ⟨g, i * 2 + 1, none⟩ = some (.slice (some ⟨gi, 0, none⟩) x.2.length ci) ∧ x.2.length + 2 ≤ ci ∧ ci ≤ maxLen ∧ ReadsS w (some ⟨gi, 0, none⟩) (x.2.length + 2) (x.2 ++ behindT)
theorem SpareK.keep {w w' : World} {a : Option Addr} {n c : Nat} {X : List HkI} (h : SpareK w a n c X) (hb : Below w.heap.size w w') : SpareK w' a n c X := by
  obtain ⟨h1, h2, g, h3, h4, h5, h6, h7⟩ := h
  refine ⟨h1, h2, g, h3, Nat.lt_of_lt_of_le h4 hb.size, (hb.cell (p := ⟨g, n * 2, none⟩) h4).trans h5, (hb.cell (p := ⟨g, (n + 1) * 2, none⟩) h4).trans h6, fun i x hx => ?_⟩
  obtain ⟨gi, ci, q1, q2, q3, q4, q5⟩ := h7 i x hx
  exact ⟨gi, ci, (hb.cell (p := ⟨g, i * 2, none⟩) h4).trans q1, (hb.cell (p := ⟨g, i * 2 + 1, none⟩) h4).trans q2, q3, q4, q5.keep hb (Nat.le_refl _)⟩
theorem ReadsS.short {w : World} {a : Option Addr} {n m : Nat} {L M : List (List UInt8)} (h : ReadsS w a n (L ++ M)) (hL : L.length = m) (hm : m ≤ n) : ReadsS w a m L := by
  obtain ⟨hl, h⟩ := h
  refine ⟨by rw [List.length_map, hL], fun h0 => ?_⟩
  obtain ⟨b, o, ha, hb, hc⟩ := h (by omega)
  refine ⟨b, o, ha, hb, fun j hj => ?_⟩
  rw [hc j (by omega), List.map_append, List.getElem?_append_left (by simp; omega)]
theorem SpareK.reads {w : World} {a : Option Addr} {n c : Nat} {X : List HkI} (h : SpareK w a n c X) : ReadsK w a n X := by
  obtain ⟨h1, h2, g, h3, h4, h5, h6, h7⟩ := h
  refine ⟨h1, fun _ => ⟨g, 0, h3, h4, fun i x hx => ?_⟩⟩
  obtain ⟨gi, ci, q1, q2, q3, q4, q5⟩ := h7 i x hx
  exact ⟨_, ci, by rw [Nat.zero_add]; exact q1, by rw [Nat.zero_add]; exact q2, q5.short rfl (by omega), by omega, q4⟩
/-- a row of hunks while it grows: the hunk, the block of its lines, their room -/
abbrev SpR := HkI × Nat × Nat
def spCells (r : SpR) : List Value := [.int .i64 r.1.1, .slice (some ⟨r.2.1, 0, none⟩) r.1.2.length r.2.2]
theorem spCells_one (r : SpR) : ∀ u ∈ spCells r, u.oneCell' = true := by
  intro u hu
  simp only [spCells, List.mem_cons, List.not_mem_nil, or_false] at hu
  rcases hu with rfl | rfl <;> rfl
structure SpL (B : Nat) (w : World) (vo : Value) (rows : List SpR) : Prop where
  own : w.ownsRow B 25 2 vo rows.length (rows.flatMap spCells)
  each : ∀ r ∈ rows, w.ownsRow B 9 1 (.slice (some ⟨r.2.1, 0, none⟩) (r.1.2.length + 2) r.2.2) (r.1.2.length + 2) ((r.1.2 ++ behindT).map S1)
theorem SpL.below {B : Nat} {w w' : World} {vo : Value} {rows : List SpR} (h : SpL B w vo rows) (hb : Below w.heap.size w w') : SpL B w' vo rows :=
  ⟨own_below h.own hb, fun r hr => own_below (h.each r hr) hb⟩
theorem SpL.push {B : Nat} {w w' : World} {vo v' : Value} {rows : List SpR} {r : SpR} (h : SpL B w vo rows) (hr : w.ownsRow B 9 1 (.slice (some ⟨r.2.1, 0, none⟩) (r.1.2.length + 2) r.2.2) (r.1.2.length + 2) ((r.1.2 ++ behindT).map S1)) (hp : AppPost w B 25 2 vo rows.length (rows.flatMap spCells) (spCells r) v' w') : SpL B w' v' (rows ++ [r]) := by
  have hty : ∀ b, vo.ownBlock = some b → ∃ (cur : Array Value) (e' : TypeId) (fr : Nat × Nat), w.heap[b]? = some (.cells cur e' fr) ∧ e' ≠ 9 := fun b hb2 => by
    obtain ⟨_, cur, hc⟩ := own_block h.own hb2
    exact ⟨cur, _, _, hc, by decide⟩
  refine ⟨?_, fun x hx => ?_⟩
  · rw [List.length_append, List.flatMap_append]
    simpa using hp.1
  · rcases List.mem_append.1 hx with hx | hx
    · exact own_keep_ty (h.each x hx) hp.2.1 hty
    · obtain rfl := List.mem_singleton.1 hx
      exact own_keep_ty hr hp.2.1 hty
theorem own_some {w : World} {B : Nat} {e : TypeId} {v : Value} {n : Nat} {xs : List Value} (h : w.ownsRow B e 1 v n xs) (hn : 0 < n) : ∃ g c, v = .slice (some ⟨g, 0, none⟩) n c ∧ n ≤ c ∧ c ≤ maxLen := by
  rcases h.2 with ⟨_, h0⟩ | ⟨g, cap, cur, hv, _, _, h1, h2, _⟩
  · omega
  · exact ⟨g, cap, hv, h1, h2⟩
def endCells : List Value := [.int .i64 77, .slice none 0 0, .int .i64 78, .slice none 0 0]
theorem endCells_one : ∀ u ∈ endCells, u.oneCell' = true := by
  intro u hu
  simp only [endCells, List.mem_cons, List.not_mem_nil, or_false] at hu
  rcases hu with rfl | rfl | rfl | rfl <;> rfl
theorem sp_len (rows : List SpR) : (rows.flatMap spCells).length = rows.length * 2 := by
  induction rows with
  | nil => rfl
  | cons x l ih => rw [List.flatMap_cons, List.length_append, ih, List.length_cons]; show 2 + _ = _; omega
/-- what stands behind the last append -/
theorem spare_done {B : Nat} {w w' : World} {vo v' : Value} {rows : List SpR} {X : List HkI} (h : SpL B w vo rows) (hX : rows.map (·.1) = X) (hown : w'.ownsRow B 25 2 v' (rows.length + 2) (rows.flatMap spCells ++ endCells)) (hg : w.grownBy w' vo.ownBlock) :
    ∃ a c, v' = .slice a (rows.length + 2) c ∧ SpareK w' a X.length c X := by
  have hty : ∀ b, vo.ownBlock = some b → ∃ (cur : Array Value) (e' : TypeId) (fr : Nat × Nat), w.heap[b]? = some (.cells cur e' fr) ∧ e' ≠ 9 := fun b hb2 => by
    obtain ⟨_, cur, hc⟩ := own_block h.own hb2
    exact ⟨cur, _, _, hc, by decide⟩
  have hXl : X.length = rows.length := by rw [← hX, List.length_map]
  obtain ⟨a, c, rfl⟩ := slice_own hown
  obtain ⟨_, h1, h2⟩ := own_caps hown
  obtain ⟨g, rfl, hgl, hc⟩ := own_cell hown (by omega)
  refine ⟨_, c, rfl, rfl, by omega, g, rfl, hgl, ?_, ?_, fun i x hx => ?_⟩
  · refine hc _ _ ?_
    rw [List.getElem?_append_right (by rw [sp_len, hXl]; omega), sp_len, hXl, Nat.sub_self]
    rfl
  · refine hc _ _ ?_
    rw [List.getElem?_append_right (by rw [sp_len, hXl]; omega), sp_len, hXl, show (rows.length + 1) * 2 - rows.length * 2 = 2 by omega]
    rfl
  · rw [← hX, List.getElem?_map] at hx
    cases hr : rows[i]? with
    | none => rw [hr] at hx; cases hx
    | some r =>
      rw [hr] at hx
      cases hx
      have hil := (List.getElem?_eq_some_iff.1 hr).1
      have f0 := flat_at (f := spCells) (c := 2) (fun _ => rfl) hr (j := 0) rfl
      have f1 := flat_at (f := spCells) (c := 2) (fun _ => rfl) hr (j := 1) rfl
      have ho := own_keep_ty (h.each r (List.mem_of_getElem? hr)) hg hty
      obtain ⟨_, q1, q2⟩ := own_caps ho
      obtain ⟨a', c', he, hrd, _, _⟩ := reads_of_own ho
      cases he
      refine ⟨r.2.1, r.2.2, hc _ _ ?_, hc _ _ ?_, q1, q2, ?_⟩
      · rw [List.getElem?_append_left (by rw [sp_len]; omega)]
        exact f0
      · rw [List.getElem?_append_left (by rw [sp_len]; omega)]
        exact f1
      · exact hrd
set_option maxHeartbeats 8000000 in
set_option maxRecDepth 100000 in
theorem spareC (w : World) (a : Option Addr) (n c : Nat) (X : List HkI) (hX : ReadsK w a n X) (hF : Fit X) :
    Calls Tryz.prog 25 #[.slice a n c] w fun e w' => ∃ a' c', e = .returned (.slice a' n c') ∧ SpareK w' a' n c' X ∧ Below w.heap.size w w' := by
  have HX := Lib.hid hX
  have HN := Lib.hid hX.len
  have HL := Lib.hid hF.2.1
  have hn : n ≤ 16777216 := by rw [← hX.len]; exact hF.1
  clear hX hF
  go_enter Tryz.func25, Tryz.ntmps25
  go_wp2
  go_loopw [3, 4] (fun vo ui wr => ∃ (i : Nat) (rows : List SpR), ui = .int .i64 (i : Int) ∧ i ≤ n ∧ Hid (rows.map (·.1) = X.take i ∧ rows.length = i ∧ SpL w.heap.size wr vo rows ∧ Below w.heap.size w wr)) (fun _ ui _ => n - (RowKit.intOf ui).toNat)
  case atStart => exact ⟨0, [], rfl, Nat.zero_le _, Lib.hid ⟨rfl, rfl, ⟨World.ownsRow_nil _ _ _ _, fun r hr => by cases hr⟩, Below.refl _ _⟩⟩
  case round =>
    obtain ⟨i, rows, rfl, hi, HR⟩ := hrel
    obtain ⟨vo, rfl⟩ : ∃ v : Value, v = u3 := ⟨_, rfl⟩
    have hwb := HR.out.2.2.2.size
    by_cases hlt : i < n
    · obtain ⟨b, off, x, ad, m, cm, rfl, hb, hx, hc0, hc1, hrs, hmc, hcm, hm⟩ := HX.out.at hlt
      have hml : m ≤ 16777216 := by
        have h1 := linesK_mem (List.mem_of_getElem? hx)
        have h2 := HL.out
        omega
      have HTK := Lib.hid (take_next hx)
      obtain ⟨kd, hkd⟩ : ∃ kd, kd = x.1 := ⟨_, rfl⟩
      rw [← hkd] at hc0
      have HKD := Lib.hid hkd
      have HRS := Lib.hid (hrs.keep HR.out.2.2.2 (Nat.le_refl _))
      have HM := Lib.hid hm
      have hit : (i : Int) < (n : Int) := by omega
      have hmc1 : (m : Int) ≤ (cm : Int) := by omega
      obtain ⟨w5, hw5⟩ : ∃ x : World, x = wr := ⟨_, rfl⟩
      have HR5 : Hid (rows.map (·.1) = X.take i ∧ rows.length = i ∧ SpL w.heap.size w5 vo rows ∧ Below w.heap.size w w5) := by rw [hw5]; exact HR
      have H0 : Hid (w5.ownsRow w5.heap.size 9 1 (.slice none 0 0) 0 []) := Lib.hid (World.ownsRow_nil _ _ _ _)
      rw [← hw5] at HRS hwb ⊢
      have hq : ∀ W, Below w.heap.size w W → W.cell? ⟨b, off + i * 2, none⟩ = some (.int .i64 kd) ∧ W.cell? ⟨b, off + i * 2 + 1, none⟩ = some (.slice ad m cm) := fun W hW => ⟨(hW.cell (p := ⟨b, off + i * 2, none⟩) hb).trans hc0, (hW.cell (p := ⟨b, off + i * 2 + 1, none⟩) hb).trans hc1⟩
      have HQ := Lib.hid hq
      obtain ⟨j0, j1⟩ := hq w5 HR5.out.2.2.2
      clear hx hrs hm hkd hw5 HR hq hc0 hc1 hb
      go_upto_region 8 with (first
        | (at_builtin; refine appSlice rfl _ _ rfl Tryz.underlying22 (.string ByteArray.empty) 1 16 infoStr rfl (by decide) (by decide) w5.heap.size (.slice none 0 0) 0 [] rfl H0.out ad m cm (x.2.map S1) rfl (by rw [List.length_map, HM.out, Nat.mul_one]) HRS.out.srcs (S1_one _) (by omega) (Nat.le_refl _) ?_; intro v6 w6 hO6 hg6; have hb6 : Below w5.heap.size w5 w6 := (Below.refl _ w5).grown hg6 (Nat.le_refl _) (fun k hk => by cases hk); have HO6 : Hid (w6.ownsRow w5.heap.size 9 1 v6 m (x.2.map S1)) := Lib.hid (by rw [List.nil_append, Nat.zero_add] at hO6; exact hO6); have HB6 := Lib.hid hb6; have hs6 := hb6.size; clear hO6 hg6 hb6)
        | (at_builtin; refine appSlice rfl _ _ rfl Tryz.underlying22 (.string ByteArray.empty) 1 16 infoStr rfl (by decide) (by decide) w5.heap.size v6 m (x.2.map S1) rfl (World.ownsRow.alloc HO6.out _) (some ⟨w6.heap.size, 0, none⟩) 2 2 (behindT.map S1) rfl rfl (fun _ => ⟨w6.heap.size, 0, rfl, fun j u hj => by { have h1 := new_cells w6 (behindT.map S1) 9 j u hj; rw [cell_add] at h1; exact h1 }⟩) (S1_one _) (by omega) (by simp; omega) ?_; intro v7 w7 hO7 hg7; have hb7 : Below w5.heap.size w5 w7 := (HB6.out.alloc hs6 _).grown hg7 (by simp; omega) (fun k hk => (World.ownsRow.lt HO6.out k hk).1); have HO7 : Hid (w7.ownsRow w5.heap.size 9 1 v7 (m + 2) ((x.2 ++ behindT).map S1)) := Lib.hid (by rw [List.map_append]; exact hO7); have HB7 := Lib.hid hb7; have hs7 := hb7.size; clear hO7 hg7 hb7))
      obtain ⟨g7, c7, hv7, hc71, hc72⟩ := own_some HO7.out (by omega)
      subst hv7
      have hc7i : (m : Int) ≤ (c7 : Int) := by omega
      have hc7m : c7 ≤ 9223372036854775807 := by unfold maxLen at hc72; omega
      have HBD : Hid (Below w5.heap.size w5 w7.drew) := Lib.hid HB7.out.drew
      have HSD : Hid (SpL w.heap.size w7.drew vo rows) := Lib.hid (HR5.out.2.2.1.below HBD.out)
      have HRI := HR5.out.2.1
      have hwd : w.heap.size ≤ w7.drew.heap.size := Nat.le_trans hwb hs7
      have HBW7 : Hid (Below w.heap.size w w7.drew) := Lib.hid (HR5.out.2.2.2.trans (HBD.out.mono hwb))
      obtain ⟨d0, d1⟩ := HQ.out _ HBW7.out
      have hrl : rows.length ≤ 1073741824 := by omega
      have hCS : spCells ((kd, x.2), g7, c7) = [.int .i64 kd, .slice (some ⟨g7, 0, none⟩) m c7] := by unfold spCells; rw [← HM.out]
      have HCS := Lib.hid hCS
      clear hCS j0 j1
      go_region_held3 (fun w' => w'.cell? ⟨b, off + i * 2, none⟩ = some (.int .i64 kd) ∧ w'.cell? ⟨b, off + i * 2 + 1, none⟩ = some (.slice ad m cm)) (first | exact ⟨d0, d1⟩ | exact HQ.out _ (by assumption) | exact HQ.out _ (HBW7.out.alloc hwd _) | go_keep) ((refine stepSep (by rfl) _ _ (by rfl) Tryz.underlying26 (.agg #[.int .i64 0, .slice none 0 0]) 2 32 infoHunk (by rfl) (by decide) (by decide) w.heap.size w7.drew vo rows.length (rows.flatMap spCells) [.int .i64 kd, .slice (some ⟨g7, 0, none⟩) m c7] (by rfl) (by rw [← HCS.out]; exact spCells_one _) (by rfl) HSD.out.own (by rfl) (by rfl) hrl hwd ?_; intro v8 w8 hp8; have hb8 : Below w.heap.size w w8 := HBW7.out.trans (hp8.below HSD.out.own hwd)))
      rw [← HCS.out] at hp8
      have HNX : Hid ((rows ++ [((kd, x.2), g7, c7)]).map (·.1) = X.take (i + 1) ∧ (rows ++ [((kd, x.2), g7, c7)]).length = i + 1 ∧ SpL w.heap.size w8 v8 (rows ++ [((kd, x.2), g7, c7)]) ∧ Below w.heap.size w w8) := by
        refine Lib.hid ⟨?_, by rw [List.length_append, HRI]; rfl, HSD.out.push ?_ hp8, hb8⟩
        · rw [List.map_append, HR5.out.1, HTK.out, HKD.out]
          rfl
        · have h1 := own_mono HO7.out hwb
          have h2 := own_below h1 ((Below.refl _ w7).drew)
          simp only [HM.out]
          exact h2
      clear hp8 hb8
      go_wp2
      go_roundw
      case rel => exact ⟨i + 1, _, by go_num, hlt, HNX⟩
      case measure => simp [RowKit.intOf]; omega
    · obtain rfl : i = n := by omega
      have hd : X.take i = X := List.take_of_length_le (by rw [HN.out]; exact Nat.le_refl _)
      rw [hd] at HR
      have hrl := HR.out.2.1
      have HXI : Hid (X.length = i) := HN
      have HSA : Hid (SpL w.heap.size (wr.alloc (.cells endCells.toArray 25)) vo rows ∧ Below w.heap.size w (wr.alloc (.cells endCells.toArray 25))) := Lib.hid ⟨HR.out.2.2.1.below ((Below.refl _ wr).alloc (Nat.le_refl _) _), HR.out.2.2.2.alloc hwb _⟩
      have HSZ : Hid (w.heap.size ≤ (wr.alloc (.cells endCells.toArray 25)).heap.size) := Lib.hid (by simp; omega)
      clear hd
      go_wp2_with (at_builtin; refine appSlice rfl _ _ rfl Tryz.underlying26 (.agg #[.int .i64 0, .slice none 0 0]) 2 32 infoHunk rfl (by decide) (by decide) w.heap.size vo rows.length (rows.flatMap spCells) rfl HSA.out.1.own (some ⟨wr.heap.size, 0, none⟩) 2 2 endCells rfl rfl (fun _ => ⟨wr.heap.size, 0, rfl, fun j u hj => by { have h1 := new_cells wr endCells 25 j u hj; rw [cell_add] at h1; exact h1 }⟩) endCells_one (by omega) HSZ.out ?_; intro v8 w8 hO8 hg8; obtain ⟨a8, c8, hv8, hS8⟩ := spare_done HSA.out.1 HR.out.1 hO8 hg8; subst hv8; have hb8 : Below w.heap.size w w8 := HSA.out.2.grown hg8 HSZ.out (fun k hk => (World.ownsRow.lt HSA.out.1.own k hk).1); rw [HXI.out] at hS8; have HS8 := Lib.hid hS8; have HB8 := Lib.hid hb8; have hr8 := hS8.room; have hr9 : (i : Int) ≤ (c8 : Int) := (by omega); have hr10 : c8 ≤ 9223372036854775807 := (by { have := hr8.2; unfold maxLen at this; omega }); clear hO8 hg8 hS8 hb8)
      go_ret
      exact ⟨a8, c8, rfl, HS8.out, HB8.out⟩
set_option maxHeartbeats 8000000 in
set_option maxRecDepth 100000 in
theorem keptC (w : World) (a b : Option Addr) (n c d : Nat) (X : List HkI) (hS : SpareK w a n c X) (hW : ReadsK w b n X) (hF : Fit X) :
    Calls Tryz.prog 30 #[.slice a n c, .slice b n d] w fun e w' => e = .returned (.bool true) ∧ Quiet w w' := by
  have hn : n ≤ 16777216 := by rw [← hS.len]; exact hF.1
  have HE := Lib.hid (eqHunks w a b n c d X hS.reads hW (by omega) (fun x hx => by have h1 := linesK_mem hx; have h2 := hF.2.1; omega))
  obtain ⟨hl, hroom, g, rfl, hgl, g77, g78, hat⟩ := hS
  have HL := Lib.hid hF.2.1
  have HAT := Lib.hid hat
  have hr1 : (n : Int) + 2 ≤ (c : Int) := by omega
  have hr2 : c ≤ 9223372036854775807 := by have := hroom.2; unfold maxLen at this; omega
  clear hat hF hW
  go_enter Tryz.func30, Tryz.ntmps30
  go_upto_region 3 with (go_at_call 13; refine (HE.out).mono ?_; rintro e w1 ⟨rfl, hq1⟩; have HQ1 := Lib.hid hq1; clear hq1)
  have e77 : w1.cell? ⟨g, n * 2, none⟩ = some (.int .i64 77) := by rw [← g77]; exact cell_rows (by rw [HQ1.out.heap])
  have e78 : w1.cell? ⟨g, (n + 1) * 2, none⟩ = some (.int .i64 78) := by rw [← g78]; exact cell_rows (by rw [HQ1.out.heap])
  have hq1 := HQ1.out
  have e78' : w1.cell? ⟨g, (n + 1) * 2, none⟩ = some (.int .i64 78) := e78
  obtain ⟨n1, hn1⟩ : ∃ n1, n + 1 = n1 := ⟨_, rfl⟩
  rw [hn1] at e78 e78'
  have hw1 : IntKind.i64.wrap ((n : Int) + 1) = (n1 : Int) := by rw [show (n : Int) + 1 = (n1 : Int) by omega]; exact IntWalk.i64_in _ (by omega)
  have hw2 : IntKind.i64.wrap ((n : Int) + 2) = (n : Int) + 2 := IntWalk.i64_in _ (by omega)
  have hb1 : (n1 : Int) < (n : Int) + 2 := by omega
  have HN1 := Lib.hid hn1
  clear hn1 hq1
  go_wp2
  clear hw1 hw2
  go_loopw [6] (fun ui wr => ∃ i : Nat, ui = .int .i64 (i : Int) ∧ i ≤ n ∧ Quiet w wr) (fun ui _ => n - (RowKit.intOf ui).toNat)
  case atStart => exact ⟨0, rfl, Nat.zero_le _, HQ1.out⟩
  case round =>
    obtain ⟨i, rfl, hi, hq⟩ := hrel
    by_cases hlt : i < n
    · have hx : X[i]? = some (X[i]'(by omega)) := by simp
      obtain ⟨gi, ci, q1, q2, q3, q4, q5⟩ := HAT.out i _ hx
      have hlx := linesK_mem (List.mem_of_getElem? hx)
      obtain ⟨m, hm⟩ : ∃ m, m = (X[i]'(by omega)).2.length := ⟨_, rfl⟩
      obtain ⟨L, hL⟩ : ∃ L, L = (X[i]'(by omega)).2 := ⟨_, rfl⟩
      rw [← hm] at q2 q3 q5 hlx
      rw [← hL] at q5 hm
      have hml : m ≤ 16777216 := by have := HL.out; omega
      have d1 : wr.cell? ⟨g, i * 2 + 1, none⟩ = some (.slice (some ⟨gi, 0, none⟩) m ci) := by rw [← q2]; exact cell_rows (by rw [hq.heap])
      have q6 := q5.quiet hq
      obtain ⟨b1, o1, y1, e1, _, hy1, hc1⟩ := q6.at (k := m) (by omega)
      obtain ⟨b2, o2, y2, e2, _, hy2, hc2⟩ := q6.at (k := m + 1) (by omega)
      cases e1
      cases e2
      rw [List.getElem?_append_right (by omega), ← hm, Nat.sub_self] at hy1
      rw [List.getElem?_append_right (by omega), ← hm, show m + 1 - m = 1 by omega] at hy2
      obtain rfl : [98, 101, 104, 105, 110, 100] = y1 := Option.some.inj hy1
      obtain rfl : [116, 104, 101, 109] = y2 := Option.some.inj hy2
      rw [Nat.zero_add] at hc1 hc2
      obtain ⟨m1, hm1⟩ : ∃ m1, m + 1 = m1 := ⟨_, rfl⟩
      rw [hm1] at hc2
      have hk : ∀ W, Quiet wr W → W.cell? ⟨gi, m, none⟩ = some (.string (bstr [98, 101, 104, 105, 110, 100])) ∧ W.cell? ⟨gi, m1, none⟩ = some (.string (bstr [116, 104, 101, 109])) := fun W hW => ⟨(cell_rows (by rw [hW.heap])).trans hc1, (cell_rows (by rw [hW.heap])).trans hc2⟩
      have HK := Lib.hid hk
      have hit : (i : Int) < (n : Int) := by omega
      have hmi : (m : Int) + 2 ≤ (ci : Int) := by omega
      have hci : ci ≤ 9223372036854775807 := by unfold maxLen at q4; omega
      have hv1 : IntKind.i64.wrap ((m : Int) + 2) = (m : Int) + 2 := IntWalk.i64_in _ (by omega)
      have HM1 := Lib.hid hm1
      have HMM := Lib.hid hm
      clear hk hc1 hc2 hx q1 q2 q3 q4 q5 q6 hlx hm hL hm1 hy1 hy2
      go_wp2
      go_quiet (fail)
      obtain ⟨wq, hwq⟩ : ∃ x, x = wr.drewN nq := ⟨_, rfl⟩
      obtain ⟨f1, f2⟩ := HK.out wq (by rw [hwq]; exact ⟨_, rfl⟩)
      have HQ2 : Hid (Quiet w wq) := Lib.hid (by rw [hwq]; exact hq.drewN _)
      rw [← hwq]
      have hv2 : IntKind.i64.wrap ((m : Int) + 2 - 2) = (m : Int) := by rw [show (m : Int) + 2 - 2 = (m : Int) by omega]; exact IntWalk.i64_in _ (by omega)
      have hv3 : IntKind.i64.wrap ((m : Int) + 2 - 1) = (m1 : Int) := by have := HM1.out; rw [show (m : Int) + 2 - 1 = (m1 : Int) by omega]; exact IntWalk.i64_in _ (by omega)
      have hu1 : (m : Int) < (m : Int) + 2 := by omega
      have hu2 : (m1 : Int) < (m : Int) + 2 := by have := HM1.out; omega
      clear hwq
      go_wp2
      go_roundw
      case rel => exact ⟨i + 1, by go_num, hlt, HQ2.out⟩
      case measure => simp [RowKit.intOf]; omega
    · obtain rfl : i = n := by omega
      go_wp2
      go_ret
      exact ⟨rfl, hq⟩
end Go.Proofs.YtnbihjocdlpplaaGreatDoor
/- A slice of texts, a slice of hunks that came in. -/
namespace Go.Proofs.YtnbihjocdlpplaaGreatDoor
set_option linter.unusedVariables false
set_option linter.unusedSimpArgs false
open Go.ChangeShapes Go.WideShapes Go.ChangeAt Go.RowKit Go.Deep
def textSum (L : List (List UInt8)) : Nat := (L.map fun s => s.length + 1).sum
def hunkSum (X : List HkI) : Nat := (X.map fun h => textSum h.2 + 1).sum
theorem textSum_len (L : List (List UInt8)) : L.length + L.flatten.length = textSum L := by
  induction L with
  | nil => rfl
  | cons s L ih =>
    unfold textSum at *
    rw [List.length_cons, List.flatten_cons, List.length_append, List.map_cons, List.sum_cons]
    omega
theorem hunkSum_fit (X : List HkI) : X.length + linesK X + bytesK X = hunkSum X := by
  induction X with
  | nil => rfl
  | cons x X ih =>
    have := textSum_len x.2
    unfold hunkSum linesK bytesK at *
    rw [List.length_cons, List.map_cons, List.sum_cons, List.map_cons, List.sum_cons, List.map_cons, List.sum_cons]
    omega
theorem field_of {o : Option Field} {P : Program} {a b : Nat} {c : Option TypeDesc} (h : o.map (fun f => (f.offset, P.cellsOf f.type, P.underlying f.type)) = some (a, b, c)) : ∃ f, o = some f ∧ f.offset = a ∧ P.cellsOf f.type = b ∧ P.underlying f.type = c := by
  cases o with
  | none => cases h
  | some f =>
    simp only [Option.map_some, Option.some.injEq, Prod.mk.injEq] at h
    exact ⟨f, rfl, h.1, h.2.1, h.2.2⟩
theorem drop_one {cs : List Value} {k : Nat} (h : k < cs.length) : (cs.drop k).take 1 = [cs[k]] := by
  rw [List.drop_eq_getElem_cons h]; rfl
theorem bulk_mem {H : Type} {d : DataW H} {l : List (DataW H)} (h : d ∈ l) : Rows.uptoBulk d ≤ Rows.uptoBulkAll l := by
  induction l with
  | nil => cases h
  | cons x r ih =>
    simp only [Rows.uptoBulkAll]
    cases List.mem_cons.1 h with
    | inl e => subst e; omega
    | inr e => have := ih e; omega
theorem str_cells : Tryz.prog.cellsOf 9 = 1 := by kernel_rfl
theorem hunk_fields : ∃ fs : Array Field, Tryz.prog.underlying 25 = some (.struct fs) ∧ fs.size = 2 ∧
    (fs[0]?).map (fun f => (f.offset, Tryz.prog.cellsOf f.type, Tryz.prog.underlying f.type)) = some (0, 1, some (.int .i64)) ∧
    (fs[1]?).map (fun f => (f.offset, Tryz.prog.cellsOf f.type, Tryz.prog.underlying f.type)) = some (1, 1, some (.slice 9)) :=
  ⟨Tryz.prog.fieldsOf 25, by kernel_rfl, by kernel_rfl, by kernel_rfl, by kernel_rfl⟩
theorem hunk_cells : Tryz.prog.cellsOf 25 = 2 := by kernel_rfl
/-- a slice of texts -/
theorem openTexts {H : Type} {enc : TypeId × Value → H} {W : World} {base : Nat} {spare : Nat → Bool} {held : Bool} {fuel : Nat} {cs : List Value} {x : DataW H × List MemPlace} {t : TypeId} (ht : Tryz.prog.underlying t = some (.slice 9))
    (h : DataW.trod enc Tryz.prog W base spare held fuel t cs = some x) :
    ∃ (a : Option Addr) (n c : Nat) (L : List (List UInt8)), cs = [.slice a n c] ∧ ReadsS W a n L ∧ n ≤ c ∧ c ≤ maxLen ∧ textSum L ≤ Rows.uptoBulk x.1 := by
  rcases open_slice1 ht str_cells h with ⟨rfl, rfl⟩ | ⟨a, len, cap, m, nf, V, D, Pl, rfl, hb, hl, hm, hmm, rfl, hi⟩
  · exact ⟨none, 0, 0, [], rfl, Reads.nil _ _, Nat.le_refl _, Nat.zero_le _, Nat.zero_le _⟩
  · have hlm : len ≤ m := by rw [hmm]; split <;> omega
    have hone : ∀ i, i < len → ∃ s : List UInt8, W.cell? (a.add i) = some (S1 s) ∧ s.length + 1 ≤ Rows.uptoBulk (D i) := fun i hil => by
      obtain ⟨hc, ht'⟩ := hi i (by omega)
      obtain ⟨s, e1, y1, _⟩ := DataW.trod_string Tryz.underlying9 ht'
      obtain ⟨hD, _⟩ := Prod.mk.inj y1
      refine ⟨s.data.toList, ?_, ?_⟩
      · rw [hc, (List.cons.inj e1).1]
        rfl
      · rw [hD]
        simp [Rows.uptoBulk]
    let F : Nat → List UInt8 := fun i => if hil : i < len then Classical.choose (hone i hil) else []
    have hF : ∀ i, i < len → W.cell? (a.add i) = some (S1 (F i)) ∧ (F i).length + 1 ≤ Rows.uptoBulk (D i) := fun i hil => by
      have h1 := Classical.choose_spec (hone i hil)
      simp only [F, dif_pos hil]
      exact h1
    have hsum : textSum ((List.range len).map F) ≤ Rows.uptoBulkAll ((List.range len).map D) := by
      have hall : ∀ (l : List Nat), (∀ i ∈ l, i < len) → textSum (l.map F) ≤ Rows.uptoBulkAll (l.map D) := by
        intro l
        induction l with
        | nil => intro _; exact Nat.zero_le _
        | cons i l ih =>
          intro hl
          have h1 := ih fun j hj => hl j (List.mem_cons_of_mem _ hj)
          have h2 := (hF i (hl i (List.mem_cons_self ..))).2
          unfold textSum at h1 ⊢
          simp only [List.map_cons, List.sum_cons, Rows.uptoBulkAll] at h1 ⊢
          omega
      exact hall _ fun i hi => List.mem_range.1 hi
    refine ⟨some a, len, cap, (List.range len).map F, rfl, ⟨by simp, fun hn => ?_⟩, hl, hm, by simp only [Rows.uptoBulk]; omega⟩
    obtain ⟨b, o, sp⟩ := a
    have h0 := (hF 0 hn).1
    have hsp : sp = none := by
      simpa [Addr.add] using World.cell?_spot h0
    subst hsp
    have hlt : b < W.heap.size := by
      rw [cell_add] at h0
      exact World.block_lt_of_cell? W _ h0
    refine ⟨b, o, rfl, hlt, fun j hj => ?_⟩
    have h2 := (hF j hj).1
    rw [cell_add] at h2
    rw [h2, List.getElem?_map, List.getElem?_map, List.getElem?_range hj]
    rfl
theorem wf_u8 {x : Int} (h : (Lit.int .u8 x).wf = true) : 0 ≤ x ∧ x ≤ 255 := by
  simpa [Lit.wf, IntKind.min, IntKind.max, IntKind.signed, IntKind.bits] using h
theorem u8_cells : Tryz.prog.cellsOf 5 = 1 := by kernel_rfl
/-- a slice of bytes -/
theorem openU8 {H : Type} {enc : TypeId × Value → H} {W : World} {base : Nat} {spare : Nat → Bool} {held : Bool} {fuel : Nat} {cs : List Value} {x : DataW H × List MemPlace} {t : TypeId} (ht : Tryz.prog.underlying t = some (.slice 5))
    (h : DataW.trod enc Tryz.prog W base spare held fuel t cs = some x) :
    ∃ (a : Option Addr) (n c : Nat) (L : List UInt8), cs = [.slice a n c] ∧ Reads W a n (L.map B8) ∧ n ≤ c ∧ c ≤ maxLen ∧ L.length ≤ Rows.uptoBulk x.1 := by
  rcases open_slice1 ht u8_cells h with ⟨rfl, rfl⟩ | ⟨a, len, cap, m, nf, V, D, Pl, rfl, hb, hl, hm, hmm, rfl, hi⟩
  · exact ⟨none, 0, 0, [], rfl, Reads.nil _ _, Nat.le_refl _, Nat.zero_le _, Nat.zero_le _⟩
  · have hlm : len ≤ m := by rw [hmm]; split <;> omega
    have hone : ∀ i, i < len → ∃ s : UInt8, W.cell? (a.add i) = some (B8 s) ∧ 1 ≤ Rows.uptoBulk (D i) := fun i hil => by
      obtain ⟨hc, ht'⟩ := hi i (by omega)
      obtain ⟨k, e1, y1, w1⟩ := DataW.trod_int Tryz.underlying5 ht'
      obtain ⟨hD, _⟩ := Prod.mk.inj y1
      have hk := wf_u8 w1
      refine ⟨UInt8.ofNat k.toNat, ?_, ?_⟩
      · rw [hc, (List.cons.inj e1).1]
        have : (((UInt8.ofNat k.toNat).toNat : Nat) : Int) = k := by rw [UInt8.toNat_ofNat']; omega
        rw [B8, this]
      · rw [hD]
        simp [Rows.uptoBulk]
    let F : Nat → UInt8 := fun i => if hil : i < len then Classical.choose (hone i hil) else 0
    have hF : ∀ i, i < len → W.cell? (a.add i) = some (B8 (F i)) ∧ 1 ≤ Rows.uptoBulk (D i) := fun i hil => by
      have h1 := Classical.choose_spec (hone i hil)
      simp only [F, dif_pos hil]
      exact h1
    have hsum : ((List.range len).map F).length ≤ Rows.uptoBulkAll ((List.range len).map D) := by
      have hall : ∀ (l : List Nat), (∀ i ∈ l, i < len) → (l.map F).length ≤ Rows.uptoBulkAll (l.map D) := by
        intro l
        induction l with
        | nil => intro _; exact Nat.zero_le _
        | cons i l ih =>
          intro hl
          have h1 := ih fun j hj => hl j (List.mem_cons_of_mem _ hj)
          have h2 := (hF i (hl i (List.mem_cons_self ..))).2
          simp only [List.map_cons, List.length_cons, Rows.uptoBulkAll] at h1 ⊢
          omega
      exact hall _ fun i hi => List.mem_range.1 hi
    refine ⟨some a, len, cap, (List.range len).map F, rfl, ⟨by simp, fun hn => ?_⟩, hl, hm, by simp only [Rows.uptoBulk]; omega⟩
    obtain ⟨b, o, sp⟩ := a
    have h0 := (hF 0 hn).1
    have hsp : sp = none := by
      simpa [Addr.add] using World.cell?_spot h0
    subst hsp
    have hlt : b < W.heap.size := by
      rw [cell_add] at h0
      exact World.block_lt_of_cell? W _ h0
    refine ⟨b, o, rfl, hlt, fun j hj => ?_⟩
    have h2 := (hF j hj).1
    rw [cell_add] at h2
    rw [h2, List.getElem?_map, List.getElem?_map, List.getElem?_range hj]
    rfl
set_option maxRecDepth 100000 in
/-- one hunk out of its cells -/
theorem open_hunk {H : Type} {enc : TypeId × Value → H} {W : World} {base : Nat} {spare : Nat → Bool} {held : Bool} {fuel : Nat} {cs : List Value} {d : DataW H} {ps : List MemPlace}
    (h : DataW.trod enc Tryz.prog W base spare held fuel 25 cs = some (d, ps)) :
    ∃ (x : HkI) (ad : Option Addr) (c : Nat), cs = [.int .i64 x.1, .slice ad x.2.length c] ∧ ReadsS W ad x.2.length x.2 ∧ x.2.length ≤ c ∧ c ≤ maxLen ∧ textSum x.2 + 1 ≤ Rows.uptoBulk d := by
  obtain ⟨hf, uf, fsz, s0, s1⟩ := hunk_fields
  obtain ⟨ys, n, _, hx, hcl, hyl, hfd⟩ := DataW.trod_struct uf h
  rw [hunk_cells] at hcl
  rw [fsz] at hyl
  obtain ⟨f0, g0, o0, k0, u0⟩ := field_of s0
  obtain ⟨f1, g1, o1, k1, u1⟩ := field_of s1
  have t0 := hfd 0 f0 g0
  have t1 := hfd 1 f1 g1
  rw [o0, k0, drop_one (by omega), List.getElem?_eq_getElem (by omega)] at t0
  rw [o1, k1, drop_one (by omega), List.getElem?_eq_getElem (by omega)] at t1
  obtain ⟨n0, e0, y0, w0⟩ := DataW.trod_int u0 t0
  obtain ⟨ad, m, c, L, e1, hr, hmc, hcm, hsum⟩ := openTexts u1 t1
  have hml : L.length = m := hr.len
  subst hml
  refine ⟨(n0, L), ad, c, ?_, hr, hmc, hcm, ?_⟩
  · match cs, hcl, e0, e1 with
    | [c0, c1], _, e0, e1 =>
      obtain rfl : c0 = .int .i64 n0 := (List.cons.inj e0).1
      obtain rfl : c1 = .slice ad L.length c := (List.cons.inj e1).1
      rfl
  · obtain ⟨rfl, _⟩ := Prod.mk.inj hx
    have hm : (ys[1]'(by omega)).1 ∈ ys.map (·.1) := List.mem_map.2 ⟨ys[1]'(by omega), List.getElem_mem _, rfl⟩
    have h1 := bulk_mem hm
    simp only [Rows.uptoBulk] at h1 ⊢
    have h2 : textSum L ≤ Rows.uptoBulk (ys[1]'(by omega)).1 := hsum
    show textSum L + 1 ≤ _
    omega
/-- a slice of hunks -/
theorem openHunks {H : Type} {enc : TypeId × Value → H} {W : World} {base : Nat} {spare : Nat → Bool} {held : Bool} {fuel : Nat} {cs : List Value} {x : DataW H × List MemPlace} {t : TypeId} (ht : Tryz.prog.underlying t = some (.slice 25))
    (h : DataW.trod enc Tryz.prog W base spare held fuel t cs = some x) :
    ∃ (a : Option Addr) (n c : Nat) (X : List HkI), cs = [.slice a n c] ∧ ReadsK W a n X ∧ n ≤ c ∧ c ≤ maxLen ∧ hunkSum X ≤ Rows.uptoBulk x.1 := by
  rcases open_slice ht h with ⟨rfl, rfl⟩ | ⟨a, len, cap, m, nf, D, Pl, rfl, hb, hl, hm, hmm, rfl, hi⟩
  · exact ⟨none, 0, 0, [], rfl, ReadsK.nil _ _, Nat.le_refl _, Nat.zero_le _, Nat.zero_le _⟩
  · have hlm : len ≤ m := by rw [hmm]; split <;> omega
    have hone : ∀ i, i < len → ∃ y : HkI, (∃ ad c, W.cell? (a.add (i * 2)) = some (.int .i64 y.1) ∧ W.cell? (a.add (i * 2 + 1)) = some (.slice ad y.2.length c) ∧ ReadsS W ad y.2.length y.2 ∧ y.2.length ≤ c ∧ c ≤ maxLen) ∧ textSum y.2 + 1 ≤ Rows.uptoBulk (D i) := fun i hil => by
      obtain ⟨cs', hc, ht'⟩ := hi i (by omega)
      obtain ⟨y, ad, c, hy, hr, h1, h2, h3⟩ := open_hunk ht'
      obtain ⟨_, hcl, hat⟩ := World.cells?_some hc
      rw [hunk_cells] at hcl hat
      have e : ∀ k, (a.add (i * 2)).add k = a.add (i * 2 + k) := fun k => by
        unfold Addr.add; split <;> split <;> simp_all <;> omega
      have c0 := hat 0 (by omega)
      have c1 := hat 1 (by omega)
      rw [hy, e] at c0 c1
      exact ⟨y, ⟨ad, c, c0, c1, hr, h1, h2⟩, h3⟩
    let F : Nat → HkI := fun i => if hil : i < len then Classical.choose (hone i hil) else (0, [])
    have hF : ∀ i, i < len → (∃ ad c, W.cell? (a.add (i * 2)) = some (.int .i64 (F i).1) ∧ W.cell? (a.add (i * 2 + 1)) = some (.slice ad (F i).2.length c) ∧ ReadsS W ad (F i).2.length (F i).2 ∧ (F i).2.length ≤ c ∧ c ≤ maxLen) ∧ textSum (F i).2 + 1 ≤ Rows.uptoBulk (D i) := fun i hil => by
      have h1 := Classical.choose_spec (hone i hil)
      simp only [F, dif_pos hil]
      exact h1
    have hsum : hunkSum ((List.range len).map F) ≤ Rows.uptoBulkAll ((List.range len).map D) := by
      have hall : ∀ (l : List Nat), (∀ i ∈ l, i < len) → hunkSum (l.map F) ≤ Rows.uptoBulkAll (l.map D) := by
        intro l
        induction l with
        | nil => intro _; exact Nat.zero_le _
        | cons i l ih =>
          intro hl
          have h1 := ih fun j hj => hl j (List.mem_cons_of_mem _ hj)
          have h2 := (hF i (hl i (List.mem_cons_self ..))).2
          unfold hunkSum at h1 ⊢
          simp only [List.map_cons, List.sum_cons, Rows.uptoBulkAll] at h1 ⊢
          omega
      exact hall _ fun i hi => List.mem_range.1 hi
    refine ⟨some a, len, cap, (List.range len).map F, rfl, ⟨by simp, fun hn => ?_⟩, hl, hm, by simp only [Rows.uptoBulk]; omega⟩
    obtain ⟨b, o, sp⟩ := a
    obtain ⟨ad0, c0, h0, _⟩ := (hF 0 hn).1
    have hsp : sp = none := by
      simpa [Addr.add] using World.cell?_spot h0
    subst hsp
    have hlt : b < W.heap.size := by
      rw [cell_add] at h0
      exact World.block_lt_of_cell? W _ h0
    refine ⟨b, o, rfl, hlt, fun i x hx => ?_⟩
    have hil : i < len := by
      have := (List.getElem?_eq_some_iff.1 hx).1
      simpa using this
    rw [List.getElem?_map, List.getElem?_range hil] at hx
    obtain rfl : F i = x := by simpa using hx
    obtain ⟨ad, c, h1, h2, h3⟩ := (hF i hil).1
    rw [cell_add] at h1 h2
    exact ⟨ad, c, h1, by rw [Nat.add_assoc]; exact h2, h3⟩
end Go.Proofs.YtnbihjocdlpplaaGreatDoor
