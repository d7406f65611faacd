/- Texts joined, one behind the other (DHunk, DHunkR, DPut). -/
import Derived.Test.YtnbihjocdlpplaaDoorDp05
/- Hunks and the rows of lines that wait: what lies where. -/
namespace Go.Proofs.YtnbihjocdlpplaaDoor
set_option linter.unusedVariables false
set_option linter.unusedSimpArgs false
open Go.RowKit
open Go.Lib
/-- a hunk's cells: its kind, its lines -/
abbrev HCell := Nat × Option Addr × Nat × Nat
def hkCells (h : HCell) : List Value := [.int .i64 (h.1 : Int), .slice h.2.1 h.2.2.1 h.2.2.2]
theorem hkCells_one (h : HCell) : ∀ u ∈ hkCells h, u.oneCell' = true := by
  intro u hu
  simp only [hkCells, List.mem_cons, List.not_mem_nil, or_false] at hu
  rcases hu with rfl | rfl <;> rfl
theorem infoHunk : (Tryd.prog.info? 80).map (fun i => (i.zero, i.size, i.bytes)) = some (some (.agg #[.int .i64 0, .slice none 0 0]), 2, 32) := by kernel_rfl
abbrev Wait := Value × List (List UInt8)
def nilV : Value := .slice none 0 0
structure SW (B : Nat) (w : World) (vo : Value) (hs : List HCell) (H : List Hk) (vals : List Wait) : Prop where
  own : w.ownsRow B 80 2 vo hs.length (hs.flatMap hkCells)
  len : hs.length = H.length
  each : ∀ (k : Nat) (h : HCell) (x : Hk), hs[k]? = some h → H[k]? = some x → h.1 = x.1 ∧ h.2.2.1 ≤ h.2.2.2 ∧ h.2.2.2 ≤ maxLen ∧ ReadsS w h.2.1 h.2.2.1 x.2 ∧ ∀ ad, h.2.1 = some ad → B ≤ ad.block ∧ (∃ cur, w.heap[ad.block]? = some (.cells cur 9 (0, 0))) ∧ ∀ p ∈ vals, p.1.ownBlock ≠ some ad.block
  strs : ∀ p ∈ vals, StrOwn B p.1 p.2 w
  apart : ∀ (i j : Nat) (p q : Wait), vals[i]? = some p → vals[j]? = some q → i ≠ j → p.1.ownBlock = none ∨ p.1.ownBlock ≠ q.1.ownBlock
  dist : ∀ (i j : Nat) (p q : HCell) (ad ad' : Addr), hs[i]? = some p → hs[j]? = some q → p.2.1 = some ad → q.2.1 = some ad' → ad.block = ad'.block → i = j
theorem own_slice_block {w : World} {B : Nat} {e : TypeId} {size n m c : Nat} {ad : Addr} {xs : List Value} (h : w.ownsRow B e size (.slice (some ad) n c) m xs) : Value.ownBlock (.slice (some ad) n c) = some ad.block := by
  rcases h.2 with ⟨h9, _⟩ | ⟨g, cap, cur, h9, _⟩
  · cases h9
  · cases h9; rfl
theorem SW.start (B : Nat) (w : World) (vals : List Wait) (h : ∀ p ∈ vals, p = (nilV, [])) : SW B w nilV [] [] vals :=
  ⟨World.ownsRow_nil _ _ _ _, rfl, fun k h x h1 => (by cases h1), fun p hp => by rw [h p hp]; exact World.ownsRow_nil _ _ _ _, fun i j p q hi hj hij => by rw [h p (List.mem_of_getElem? hi)]; exact .inl rfl, fun i j p q ad ad' h1 => by cases h1⟩
theorem own_block {w : World} {B : Nat} {e : TypeId} {size : Nat} {v : Value} {n : Nat} {xs : List Value} (h : w.ownsRow B e size v n xs) {b : Nat} (hb : v.ownBlock = some b) : B ≤ b ∧ ∃ cur, w.heap[b]? = some (.cells cur e (0, 0)) := by
  rcases h.2 with ⟨rfl, _⟩ | ⟨g, cap, cur, rfl, hB, hg, _⟩
  · cases hb
  · cases hb
    exact ⟨hB, cur, hg⟩
theorem own_apart_ty {w : World} {B B' : Nat} {e e' : TypeId} {size size' : Nat} {v v' : Value} {n n' : Nat} {xs xs' : List Value} (h : w.ownsRow B e size v n xs) (h' : w.ownsRow B' e' size' v' n' xs') (he : e ≠ e') : v.ownBlock = none ∨ v.ownBlock ≠ v'.ownBlock := by
  cases hb : v.ownBlock with
  | none => exact .inl rfl
  | some b =>
    refine .inr fun e1 => he ?_
    obtain ⟨_, c1, h1⟩ := own_block h hb
    obtain ⟨_, c2, h2⟩ := own_block h' e1.symm
    rw [h1] at h2
    cases h2
    rfl
theorem ReadsS.grown {w w' : World} {row : Option Nat} {a : Option Addr} {n : Nat} {L : List (List UInt8)} (h : ReadsS w a n L) (hg : w.grownBy w' row) (hne : ∀ ad, a = some ad → row ≠ some ad.block) : ReadsS w' a n L := by
  obtain ⟨hl, h⟩ := h
  refine ⟨hl, fun h0 => ?_⟩
  obtain ⟨b, off, ha, hb, hc⟩ := h h0
  refine ⟨b, off, ha, Nat.lt_of_lt_of_le hb hg.size, fun j hj => ?_⟩
  rw [World.cell?_of_block (hg.block b hb (fun e => hne _ ha e.symm))]
  exact hc j hj
theorem SW.keep {B : Nat} {w w' : World} {vo : Value} {hs : List HCell} {H : List Hk} {vals : List Wait} (h : SW B w vo hs H vals) (hb : Below w.heap.size w w') : SW B w' vo hs H vals := by
  refine ⟨own_below h.own hb, h.len, fun k c x h1 h2 => ?_, fun p hp => (h.strs p hp).below hb, h.apart, h.dist⟩
  obtain ⟨e1, e2, e3, e4, e5⟩ := h.each k c x h1 h2
  refine ⟨e1, e2, e3, e4.keep hb (Nat.le_refl _), fun ad had => ?_⟩
  obtain ⟨f1, ⟨cur, f2⟩, f3⟩ := e5 ad had
  exact ⟨f1, ⟨cur, (hb.block _ (Array.getElem?_eq_some_iff.1 f2).1).trans f2⟩, f3⟩
theorem mem_set {α : Type} {l : List α} {i : Nat} {a p : α} (h : p ∈ l.set i a) : p ∈ l ∨ p = a := List.mem_or_eq_of_mem_set h
theorem StrOwn.grown {B : Nat} {v : Value} {L : List (List UInt8)} {w w' : World} {row : Option Nat} (h : StrOwn B v L w) (hg : w.grownBy w' row) (hne : v.ownBlock = none ∨ v.ownBlock ≠ row) : StrOwn B v L w' := World.ownsRow.kept h hg hne
/-- a line more in one of the rows that wait -/
theorem SW.push {B : Nat} {w w' : World} {vo : Value} {hs : List HCell} {H : List Hk} {vals : List Wait} (h : SW B w vo hs H vals) (hB : B ≤ w.heap.size) {i : Nat} {v v' : Value} {L : List (List UInt8)} {x : List UInt8} (hi : vals[i]? = some (v, L)) (hp : AppPost w B 9 1 v L.length (L.map S1) [S1 x] v' w') :
    SW B w' vo hs H (vals.set i (v', L ++ [x])) ∧ B ≤ w'.heap.size := by
  obtain ⟨p1, p2, p3⟩ := hp
  have hmem : (v, L) ∈ vals := List.mem_of_getElem? hi
  have hvs : StrOwn B v L w := h.strs _ hmem
  have hil : i < vals.length := (List.getElem?_eq_some_iff.1 hi).1
  have hself : (vals.set i (v', L ++ [x]))[i]? = some (v', L ++ [x]) := List.getElem?_set_self hil
  have hnew : StrOwn B v' (L ++ [x]) w' := StrOwn.push p1
  -- the new block is apart from whatever stood and was apart from the old one
  have hfar : ∀ b, b < w.heap.size → v.ownBlock ≠ some b → v'.ownBlock ≠ some b := fun b hb hne e => by
    rcases p3 with p3 | p3
    · exact hne (p3 ▸ e)
    · have := p3 b e; omega
  refine ⟨⟨h.own.kept p2 (own_apart_ty h.own hvs (by decide)), h.len, fun k c y h1 h2 => ?_, fun p hp => ?_, fun i1 j1 p q hi1 hj1 hij => ?_, h.dist⟩, Nat.le_trans hB p2.size⟩
  · obtain ⟨e1, e2, e3, e4, e5⟩ := h.each k c y h1 h2
    refine ⟨e1, e2, e3, e4.grown p2 (fun ad had => (e5 ad had).2.2 _ hmem), fun ad had => ?_⟩
    obtain ⟨f1, ⟨cur, f2⟩, f3⟩ := e5 ad had
    have hlt := (Array.getElem?_eq_some_iff.1 f2).1
    refine ⟨f1, ⟨cur, (p2.block _ hlt (fun e => f3 _ hmem e.symm)).trans f2⟩, fun p hp => ?_⟩
    rcases mem_set hp with hp | rfl
    · exact f3 p hp
    · exact hfar _ hlt (f3 _ hmem)
  · obtain ⟨j, hj⟩ := List.mem_iff_getElem?.1 hp
    by_cases hji : j = i
    · subst hji
      rw [hself] at hj
      cases hj
      exact hnew
    · rw [List.getElem?_set_ne (Ne.symm hji)] at hj
      exact (h.strs p (List.mem_of_getElem? hj)).grown p2 (h.apart j i p _ hj hi hji)
  · have hone : ∀ (j : Nat) (q : Wait), j ≠ i → vals[j]? = some q → q.1.ownBlock = none ∨ q.1.ownBlock ≠ v'.ownBlock := fun j q hji hj => by
      cases hb : q.1.ownBlock with
      | none => exact .inl rfl
      | some b =>
        have hlt := ((h.strs q (List.mem_of_getElem? hj)).lt b hb).2
        have hne : v.ownBlock ≠ some b := fun e => by
          rcases h.apart j i q _ hj hi hji with h9 | h9
          · rw [hb] at h9; cases h9
          · exact h9 (hb.trans e.symm)
        exact .inr fun e => hfar b hlt hne e.symm
    by_cases hi2 : i1 = i
    · subst hi2
      rw [hself] at hi1
      cases hi1
      rw [List.getElem?_set_ne hij] at hj1
      rcases hone j1 q (Ne.symm hij) hj1 with h9 | h9
      · cases hb : v'.ownBlock with
        | none => exact .inl rfl
        | some b => exact .inr (by rw [h9]; simp)
      · exact .inr (Ne.symm h9)
    · rw [List.getElem?_set_ne (Ne.symm hi2)] at hi1
      by_cases hj2 : j1 = i
      · subst hj2
        rw [hself] at hj1
        cases hj1
        exact hone i1 p hi2 hi1
      · rw [List.getElem?_set_ne (Ne.symm hj2)] at hj1
        exact h.apart i1 j1 p q hi1 hj1 hij
/-- a row that waits is let go -/
theorem SW.drop {B : Nat} {w : World} {vo : Value} {hs : List HCell} {H : List Hk} {vals : List Wait} (h : SW B w vo hs H vals) (i : Nat) : SW B w vo hs H (vals.set i (nilV, [])) := by
  refine ⟨h.own, h.len, fun k c x h1 h2 => ?_, fun p hp => ?_, fun i1 j1 p q hi1 hj1 hij => ?_, h.dist⟩
  · obtain ⟨e1, e2, e3, e4, e5⟩ := h.each k c x h1 h2
    refine ⟨e1, e2, e3, e4, fun ad had => ⟨(e5 ad had).1, (e5 ad had).2.1, fun p hp => ?_⟩⟩
    rcases mem_set hp with hp | rfl
    · exact (e5 ad had).2.2 p hp
    · intro e; cases e
  · rcases mem_set hp with hp | rfl
    · exact h.strs p hp
    · exact World.ownsRow_nil _ _ _ _
  · rw [List.getElem?_set] at hi1 hj1
    by_cases hi2 : i = i1
    · rw [if_pos hi2] at hi1
      split at hi1
      · cases hi1; exact .inl rfl
      · cases hi1
    · rw [if_neg hi2] at hi1
      by_cases hj2 : i = j1
      · rw [if_pos hj2] at hj1
        split at hj1
        · cases hj1
          cases hb : p.1.ownBlock with
          | none => exact .inl rfl
          | some b => exact .inr (by show some b ≠ none; simp)
        · cases hj1
      · rw [if_neg hj2] at hj1
        exact h.apart i1 j1 p q hi1 hj1 hij
/-- a row that waits becomes a hunk's lines -/
theorem SW.hunk {B : Nat} {w w' : World} {vo vo' : Value} {hs : List HCell} {H : List Hk} {vals : List Wait} (h : SW B w vo hs H vals) (hB : B ≤ w.heap.size) {i k : Nat} {a : Option Addr} {n c c' : Nat} {L : List (List UInt8)} (hi : vals[i]? = some (.slice a n c, L)) (hc : n ≤ c' ∧ c' ≤ maxLen)
    (hp : AppPost w B 80 2 vo hs.length (hs.flatMap hkCells) (hkCells (k, a, n, c')) vo' w') :
    SW B w' vo' (hs ++ [(k, a, n, c')]) (H ++ [(k, L)]) (vals.set i (nilV, [])) ∧ B ≤ w'.heap.size := by
  obtain ⟨p1, p2, p3⟩ := hp
  have hmem : (.slice a n c, L) ∈ vals := List.mem_of_getElem? hi
  have hvs : StrOwn B (.slice a n c) L w := h.strs _ hmem
  have hil : i < vals.length := (List.getElem?_eq_some_iff.1 hi).1
  have hst : ∀ p ∈ vals, StrOwn B p.1 p.2 w' := fun p hp => (h.strs p hp).grown p2 (own_apart_ty (h.strs p hp) h.own (by decide))
  have hcur : ∀ (b : Nat) (cur : Array Value), w.heap[b]? = some (.cells cur 9 (0, 0)) → w'.heap[b]? = some (.cells cur 9 (0, 0)) := fun b cur hb => by
    rw [p2.block b (Array.getElem?_eq_some_iff.1 hb).1 (fun e => ?_)]
    · exact hb
    · obtain ⟨_, c2, h2⟩ := own_block h.own e.symm
      rw [hb] at h2
      cases h2
  refine ⟨⟨?_, by rw [List.length_append, List.length_append, h.len]; rfl, fun j hc2 y h1 h2 => ?_, fun p hp => ?_, fun i1 j1 p q hi1 hj1 hij => ?_, fun i1 j1 p q ad ad' hi1 hj1 had had' hbb => ?_⟩, Nat.le_trans hB p2.size⟩
  · rw [List.length_append, List.flatMap_append]
    simpa using p1
  · have hdrop := (h.drop i).each
    by_cases hj : j < hs.length
    · rw [List.getElem?_append_left hj] at h1
      rw [List.getElem?_append_left (by rw [← h.len]; exact hj)] at h2
      obtain ⟨e1, e2, e3, e4, e5⟩ := hdrop j hc2 y h1 h2
      refine ⟨e1, e2, e3, e4.grown p2 (fun ad had e => ?_), fun ad had => ?_⟩
      · obtain ⟨_, ⟨cur, f2⟩, _⟩ := e5 ad had
        obtain ⟨_, c2, h3⟩ := own_block h.own e
        rw [f2] at h3
        cases h3
      · obtain ⟨f1, ⟨cur, f2⟩, f3⟩ := e5 ad had
        exact ⟨f1, ⟨cur, hcur _ _ f2⟩, f3⟩
    · have hjl := (List.getElem?_eq_some_iff.1 h1).1
      rw [List.length_append, List.length_singleton] at hjl
      obtain rfl : j = hs.length := by omega
      rw [List.getElem?_concat_length] at h1
      rw [h.len, List.getElem?_concat_length] at h2
      cases h1
      cases h2
      have hvs2 : StrOwn B (.slice a n c) L w' := hst _ hmem
      obtain ⟨a', c9, he, g2, g3, g4⟩ := readsS_own hvs2
      cases he
      refine ⟨rfl, hc.1, hc.2, g2, fun ad had => ?_⟩
      have had : a = some ad := had
      subst had
      have hob : ∃ b, Value.ownBlock (.slice (some ad) L.length c) = some b := by
        rcases hvs.2 with ⟨h9, _⟩ | ⟨g, cap, cur, h9, _⟩
        · cases h9
        · cases h9; exact ⟨_, rfl⟩
      obtain ⟨b, hb⟩ := hob
      have hbb : b = ad.block := by
        simp only [Value.ownBlock] at hb
        first | exact (Option.some.inj hb).symm | (split at hb <;> simp_all)
      subst hbb
      obtain ⟨f1, cur, f2⟩ := own_block hvs hb
      refine ⟨f1, ⟨cur, hcur _ _ f2⟩, fun p hp => ?_⟩
      obtain ⟨j, hj⟩ := List.mem_iff_getElem?.1 hp
      by_cases hji : j = i
      · subst hji
        rw [List.getElem?_set_self hil] at hj
        cases hj
        intro e; cases e
      · rw [List.getElem?_set_ne (Ne.symm hji)] at hj
        intro e
        rcases h.apart j i p _ hj hi hji with h9 | h9
        · rw [e] at h9; cases h9
        · exact h9 (e.trans hb.symm)
  · rcases mem_set hp with hp | rfl
    · exact hst p hp
    · exact World.ownsRow_nil _ _ _ _
  · exact (h.drop i).apart i1 j1 p q hi1 hj1 hij
  · have hlast : ∀ (j : Nat) (q : HCell) (ad ad' : Addr), hs[j]? = some q → q.2.1 = some ad → a = some ad' → ad.block ≠ ad'.block := fun j q ad ad' hj had ha e => by
      subst ha
      obtain ⟨y, hy⟩ : ∃ y, H[j]? = some y := ⟨H[j]'(by have := (List.getElem?_eq_some_iff.1 hj).1; rw [← h.len]; exact this), by simp⟩
      refine ((h.each j q y hj hy).2.2.2.2 ad had).2.2 _ hmem ?_
      exact (own_slice_block hvs).trans (by rw [e])
    by_cases hi2 : i1 < hs.length
    · rw [List.getElem?_append_left hi2] at hi1
      by_cases hj2 : j1 < hs.length
      · rw [List.getElem?_append_left hj2] at hj1
        exact h.dist i1 j1 p q ad ad' hi1 hj1 had had' hbb
      · have hjl := (List.getElem?_eq_some_iff.1 hj1).1
        rw [List.length_append, List.length_singleton] at hjl
        obtain rfl : j1 = hs.length := by omega
        rw [List.getElem?_concat_length] at hj1
        cases hj1
        exact absurd hbb (hlast i1 p ad ad' hi1 had had')
    · have hil2 := (List.getElem?_eq_some_iff.1 hi1).1
      rw [List.length_append, List.length_singleton] at hil2
      obtain rfl : i1 = hs.length := by omega
      by_cases hj2 : j1 < hs.length
      · rw [List.getElem?_append_left hj2] at hj1
        rw [List.getElem?_concat_length] at hi1
        cases hi1
        exact absurd hbb.symm (hlast j1 q ad' ad hj1 had' had)
      · have hjl := (List.getElem?_eq_some_iff.1 hj1).1
        rw [List.length_append, List.length_singleton] at hjl
        omega
end Go.Proofs.YtnbihjocdlpplaaDoor
/- The reference's hunk. -/
namespace Go.Proofs.YtnbihjocdlpplaaDoor
set_option linter.unusedVariables false
set_option linter.unusedSimpArgs false
open Go.RowKit
open Go.Lib
theorem SW.slice {B : Nat} {w : World} {vo : Value} {hs : List HCell} {H : List Hk} {vals : List Wait} (h : SW B w vo hs H vals) {i : Nat} {v : Value} {L : List (List UInt8)} (hi : vals[i]? = some (v, L)) : ∃ a c, v = .slice a L.length c ∧ ReadsS w a L.length L ∧ L.length ≤ c ∧ c ≤ maxLen := by
  have hv : StrOwn B v L w := h.strs _ (List.mem_of_getElem? hi)
  obtain ⟨a, c, h1, h2, h3, h4⟩ := readsS_own hv
  exact ⟨a, c, h1, h2, h3, h4⟩
theorem AppPost.below {w w' : World} {B : Nat} {e : TypeId} {size n : Nat} {v v' : Value} {xs cs : List Value} (hp : AppPost w B e size v n xs cs v' w') (hown : w.ownsRow B e size v n xs) (hB : B ≤ w.heap.size) : Below B w w' :=
  (Below.refl B w).grown hp.2.1 hB (fun k hk => (hown.lt k hk).1)
set_option maxHeartbeats 4000000 in
theorem hunkR (w : World) (B : Nat) (vo v : Value) (hs : List HCell) (H : List Hk) (vals : List Wait) (i k : Nat) (L : List (List UInt8)) (h : SW B w vo hs H vals) (hB : B ≤ w.heap.size) (hi : vals[i]? = some (v, L)) (hH : H.length ≤ 1048576) :
    Calls Tryd.prog 46 #[vo, .int .i64 (k : Int), v] w fun e w' => ∃ vo' hs', e = .returned vo' ∧ SW B w' vo' hs' (putK k L H) (vals.set i (nilV, [])) ∧ B ≤ w'.heap.size ∧ Below B w w' := by
  obtain ⟨a, c, rfl, hr, hc1, hc2⟩ := h.slice hi
  have HS := Lib.hid h
  obtain ⟨n, hn⟩ : ∃ n, L.length = n := ⟨_, rfl⟩
  rw [hn] at hc1 hi hr ⊢
  have hcm : c ≤ 9223372036854775807 := by unfold maxLen at hc2; omega
  have hhl : hs.length ≤ 1048576 := by rw [h.len]; exact hH
  by_cases h0 : n = 0
  · subst h0
    have hL : L = [] := List.eq_nil_of_length_eq_zero hn
    clear hn h hr hi
    go_enter Tryd.func46, Tryd.ntmps46
    go_wp2
    go_ret
    refine ⟨vo, hs, rfl, ?_, hB, Below.refl _ _⟩
    rw [hL]
    exact HS.out.drop i
  · have hL : L ≠ [] := by rintro rfl; exact h0 hn.symm
    have hpk : putK k L H = H ++ [(k, L)] := by unfold putK; rw [if_neg hL]
    rw [hpk]
    have h0' : (n : Int) ≠ 0 := by omega
    have HI := Lib.hid hi
    have HC := Lib.hid (⟨hc1, hc2⟩ : n ≤ c ∧ c ≤ maxLen)
    clear hpk hL hn h hr hi h0
    go_enter Tryd.func46, Tryd.ntmps46
    go_wp2_with (at_builtin; refine appSep rfl _ _ rfl Tryd.underlying22 (.agg #[.int .i64 0, .slice none 0 0]) 2 32 infoHunk rfl (by decide) (by decide) B w vo hs.length (hs.flatMap hkCells) (hkCells (k, a, n, c)) rfl (hkCells_one _) rfl HS.out.own rfl rfl (by omega) hB ?_; intro v8 w8 hp8; have HP := Lib.hid hp8; clear hp8)
    go_ret
    obtain ⟨r1, r2⟩ := HS.out.hunk hB HI.out HC.out HP.out
    exact ⟨v8, _, rfl, r1, r2, HP.out.below HS.out.own hB⟩
end Go.Proofs.YtnbihjocdlpplaaDoor
/- The program's writer: put. -/
namespace Go.Proofs.YtnbihjocdlpplaaDoor
set_option linter.unusedVariables false
set_option linter.unusedSimpArgs false
open Go.RowKit
open Go.Lib
theorem clipC (w : World) (a : Option Addr) (n c : Nat) (hn : n ≤ c) (hc : c ≤ 9223372036854775807) : Calls Tryd.prog 67 #[.slice a n c] w fun e w' => e = .returned (.slice a n n) ∧ w = w' := by
  have h1 : (n : Int) ≤ (c : Int) := by omega
  go_enter Tryd.func67, Tryd.ntmps67
  go_wp2
  go_ret
  exact ⟨rfl, rfl⟩
theorem clipH (w : World) (a : Option Addr) (n c : Nat) (hn : n ≤ c) (hc : c ≤ 9223372036854775807) : Calls Tryd.prog 68 #[.slice a n c] w fun e w' => e = .returned (.slice a n n) ∧ w = w' := by
  have h1 : (n : Int) ≤ (c : Int) := by omega
  go_enter Tryd.func68, Tryd.ntmps68
  go_wp2
  go_ret
  exact ⟨rfl, rfl⟩
theorem SW.other {B p : Nat} {w w' : World} {vo : Value} {hs : List HCell} {H : List Hk} {vals : List Wait} (h : SW B w vo hs H vals) (hg : w.grownBy w' (some p)) (hp : p < B) : SW B w' vo hs H vals := by
  have hno : ∀ {e : TypeId} {size : Nat} {v : Value} {n : Nat} {xs : List Value}, w.ownsRow B e size v n xs → v.ownBlock = none ∨ v.ownBlock ≠ some p := fun ho => .inr fun e => by
    have := (ho.lt p e).1
    omega
  refine ⟨h.own.kept hg (hno h.own), h.len, fun k c x h1 h2 => ?_, fun q hq => (h.strs q hq).grown hg (hno (h.strs q hq)), h.apart, h.dist⟩
  obtain ⟨e1, e2, e3, e4, e5⟩ := h.each k c x h1 h2
  have hne : ∀ ad, c.2.1 = some ad → some p ≠ some ad.block := fun ad had e => by
    have := (e5 ad had).1
    cases e
    omega
  refine ⟨e1, e2, e3, e4.grown hg hne, fun ad had => ?_⟩
  obtain ⟨f1, ⟨cur, f2⟩, f3⟩ := e5 ad had
  exact ⟨f1, ⟨cur, (hg.block _ (Array.getElem?_eq_some_iff.1 f2).1 (fun e => hne ad had e.symm)).trans f2⟩, f3⟩
/-- the frame of what writes block p and what lies from B on -/
def KB (B p : Nat) (w w' : World) : Prop := Below 0 w w' ∧ ∀ k, k < B → k < w.heap.size → k ≠ p → w'.heap[k]? = w.heap[k]?
theorem KB.refl (B p : Nat) (w : World) : KB B p w w := ⟨Below.refl _ _, fun _ _ _ _ => rfl⟩
theorem KB.trans {B p : Nat} {w w1 w2 : World} (h : KB B p w w1) (h' : KB B p w1 w2) : KB B p w w2 :=
  ⟨h.1.trans h'.1, fun k hk hs hp => (h'.2 k hk (Nat.lt_of_lt_of_le hs h.1.size) hp).trans (h.2 k hk hs hp)⟩
theorem KB.of {B p B' : Nat} {w w' : World} (h : Below B' w w') (hB : B ≤ B' ∨ w.heap.size ≤ B') : KB B p w w' := by
  refine ⟨h.mono (Nat.zero_le _), fun k hk hs _ => h.block k ?_⟩
  rcases hB with hB | hB <;> omega
theorem KB.set {B p : Nat} {w w' : World} (h : KB B p w w') (k : Nat) (sp : Option Nat) (v : Value) : KB B p w (w'.setCell ⟨p, k, sp⟩ v) :=
  ⟨h.1.setCell (Nat.zero_le _) _, fun j hj hs hp => (Below.heap_setCell _ _ _ _ hp).trans (h.2 j hj hs hp)⟩
theorem KB.below {B p C : Nat} {w w' : World} (h : KB B p w w') (hB : C ≤ B) (hp : C ≤ p) (hs : C ≤ w.heap.size) : Below C w w' :=
  ⟨h.1.os, h.1.tape, h.1.output, h.1.size, fun k hk => h.2 k (by omega) (by omega) (by omega)⟩
theorem KB.row {B p : Nat} {w w' : World} (h : KB B p w w') {g : Nat} {e : TypeId} {xs : List Value} (hr : Row w g e xs) (hB : g < B) (hp : g ≠ p) : Row w' g e xs :=
  (h.2 g hB hr.lt hp).trans hr
/-- the writer: one block below what it owns -/
structure WW (B : Nat) (w : World) (p : Nat) (hs : List HCell) (H : List Hk) (vo : Value) (vals : List Wait) : Prop where
  row : Row w p 68 (vo :: vals.map (·.1))
  lt : p < B
  size : B ≤ w.heap.size
  sw : SW B w vo hs H vals
  clip : ∀ h ∈ hs, h.2.2.1 = h.2.2.2
theorem clip_snoc {hs : List HCell} {k n : Nat} {a : Option Addr} (h : ∀ h ∈ hs, h.2.2.1 = h.2.2.2) : ∀ h ∈ hs ++ [(k, a, n, n)], h.2.2.1 = h.2.2.2 := by
  intro x hx
  rcases List.mem_append.1 hx with hx | hx
  · exact h x hx
  · rw [List.mem_singleton.1 hx]
/-- what a put leaves alone, and which blocks it owns behind it -/
def Sep (p : Nat) (w w' : World) (vo vo' v v' : Value) : Prop :=
  (∀ k, k < w.heap.size → k ≠ p → vo.ownBlock ≠ some k → w'.heap[k]? = w.heap[k]?) ∧ (∀ k, vo'.ownBlock = some k → vo.ownBlock = some k ∨ w.heap.size ≤ k) ∧ (∀ k, v'.ownBlock = some k → v.ownBlock = some k)
theorem Sep.refl (p : Nat) (w : World) (vo v : Value) : Sep p w w vo vo v v := ⟨fun _ _ _ _ => rfl, fun _ h => .inl h, fun _ h => h⟩
theorem sep_put {p B i : Nat} {w w8 : World} {vo v8 v x : Value} {e : TypeId} {size n : Nat} {xs cs : List Value} (hp : AppPost w.drew B e size vo n xs cs v8 w8) : Sep p w ((w8.setCell ⟨p, 0, none⟩ x).setCell ⟨p, i, none⟩ nilV) vo v8 v nilV := by
  refine ⟨fun k hk hkp hvo => ?_, fun k hk => ?_, fun k hk => by cases hk⟩
  · rw [Below.heap_setCell _ _ _ _ hkp, Below.heap_setCell _ _ _ _ hkp]
    exact hp.2.1.block k hk (fun e => hvo e.symm)
  · rcases hp.2.2 with h | h
    · exact .inl (h ▸ hk)
    · exact .inr (h k hk)
set_option maxHeartbeats 8000000 in
set_option maxRecDepth 100000 in
theorem putC (w : World) (B p : Nat) (hs : List HCell) (H : List Hk) (vo v : Value) (vals : List Wait) (i k : Nat) (L : List (List UInt8)) (h : WW B w p hs H vo vals) (hi : vals[i]? = some (v, L)) (hH : H.length ≤ 1048576) :
    Calls Tryd.prog 74 #[.pointer (some ⟨p, 0, none⟩), .int .i64 (k : Int), .pointer (some ⟨p, i + 1, none⟩)] w fun e w' => (∃ u, e = .returned u) ∧ ∃ vo' hs' v', WW B w' p hs' (putK k L H) vo' (vals.set i (v', [])) ∧ KB B p w w' ∧ Sep p w w' vo vo' v v' := by
  obtain ⟨a, c, rfl, hr, hc1, hc2⟩ := h.sw.slice hi
  have HW := Lib.hid h
  obtain ⟨n, hn⟩ : ∃ n, L.length = n := ⟨_, rfl⟩
  rw [hn] at hc1 hi hr
  have hcm : c ≤ 9223372036854775807 := by unfold maxLen at hc2; omega
  have hhl : hs.length ≤ 1048576 := by rw [h.sw.len]; exact hH
  have e0 : w.cell? ⟨p, 0, none⟩ = some vo := h.row.cell 0
  have e1 : w.cell? ⟨p, i + 1, none⟩ = some (.slice a n c) := by rw [h.row.cell]; simp [hi]
  have f0 : w.frozen? ⟨p, 0, none⟩ = false := h.row.frozen 0
  have f1 : w.frozen? ⟨p, i + 1, none⟩ = false := h.row.frozen (i + 1)
  obtain ⟨i1, hi1⟩ : ∃ i1, i + 1 = i1 := ⟨_, rfl⟩
  rw [hi1] at e1 f1 ⊢
  by_cases h0 : n = 0
  · subst h0
    have hL : L = [] := List.eq_nil_of_length_eq_zero hn
    have HI := Lib.hid hi1
    have HI2 := Lib.hid hi
    clear hn h hr hi hi1
    go_enter Tryd.func74, Tryd.ntmps74
    go_wp2
    refine bodyPost_end (results_none rfl _ _ _) rfl ?_
    refine ⟨⟨_, rfl⟩, vo, hs, .slice a 0 c, ?_, KB.refl _ _ _, by rw [hL]; exact Sep.refl _ _ _ _⟩
    have hset : vals.set i (.slice a 0 c, []) = vals := by
      apply List.ext_getElem?
      intro j
      by_cases hj : j = i
      · subst hj
        rw [List.getElem?_set_self (List.getElem?_eq_some_iff.1 HI2.out).1, HI2.out, hL]
      · rw [List.getElem?_set_ne (Ne.symm hj)]
    rw [hset, hL]
    exact HW.out
  · have hL : L ≠ [] := by rintro rfl; exact h0 hn.symm
    have hpk : putK k L H = H ++ [(k, L)] := by unfold putK; rw [if_neg hL]
    rw [hpk]
    have h0' : 0 < (n : Int) := by omega
    have HI2 := Lib.hid hi
    have HI := Lib.hid hi1
    have HC := Lib.hid hc1
    have HM := Lib.hid hc2
    have hne : 0 < i1 := by omega
    have hnx : p < w.heap.size := h.row.lt
    have hkeep : ∀ W, Below w.heap.size w W → W.cell? ⟨p, 0, none⟩ = some vo ∧ W.cell? ⟨p, i1, none⟩ = some (.slice a n c) := fun W hW => by
      rw [hW.cell (p := ⟨p, 0, none⟩) hnx, hW.cell (p := ⟨p, i1, none⟩) hnx]
      exact ⟨e0, e1⟩
    have HK := Lib.hid hkeep
    clear hpk hL hn h hr hi h0 hi1 hkeep hc2
    go_enter Tryd.func74, Tryd.ntmps74
    go_wp2
    have B0 : Below w.heap.size w w.drew := (Below.refl _ w).drew
    obtain ⟨d0, d1⟩ := HK.out _ B0
    have HW1 : Hid (SW B w.drew vo hs H vals) := Lib.hid (HW.out.sw.keep B0)
    have hap : ∀ v8 w8, AppPost w.drew B 80 2 vo hs.length (hs.flatMap hkCells) (hkCells (k, a, n, n)) v8 w8 → w8.cell? ⟨p, i1, none⟩ = some (.slice a n c) ∧ w8.cell? ⟨p, 0, none⟩ = some vo ∧ w8.frozen? ⟨p, 0, none⟩ = false ∧ w8.frozen? ⟨p, i1, none⟩ = false ∧ (∃ g8 cap8, v8 = .slice (some ⟨g8, 0, none⟩) (hs.length + 1) cap8) := fun v8 w8 hp8 => by
      have hb := hp8.below HW1.out.own HW.out.size
      have hr : Row w8 p 68 (vo :: vals.map (·.1)) := (HW.out.row.keep B0 hnx).keep hb HW.out.lt
      obtain ⟨g8, cap8, hv⟩ : ∃ g8 cap8, v8 = .slice (some ⟨g8, 0, none⟩) (hs.length + 1) cap8 := by
        rcases hp8.1.2 with ⟨q1, q2⟩ | ⟨g, cap, cur, hv, _⟩
        · omega
        · exact ⟨g, cap, hv⟩
      refine ⟨(hr.cell i1).trans ?_, hr.cell 0, hr.frozen 0, hr.frozen i1, g8, cap8, hv⟩
      rw [← HI.out]
      simp [HI2.out]
    have HAP := Lib.hid hap
    clear hap
    refine wp_region_held_drew (S := (fun w' : World => w'.cell? ⟨p, i1, none⟩ = some (.slice a n c))) (by kernel_rfl) d1 (fun hS0 => ?_)
    refine wpAnyH_take (i := 0) (v := ?v0x1) rfl (by kernel_rfl) (by kernel_rfl) (by kernel_rfl) (fun _ _ _ h => h) (Or.inl ⟨by rfl, ?y0x1⟩) hS0 ?r0x1
    case y0x1 => (intro w2 hSw; go_simp; try with_reducible rfl)
    try simp only [Act.put, List.setIfInBounds_toArray, List.set_cons_zero, List.set_cons_succ]
    refine wpAnyH_take (i := 1) (v := ?v1x2) rfl (by kernel_rfl) (by kernel_rfl) (by kernel_rfl) (fun _ _ _ h => h) (Or.inl ⟨by rfl, ?y1x2⟩) hS0 ?r1x2
    case y1x2 => (intro w2 hSw; go_simp; try with_reducible rfl)
    try simp only [Act.put, List.setIfInBounds_toArray, List.set_cons_zero, List.set_cons_succ]
    refine wpAnyH_take (i := 2) (v := ?v2x3) rfl (by kernel_rfl) (by kernel_rfl) (by kernel_rfl) (fun _ _ _ h => h) (Or.inl ⟨by rfl, ?y2x3⟩) hS0 ?r2x3
    case y2x3 => (intro w2 hSw; go_simp; try with_reducible rfl)
    try simp only [Act.put, List.setIfInBounds_toArray, List.set_cons_zero, List.set_cons_succ]
    refine wpAnyH_take (i := 3) (v := ?v3x4) rfl (by kernel_rfl) (by kernel_rfl) (by kernel_rfl) (fun _ _ _ h => h) (Or.inl ⟨by rfl, ?y3x4⟩) hS0 ?r3x4
    case y3x4 => (intro w2 hSw; go_simp; try with_reducible rfl)
    try simp only [Act.put, List.setIfInBounds_toArray, List.set_cons_zero, List.set_cons_succ]
    refine wpAnyH_take (i := 5) (v := ?v5x5) rfl (by kernel_rfl) (by kernel_rfl) (by kernel_rfl) (fun _ _ _ h => h) (Or.inl ⟨by rfl, ?y5x5⟩) hS0 ?r5x5
    case y5x5 => (intro w2 hSw; go_simp; try with_reducible rfl)
    try simp only [Act.put, List.setIfInBounds_toArray, List.set_cons_zero, List.set_cons_succ]
    refine wpAnyH_take (i := 6) (v := ?v6x6) rfl (by kernel_rfl) (by kernel_rfl) (by kernel_rfl) (fun _ _ _ h => h) (Or.inl ⟨by rfl, ?y6x6⟩) hS0 ?r6x6
    case y6x6 => (intro w2 hSw; go_simp; try with_reducible rfl)
    try simp only [Act.put, List.setIfInBounds_toArray, List.set_cons_zero, List.set_cons_succ]
    refine wpAnyH_take (i := 7) (v := ?v7x7) rfl (by kernel_rfl) (by kernel_rfl) (by kernel_rfl) (fun _ _ _ h => h) (Or.inl ⟨by rfl, ?y7x7⟩) hS0 ?r7x7
    case y7x7 => (intro w2 hSw; go_simp; try with_reducible rfl)
    try simp only [Act.put, List.setIfInBounds_toArray, List.set_cons_zero, List.set_cons_succ]
    refine wpAnyH_take (i := 8) (v := ?v8x8) rfl (by kernel_rfl) (by kernel_rfl) (by kernel_rfl) (fun _ _ _ h => h) (Or.inl ⟨by rfl, ?y8x8⟩) hS0 ?r8x8
    case y8x8 => (intro w2 hSw; go_simp; try with_reducible rfl)
    try simp only [Act.put, List.setIfInBounds_toArray, List.set_cons_zero, List.set_cons_succ]
    refine wpAnyH_ready (rs := [4, 9]) (by kernel_rfl) (by simp) (AllReadyH.cons rfl (fun K' hK => ?p4) (AllReadyH.cons rfl (fun K' hK => ?p9) AllReadyH.nil))
    case p4 =>
      go_simp
      refine hK.out _ _ d1 (fun hSn => ?_)
      try simp only [Act.put, List.setIfInBounds_toArray, List.set_cons_zero, List.set_cons_succ]
      clear hK K'
      refine wpAnyH_ready (rs := [9]) (by kernel_rfl) (by simp) (AllReadyH.cons rfl (fun K' hK => ?_) AllReadyH.nil)
      go_simp
      refine (clipC _ a n c HC.out hcm).mono ?_
      rintro e w3 ⟨rfl, rfl⟩
      show K' _ _
      refine hK.out _ _ d1 (fun hSn => ?_)
      try simp only [Act.put, List.setIfInBounds_toArray, List.set_cons_zero, List.set_cons_succ]
      clear hK K'
      refine wpAnyH_take (i := 10) (v := ?v10x9) rfl (by kernel_rfl) (by kernel_rfl) (by kernel_rfl) (fun _ _ _ h => h) (Or.inl ⟨by rfl, ?y10x9⟩) d1 ?r10x9
      case y10x9 => (intro w2 hSw; go_simp; try with_reducible rfl)
      try simp only [Act.put, List.setIfInBounds_toArray, List.set_cons_zero, List.set_cons_succ]
      refine wpAnyH_ready (rs := [11]) (by kernel_rfl) (by simp) (AllReadyH.cons rfl (fun K' hK => ?_) AllReadyH.nil)
      go_simp
      refine hK.out _ _ (HK.out _ (((Below.refl _ w).drew).alloc (by simp) _)).2 (fun hSn => ?_)
      try simp only [Act.put, List.setIfInBounds_toArray, List.set_cons_zero, List.set_cons_succ]
      clear hK K'
      refine wpAnyH_ready (rs := [12]) (by kernel_rfl) (by simp) (AllReadyH.cons rfl (fun K' hK => ?_) AllReadyH.nil)
      refine stepSep (by rfl) _ _ (by rfl) Tryd.underlying22 (.agg #[.int .i64 0, .slice none 0 0]) 2 32 infoHunk (by rfl) (by decide) (by decide) B w.drew vo hs.length (hs.flatMap hkCells) (hkCells (k, a, n, n)) (by rfl) (hkCells_one _) (by rfl) HW1.out.own (by rfl) (by rfl) (by omega) HW.out.size ?_
      intro v8 w8 hp8
      obtain ⟨x1, x2, x3, x4, g8, cap8, hv8⟩ := HAP.out v8 w8 hp8
      have HP8 := Lib.hid hp8
      subst hv8
      clear hp8
      refine hK.out _ _ x1 (fun hSn => ?_)
      try simp only [Act.put, List.setIfInBounds_toArray, List.set_cons_zero, List.set_cons_succ]
      clear hK K'
      refine wpAnyH_take (i := 13) (v := ?v13x10) rfl (by kernel_rfl) (by kernel_rfl) (by kernel_rfl) (fun _ _ _ h => h) (Or.inl ⟨by rfl, ?y13x10⟩) x1 ?r13x10
      case y13x10 => (intro w2 hSw; go_simp; try with_reducible rfl)
      try simp only [Act.put, List.setIfInBounds_toArray, List.set_cons_zero, List.set_cons_succ]
      refine wpAnyH_take (i := 14) (v := ?v14x11) rfl (by kernel_rfl) (by kernel_rfl) (by kernel_rfl) (fun _ _ _ h => h) (Or.inl ⟨by rfl, ?y14x11⟩) x1 ?r14x11
      case y14x11 => (intro w2 hSw; go_simp; try with_reducible rfl)
      try simp only [Act.put, List.setIfInBounds_toArray, List.set_cons_zero, List.set_cons_succ]
      refine wpAnyH_ready (rs := [15]) (by kernel_rfl) (by simp) (AllReadyH.cons rfl (fun K' hK => ?_) AllReadyH.nil)
      go_simp
      refine hK.out _ _ ((World.cell?_setCell_other _ _ _ _ (by intro h; simp only [Addr.mk.injEq] at h; omega)).trans x1) (fun hSn => ?_)
      try simp only [Act.put, List.setIfInBounds_toArray, List.set_cons_zero, List.set_cons_succ]
      clear hK K'
      refine wpAnyH_done (by kernel_rfl) ?_ _
      have y1 : (w8.setCell ⟨p, 0, none⟩ (.slice (some ⟨g8, 0, none⟩) (hs.length + 1) cap8)).cell? ⟨p, i1, none⟩ = some (.slice a n c) := (World.cell?_setCell_other _ _ _ _ (by intro h; simp only [Addr.mk.injEq] at h; omega)).trans x1
      go_wp2
      refine bodyPost_end (results_none rfl _ _ _) rfl ?_
      have hr : Row w8 p 68 (vo :: vals.map (·.1)) := (HW.out.row.keep B0 hnx).keep (HP8.out.below HW1.out.own HW.out.size) HW.out.lt
      obtain ⟨r1, r2⟩ := HW1.out.hunk HW.out.size HI2.out ⟨Nat.le_refl _, Nat.le_trans HC.out HM.out⟩ HP8.out
      have hg9 : w8.grownBy ((w8.setCell ⟨p, 0, none⟩ (.slice (some ⟨g8, 0, none⟩) (hs.length + 1) cap8)).setCell ⟨p, i1, none⟩ (.slice none 0 0)) (some p) := grownBy_trans (grownBy_setCell _ _ _ _) (grownBy_setCell _ _ _ _)
      refine ⟨⟨_, rfl⟩, _, _, nilV, ⟨?_, HW.out.lt, Nat.le_trans r2 hg9.size, r1.other hg9 HW.out.lt, clip_snoc HW.out.clip⟩, ?_⟩
      · have h9 := (hr.set 0 (.slice (some ⟨g8, 0, none⟩) (hs.length + 1) cap8)).set i1 (.slice none 0 0)
        rw [← HI.out] at h9 ⊢
        simpa [nilV] using h9
      · have hb := HP8.out.below HW1.out.own HW.out.size
        exact ⟨((KB.of (((Below.refl B w).drew).trans hb) (.inl (Nat.le_refl _))).set _ _ _).set _ _ _, sep_put HP8.out⟩
    case p9 =>
      go_simp
      refine (clipC _ a n c HC.out hcm).mono ?_
      rintro e w3 ⟨rfl, rfl⟩
      show K' _ _
      refine hK.out _ _ d1 (fun hSn => ?_)
      try simp only [Act.put, List.setIfInBounds_toArray, List.set_cons_zero, List.set_cons_succ]
      clear hK K'
      refine wpAnyH_take (i := 10) (v := ?v10x12) rfl (by kernel_rfl) (by kernel_rfl) (by kernel_rfl) (fun _ _ _ h => h) (Or.inl ⟨by rfl, ?y10x12⟩) d1 ?r10x12
      case y10x12 => (intro w2 hSw; go_simp; try with_reducible rfl)
      try simp only [Act.put, List.setIfInBounds_toArray, List.set_cons_zero, List.set_cons_succ]
      refine wpAnyH_ready (rs := [4, 11]) (by kernel_rfl) (by simp) (AllReadyH.cons rfl (fun K' hK => ?q4) (AllReadyH.cons rfl (fun K' hK => ?q11) AllReadyH.nil))
      case q4 =>
        go_simp
        refine hK.out _ _ d1 (fun hSn => ?_)
        try simp only [Act.put, List.setIfInBounds_toArray, List.set_cons_zero, List.set_cons_succ]
        clear hK K'
        refine wpAnyH_ready (rs := [11]) (by kernel_rfl) (by simp) (AllReadyH.cons rfl (fun K' hK => ?_) AllReadyH.nil)
        go_simp
        refine hK.out _ _ (HK.out _ (((Below.refl _ w).drew).alloc (by simp) _)).2 (fun hSn => ?_)
        try simp only [Act.put, List.setIfInBounds_toArray, List.set_cons_zero, List.set_cons_succ]
        clear hK K'
        refine wpAnyH_ready (rs := [12]) (by kernel_rfl) (by simp) (AllReadyH.cons rfl (fun K' hK => ?_) AllReadyH.nil)
        refine stepSep (by rfl) _ _ (by rfl) Tryd.underlying22 (.agg #[.int .i64 0, .slice none 0 0]) 2 32 infoHunk (by rfl) (by decide) (by decide) B w.drew vo hs.length (hs.flatMap hkCells) (hkCells (k, a, n, n)) (by rfl) (hkCells_one _) (by rfl) HW1.out.own (by rfl) (by rfl) (by omega) HW.out.size ?_
        intro v8 w8 hp8
        obtain ⟨x1, x2, x3, x4, g8, cap8, hv8⟩ := HAP.out v8 w8 hp8
        have HP8 := Lib.hid hp8
        subst hv8
        clear hp8
        refine hK.out _ _ x1 (fun hSn => ?_)
        try simp only [Act.put, List.setIfInBounds_toArray, List.set_cons_zero, List.set_cons_succ]
        clear hK K'
        refine wpAnyH_take (i := 13) (v := ?v13x13) rfl (by kernel_rfl) (by kernel_rfl) (by kernel_rfl) (fun _ _ _ h => h) (Or.inl ⟨by rfl, ?y13x13⟩) x1 ?r13x13
        case y13x13 => (intro w2 hSw; go_simp; try with_reducible rfl)
        try simp only [Act.put, List.setIfInBounds_toArray, List.set_cons_zero, List.set_cons_succ]
        refine wpAnyH_take (i := 14) (v := ?v14x14) rfl (by kernel_rfl) (by kernel_rfl) (by kernel_rfl) (fun _ _ _ h => h) (Or.inl ⟨by rfl, ?y14x14⟩) x1 ?r14x14
        case y14x14 => (intro w2 hSw; go_simp; try with_reducible rfl)
        try simp only [Act.put, List.setIfInBounds_toArray, List.set_cons_zero, List.set_cons_succ]
        refine wpAnyH_ready (rs := [15]) (by kernel_rfl) (by simp) (AllReadyH.cons rfl (fun K' hK => ?_) AllReadyH.nil)
        go_simp
        refine hK.out _ _ ((World.cell?_setCell_other _ _ _ _ (by intro h; simp only [Addr.mk.injEq] at h; omega)).trans x1) (fun hSn => ?_)
        try simp only [Act.put, List.setIfInBounds_toArray, List.set_cons_zero, List.set_cons_succ]
        clear hK K'
        refine wpAnyH_done (by kernel_rfl) ?_ _
        have y1 : (w8.setCell ⟨p, 0, none⟩ (.slice (some ⟨g8, 0, none⟩) (hs.length + 1) cap8)).cell? ⟨p, i1, none⟩ = some (.slice a n c) := (World.cell?_setCell_other _ _ _ _ (by intro h; simp only [Addr.mk.injEq] at h; omega)).trans x1
        go_wp2
        refine bodyPost_end (results_none rfl _ _ _) rfl ?_
        have hr : Row w8 p 68 (vo :: vals.map (·.1)) := (HW.out.row.keep B0 hnx).keep (HP8.out.below HW1.out.own HW.out.size) HW.out.lt
        obtain ⟨r1, r2⟩ := HW1.out.hunk HW.out.size HI2.out ⟨Nat.le_refl _, Nat.le_trans HC.out HM.out⟩ HP8.out
        have hg9 : w8.grownBy ((w8.setCell ⟨p, 0, none⟩ (.slice (some ⟨g8, 0, none⟩) (hs.length + 1) cap8)).setCell ⟨p, i1, none⟩ (.slice none 0 0)) (some p) := grownBy_trans (grownBy_setCell _ _ _ _) (grownBy_setCell _ _ _ _)
        refine ⟨⟨_, rfl⟩, _, _, nilV, ⟨?_, HW.out.lt, Nat.le_trans r2 hg9.size, r1.other hg9 HW.out.lt, clip_snoc HW.out.clip⟩, ?_⟩
        · have h9 := (hr.set 0 (.slice (some ⟨g8, 0, none⟩) (hs.length + 1) cap8)).set i1 (.slice none 0 0)
          rw [← HI.out] at h9 ⊢
          simpa [nilV] using h9
        · have hb := HP8.out.below HW1.out.own HW.out.size
          exact ⟨((KB.of (((Below.refl B w).drew).trans hb) (.inl (Nat.le_refl _))).set _ _ _).set _ _ _, sep_put HP8.out⟩
      case q11 =>
        go_simp
        refine hK.out _ _ (HK.out _ (((Below.refl _ w).drew).alloc (by simp) _)).2 (fun hSn => ?_)
        try simp only [Act.put, List.setIfInBounds_toArray, List.set_cons_zero, List.set_cons_succ]
        clear hK K'
        refine wpAnyH_ready (rs := [4]) (by kernel_rfl) (by simp) (AllReadyH.cons rfl (fun K' hK => ?_) AllReadyH.nil)
        have d4 := (HK.out (w.drew.alloc (.cells (hkCells (k, a, n, n)).toArray 80)) (((Below.refl _ w).drew).alloc (by simp) _)).1
        unfold hkCells at d4
        go_simp
        refine hK.out _ _ (HK.out _ (((Below.refl _ w).drew).alloc (by simp) _)).2 (fun hSn => ?_)
        try simp only [Act.put, List.setIfInBounds_toArray, List.set_cons_zero, List.set_cons_succ]
        clear hK K'
        refine wpAnyH_ready (rs := [12]) (by kernel_rfl) (by simp) (AllReadyH.cons rfl (fun K' hK => ?_) AllReadyH.nil)
        refine stepSep (by rfl) _ _ (by rfl) Tryd.underlying22 (.agg #[.int .i64 0, .slice none 0 0]) 2 32 infoHunk (by rfl) (by decide) (by decide) B w.drew vo hs.length (hs.flatMap hkCells) (hkCells (k, a, n, n)) (by rfl) (hkCells_one _) (by rfl) HW1.out.own (by rfl) (by rfl) (by omega) HW.out.size ?_
        intro v8 w8 hp8
        obtain ⟨x1, x2, x3, x4, g8, cap8, hv8⟩ := HAP.out v8 w8 hp8
        have HP8 := Lib.hid hp8
        subst hv8
        clear hp8
        refine hK.out _ _ x1 (fun hSn => ?_)
        try simp only [Act.put, List.setIfInBounds_toArray, List.set_cons_zero, List.set_cons_succ]
        clear hK K'
        refine wpAnyH_take (i := 13) (v := ?v13x15) rfl (by kernel_rfl) (by kernel_rfl) (by kernel_rfl) (fun _ _ _ h => h) (Or.inl ⟨by rfl, ?y13x15⟩) x1 ?r13x15
        case y13x15 => (intro w2 hSw; go_simp; try with_reducible rfl)
        try simp only [Act.put, List.setIfInBounds_toArray, List.set_cons_zero, List.set_cons_succ]
        refine wpAnyH_take (i := 14) (v := ?v14x16) rfl (by kernel_rfl) (by kernel_rfl) (by kernel_rfl) (fun _ _ _ h => h) (Or.inl ⟨by rfl, ?y14x16⟩) x1 ?r14x16
        case y14x16 => (intro w2 hSw; go_simp; try with_reducible rfl)
        try simp only [Act.put, List.setIfInBounds_toArray, List.set_cons_zero, List.set_cons_succ]
        refine wpAnyH_ready (rs := [15]) (by kernel_rfl) (by simp) (AllReadyH.cons rfl (fun K' hK => ?_) AllReadyH.nil)
        go_simp
        refine hK.out _ _ ((World.cell?_setCell_other _ _ _ _ (by intro h; simp only [Addr.mk.injEq] at h; omega)).trans x1) (fun hSn => ?_)
        try simp only [Act.put, List.setIfInBounds_toArray, List.set_cons_zero, List.set_cons_succ]
        clear hK K'
        refine wpAnyH_done (by kernel_rfl) ?_ _
        have y1 : (w8.setCell ⟨p, 0, none⟩ (.slice (some ⟨g8, 0, none⟩) (hs.length + 1) cap8)).cell? ⟨p, i1, none⟩ = some (.slice a n c) := (World.cell?_setCell_other _ _ _ _ (by intro h; simp only [Addr.mk.injEq] at h; omega)).trans x1
        go_wp2
        refine bodyPost_end (results_none rfl _ _ _) rfl ?_
        have hr : Row w8 p 68 (vo :: vals.map (·.1)) := (HW.out.row.keep B0 hnx).keep (HP8.out.below HW1.out.own HW.out.size) HW.out.lt
        obtain ⟨r1, r2⟩ := HW1.out.hunk HW.out.size HI2.out ⟨Nat.le_refl _, Nat.le_trans HC.out HM.out⟩ HP8.out
        have hg9 : w8.grownBy ((w8.setCell ⟨p, 0, none⟩ (.slice (some ⟨g8, 0, none⟩) (hs.length + 1) cap8)).setCell ⟨p, i1, none⟩ (.slice none 0 0)) (some p) := grownBy_trans (grownBy_setCell _ _ _ _) (grownBy_setCell _ _ _ _)
        refine ⟨⟨_, rfl⟩, _, _, nilV, ⟨?_, HW.out.lt, Nat.le_trans r2 hg9.size, r1.other hg9 HW.out.lt, clip_snoc HW.out.clip⟩, ?_⟩
        · have h9 := (hr.set 0 (.slice (some ⟨g8, 0, none⟩) (hs.length + 1) cap8)).set i1 (.slice none 0 0)
          rw [← HI.out] at h9 ⊢
          simpa [nilV] using h9
        · have hb := HP8.out.below HW1.out.own HW.out.size
          exact ⟨((KB.of (((Below.refl B w).drew).trans hb) (.inl (Nat.le_refl _))).set _ _ _).set _ _ _, sep_put HP8.out⟩
end Go.Proofs.YtnbihjocdlpplaaDoor
