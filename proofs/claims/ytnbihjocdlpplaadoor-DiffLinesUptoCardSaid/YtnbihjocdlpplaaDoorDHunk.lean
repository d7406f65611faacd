/- Hunks and the rows of lines that wait: what lies where. -/
import Derived.Test.YtnbihjocdlpplaaDoorDSep
import Derived.Test.YtnbihjocdlpplaaDoorDiffR
namespace Go.Proofs.YtnbihjocdlpplaaDoor
set_option linter.unusedVariables false
set_option linter.unusedSimpArgs false
open Go.RowKit
open Go.Lib
/-- a hunk's cells: its kind, its lines -/
abbrev HCell := Nat × Option Addr × Nat × Nat
def hkCells (h : HCell) : List Value := [.int .i64 (h.1 : Int), .slice h.2.1 h.2.2.1 h.2.2.2]
theorem hkCells_one (h : HCell) : ∀ u ∈ hkCells h, u.oneCell' = true := by
  intro u hu
  simp only [hkCells, List.mem_cons, List.not_mem_nil, or_false] at hu
  rcases hu with rfl | rfl <;> rfl
theorem infoHunk : (Tryd.prog.info? 80).map (fun i => (i.zero, i.size, i.bytes)) = some (some (.agg #[.int .i64 0, .slice none 0 0]), 2, 32) := by kernel_rfl
abbrev Wait := Value × List (List UInt8)
def nilV : Value := .slice none 0 0
structure SW (B : Nat) (w : World) (vo : Value) (hs : List HCell) (H : List Hk) (vals : List Wait) : Prop where
  own : w.ownsRow B 80 2 vo hs.length (hs.flatMap hkCells)
  len : hs.length = H.length
  each : ∀ (k : Nat) (h : HCell) (x : Hk), hs[k]? = some h → H[k]? = some x → h.1 = x.1 ∧ h.2.2.1 ≤ h.2.2.2 ∧ h.2.2.2 ≤ maxLen ∧ ReadsS w h.2.1 h.2.2.1 x.2 ∧ ∀ ad, h.2.1 = some ad → B ≤ ad.block ∧ (∃ cur, w.heap[ad.block]? = some (.cells cur 9 (0, 0))) ∧ ∀ p ∈ vals, p.1.ownBlock ≠ some ad.block
  strs : ∀ p ∈ vals, StrOwn B p.1 p.2 w
  apart : ∀ (i j : Nat) (p q : Wait), vals[i]? = some p → vals[j]? = some q → i ≠ j → p.1.ownBlock = none ∨ p.1.ownBlock ≠ q.1.ownBlock
  dist : ∀ (i j : Nat) (p q : HCell) (ad ad' : Addr), hs[i]? = some p → hs[j]? = some q → p.2.1 = some ad → q.2.1 = some ad' → ad.block = ad'.block → i = j
theorem own_slice_block {w : World} {B : Nat} {e : TypeId} {size n m c : Nat} {ad : Addr} {xs : List Value} (h : w.ownsRow B e size (.slice (some ad) n c) m xs) : Value.ownBlock (.slice (some ad) n c) = some ad.block := by
  rcases h.2 with ⟨h9, _⟩ | ⟨g, cap, cur, h9, _⟩
  · cases h9
  · cases h9; rfl
theorem SW.start (B : Nat) (w : World) (vals : List Wait) (h : ∀ p ∈ vals, p = (nilV, [])) : SW B w nilV [] [] vals :=
  ⟨World.ownsRow_nil _ _ _ _, rfl, fun k h x h1 => (by cases h1), fun p hp => by rw [h p hp]; exact World.ownsRow_nil _ _ _ _, fun i j p q hi hj hij => by rw [h p (List.mem_of_getElem? hi)]; exact .inl rfl, fun i j p q ad ad' h1 => by cases h1⟩
theorem own_block {w : World} {B : Nat} {e : TypeId} {size : Nat} {v : Value} {n : Nat} {xs : List Value} (h : w.ownsRow B e size v n xs) {b : Nat} (hb : v.ownBlock = some b) : B ≤ b ∧ ∃ cur, w.heap[b]? = some (.cells cur e (0, 0)) := by
  rcases h.2 with ⟨rfl, _⟩ | ⟨g, cap, cur, rfl, hB, hg, _⟩
  · cases hb
  · cases hb
    exact ⟨hB, cur, hg⟩
theorem own_apart_ty {w : World} {B B' : Nat} {e e' : TypeId} {size size' : Nat} {v v' : Value} {n n' : Nat} {xs xs' : List Value} (h : w.ownsRow B e size v n xs) (h' : w.ownsRow B' e' size' v' n' xs') (he : e ≠ e') : v.ownBlock = none ∨ v.ownBlock ≠ v'.ownBlock := by
  cases hb : v.ownBlock with
  | none => exact .inl rfl
  | some b =>
    refine .inr fun e1 => he ?_
    obtain ⟨_, c1, h1⟩ := own_block h hb
    obtain ⟨_, c2, h2⟩ := own_block h' e1.symm
    rw [h1] at h2
    cases h2
    rfl
theorem ReadsS.grown {w w' : World} {row : Option Nat} {a : Option Addr} {n : Nat} {L : List (List UInt8)} (h : ReadsS w a n L) (hg : w.grownBy w' row) (hne : ∀ ad, a = some ad → row ≠ some ad.block) : ReadsS w' a n L := by
  obtain ⟨hl, h⟩ := h
  refine ⟨hl, fun h0 => ?_⟩
  obtain ⟨b, off, ha, hb, hc⟩ := h h0
  refine ⟨b, off, ha, Nat.lt_of_lt_of_le hb hg.size, fun j hj => ?_⟩
  rw [World.cell?_of_block (hg.block b hb (fun e => hne _ ha e.symm))]
  exact hc j hj
theorem SW.keep {B : Nat} {w w' : World} {vo : Value} {hs : List HCell} {H : List Hk} {vals : List Wait} (h : SW B w vo hs H vals) (hb : Below w.heap.size w w') : SW B w' vo hs H vals := by
  refine ⟨own_below h.own hb, h.len, fun k c x h1 h2 => ?_, fun p hp => (h.strs p hp).below hb, h.apart, h.dist⟩
  obtain ⟨e1, e2, e3, e4, e5⟩ := h.each k c x h1 h2
  refine ⟨e1, e2, e3, e4.keep hb (Nat.le_refl _), fun ad had => ?_⟩
  obtain ⟨f1, ⟨cur, f2⟩, f3⟩ := e5 ad had
  exact ⟨f1, ⟨cur, (hb.block _ (Array.getElem?_eq_some_iff.1 f2).1).trans f2⟩, f3⟩
theorem mem_set {α : Type} {l : List α} {i : Nat} {a p : α} (h : p ∈ l.set i a) : p ∈ l ∨ p = a := List.mem_or_eq_of_mem_set h
theorem StrOwn.grown {B : Nat} {v : Value} {L : List (List UInt8)} {w w' : World} {row : Option Nat} (h : StrOwn B v L w) (hg : w.grownBy w' row) (hne : v.ownBlock = none ∨ v.ownBlock ≠ row) : StrOwn B v L w' := World.ownsRow.kept h hg hne
/-- a line more in one of the rows that wait -/
theorem SW.push {B : Nat} {w w' : World} {vo : Value} {hs : List HCell} {H : List Hk} {vals : List Wait} (h : SW B w vo hs H vals) (hB : B ≤ w.heap.size) {i : Nat} {v v' : Value} {L : List (List UInt8)} {x : List UInt8} (hi : vals[i]? = some (v, L)) (hp : AppPost w B 9 1 v L.length (L.map S1) [S1 x] v' w') :
    SW B w' vo hs H (vals.set i (v', L ++ [x])) ∧ B ≤ w'.heap.size := by
  obtain ⟨p1, p2, p3⟩ := hp
  have hmem : (v, L) ∈ vals := List.mem_of_getElem? hi
  have hvs : StrOwn B v L w := h.strs _ hmem
  have hil : i < vals.length := (List.getElem?_eq_some_iff.1 hi).1
  have hself : (vals.set i (v', L ++ [x]))[i]? = some (v', L ++ [x]) := List.getElem?_set_self hil
  have hnew : StrOwn B v' (L ++ [x]) w' := StrOwn.push p1
  -- the new block is apart from whatever stood and was apart from the old one
  have hfar : ∀ b, b < w.heap.size → v.ownBlock ≠ some b → v'.ownBlock ≠ some b := fun b hb hne e => by
    rcases p3 with p3 | p3
    · exact hne (p3 ▸ e)
    · have := p3 b e; omega
  refine ⟨⟨h.own.kept p2 (own_apart_ty h.own hvs (by decide)), h.len, fun k c y h1 h2 => ?_, fun p hp => ?_, fun i1 j1 p q hi1 hj1 hij => ?_, h.dist⟩, Nat.le_trans hB p2.size⟩
  · obtain ⟨e1, e2, e3, e4, e5⟩ := h.each k c y h1 h2
    refine ⟨e1, e2, e3, e4.grown p2 (fun ad had => (e5 ad had).2.2 _ hmem), fun ad had => ?_⟩
    obtain ⟨f1, ⟨cur, f2⟩, f3⟩ := e5 ad had
    have hlt := (Array.getElem?_eq_some_iff.1 f2).1
    refine ⟨f1, ⟨cur, (p2.block _ hlt (fun e => f3 _ hmem e.symm)).trans f2⟩, fun p hp => ?_⟩
    rcases mem_set hp with hp | rfl
    · exact f3 p hp
    · exact hfar _ hlt (f3 _ hmem)
  · obtain ⟨j, hj⟩ := List.mem_iff_getElem?.1 hp
    by_cases hji : j = i
    · subst hji
      rw [hself] at hj
      cases hj
      exact hnew
    · rw [List.getElem?_set_ne (Ne.symm hji)] at hj
      exact (h.strs p (List.mem_of_getElem? hj)).grown p2 (h.apart j i p _ hj hi hji)
  · have hone : ∀ (j : Nat) (q : Wait), j ≠ i → vals[j]? = some q → q.1.ownBlock = none ∨ q.1.ownBlock ≠ v'.ownBlock := fun j q hji hj => by
      cases hb : q.1.ownBlock with
      | none => exact .inl rfl
      | some b =>
        have hlt := ((h.strs q (List.mem_of_getElem? hj)).lt b hb).2
        have hne : v.ownBlock ≠ some b := fun e => by
          rcases h.apart j i q _ hj hi hji with h9 | h9
          · rw [hb] at h9; cases h9
          · exact h9 (hb.trans e.symm)
        exact .inr fun e => hfar b hlt hne e.symm
    by_cases hi2 : i1 = i
    · subst hi2
      rw [hself] at hi1
      cases hi1
      rw [List.getElem?_set_ne hij] at hj1
      rcases hone j1 q (Ne.symm hij) hj1 with h9 | h9
      · cases hb : v'.ownBlock with
        | none => exact .inl rfl
        | some b => exact .inr (by rw [h9]; simp)
      · exact .inr (Ne.symm h9)
    · rw [List.getElem?_set_ne (Ne.symm hi2)] at hi1
      by_cases hj2 : j1 = i
      · subst hj2
        rw [hself] at hj1
        cases hj1
        exact hone i1 p hi2 hi1
      · rw [List.getElem?_set_ne (Ne.symm hj2)] at hj1
        exact h.apart i1 j1 p q hi1 hj1 hij
/-- a row that waits is let go -/
theorem SW.drop {B : Nat} {w : World} {vo : Value} {hs : List HCell} {H : List Hk} {vals : List Wait} (h : SW B w vo hs H vals) (i : Nat) : SW B w vo hs H (vals.set i (nilV, [])) := by
  refine ⟨h.own, h.len, fun k c x h1 h2 => ?_, fun p hp => ?_, fun i1 j1 p q hi1 hj1 hij => ?_, h.dist⟩
  · obtain ⟨e1, e2, e3, e4, e5⟩ := h.each k c x h1 h2
    refine ⟨e1, e2, e3, e4, fun ad had => ⟨(e5 ad had).1, (e5 ad had).2.1, fun p hp => ?_⟩⟩
    rcases mem_set hp with hp | rfl
    · exact (e5 ad had).2.2 p hp
    · intro e; cases e
  · rcases mem_set hp with hp | rfl
    · exact h.strs p hp
    · exact World.ownsRow_nil _ _ _ _
  · rw [List.getElem?_set] at hi1 hj1
    by_cases hi2 : i = i1
    · rw [if_pos hi2] at hi1
      split at hi1
      · cases hi1; exact .inl rfl
      · cases hi1
    · rw [if_neg hi2] at hi1
      by_cases hj2 : i = j1
      · rw [if_pos hj2] at hj1
        split at hj1
        · cases hj1
          cases hb : p.1.ownBlock with
          | none => exact .inl rfl
          | some b => exact .inr (by show some b ≠ none; simp)
        · cases hj1
      · rw [if_neg hj2] at hj1
        exact h.apart i1 j1 p q hi1 hj1 hij
/-- a row that waits becomes a hunk's lines -/
theorem SW.hunk {B : Nat} {w w' : World} {vo vo' : Value} {hs : List HCell} {H : List Hk} {vals : List Wait} (h : SW B w vo hs H vals) (hB : B ≤ w.heap.size) {i k : Nat} {a : Option Addr} {n c c' : Nat} {L : List (List UInt8)} (hi : vals[i]? = some (.slice a n c, L)) (hc : n ≤ c' ∧ c' ≤ maxLen)
    (hp : AppPost w B 80 2 vo hs.length (hs.flatMap hkCells) (hkCells (k, a, n, c')) vo' w') :
    SW B w' vo' (hs ++ [(k, a, n, c')]) (H ++ [(k, L)]) (vals.set i (nilV, [])) ∧ B ≤ w'.heap.size := by
  obtain ⟨p1, p2, p3⟩ := hp
  have hmem : (.slice a n c, L) ∈ vals := List.mem_of_getElem? hi
  have hvs : StrOwn B (.slice a n c) L w := h.strs _ hmem
  have hil : i < vals.length := (List.getElem?_eq_some_iff.1 hi).1
  have hst : ∀ p ∈ vals, StrOwn B p.1 p.2 w' := fun p hp => (h.strs p hp).grown p2 (own_apart_ty (h.strs p hp) h.own (by decide))
  have hcur : ∀ (b : Nat) (cur : Array Value), w.heap[b]? = some (.cells cur 9 (0, 0)) → w'.heap[b]? = some (.cells cur 9 (0, 0)) := fun b cur hb => by
    rw [p2.block b (Array.getElem?_eq_some_iff.1 hb).1 (fun e => ?_)]
    · exact hb
    · obtain ⟨_, c2, h2⟩ := own_block h.own e.symm
      rw [hb] at h2
      cases h2
  refine ⟨⟨?_, by rw [List.length_append, List.length_append, h.len]; rfl, fun j hc2 y h1 h2 => ?_, fun p hp => ?_, fun i1 j1 p q hi1 hj1 hij => ?_, fun i1 j1 p q ad ad' hi1 hj1 had had' hbb => ?_⟩, Nat.le_trans hB p2.size⟩
  · rw [List.length_append, List.flatMap_append]
    simpa using p1
  · have hdrop := (h.drop i).each
    by_cases hj : j < hs.length
    · rw [List.getElem?_append_left hj] at h1
      rw [List.getElem?_append_left (by rw [← h.len]; exact hj)] at h2
      obtain ⟨e1, e2, e3, e4, e5⟩ := hdrop j hc2 y h1 h2
      refine ⟨e1, e2, e3, e4.grown p2 (fun ad had e => ?_), fun ad had => ?_⟩
      · obtain ⟨_, ⟨cur, f2⟩, _⟩ := e5 ad had
        obtain ⟨_, c2, h3⟩ := own_block h.own e
        rw [f2] at h3
        cases h3
      · obtain ⟨f1, ⟨cur, f2⟩, f3⟩ := e5 ad had
        exact ⟨f1, ⟨cur, hcur _ _ f2⟩, f3⟩
    · have hjl := (List.getElem?_eq_some_iff.1 h1).1
      rw [List.length_append, List.length_singleton] at hjl
      obtain rfl : j = hs.length := by omega
      rw [List.getElem?_concat_length] at h1
      rw [h.len, List.getElem?_concat_length] at h2
      cases h1
      cases h2
      have hvs2 : StrOwn B (.slice a n c) L w' := hst _ hmem
      obtain ⟨a', c9, he, g2, g3, g4⟩ := readsS_own hvs2
      cases he
      refine ⟨rfl, hc.1, hc.2, g2, fun ad had => ?_⟩
      have had : a = some ad := had
      subst had
      have hob : ∃ b, Value.ownBlock (.slice (some ad) L.length c) = some b := by
        rcases hvs.2 with ⟨h9, _⟩ | ⟨g, cap, cur, h9, _⟩
        · cases h9
        · cases h9; exact ⟨_, rfl⟩
      obtain ⟨b, hb⟩ := hob
      have hbb : b = ad.block := by
        simp only [Value.ownBlock] at hb
        first | exact (Option.some.inj hb).symm | (split at hb <;> simp_all)
      subst hbb
      obtain ⟨f1, cur, f2⟩ := own_block hvs hb
      refine ⟨f1, ⟨cur, hcur _ _ f2⟩, fun p hp => ?_⟩
      obtain ⟨j, hj⟩ := List.mem_iff_getElem?.1 hp
      by_cases hji : j = i
      · subst hji
        rw [List.getElem?_set_self hil] at hj
        cases hj
        intro e; cases e
      · rw [List.getElem?_set_ne (Ne.symm hji)] at hj
        intro e
        rcases h.apart j i p _ hj hi hji with h9 | h9
        · rw [e] at h9; cases h9
        · exact h9 (e.trans hb.symm)
  · rcases mem_set hp with hp | rfl
    · exact hst p hp
    · exact World.ownsRow_nil _ _ _ _
  · exact (h.drop i).apart i1 j1 p q hi1 hj1 hij
  · have hlast : ∀ (j : Nat) (q : HCell) (ad ad' : Addr), hs[j]? = some q → q.2.1 = some ad → a = some ad' → ad.block ≠ ad'.block := fun j q ad ad' hj had ha e => by
      subst ha
      obtain ⟨y, hy⟩ : ∃ y, H[j]? = some y := ⟨H[j]'(by have := (List.getElem?_eq_some_iff.1 hj).1; rw [← h.len]; exact this), by simp⟩
      refine ((h.each j q y hj hy).2.2.2.2 ad had).2.2 _ hmem ?_
      exact (own_slice_block hvs).trans (by rw [e])
    by_cases hi2 : i1 < hs.length
    · rw [List.getElem?_append_left hi2] at hi1
      by_cases hj2 : j1 < hs.length
      · rw [List.getElem?_append_left hj2] at hj1
        exact h.dist i1 j1 p q ad ad' hi1 hj1 had had' hbb
      · have hjl := (List.getElem?_eq_some_iff.1 hj1).1
        rw [List.length_append, List.length_singleton] at hjl
        obtain rfl : j1 = hs.length := by omega
        rw [List.getElem?_concat_length] at hj1
        cases hj1
        exact absurd hbb (hlast i1 p ad ad' hi1 had had')
    · have hil2 := (List.getElem?_eq_some_iff.1 hi1).1
      rw [List.length_append, List.length_singleton] at hil2
      obtain rfl : i1 = hs.length := by omega
      by_cases hj2 : j1 < hs.length
      · rw [List.getElem?_append_left hj2] at hj1
        rw [List.getElem?_concat_length] at hi1
        cases hi1
        exact absurd hbb.symm (hlast j1 q ad' ad hj1 had' had)
      · have hjl := (List.getElem?_eq_some_iff.1 hj1).1
        rw [List.length_append, List.length_singleton] at hjl
        omega
end Go.Proofs.YtnbihjocdlpplaaDoor
