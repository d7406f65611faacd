/- Texts joined, one behind the other (SRefC, SBegU, Iter). -/
import Derived.Test.YtchdeboialbdiaaDoorSk24
import Derived.RangeFuncNested
import Derived.RangeFuncBound
import Derived.RangeFuncCalls
import Derived.RangeFuncLeaves
import Derived.Shelf.Abstract
import Derived.Shelf.RegionOpen
import Derived.OwnWalkIn
import Derived.TacticsInMore
import Derived.LoopNIn
import Derived.LoopIn
/- The reference's Chars. -/
namespace Go.Proofs.YtchdeboialbdiaaDoor
set_option linter.unusedVariables false
set_option linter.unusedSimpArgs false
open Go.RowKit
open Go.Lib hiding intOf
/-- characters: number, place, width -/
def charsWGo : Nat → List UInt8 → Nat → List (Nat × Nat × Nat)
  | 0, _, _ => []
  | f + 1, l, a => if l = [] then [] else ((chr1 l).1, a, (chr1 l).2) :: charsWGo f (l.drop (chr1 l).2) (a + (chr1 l).2)
def charsW (l : List UInt8) : List (Nat × Nat × Nat) := charsWGo l.length l 0
theorem charsWGo_next {f : Nat} {l : List UInt8} (hl : l ≠ []) (a : Nat) : charsWGo (f + 1) l a = ((chr1 l).1, a, (chr1 l).2) :: charsWGo f (l.drop (chr1 l).2) (a + (chr1 l).2) := by rw [charsWGo, if_neg hl]
theorem charsWGo_stop (f : Nat) (a : Nat) : charsWGo f [] a = [] := by cases f <;> simp [charsWGo]
theorem charsW_go : ∀ (f : Nat) (l : List UInt8) (a : Nat), (charsWGo f l a).map (fun p => (p.1, p.2.1)) = charsGo f l a
  | 0, l, a => rfl
  | f + 1, l, a => by
    by_cases hl : l = []
    · subst hl; rw [charsWGo_stop, charsGo_stop]; rfl
    · rw [charsWGo_next hl, charsGo_next hl, List.map_cons, charsW_go f]
theorem charsW_L (l : List UInt8) : (charsW l).map (fun p => (p.1, p.2.1)) = charsL l := charsW_go _ _ _
theorem charsW_vals (l : List UInt8) : (charsW l).map (fun p => p.1) = valsL l := by
  unfold valsL
  rw [← charsW_L, List.map_map]
  rfl
theorem charsW_ats (l : List UInt8) : (charsW l).map (fun p => p.2.1) ++ [l.length] = atsL l := by
  unfold atsL
  rw [← charsW_L, List.map_map]
  rfl
theorem charsW_len (l : List UInt8) : (charsW l).length = (valsL l).length := by rw [← charsW_vals, List.length_map]
def chCells (p : Nat × Nat × Nat) : List Value := [.int .i64 (p.2.1 : Int), .int .i32 (tokR p.1 : Int), .int .i64 (p.2.2 : Int), .bool (decide (p.1 < wrongN))]
theorem infoChar : (Tryd.prog.info? 119).map (fun i => (i.zero, i.size, i.bytes)) = some (some (.agg #[.int .i64 0, .int .i32 0, .int .i64 0, .bool false]), 4, 32) := by kernel_rfl
def ChOwnR (B : Nat) (v : Value) (L : List (Nat × Nat × Nat)) (w : World) : Prop := w.ownsRow B 119 4 v L.length (L.flatMap chCells)
theorem ChOwnR.push {B : Nat} {v : Value} {L : List (Nat × Nat × Nat)} {x : Nat × Nat × Nat} {w : World} (h : w.ownsRow B 119 4 v (L.length + 1) (L.flatMap chCells ++ chCells x)) : ChOwnR B v (L ++ [x]) w := by
  unfold ChOwnR
  rw [List.length_append, List.flatMap_append]
  simpa using h
theorem first_chr {D : List UInt8} (hD : D ≠ []) : firstR D = ((tokR (chr1 D).1 : Int), (chr1 D).2, decide ((chr1 D).1 < wrongN)) := by
  rw [firstR_eq D hD]
  by_cases h : RightD (decodeL D)
  · have hc : chr1 D = decodeL D := by unfold chr1; rw [if_pos h]
    have := dec_rune_le (l := D)
    have hlt : (decodeL D).1 < wrongN := by unfold wrongN; omega
    rw [if_pos h, hc]
    unfold tokR
    rw [if_pos hlt, decide_eq_true hlt]
  · have hc : chr1 D = (wrongN + bN D 0, 1) := by unfold chr1; rw [if_neg h]
    rw [if_neg h, hc]
    unfold tokR
    rw [if_neg (by dsimp only; omega), decide_eq_false (by dsimp only; omega)]
    rfl
def CharsR (w : World) (l : List UInt8) (e : Ending) (w' : World) : Prop :=
  ∃ v, e = .returned v ∧ ChOwnR w.heap.size v (charsW l) w' ∧ Below w.heap.size w w'
set_option maxHeartbeats 4000000 in
set_option maxRecDepth 100000 in
theorem charsR6 (w : World) (l : List UInt8) (hm : l.length ≤ 67108864) :
    Calls Tryd.prog 27 #[.string (bstr l)] w (CharsR w l) := by
  obtain ⟨n, hn⟩ : ∃ n, n = l.length := ⟨_, rfl⟩
  have hsz : (bstr l).size = n := by rw [bstr_size, hn]
  rw [← hn] at hm
  have HN := Lib.hid hn
  clear hn
  go_enter Tryd.func27, Tryd.ntmps27
  go_wp2_with fail
  go_loopw [3, 4] (fun vl ui wr => ∃ (i f : Nat) (acc : List (Nat × Nat × Nat)), ui = .int .i64 (i : Int) ∧ i ≤ n ∧ acc.length ≤ i ∧ Hid (n ≤ i + f ∧ acc ++ charsWGo f (l.drop i) i = charsW l ∧ ChOwnR w.heap.size vl acc wr ∧ Below w.heap.size w wr)) (fun _ ui _ => n - (RowKit.intOf ui).toNat)
  case atStart => exact ⟨0, l.length, [], rfl, Nat.zero_le _, Nat.le_refl _, Lib.hid ⟨by rw [HN.out]; omega, rfl, World.ownsRow_nil _ _ _ _, Below.refl _ _⟩⟩
  case round =>
    obtain ⟨i, f, acc, rfl, hi, hal, HR⟩ := hrel
    obtain ⟨vl, rfl⟩ : ∃ v : Value, v = u3 := ⟨_, rfl⟩
    by_cases hlt : i < n
    · obtain ⟨f, rfl⟩ : ∃ g, f = g + 1 := ⟨f - 1, by have := HR.out.1; omega⟩
      obtain ⟨D, hD⟩ : ∃ D, l.drop i = D := ⟨_, rfl⟩
      have hDl : D.length = n - i := by rw [← hD, List.length_drop, HN.out]
      have hDn : D ≠ [] := by rintro rfl; simp at hDl; omega
      have hDt : D.take (n - i) = D := List.take_of_length_le (by omega)
      have hF := firstR6 wr D hDn (by omega)
      rw [first_chr hDn] at hF
      have hgo := HR.out.2.1
      rw [hD, charsWGo_next hDn] at hgo
      have hwd := chr1_width hDn
      have hit : (i : Int) < (n : Int) := by omega
      have hit2 : (i : Int) ≤ (n : Int) := by omega
      obtain ⟨v, hv⟩ : ∃ v, (chr1 D).1 = v := ⟨_, rfl⟩
      obtain ⟨K, hK⟩ : ∃ K, (chr1 D).2 = K := ⟨_, rfl⟩
      rw [hv, hK] at hF hgo
      rw [hK] at hwd
      have hcs : chCells (v, i, K) = [.int .i64 (i : Int), .int .i32 (tokR v : Int), .int .i64 (K : Int), .bool (decide (v < wrongN))] := rfl
      obtain ⟨R, hR⟩ : ∃ R, tokR v = R := ⟨_, rfl⟩
      obtain ⟨bw, hbw⟩ : ∃ b, decide (v < wrongN) = b := ⟨_, rfl⟩
      rw [hR, hbw] at hcs
      dsimp only at hF
      rw [hR, hbw] at hF
      have HF := Lib.hid hF
      have HGO := Lib.hid hgo
      have HCS := Lib.hid hcs
      have hDD := Lib.hid hD
      have HO := Lib.hid HR.out.2.2.1
      have HB0 := Lib.hid HR.out.2.2.2
      have hs0 := HB0.out.size
      clear hF hgo hcs hv hK hR hbw
      go_wp2_with (first
        | (go_at_call 49; refine (HF.out).mono ?_; rintro e w1 ⟨rfl, hb1⟩; have HO1 := Lib.hid (own_below HO.out hb1); have hs1 := hb1.size; have HB1 := Lib.hid (HB0.out.trans (hb1.mono HB0.out.size)); clear hb1)
        | (at_builtin; (with_reducible show wpList _ _ _ (Oper.mk (some 27) _ _ _ _ _ :: _) _ _); refine appSep rfl _ _ rfl Tryd.underlying57 (.agg #[.int .i64 0, .int .i32 0, .int .i64 0, .bool false]) 4 32 infoChar rfl (by decide) (by decide) w.heap.size w1 vl acc.length (acc.flatMap chCells) [.int .i64 (i : Int), .int .i32 (R : Int), .int .i64 (K : Int), .bool bw] rfl (by intro u hu; simp only [List.mem_cons, List.not_mem_nil, or_false] at hu; rcases hu with rfl | rfl | rfl | rfl <;> rfl) rfl HO1.out rfl rfl (by omega) (by omega) ?_; intro v8 w8 hp8; have HP8 := Lib.hid hp8; clear hp8))
      have HNX : Hid (n ≤ i + K + f ∧ (acc ++ [(v, i, K)]) ++ charsWGo f (l.drop (i + K)) (i + K) = charsW l ∧ ChOwnR w.heap.size v8 (acc ++ [(v, i, K)]) w8 ∧ Below w.heap.size w w8) := Lib.hid (by
        refine ⟨by have := HR.out.1; omega, ?_, ?_, HB1.out.trans (HP8.out.below HO1.out (by omega))⟩
        · rw [← HGO.out, ← hDD.out, List.drop_drop]
          simp
        · have h1 := HP8.out.1
          rw [← HCS.out] at h1
          exact ChOwnR.push h1)
      go_roundw
      case rel => exact ⟨i + K, f, acc ++ [(v, i, K)], by go_num, by omega, by rw [List.length_append, List.length_singleton]; omega, HNX⟩
      case measure => simp [RowKit.intOf]; omega
    · obtain rfl : i = n := by omega
      have hnl : ¬ (i : Int) < (i : Int) := by omega
      have hd : l.drop i = [] := List.drop_of_length_le (by rw [← HN.out]; exact Nat.le_refl _)
      have hgo := HR.out.2.1
      rw [hd, charsWGo_stop, List.append_nil] at hgo
      have HGO := Lib.hid hgo
      clear hd hgo hlt
      go_wp2_with fail
      go_ret
      exact ⟨vl, rfl, by rw [← HGO.out]; exact HR.out.2.2.1, HR.out.2.2.2⟩
/-- characters that are read -/
def ReadsCh (w : World) (a : Option Addr) (n : Nat) (L : List (Nat × Nat × Nat)) : Prop :=
  L.length = n ∧ (0 < n → ∃ b, a = some ⟨b, 0, none⟩ ∧ b < w.heap.size ∧ ∀ i p, L[i]? = some p → w.cell? ⟨b, i * 4, none⟩ = some (.int .i64 (p.2.1 : Int)) ∧ w.cell? ⟨b, i * 4 + 1, none⟩ = some (.int .i32 (tokR p.1 : Int)) ∧ w.cell? ⟨b, i * 4 + 2, none⟩ = some (.int .i64 (p.2.2 : Int)) ∧ w.cell? ⟨b, i * 4 + 3, none⟩ = some (.bool (decide (p.1 < wrongN))))
theorem ReadsCh.keep {B : Nat} {w w' : World} {a : Option Addr} {n : Nat} {L : List (Nat × Nat × Nat)} (h : ReadsCh w a n L) (hb : Below B w w') (hB : w.heap.size ≤ B) : ReadsCh w' a n L := by
  obtain ⟨hl, h⟩ := h
  refine ⟨hl, fun hn => ?_⟩
  obtain ⟨b, ha, hlt, hc⟩ := h hn
  have hbk := hb.block b (by omega)
  refine ⟨b, ha, Nat.lt_of_lt_of_le hlt hb.size, fun i p hp => ?_⟩
  obtain ⟨h1, h2, h3, h4⟩ := hc i p hp
  exact ⟨by rw [World.cell?_of_block (a := ⟨b, i * 4, none⟩) hbk]; exact h1, by rw [World.cell?_of_block (a := ⟨b, i * 4 + 1, none⟩) hbk]; exact h2, by rw [World.cell?_of_block (a := ⟨b, i * 4 + 2, none⟩) hbk]; exact h3, by rw [World.cell?_of_block (a := ⟨b, i * 4 + 3, none⟩) hbk]; exact h4⟩
theorem flatR_at {α : Type} (f : α → List Value) (m : Nat) (hf : ∀ x, (f x).length = m) : ∀ (L : List α) (i k : Nat) (p : α), L[i]? = some p → k < m → (L.flatMap f)[i * m + k]? = (f p)[k]?
  | [], i, k, p, h, _ => by simp at h
  | x :: L, 0, k, p, h, hk => by
    simp only [List.getElem?_cons_zero, Option.some.injEq] at h
    subst h
    rw [List.flatMap_cons, Nat.zero_mul, Nat.zero_add, List.getElem?_append_left (by rw [hf]; exact hk)]
  | x :: L, i + 1, k, p, h, hk => by
    rw [List.getElem?_cons_succ] at h
    rw [List.flatMap_cons, List.getElem?_append_right (by rw [hf, Nat.add_mul]; omega), hf, show (i + 1) * m + k - m = i * m + k by rw [Nat.add_mul]; omega]
    exact flatR_at f m hf L i k p h hk
theorem ChOwnR.shape {B : Nat} {v : Value} {L : List (Nat × Nat × Nat)} {w : World} (h : ChOwnR B v L w) : ∃ a c, v = .slice a L.length c ∧ ReadsCh w a L.length L ∧ (∀ ad, a = some ad → B ≤ ad.block ∧ ad.block < w.heap.size) := by
  rcases h.2 with ⟨rfl, h0⟩ | ⟨g, cap, cur, rfl, hB, hg, hc1, hc2, hc3, hc4⟩
  · exact ⟨none, 0, by rw [h0], ⟨rfl, fun h => by omega⟩, fun ad h => by cases h⟩
  · have hgl := (Array.getElem?_eq_some_iff.1 hg).1
    refine ⟨_, _, rfl, ⟨rfl, fun hn => ⟨g, rfl, hgl, fun i p hp => ?_⟩⟩, fun ad h => by cases h; exact ⟨hB, hgl⟩⟩
    have hi : i < L.length := (List.getElem?_eq_some_iff.1 hp).1
    have key : ∀ k, k < 4 → ∀ u, (chCells p)[k]? = some u → w.cell? ⟨g, i * 4 + k, none⟩ = some u := by
      intro k hk u hu
      have h1 := flatR_at chCells 4 (fun _ => rfl) L i k p hp hk
      rw [hu, ← hc4, List.getElem?_take] at h1
      rw [if_pos (by omega)] at h1
      simp only [World.cell?, hg]
      simpa using h1
    exact ⟨key 0 (by decide) _ rfl, key 1 (by decide) _ rfl, key 2 (by decide) _ rfl, key 3 (by decide) _ rfl⟩
end Go.Proofs.YtchdeboialbdiaaDoor
/- The reference's Begins. -/
namespace Go.Proofs.YtchdeboialbdiaaDoor
set_option linter.unusedVariables false
set_option linter.unusedSimpArgs false
open Go.RowKit
open Go.Lib hiding intOf
def placeB (l : List UInt8) (p : Int) : Bool := decide (∃ x ∈ atsL l, (x : Int) = p)
set_option maxHeartbeats 4000000 in
set_option maxRecDepth 100000 in
theorem beginsU (w : World) (l : List UInt8) (p : Int) (hm : l.length ≤ 67108864) :
    Calls Tryd.prog 33 #[.string (bstr l), .int .i64 p] w fun e w' => e = .returned (.bool (placeB l p)) ∧ Below w.heap.size w w' := by
  have hC : Calls Tryd.prog 27 #[.string (bstr l)] w fun e w' => ∃ a c, e = .returned (.slice a (charsW l).length c) ∧ ReadsCh w' a (charsW l).length (charsW l) ∧ Below w.heap.size w w' := (charsR6 w l hm).mono (by
    rintro e w' ⟨v, rfl, ho, hb⟩
    obtain ⟨a, c, rfl, hr, _⟩ := ho.shape
    exact ⟨a, c, rfl, hr, hb⟩)
  have hA := charsW_ats l
  have hlen := charsW_len l
  have hvl := charsGo_len l.length l 0
  have hvl2 : (valsL l).length ≤ l.length := by unfold valsL charsL; rw [List.length_map]; exact hvl
  obtain ⟨L, hL⟩ : ∃ L, charsW l = L := ⟨_, rfl⟩
  rw [hL] at hC hA hlen
  obtain ⟨n, hn⟩ : ∃ n, L.length = n := ⟨_, rfl⟩
  rw [hn] at hC hlen
  have HC := Lib.hid hC
  have HA := Lib.hid hA
  have HN := Lib.hid hn
  have hnb : n ≤ 67108864 := by omega
  clear hC hA hlen hvl hvl2 hL hn
  have hno : ∀ b : Bool, (b = true ↔ ∃ x ∈ atsL l, (x : Int) = p) → b = placeB l p := by
    intro b hb
    unfold placeB
    rw [Bool.eq_iff_iff, hb, decide_eq_true_iff]
  have HNO := Lib.hid hno
  clear hno
  go_enter Tryd.func33, Tryd.ntmps33
  go_wp2_with (go_at_call 27; refine (HC.out).mono ?_; rintro e w1 ⟨a, c, rfl, hr, hb⟩; have HR := Lib.hid hr; have HB := Lib.hid hb; clear hr hb)
  go_loopw [6] (fun ui wr => ∃ i : Nat, ui = .int .i64 (i : Int) ∧ i ≤ n ∧ Hid (∀ k x, k < i → L[k]? = some x → (x.2.1 : Int) ≠ p) ∧ wr = w1) (fun ui _ => n - (RowKit.intOf ui).toNat)
  case atStart => exact ⟨0, rfl, Nat.zero_le _, Lib.hid (fun k x h => by omega), rfl⟩
  case round =>
    obtain ⟨i, rfl, hi, HI, rfl⟩ := hrel
    by_cases hlt : i < n
    · obtain ⟨b, rfl, hbl, hc⟩ := HR.out.2 (by omega)
      have hiL : i < L.length := by rw [HN.out]; exact hlt
      have c0 := (hc i L[i] (List.getElem?_eq_getElem hiL)).1
      have hx : L[i]? = some L[i] := List.getElem?_eq_getElem hiL
      obtain ⟨q, hq⟩ : ∃ q, L[i] = q := ⟨_, rfl⟩
      rw [hq] at hx c0
      obtain ⟨y, hy⟩ : ∃ y, q.2.1 = y := ⟨_, rfl⟩
      rw [hy] at c0
      have HX := Lib.hid hx
      have HY := Lib.hid hy
      have hin : (i : Int) < (n : Int) := by omega
      clear hc hx hy hq hiL
      by_cases he : (y : Int) = p
      · have hbe : ((y : Int) == p) = true := by rw [beq_iff_eq]; exact he
        have ht : true = placeB l p := HNO.out true ⟨fun _ => ⟨y, by rw [← HA.out]; exact List.mem_append_left _ (List.mem_map.2 ⟨q, List.mem_of_getElem? HX.out, HY.out⟩), he⟩, fun _ => rfl⟩
        have HTT := Lib.hid ht
        clear he ht
        go_wp2_with fail
        go_ret
        exact ⟨by rw [← HTT.out]; rfl, HB.out⟩
      · have hbe : ((y : Int) == p) = false := by rw [beq_eq_false_iff_ne]; exact he
        have HE := Lib.hid he
        clear he
        go_wp2_with fail
        go_roundw
        case rel => exact ⟨i + 1, by go_num, by omega, Lib.hid (fun k x hk hx => by
          by_cases hki : k = i
          · rw [hki, HX.out] at hx
            rw [← Option.some.inj hx, HY.out]
            exact HE.out
          · exact HI.out k x (by omega) hx), by first | rfl | trivial⟩
        case measure => simp [RowKit.intOf]; omega
    · obtain rfl : i = n := by omega
      have hnl : ¬ (i : Int) < (i : Int) := by omega
      have hfin : (p == (l.length : Int)) = placeB l p := HNO.out _ (by
        rw [beq_iff_eq, ← HA.out]
        constructor
        · intro h
          exact ⟨l.length, List.mem_append_right _ (List.mem_singleton.2 rfl), h.symm⟩
        · rintro ⟨x, hx, hxp⟩
          rcases List.mem_append.1 hx with hx | hx
          · obtain ⟨q, hq, hqx⟩ := List.mem_map.1 hx
            obtain ⟨k, hk1, hk2⟩ := List.mem_iff_getElem.1 hq
            have := HI.out k q (by have := HN.out; omega) (by rw [List.getElem?_eq_getElem hk1, hk2])
            rw [hqx] at this
            exact absurd hxp this
          · rw [List.mem_singleton] at hx
            rw [← hxp, hx])
      have HF := Lib.hid hfin
      clear hfin hlt
      go_wp2_with fail
      go_ret
      exact ⟨by rw [← HF.out]; rfl, HB.out⟩
end Go.Proofs.YtchdeboialbdiaaDoor
/- A range over a function whose iterator keeps state of its own in cells: what the iterator owes, what the caller owes. -/
namespace Go.Proofs.YtchdeboialbdiaaDoor
open Go.RowKit Go.Shelf

/-- the rows that an iterator may turn: its own, from lo up to hi, and from lo on whatever is no cells -/
def MayTurn (lo hi : Nat) (A : World) (row : Option Nat) : Prop := ∀ r, row = some r → lo ≤ r ∧ (r < hi ∨ ∃ o : Obj, A.heap[r]? = some o ∧ o.isCells = false)
def AbidesC {β : Type} (lo hi : Nat) (J : β → World → Prop) : Prop := ∀ s A A' row, J s A → A.grownBy A' row → MayTurn lo hi A row → J s A'
/-- what a round that goes on keeps for its iterator: the rows of K, the iterator's own rows, and from lo on whatever is no cells -/
structure KeepsC (K : Nat → Prop) (lo hi : Nat) (W W' : World) : Prop where
  size : W.heap.size ≤ W'.heap.size
  rows : ∀ r, K r ∨ (lo ≤ r ∧ r < hi) → W'.heap[r]? = W.heap[r]?
  others : ∀ r (o : Obj), lo ≤ r → W.heap[r]? = some o → o.isCells = false → W'.heap[r]? = some o

theorem KeepsC.refl (K : Nat → Prop) (lo hi : Nat) (W : World) : KeepsC K lo hi W W := ⟨Nat.le_refl _, fun _ _ => rfl, fun _ _ _ h _ => h⟩
theorem KeepsC.trans {K : Nat → Prop} {lo hi : Nat} {A B C : World} (h : KeepsC K lo hi A B) (k : KeepsC K lo hi B C) : KeepsC K lo hi A C :=
  ⟨Nat.le_trans h.size k.size, fun r hr => (k.rows r hr).trans (h.rows r hr), fun r o hr ho hc => k.others r o hr (h.others r o hr ho hc) hc⟩
theorem KeepsC.less {K : Nat → Prop} {lo lo' hi : Nat} {A B : World} (h : KeepsC K lo hi A B) (hl : lo ≤ lo') : KeepsC K lo' hi A B :=
  ⟨h.size, fun r hr => h.rows r (hr.imp id (fun h => ⟨by omega, h.2⟩)), fun r o hr ho hc => h.others r o (by omega) ho hc⟩
theorem KeepsC.putObj {K : Nat → Prop} {lo hi : Nat} (W : World) {l : Nat} (o : Obj) (h0 : ¬ K l) (hl : l < lo) : KeepsC K lo hi W (W.putObj l o) :=
  ⟨by simp, fun r hr => World.putObj_heap_other (fun e => by subst e; exact hr.elim h0 (fun h => by omega)), fun r o' hr ho _ => (World.putObj_heap_other (by omega)).trans ho⟩
/-- a step that turns one row of cells of the caller's, or none -/
theorem KeepsC.grown {K : Nat → Prop} {lo hi : Nat} {W W' : World} {row : Option Nat} (hg : W.grownBy W' row) (hn : ∀ r, K r → r < W.heap.size) (hh : hi ≤ W.heap.size) (hr : ∀ r, row = some r → ¬ K r ∧ (r < lo ∨ (hi ≤ r ∧ ∀ o : Obj, W.heap[r]? = some o → o.isCells = true))) : KeepsC K lo hi W W' := by
  refine ⟨hg.size, fun r h => ?_, fun r o hl ho hc => ?_⟩
  · refine hg.block r (h.elim (hn r) (fun h => by omega)) (fun e => ?_)
    obtain ⟨h1, h2⟩ := hr r e.symm
    rcases h with h | h
    · exact h1 h
    · omega
  · refine (hg.block r (Array.getElem?_eq_some_iff.1 ho).1 (fun e => ?_)).trans ho
    obtain ⟨_, h | ⟨_, h⟩⟩ := hr r e.symm
    · omega
    · rw [h o ho] at hc; cases hc

/-- WHAT AN ITERATOR OWES: S: all that comes; Sp: a part that has come when a round has said no more. -/
def SeqC {α : Type} (F : Fence) (n : Nat) (P : Program) (g : Nat) (lb : Array Value) (encs : α → Array Value) (K : Nat → Prop) (w0 : World) (S Sp : List α → Prop) : Prop :=
  ∀ (l : Nat) (J Jx : Nat → List α → World → Prop) (W : World), (∀ r, K r → r < w0.heap.size ∧ W.heap[r]? = w0.heap[r]?) → w0.heap.size ≤ W.heap.size →
    (∀ hi, AbidesC W.heap.size hi (J hi)) → (∀ hi, AbidesC W.heap.size hi (Jx hi)) →
    (∀ hi pre x W1, J hi pre W1 → Sp (pre ++ [x]) → W.heap.size ≤ hi → hi ≤ W1.heap.size → YieldAt F (n - 1) P l (encs x) W1 fun e W' =>
      (e = .returned (.bool true) ∧ J hi (pre ++ [x]) W' ∧ KeepsC K W.heap.size hi W1 W') ∨ (e = .returned (.bool false) ∧ Jx hi (pre ++ [x]) W' ∧ KeepsC K W.heap.size hi W1 W')) →
    (∀ hi, W.heap.size ≤ hi → J hi [] W) →
    CallsIn F n P g (#[.func (.yield l) #[] #[]] ++ lb) W fun e W' => (∃ v, e = .returned v) ∧ ∃ hi, W.heap.size ≤ hi ∧ ((∃ xs, S xs ∧ J hi xs W') ∨ (∃ pre, Sp pre ∧ Jx hi pre W'))

/-- how the body of a round may be left -/
def postC {α : Type} (K : Nat → Prop) (lo hi : Nat) (I : Nat → List α → World → Prop) (Ix : Code → Nat → List α → World → Prop) (xs : List α) (W : World) : Exit → Act → World → Prop
  | .normal, _, W' => KeepsC K lo hi W W' ∧ I hi xs W'
  | .ret, _, W' => KeepsC K lo hi W W' ∧ Ix .ret hi xs W'
  | .exit id, _, W' => KeepsC K lo hi W W' ∧ Ix (.exit id) hi xs W'
  | .goto t, _, W' => KeepsC K lo hi W W' ∧ Ix (.goto t) hi xs W'
  | .panic _, _, _ => False
  | .outgrown, _, _ => False

theorem KeepsC.sub {K K' : Nat → Prop} {lo lo' hi : Nat} {A B : World} (h : KeepsC K lo hi A B) (hl : lo ≤ lo') (hK : ∀ r, K' r → lo ≤ r ∧ r < hi) : KeepsC K' lo' hi A B :=
  ⟨h.size, fun r hr => h.rows r (.inr (hr.elim (hK r) (fun h => ⟨by omega, h.2⟩))), fun r o hr ho hc => h.others r o (by omega) ho hc⟩
theorem RoundIn_any {F : Fence} (hd : F.depth = none) {m m' : Nat} {P : Program} {l l' : Nat} {f : FuncId} {tmps : Array Value} {assign body : Code} {w : World} {R : Ending → World → Prop} (h : RoundIn F m P l f tmps assign body w R) : RoundIn (F.inRound l') m' P l f tmps assign body w R :=
  ⟨h.1, fun c cs _ => h.2 c cs (fun d e => by rw [hd] at e; cases e)⟩
theorem grown_other {W W' : World} {row : Option Nat} {k : Nat} {o : Obj} (hg : W.grownBy W' row) (h : W.heap[k]? = some o) (hk : ∀ r, row = some r → r ≠ k) : W'.heap[k]? = some o :=
  (hg.block k (Array.getElem?_eq_some_iff.1 h).1 (fun e => hk k e.symm rfl)).trans h

variable {F : Fence} {n : Nat} {P : Program}
/-- THE CALLER's LAW. -/
theorem wpIn_rangeFunc_C {α : Type} {g : Operand} {ps : Array Tmp} {assign body : Code} {Q : Exit → Act → World → Prop} {a : Act} {w : World}
    (hro : F.round = none) (h1 : 1 ≤ n) {gf : Nat} {lb : Array Value} (hg : a.eval g = .func (.func gf) #[] lb) (hFg : F.fn gf) (eg : ∀ args w, (callFunc gf args).run P w = .ok (.enter gf args) w)
    {encs : α → Array Value} {K : Nat → Prop} {w0 : World} {S Sp : List α → Prop} (hseq : SeqC F (n - 1) P gf lb encs K w0 S Sp)
    (hb0 : ∀ r, K r → r < w0.heap.size ∧ w.heap[r]? = w0.heap[r]?) (hn0 : w0.heap.size ≤ w.heap.size) (hps : ∀ x, (encs x).size = ps.size)
    (I : Nat → List α → World → Prop) (Ix : Code → Nat → List α → World → Prop)
    (hI : ∀ hi, AbidesC w.heap.size hi (I hi)) (hIx : ∀ c hi, AbidesC w.heap.size hi (Ix c hi))
    (h0 : ∀ hi, w.heap.size ≤ hi → I hi [] w) (a₁ : α → Act)
    (hassign : ∀ (l : Nat) (x : α) (W : World) (Kc : Act → World → Prop), Kc (a₁ x) W →
      assign.wpIn (F.inRound l) (n - 1 - 1) P (Exit.then Kc (fun _ _ _ => False)) { tmps := (ps.zip (encs x)).foldl (fun t (p, v) => t.setIfInBounds p v) a.tmps, defers := [] } W)
    (hbody : ∀ (l hi : Nat) (pre : List α) (x : α) (W : World), w.heap.size + 2 ≤ hi → hi ≤ W.heap.size → Sp (pre ++ [x]) → I hi pre W → body.wpIn (F.inRound l) (n - 1 - 1) P (postC K w.heap.size hi I Ix (pre ++ [x]) W) (a₁ x) W)
    (hdone : ∀ (D hi : Nat) (xs : List α) (W : World), w.heap.size ≤ D → D < hi → S xs → I hi xs W → W.heap[D]? = some (.deferred (some [])) → Q .normal { a with defers := { target := .collected D, args := #[] } :: a.defers } W)
    (hstop : ∀ (D hi : Nat) (c : Code) (pre : List α) (W : World), w.heap.size ≤ D → D < hi → Sp pre → Ix c hi pre W → W.heap[D]? = some (.deferred (some [])) → c.wpIn F n P Q { a with defers := { target := .collected D, args := #[] } :: a.defers } W) :
    (Code.rangeFunc g ps assign body).wpIn F n P Q a w := by
  refine wpIn_rangeFunc ?_
  intro fn hfn
  rw [hro]
  obtain ⟨L, hL⟩ : ∃ L : LoopState → Option Code → Loop, L = fun st pe => { state := st, pending := pe, fn, tmps := a.tmps, params := ps, assign, body, defers := w.heap.size } := ⟨_, rfl⟩
  obtain ⟨s, hs⟩ : ∃ s, s = w.heap.size := ⟨_, rfl⟩
  obtain ⟨W1, hW1⟩ : ∃ W1, W1 = (w.alloc (.deferred (some []))).alloc (.loop (L .ready none)) := ⟨_, rfl⟩
  have z1 : W1.heap.size = s + 2 := by rw [hW1, hs]; simp
  have r1 : W1.heap[s + 1]? = some (.loop (L .ready none)) := by
    rw [hW1, hs]
    have := World.alloc_heap_new (w.alloc (.deferred (some []))) (.loop (L .ready none))
    rwa [World.size_alloc] at this
  have d1 : W1.heap[s]? = some (.deferred (some [])) := by
    rw [hW1, hs]; exact (Below.heap_alloc _ _ _ (by simp)).trans (World.alloc_heap_new w _)
  have turn0 : ∀ (hi : Nat) (A : World), MayTurn w.heap.size hi A none := fun _ _ r e => by cases e
  have i1 : ∀ hi, W1.heap.size ≤ hi → I hi [] W1 := by
    intro hi hh
    rw [hW1]
    exact hI hi _ _ _ none (hI hi _ _ _ none (h0 hi (by omega)) (World.grownBy_alloc w _ none) (turn0 _ _)) (World.grownBy_alloc _ _ none) (turn0 _ _)
  have hKw : ∀ r, K r → r < s := fun r hr => by have := (hb0 r hr).1; omega
  have b1 : ∀ r, K r → r < w0.heap.size ∧ W1.heap[r]? = w0.heap[r]? := fun r hr => by
    refine ⟨(hb0 r hr).1, ?_⟩
    rw [hW1, ← (hb0 r hr).2]
    have := hKw r hr
    exact (Below.heap_alloc _ _ _ (by simp; omega)).trans (Below.heap_alloc _ _ _ (by omega))
  have nK : ¬ K (s + 1) := fun h => by have := hKw _ h; omega
  have step : ∀ {β : Type} {J : β → World → Prop} {hi : Nat}, AbidesC w.heap.size hi J → ∀ s' (A A' : World) (row : Option Nat), J s' A → A.grownBy A' row → MayTurn W1.heap.size hi A row → J s' A' :=
    fun hJ s' A A' row hj hgr hm => hJ s' A A' row hj hgr (fun r e => ⟨by have := (hm r e).1; omega, (hm r e).2⟩)
  have past : ∀ {hi : Nat} {A : World} {row : Option Nat}, MayTurn W1.heap.size hi A row → ∀ k, k < s + 2 → ∀ r, row = some r → r ≠ k := fun hm k hk r e => by have := (hm r e).1; omega
  refine ⟨s + 1, [{ target := .collected s, args := #[] }], W1, { target := .fn (.func gf) lb, args := #[.func (.yield (s + 1)) #[] #[]] }, W1, gf,
    #[.func (.yield (s + 1)) #[] #[]] ++ lb, W1, ?_, ?_, ?_, ?_, fun _ => h1, ?_⟩
  · rw [hW1, hL, hs]; exact run_enterLoop_outer _ _ _ _ _
  · simp only [resolve, hg]
    simp [go_sem]
  · intro f' hf'; simp [Target.leads] at hf'; subst hf'; exact hFg
  · simp [invoke, go_sem, eg]
  · refine (hseq (s + 1)
      (fun hi pre W => I hi pre W ∧ W.heap[s + 1]? = some (.loop (L .ready none)) ∧ W.heap[s]? = some (.deferred (some [])))
      (fun hi pre W => ∃ c, Ix c hi pre W ∧ W.heap[s + 1]? = some (.loop (L .done (some c))) ∧ W.heap[s]? = some (.deferred (some [])))
      W1 b1 (by omega)
      (fun hi p A A' row hj hgr hm => ⟨step (hI hi) p A A' row hj.1 hgr hm, grown_other hgr hj.2.1 (past hm _ (by omega)), grown_other hgr hj.2.2 (past hm _ (by omega))⟩)
      (fun hi p A A' row hj hgr hm => by
        obtain ⟨c, h1, h2, h3⟩ := hj
        exact ⟨c, step (hIx c hi) p A A' row h1 hgr hm, grown_other hgr h2 (past hm _ (by omega)), grown_other hgr h3 (past hm _ (by omega))⟩)
      ?_ (fun hi hh => ⟨i1 hi hh, r1, d1⟩)).mono ?_
    · rintro hi pre x W ⟨hi0, hl, hk⟩ hsp hlo hhi
      have hlt : s + 1 < W.heap.size := (Array.getElem?_eq_some_iff.1 hl).1
      have hy := run_yield (P := P) (args := encs x) hl (by rw [hL]; exact hps x)
      rw [hL] at hy
      refine ⟨fn, _, assign, body, hy, roundIn_of_wpIn hfn (hassign _ x W _ ⟨_, run_beginRound hl (by rw [hL]), ?_⟩)⟩
      obtain ⟨Wb, hWb⟩ : ∃ Wb, Wb = W.putObj (s + 1) (.loop { L .ready none with state := .busy }) := ⟨_, rfl⟩
      have hl2 : Wb.heap[s + 1]? = some (.loop { L .ready none with state := .busy }) := by rw [hWb]; exact World.putObj_heap_same hlt
      have hk2 : Wb.heap[s]? = some (.deferred (some [])) := by rw [hWb]; exact (World.putObj_heap_other (by omega)).trans hk
      have zb : Wb.heap.size = W.heap.size := by rw [hWb]; simp
      have turnL : ∀ (A : World) (o : Obj), A.heap[s + 1]? = some o → o.isCells = false → MayTurn w.heap.size hi A (some (s + 1)) := fun A o ho hc r e => by cases e; exact ⟨by omega, .inr ⟨o, ho, hc⟩⟩
      have hib : I hi pre Wb := by rw [hWb]; exact hI hi _ _ _ _ hi0 (grownBy_putObj' W (s + 1) _) (turnL W _ hl rfl)
      have kb : KeepsC K W1.heap.size hi W Wb := by rw [hWb]; exact KeepsC.putObj W _ nK (by omega)
      have hlo2 : w.heap.size + 2 ≤ hi := by omega
      have hbd := hbody (s + 1) hi pre x Wb hlo2 (by omega) hsp hib
      rw [hWb] at hbd
      refine wpIn_mono hbd ?_
      rw [← hWb]
      have fin : ∀ (jump : Option Code) (W3 : World), KeepsC K w.heap.size hi Wb W3 →
          (Instr.endRound (s + 1) jump).run P W3 = .ok (.bool jump.isNone) (W3.putObj (s + 1) (.loop (L (if jump.isNone then .ready else .done) jump))) ∧
          MayTurn w.heap.size hi W3 (some (s + 1)) ∧
          (W3.putObj (s + 1) (.loop (L (if jump.isNone then .ready else .done) jump))).heap[s + 1]? = some (.loop (L (if jump.isNone then .ready else .done) jump)) ∧
          (W3.putObj (s + 1) (.loop (L (if jump.isNone then .ready else .done) jump))).heap[s]? = some (.deferred (some [])) ∧
          KeepsC K W1.heap.size hi W3 (W3.putObj (s + 1) (.loop (L (if jump.isNone then .ready else .done) jump))) := fun jump W3 hk3 => by
        have hl3 : W3.heap[s + 1]? = some (.loop { L .ready none with state := .busy }) := (hk3.rows _ (.inr ⟨by omega, by omega⟩)).trans hl2
        have hr := run_endRound (P := P) jump hl3
        have e1 : ({ { L .ready none with state := .busy } with state := if jump.isNone then .ready else .done, pending := jump } : Loop) = L (if jump.isNone then .ready else .done) jump := by rw [hL]
        rw [e1] at hr
        exact ⟨hr, turnL W3 _ hl3 rfl, World.putObj_heap_same (Array.getElem?_eq_some_iff.1 hl3).1, (World.putObj_heap_other (by omega)).trans ((hk3.rows _ (.inr ⟨by omega, by omega⟩)).trans hk2), KeepsC.putObj W3 _ nK (by omega)⟩
      rintro e a3 W3 hp
      cases e with
      | normal =>
        obtain ⟨hk3, hi3⟩ := hp
        obtain ⟨hr, ht, hl4, hk4, hk5⟩ := fin none W3 hk3
        exact ⟨_, _, hr, .inl ⟨rfl, ⟨hI hi _ _ _ _ hi3 (grownBy_putObj' W3 (s + 1) _) ht, hl4, hk4⟩, kb.trans ((hk3.less (by omega)).trans hk5)⟩⟩
      | ret =>
        obtain ⟨hk3, hi3⟩ := hp
        obtain ⟨hr, ht, hl4, hk4, hk5⟩ := fin (some .ret) W3 hk3
        exact ⟨_, _, hr, .inr ⟨rfl, ⟨.ret, hIx _ hi _ _ _ _ hi3 (grownBy_putObj' W3 (s + 1) _) ht, hl4, hk4⟩, kb.trans ((hk3.less (by omega)).trans hk5)⟩⟩
      | exit id =>
        obtain ⟨hk3, hi3⟩ := hp
        obtain ⟨hr, ht, hl4, hk4, hk5⟩ := fin (some (.exit id)) W3 hk3
        exact ⟨_, _, hr, .inr ⟨rfl, ⟨.exit id, hIx _ hi _ _ _ _ hi3 (grownBy_putObj' W3 (s + 1) _) ht, hl4, hk4⟩, kb.trans ((hk3.less (by omega)).trans hk5)⟩⟩
      | goto t =>
        obtain ⟨hk3, hi3⟩ := hp
        obtain ⟨hr, ht, hl4, hk4, hk5⟩ := fin (some (.goto t)) W3 hk3
        exact ⟨_, _, hr, .inr ⟨rfl, ⟨.goto t, hIx _ hi _ _ _ _ hi3 (grownBy_putObj' W3 (s + 1) _) ht, hl4, hk4⟩, kb.trans ((hk3.less (by omega)).trans hk5)⟩⟩
      | panic ch => exact hp.elim
      | outgrown => exact hp.elim
    · rintro e W2 ⟨⟨v, rfl⟩, hi, hlo, (⟨xs, hS, hi2, hl, hk⟩ | ⟨pre, hSp, c, hi2, hl, hk⟩)⟩
      · have ht : MayTurn w.heap.size hi W2 (some (s + 1)) := fun r e => by cases e; exact ⟨by omega, .inr ⟨_, hl, rfl⟩⟩
        have hr := run_endLoop (P := P) hl (by rw [hL]; simp)
        obtain ⟨o3, ho3⟩ : ∃ o3 : Obj, o3 = .loop { L .ready none with state := .exhausted } := ⟨_, rfl⟩
        rw [← ho3] at hr
        have e2 : (L .ready none).pending = none := by rw [hL]
        rw [e2] at hr
        refine ⟨none, _, hr, ?_⟩
        have := hdone s hi xs _ (by omega) (by omega) hS (hI hi _ _ _ _ hi2 (grownBy_putObj' W2 (s + 1) o3) ht) ((World.putObj_heap_other (by omega)).trans hk)
        exact this
      · have ht : MayTurn w.heap.size hi W2 (some (s + 1)) := fun r e => by cases e; exact ⟨by omega, .inr ⟨_, hl, rfl⟩⟩
        have hr := run_endLoop (P := P) hl (by rw [hL]; simp)
        obtain ⟨o3, ho3⟩ : ∃ o3 : Obj, o3 = .loop { L .done (some c) with state := .exhausted } := ⟨_, rfl⟩
        rw [← ho3] at hr
        have e2 : (L .done (some c)).pending = some c := by rw [hL]
        rw [e2] at hr
        refine ⟨some c, _, hr, ?_⟩
        exact hstop s hi c pre _ (by omega) (by omega) hSp (hIx c hi _ _ _ _ hi2 (grownBy_putObj' W2 (s + 1) o3) ht) ((World.putObj_heap_other (by omega)).trans hk)
end Go.Proofs.YtchdeboialbdiaaDoor
