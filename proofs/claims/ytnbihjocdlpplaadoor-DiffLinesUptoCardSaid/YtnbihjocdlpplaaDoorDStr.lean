/- Rows of strings; the lines of a text by the reference. -/
import Derived.Test.YtnbihjocdlpplaaDoorDLineA
import Derived.Test.YtnbihjocdlpplaaDoorDiffP
namespace Go.Proofs.YtnbihjocdlpplaaDoor
set_option linter.unusedVariables false
set_option linter.unusedSimpArgs false
open Go.RowKit
open Go.Lib
def lineCells (x : Nat × Nat × Nat) : List Value := [.int .i64 (x.1 : Int), .int .i64 (x.2.1 : Int), .int .i64 (x.2.2 : Int)]
theorem lines_len (L : List (Nat × Nat × Nat)) : (L.flatMap lineCells).length = L.length * 3 := by
  induction L with
  | nil => rfl
  | cons t L ih => rw [List.flatMap_cons, List.length_append, ih, List.length_cons]; show 3 + _ = _; omega
theorem infoLine : (Tryd.prog.info? 142).map (fun i => (i.zero, i.size, i.bytes)) = some (some (.agg #[.int .i64 0, .int .i64 0, .int .i64 0]), 3, 24) := by kernel_rfl
def OwnLn (B : Nat) (v : Value) (L : List (Nat × Nat × Nat)) (w : World) : Prop := w.ownsRow B 142 3 v L.length (L.flatMap lineCells)
theorem OwnLn.below {B : Nat} {v : Value} {L : List (Nat × Nat × Nat)} {w w' : World} (h : OwnLn B v L w) (b : Below w.heap.size w w') : OwnLn B v L w' := own_below h b
theorem OwnLn.push {B : Nat} {v : Value} {L : List (Nat × Nat × Nat)} {x : Nat × Nat × Nat} {w : World} (h : w.ownsRow B 142 3 v (L.length + 1) (L.flatMap lineCells ++ lineCells x)) : OwnLn B v (L ++ [x]) w := by
  unfold OwnLn
  rw [List.length_append, List.flatMap_append]
  simpa using h
theorem lineCells_one (x : Nat × Nat × Nat) : ∀ u ∈ lineCells x, u.oneCell' = true := by
  intro u hu
  simp only [lineCells, List.mem_cons, List.not_mem_nil, or_false] at hu
  rcases hu with rfl | rfl | rfl <;> rfl
theorem prefix_len {L M : List (Nat × Nat × Nat)} {l : List UInt8} (h : L ++ M = linesL l) : L.length ≤ l.length + 1 := by
  have h1 := linesL_len l
  rw [← h, List.length_append] at h1
  omega
set_option maxHeartbeats 4000000 in
set_option maxRecDepth 100000 in
theorem allR (w : World) (l : List UInt8) (hm : l.length ≤ 67108864) :
    Calls Tryd.prog 88 #[.string (bstr l)] w fun e w' => ∃ v, e = .returned v ∧ OwnLn w.heap.size v (linesL l) w' ∧ Below w.heap.size w w' := by
  obtain ⟨n, hn⟩ : ∃ n, n = l.length := ⟨_, rfl⟩
  have hsz : (bstr l).size = n := by rw [bstr_size, hn]
  rw [← hn] at hm
  have HN := Lib.hid hn
  have H0 : Hid (OwnLn w.heap.size (.slice none 0 0) [] w) := Lib.hid (World.ownsRow_nil _ _ _ _)
  clear hn
  go_enter Tryd.func88, Tryd.ntmps88
  go_wp2
  go_loopw [3, 4, 5] (fun vv ua ui wr => ∃ a i f : Nat, ∃ acc : List (Nat × Nat × Nat), ua = .int .i64 (a : Int) ∧ ui = .int .i64 (i : Int) ∧ a ≤ i ∧ i ≤ n ∧ Hid (n < i + f ∧ acc ++ linesGo l f a i = linesL l ∧ OwnLn w.heap.size vv acc wr ∧ Below w.heap.size w wr)) (fun _ _ ui _ => n + 1 - (RowKit.intOf ui).toNat)
  case atStart => exact ⟨0, 0, l.length + 1, [], rfl, rfl, Nat.le_refl _, Nat.zero_le _, Lib.hid ⟨by rw [HN.out]; omega, rfl, H0.out, Below.refl _ _⟩⟩
  case round =>
    obtain ⟨a, i, f, acc, rfl, rfl, hai, hil, HR⟩ := hrel
    obtain ⟨vv, rfl⟩ : ∃ v : Value, v = u3 := ⟨_, rfl⟩
    obtain ⟨f, rfl⟩ : ∃ g, f = g + 1 := ⟨f - 1, by have := HR.out.1; omega⟩
    have hacc := prefix_len HR.out.2.1
    rw [← HN.out] at hacc
    by_cases hlt : i < n
    · have HE := Lib.hid (endR wr l i (by rw [← HN.out]; exact hlt) (by rw [← HN.out]; omega))
      by_cases h0 : endL l i = 0
      · have hz : (endL l i != 0) = false := by rw [h0]; rfl
        have hq : EndQ wr l i = fun e w' => ∃ n : Int, e = .returned (.tuple #[.int .i64 n, .bool (endL l i != 0)]) ∧ Below wr.heap.size wr w' ∧ (endL l i ≠ 0 → n = (endL l i : Int)) := rfl
        rw [hq, hz] at HE
        have HGO : Hid (linesGo l (f + 1) a i = linesGo l f a (i + 1)) := Lib.hid (by rw [linesGo, if_neg (by rw [← HN.out]; omega), if_pos h0])
        clear hz hq h0
        go_wp2_with (go_at_call 97; refine (HE.out).mono ?_; rintro e w' ⟨n0, rfl, hb, hn0⟩)
        have HNX : Hid (n < i + 1 + f ∧ acc ++ linesGo l f a (i + 1) = linesL l ∧ OwnLn w.heap.size vv acc w' ∧ Below w.heap.size w w') := Lib.hid ⟨by have := HR.out.1; omega, HGO.out ▸ HR.out.2.1, HR.out.2.2.1.below hb, HR.out.2.2.2.trans (hb.mono HR.out.2.2.2.size)⟩
        go_roundw
        case rel => exact ⟨a, i + 1, f, acc, rfl, by go_num, by omega, by omega, HNX⟩
        case measure => simp [RowKit.intOf]; omega
      · have hz : (endL l i != 0) = true := by rw [bne_iff_ne]; exact h0
        have hle := (endL_le l i).resolve_left h0
        rw [← HN.out] at hle
        obtain ⟨n0, hn0⟩ : ∃ n0, endL l i = n0 := ⟨_, rfl⟩
        have HGO : Hid (linesGo l (f + 1) a i = (a, i, n0) :: linesGo l f (i + n0) (i + n0)) := Lib.hid (by rw [linesGo, if_neg (by rw [← HN.out]; omega), if_neg h0, hn0])
        have hq : EndQ wr l i = fun e w' => ∃ n : Int, e = .returned (.tuple #[.int .i64 n, .bool (endL l i != 0)]) ∧ Below wr.heap.size wr w' ∧ (endL l i ≠ 0 → n = (endL l i : Int)) := rfl
        rw [hq, hz] at HE
        rw [hn0] at HE h0 hle
        clear hz hq hn0
        have hacc2 : acc.length ≤ 1073741824 := by omega
        go_wp2_with (first
          | (go_at_call 97; refine (HE.out).mono ?_; rintro e w' ⟨n1, rfl, hb, hn1⟩; obtain rfl := hn1 h0; have HB := Lib.hid hb; have hbs := HB.out.size; have HBB : Hid (Below w.heap.size w w') := Lib.hid (HR.out.2.2.2.trans (hb.mono HR.out.2.2.2.size)); have hbw := HBB.out.size; clear hb hn1)
          | (at_builtin; refine appNew rfl _ _ rfl Tryd.underlying125 (.agg #[.int .i64 0, .int .i64 0, .int .i64 0]) 3 24 infoLine rfl (by decide) (by decide) w.heap.size w.heap.size w w' vv acc.length (acc.flatMap lineCells) (lineCells (a, i, n0)) rfl (lineCells_one _) rfl (HR.out.2.2.1.below HB.out) rfl rfl hacc2 HBB.out (Nat.le_refl _) hbw ?_; intro v8 w8 hO8 hb8 hs8))
        have HNX : Hid (n < i + n0 + f ∧ (acc ++ [(a, i, n0)]) ++ linesGo l f (i + n0) (i + n0) = linesL l ∧ OwnLn w.heap.size v8 (acc ++ [(a, i, n0)]) w8 ∧ Below w.heap.size w w8) := Lib.hid ⟨by have := HR.out.1; omega, by rw [← HR.out.2.1, HGO.out]; simp, OwnLn.push hO8, hb8⟩
        clear hO8 hb8 hs8
        go_roundw
        case rel => exact ⟨i + n0, i + n0, f, acc ++ [(a, i, n0)], by go_num, by go_num, Nat.le_refl _, hle, HNX⟩
        case measure => simp [RowKit.intOf]; omega
    · obtain rfl : i = n := by omega
      have hgo : linesGo l (f + 1) a i = [(a, i, 0)] := by rw [linesGo, if_pos (by rw [HN.out]; exact Nat.le_refl _), ← HN.out]
      have HGO : Hid (acc ++ [(a, i, 0)] = linesL l) := Lib.hid (by rw [← HR.out.2.1, hgo])
      have hacc2 : acc.length ≤ 1073741824 := by omega
      have hbw := HR.out.2.2.2.size
      clear hgo
      go_wp2_with (at_builtin; refine appNew rfl _ _ rfl Tryd.underlying125 (.agg #[.int .i64 0, .int .i64 0, .int .i64 0]) 3 24 infoLine rfl (by decide) (by decide) w.heap.size w.heap.size w wr vv acc.length (acc.flatMap lineCells) (lineCells (a, i, 0)) rfl (lineCells_one _) rfl HR.out.2.2.1 rfl rfl hacc2 HR.out.2.2.2 (Nat.le_refl _) hbw ?_; intro v8 w8 hO8 hb8 hs8)
      go_ret
      exact ⟨_, rfl, by rw [← HGO.out]; exact OwnLn.push hO8, hb8⟩
def S1 (l : List UInt8) : Value := .string (bstr l)
theorem infoStr : (Tryd.prog.info? 9).map (fun i => (i.zero, i.size, i.bytes)) = some (some (.string ByteArray.empty), 1, 16) := by kernel_rfl
def StrOwn (B : Nat) (v : Value) (L : List (List UInt8)) (w : World) : Prop := w.ownsRow B 9 1 v L.length (L.map S1)
theorem StrOwn.below {B : Nat} {v : Value} {L : List (List UInt8)} {w w' : World} (h : StrOwn B v L w) (b : Below w.heap.size w w') : StrOwn B v L w' := own_below h b
theorem StrOwn.push {B : Nat} {v : Value} {L : List (List UInt8)} {x : List UInt8} {w : World} (h : w.ownsRow B 9 1 v (L.length + 1) (L.map S1 ++ [S1 x])) : StrOwn B v (L ++ [x]) w := by
  unfold StrOwn
  rw [List.length_append, List.map_append]
  simpa using h
/-- what a slice of strings reads as -/
def ReadsS (w : World) (a : Option Addr) (n : Nat) (L : List (List UInt8)) : Prop := Reads w a n (L.map S1)
theorem readsS_own {B : Nat} {v : Value} {L : List (List UInt8)} {w : World} (h : StrOwn B v L w) : ∃ a c, v = .slice a L.length c ∧ ReadsS w a L.length L ∧ L.length ≤ c ∧ c ≤ maxLen := reads_of_own h
theorem ReadsS.len {w : World} {a : Option Addr} {n : Nat} {L : List (List UInt8)} (h : ReadsS w a n L) : L.length = n := by have := Reads.len h; rwa [List.length_map] at this
theorem ReadsS.keep {B : Nat} {w w' : World} {a : Option Addr} {n : Nat} {L : List (List UInt8)} (h : ReadsS w a n L) (hb : Below B w w') (hB : w.heap.size ≤ B) : ReadsS w' a n L := Reads.keep h hb hB
theorem ReadsS.at {w : World} {a : Option Addr} {n : Nat} {L : List (List UInt8)} (h : ReadsS w a n L) {k : Nat} (hk : k < n) :
    ∃ b off x, a = some ⟨b, off, none⟩ ∧ b < w.heap.size ∧ L[k]? = some x ∧ w.cell? ⟨b, off + k, none⟩ = some (.string (bstr x)) := by
  obtain ⟨b, off, x, ha, hb, hx, hc⟩ := Reads.at h hk
  rw [List.getElem?_map] at hx
  cases hl : L[k]? with
  | none => rw [hl] at hx; cases hx
  | some y => rw [hl] at hx; cases hx; exact ⟨b, off, y, ha, hb, rfl, hc⟩
theorem cloneC (w : World) (s : List UInt8) (hs : s.length ≤ 1099511627776) : Calls Tryd.prog 64 #[.string (bstr s)] w fun e w' => e = .returned (.string (bstr s)) ∧ Below w.heap.size w w' := by
  have hc := Tryd.stringslite_Clone (bstr s) w (by rw [bstr_size]; omega)
  have HC := Lib.hid hc
  clear hc
  go_enter Tryd.func64, Tryd.ntmps64
  go_wp2_with (go_at_call 85; refine (HC.out).mono ?_; rintro e w' ⟨rfl, hb⟩)
  go_ret
  exact ⟨rfl, hb⟩
end Go.Proofs.YtnbihjocdlpplaaDoor
