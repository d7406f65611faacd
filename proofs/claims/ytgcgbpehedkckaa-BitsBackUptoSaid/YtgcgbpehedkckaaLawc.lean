/- The law's own inner functions, of each width; an append of bytes that may be none. -/
import Derived.Test.YtgcgbpehedkckaaLawa
import Derived.Test.YtgcgbpehedkckaaTaker
import Derived.Lib.AppendZeros
namespace Go.Proofs.Ytgcgbpehedkckaa
open Go.RowKit
theorem putLaw (w : World) (a : Option Addr) (n ca : Nat) (la : List UInt8) (v s : Nat) (hs : s = 1 ∨ s = 2 ∨ s = 4 ∨ s = 8) (ha : Reads w a n (la.map B8)) (hn : n ≤ 140737488355320) (hv : v < 18446744073709551616) :
    Calls Try.prog 14 #[.slice a n ca, .int .u64 v, .int .i64 s] w fun e w' => ∃ r, e = .returned r ∧ w'.ownsRow w.heap.size 5 1 r (la ++ leB v s).length ((la ++ leB v s).map B8) ∧ Below w.heap.size w w' := by
  have hl := ha.len
  rw [List.length_map] at hl
  have e : (la ++ leB v s).length = n + s := by simp [leB, hl]
  rw [e]
  rcases hs with rfl | rfl | rfl | rfl
  · exact putLaw1 w a n ca la v ha hn hv
  · exact putLaw2 w a n ca la v ha hn hv
  · exact putLaw4 w a n ca la v ha hn hv
  · exact putLaw8 w a n ca la v ha hn hv
theorem cutLaw (v s : Nat) (w : World) (hs : s = 1 ∨ s = 2 ∨ s = 4 ∨ s = 8) (hv : v < 18446744073709551616) :
    Calls Try.prog 16 #[.int .u64 v, .int .i64 s] w fun e w' => e = .returned (.int .u64 (cutN v s : Nat)) ∧ w = w' := by
  rcases hs with rfl | rfl | rfl | rfl
  · exact cutLaw1 v w hv
  · exact cutLaw2 v w hv
  · exact cutLaw4 v w hv
  · have e : cutN v 8 = v := by unfold cutN; exact Nat.mod_eq_of_lt hv
    rw [e]; exact cutLaw8 v w hv
theorem cutN_lt (v s : Nat) (hv : v < 18446744073709551616) : cutN v s < 18446744073709551616 := Nat.lt_of_le_of_lt (Nat.mod_le _ _) hv
/-- the number at a place, and the answer's error -/
def tkV (l : List UInt8) (p : Int) (s : Nat) : Nat := if 0 ≤ p ∧ p + s ≤ l.length then leV (piece l p.toNat s) else 0
def tkE (l : List UInt8) (p : Int) (s : Nat) : Nat := if 0 ≤ p ∧ p + s ≤ l.length then 0 else 6
theorem takeLaw (w : World) (a : Option Addr) (n ca : Nat) (la : List UInt8) (p : Int) (s : Nat) (hs : s = 1 ∨ s = 2 ∨ s = 4 ∨ s = 8) (ha : Reads w a n (la.map B8)) (hn : n ≤ 140737488355328) (hp1 : -9223372036854775808 ≤ p) (hp2 : p ≤ 9223372036854775807) :
    Calls Try.prog 22 #[.slice a n ca, .int .i64 p, .int .i64 s] w fun e w' => e = .returned (.tuple #[.int .u64 (tkV la p s), .int .i64 (tkE la p s)]) ∧ Below w.heap.size w w' := by
  have hl := ha.len
  rw [List.length_map] at hl
  by_cases h : 0 ≤ p ∧ p + s ≤ la.length
  · rw [show tkV la p s = leV (piece la p.toNat s) from if_pos h, show tkE la p s = 0 from if_pos h]
    obtain ⟨h0, h1⟩ := h
    obtain ⟨q, rfl⟩ := Int.eq_ofNat_of_zero_le h0
    have hq : q + s ≤ n := by omega
    rcases hs with rfl | rfl | rfl | rfl
    · exact takeLaw1 w a n ca la q ha hn hq
    · exact takeLaw2 w a n ca la q ha hn hq
    · exact takeLaw4 w a n ca la q ha hn hq
    · exact takeLaw8 w a n ca la q ha hn hq
  · rw [show tkV la p s = 0 from if_neg h, show tkE la p s = 6 from if_neg h]
    have h' : p < 0 ∨ (n : Int) - s < p := by omega
    rcases hs with rfl | rfl | rfl | rfl
    · exact takeNoLaw1 w a n ca p hn h' hp1 hp2
    · exact takeNoLaw2 w a n ca p hn h' hp1 hp2
    · exact takeNoLaw4 w a n ca p hn h' hp1 hp2
    · exact takeNoLaw8 w a n ca p hn h' hp1 hp2
theorem takeDoc (w : World) (a : Option Addr) (n ca : Nat) (la : List UInt8) (p : Int) (s : Nat) (hs : s ≤ 8) (ha : Reads w a n (la.map B8)) (hn : n ≤ 140737488355328) (hp1 : -9223372036854775808 ≤ p) (hp2 : p ≤ 9223372036854775807) :
    Calls Try.prog 23 #[.slice a n ca, .int .i64 p, .int .i64 s] w fun e w' => e = .returned (.tuple #[.int .u64 (tkV la p s), .int .i64 (tkE la p s)]) ∧ Below w.heap.size w w' := by
  have hl := ha.len
  rw [List.length_map] at hl
  by_cases h : 0 ≤ p ∧ p + s ≤ la.length
  · rw [show tkV la p s = leV (piece la p.toNat s) from if_pos h, show tkE la p s = 0 from if_pos h]
    obtain ⟨h0, h1⟩ := h
    obtain ⟨q, rfl⟩ := Int.eq_ofNat_of_zero_le h0
    exact takeRef w a n ca la q s ha hn (by omega) hs
  · rw [show tkV la p s = 0 from if_neg h, show tkE la p s = 6 from if_neg h]
    exact takeNoRef w a n ca p s hn (by omega) hs hp1 hp2
theorem not_ne (x : Nat) : ((x : Int) != (x : Int)) = false := by simp
theorem leV_leB (s v : Nat) : leV (leB v s) = v % 256 ^ s := by
  induction s generalizing v with
  | zero => simp [leB, leV, Nat.mod_one]
  | succ s ih =>
    have e : leB v (s + 1) = UInt8.ofNat v :: leB (v / 256) s := by
      simp only [leB, List.range_succ_eq_map, List.map_cons, List.map_map, Nat.pow_zero, Nat.div_one]
      congr 1
      refine List.map_congr_left fun i _ => ?_
      simp only [Function.comp_apply, Nat.succ_eq_add_one, Nat.div_div_eq_div_mul]
      rw [Nat.pow_succ, Nat.mul_comm]
    rw [e, leV, ih, UInt8.toNat_ofNat']
    conv => rhs; rw [Nat.pow_succ, Nat.mul_comm (256 ^ s) 256, Nat.mod_mul]
theorem piece_mid (a b c : List UInt8) : piece (a ++ b ++ c) a.length b.length = b := by
  unfold piece
  rw [List.append_assoc, List.drop_left, List.take_left]
theorem tk_mid (la lc : List UInt8) (v s : Nat) : tkV (la ++ leB v s ++ lc) (la.length : Int) s = cutN v s ∧ tkE (la ++ leB v s ++ lc) (la.length : Int) s = 0 := by
  have hs : (leB v s).length = s := by simp [leB]
  have h : (0 : Int) ≤ (la.length : Int) ∧ (la.length : Int) + s ≤ ((la ++ leB v s ++ lc).length : Int) := by
    simp only [List.length_append, hs]; omega
  refine ⟨?_, if_pos h⟩
  rw [tkV, if_pos h]
  have e := piece_mid la (leB v s) lc
  rw [hs] at e
  rw [Int.toNat_natCast, e, leV_leB]
  rfl
theorem tk_past (l : List UInt8) (p : Int) (s : Nat) (h : (l.length : Int) < p + s) : tkE l p s = 6 := if_neg (by omega)
/-- bytes, or none, put behind a row of the call's own that is not nil -/
theorem wpList_append_reads {P : Program} {w : World} {ops : Array Oper} {rest : List Oper} {o : Oper} {a : Act} {Q : Exit → Act → World → Prop} (hgd : o.guard = none) (s x : Operand) (t : TypeId)
    (ho : o.op = .call { callee := .builtin .append, args := #[s, x], argTypes := #[t, t] })
    (base : Nat) (e : TypeId) (i : TypeInfo) (z : Value) (bytes : Nat) (ht : P.underlying t = some (.slice e)) (hi : P.info? e = some i) (hz : i.zero = some z)
    (hsize : i.size = 1) (hby : i.bytes = bytes) (hzs : z.cells.size = 1)
    (g n cap : Nat) (xs : List Value) (hs : a.eval s = .slice (some ⟨g, 0, none⟩) n cap) (hown : w.ownsRow base e 1 (.slice (some ⟨g, 0, none⟩) n cap) n xs)
    (ad : Option Addr) (m c : Nat) (news : List Value) (hx : a.eval x = .slice ad m c) (hr : Reads w ad m news) (h1 : ∀ u ∈ news, u.oneCell' = true)
    (h63 : n + m ≤ maxLen) (hbytes : (n + m) * bytes ≤ 140737488355328) (hbase : base ≤ w.heap.size)
    (h : ∀ v' w', w'.ownsRow base e 1 v' (n + m) (xs ++ news) → w.grownBy w' (some g) → wpList P ops Q rest (a.put o.dst v') w') : wpList P ops Q (o :: rest) a w := by
  have hl := hr.len
  by_cases hm : m = 0
  · subst hm
    obtain rfl : news = [] := List.eq_nil_of_length_eq_zero hl
    have hle : n ≤ cap := by
      rcases hown.2 with ⟨hv, _⟩ | ⟨g', c', cur, hv, _, _, h3, _⟩
      · cases hv
      · cases hv; exact h3
    have hrun : (Builtin.append_ #[t, t] o.type #[.slice (some ⟨g, 0, none⟩) n cap, .slice ad 0 c]).run P w = .ok (.slice (some ⟨g, 0, none⟩) n cap) w := by
      cases ad <;> simp [Builtin.append_, run_underlying ht, sizeOf, typeInfo, hi, Builtin.lenOf, Builtin.firstCells, loadCells, loadCellsFrom, storeCells, hle]
    refine Lib.wpList_append_run w hgd s x t t ho _ _ hs hx _ _ hrun (h _ w ?_ ⟨rfl, rfl, rfl, Nat.le_refl _, fun _ _ _ => rfl⟩)
    rw [List.append_nil]
    exact hown
  · obtain ⟨ad', rfl, hc⟩ := hr.src (by omega)
    exact wpList_append_own w hgd s x t ho base e i z 1 bytes ht hi hz hsize hby hzs (by omega) _ n xs hs hown ad' m c news hx (by omega) hc h1 h63 hbytes hbase (fun v' w' r1 r2 _ => h v' w' r1 r2)
end Go.Proofs.Ytgcgbpehedkckaa
