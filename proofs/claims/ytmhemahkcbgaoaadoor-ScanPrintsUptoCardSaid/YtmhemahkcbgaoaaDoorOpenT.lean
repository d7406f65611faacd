/- A slice of tokens that came in. -/
import Derived.Test.YtmhemahkcbgaoaaDoorRows
import Derived.Test.YtmhemahkcbgaoaaDoorPrintR
import Derived.Deep.Slices
import Derived.OpenShut
import Derived.ProofKit
import Derived.JoinedCond
namespace Go.Proofs.YtmhemahkcbgaoaaDoor
open Go.ChangeShapes Go.WideShapes Go.ChangeAt Go.RowKit Go.Deep
theorem wf_num {x : Int} (h : (Lit.int .i64 x).wf = true) : -9223372036854775808 ≤ x ∧ x ≤ 9223372036854775807 := by
  simpa [Lit.wf, IntKind.min, IntKind.max, IntKind.signed, IntKind.bits] using h
theorem field_of {o : Option Field} {P : Program} {a b : Nat} {c : Option TypeDesc} (h : o.map (fun f => (f.offset, P.cellsOf f.type, P.underlying f.type)) = some (a, b, c)) : ∃ f, o = some f ∧ f.offset = a ∧ P.cellsOf f.type = b ∧ P.underlying f.type = c := by
  cases o with
  | none => cases h
  | some f =>
    simp only [Option.map_some, Option.some.injEq, Prod.mk.injEq] at h
    exact ⟨f, rfl, h.1, h.2.1, h.2.2⟩
theorem tok_fields : ∃ fs : Array Field, Tryd.prog.underlying 38 = some (.struct fs) ∧ fs.size = 4 ∧
    (fs[0]?).map (fun f => (f.offset, Tryd.prog.cellsOf f.type, Tryd.prog.underlying f.type)) = some (0, 1, some (.int .i64)) ∧
    (fs[1]?).map (fun f => (f.offset, Tryd.prog.cellsOf f.type, Tryd.prog.underlying f.type)) = some (1, 1, some (.int .i64)) ∧
    (fs[2]?).map (fun f => (f.offset, Tryd.prog.cellsOf f.type, Tryd.prog.underlying f.type)) = some (2, 1, some .string) ∧
    (fs[3]?).map (fun f => (f.offset, Tryd.prog.cellsOf f.type, Tryd.prog.underlying f.type)) = some (3, 1, some (.int .i64)) :=
  ⟨Tryd.prog.fieldsOf 38, by kernel_rfl, by kernel_rfl, by kernel_rfl, by kernel_rfl, by kernel_rfl, by kernel_rfl⟩
theorem tok_cells : Tryd.prog.cellsOf 38 = 4 := by kernel_rfl
theorem drop_one {cs : List Value} {k : Nat} (h : k < cs.length) : (cs.drop k).take 1 = [cs[k]] := by
  rw [List.drop_eq_getElem_cons h]; rfl
theorem bulk_mem {H : Type} {d : DataW H} {l : List (DataW H)} (h : d ∈ l) : Rows.uptoBulk d ≤ Rows.uptoBulkAll l := by
  induction l with
  | nil => cases h
  | cons x r ih =>
    simp only [Rows.uptoBulkAll]
    cases List.mem_cons.1 h with
    | inl e => subst e; omega
    | inr e => have := ih e; omega
set_option maxRecDepth 100000 in
/-- one token out of its cells -/
theorem open_tok {H : Type} {enc : TypeId × Value → H} {W : World} {base : Nat} {spare : Nat → Bool} {held : Bool} {fuel : Nat} {cs : List Value} {d : DataW H} {ps : List MemPlace}
    (h : DataW.trod enc Tryd.prog W base spare held fuel 38 cs = some (d, ps)) :
    ∃ x : Tok, cs = tokCells x ∧ (Lit.int .i64 x.num).wf = true ∧ x.text.length + 1 ≤ Rows.uptoBulk d := by
  obtain ⟨tf, ut, tsz, s0, s1, s2, s3⟩ := tok_fields
  obtain ⟨ys, n, _, hx, hcl, hyl, hf⟩ := DataW.trod_struct ut h
  rw [tok_cells] at hcl
  rw [tsz] at hyl
  obtain ⟨f0, g0, o0, k0, u0⟩ := field_of s0
  obtain ⟨f1, g1, o1, k1, u1⟩ := field_of s1
  obtain ⟨f2, g2, o2, k2, u2⟩ := field_of s2
  obtain ⟨f3, g3, o3, k3, u3⟩ := field_of s3
  have t0 := hf 0 f0 g0
  have t1 := hf 1 f1 g1
  have t2 := hf 2 f2 g2
  have t3 := hf 3 f3 g3
  rw [o0, k0, drop_one (by omega), List.getElem?_eq_getElem (by omega)] at t0
  rw [o1, k1, drop_one (by omega), List.getElem?_eq_getElem (by omega)] at t1
  rw [o2, k2, drop_one (by omega), List.getElem?_eq_getElem (by omega)] at t2
  rw [o3, k3, drop_one (by omega), List.getElem?_eq_getElem (by omega)] at t3
  obtain ⟨n0, e0, y0, w0⟩ := DataW.trod_int u0 t0
  obtain ⟨n1, e1, y1, w1⟩ := DataW.trod_int u1 t1
  obtain ⟨s2, e2, y2, w2⟩ := DataW.trod_string u2 t2
  obtain ⟨n3, e3, y3, w3⟩ := DataW.trod_int u3 t3
  refine ⟨⟨n0, n1, s2.data.toList, n3⟩, ?_, w3, ?_⟩
  · match cs, hcl, e0, e1, e2, e3 with
    | [c0, c1, c2, c3], _, e0, e1, e2, e3 =>
      obtain rfl : c0 = .int .i64 n0 := (List.cons.inj e0).1
      obtain rfl : c1 = .int .i64 n1 := (List.cons.inj e1).1
      obtain rfl : c2 = .string s2 := (List.cons.inj e2).1
      obtain rfl : c3 = .int .i64 n3 := (List.cons.inj e3).1
      rfl
  · obtain ⟨rfl, _⟩ := Prod.mk.inj hx
    have hm : (DataW.lit (.string s2.data.toList) : DataW H) ∈ ys.map (·.1) := by
      refine List.mem_map.2 ⟨ys[2]'(by omega), List.getElem_mem _, ?_⟩
      rw [y2]
    have := bulk_mem hm
    simp only [Rows.uptoBulk] at this ⊢
    omega
/-- a slice of tokens that came in -/
theorem openToks {H : Type} {enc : TypeId × Value → H} {W : World} {base : Nat} {spare : Nat → Bool} {held : Bool} {fuel : Nat} {cs : List Value} {x : DataW H × List MemPlace} {t : TypeId} (ht : Tryd.prog.underlying t = some (.slice 38))
    (h : DataW.trod enc Tryd.prog W base spare held fuel t cs = some x) (hw : Rows.uptoBulk x.1 ≤ 1048576) :
    ∃ (a : Option Addr) (n c : Nat) (L : List Tok), cs = [.slice a n c] ∧ ReadsT W a n L ∧ n ≤ c ∧ c ≤ maxLen ∧ tokSum L ≤ 1048576 ∧ ∀ y ∈ L, TokOk y := by
  rcases open_slice ht h with ⟨rfl, rfl⟩ | ⟨a, len, cap, m, nf, D, Pl, rfl, hb, hl, hm, hmm, rfl, hi⟩
  · exact ⟨none, 0, 0, [], rfl, ⟨rfl, fun h => by omega⟩, Nat.le_refl _, Nat.zero_le _, Nat.zero_le _, fun y hy => by cases hy⟩
  · have hlm : len ≤ m := by rw [hmm]; split <;> omega
    have hone : ∀ i, i < len → ∃ y : Tok, (∀ k v, (tokCells y)[k]? = some v → W.cell? (a.add (i * 4 + k)) = some v) ∧ (Lit.int .i64 y.num).wf = true ∧ y.text.length + 1 ≤ Rows.uptoBulk (D i) := fun i hil => by
      obtain ⟨cs', hc, ht'⟩ := hi i (by omega)
      obtain ⟨y, hy, w0, w1⟩ := open_tok ht'
      obtain ⟨_, hcl, hat⟩ := World.cells?_some hc
      rw [tok_cells] at hcl hat
      refine ⟨y, fun k v hv => ?_, w0, w1⟩
      have hk : k < 4 := (List.getElem?_eq_some_iff.1 hv).1
      have h1 := hat k hk
      rw [hy, hv] at h1
      have e : (a.add (i * 4)).add k = a.add (i * 4 + k) := by
        unfold Addr.add; split <;> split <;> simp_all <;> omega
      rw [← e]
      exact h1
    let F : Nat → Tok := fun i => if hil : i < len then Classical.choose (hone i hil) else ⟨0, 0, [], 0⟩
    have hF : ∀ i, i < len → (∀ k v, (tokCells (F i))[k]? = some v → W.cell? (a.add (i * 4 + k)) = some v) ∧ (Lit.int .i64 (F i).num).wf = true ∧ (F i).text.length + 1 ≤ Rows.uptoBulk (D i) := fun i hil => by
      have h1 := Classical.choose_spec (hone i hil)
      simp only [F, dif_pos hil]
      exact h1
    have hsum : tokSum ((List.range len).map F) ≤ Rows.uptoBulkAll ((List.range len).map D) := by
      have hall : ∀ (l : List Nat), (∀ i ∈ l, i < len) → tokSum (l.map F) ≤ Rows.uptoBulkAll (l.map D) := by
        intro l
        induction l with
        | nil => intro _; exact Nat.zero_le _
        | cons i l ih =>
          intro hl
          have h1 := ih fun j hj => hl j (List.mem_cons_of_mem _ hj)
          have h2 := (hF i (hl i (List.mem_cons_self ..))).2.2
          unfold tokSum at h1 ⊢
          simp only [List.map_cons, List.sum_cons, Rows.uptoBulkAll] at h1 ⊢
          omega
      exact hall _ fun i hi => List.mem_range.1 hi
    have hsum2 : tokSum ((List.range len).map F) ≤ 1048576 := by
      simp only [Rows.uptoBulk] at hw
      omega
    refine ⟨some a, len, cap, (List.range len).map F, rfl, ⟨by simp, fun hn => ?_⟩, hl, hm, hsum2, fun y hy => ?_⟩
    · obtain ⟨b, o, sp⟩ := a
      have h0 := (hF 0 hn).1 1 (.int .i64 (F 0).at') rfl
      have hsp : sp = none := by
        have h00 := (hF 0 hn).1 0 (.int .i64 (F 0).kind) rfl
        simpa [Addr.add] using World.cell?_spot h00
      subst hsp
      have hlt : b < W.heap.size := by
        rw [cell_add] at h0
        exact World.block_lt_of_cell? W _ h0
      refine ⟨b, o, rfl, hlt, fun i x hx k v hv => ?_⟩
      have hil : i < len := by
        have := (List.getElem?_eq_some_iff.1 hx).1
        simpa using this
      rw [List.getElem?_map, List.getElem?_range hil] at hx
      obtain rfl : F i = x := by simpa using hx
      have h2 := (hF i hil).1 k v hv
      rw [cell_add] at h2
      rw [Nat.add_assoc]
      exact h2
    · have hy' := tokSum_mem hy
      obtain ⟨i, hi', rfl⟩ := List.mem_map.1 hy
      have hwf := (hF i (List.mem_range.1 hi')).2.1
      have hr := wf_num hwf
      exact ⟨by omega, hr.1, hr.2⟩
end Go.Proofs.YtmhemahkcbgaoaaDoor
