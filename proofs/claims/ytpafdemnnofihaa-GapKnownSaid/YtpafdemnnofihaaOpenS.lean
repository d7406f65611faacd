/- A slice of steps that came in. -/
import Derived.Test.YtpafdemnnofihaaOpen
import Derived.Test.YtpafdemnnofihaaStep
namespace Go.Proofs.Ytpafdemnnofihaa
open Go.ChangeShapes Go.WideShapes Go.ChangeAt Go.RowKit Go.Deep
/-- The slice at a of n steps reads as these. -/
def ReadsSteps (w : World) (a : Option Addr) (n : Nat) (L : List StepL) : Prop :=
  L.length = n ∧ (0 < n → ∃ b off, a = some ⟨b, off, none⟩ ∧ b < w.heap.size ∧ ∀ i x, L[i]? = some x → ∀ k v, x.cells[k]? = some v → w.cell? ⟨b, off + i * 4 + k, none⟩ = some v)
theorem ReadsSteps.keep {B : Nat} {w w' : World} {a : Option Addr} {n : Nat} {L : List StepL} (h : ReadsSteps w a n L) (hb : Below B w w') (hB : w.heap.size ≤ B) : ReadsSteps w' a n L := by
  obtain ⟨hl, h⟩ := h
  refine ⟨hl, fun hn => ?_⟩
  obtain ⟨b, off, ha, hlt, hc⟩ := h hn
  exact ⟨b, off, ha, Nat.lt_of_lt_of_le hlt hb.size, fun i x hx k v hv => by rw [hb.cell (p := ⟨b, off + i * 4 + k, none⟩) (Nat.lt_of_lt_of_le hlt hB)]; exact hc i x hx k v hv⟩
theorem ReadsSteps.at {w : World} {a : Option Addr} {n : Nat} {L : List StepL} (h : ReadsSteps w a n L) {i : Nat} (hi : i < n) :
    ∃ b off x, a = some ⟨b, off, none⟩ ∧ b < w.heap.size ∧ L[i]? = some x ∧ w.cell? ⟨b, off + i * 4, none⟩ = some (.int .i64 x.act) ∧ w.cell? ⟨b, off + i * 4 + 1, none⟩ = some (.int .i64 x.lo) ∧ w.cell? ⟨b, off + i * 4 + 2, none⟩ = some (.int .i64 x.hi) ∧ w.cell? ⟨b, off + i * 4 + 3, none⟩ = some (.string (bstr x.txt)) := by
  obtain ⟨hl, h⟩ := h
  obtain ⟨b, off, ha, hlt, hc⟩ := h (by omega)
  have hx : L[i]? = some L[i] := List.getElem?_eq_getElem (by omega)
  have := hc i _ hx
  exact ⟨b, off, L[i], ha, hlt, hx, this 0 _ rfl, this 1 _ rfl, this 2 _ rfl, this 3 _ rfl⟩
theorem weights_all_mem {H : Type} {P : Program} {e : TypeId} : ∀ {l : List (DataW H)} {d : DataW H}, d ∈ l → ∀ n ∈ d.weights P e, n ∈ DataW.weightsAll P e l
  | x :: l, d, hd, n, hn => by
    simp only [DataW.weightsAll, List.mem_append]
    rcases List.mem_cons.1 hd with rfl | h
    · exact .inl hn
    · exact .inr (weights_all_mem h n hn)
theorem field_of {o : Option Field} {P : Program} {a b : Nat} {c : Option TypeDesc} (h : o.map (fun f => (f.offset, P.cellsOf f.type, P.underlying f.type)) = some (a, b, c)) : ∃ f, o = some f ∧ f.offset = a ∧ P.cellsOf f.type = b ∧ P.underlying f.type = c := by
  cases o with
  | none => cases h
  | some f =>
    simp only [Option.map_some, Option.some.injEq, Prod.mk.injEq] at h
    exact ⟨f, rfl, h.1, h.2.1, h.2.2⟩
theorem step_fields : ∃ fs : Array Field, Try.prog.underlying 41 = some (.struct fs) ∧ fs.size = 4 ∧
    (fs[0]?).map (fun f => (f.offset, Try.prog.cellsOf f.type, Try.prog.underlying f.type)) = some (0, 1, some (.int .i64)) ∧
    (fs[1]?).map (fun f => (f.offset, Try.prog.cellsOf f.type, Try.prog.underlying f.type)) = some (1, 1, some (.int .i64)) ∧
    (fs[2]?).map (fun f => (f.offset, Try.prog.cellsOf f.type, Try.prog.underlying f.type)) = some (2, 1, some (.int .i64)) ∧
    (fs[3]?).map (fun f => (f.offset, Try.prog.cellsOf f.type, Try.prog.underlying f.type)) = some (3, 1, some .string) :=
  ⟨Try.prog.fieldsOf 41, by kernel_rfl, by kernel_rfl, by kernel_rfl, by kernel_rfl, by kernel_rfl, by kernel_rfl⟩
theorem step_cells : Try.prog.cellsOf 41 = 4 := by kernel_rfl
theorem drop_one {cs : List Value} {k : Nat} (h : k < cs.length) : (cs.drop k).take 1 = [cs[k]] := by
  rw [List.drop_eq_getElem_cons h]; rfl
/-- one step out of its cells -/
theorem open_step {H : Type} {enc : TypeId × Value → H} {W : World} {base : Nat} {spare : Nat → Bool} {held : Bool} {fuel : Nat} {cs : List Value} {d : DataW H} {ps : List MemPlace}
    (h : DataW.trod enc Try.prog W base spare held fuel 41 cs = some (d, ps)) :
    ∃ x : StepL, cs = x.cells ∧ (Lit.int .i64 x.act).wf = true ∧ (Lit.int .i64 x.lo).wf = true ∧ (Lit.int .i64 x.hi).wf = true ∧ x.txt.length ∈ d.weights Try.prog 41 := by
  obtain ⟨stepFields, under_step, step_size, s0, s1, s2, s3⟩ := step_fields
  obtain ⟨ys, n, _, hx, hcl, hyl, hf⟩ := DataW.trod_struct under_step h
  rw [step_cells] at hcl
  rw [step_size] at hyl
  obtain ⟨f0, g0, o0, k0, u0⟩ := field_of s0
  obtain ⟨f1, g1, o1, k1, u1⟩ := field_of s1
  obtain ⟨f2, g2, o2, k2, u2⟩ := field_of s2
  obtain ⟨f3, g3, o3, k3, u3⟩ := field_of s3
  have t0 := hf 0 f0 g0
  have t1 := hf 1 f1 g1
  have t2 := hf 2 f2 g2
  have t3 := hf 3 f3 g3
  rw [o0, k0, drop_one (by omega), List.getElem?_eq_getElem (by omega)] at t0
  rw [o1, k1, drop_one (by omega), List.getElem?_eq_getElem (by omega)] at t1
  rw [o2, k2, drop_one (by omega), List.getElem?_eq_getElem (by omega)] at t2
  rw [o3, k3, drop_one (by omega), List.getElem?_eq_getElem (by omega)] at t3
  obtain ⟨n0, e0, y0, w0⟩ := DataW.trod_int u0 t0
  obtain ⟨n1, e1, y1, w1⟩ := DataW.trod_int u1 t1
  obtain ⟨n2, e2, y2, w2⟩ := DataW.trod_int u2 t2
  obtain ⟨s3, e3, y3, w3⟩ := DataW.trod_string u3 t3
  refine ⟨⟨n0, n1, n2, s3.data.toList⟩, ?_, w0, w1, w2, ?_⟩
  · match cs, hcl, e0, e1, e2, e3 with
    | [c0, c1, c2, c3], _, e0, e1, e2, e3 =>
      simp at e0 e1 e2 e3
      rw [e0, e1, e2, e3]
      rfl
  · obtain ⟨rfl, _⟩ := Prod.mk.inj hx
    have hm : (ys.map (·.1))[3]? = some (.lit (.string s3.data.toList)) := by
      rw [List.getElem?_map, List.getElem?_eq_getElem (by omega), y3]; rfl
    have ht : (stepFields.toList.map (·.type))[3]? = some f3.type := by
      rw [List.getElem?_map, Array.getElem?_toList, g3]; rfl
    have h1 := DataW.weights_mem_each (P := Try.prog) ht hm s3.data.toList.length (by simp [DataW.weights])
    simp only [DataW.weights, under_step]
    exact h1
/-- a slice of steps that came in -/
theorem openSteps {H : Type} {enc : TypeId × Value → H} {W : World} {base : Nat} {spare : Nat → Bool} {held : Bool} {fuel : Nat} {cs : List Value} {x : DataW H × List MemPlace} {t : TypeId} (ht : Try.prog.underlying t = some (.slice 41))
    (h : DataW.trod enc Try.prog W base spare held fuel t cs = some x) (hw : ∀ n ∈ x.1.weights Try.prog t, n ≤ reachBytes) :
    ∃ (a : Option Addr) (n c : Nat) (L : List StepL), cs = [.slice a n c] ∧ ReadsSteps W a n L ∧ n ≤ c ∧ c ≤ maxLen ∧ n * 40 ≤ reachBytes ∧ ∀ y ∈ L, y.fine := by
  rcases open_slice ht h with ⟨rfl, rfl⟩ | ⟨a, len, cap, m, nf, D, Pl, rfl, hb, hl, hm, hmm, rfl, hi⟩
  · exact ⟨none, 0, 0, [], rfl, ⟨rfl, fun h => by omega⟩, Nat.le_refl _, Nat.zero_le _, Nat.zero_le _, fun y hy => by cases hy⟩
  · have hlm : len ≤ m := by rw [hmm]; split <;> omega
    have hone : ∀ i, i < len → ∃ y : StepL, (∀ k v, y.cells[k]? = some v → W.cell? (a.add (i * 4 + k)) = some v) ∧ y.fine := fun i hil => by
      obtain ⟨cs', hc, ht'⟩ := hi i (by omega)
      obtain ⟨y, hy, w0, w1, w2, w3⟩ := open_step ht'
      obtain ⟨_, hcl, hat⟩ := World.cells?_some hc
      rw [step_cells] at hcl hat
      refine ⟨y, fun k v hv => ?_, w0, w1, w2, ?_⟩
      · have hk : k < 4 := by
          have := (List.getElem?_eq_some_iff.1 hv).1
          simpa [StepL.cells] using this
        have h1 := hat k hk
        rw [hy, hv] at h1
        have e : (a.add (i * 4)).add k = a.add (i * 4 + k) := by
          unfold Addr.add; split <;> split <;> simp_all <;> omega
        rw [← e]
        exact h1
      · have h2 := hw y.txt.length (by
          simp only [DataW.weights, ht]
          refine List.mem_cons_of_mem _ (List.mem_append_left _ (weights_all_mem (List.mem_map.2 ⟨i, List.mem_range.2 hil, rfl⟩) _ w3)))
        have h3 : reachBytes = 140737488351232 := rfl
        omega
    have hbytes : len * 40 ≤ reachBytes := by
      have h1 := hw (((List.range len).map D).length * 40 + ((List.range (m - len)).map fun j => D (len + j)).length * 40) (by
        simp only [DataW.weights, ht]
        refine List.mem_cons.2 (.inl ?_)
        rw [show Try.prog.bytesOf 41 = 40 from by kernel_rfl, Nat.add_mul])
      rw [List.length_map, List.length_range] at h1
      omega
    let F : Nat → StepL := fun i => if hil : i < len then Classical.choose (hone i hil) else ⟨0, 0, 0, []⟩
    have hF : ∀ i, i < len → (∀ k v, (F i).cells[k]? = some v → W.cell? (a.add (i * 4 + k)) = some v) ∧ (F i).fine := fun i hil => by
      have h1 := Classical.choose_spec (hone i hil)
      simp only [F, dif_pos hil]
      exact h1
    refine ⟨some a, len, cap, (List.range len).map F, rfl, ⟨by simp, fun hn => ?_⟩, hl, hm, hbytes, fun y hy => ?_⟩
    · obtain ⟨b, o, sp⟩ := a
      have h0 := (hF 0 hn).1 1 (.int .i64 (F 0).lo) rfl
      have hsp : sp = none := by
        have h00 := (hF 0 hn).1 0 (.int .i64 (F 0).act) rfl
        simpa [Addr.add] using World.cell?_spot h00
      subst hsp
      have hlt : b < W.heap.size := by
        rw [cell_add] at h0
        exact World.block_lt_of_cell? W _ h0
      refine ⟨b, o, rfl, hlt, fun i x hx k v hv => ?_⟩
      have hil : i < len := by
        have := (List.getElem?_eq_some_iff.1 hx).1
        simpa using this
      rw [List.getElem?_map, List.getElem?_range hil] at hx
      obtain rfl : F i = x := by simpa using hx
      have h2 := (hF i hil).1 k v hv
      rw [cell_add] at h2
      rw [Nat.add_assoc]
      exact h2
    · obtain ⟨i, hi', rfl⟩ := List.mem_map.1 hy
      exact (hF i (List.mem_range.1 hi')).2
end Go.Proofs.Ytpafdemnnofihaa
