/- Texts joined, one behind the other (STextF, SRoundH, SAllC, SGather). -/
import Derived.Test.YtchdeboialbdiaaDoorSk38
import Derived.OrdersHeld
import Derived.RegionIn
/- The program's textOf: all that it lays is new. -/
namespace Go.Proofs.YtchdeboialbdiaaDoor
set_option linter.unusedVariables false
set_option linter.unusedSimpArgs false
open Go.RowKit
open Go.Lib hiding intOf
def TextF (w : World) (l : List UInt8) (e : Ending) (w' : World) : Prop :=
  ∃ a c a2 c2, e = .returned (.agg #[.slice a (valsL l).length c, .slice a2 ((valsL l).length + 1) c2]) ∧ ReadsTok w' a (valsL l).length (valsL l) ∧ AtsIn w' a2 (atsL l) ∧ Below w.heap.size w w' ∧ (∀ ad, a = some ad → w.heap.size ≤ ad.block) ∧ (∀ ad, a2 = some ad → w.heap.size ≤ ad.block)
set_option maxHeartbeats 4000000 in
set_option maxRecDepth 100000 in
theorem textOfF (w : World) (l : List UInt8) (hm : l.length ≤ 67108864) (hT : Tabs w) :
    Calls Tryd.prog 39 #[.string (bstr l)] w (TextF w l) := by
  have hb0 : Below w.heap.size w (w.alloc (.cells #[.slice none 0 0, .slice none 0 0] 96)) := (Below.refl _ w).alloc (Nat.le_refl _) _
  have hC := charsC (w.alloc (.cells #[.slice none 0 0, .slice none 0 0] 96)) l hm (hT.below hb0 hT.size)
  have hal := ats_len l
  have hC2 : Calls Tryd.prog 34 #[.string (bstr l)] (w.alloc (.cells #[.slice none 0 0, .slice none 0 0] 96)) fun e w' => ∃ a c a2 c2, e = .returned (.tuple #[.slice a (valsL l).length c, .slice a2 ((valsL l).length + 1) c2]) ∧ ReadsTok w' a (valsL l).length (valsL l) ∧ AtsIn w' a2 (atsL l) ∧ Below w.heap.size w w' ∧ Row w' w.heap.size 96 [.slice none 0 0, .slice none 0 0] ∧ (∀ ad, a = some ad → w.heap.size + 1 ≤ ad.block) ∧ (∀ ad, a2 = some ad → w.heap.size + 1 ≤ ad.block) := hC.mono (by
    rintro e w' ⟨vl, va, rfl, ht, hi, hb⟩
    obtain ⟨a, c, rfl, r1, r2, r3⟩ := ht.shape
    obtain ⟨a2, c2, rfl, s1, s2⟩ := hi.shape
    rw [World.size_alloc] at r2 s1
    refine ⟨a, c, a2, c2, by rw [hal], r1, ?_, hb0.trans (hb.mono hb0.size), ?_, fun ad h => by have := (r2 ad h).1; omega, fun ad h => by have := (s1 ad h).1; omega⟩
    · obtain ⟨g, h1, _, h2, h3⟩ := s2 (by omega)
      exact ⟨g, h1, h2, h3⟩
    · have hr : Row (w.alloc (.cells #[.slice none 0 0, .slice none 0 0] 96)) w.heap.size 96 [.slice none 0 0, .slice none 0 0] := row_new w [.slice none 0 0, .slice none 0 0] _
      exact hr.keep hb hr.lt)
  have HC := Lib.hid hC2
  unfold TextF
  generalize hn : (valsL l).length = n at *
  have HN := Lib.hid hn
  clear hC hC2 hT hb0 hal hn
  go_enter Tryd.func39, Tryd.ntmps39
  go_wp2_with (go_at_call 34; refine (HC.out).mono ?_; rintro e w1 ⟨a, c, a2, c2, rfl, hrt, hai, hb, hro, na1, na2⟩; have r0 := hro.cell 0; have r1 := hro.cell 1; have r2 := hro.frozen 0; have r3 := hro.frozen 1; have r4 := hro.lt; have HRT := Lib.hid hrt; have HAI := Lib.hid hai; have HB := Lib.hid hb; have HRO := Lib.hid hro; have HNA := Lib.hid (⟨na1, na2⟩ : _ ∧ _); clear hrt hai hb hro na1 na2)
  have hR := (HRO.out.set 0 (.slice a n c)).set 1 (.slice a2 (n + 1) c2)
  refine bodyPost_ret (results_cell_row rfl _ _ w.heap.size 96 #[.slice a n c, .slice a2 (n + 1) c2] (0, 0) _ rfl hR Tryd.underlying96 rfl (by kernel_rfl)) rfl ?_
  have hg := grown_then (grownBy_set w1 w.heap.size 0 (.slice a n c)) (grownBy_set (w1.setCell ⟨w.heap.size, 0, none⟩ (.slice a n c)) w.heap.size 1 (.slice a2 (n + 1) c2)) (fun j h => .inr h)
  refine ⟨a, c, a2, c2, rfl, HRT.out.grown hg (fun ad h e => by have := HNA.out.1 ad h; omega), ?_, (HB.out.setCell (p := ⟨w.heap.size, 0, none⟩) (Nat.le_refl _) _).setCell (p := ⟨w.heap.size, 1, none⟩) (Nat.le_refl _) _, fun ad h => by have := HNA.out.1 ad h; omega, fun ad h => by have := HNA.out.2 ad h; omega⟩
  obtain ⟨g, h1, h2, h3⟩ := HAI.out
  have hne := HNA.out.2 _ h1
  have hblk := hg.block g h2 (fun e => by have := Option.some.inj e; simp only at hne; omega)
  exact ⟨g, h1, Nat.lt_of_lt_of_le h2 hg.size, fun k x hx => by rw [World.cell?_of_block (a := ⟨g, k, none⟩) hblk]; exact h3 k x hx⟩
end Go.Proofs.YtchdeboialbdiaaDoor
/- A region that draws its order, within a round, with a yield in it: loads may be taken first. -/
namespace Go.Proofs.YtchdeboialbdiaaDoor
open Go.RowKit Go.Shelf
section
variable {l n : Nat} {P : Program} {ops : Array Oper} {Q : Exit → Act → World → Prop} {md : Region.Mode} {S : World → Prop}
def noDefer (ops : Array Oper) : Bool := ops.toList.all fun o => match o.op with | .defer _ => false | _ => true
theorem noDefer_spec (hd : noDefer ops = true) {i : Nat} {o : Oper} (ho : ops[i]? = some o) : ∀ c, o.op ≠ .defer c := fun c e => by
  have hm : o ∈ ops.toList := by
    have := Array.mem_of_getElem? ho
    simpa using this
  have := List.all_eq_true.1 hd o hm
  rw [e] at this
  cases this
def wpAnyHI (l n : Nat) (P : Program) (md : Region.Mode) (ops : Array Oper) (Q : Exit → Act → World → Prop) (S : World → Prop) : Nat → Array Bool → Act → World → Prop
  | 0, listed, a, w => Region.ready md ops listed = [] ∧ Q .normal a w
  | fuel + 1, listed, a, w =>
    (Region.ready md ops listed = [] → Q .normal a w) ∧
    ∀ i ∈ Region.ready md ops listed, wpOpIn (Fence.wide.inRound l) n P ops Q i (fun a' w' => S w' ∧ wpAnyHI l n P md ops Q S fuel (listed.setIfInBounds i true) a' w') a w
theorem wpOpIn_mono2 {F : Fence} {i : Nat} {K K' : Act → World → Prop} {a : Act} {w : World} (h : ∀ a w, K a w → K' a w) (hh : wpOpIn F n P ops Q i K a w) : wpOpIn F n P ops Q i K' a w := by
  unfold wpOpIn at *
  cases ho : ops[i]? with
  | none => rw [ho] at hh; exact h _ _ hh
  | some o =>
    rw [ho] at hh
    dsimp only at hh ⊢
    split
    · rename_i hw; simp only [hw, if_true] at hh; exact Oper.wpIn_mono h hh
    · rename_i hw; simp only [hw] at hh; exact ⟨hh.1, h _ _ hh.2⟩
theorem wpAnyIn_of_heldI : ∀ (fuel : Nat) (listed : Array Bool) (a : Act) (w : World), wpAnyHI l n P md ops Q S fuel listed a w → wpAnyIn (Fence.wide.inRound l) n P md ops Q fuel listed a w
  | 0, _, _, _, h => h
  | fuel + 1, _, _, _, h => ⟨h.1, fun i hi => wpOpIn_mono2 (fun a' w' h' => wpAnyIn_of_heldI fuel _ a' w' h'.2) (h.2 i hi)⟩
theorem yields_wpOpIn (hd : noDefer ops = true) {i : Nat} {o : Oper} {v : Value} {a : Act} (hi : ops[i]? = some o) (hy : YieldsIf P ops S o v a)
    {K : Act → World → Prop} {w : World} (hS : S w) (h : K (a.put o.dst v) w) : wpOpIn (Fence.wide.inRound l) n P ops Q i K a w := by
  unfold wpOpIn
  simp only [hi]
  rcases hy with ⟨hw, hv⟩ | ⟨hw, rfl⟩
  · simp only [hw, if_true]
    refine ⟨fun _ _ => trivial, ?_⟩
    show o.uponIn _ _ _ _ _ _ ((Oper.semAt (some l) a.eval o).run P w)
    rw [Oper.semAt_some l _ _ (noDefer_spec hd hi), hv w hS]
    exact h
  · simp only [hw, Bool.false_eq_true, if_false]; exact ⟨fun _ _ => trivial, h⟩
theorem wpOpIn_putIf (hd : noDefer ops = true) {j : Nat} {oi oj : Oper} {v : Value} (hj : ops[j]? = some oj) (hap : oi.apart ops oj = true)
    (hsi : ∀ cs b, oi.op ≠ .select cs b) (hsj : ∀ cs b, oj.op ≠ .select cs b)
    (hQ : ∀ c a w, Q (.panic c) (a.put oi.dst v) w → Q (.panic c) a w) {K : Act → World → Prop} {a : Act} {w : World}
    (hy : YieldsIf P ops S oi v a) (h : wpOpIn (Fence.wide.inRound l) n P ops Q j K (a.put oi.dst v) w) :
    wpOpIn (Fence.wide.inRound l) n P ops Q j (fun a' w' => YieldsIf P ops S oi v a' ∧ K (a'.put oi.dst v) w') a w := by
  obtain ⟨h1, h2, h3⟩ := Oper.apart_spec hap
  have keep : ∀ (a : Act), YieldsIf P ops S oi v a → ∀ u, YieldsIf P ops S oi v (a.put oj.dst u) := fun a hy u =>
    hy.of_same (execOp_put oi hsi a oj.dst u h3) (wanted_put oi a oj.dst u h3)
  have keepD : ∀ d, YieldsIf P ops S oi v { a with defers := d :: a.defers } := fun d => hy.of_same rfl rfl
  have hnd := noDefer_spec hd hj
  unfold wpOpIn at *
  simp only [hj] at *
  rw [wanted_put oj a oi.dst v h1] at h
  split
  · rename_i hw
    simp only [hw, if_true] at h
    refine ⟨fun _ _ => trivial, ?_⟩
    have h := h.2
    have hs : ∀ b : Act, (oj.semAt (Fence.wide.inRound l).round b.eval) = execOp b.eval oj := fun b => Oper.semAt_some l _ _ hnd
    rw [hs] at h ⊢
    rw [execOp_put oj hsj a oi.dst v h1] at h
    generalize (execOp a.eval oj).run P w = r at *
    cases r with
    | ok n w' =>
      cases n <;> simp only [Oper.uponIn] at h ⊢
      case value u => exact ⟨keep a hy u, by rw [← Act.put_comm a v u h2]; exact h⟩
      case skip => exact ⟨keep a hy _, by rw [← Act.put_comm a v undef h2]; exact h⟩
      case defer d =>
        refine ⟨keep _ (keepD d) _, ?_⟩
        rw [← Act.put_comm _ v undef h2, ← Act.put_defers]
        exact h
      case enter f args =>
        refine ⟨h.1, CallsIn.mono h.2 fun e w'' he => ?_⟩
        cases e with
        | returned u => exact ⟨keep a hy u, by rw [← Act.put_comm a v u h2]; exact he⟩
        | panicked c => exact hQ _ _ _ he
        | outgrown => exact he
      case row row args => exact ⟨h.1, RowsIn.mono h.2 fun u w'' he => ⟨keep a hy u, by rw [← Act.put_comm a v u h2]; exact he⟩⟩
      case round =>
        refine ⟨h.1, RoundIn.mono h.2 fun e w'' he => ?_⟩
        cases e with
        | returned u => exact ⟨keep a hy u, by rw [← Act.put_comm a v u h2]; exact he⟩
        | panicked c => exact hQ _ _ _ he
        | outgrown => exact he
    | halt x w' =>
      cases x <;> simp only [Oper.uponIn] at h ⊢
      case panic u => exact hQ _ _ _ h
  · rename_i hw
    simp only [hw] at h
    exact ⟨fun _ _ => trivial, keep a hy _, by rw [← Act.put_comm a v undef h2]; exact h.2⟩
theorem wpAnyHI_first (hd : noDefer ops = true) {i : Nat} {oi : Oper} {v : Value} (hi : ops[i]? = some oi) (hsel : ∀ (j : Nat) (o : Oper) cs b, ops[j]? = some o → o.op ≠ .select cs b)
    (hQ : ∀ c a w, Q (.panic c) (a.put oi.dst v) w → Q (.panic c) a w) :
    ∀ (fuel : Nat) (listed : Array Bool) (a : Act) (w : World),
      (∀ j oj, ops[j]? = some oj → j ≠ i → listed.getD j true = false → (∀ e ∈ oj.after, Region.binds md e = true → e.on ≠ i) → oi.apart ops oj = true) →
      i ∈ Region.ready md ops listed → YieldsIf P ops S oi v a → S w →
      wpAnyHI l n P md ops Q S fuel (listed.setIfInBounds i true) (a.put oi.dst v) w → wpAnyHI l n P md ops Q S (fuel + 1) listed a w := by
  intro fuel
  induction fuel with
  | zero =>
    intro listed a w _ hr hy hS H
    refine ⟨fun h => (by rw [h] at hr; cases hr), fun j hj => ?_⟩
    by_cases hji : j = i
    · subst hji; exact yields_wpOpIn hd hi hy hS ⟨hS, H⟩
    · have := ready_mono hj hji
      rw [H.1] at this
      cases this
  | succ fuel ih =>
    intro listed a w hfree hr hy hS H
    refine ⟨fun h => (by rw [h] at hr; cases hr), fun j hj => ?_⟩
    by_cases hji : j = i
    · subst hji; exact yields_wpOpIn hd hi hy hS ⟨hS, H⟩
    · have h1 := H.2 j (ready_mono hj hji)
      obtain ⟨hjun, oj, hoj, hall⟩ := mem_ready.1 hj
      have hnot : ∀ e ∈ oj.after, Region.binds md e = true → e.on ≠ i := fun e he hb heq => by
        have h1 := hall e he hb
        have h0 := (mem_ready.1 hr).1
        rw [heq] at h1
        rcases Nat.lt_or_ge i listed.size with h' | h'
        · simp [h'] at h0 h1; rw [h0] at h1; cases h1
        · simp [Array.getElem?_eq_none h'] at h1
      have h2 := wpOpIn_putIf hd hoj (hfree j oj hoj hji hjun hnot) (fun cs b => hsel i oi cs b hi) (fun cs b => hsel j oj cs b hoj) hQ hy h1
      have hfree' : ∀ k ok, ops[k]? = some ok → k ≠ i → (listed.setIfInBounds j true).getD k true = false →
          (∀ e ∈ ok.after, Region.binds md e = true → e.on ≠ i) → oi.apart ops ok = true := fun k ok hk hki hun hno => by
        refine hfree k ok hk hki ?_ hno
        by_cases hjk : j = k
        · subst hjk; exact hjun
        · rw [getD_set_ne true hjk] at hun; exact hun
      refine wpOpIn_mono2 (fun a' w' h3 => ⟨h3.2.1, ih (listed.setIfInBounds j true) a' w' hfree' (ready_mono hr (Ne.symm hji)) h3.1 h3.2.1 ?_⟩) h2
      rw [Array.setIfInBounds_comm _ _ hji]
      exact h3.2.2
theorem tkI {i : Nat} {oi : Oper} {v : Value} {fuel : Nat} {listed : Array Bool} {a : Act} {w : World} (hi : ops[i]? = some oi)
    (hy : ∀ w, S w → (execOp a.eval oi).run P w = .ok (.value v) w) (hS : S w)
    (h : wpAnyHI l n P md ops Q S fuel (listed.setIfInBounds i true) (a.put oi.dst v) w) (hd : noDefer ops = true := by kernel_rfl)
    (hs : Region.noSelect ops = true := by kernel_rfl) (hf : Region.free md ops listed i = true := by kernel_rfl) (hr : (Region.ready md ops listed).contains i = true := by kernel_rfl)
    (hw : Region.wanted oi (yielded ops a.tmps) = true := by kernel_rfl) (hQ : ∀ c a w, Q (.panic c) (a.put oi.dst v) w → Q (.panic c) a w := by exact fun _ _ _ h => h) : wpAnyHI l n P md ops Q S (fuel + 1) listed a w :=
  wpAnyHI_first hd hi (Region.noSelect_spec hs) hQ fuel listed a w (Region.free_spec hi hf) (by simpa using hr) (Or.inl ⟨hw, hy⟩) hS h
/-- the one operation that may come up -/
theorem oneI {i : Nat} {oi : Oper} {fuel : Nat} {listed : Array Bool} {a : Act} {w : World} {r : Result Next} (hi : ops[i]? = some oi) (hr : Region.ready md ops listed = [i]) (hd : noDefer ops = true)
    (hw : Region.wanted oi (yielded ops a.tmps) = true) (hx : (execOp a.eval oi).run P w = r)
    (h : oi.uponIn (Fence.wide.inRound l) n P a (fun a' w' => S w' ∧ wpAnyHI l n P md ops Q S fuel (listed.setIfInBounds i true) a' w') Q r) : wpAnyHI l n P md ops Q S (fuel + 1) listed a w := by
  refine ⟨fun h0 => (by rw [hr] at h0; cases h0), fun k hk => ?_⟩
  rw [hr, List.mem_singleton] at hk
  subst hk
  unfold wpOpIn
  simp only [hi, hw, if_true]
  refine ⟨fun _ _ => trivial, ?_⟩
  show oi.uponIn _ _ _ _ _ _ ((Oper.semAt (some l) a.eval oi).run P w)
  rw [Oper.semAt_some l _ _ (noDefer_spec hd hi), hx]
  exact h
theorem doneI {listed : Array Bool} {a : Act} {w : World} (hr : Region.ready md ops listed = []) (h : Q .normal a w) :
    ∀ fuel, wpAnyHI l n P md ops Q S fuel listed a w
  | 0 => ⟨hr, h⟩
  | _ + 1 => ⟨fun _ => h, by rw [hr]; simp⟩
/-- THE LAW: a region in a round, S held, with a yield in it -/
theorem wpIn_round_heldI {id : Nat} {a : Act} {w : World} (hm : P.follows .mixedOrders = true)
    (h : wpAnyHI l n P .any ops Q S ops.size (Array.replicate ops.size false) a w.drew) : (Code.region id ops true).wpIn (Fence.wide.inRound l) n P Q a w :=
  wpIn_region_any hm (wpAnyIn_of_heldI _ _ _ _ h)
end
end Go.Proofs.YtchdeboialbdiaaDoor
/- All pieces, by the program's iterator. -/
namespace Go.Proofs.YtchdeboialbdiaaDoor
set_option linter.unusedVariables false
set_option linter.unusedSimpArgs false
open Go.RowKit Go.Shelf
open Go.Lib hiding intOf
attribute [local go_sem] Oper.semAt_some
attribute [local go_sem] Exit.noGoto
/-- the program's All: a closure over two new boxes -/
theorem allPC (w : World) (p : Option Addr) (s : ByteArray) : Calls Tryd.prog 21 #[.pointer p, .string s] w fun e w' => e = .returned (.func (.func 43) #[] #[.pointer (some ⟨w.heap.size, 0, none⟩), .pointer (some ⟨w.heap.size + 1, 0, none⟩)]) ∧ (w.alloc (.cells #[.pointer p] 24)).alloc (.cells #[.string s] 9) = w' := by
  go_enter Tryd.func21, Tryd.ntmps21
  go_wp2
  go_ret
  exact ⟨rfl, rfl⟩
theorem foundC (w : World) (p : Option Addr) (tv : Value) (x y : Value) (h : tv = .agg #[x, y]) : Calls Tryd.prog 44 #[.pointer p, tv] w fun e w' => e = .returned (.func (.func 64) #[] #[.pointer (some ⟨w.heap.size + 1, 0, none⟩), .pointer (some ⟨w.heap.size, 0, none⟩)]) ∧ (w.alloc (.cells #[.pointer p] 24)).alloc (.cells #[x, y] 96) = w' := by
  subst h
  go_enter Tryd.func44, Tryd.ntmps44
  go_wp2
  go_ret
  exact ⟨rfl, rfl⟩
def pieceA (A : List Nat) (x : Nat × Nat) : Array Value := #[.agg #[.int .i64 ((A.getD x.1 0 : Nat) : Int), .int .i64 ((A.getD x.2 0 : Nat) : Int)]]
/-- what All's closure holds -/
def AlW (bp bs g : Nat) (lp : List UInt8) (fo : Bool) (its : List Itm) (l : List UInt8) (W : World) : Prop :=
  PatIs W g lp fo its ∧ Row W bp 24 [.pointer (some ⟨g, 0, none⟩)] ∧ Row W bs 9 [.string (bstr l)] ∧ Tabs W
theorem ReadsTok.rowsA {w W : World} {a : Option Addr} {n : Nat} {V : List Nat} (h : ReadsTok w a n V) (hr : ∀ ad, a = some ad → W.heap[ad.block]? = w.heap[ad.block]?) (hs : w.heap.size ≤ W.heap.size) : ReadsTok W a n V := by
  obtain ⟨hl, h⟩ := h
  refine ⟨hl, fun hn => ?_⟩
  obtain ⟨b, off, ha, hlt, hc⟩ := h hn
  have hb := hr _ ha
  refine ⟨b, off, ha, Nat.lt_of_lt_of_le hlt hs, fun i v hv => ?_⟩
  obtain ⟨h1, h2⟩ := hc i v hv
  exact ⟨(World.cell?_of_block (a := ⟨b, off + i * 2, none⟩) hb).trans h1, (World.cell?_of_block (a := ⟨b, off + i * 2 + 1, none⟩) hb).trans h2⟩
theorem ReadsTok.blk {w : World} {a : Option Addr} {n : Nat} {V : List Nat} (h : ReadsTok w a n V) (hn : 0 < n) {ad : Addr} (ha : a = some ad) : ad.block < w.heap.size := by
  obtain ⟨b, off, h1, h2, _⟩ := h.2 hn
  rw [ha] at h1
  cases h1
  exact h2
set_option maxHeartbeats 4000000 in
set_option maxRecDepth 100000 in
theorem allS1 (m : Nat) (hm : 8 ≤ m) (K : Nat → Prop) (w0 : World) (bp bs g : Nat) (lp l : List UInt8) (fo : Bool) (its : List Itm) (hK : Stays K w0 (AlW bp bs g lp fo its l)) (hlen : l.length ≤ 67108000) (hl : its.length ≤ 67108864) :
    SeqC Fence.wide m Tryd.prog 43 #[.pointer (some ⟨bp, 0, none⟩), .pointer (some ⟨bs, 0, none⟩)] (pieceA (atsL l)) K w0 (fun xs => xs = allP fo l its) (fun pre => pre <+: allP fo l its) := by
  intro l0 J Jx W hW hn0 hJ hJx hY h0
  have hal := ats_len l
  have hvl := vals_len l
  have hok := vals_ok l
  unfold allP at hY ⊢
  have hA0 := hK W (fun r hr => (hW r hr).2) hn0
  have hX := textOfF (W.alloc (.cells #[.func (.yield l0) #[] #[]] 102)) l (by omega) (hA0.2.2.2.below ((Below.refl _ W).alloc (Nat.le_refl _) _) hA0.2.2.2.size)
  unfold TextF at hX
  rw [World.size_alloc] at hX
  obtain ⟨V, hV⟩ : ∃ V, valsL l = V := ⟨_, rfl⟩
  obtain ⟨A, hA⟩ : ∃ A, atsL l = A := ⟨_, rfl⟩
  obtain ⟨n, hn⟩ : ∃ n, V.length = n := ⟨_, rfl⟩
  rw [hV] at hX hvl hok hal hY ⊢
  rw [hA] at hX hal hY
  rw [hn] at hX hvl hal hY ⊢
  have HN := Lib.hid hn
  have HAL := Lib.hid hal
  have HOK := Lib.hid hok
  obtain ⟨lo, hlo⟩ : ∃ lo, lo = W.heap.size := ⟨_, rfl⟩
  obtain ⟨vm, Lm, Bm, hrow, _⟩ := id hA0.1
  have p0 := hA0.2.1.cell 0
  have pl := hA0.2.1.lt
  have s0 := hA0.2.2.1.cell 0
  have sl := hA0.2.2.1.lt
  have g1 := hrow.cell 1
  have gl := hrow.lt
  have HKL : Hid (∀ r, K r → r < W.heap.size) := Lib.hid (fun r hr => by have := (hW r hr).1; omega)
  have HKW : Hid (∀ W', (∀ r, K r → W'.heap[r]? = W.heap[r]?) → W.heap.size ≤ W'.heap.size → AlW bp bs g lp fo its l W') := Lib.hid (fun W' h1 h2 => hK W' (fun r hr => (h1 r hr).trans (hW r hr).2) (Nat.le_trans hn0 h2))
  have HX := Lib.hid hX
  have HJ := Lib.hid hJ
  have HJX := Lib.hid hJx
  have HY := Lib.hid hY
  have H0 := Lib.hid h0
  have hnb : n ≤ 67108000 := by omega
  clear hJ hJx hY h0 hX hW hn0 hK hA0 hal hvl hok hn hV hA hrow
  have hm1 : 1 ≤ m := by omega
  refine callsIn_of_wp_marks Tryd.func43 rfl trivial ?_ rfl
  simp only [Tryd.ntmps43, List.size_toArray, List.length_cons, List.length_nil, Nat.reduceAdd, Nat.reduceSub, Array.replicate_succ, Array.replicate_zero, List.push_toArray, List.append_toArray, List.nil_append, List.cons_append]
  gi_wp2_with (first
    | (refine ⟨trivial, ?_⟩; gi_at_call 39; refine (callsIn_wide.2 HX.out).mono ?_; rintro e w2 ⟨a, c, a2, c2, rfl, hrt, hai, hb2, n1, n2⟩; have hbW : Below W.heap.size W w2 := ((Below.refl _ W).alloc (Nat.le_refl _) _).trans (hb2.mono (by simp)); have p2 : w2.cell? ⟨bp, 0, none⟩ = some (.pointer (some ⟨g, 0, none⟩)) := (World.cell?_of_block (a := ⟨bp, 0, none⟩) (hbW.block bp pl)).trans p0; have pl2 : bp < w2.heap.size := Nat.lt_of_lt_of_le pl hbW.size; have HBW := Lib.hid hbW; have HB2 := Lib.hid hb2; have HRT := Lib.hid hrt; have HAI := Lib.hid hai; have HNA := Lib.hid (And.intro n1 n2); clear hbW hb2 hrt hai n1 n2)
    | (refine ⟨trivial, ?_⟩; gi_at_call 44; refine (callsIn_wide.2 (foundC _ _ _ _ _ rfl)).mono ?_; rintro e w' ⟨rfl, hw'⟩))
  clear p0 s0 g1
  obtain ⟨z, hz⟩ : ∃ z, z = w2.heap.size := ⟨_, rfl⟩
  have hz1 : lo + 1 ≤ z := by have := HB2.out.size; rw [World.size_alloc] at this; omega
  have zw : w'.heap.size = z + 3 := by rw [← hw', hz]; simp
  have b3 : Below w2.heap.size w2 w' := by rw [← hw']; exact (((Below.refl _ w2).alloc (Nat.le_refl _) _).alloc (by simp) _).alloc (by simp; omega) _
  have yt : Row w' z 96 [.slice a n c, .slice a2 (n + 1) c2] := by rw [← hw', hz]; exact (Row.alloc (row_new w2 [.slice a n c, .slice a2 (n + 1) c2] _) _).alloc _
  have yp : Row w' (z + 1) 24 [.pointer (some ⟨g, 0, none⟩)] := by
    rw [← hw', hz]
    have := row_new (w2.alloc (.cells #[.slice a n c, .slice a2 (n + 1) c2] 96)) [.pointer (some ⟨g, 0, none⟩)] 24
    rw [World.size_alloc] at this
    exact this.alloc _
  have yt2 : Row w' (z + 2) 96 [.slice a n c, .slice a2 (n + 1) c2] := by
    rw [← hw', hz]
    have := row_new ((w2.alloc (.cells #[.slice a n c, .slice a2 (n + 1) c2] 96)).alloc (.cells #[.pointer (some ⟨g, 0, none⟩)] 24)) [.slice a n c, .slice a2 (n + 1) c2] 96
    rw [World.size_alloc, World.size_alloc] at this
    exact this
  have y0 : Row w2 lo 102 [.func (.yield l0) #[] #[]] := by
    rw [hlo]
    have h := row_new W [.func (.yield l0) #[] #[]] 102
    exact h.keep HB2.out (Nat.lt_succ_self _)
  have y1 : Row w' lo 102 [.func (.yield l0) #[] #[]] := y0.keep b3 y0.lt
  have hBW : Below W.heap.size W w' := HBW.out.trans (b3.mono HBW.out.size)
  have HRT' : Hid (ReadsTok w' a n V) := Lib.hid (HRT.out.keep b3 (Nat.le_refl _))
  obtain ⟨g2, rfl, g2l, hat⟩ := HAI.out.keep b3
  have hg2 : lo ≤ g2 := by have := HNA.out.2 _ rfl; rw [hlo]; simp at this; omega
  have hKw : Stays (fun r => K r ∨ (lo ≤ r ∧ r < z + 3)) w' (FoW (z + 2) (z + 1) g lp fo its a n c (some ⟨g2, 0, none⟩) c2 V) := fun W2 h1 h2 => by
    refine ⟨(HKW.out W2 (fun r hr => (h1 r (.inl hr)).trans (hBW.block r (HKL.out r hr))) (Nat.le_trans hBW.size h2)).1, row_rows yt2 (h1 _ (.inr ⟨by omega, by omega⟩)), ?_, row_rows yp (h1 _ (.inr ⟨by omega, by omega⟩))⟩
    rcases Nat.eq_zero_or_pos n with h0 | h0
    · exact ⟨HRT'.out.1, fun h => absurd h (by omega)⟩
    · exact HRT'.out.rowsA (fun ad h => h1 _ (.inr ⟨by have := HNA.out.1 ad h; omega, by have := HRT'.out.blk h0 h; omega⟩)) h2
  rw [← hlo] at HKL HJ HJX HY H0 hBW ⊢
  rw [← hz]
  have gW : W.grownBy w' none := below_other (hlo ▸ hBW)
  have HAT : Hid (∀ (k x : Nat), A[k]? = some x → w'.cell? ⟨g2, k, none⟩ = some (.int .i64 (x : Int))) := Lib.hid hat
  have HSQ := Lib.hid (found1 (m - 1) (by omega) (fun r => K r ∨ (lo ≤ r ∧ r < z + 3)) w' (z + 2) (z + 1) g lp fo its a (some ⟨g2, 0, none⟩) n c c2 V hKw HOK.out HN.out hnb hl)
  have HLO := Lib.hid hlo
  have HG2 : Hid (g2 < z + 3) := Lib.hid (by omega)
  clear hat hKw hw' b3 y0 hz p2 pl2 hlo yp yt2 hBW
  refine wpIn_rangeFunc_C rfl hm1 (gf := 64) (lb := #[.pointer (some ⟨z + 2, 0, none⟩), .pointer (some ⟨z + 1, 0, none⟩)]) rfl trivial (enters_of Tryd.func64 (by kernel_rfl) rfl)
    HSQ.out (fun r hr => ⟨(show K r ∨ (lo ≤ r ∧ r < z + 3) from hr).elim (fun h => (by have := HKL.out r h; omega)) (fun h => (by omega)), rfl⟩) (Nat.le_refl _) (fun _ => rfl)
    (fun hi pre Wx => J hi pre Wx ∧ Row Wx lo 102 [.func (.yield l0) #[] #[]] ∧ Row Wx z 96 [.slice a n c, .slice (some ⟨g2, 0, none⟩) (n + 1) c2] ∧ ∀ (k x : Nat), A[k]? = some x → Wx.cell? ⟨g2, k, none⟩ = some (.int .i64 (x : Int)))
    (fun c hi pre Wx => c = .ret ∧ Jx hi pre Wx) ?hI ?hIx ?h0
    (fun x => { tmps := #[.func (.yield l0) #[] #[], .pointer (some ⟨bp, 0, none⟩), .pointer (some ⟨bs, 0, none⟩), .pointer (some ⟨lo, 0, none⟩), .pointer (some ⟨z, 0, none⟩), .int .i64 (x.1 : Int), .int .i64 (x.2 : Int), .pointer (some ⟨g, 0, none⟩), .bool false, .bool false, .pointer (some ⟨g, 0, none⟩), .pointer (some ⟨g, 0, none⟩), .pointer (some ⟨g, 1, none⟩), .bool true, .bool false, .bool false, .string (bstr l), .agg #[.slice a n c, .slice (some ⟨g2, 0, none⟩) (n + 1) c2], .pointer (some ⟨g, 0, none⟩), .agg #[.slice a n c, .slice (some ⟨g2, 0, none⟩) (n + 1) c2], .func (.func 64) #[] #[.pointer (some ⟨z + 1 + 1, 0, none⟩), .pointer (some ⟨z + 1, 0, none⟩)], .int .i64 (x.1 : Int), .int .i64 (x.2 : Int), undef, undef, undef, undef, undef, undef, undef, undef, undef, undef, undef, undef, undef, undef], defers := [] }) ?assign ?body ?done ?stop
  case assign =>
    intro l' x Wx K hK
    obtain ⟨xa, xb⟩ := x
    unfold twoV
    gi_wp2
    exact hK
  case hI =>
    rintro hi pre B B' row ⟨h1, h2, h3, h4⟩ hg ht
    have ne : ∀ k, k < z + 3 → some k ≠ row := fun k hk e => by have := (ht k e.symm).1; omega
    exact ⟨HJ.out hi _ B B' row h1 hg (fun r e => ⟨by have := (ht r e).1; omega, (ht r e).2⟩), (hg.block _ h2.lt (ne _ (by omega))).trans h2, (hg.block _ h3.lt (ne _ (by omega))).trans h3, fun k x hx => hg.cell (h4 k x hx) (ne _ HG2.out)⟩
  case hIx =>
    rintro c hi pre B B' row ⟨h1, h2⟩ hg ht
    exact ⟨h1, HJX.out hi _ B B' row h2 hg (fun r e => ⟨by have := (ht r e).1; omega, (ht r e).2⟩)⟩
  case h0 =>
    intro hi hh
    exact ⟨HJ.out hi _ W _ none (H0.out hi (by omega)) gW (fun r e => by cases e), y1, yt, HAT.out⟩
  case done =>
    rintro D hi xs Wx hD hDh rfl ⟨q1, q2, q3, q4⟩ hd
    gi_wp2
    refine ⟨by simp, .inl ⟨_, _, rfl, run_takeDeferred hd, ?_⟩⟩
    refine ⟨_, results_none rfl _ _ _, ⟨_, rfl⟩, hi, by have := HLO.out; omega, .inl ⟨_, rfl, ?_⟩⟩
    exact HJ.out hi _ Wx _ (some D) q1 (grownBy_putObj' Wx D _) (fun r e => by cases e; exact ⟨by omega, .inl hDh⟩)
  case stop =>
    rintro D hi c pre Wx hD hDh hpre ⟨rfl, q1⟩ hd
    gi_wp2
    refine ⟨by simp, .inl ⟨_, _, rfl, run_takeDeferred hd, ?_⟩⟩
    exact ⟨_, results_none rfl _ _ _, ⟨_, rfl⟩, hi, by have := HLO.out; omega, .inr ⟨_, hpre, HJX.out hi _ Wx _ (some D) q1 (grownBy_putObj' Wx D _) (fun r e => by cases e; exact ⟨by omega, .inl hDh⟩)⟩⟩
  case body =>
    rintro l' hi pre x Wx hhi1 hhi2 hpx ⟨hj, y1, y2, y3⟩
    have hpx : pre ++ [x] <+: allGo fo V its n (n + 1) 0 := hpx
    obtain ⟨_, hxn, hxl⟩ := allGo_mem fo V its n _ _ x (hpx.subset (List.mem_append_right _ (List.mem_singleton_self _)))
    have hyn : x.2 ≤ n := by have := longest_le hxl; have := HN.out; omega
    obtain ⟨i, j⟩ := x
    simp only at hxn hyn
    have ci := y3 i _ (getD_at (by rw [HAL.out]; omega))
    have cj := y3 j _ (getD_at (by rw [HAL.out]; omega))
    obtain ⟨X, hX⟩ : ∃ X : Int, ((A.getD i 0 : Nat) : Int) = X := ⟨_, rfl⟩
    obtain ⟨Y, hY⟩ : ∃ Y : Int, ((A.getD j 0 : Nat) : Int) = Y := ⟨_, rfl⟩
    have hrow : pieceA A (i, j) = #[.agg #[.int .i64 X, .int .i64 Y]] := by unfold pieceA; rw [hX, hY]
    rw [hX] at ci
    rw [hY] at cj
    have i1 : (i : Int) < (n : Int) + 1 := by omega
    have j1 : (j : Int) < (n : Int) + 1 := by omega
    have hbd : Below Wx.heap.size Wx Wx.drew := (Below.refl _ Wx).drew
    have gd : Wx.grownBy Wx.drew none := below_other hbd
    obtain ⟨fn, tmps, assign, body, hy, hR⟩ := HY.out hi pre (i, j) Wx.drew (HJ.out hi _ Wx Wx.drew none hj gd (fun r e => by cases e)) hpx (by omega) hhi2
    rw [hrow] at hy
    have hR2 : RoundIn Fence.wide (m - 1) Tryd.prog l0 fn tmps assign body Wx.drew fun e W' => ∃ b : Bool, e = .returned (.bool b) ∧ KeepsC K lo hi Wx.drew W' ∧ (b = true → J hi (pre ++ [(i, j)]) W') ∧ (b = false → Jx hi (pre ++ [(i, j)]) W') := hR.mono (by
      rintro e W' (⟨rfl, h1, h2⟩ | ⟨rfl, h1, h2⟩)
      · exact ⟨true, rfl, h2, fun _ => h1, fun h => (by cases h)⟩
      · exact ⟨false, rfl, h2, fun h => (by cases h), fun _ => h1⟩)
    have HR := Lib.hid (RoundIn_any (l' := l') (m' := m - 1 - 1 - 1) rfl hR2)
    have c3 := y1.cell 0
    have c4 := y2.cell 1
    have FIN : Hid (∀ W4, KeepsC K lo hi Wx.drew W4 → KeepsC (fun r => K r ∨ (lo ≤ r ∧ r < z + 3)) (z + 3) hi Wx W4 ∧ Row W4 lo 102 [.func (.yield l0) #[] #[]] ∧ Row W4 z 96 [.slice a n c, .slice (some ⟨g2, 0, none⟩) (n + 1) c2] ∧ (∀ (k x : Nat), A[k]? = some x → (W4.cell? ⟨g2, k, none⟩ = some (.int .i64 (x : Int)))) ∧ W4.cell? ⟨g2, i, none⟩ = some (.int .i64 X) ∧ W4.cell? ⟨g2, j, none⟩ = some (.int .i64 Y)) := Lib.hid (fun W4 hk4 => by
      have hkd : KeepsC K lo hi Wx Wx.drew := KeepsC.grown gd (fun r hr => by have := HKL.out r hr; omega) hhi2 (fun r e => by cases e)
      have hk := hkd.trans hk4
      refine ⟨hk.sub2 (by omega) (fun r hr => ?_), (hk.rows lo (.inr ⟨Nat.le_refl _, by omega⟩)).trans y1, (hk.rows z (.inr ⟨by omega, by omega⟩)).trans y2, fun k x hx => ?_, (World.cell?_of_block (a := ⟨g2, i, none⟩) (hk.rows g2 (.inr ⟨hg2, by have := HG2.out; omega⟩))).trans ci, (World.cell?_of_block (a := ⟨g2, j, none⟩) (hk.rows g2 (.inr ⟨hg2, by have := HG2.out; omega⟩))).trans cj⟩
      · rcases (show K r ∨ (lo ≤ r ∧ r < z + 3) from hr) with h | h
        · exact .inl h
        · exact .inr ⟨by omega, by omega⟩
      · exact (World.cell?_of_block (a := ⟨g2, k, none⟩) (hk.rows g2 (.inr ⟨hg2, by have := HG2.out; omega⟩))).trans (y3 k x hx))
    clear hR hR2 hrow hX hY hxl hj y1 y2 y3 gd hbd yt
    gi_wp2
    -- region begins
    have hS0 : (fun W : World => W.cell? ⟨lo, 0, none⟩ = some (.func (.yield l0) #[] #[]) ∧ W.cell? ⟨z, 1, none⟩ = some (.slice (some ⟨g2, 0, none⟩) (n + 1) c2) ∧ W.cell? ⟨g2, i, none⟩ = some (.int .i64 X) ∧ W.cell? ⟨g2, j, none⟩ = some (.int .i64 Y)) Wx.drew := ⟨c3, c4, ci, cj⟩
    refine wpIn_round_heldI (S := (fun W : World => W.cell? ⟨lo, 0, none⟩ = some (.func (.yield l0) #[] #[]) ∧ W.cell? ⟨z, 1, none⟩ = some (.slice (some ⟨g2, 0, none⟩) (n + 1) c2) ∧ W.cell? ⟨g2, i, none⟩ = some (.int .i64 X) ∧ W.cell? ⟨g2, j, none⟩ = some (.int .i64 Y))) (by kernel_rfl) ?_
    refine tkI (i := 0) (oi := ⟨some 23, .load 102 (.tmp 3), 102, "seek.go:440", #[], none⟩) (v := ?v0) rfl ?y0 hS0 ?r0
    case y0 => (rintro w2_ ⟨s1, s2, s3, s4⟩; go_simp; try with_reducible rfl)
    try simp only [Act.put, pB, pC, pD]
    refine tkI (i := 1) (oi := ⟨some 24, .fieldAddr 96 (.tmp 4) 1, 0, "seek.go:440", #[], none⟩) (v := ?v1) rfl ?y1 hS0 ?r1
    case y1 => (rintro w2_ ⟨s1, s2, s3, s4⟩; go_simp; try with_reducible rfl)
    try simp only [Act.put, pB, pC, pD]
    refine tkI (i := 2) (oi := ⟨some 25, .load 72 (.tmp 24), 72, "seek.go:440", #[⟨1, .data⟩], none⟩) (v := ?v2) rfl ?y2 hS0 ?r2
    case y2 => (rintro w2_ ⟨s1, s2, s3, s4⟩; go_simp; try with_reducible rfl)
    try simp only [Act.put, pB, pC, pD]
    refine tkI (i := 3) (oi := ⟨some 26, .move (.tmp 5), 3, "seek.go:440", #[], none⟩) (v := ?v3) rfl ?y3 hS0 ?r3
    case y3 => (rintro w2_ ⟨s1, s2, s3, s4⟩; go_simp; try with_reducible rfl)
    try simp only [Act.put, pB, pC, pD]
    refine tkI (i := 4) (oi := ⟨some 27, .indexAddr 72 (.tmp 25) (.tmp 26), 0, "seek.go:440", #[⟨2, .data⟩, ⟨3, .data⟩], none⟩) (v := ?v4) rfl ?y4 hS0 ?r4
    case y4 => (rintro w2_ ⟨s1, s2, s3, s4⟩; have e1 := i1; go_simp; try with_reducible rfl)
    try simp only [Act.put, pB, pC, pD]
    refine tkI (i := 5) (oi := ⟨some 28, .load 3 (.tmp 27), 3, "seek.go:440", #[⟨4, .data⟩], none⟩) (v := ?v5) rfl ?y5 hS0 ?r5
    case y5 => (rintro w2_ ⟨s1, s2, s3, s4⟩; go_simp; try with_reducible rfl)
    try simp only [Act.put, pB, pC, pD]
    refine tkI (i := 6) (oi := ⟨some 29, .fieldAddr 96 (.tmp 4) 1, 0, "seek.go:440", #[], none⟩) (v := ?v6) rfl ?y6 hS0 ?r6
    case y6 => (rintro w2_ ⟨s1, s2, s3, s4⟩; go_simp; try with_reducible rfl)
    try simp only [Act.put, pB, pC, pD]
    refine tkI (i := 7) (oi := ⟨some 30, .load 72 (.tmp 29), 72, "seek.go:440", #[⟨6, .data⟩], none⟩) (v := ?v7) rfl ?y7 hS0 ?r7
    case y7 => (rintro w2_ ⟨s1, s2, s3, s4⟩; go_simp; try with_reducible rfl)
    try simp only [Act.put, pB, pC, pD]
    refine tkI (i := 8) (oi := ⟨some 31, .move (.tmp 6), 3, "seek.go:440", #[], none⟩) (v := ?v8) rfl ?y8 hS0 ?r8
    case y8 => (rintro w2_ ⟨s1, s2, s3, s4⟩; go_simp; try with_reducible rfl)
    try simp only [Act.put, pB, pC, pD]
    refine tkI (i := 9) (oi := ⟨some 32, .indexAddr 72 (.tmp 30) (.tmp 31), 0, "seek.go:440", #[⟨7, .data⟩, ⟨8, .data⟩], none⟩) (v := ?v9) rfl ?y9 hS0 ?r9
    case y9 => (rintro w2_ ⟨s1, s2, s3, s4⟩; have e1 := j1; go_simp; try with_reducible rfl)
    try simp only [Act.put, pB, pC, pD]
    refine tkI (i := 10) (oi := ⟨some 33, .load 3 (.tmp 32), 3, "seek.go:440", #[⟨9, .data⟩], none⟩) (v := ?v10) rfl ?y10 hS0 ?r10
    case y10 => (rintro w2_ ⟨s1, s2, s3, s4⟩; go_simp; try with_reducible rfl)
    try simp only [Act.put, pB, pC, pD]
    refine tkI (i := 11) (oi := ⟨some 34, .build 40 #[(0, .tmp 28), (1, .tmp 33)], 40, "seek.go:440", #[⟨5, .data⟩, ⟨10, .data⟩], none⟩) (v := ?v11) rfl ?y11 hS0 ?r11
    case y11 => (rintro w2_ ⟨s1, s2, s3, s4⟩; go_simp; try with_reducible rfl)
    try simp only [Act.put, pB, pC, pD]
    refine oneI (i := 12) (oi := ⟨some 35, .call { callee := Callee.value (.tmp 23), args := #[.tmp 34], argTypes := #[40] }, 4, "seek.go:440", #[⟨0, .data⟩, ⟨11, .data⟩], none⟩) (r := .ok (.round l0 fn tmps assign body) Wx.drew) rfl (by kernel_rfl) (by kernel_rfl) (by kernel_rfl) (by go_simp <;> exact hy) ?_
    refine ⟨fun h => (by cases h), HR.out.mono ?_⟩
    rintro e W4 ⟨b, rfl, hk4, ht4, hf4⟩
    obtain ⟨q1, q2, q3, q4, q5, q6⟩ := FIN.out _ hk4
    have hS4 : (fun W : World => W.cell? ⟨lo, 0, none⟩ = some (.func (.yield l0) #[] #[]) ∧ W.cell? ⟨z, 1, none⟩ = some (.slice (some ⟨g2, 0, none⟩) (n + 1) c2) ∧ W.cell? ⟨g2, i, none⟩ = some (.int .i64 X) ∧ W.cell? ⟨g2, j, none⟩ = some (.int .i64 Y)) W4 := ⟨q2.cell 0, q3.cell 1, q5, q6⟩
    have H4 := Lib.hid (And.intro hk4 (And.intro ht4 (And.intro hf4 (And.intro q1 (And.intro q2 (And.intro q3 q4))))))
    clear hk4 ht4 hf4 q1 q2 q3 q4 q5 q6
    refine ⟨hS4, ?_⟩
    try simp only [Act.put, pB, pC, pD]
    refine tkI (i := 13) (oi := ⟨some 36, .unOp UnOp.not 4 (.tmp 35), 4, "seek.go:440", #[⟨12, .data⟩], none⟩) (v := ?v13) rfl ?y13 hS4 ?r13
    case y13 => (rintro w2_ ⟨s1, s2, s3, s4⟩; go_simp; try with_reducible rfl)
    try simp only [Act.put, pB, pC, pD]
    refine doneI (by kernel_rfl) ?_ _
    -- region ends
    rcases b with _ | _
    all_goals gi_wp2
    all_goals
      obtain ⟨k4, t4, f4, q1, q2, q3, q4⟩ := H4.out
      first
        | exact ⟨(by first | exact q1 | (rw [zw]; exact q1)), rfl, f4 (by first | rfl | trivial)⟩
        | exact ⟨(by first | exact q1 | (rw [zw]; exact q1)), t4 (by first | rfl | trivial), q2, q3, q4⟩
end Go.Proofs.YtchdeboialbdiaaDoor
/- Pieces that are gathered in a box, round by round. -/
namespace Go.Proofs.YtchdeboialbdiaaDoor
set_option linter.unusedVariables false
set_option linter.unusedSimpArgs false
open Go.RowKit Go.Shelf
open Go.Lib
theorem own_abides2 {lo hi : Nat} {A A' : World} {row : Option Nat} {e : TypeId} {size : Nat} {v : Value} {n : Nat} {xs : List Value} (h : A.ownsRow hi e size v n xs) (hg : A.grownBy A' row) (ht : MayTurn lo hi A row) : A'.ownsRow hi e size v n xs := by
  refine h.kept hg ?_
  rcases h.2 with ⟨rfl, _⟩ | ⟨g, cap, cur, rfl, hb, hgr, _⟩
  · exact .inl rfl
  · refine .inr fun e' => ?_
    have e' : some g = row := e'
    obtain ⟨h1, h2 | ⟨o, ho, hc⟩⟩ := ht g e'.symm
    · omega
    · rw [hgr] at ho; cases ho; cases hc
/-- what is gathered lies in the box gb, its row in memory that is newer than hi; all else below is as it was -/
def GI (w : World) (gb : Nat) (A : List Nat) (hi : Nat) (pre : List (Nat × Nat)) (W : World) : Prop :=
  w.grownBy W (some gb) ∧ ∃ v, Row W gb 44 [v] ∧ W.ownsRow hi 40 2 v pre.length (pre.flatMap (pcCells A))
theorem GI.abides {w : World} {gb hi : Nat} {A : List Nat} (hgb : gb < w.heap.size) : AbidesC w.heap.size hi (GI w gb A hi) := by
  rintro pre B B' row ⟨h1, v, h2, h3⟩ hg ht
  have ne : ∀ k, k < w.heap.size → some k ≠ row := fun k hk e => by have := (ht k e.symm).1; omega
  refine ⟨⟨hg.os.trans h1.os, hg.tape.trans h1.tape, hg.output.trans h1.output, Nat.le_trans h1.size hg.size, fun k hk hn => (hg.block k (Nat.lt_of_lt_of_le hk h1.size) (ne k hk)).trans (h1.block k hk hn)⟩, v, (hg.block gb (Nat.lt_of_lt_of_le hgb h1.size) (ne gb hgb)).trans h2, own_abides2 h3 hg ht⟩
theorem GI.next {K : Nat → Prop} {w W w1 : World} {gb hi : Nat} {A : List Nat} {v v' : Value} {pre : List (Nat × Nat)} {x : Nat × Nat} {o : Obj} (hgb : gb < w.heap.size) (hK : ∀ r, K r → r < w.heap.size ∧ r ≠ gb) (h1 : w.grownBy W (some gb)) (h2 : Row W gb 44 [v]) (h3 : W.ownsRow hi 40 2 v pre.length (pre.flatMap (pcCells A)))
    (hg : (W.alloc o).grownBy w1 v.ownBlock) (hown' : w1.ownsRow hi 40 2 v' (pre.length + 1) (pre.flatMap (pcCells A) ++ pcCells A x)) (hhi : w.heap.size ≤ hi) (hW : hi ≤ W.heap.size) :
    w1.cell? ⟨gb, 0, none⟩ = some v ∧ w1.frozen? ⟨gb, 0, none⟩ = false ∧ gb < w1.heap.size ∧ Hid (KeepsC K w.heap.size hi W (w1.setCell ⟨gb, 0, none⟩ v') ∧ GI w gb A hi (pre ++ [x]) (w1.setCell ⟨gb, 0, none⟩ v')) := by
  have hz : ∀ b, b < w.heap.size → w1.heap[b]? = W.heap[b]? := fun b hb => by
    refine (hg.block b (by simp; omega) (fun e => ?_)).trans (Below.heap_alloc W o b (by omega))
    have := (h3.lt b e.symm).1
    omega
  have r1 : Row w1 gb 44 [v] := (hz gb hgb).trans h2
  have g1 : KeepsC K w.heap.size hi W (W.alloc o) := KeepsC.grown (World.grownBy_alloc W o none) (fun r hr => by have := hK r hr; omega) hW (fun r e => by cases e)
  have g2 : KeepsC K w.heap.size hi (W.alloc o) w1 := by
    refine KeepsC.grown hg (fun r hr => by have := hK r hr; simp; omega) (by simp; omega) (fun r e => ?_)
    have hl := h3.lt r e
    refine ⟨fun h => by have := hK r h; omega, .inr ⟨hl.1, fun o' ho => ?_⟩⟩
    rw [Below.heap_alloc W o r hl.2] at ho
    rcases h3.2 with ⟨rfl, _⟩ | ⟨g, cap, cur, rfl, _, hgr, _⟩
    · cases e
    · cases e; rw [hgr] at ho; cases ho; rfl
  have z1 := g1.size
  have z2 := g2.size
  have gs : w1.grownBy (w1.setCell ⟨gb, 0, none⟩ v') (some gb) := grownBy_setCell' w1 gb v'
  have g3 : KeepsC K w.heap.size hi w1 (w1.setCell ⟨gb, 0, none⟩ v') := KeepsC.grown gs (fun r hr => by have := hK r hr; omega) (by omega) (fun r e => by cases e; exact ⟨fun h => (hK _ h).2 rfl, .inl hgb⟩)
  refine ⟨r1.cell 0, r1.frozen 0, r1.lt, Lib.hid ⟨(g1.trans g2).trans g3, ⟨?_, ?_, ?_, ?_, fun k hk hn => ?_⟩, v', r1.set 0 v', ?_⟩⟩
  · exact (gs.os.trans hg.os).trans h1.os
  · exact (gs.tape.trans hg.tape).trans h1.tape
  · exact (gs.output.trans hg.output).trans h1.output
  · have := h1.size; have := gs.size; omega
  · exact (gs.block k (by omega) hn).trans ((hz k hk).trans (h1.block k hk hn))
  · rw [List.length_append, List.length_singleton, List.flatMap_append]
    have := own_abides2 (lo := 0) hown' gs (fun r e => by cases e; exact ⟨Nat.zero_le _, .inl (by omega)⟩)
    simpa using this
end Go.Proofs.YtchdeboialbdiaaDoor
