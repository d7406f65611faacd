/- append that says whether the row stayed; lists of slices of bytes of the call's own. -/
import Derived.Test.YtmhemahkcbgaoaaDoorAp
import Derived.ArgAppend
namespace Go.Proofs.YtmhemahkcbgaoaaDoor
open Go.RowKit
theorem wpList_append_sep {P : Program} {w : World} {ops : Array Oper} {rest : List Oper} {o : Oper} {a : Act} {Q : Exit → Act → World → Prop} (hgd : o.guard = none) (s x : Operand) (t : TypeId)
    (ho : o.op = .call { callee := .builtin .append, args := #[s, x], argTypes := #[t, t] })
    (base : Nat) (e : TypeId) (i : TypeInfo) (z : Value) (size bytes : Nat) (ht : P.underlying t = some (.slice e)) (hi : P.info? e = some i) (hz : i.zero = some z)
    (hsize : i.size = size) (hby : i.bytes = bytes) (hzs : z.cells.size = size) (hsz : 0 < size)
    (ao : Option Addr) (n cap : Nat) (xs : List Value) (hs : a.eval s = .slice ao n cap) (hown : w.ownsRow base e size (.slice ao n cap) n xs)
    (ad : Addr) (m c : Nat) (news : List Value) (hx : a.eval x = .slice (some ad) m c) (hl : news.length = m * size) (hnews : ∀ j u, news[j]? = some u → w.cell? (ad.add j) = some u) (h1 : ∀ u ∈ news, u.oneCell' = true)
    (h63 : n + m ≤ maxLen) (hbytes : (n + m) * bytes ≤ 140737488355328) (hbase : base ≤ w.heap.size)
    (h : ∀ v' w', w'.ownsRow base e size v' (n + m) (xs ++ news) → w.grownBy w' (Value.slice ao n cap).ownBlock → (v'.ownBlock = (Value.slice ao n cap).ownBlock ∨ ∀ b, v'.ownBlock = some b → w.heap.size ≤ b) → wpList P ops Q rest (a.put o.dst v') w') : wpList P ops Q (o :: rest) a w := by
  have hxl := hown.1
  by_cases hroom : n + m ≤ cap ∧ ao ≠ none
  · obtain ⟨hroom, hne⟩ := hroom
    rcases hown.2 with ⟨hv, _⟩ | ⟨g, cap', cur, hv, _⟩
    · cases hv; exact absurd rfl hne
    · cases hv
      exact wpList_append_fits w hgd s x t ho base e i size ht hi hsize g n cap xs hs hown ad m c news hx hl hnews h1 hroom (fun w' r1 r2 => h _ w' r1 r2 (.inl rfl))
  · by_cases hnone : ao = none
    · subst hnone
      rcases hown.2 with ⟨hv, _⟩ | ⟨g, cap', cur, hv, _⟩
      · cases hv
        obtain rfl : xs = [] := List.eq_nil_of_length_eq_zero (by simpa using hxl)
        by_cases hm : m = 0
        · subst hm
          obtain rfl : news = [] := List.eq_nil_of_length_eq_zero (by simpa using hl)
          refine wpList_append_own w hgd s x t ho base e i z size bytes ht hi hz hsize hby hzs hsz _ _ _ hs hown ad 0 c [] hx hl hnews h1 h63 hbytes hbase (fun v' w' r1 r2 r3 => h v' w' r1 r2 (.inl ?_))
          rw [r3.2 ⟨rfl, rfl⟩]
        · refine wpList_append_grows w hgd s x t ho e i z size bytes ht hi hz hsize hby hzs hsz none 0 0 [] hs (fun _ => ⟨rfl, rfl⟩) (by simp) (fun b hb => by cases hb) ad m c news hx hl hnews h1 (by omega) h63 hbytes (fun v' w' r1 r2 => h v' w' (by
            exact own_mono_size r1 hbase) r2 (.inr fun b hb => (r1.lt b hb).1))
      · cases hv
    · have hlt : cap < n + m := by
        rcases Nat.lt_or_ge cap (n + m) with h | h
        · exact h
        · exact absurd ⟨h, hnone⟩ hroom
      refine wpList_append_grows w hgd s x t ho e i z size bytes ht hi hz hsize hby hzs hsz ao n cap xs hs (fun h => absurd h hnone) hxl (fun b hb j u hu => ?_) ad m c news hx hl hnews h1 hlt h63 hbytes (fun v' w' r1 r2 => h v' w' (own_mono_size r1 hbase) ?_ (.inr fun b hb => (r1.lt b hb).1))
      · subst hb
        rcases hown.2 with ⟨hv, _⟩ | ⟨g, cap', cur, hv, _⟩
        · cases hv
        · cases hv
          exact hown.cells rfl j u hu
      · exact ⟨r2.os, r2.tape, r2.output, r2.size, fun k hk _ => r2.block k hk (by simp)⟩
/-- a list of slices of bytes, all of the call's own -/
structure RowsOwn (B : Nat) (W : World) (vg : Value) (vals : List Value) (cl : List (List UInt8)) : Prop where
  own : W.ownsRow B 54 1 vg vals.length vals
  len : vals.length = cl.length
  each : ∀ (j : Nat) (v : Value) (l : List UInt8), vals[j]? = some v → cl[j]? = some l → W.ownsRow B 5 1 v l.length (l.map B8)
theorem RowsOwn.nil (B : Nat) (W : World) : RowsOwn B W (.slice none 0 0) [] [] := ⟨World.ownsRow_nil _ _ _ _, rfl, fun j v l h => by cases h⟩
theorem RowsOwn.keep {B : Nat} {W W' : World} {vg : Value} {vals : List Value} {cl : List (List UInt8)} (h : RowsOwn B W vg vals cl) {row : Option Nat} (hg : W.grownBy W' row)
    (hr : ∀ b, row = some b → vg.ownBlock ≠ some b ∧ ∃ (cur : Array Value) (fr : Nat × Nat), W.heap[b]? = some (.cells cur 54 fr)) : RowsOwn B W' vg vals cl := by
  refine ⟨h.own.kept hg ?_, h.len, fun j v l h1 h2 => own_keep_ty (h.each j v l h1 h2) hg (fun b hb => ?_)⟩
  · cases hv : vg.ownBlock with
    | none => exact .inl rfl
    | some b => exact .inr fun e => (hr b e.symm).1 hv
  · obtain ⟨_, cur, fr, h1⟩ := hr b hb
    exact ⟨cur, _, fr, h1, by decide⟩
theorem RowsOwn.keepNone {B : Nat} {W W' : World} {vg : Value} {vals : List Value} {cl : List (List UInt8)} (h : RowsOwn B W vg vals cl) (hg : W.grownBy W' none) : RowsOwn B W' vg vals cl := h.keep hg (fun b hb => by cases hb)
theorem RowsOwn.reads {B : Nat} {W : World} {vg : Value} {vals : List Value} {cl : List (List UInt8)} (h : RowsOwn B W vg vals cl) : ∃ a c, vg = .slice a cl.length c ∧ ReadsRows W a cl.length cl ∧ cl.length ≤ c ∧ c ≤ maxLen := by
  obtain ⟨a, c, hv, hr, h1, h2⟩ := reads_of_own h.own
  rw [h.len] at hv hr h1
  exact ⟨a, c, hv, ⟨vals, hr, rfl, fun i v l h3 h4 => sliceOf_own (h.each i v l h3 h4)⟩, h1, h2⟩
theorem own_block_ty {W : World} {B : Nat} {e : TypeId} {v : Value} {n : Nat} {xs : List Value} (h : W.ownsRow B e 1 v n xs) {b : Nat} (hb : v.ownBlock = some b) : ∃ (cur : Array Value) (fr : Nat × Nat), W.heap[b]? = some (.cells cur e fr) := by
  rcases h.2 with ⟨rfl, _⟩ | ⟨g, cap, cur, rfl, _, hgr, _⟩
  · cases hb
  · obtain rfl : g = b := by simpa [Value.ownBlock] using hb
    exact ⟨cur, _, hgr⟩
/-- values put behind such a list -/
theorem RowsOwn.push {B : Nat} {W W' : World} {vg vg' : Value} {vals news : List Value} {cl cn : List (List UInt8)} {o : Obj} (h : RowsOwn B W vg vals cl) (hg : (W.alloc o).grownBy W' vg.ownBlock) (hnew : W'.ownsRow B 54 1 vg' (vals.length + news.length) (vals ++ news)) (hl : news.length = cn.length)
    (hn : ∀ (j : Nat) (v : Value) (l : List UInt8), news[j]? = some v → cn[j]? = some l → W.ownsRow B 5 1 v l.length (l.map B8)) : RowsOwn B W' vg' (vals ++ news) (cl ++ cn) := by
  have hg' := grown_alloc_then hg
  have ty : ∀ b, vg.ownBlock = some b → ∃ (cur : Array Value) (e' : TypeId) (fr : Nat × Nat), W.heap[b]? = some (.cells cur e' fr) ∧ e' ≠ 5 := fun b hb => by
    obtain ⟨cur, fr, h1⟩ := own_block_ty h.own hb
    exact ⟨cur, _, fr, h1, by decide⟩
  refine ⟨by rw [List.length_append]; exact hnew, by rw [List.length_append, List.length_append, h.len, hl], fun j v l h1 h2 => ?_⟩
  by_cases hj : j < vals.length
  · rw [List.getElem?_append_left hj] at h1
    rw [List.getElem?_append_left (by rw [← h.len]; exact hj)] at h2
    exact own_keep_ty (h.each j v l h1 h2) hg' ty
  · rw [List.getElem?_append_right (by omega)] at h1
    rw [List.getElem?_append_right (by rw [← h.len]; omega), ← h.len] at h2
    exact own_keep_ty (hn _ v l h1 h2) hg' ty
theorem own_unique {w : World} {B B' : Nat} {e : TypeId} {size : Nat} {v : Value} {n : Nat} {xs xs' : List Value} (h : w.ownsRow B e size v n xs) (h' : w.ownsRow B' e size v n xs') : xs = xs' := by
  have l1 := h.1
  have l2 := h'.1
  rcases h.2 with ⟨rfl, rfl⟩ | ⟨g, c, cur, rfl, _, hg, _, _, _, ht⟩
  · have hx : xs = [] := List.eq_nil_of_length_eq_zero (l1.trans (Nat.zero_mul _))
    have hx' : xs' = [] := List.eq_nil_of_length_eq_zero (l2.trans (Nat.zero_mul _))
    rw [hx, hx']
  · rcases h'.2 with ⟨hv, _⟩ | ⟨g', c', cur', hv, _, hg', _, _, _, ht'⟩
    · cases hv
    · cases hv
      rw [hg] at hg'
      cases hg'
      rw [← ht, ← ht']
theorem own_pos {w : World} {B : Nat} {e : TypeId} {size : Nat} {v : Value} {n : Nat} {xs : List Value} (h : w.ownsRow B e size v n xs) (hn : 0 < n) : ∃ g c, v = .slice (some ⟨g, 0, none⟩) n c := by
  rcases h.2 with ⟨_, h0⟩ | ⟨g, c, cur, hv, _⟩
  · omega
  · exact ⟨g, c, hv⟩

end Go.Proofs.YtmhemahkcbgaoaaDoor
