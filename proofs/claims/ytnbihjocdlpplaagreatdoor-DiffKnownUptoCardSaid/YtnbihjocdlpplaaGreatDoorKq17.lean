/- Texts joined, one behind the other (DApT). -/
import Derived.Test.YtnbihjocdlpplaaGreatDoorKq16
import Derived.Deep.RegionHeld3
/- ApartTexts, at rows that lie apart and have no spare room. -/
namespace Go.Proofs.YtnbihjocdlpplaaGreatDoor
set_option linter.unusedVariables false
set_option linter.unusedSimpArgs false
open Go.RowKit
open Go.Lib hiding intOf
theorem infoSlS : (Tryz.prog.info? 22).map (fun i => (i.zero, i.size, i.bytes)) = some (some (.slice none 0 0), 1, 24) := by kernel_rfl
theorem grownBy_set (w : World) (b k : Nat) (v : Value) : w.grownBy (w.setCell ⟨b, k, none⟩ v) (some b) :=
  ⟨rfl, rfl, rfl, by simp [World.setCell], fun j _ hne => Below.heap_setCell _ _ _ _ (fun e => hne (by rw [e]))⟩
theorem below_next {B : Nat} {w4 W w9 : World} (h : Below B w4 W) (hB : B ≤ w4.heap.size) (hb : Below W.heap.size W w9) : Below B w4 w9 := h.trans (hb.mono (Nat.le_trans hB h.size))
theorem textMarkN (w : World) (i k : Nat) (x : Int) (hx : x = (k : Int)) (hi : i ≤ 1099511627776) (hk : k ≤ 1099511627776) :
    Calls Tryz.prog 75 #[.int .i64 (i : Int), .int .i64 x] w fun e w' => e = .returned (.string (bstr (mk3 i k))) ∧ Below w.heap.size w w' := by
  subst hx
  exact textMarkC w i k hi hk
theorem reads_own1 {w : World} {B : Nat} {e : TypeId} {a : Option Addr} {n m c : Nat} {xs : List Value} (h : w.ownsRow B e 1 (.slice a n c) m xs) : Reads w a m xs := by
  obtain ⟨a', c', he, h2, _, _⟩ := reads_of_own h
  cases he
  exact h2
/-- the rows that are grown already -/
structure GrT (w2 : World) (rows : List R4) (k : Nat) (vg : Value) (bl : List Value) (wr : World) : Prop where
  len : bl.length = k
  own : wr.ownsRow w2.heap.size 22 1 vg bl.length bl
  each : ∀ (j : Nat) (v : Value), bl[j]? = some v → ∃ r : R4, rows[j]? = some r ∧ StrOwn w2.heap.size v (marks3 j (r.2.2 + 70)) wr
  bel : Below w2.heap.size w2 wr
theorem GrT.push {w2 w5 wr w8 : World} {rows : List R4} {k : Nat} {vg v8 v : Value} {bl : List Value} {r : R4} (h : GrT w2 rows k vg bl w5) (hb : Below w5.heap.size w5 wr) (hs : w2.heap.size ≤ w5.heap.size) (hr : rows[k]? = some r) (hO : StrOwn w5.heap.size v (marks3 k (r.2.2 + 70)) wr) (hp : AppPost wr w2.heap.size 22 1 vg bl.length bl [v] v8 w8) : GrT w2 rows (k + 1) v8 (bl ++ [v]) w8 := by
  have hown : wr.ownsRow w2.heap.size 22 1 vg bl.length bl := own_below h.own hb
  have hB : w2.heap.size ≤ wr.heap.size := Nat.le_trans hs hb.size
  have hty : ∀ b, vg.ownBlock = some b → ∃ (cur : Array Value) (e' : TypeId) (fr : Nat × Nat), wr.heap[b]? = some (.cells cur e' fr) ∧ e' ≠ 9 := fun b hb2 => by
    obtain ⟨_, cur, hc⟩ := own_block hown hb2
    exact ⟨cur, _, _, hc, by decide⟩
  refine ⟨by rw [List.length_append, h.len]; rfl, by simpa using hp.1, fun j u hj => ?_, (h.bel.trans (hb.mono hs)).trans (hp.below hown hB)⟩
  by_cases hjk : j < bl.length
  · rw [List.getElem?_append_left hjk] at hj
    obtain ⟨r', h1, h2⟩ := h.each j u hj
    exact ⟨r', h1, own_keep_ty (h2.below hb) hp.2.1 hty⟩
  · have hlt := (List.getElem?_eq_some_iff.1 hj).1
    rw [List.length_append, List.length_singleton] at hlt
    obtain rfl : j = bl.length := by omega
    rw [List.getElem?_concat_length] at hj
    cases hj
    rw [h.len]
    exact ⟨r, hr, own_keep_ty (own_mono hO hs) hp.2.1 hty⟩
/-- the frame: the rows' blocks alone are written -/
def Fr (B : Nat) (rows : List R4) (w w' : World) : Prop := Below B w w' ∧ ∀ k, k < w.heap.size → (∀ r ∈ rows, r.1 ≠ k) → w'.heap[k]? = w.heap[k]?
theorem Fr.refl (B : Nat) (rows : List R4) (w : World) : Fr B rows w w := ⟨Below.refl _ _, fun _ _ _ => rfl⟩
theorem Fr.next {B : Nat} {rows : List R4} {w W W' : World} (h : Fr B rows w W) (hB : B ≤ w.heap.size) (hb : Below W.heap.size W W') : Fr B rows w W' :=
  ⟨h.1.trans (hb.mono (Nat.le_trans hB h.1.size)), fun k hk hr => (hb.block k (Nat.lt_of_lt_of_le hk h.1.size)).trans (h.2 k hk hr)⟩
theorem Fr.set {B g o : Nat} {rows : List R4} {w W : World} {r : R4} (h : Fr B rows w W) (hr : r ∈ rows) (hg : r.1 = g) (hB : B ≤ g) (v : Value) : Fr B rows w (W.setCell ⟨g, o, none⟩ v) :=
  ⟨h.1.setCell hB v, fun k hk hk2 => (Below.heap_setCell _ _ _ _ (by have := hk2 r hr; rw [hg] at this; exact Ne.symm this)).trans (h.2 k hk hk2)⟩
def ApQ (B : Nat) (rows : List R4) (w : World) (e : Ending) (w' : World) : Prop := e = .returned (.bool true) ∧ Fr B rows w w'
set_option maxHeartbeats 8000000 in
set_option maxRecDepth 100000 in
theorem apartT (w : World) (B B0 : Nat) (a : Option Addr) (m ca : Nat) (rows : List R4) (hout : w.ownsRow B0 22 1 (.slice a m ca) m (rows.map rowT)) (hmk : MkT w rows 0 0) (hd : DistT rows) (hB : ∀ (j : Nat) (r : R4), rows[j]? = some r → B ≤ r.1 ∧ 0 < r.2.2 ∧ r.2.2 ≤ 1048576) (hm : m ≤ 1048576) (hBw : B ≤ w.heap.size) :
    Calls Tryz.prog 46 #[.slice a m ca] w (ApQ B rows w) := by
  have HD := Lib.hid hd
  have HB := Lib.hid hB
  clear hd hB
  have hlen := (reads_of_own hout)
  obtain ⟨a_, c_, hv_, hr_, _, _⟩ := hlen
  have HLN := Lib.hid (show (rows.map rowT).length = m from hr_.len)
  clear hv_ hr_
  go_enter Tryz.func46, Tryz.ntmps46
  go_wp2
  go_loopw [3] (fun i wr => ∃ k : Nat, k ≤ m ∧ i = .int .i64 k ∧ wr.ownsRow B0 22 1 (.slice a m ca) m (rows.map rowT) ∧ Hid (MkT wr rows k 0) ∧ Fr B rows w wr) (fun i _ => m - (intOf i).toNat)
  case atStart => exact ⟨0, Nat.zero_le _, rfl, hout, hmk, Fr.refl _ _ _⟩
  case round =>
    clear hout hmk
    obtain ⟨i, hi, rfl, hout, HMK, hbel⟩ := hrel
    obtain ⟨a_, c_, hv_, hro, _, _⟩ := reads_of_own hout
    cases hv_
    by_cases hlt : i < m
    · obtain ⟨b, o, x, rfl, hb, hx, hcx⟩ := hro.at hlt
      obtain ⟨⟨g, off, n⟩, hrr, rfl⟩ : ∃ r, rows[i]? = some r ∧ x = rowT r := by
        rw [List.getElem?_map] at hx
        cases hr : rows[i]? with
        | none => rw [hr] at hx; simp at hx
        | some r => rw [hr] at hx; simp at hx; exact ⟨r, rfl, hx.symm⟩
      have HR := Lib.hid hrr
      have hcx2 : wr.cell? ⟨b, o + i, none⟩ = some (.slice (some ⟨g, off, none⟩) n n) := hcx
      obtain ⟨hBg, hn0, hnb⟩ := HB.out i _ hrr
      simp only at hBg hn0 hnb
      have HCV : Hid ((rows.map rowT)[i]? = some (.slice (some ⟨g, off, none⟩) n n)) := hx
      clear hcx hx hrr hro
      go_wp2
      clear hcx2
      go_loopw [4] (fun k wr => ∃ t : Nat, t ≤ n ∧ k = .int .i64 t ∧ wr.ownsRow B0 22 1 (.slice (some ⟨b, o, none⟩) m ca) m (rows.map rowT) ∧ Hid (MkT wr rows i t) ∧ Fr B rows w wr) (fun k _ => n - (intOf k).toNat)
      case atStart => exact ⟨0, Nat.zero_le _, rfl, hout, HMK, hbel⟩
      case round =>
        clear hout HMK hbel hb
        obtain ⟨t, ht, rfl, hout, HMK, hbel⟩ := hrel
        have hcx2 : wr.cell? ⟨b, o + i, none⟩ = some (.slice (some ⟨g, off, none⟩) n n) := (own_at hout hlt).trans HCV.out
        have hbs := hbel.1.size
        by_cases htn : t < n
        · have hnx : ∀ W, Below wr.heap.size wr W → (∃ u, W.cell? ⟨g, off + t, none⟩ = some u) ∧ W.frozen? ⟨g, off + t, none⟩ = false ∧ W.cell? ⟨b, o + i, none⟩ = some (.slice (some ⟨g, off, none⟩) n n) ∧
              Hid ((W.setCell ⟨g, off + t, none⟩ (.string (bstr (mk3 i t)))).ownsRow B0 22 1 (.slice (some ⟨b, o, none⟩) m ca) m (rows.map rowT) ∧ MkT (W.setCell ⟨g, off + t, none⟩ (.string (bstr (mk3 i t)))) rows i (t + 1) ∧ Fr B rows w (W.setCell ⟨g, off + t, none⟩ (.string (bstr (mk3 i t))))) := fun W hW => by
            have hmW := HMK.out.keep hW
            obtain ⟨u, hu, hf⟩ := hmW.cell HR.out (t := t) htn
            have hoW := own_below hout hW
            refine ⟨⟨u, hu⟩, hf, (own_at hoW hlt).trans HCV.out, own_keep_ty hoW (grownBy_set W g (off + t) _) (fun b' hb' => ?_), hmW.mark HD.out HR.out htn, (hbel.next hBw hW).set (List.mem_of_getElem? HR.out) rfl hBg _⟩
            cases hb'
            obtain ⟨cur, h1, _⟩ := hmW i _ HR.out
            exact ⟨cur, _, _, h1, by decide⟩
          have HNX := Lib.hid hnx
          have hti : (t : Int) < (n : Int) := by omega
          clear hnx hout HMK hbel
          have hTM := textMarkC wr.drew i t (by omega) (by omega)
          have HTM := Lib.hid hTM
          obtain ⟨M, hM⟩ : ∃ M, M = mk3 i t := ⟨_, rfl⟩
          rw [← hM] at HTM HNX
          have d0 := (HNX.out wr.drew ((Below.refl _ wr).drew)).2.2.1
          clear hTM hM
          go_wp2
          refine wp_region_held_drew (S := (fun _ : World => True)) (by kernel_rfl) trivial (fun hS0 => ?_)
          refine wpAnyH_take (i := 0) (v := ?v0) rfl (by kernel_rfl) (by kernel_rfl) (by kernel_rfl) (fun _ _ _ h => h) (Or.inl ⟨by rfl, ?y0⟩) hS0 ?r0
          case y0 => (intro w2 hSw; go_simp; try with_reducible rfl)
          try simp only [Act.put, List.setIfInBounds_toArray, List.set_cons_zero, List.set_cons_succ]
          refine wpAnyH_take (i := 1) (v := ?v1) rfl (by kernel_rfl) (by kernel_rfl) (by kernel_rfl) (fun _ _ _ h => h) (Or.inl ⟨by rfl, ?y1⟩) hS0 ?r1
          case y1 => (intro w2 hSw; go_simp; try with_reducible rfl)
          try simp only [Act.put, List.setIfInBounds_toArray, List.set_cons_zero, List.set_cons_succ]
          refine wpAnyH_take (i := 2) (v := ?v2) rfl (by kernel_rfl) (by kernel_rfl) (by kernel_rfl) (fun _ _ _ h => h) (Or.inl ⟨by rfl, ?y2⟩) hS0 ?r2
          case y2 => (intro w2 hSw; go_simp; try with_reducible rfl)
          try simp only [Act.put, List.setIfInBounds_toArray, List.set_cons_zero, List.set_cons_succ]
          refine wpAnyH_take (i := 4) (v := ?v4) rfl (by kernel_rfl) (by kernel_rfl) (by kernel_rfl) (fun _ _ _ h => h) (Or.inl ⟨by rfl, ?y4⟩) hS0 ?r4
          case y4 => (intro w2 hSw; go_simp; try with_reducible rfl)
          try simp only [Act.put, List.setIfInBounds_toArray, List.set_cons_zero, List.set_cons_succ]
          refine wpAnyH_take (i := 5) (v := ?v5) rfl (by kernel_rfl) (by kernel_rfl) (by kernel_rfl) (fun _ _ _ h => h) (Or.inl ⟨by rfl, ?y5⟩) hS0 ?r5
          case y5 => (intro w2 hSw; go_simp; try with_reducible rfl)
          try simp only [Act.put, List.setIfInBounds_toArray, List.set_cons_zero, List.set_cons_succ]
          refine wpAnyH_take (i := 6) (v := ?v6) rfl (by kernel_rfl) (by kernel_rfl) (by kernel_rfl) (fun _ _ _ h => h) (Or.inl ⟨by rfl, ?y6⟩) hS0 ?r6
          case y6 => (intro w2 hSw; go_simp; try with_reducible rfl)
          try simp only [Act.put, List.setIfInBounds_toArray, List.set_cons_zero, List.set_cons_succ]
          refine wpAnyH_ready (rs := [3, 7]) (by kernel_rfl) (by simp) (AllReadyH.cons rfl (fun K' hK => ?p3) (AllReadyH.cons rfl (fun K' hK => ?p7) AllReadyH.nil))
          case p3 =>
            go_simp
            refine hK.out _ _ trivial (fun hSn => ?_)
            try simp only [Act.put, List.setIfInBounds_toArray, List.set_cons_zero, List.set_cons_succ]
            clear hK K'
            refine wpAnyH_ready (rs := [7]) (by kernel_rfl) (by simp) (AllReadyH.cons rfl (fun K' hK => ?_) AllReadyH.nil)
            go_simp
            refine (HTM.out).mono ?_
            rintro e w3 ⟨rfl, hb3⟩
            obtain ⟨⟨u, z1⟩, z2, z3, HZ⟩ := HNX.out w3 (((Below.refl _ wr).drew).trans hb3)
            show K' _ _
            refine hK.out _ _ trivial (fun hSn => ?_)
            try simp only [Act.put, List.setIfInBounds_toArray, List.set_cons_zero, List.set_cons_succ]
            clear hK K'
            refine wpAnyH_take (i := 8) (v := ?v8) rfl (by kernel_rfl) (by kernel_rfl) (by kernel_rfl) (fun _ _ _ h => h) (Or.inl ⟨by rfl, ?y8⟩) hS0 ?r8
            case y8 => (intro w2 hSw; go_simp; try with_reducible rfl)
            try simp only [Act.put, List.setIfInBounds_toArray, List.set_cons_zero, List.set_cons_succ]
            refine wpAnyH_ready (rs := [9]) (by kernel_rfl) (by simp) (AllReadyH.cons rfl (fun K' hK => ?_) AllReadyH.nil)
            go_simp
            refine hK.out _ _ trivial (fun hSn => ?_)
            try simp only [Act.put, List.setIfInBounds_toArray, List.set_cons_zero, List.set_cons_succ]
            clear hK K'
            refine wpAnyH_done (by kernel_rfl) ?_ _
            go_wp2
            go_roundw
            case rel => exact ⟨t + 1, by omega, by go_num, HZ.out.1, HZ.out.2.1, HZ.out.2.2⟩
            case measure => simp [intOf] <;> omega
          case p7 =>
            go_simp
            refine (HTM.out).mono ?_
            rintro e w3 ⟨rfl, hb3⟩
            obtain ⟨⟨u, z1⟩, z2, z3, HZ⟩ := HNX.out w3 (((Below.refl _ wr).drew).trans hb3)
            show K' _ _
            refine hK.out _ _ trivial (fun hSn => ?_)
            try simp only [Act.put, List.setIfInBounds_toArray, List.set_cons_zero, List.set_cons_succ]
            clear hK K'
            refine wpAnyH_ready (rs := [3]) (by kernel_rfl) (by simp) (AllReadyH.cons rfl (fun K' hK => ?_) AllReadyH.nil)
            go_simp
            refine hK.out _ _ trivial (fun hSn => ?_)
            try simp only [Act.put, List.setIfInBounds_toArray, List.set_cons_zero, List.set_cons_succ]
            clear hK K'
            refine wpAnyH_take (i := 8) (v := ?v8b) rfl (by kernel_rfl) (by kernel_rfl) (by kernel_rfl) (fun _ _ _ h => h) (Or.inl ⟨by rfl, ?y8b⟩) hS0 ?r8b
            case y8b => (intro w2 hSw; go_simp; try with_reducible rfl)
            try simp only [Act.put, List.setIfInBounds_toArray, List.set_cons_zero, List.set_cons_succ]
            refine wpAnyH_ready (rs := [9]) (by kernel_rfl) (by simp) (AllReadyH.cons rfl (fun K' hK => ?_) AllReadyH.nil)
            go_simp
            refine hK.out _ _ trivial (fun hSn => ?_)
            try simp only [Act.put, List.setIfInBounds_toArray, List.set_cons_zero, List.set_cons_succ]
            clear hK K'
            refine wpAnyH_done (by kernel_rfl) ?_ _
            go_wp2
            go_roundw
            case rel => exact ⟨t + 1, by omega, by go_num, HZ.out.1, HZ.out.2.1, HZ.out.2.2⟩
            case measure => simp [intOf] <;> omega
        · obtain rfl : t = n := by omega
          go_wp2
          go_roundw
          case rel => exact ⟨i + 1, by omega, by go_num, hout, HMK.out.nextRow HR.out, hbel⟩
          case measure => simp [intOf] <;> omega
    · obtain rfl : i = m := by omega
      obtain ⟨w2, rfl⟩ : ∃ w2 : World, w2 = wr := ⟨_, rfl⟩
      have hsz2 := hbel.1.size
      have HOUT : Hid (w2.ownsRow B0 22 1 (.slice a i ca) i (rows.map rowT)) := hout
      have HM2 : Hid (MkT w2 rows i 0) := HMK
      have HBW : Hid (Fr B rows w w2) := hbel
      clear hout HMK hro hbel
      go_wp2
      go_loopw [5, 6] (fun vg x wr => ∃ (k : Nat) (bl : List Value), k ≤ i ∧ x = .int .i64 k ∧ Hid (GrT w2 rows k vg bl wr)) (fun _ x _ => i - (intOf x).toNat)
      case atStart => exact ⟨0, [], Nat.zero_le _, rfl, Lib.hid ⟨rfl, World.ownsRow_nil _ _ _ _, fun j v hj => (by cases hj), Below.refl _ _⟩⟩
      case round =>
        obtain ⟨k, bl, hk, rfl, HG⟩ := hrel
        obtain ⟨vg, rfl⟩ : ∃ v : Value, v = u5 := ⟨_, rfl⟩
        have hsz5 := HG.out.bel.size
        by_cases hkl : k < i
        · obtain ⟨b, o, x, rfl, hb, hx, hcx⟩ := (reads_own1 HOUT.out).at hkl
          obtain ⟨⟨g, off, n⟩, hrr, rfl⟩ : ∃ r, rows[k]? = some r ∧ x = rowT r := by
            rw [List.getElem?_map] at hx
            cases hr : rows[k]? with
            | none => rw [hr] at hx; simp at hx
            | some r => rw [hr] at hx; simp at hx; exact ⟨r, rfl, hx.symm⟩
          have HR := Lib.hid hrr
          obtain ⟨hBg, hn0, hnb⟩ := HB.out k _ hrr
          simp only at hBg hn0 hnb
          have hcl : ∀ W, Below w2.heap.size w2 W → W.cell? ⟨b, o + k, none⟩ = some (.slice (some ⟨g, off, none⟩) n n) := fun W hW => (hW.cell (p := ⟨b, o + k, none⟩) hb).trans hcx
          have HCL := Lib.hid hcl
          have e0 := hcl wr HG.out.bel
          have hkk : (k : Int) < (i : Int) := by omega
          obtain ⟨w5, hw5⟩ : ∃ x : World, x = wr := ⟨_, rfl⟩
          have HG5 : Hid (GrT w2 rows k vg bl w5) := by rw [hw5]; exact HG
          have hRd : ReadsS w5 (some ⟨g, off, none⟩) n (marks3 k n) := by
            rw [hw5]
            exact (HM2.out.reads HR.out hkl).keep HG.out.bel (Nat.le_refl _)
          have HRD := Lib.hid hRd
          rw [← hw5] at e0 hsz5 ⊢
          clear hx hcx hrr hcl HG hw5 hRd
          go_wp2
          clear e0
          go_loopw [7, 8] (fun vq y wr => ∃ t : Nat, t ≤ 70 ∧ y = .int .i64 t ∧ Hid (((t = 0 ∧ vq = .slice (some ⟨g, off, none⟩) n n) ∨ (0 < t ∧ StrOwn w5.heap.size vq (marks3 k (n + t)) wr)) ∧ Below w5.heap.size w5 wr)) (fun _ y _ => 70 - (intOf y).toNat)
          case atStart => exact ⟨0, Nat.zero_le _, rfl, Lib.hid ⟨.inl ⟨rfl, rfl⟩, Below.refl _ _⟩⟩
          case round =>
            obtain ⟨t, ht, rfl, HQ⟩ := hrel
            obtain ⟨vq, rfl⟩ : ∃ v : Value, v = u7 := ⟨_, rfl⟩
            have hsq := HQ.out.2.size
            have e1 := HCL.out wr (HG5.out.bel.trans (HQ.out.2.mono hsz5))
            by_cases htl : t < 70
            · have hn70 : n + t ≤ 1048646 := by omega
              have HTM := Lib.hid (fun W => textMarkN W k (n + t) ((n : Int) + (t : Int)) (by omega) (by omega) (by omega))
              have hm1 : marks3 k (n + t + 1) = marks3 k (n + t) ++ [mk3 k (n + t)] := marks3_next k (n + t)
              have HMN := Lib.hid hm1
              have hll := marks3_len k (n + t)
              obtain ⟨M, hM⟩ : ∃ M, M = mk3 k (n + t) := ⟨_, rfl⟩
              obtain ⟨LL, hLL⟩ : ∃ LL, LL = marks3 k (n + t) := ⟨_, rfl⟩
              rw [← hM] at HTM HMN
              rw [← hLL] at HMN HQ hll
              have HLL := Lib.hid hLL
              have htt : (t : Int) < 70 := by omega
              clear hm1 hM hLL
              rcases HQ.out.1 with ⟨ht0, hv⟩ | ⟨ht0, hO⟩
              · subst hv
                have HE0 := Lib.hid ht0
                have hLL2 : LL = marks3 k n := by rw [HLL.out, ht0]; rfl
                have HL2 := Lib.hid hLL2
                have hnl : n = LL.length := by rw [hll]; omega
                have HNL := Lib.hid hnl
                clear hLL2 hnl hll ht0
                go_wp2_with (first
                  | (go_at_call 75; refine (HTM.out wr).mono ?_; rintro e w6 ⟨rfl, hb6⟩; have HB6 := Lib.hid (HQ.out.2.trans (hb6.mono hsq)); have hs6 := Nat.le_trans hsq hb6.size; have HRD6 := Lib.hid (HRD.out.keep HB6.out (Nat.le_refl _)); clear hb6)
                  | (at_builtin; refine appClip rfl _ _ rfl Tryz.underlying22 (.string ByteArray.empty) 1 16 infoStr rfl (by decide) (by decide) w6 (some ⟨g, off, none⟩) n (LL.map S1) [S1 M] (by rw [List.length_map, ← HNL.out, Nat.mul_one]) hn0 (by { obtain ⟨bb, oo, q1, q2⟩ := HRD6.out.srcs hn0; cases q1; rw [HL2.out]; exact ⟨_, rfl, fun j u hj => by rw [cell_add]; exact q2 j u hj⟩ }) rfl rfl rfl rfl (by omega) ?_; intro v8 w8 hO8 hb8))
                have HNX : Hid (StrOwn w5.heap.size v8 (marks3 k (n + (t + 1))) w8 ∧ Below w5.heap.size w5 w8) := by
                  refine Lib.hid ⟨?_, HB6.out.trans (hb8.mono hs6)⟩
                  rw [show n + (t + 1) = n + t + 1 by omega, HMN.out]
                  refine StrOwn.push ?_
                  rw [← HNL.out]
                  exact own_mono hO8 hs6
                clear hO8 hb8
                go_roundw
                case rel => exact ⟨t + 1, by omega, by go_num, Lib.hid ⟨.inr ⟨by omega, HNX.out.1⟩, HNX.out.2⟩⟩
                case measure => simp [RowKit.intOf]; omega
              · have HO := Lib.hid hO
                clear hO
                go_wp2_with (first
                  | (go_at_call 75; refine (HTM.out wr).mono ?_; rintro e w6 ⟨rfl, hb6⟩; have HB6 := Lib.hid (HQ.out.2.trans (hb6.mono hsq)); have hs6 := Nat.le_trans hsq hb6.size; have HO6 := Lib.hid (HO.out.below hb6); clear hb6)
                  | (at_builtin; refine appNew rfl _ _ rfl Tryz.underlying22 (.string ByteArray.empty) 1 16 infoStr rfl (by decide) (by decide) w5.heap.size w5.heap.size w5 w6 vq LL.length (LL.map S1) [S1 M] rfl (by intro u hu; simp only [List.mem_singleton] at hu; subst hu; rfl) rfl HO6.out rfl rfl (by omega) HB6.out (Nat.le_refl _) hs6 ?_; intro v8 w8 hO8 hb8 hs8))
                have HNX : Hid (StrOwn w5.heap.size v8 (marks3 k (n + (t + 1))) w8 ∧ Below w5.heap.size w5 w8) := by
                  refine Lib.hid ⟨?_, hb8⟩
                  rw [show n + (t + 1) = n + t + 1 by omega, HMN.out]
                  exact StrOwn.push hO8
                clear hO8 hb8
                go_roundw
                case rel => exact ⟨t + 1, by omega, by go_num, Lib.hid ⟨.inr ⟨by omega, HNX.out.1⟩, HNX.out.2⟩⟩
                case measure => simp [RowKit.intOf]; omega
            · obtain rfl : t = 70 := by omega
              have hO : StrOwn w5.heap.size vq (marks3 k (n + 70)) wr := by
                rcases HQ.out.1 with ⟨h, _⟩ | ⟨_, h⟩
                · omega
                · exact h
              have HO := Lib.hid hO
              have HGN : Hid (w2.heap.size ≤ wr.heap.size ∧ wr.ownsRow w2.heap.size 22 1 vg bl.length bl) := Lib.hid ⟨Nat.le_trans hsz5 hsq, own_below HG5.out.own HQ.out.2⟩
              have hbl : bl.length ≤ 1073741824 := by rw [HG5.out.len]; omega
              obtain ⟨av, cv, hvq⟩ := slice_own hO
              rw [marks3_len] at hvq
              subst hvq
              have hgz := HGN.out.1
              clear hO
              go_wp2_with (at_builtin; refine appSep rfl _ _ rfl Tryz.underlying79 (.slice none 0 0) 1 24 infoSlS rfl (by decide) (by decide) w2.heap.size wr vg bl.length bl [.slice av (n + 70) cv] rfl (by intro u hu; simp only [List.mem_singleton] at hu; subst hu; rfl) rfl HGN.out.2 rfl rfl hbl hgz ?_; intro v8 w8 hp8)
              have HNX : Hid (GrT w2 rows (k + 1) v8 (bl ++ [.slice av (n + 70) cv]) w8) := Lib.hid (HG5.out.push HQ.out.2 hsz5 HR.out HO.out hp8)
              clear hp8
              go_roundw
              case rel => exact ⟨k + 1, _, by omega, by go_num, HNX⟩
              case measure => simp [RowKit.intOf]; omega
        · obtain rfl : k = i := by omega
          obtain ⟨w4, hw4⟩ : ∃ x : World, x = wr := ⟨_, rfl⟩
          have HG4 : Hid (GrT w2 rows k vg bl w4) := by rw [hw4]; exact HG
          have hbl := HG4.out.len
          rw [← hw4]
          clear HG hw4 hsz5
          obtain ⟨ag, cg, hvg⟩ := slice_own HG4.out.own
          rw [hbl] at hvg
          subst hvg
          have HGR : Hid (Reads w4 ag k bl) := Lib.hid (by have := reads_own1 HG4.out.own; rw [hbl] at this; exact this)
          have HAL : Hid (Reads w4 a k (rows.map rowT)) := Lib.hid (Reads.keep (reads_own1 HOUT.out) HG4.out.bel (Nat.le_refl _))
          have HM4 : Hid (MkT w4 rows k 0) := Lib.hid (HM2.out.keep HG4.out.bel)
          have hB4 : B ≤ w4.heap.size := Nat.le_trans (Nat.le_trans hBw hsz2) HG4.out.bel.size
          have HBW4 : Hid (Fr B rows w w4) := Lib.hid (HBW.out.next hBw HG4.out.bel)
          clear hbl
          go_wp2
          go_loopw [9] (fun x wr => ∃ i : Nat, i ≤ k ∧ x = .int .i64 i ∧ Below w4.heap.size w4 wr) (fun x _ => k - (intOf x).toNat)
          case atStart => exact ⟨0, Nat.zero_le _, rfl, Below.refl _ _⟩
          case round =>
            obtain ⟨i, hi, rfl, hbr⟩ := hrel
            by_cases hik : i < k
            · obtain ⟨b, o, x, rfl, hb, hx, hcx⟩ := HAL.out.at hik
              obtain ⟨⟨g, off, n⟩, hrr, rfl⟩ : ∃ r, rows[i]? = some r ∧ x = rowT r := by
                rw [List.getElem?_map] at hx
                cases hr : rows[i]? with
                | none => rw [hr] at hx; simp at hx
                | some r => rw [hr] at hx; simp at hx; exact ⟨r, rfl, hx.symm⟩
              have HR := Lib.hid hrr
              obtain ⟨hBg, hn0, hnb⟩ := HB.out i _ hrr
              simp only at hBg hn0 hnb
              obtain ⟨bg, og, vi, rfl, hbg, hvi, hcg⟩ := HGR.out.at hik
              obtain ⟨r', hr', hOi⟩ := HG4.out.each i vi hvi
              have e9 : r' = (g, off, n) := by rw [hrr] at hr'; exact (Option.some.inj hr').symm
              subst e9
              obtain ⟨ai, ci, rfl, hri, _, _⟩ := readsS_own hOi
              rw [marks3_len] at hri hcg
              simp only at hri hcg
              have hcl : ∀ W, Below w4.heap.size w4 W → W.cell? ⟨b, o + i, none⟩ = some (.slice (some ⟨g, off, none⟩) n n) ∧ W.cell? ⟨bg, og + i, none⟩ = some (.slice ai (n + 70) ci) := fun W hW => ⟨(hW.cell (p := ⟨b, o + i, none⟩) hb).trans hcx, (hW.cell (p := ⟨bg, og + i, none⟩) hbg).trans hcg⟩
              have HCL := Lib.hid hcl
              have HRI := Lib.hid hri
              have HRD : Hid (ReadsS w4 (some ⟨g, off, none⟩) n (marks3 i n)) := Lib.hid (HM4.out.reads HR.out hik)
              have hkk : (i : Int) < (k : Int) := by omega
              clear hx hcx hrr hcl hri hvi hr' hOi hcg
              go_wp2
              go_loopw [10] (fun y wr => ∃ t : Nat, t ≤ n + 70 ∧ y = .int .i64 t ∧ Below w4.heap.size w4 wr) (fun y _ => n + 70 - (intOf y).toNat)
              case atStart => exact ⟨0, Nat.zero_le _, rfl, hbr⟩
              case round =>
                clear hbr
                obtain ⟨t, ht, rfl, hbr⟩ := hrel
                obtain ⟨e1, e2⟩ := HCL.out wr hbr
                by_cases htl : t < n + 70
                · obtain ⟨bi, oi, y, rfl, hbi, hy, hcy⟩ := HRI.out.at htl
                  have hym : y = mk3 i t := by
                    rw [marks3_at i _ t htl] at hy
                    exact (Option.some.inj hy).symm
                  subst hym
                  have HTM := Lib.hid (fun W => textMarkC W i t (by omega) (by omega))
                  have htt : (t : Int) < (n : Int) + 70 := by omega
                  have hq0 : Below w4.heap.size w4 wr.drew := hbr.drew
                  by_cases htn : t < n
                  · obtain ⟨bj, oj, z, ez, hbj, hz, hcz⟩ := HRD.out.at htn
                    cases ez
                    have hzm : z = mk3 i t := by
                      rw [marks3_at i _ t htn] at hz
                      exact (Option.some.inj hz).symm
                    subst hzm
                    have hS : ∀ W, Below w4.heap.size w4 W → W.cell? ⟨b, o + i, none⟩ = some (.slice (some ⟨g, off, none⟩) n n) ∧ W.cell? ⟨bg, og + i, none⟩ = some (.slice (some ⟨bi, oi, none⟩) (n + 70) ci) ∧ W.cell? ⟨bi, oi + t, none⟩ = some (.string (bstr (mk3 i t))) ∧ W.cell? ⟨g, off + t, none⟩ = some (.string (bstr (mk3 i t))) := fun W hW => ⟨(HCL.out W hW).1, (HCL.out W hW).2, (hW.cell (p := ⟨bi, oi + t, none⟩) hbi).trans hcy, (hW.cell (p := ⟨g, off + t, none⟩) hbj).trans hcz⟩
                    obtain ⟨M, hM⟩ : ∃ M, M = mk3 i t := ⟨_, rfl⟩
                    rw [← hM] at HTM hS
                    have HS := Lib.hid hS
                    have hne : (M != M) = false := by simp
                    have hne2 : (M == M) = true := by simp
                    have htn2 : (t : Int) < (n : Int) := by omega
                    have hs0 := hS _ hq0
                    clear hM hS hcz hcy hy hz hbi hbj
                    go_wp2
                    go_region_held3 (fun w' => w'.cell? ⟨b, o + i, none⟩ = some (.slice (some ⟨g, off, none⟩) n n) ∧ w'.cell? ⟨bg, og + i, none⟩ = some (.slice (some ⟨bi, oi, none⟩) (n + 70) ci) ∧ w'.cell? ⟨bi, oi + t, none⟩ = some (.string (bstr M)) ∧ w'.cell? ⟨g, off + t, none⟩ = some (.string (bstr M))) (first | exact hs0 | exact HS.out _ (by assumption) | go_keep) ((go_at_call 75; refine (HTM.out _).mono ?_; rintro e w9 ⟨rfl, hb9⟩; have hq9 : Below w4.heap.size w4 w9 := below_next (by assumption) (Nat.le_refl _) hb9; clear hb9; have hs9 := HS.out _ hq9))
                    all_goals go_wp2
                    all_goals go_roundw
                    all_goals first | exact ⟨t + 1, by omega, by go_num, by assumption⟩ | (simp [RowKit.intOf]; omega)
                  · have hS : ∀ W, Below w4.heap.size w4 W → W.cell? ⟨b, o + i, none⟩ = some (.slice (some ⟨g, off, none⟩) n n) ∧ W.cell? ⟨bg, og + i, none⟩ = some (.slice (some ⟨bi, oi, none⟩) (n + 70) ci) ∧ W.cell? ⟨bi, oi + t, none⟩ = some (.string (bstr (mk3 i t))) := fun W hW => ⟨(HCL.out W hW).1, (HCL.out W hW).2, (hW.cell (p := ⟨bi, oi + t, none⟩) hbi).trans hcy⟩
                    obtain ⟨M, hM⟩ : ∃ M, M = mk3 i t := ⟨_, rfl⟩
                    rw [← hM] at HTM hS
                    have HS := Lib.hid hS
                    have hne : (M != M) = false := by simp
                    have hne2 : (M == M) = true := by simp
                    have htn2 : ¬ (t : Int) < (n : Int) := by omega
                    have hdt : decide (t < n) = false := decide_eq_false htn
                    have hdt2 : decide ((t : Int) < (n : Int)) = false := decide_eq_false htn2
                    have htn3 : n ≤ t := by omega
                    have hs0 := hS _ hq0
                    clear hM hS hcy hy hbi
                    go_wp2
                    refine wp_region_held_drew (S := (fun w' : World => w'.cell? ⟨b, o + i, none⟩ = some (.slice (some ⟨g, off, none⟩) n n) ∧ w'.cell? ⟨bg, og + i, none⟩ = some (.slice (some ⟨bi, oi, none⟩) (n + 70) ci) ∧ w'.cell? ⟨bi, oi + t, none⟩ = some (.string (bstr M)))) (by kernel_rfl) hs0 (fun hS0 => ?_)
                    refine wpAnyH_take (i := 0) (oi := { dst := some 80, op := Op.move (Operand.tmp 5), type := 79, pos := "ref.go:148", after := #[], guard := none }) (v := ?v0q) rfl (by kernel_rfl) (by kernel_rfl) (by kernel_rfl) (fun _ _ _ h => h) (Or.inl ⟨by rfl, ?y0q⟩) hS0 ?r0q
                    case y0q => (intro w2 hSw; obtain ⟨s0, s1, s2⟩ := hSw; go_simp; try with_reducible rfl)
                    try simp only [Act.put, List.setIfInBounds_toArray, List.set_cons_zero, List.set_cons_succ]
                    refine wpAnyH_take (i := 1) (oi := { dst := some 81, op := Op.move (Operand.tmp 9), type := 3, pos := "ref.go:148", after := #[], guard := none }) (v := ?v1q) rfl (by kernel_rfl) (by kernel_rfl) (by kernel_rfl) (fun _ _ _ h => h) (Or.inl ⟨by rfl, ?y1q⟩) hS0 ?r1q
                    case y1q => (intro w2 hSw; obtain ⟨s0, s1, s2⟩ := hSw; go_simp; try with_reducible rfl)
                    try simp only [Act.put, List.setIfInBounds_toArray, List.set_cons_zero, List.set_cons_succ]
                    refine wpAnyH_take (i := 2) (oi := { dst := some 82, op := Op.indexAddr 79 (Operand.tmp 80) (Operand.tmp 81), type := 0, pos := "ref.go:148", after := #[{ on := 0, ground := Ground.data }, { on := 1, ground := Ground.data }], guard := none }) (v := ?v2q) rfl (by kernel_rfl) (by kernel_rfl) (by kernel_rfl) (fun _ _ _ h => h) (Or.inl ⟨by rfl, ?y2q⟩) hS0 ?r2q
                    case y2q => (intro w2 hSw; obtain ⟨s0, s1, s2⟩ := hSw; go_simp; try with_reducible rfl)
                    try simp only [Act.put, List.setIfInBounds_toArray, List.set_cons_zero, List.set_cons_succ]
                    refine wpAnyH_take (i := 3) (oi := { dst := some 83, op := Op.load 22 (Operand.tmp 82), type := 22, pos := "ref.go:148", after := #[{ on := 2, ground := Ground.data }], guard := none }) (v := ?v3q) rfl (by kernel_rfl) (by kernel_rfl) (by kernel_rfl) (fun _ _ _ h => h) (Or.inl ⟨by rfl, ?y3q⟩) hS0 ?r3q
                    case y3q => (intro w2 hSw; obtain ⟨s0, s1, s2⟩ := hSw; go_simp; try with_reducible rfl)
                    try simp only [Act.put, List.setIfInBounds_toArray, List.set_cons_zero, List.set_cons_succ]
                    refine wpAnyH_take (i := 4) (oi := { dst := some 84, op := Op.move (Operand.tmp 10), type := 3, pos := "ref.go:148", after := #[], guard := none }) (v := ?v4q) rfl (by kernel_rfl) (by kernel_rfl) (by kernel_rfl) (fun _ _ _ h => h) (Or.inl ⟨by rfl, ?y4q⟩) hS0 ?r4q
                    case y4q => (intro w2 hSw; obtain ⟨s0, s1, s2⟩ := hSw; go_simp; try with_reducible rfl)
                    try simp only [Act.put, List.setIfInBounds_toArray, List.set_cons_zero, List.set_cons_succ]
                    refine wpAnyH_take (i := 5) (oi := { dst := some 85, op := Op.indexAddr 22 (Operand.tmp 83) (Operand.tmp 84), type := 0, pos := "ref.go:148", after := #[{ on := 3, ground := Ground.data }, { on := 4, ground := Ground.data }], guard := none }) (v := ?v5q) rfl (by kernel_rfl) (by kernel_rfl) (by kernel_rfl) (fun _ _ _ h => h) (Or.inl ⟨by rfl, ?y5q⟩) hS0 ?r5q
                    case y5q => (intro w2 hSw; obtain ⟨s0, s1, s2⟩ := hSw; go_simp; try with_reducible rfl)
                    try simp only [Act.put, List.setIfInBounds_toArray, List.set_cons_zero, List.set_cons_succ]
                    refine wpAnyH_take (i := 6) (oi := { dst := some 86, op := Op.load 9 (Operand.tmp 85), type := 9, pos := "ref.go:148", after := #[{ on := 5, ground := Ground.data }], guard := none }) (v := ?v6q) rfl (by kernel_rfl) (by kernel_rfl) (by kernel_rfl) (fun _ _ _ h => h) (Or.inl ⟨by rfl, ?y6q⟩) hS0 ?r6q
                    case y6q => (intro w2 hSw; obtain ⟨s0, s1, s2⟩ := hSw; go_simp; try with_reducible rfl)
                    try simp only [Act.put, List.setIfInBounds_toArray, List.set_cons_zero, List.set_cons_succ]
                    refine wpAnyH_take (i := 7) (oi := { dst := some 87, op := Op.move (Operand.tmp 9), type := 3, pos := "ref.go:148", after := #[], guard := none }) (v := ?v7q) rfl (by kernel_rfl) (by kernel_rfl) (by kernel_rfl) (fun _ _ _ h => h) (Or.inl ⟨by rfl, ?y7q⟩) hS0 ?r7q
                    case y7q => (intro w2 hSw; obtain ⟨s0, s1, s2⟩ := hSw; go_simp; try with_reducible rfl)
                    try simp only [Act.put, List.setIfInBounds_toArray, List.set_cons_zero, List.set_cons_succ]
                    refine wpAnyH_take (i := 8) (oi := { dst := some 88, op := Op.move (Operand.tmp 10), type := 3, pos := "ref.go:148", after := #[], guard := none }) (v := ?v8q) rfl (by kernel_rfl) (by kernel_rfl) (by kernel_rfl) (fun _ _ _ h => h) (Or.inl ⟨by rfl, ?y8q⟩) hS0 ?r8q
                    case y8q => (intro w2 hSw; obtain ⟨s0, s1, s2⟩ := hSw; go_simp; try with_reducible rfl)
                    try simp only [Act.put, List.setIfInBounds_toArray, List.set_cons_zero, List.set_cons_succ]
                    refine wpAnyH_ready (rs := [9]) (by kernel_rfl) (by simp) (AllReadyH.cons (o := { dst := some 89, op := Op.call { callee := Callee.value (Operand.func 75), args := #[Operand.tmp 87, Operand.tmp 88], argTypes := #[3, 3] }, type := 9, pos := "ref.go:148", after := #[{ on := 7, ground := Ground.data }, { on := 8, ground := Ground.data }], guard := none }) rfl (fun K' hK => ?_) AllReadyH.nil)
                    go_simp
                    refine (HTM.out _).mono ?_
                    rintro e w9 ⟨rfl, hb9⟩
                    have hq9 : Below w4.heap.size w4 w9 := below_next hq0 (Nat.le_refl _) hb9
                    have hs9 := HS.out _ hq9
                    show K' _ _
                    refine hK.out _ _ hs9 (fun hSn => ?_)
                    try simp only [Act.put, List.setIfInBounds_toArray, List.set_cons_zero, List.set_cons_succ]
                    clear hK K' hb9
                    refine wpAnyH_take (i := 10) (oi := { dst := some 90, op := Op.binOp BinOp.neq 9 (Operand.tmp 86) (Operand.tmp 89) 9, type := 4, pos := "ref.go:148", after := #[{ on := 6, ground := Ground.data }, { on := 9, ground := Ground.data }], guard := none }) (v := ?v10q) rfl (by kernel_rfl) (by kernel_rfl) (by kernel_rfl) (fun _ _ _ h => h) (Or.inl ⟨by rfl, ?y10q⟩) hs9 ?r10q
                    case y10q => (intro w2 hSw; obtain ⟨s0, s1, s2⟩ := hSw; go_simp; try with_reducible rfl)
                    try simp only [Act.put, List.setIfInBounds_toArray, List.set_cons_zero, List.set_cons_succ]
                    refine wpAnyH_take (i := 11) (oi := { dst := some 91, op := Op.move (Operand.tmp 90), type := 4, pos := "ref.go:148", after := #[{ on := 10, ground := Ground.data }, { on := 9, ground := Ground.chain }], guard := none }) (v := ?v11q) rfl (by kernel_rfl) (by kernel_rfl) (by kernel_rfl) (fun _ _ _ h => h) (Or.inl ⟨by rfl, ?y11q⟩) hs9 ?r11q
                    case y11q => (intro w2 hSw; obtain ⟨s0, s1, s2⟩ := hSw; go_simp; try with_reducible rfl)
                    try simp only [Act.put, List.setIfInBounds_toArray, List.set_cons_zero, List.set_cons_succ]
                    refine wpAnyH_take (i := 12) (oi := { dst := some 92, op := Op.move (Operand.tmp 10), type := 3, pos := "ref.go:148", after := #[{ on := 11, ground := Ground.guard }], guard := some (11, false) }) (v := ?v12q) rfl (by kernel_rfl) (by kernel_rfl) (by kernel_rfl) (fun _ _ _ h => h) (Or.inl ⟨by rfl, ?y12q⟩) hs9 ?r12q
                    case y12q => (intro w2 hSw; obtain ⟨s0, s1, s2⟩ := hSw; go_simp; try with_reducible rfl)
                    try simp only [Act.put, List.setIfInBounds_toArray, List.set_cons_zero, List.set_cons_succ]
                    refine wpAnyH_take (i := 13) (oi := { dst := some 93, op := Op.move (Operand.tmp 0), type := 79, pos := "ref.go:148", after := #[{ on := 11, ground := Ground.guard }], guard := some (11, false) }) (v := ?v13q) rfl (by kernel_rfl) (by kernel_rfl) (by kernel_rfl) (fun _ _ _ h => h) (Or.inl ⟨by rfl, ?y13q⟩) hs9 ?r13q
                    case y13q => (intro w2 hSw; obtain ⟨s0, s1, s2⟩ := hSw; go_simp; try with_reducible rfl)
                    try simp only [Act.put, List.setIfInBounds_toArray, List.set_cons_zero, List.set_cons_succ]
                    refine wpAnyH_take (i := 14) (oi := { dst := some 94, op := Op.move (Operand.tmp 9), type := 3, pos := "ref.go:148", after := #[{ on := 11, ground := Ground.guard }], guard := some (11, false) }) (v := ?v14q) rfl (by kernel_rfl) (by kernel_rfl) (by kernel_rfl) (fun _ _ _ h => h) (Or.inl ⟨by rfl, ?y14q⟩) hs9 ?r14q
                    case y14q => (intro w2 hSw; obtain ⟨s0, s1, s2⟩ := hSw; go_simp; try with_reducible rfl)
                    try simp only [Act.put, List.setIfInBounds_toArray, List.set_cons_zero, List.set_cons_succ]
                    refine wpAnyH_take (i := 15) (oi := { dst := some 95, op := Op.indexAddr 79 (Operand.tmp 93) (Operand.tmp 94), type := 0, pos := "ref.go:148", after := #[{ on := 13, ground := Ground.data }, { on := 14, ground := Ground.data }, { on := 11, ground := Ground.guard }], guard := some (11, false) }) (v := ?v15q) rfl (by kernel_rfl) (by kernel_rfl) (by kernel_rfl) (fun _ _ _ h => h) (Or.inl ⟨by rfl, ?y15q⟩) hs9 ?r15q
                    case y15q => (intro w2 hSw; obtain ⟨s0, s1, s2⟩ := hSw; go_simp; try with_reducible rfl)
                    try simp only [Act.put, List.setIfInBounds_toArray, List.set_cons_zero, List.set_cons_succ]
                    refine wpAnyH_take (i := 16) (oi := { dst := some 96, op := Op.load 22 (Operand.tmp 95), type := 22, pos := "ref.go:148", after := #[{ on := 15, ground := Ground.data }, { on := 11, ground := Ground.guard }], guard := some (11, false) }) (v := ?v16q) rfl (by kernel_rfl) (by kernel_rfl) (by kernel_rfl) (fun _ _ _ h => h) (Or.inl ⟨by rfl, ?y16q⟩) hs9 ?r16q
                    case y16q => (intro w2 hSw; obtain ⟨s0, s1, s2⟩ := hSw; go_simp; try with_reducible rfl)
                    try simp only [Act.put, List.setIfInBounds_toArray, List.set_cons_zero, List.set_cons_succ]
                    refine wpAnyH_take (i := 17) (oi := { dst := some 97, op := Op.call { callee := Callee.builtin Builtin.len, args := #[Operand.tmp 96], argTypes := #[22] }, type := 3, pos := "ref.go:148", after := #[{ on := 16, ground := Ground.data }, { on := 11, ground := Ground.guard }], guard := some (11, false) }) (v := ?v17q) rfl (by kernel_rfl) (by kernel_rfl) (by kernel_rfl) (fun _ _ _ h => h) (Or.inl ⟨by rfl, ?y17q⟩) hs9 ?r17q
                    case y17q => (intro w2 hSw; obtain ⟨s0, s1, s2⟩ := hSw; go_simp; try with_reducible rfl)
                    try simp only [Act.put, List.setIfInBounds_toArray, List.set_cons_zero, List.set_cons_succ]
                    refine wpAnyH_take (i := 18) (oi := { dst := some 98, op := Op.binOp BinOp.lss 3 (Operand.tmp 92) (Operand.tmp 97) 3, type := 4, pos := "ref.go:148", after := #[{ on := 12, ground := Ground.data }, { on := 17, ground := Ground.data }, { on := 11, ground := Ground.guard }], guard := some (11, false) }) (v := ?v18q) rfl (by kernel_rfl) (by kernel_rfl) (by kernel_rfl) (fun _ _ _ h => h) (Or.inl ⟨by rfl, ?y18q⟩) hs9 ?r18q
                    case y18q => (intro w2 hSw; obtain ⟨s0, s1, s2⟩ := hSw; go_simp; try with_reducible rfl)
                    try simp only [Act.put, List.setIfInBounds_toArray, List.set_cons_zero, List.set_cons_succ]
                    refine wpAnyH_take (i := 19) (oi := { dst := some 99, op := Op.move (Operand.tmp 98), type := 4, pos := "ref.go:148", after := #[{ on := 18, ground := Ground.data }, { on := 11, ground := Ground.chain }, { on := 11, ground := Ground.guard }], guard := some (11, false) }) (v := ?v19q) rfl (by kernel_rfl) (by kernel_rfl) (by kernel_rfl) (fun _ _ _ h => h) (Or.inl ⟨by rfl, ?y19q⟩) hs9 ?r19q
                    case y19q => (intro w2 hSw; obtain ⟨s0, s1, s2⟩ := hSw; go_simp; try with_reducible rfl)
                    try simp only [Act.put, List.setIfInBounds_toArray, List.set_cons_zero, List.set_cons_succ]
                    refine wpAnyH_take (i := 20) (oi := { dst := some 100, op := Op.move (Operand.tmp 0), type := 79, pos := "ref.go:148", after := #[{ on := 19, ground := Ground.guard }], guard := some (19, true) }) (v := undef) rfl (by kernel_rfl) (by kernel_rfl) (by kernel_rfl) (fun _ _ _ h => h) (Or.inr ⟨by kernel_rfl, rfl⟩) hs9 ?r20q
                    try simp only [Act.put, List.setIfInBounds_toArray, List.set_cons_zero, List.set_cons_succ]
                    refine wpAnyH_take (i := 21) (oi := { dst := some 101, op := Op.move (Operand.tmp 9), type := 3, pos := "ref.go:148", after := #[{ on := 19, ground := Ground.guard }], guard := some (19, true) }) (v := undef) rfl (by kernel_rfl) (by kernel_rfl) (by kernel_rfl) (fun _ _ _ h => h) (Or.inr ⟨by kernel_rfl, rfl⟩) hs9 ?r21q
                    try simp only [Act.put, List.setIfInBounds_toArray, List.set_cons_zero, List.set_cons_succ]
                    refine wpAnyH_take (i := 22) (oi := { dst := some 102, op := Op.indexAddr 79 (Operand.tmp 100) (Operand.tmp 101), type := 0, pos := "ref.go:148", after := #[{ on := 20, ground := Ground.data }, { on := 21, ground := Ground.data }, { on := 19, ground := Ground.guard }], guard := some (19, true) }) (v := undef) rfl (by kernel_rfl) (by kernel_rfl) (by kernel_rfl) (fun _ _ _ h => h) (Or.inr ⟨by kernel_rfl, rfl⟩) hs9 ?r22q
                    try simp only [Act.put, List.setIfInBounds_toArray, List.set_cons_zero, List.set_cons_succ]
                    refine wpAnyH_take (i := 23) (oi := { dst := some 103, op := Op.load 22 (Operand.tmp 102), type := 22, pos := "ref.go:148", after := #[{ on := 22, ground := Ground.data }, { on := 19, ground := Ground.guard }], guard := some (19, true) }) (v := undef) rfl (by kernel_rfl) (by kernel_rfl) (by kernel_rfl) (fun _ _ _ h => h) (Or.inr ⟨by kernel_rfl, rfl⟩) hs9 ?r23q
                    try simp only [Act.put, List.setIfInBounds_toArray, List.set_cons_zero, List.set_cons_succ]
                    refine wpAnyH_take (i := 24) (oi := { dst := some 104, op := Op.move (Operand.tmp 10), type := 3, pos := "ref.go:148", after := #[{ on := 19, ground := Ground.guard }], guard := some (19, true) }) (v := undef) rfl (by kernel_rfl) (by kernel_rfl) (by kernel_rfl) (fun _ _ _ h => h) (Or.inr ⟨by kernel_rfl, rfl⟩) hs9 ?r24q
                    try simp only [Act.put, List.setIfInBounds_toArray, List.set_cons_zero, List.set_cons_succ]
                    refine wpAnyH_take (i := 25) (oi := { dst := some 105, op := Op.indexAddr 22 (Operand.tmp 103) (Operand.tmp 104), type := 0, pos := "ref.go:148", after := #[{ on := 23, ground := Ground.data }, { on := 24, ground := Ground.data }, { on := 19, ground := Ground.guard }], guard := some (19, true) }) (v := undef) rfl (by kernel_rfl) (by kernel_rfl) (by kernel_rfl) (fun _ _ _ h => h) (Or.inr ⟨by kernel_rfl, rfl⟩) hs9 ?r25q
                    try simp only [Act.put, List.setIfInBounds_toArray, List.set_cons_zero, List.set_cons_succ]
                    refine wpAnyH_take (i := 26) (oi := { dst := some 106, op := Op.load 9 (Operand.tmp 105), type := 9, pos := "ref.go:148", after := #[{ on := 25, ground := Ground.data }, { on := 19, ground := Ground.guard }], guard := some (19, true) }) (v := undef) rfl (by kernel_rfl) (by kernel_rfl) (by kernel_rfl) (fun _ _ _ h => h) (Or.inr ⟨by kernel_rfl, rfl⟩) hs9 ?r26q
                    try simp only [Act.put, List.setIfInBounds_toArray, List.set_cons_zero, List.set_cons_succ]
                    refine wpAnyH_take (i := 27) (oi := { dst := some 107, op := Op.move (Operand.tmp 9), type := 3, pos := "ref.go:148", after := #[{ on := 19, ground := Ground.guard }], guard := some (19, true) }) (v := undef) rfl (by kernel_rfl) (by kernel_rfl) (by kernel_rfl) (fun _ _ _ h => h) (Or.inr ⟨by kernel_rfl, rfl⟩) hs9 ?r27q
                    try simp only [Act.put, List.setIfInBounds_toArray, List.set_cons_zero, List.set_cons_succ]
                    refine wpAnyH_take (i := 28) (oi := { dst := some 108, op := Op.move (Operand.tmp 10), type := 3, pos := "ref.go:148", after := #[{ on := 19, ground := Ground.guard }], guard := some (19, true) }) (v := undef) rfl (by kernel_rfl) (by kernel_rfl) (by kernel_rfl) (fun _ _ _ h => h) (Or.inr ⟨by kernel_rfl, rfl⟩) hs9 ?r28q
                    try simp only [Act.put, List.setIfInBounds_toArray, List.set_cons_zero, List.set_cons_succ]
                    refine wpAnyH_take (i := 29) (oi := { dst := some 109, op := Op.call { callee := Callee.value (Operand.func 75), args := #[Operand.tmp 107, Operand.tmp 108], argTypes := #[3, 3] }, type := 9, pos := "ref.go:148", after := #[{ on := 27, ground := Ground.data }, { on := 28, ground := Ground.data }, { on := 19, ground := Ground.chain }, { on := 19, ground := Ground.guard }], guard := some (19, true) }) (v := undef) rfl (by kernel_rfl) (by kernel_rfl) (by kernel_rfl) (fun _ _ _ h => h) (Or.inr ⟨by kernel_rfl, rfl⟩) hs9 ?r29q
                    try simp only [Act.put, List.setIfInBounds_toArray, List.set_cons_zero, List.set_cons_succ]
                    refine wpAnyH_take (i := 30) (oi := { dst := some 110, op := Op.binOp BinOp.neq 9 (Operand.tmp 106) (Operand.tmp 109) 9, type := 4, pos := "ref.go:148", after := #[{ on := 26, ground := Ground.data }, { on := 29, ground := Ground.data }, { on := 19, ground := Ground.guard }], guard := some (19, true) }) (v := undef) rfl (by kernel_rfl) (by kernel_rfl) (by kernel_rfl) (fun _ _ _ h => h) (Or.inr ⟨by kernel_rfl, rfl⟩) hs9 ?r30q
                    try simp only [Act.put, List.setIfInBounds_toArray, List.set_cons_zero, List.set_cons_succ]
                    refine wpAnyH_take (i := 31) (oi := { dst := some 111, op := Op.pick (Operand.tmp 99) (Operand.tmp 110) (Operand.const (Value.bool false)), type := 4, pos := "ref.go:148", after := #[{ on := 19, ground := Ground.data }, { on := 30, ground := Ground.data }, { on := 11, ground := Ground.guard }], guard := some (11, false) }) (v := ?v31q) rfl (by kernel_rfl) (by kernel_rfl) (by kernel_rfl) (fun _ _ _ h => h) (Or.inl ⟨by rfl, ?y31q⟩) hs9 ?r31q
                    case y31q => (intro w2 hSw; obtain ⟨s0, s1, s2⟩ := hSw; go_simp; try with_reducible rfl)
                    try simp only [Act.put, List.setIfInBounds_toArray, List.set_cons_zero, List.set_cons_succ]
                    refine wpAnyH_take (i := 32) (oi := { dst := some 112, op := Op.pick (Operand.tmp 91) (Operand.const (Value.bool true)) (Operand.tmp 111), type := 4, pos := "ref.go:148", after := #[{ on := 11, ground := Ground.data }, { on := 31, ground := Ground.data }], guard := none }) (v := ?v32q) rfl (by kernel_rfl) (by kernel_rfl) (by kernel_rfl) (fun _ _ _ h => h) (Or.inl ⟨by rfl, ?y32q⟩) hs9 ?r32q
                    case y32q => (intro w2 hSw; obtain ⟨s0, s1, s2⟩ := hSw; go_simp; try with_reducible rfl)
                    try simp only [Act.put, List.setIfInBounds_toArray, List.set_cons_zero, List.set_cons_succ]
                    refine wpAnyH_done (by kernel_rfl) ?_ _
                    go_wp2
                    go_roundw
                    case rel => exact ⟨t + 1, by omega, by go_num, hq9⟩
                    case measure => simp [RowKit.intOf]; omega
                · obtain rfl : t = n + 70 := by omega
                  go_wp2
                  go_roundw
                  case rel => exact ⟨i + 1, by omega, by go_num, hbr⟩
                  case measure => simp [RowKit.intOf]; omega
            · obtain rfl : i = k := by omega
              go_wp2
              go_ret
              exact ⟨rfl, HBW4.out.next hBw hbr⟩
end Go.Proofs.YtnbihjocdlpplaaGreatDoor
