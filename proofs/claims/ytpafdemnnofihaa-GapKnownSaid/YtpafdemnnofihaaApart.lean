/- Apart, at rows that lie apart. -/
import Derived.Test.YtpafdemnnofihaaAp
import Derived.StillTailTactics
import Derived.ArgAppend
namespace Go.Proofs.Ytpafdemnnofihaa
open Go.RowKit
theorem Try.infoSl8 : (Try.prog.info? 22).map (fun i => (i.zero, i.size, i.bytes)) = some (some (.slice none 0 0), 1, 24) := by kernel_rfl
theorem grownBy_set (w : World) (b k : Nat) (v : Value) : w.grownBy (w.setCell ⟨b, k, none⟩ v) (some b) :=
  ⟨rfl, rfl, rfl, by simp [World.setCell], fun j _ hne => Below.heap_setCell _ _ _ _ (fun e => hne (by rw [e]))⟩
theorem own_at {w : World} {B : Nat} {e : TypeId} {b o m c : Nat} {xs : List Value} (h : w.ownsRow B e 1 (.slice (some ⟨b, o, none⟩) m c) m xs) {i : Nat} (hi : i < m) : w.cell? ⟨b, o + i, none⟩ = xs[i]? := by
  obtain ⟨a', c', hv, hr, _, _⟩ := reads_of_own h
  cases hv
  obtain ⟨_, hr⟩ := hr
  obtain ⟨b', o', he, _, hc⟩ := hr (by omega)
  cases he
  exact hc i hi
set_option maxHeartbeats 400000 in
theorem markC (w : World) (i k : Nat) (hi : i ≤ 4503599627370496) (hk : k ≤ 4503599627370496) :
    Calls Try.prog 34 #[.int .i64 i, .int .i64 k] w fun e w' => e = .returned (B8 (mk8 i k)) ∧ w' = w := by
  go_enter Try.func34, Try.ntmps34
  go_wp2
  go_ret
  refine ⟨?_, rfl⟩
  have e : ((mk8 i k).toNat : Int) = ((i : Int) * 31 + (k : Int) * 7 + 1) % 256 := by
    unfold mk8
    rw [UInt8.toNat_ofNat']
    omega
  rw [B8, e]
  rfl
theorem markN (w : World) (i k : Nat) (x : Int) (hx : x = (k : Int)) (hi : i ≤ 4503599627370496) (hk : k ≤ 4503599627370496) :
    Calls Try.prog 34 #[.int .i64 i, .int .i64 x] w fun e w' => e = .returned (B8 (mk8 i k)) ∧ w = w' := by
  subst hx
  exact (markC w i k hi hk).mono fun _ _ h => ⟨h.1, h.2.symm⟩
/-- the row that is being grown -/
def Grw (B : Nat) (rows : List R3) (bl : List R3) (i g cc : Nat) (W : World) (b n c : Nat) : Prop :=
  W.ownsRow B 5 1 (.slice (some ⟨b, 0, none⟩) n c) n ((marksL i n).map B8) ∧ ((b = g ∧ c = cc) ∨ ∀ (j : Nat) (r : R3), rows[j]? = some r → r.1 ≠ b) ∧ ∀ (j : Nat) (r' : R3), bl[j]? = some r' → r'.1 ≠ b
theorem grw_fits {B B0 B2 : Nat} {w0 : World} {rows : List R3} {a : Option Addr} {m ca : Nat} {vg : Value} {bl : List R3} {W w1 : World} {o : Obj} {i g nn cc b n c : Nat} (h : Apt B B0 B2 w0 rows a m ca vg bl W) (hq : Grw B rows bl i g cc W b n c) (hd : Dist rows) (hr : rows[i]? = some (g, nn, cc)) (hnn : nn ≤ n) (hB : B ≤ W.heap.size)
    (ho : w1.ownsRow B 5 1 (.slice (some ⟨b, 0, none⟩) (n + 1) c) (n + 1) ((marksL i n).map B8 ++ [B8 (mk8 i n)])) (hg : (W.alloc o).grownBy w1 (some b)) : Apt B B0 B2 w0 rows a m ca vg bl w1 ∧ Grw B rows bl i g cc w1 b (n + 1) c := by
  have e : (marksL i n).map B8 ++ [B8 (mk8 i n)] = (marksL i (n + 1)).map B8 := by rw [marksL_next, List.map_append]; rfl
  rw [e] at ho
  obtain ⟨q1, q2, q3⟩ := hq
  refine ⟨h.step (grown_alloc_then hg) hB (fun b' hb => ?_), ho, q2, q3⟩
  obtain rfl := Option.some.inj hb
  obtain ⟨cur, h1, _, _⟩ := own_cells q1
  refine ⟨(q1.lt b rfl).1, ⟨cur, _, h1⟩, q3, fun j r hj er => ?_⟩
  rcases q2 with ⟨rfl, rfl⟩ | q2
  · obtain rfl := hd j i r _ hj hr er
    rw [hr] at hj
    obtain rfl := Option.some.inj hj
    obtain ⟨cur', h3, h4, h5⟩ := own_cells ho
    refine ⟨cur', h3, h4, fun t ht => ?_⟩
    rw [h5 t (by simp at ht; omega), List.getElem?_map, marksL_at j _ t (by simp at ht; omega)]
    rfl
  · exact absurd er (q2 j r hj)
theorem grw_grows {B B0 B2 : Nat} {w0 : World} {rows : List R3} {a : Option Addr} {m ca : Nat} {vg : Value} {bl : List R3} {W w1 : World} {o : Obj} {i g cc n : Nat} {v' : Value} (h : Apt B B0 B2 w0 rows a m ca vg bl W) (hB : B ≤ W.heap.size)
    (ho : w1.ownsRow (W.alloc o).heap.size 5 1 v' (n + 1) ((marksL i n).map B8 ++ [B8 (mk8 i n)])) (hg : (W.alloc o).grownBy w1 none) : ∃ b c, v' = .slice (some ⟨b, 0, none⟩) (n + 1) c ∧ Apt B B0 B2 w0 rows a m ca vg bl w1 ∧ Grw B rows bl i g cc w1 b (n + 1) c := by
  have e : (marksL i n).map B8 ++ [B8 (mk8 i n)] = (marksL i (n + 1)).map B8 := by rw [marksL_next, List.map_append]; rfl
  rw [e] at ho
  obtain ⟨b, c, rfl⟩ : ∃ b c, v' = .slice (some ⟨b, 0, none⟩) (n + 1) c := by
    rcases ho.2 with ⟨_, h0⟩ | ⟨b, c, cur, hv, _⟩
    · omega
    · exact ⟨b, c, hv⟩
  have hlt := ho.lt b rfl
  rw [World.size_alloc] at hlt ho
  refine ⟨b, c, rfl, h.step (grown_alloc_then hg) hB (fun b' hb => by cases hb), own_mono ho (by omega), .inr fun j r hj er => ?_, fun j r' hj er => ?_⟩
  · obtain ⟨cur, h1⟩ := h.mkd.block hj
    have := (Array.getElem?_eq_some_iff.1 h1).1
    omega
  · obtain ⟨r0, _, _, h3⟩ := h.each j r' hj
    have := (h3.lt r'.1 rfl).2
    omega
set_option maxHeartbeats 1000000 in
theorem apart1 (w : World) (B B0 : Nat) (a : Option Addr) (m ca : Nat) (rows : List R3) (hout : w.ownsRow B0 22 1 (.slice a m ca) m (rows.map rowV)) (hmk : Mkd w rows 0 0) (hd : Dist rows) (hB : ∀ (j : Nat) (r : R3), rows[j]? = some r → B ≤ r.1 ∧ r.2.1 ≤ 140737488355200) (hm : m ≤ 1048576) (hBw : B ≤ w.heap.size) :
    Calls Try.prog 16 #[.slice a m ca] w fun e w' => e = .returned (.bool true) ∧ Below B w w' := by
  obtain ⟨i0, hi_, hz0, hz1, hz2⟩ := info_parts Try.infoU8
  obtain ⟨i1, hi1, hy0, hy1, hy2⟩ := info_parts Try.infoSl8
  have HD := Lib.hid hd
  have HB := Lib.hid hB
  clear hd hB
  have hlen := (reads_of_own hout)
  obtain ⟨a_, c_, hv_, hr_, _, _⟩ := hlen
  have HLN := Lib.hid (show (rows.map rowV).length = m from hr_.len)
  clear hv_ hr_
  go_enter Try.func16, Try.ntmps16
  go_wp2
  go_loopw [3] (fun i wr => ∃ k : Nat, k ≤ m ∧ i = .int .i64 k ∧ wr.ownsRow B0 22 1 (.slice a m ca) m (rows.map rowV) ∧ Hid (Mkd wr rows k 0) ∧ Below B w wr) (fun i _ => m - (intOf i).toNat)
  case atStart => exact ⟨0, Nat.zero_le _, rfl, hout, hmk, Below.refl _ _⟩
  case round =>
    clear hout hmk
    obtain ⟨i, hi, rfl, hout, HMK, hbel⟩ := hrel
    obtain ⟨a_, c_, hv_, hro, _, _⟩ := reads_of_own hout
    cases hv_
    by_cases hlt : i < m
    · obtain ⟨b, o, x, rfl, hb, hx, hcx⟩ := hro.at hlt
      obtain ⟨⟨g, n, c⟩, hrr, rfl⟩ : ∃ r, rows[i]? = some r ∧ x = rowV r := by
        rw [List.getElem?_map] at hx
        cases hr : rows[i]? with
        | none => rw [hr] at hx; simp at hx
        | some r => rw [hr] at hx; simp at hx; exact ⟨r, rfl, hx.symm⟩
      have HR := Lib.hid hrr
      have hcx2 : wr.cell? ⟨b, o + i, none⟩ = some (.slice (some ⟨g, 0, none⟩) n c) := hcx
      obtain ⟨hBg, hnb⟩ := HB.out i _ hrr
      simp only at hBg hnb
      have HCV : Hid ((rows.map rowV)[i]? = some (.slice (some ⟨g, 0, none⟩) n c)) := hx
      clear hcx hx hrr hro
      go_wp2
      clear hcx2
      go_loopw [4] (fun k wr => ∃ t : Nat, t ≤ n ∧ k = .int .i64 t ∧ wr.ownsRow B0 22 1 (.slice (some ⟨b, o, none⟩) m ca) m (rows.map rowV) ∧ Hid (Mkd wr rows i t) ∧ Below B w wr) (fun k _ => n - (intOf k).toNat)
      case atStart => exact ⟨0, Nat.zero_le _, rfl, hout, HMK, hbel⟩
      case round =>
        clear hout HMK hbel hb
        obtain ⟨t, ht, rfl, hout, HMK, hbel⟩ := hrel
        have hcx2 : wr.cell? ⟨b, o + i, none⟩ = some (.slice (some ⟨g, 0, none⟩) n c) := (own_at hout hlt).trans HCV.out
        by_cases htn : t < n
        · obtain ⟨u, hcu, hfu⟩ := HMK.out.cell HR.out (t := t) htn
          simp only at hcu hfu
          go_wp2
          go_still_tail 9, (by kernel_rfl)
          still_call (markC _ i t (by omega) (by omega))
          repeat still_step
          refine wpStill_nil ?_
          change wpList _ _ _ _ _ wr.drew
          generalize hwd : wr.drew = wd
          have hcu' : wd.cell? ⟨g, t, none⟩ = some u := by rw [← hwd]; exact hcu
          have hfu' : wd.frozen? ⟨g, t, none⟩ = false := by rw [← hwd]; exact hfu
          have hout' : wd.ownsRow B0 22 1 (.slice (some ⟨b, o, none⟩) m ca) m (rows.map rowV) := by rw [← hwd]; exact hout
          have hbel' : Below B w wd := by rw [← hwd]; exact hbel.drew
          have HMK' : Hid (Mkd wd rows i t) := HMK.out.quiet (by rw [← hwd]; rfl)
          clear hwd hcu hfu hout hbel HMK
          go_wp2
          go_roundw
          case rel =>
            refine ⟨t + 1, by omega, by go_num, own_keep_ty hout' (grownBy_set wd g t _) (fun b' hb' => ?_), HMK'.out.mark HD.out HR.out htn, hbel'.setCell hBg _⟩
            obtain ⟨cur, h1⟩ := HMK'.out.block HR.out
            cases hb'
            exact ⟨cur, _, _, h1, by decide⟩
          case measure => simp [intOf] <;> omega
        · obtain rfl : t = n := by omega
          go_wp2
          go_roundw
          case rel => exact ⟨i + 1, by omega, by go_num, hout, HMK.out.nextRow HR.out, hbel⟩
          case measure => simp [intOf] <;> omega
    · obtain rfl : i = m := by omega
      obtain ⟨w2, rfl⟩ : ∃ w2 : World, w2 = wr := ⟨_, rfl⟩
      have hsz2 := hbel.size
      have HOB : Hid (∀ b, (Value.slice a i ca).ownBlock = some b → b < w2.heap.size) := fun b hb => (hout.lt b hb).2
      have HA0 : Hid (Apt B B0 w2.heap.size w rows a i ca (.slice none 0 0) [] w2) := ⟨hout, HMK.out, hbel, World.ownsRow_nil _ _ _ _, fun j r' hj => by cases hj⟩
      clear hout HMK hro
      go_wp2
      go_loopw [5, 6] (fun vg x wr => ∃ (k : Nat) (bl : List R3), k ≤ i ∧ x = .int .i64 k ∧ Hid (bl.length = k) ∧ Hid (Apt B B0 w2.heap.size w rows a i ca vg bl wr) ∧ w2.heap.size ≤ wr.heap.size ∧ Hid (∀ (j j' : Nat) (r r' : R3), bl[j]? = some r' → rows[j']? = some r → k ≤ j' → r'.1 ≠ r.1)) (fun _ x _ => i - (intOf x).toNat)
      case atStart => exact ⟨0, [], Nat.zero_le _, rfl, rfl, HA0.out, Nat.le_refl _, fun j j' r r' h => by cases h⟩
      case round =>
        clear HA0
        obtain ⟨k, bl, hk, rfl, HBL, HA, zr, HDJ⟩ := hrel
        obtain ⟨vg, rfl⟩ : ∃ vg : Value, vg = u5 := ⟨_, rfl⟩
        by_cases hlt : k < i
        · have hout := HA.out.out
          obtain ⟨a_, c_, hv_, hro, _, _⟩ := reads_of_own hout
          cases hv_
          obtain ⟨b, o, x, rfl, hb, hx, hcx⟩ := hro.at hlt
          obtain ⟨⟨g, n, c⟩, hrr, rfl⟩ : ∃ r, rows[k]? = some r ∧ x = rowV r := by
            rw [List.getElem?_map] at hx
            cases hr : rows[k]? with
            | none => rw [hr] at hx; simp at hx
            | some r => rw [hr] at hx; simp at hx; exact ⟨r, rfl, hx.symm⟩
          have HR := Lib.hid hrr
          have hcx2 : wr.cell? ⟨b, o + k, none⟩ = some (.slice (some ⟨g, 0, none⟩) n c) := hcx
          obtain ⟨hBg, hnb⟩ := HB.out k _ hrr
          simp only at hBg hnb
          have HCV : Hid ((rows.map rowV)[k]? = some (.slice (some ⟨g, 0, none⟩) n c)) := hx
          have hG0 : Grw B rows bl k g c wr g n c := ⟨HA.out.mkd.own hrr hlt hBg, .inl ⟨rfl, rfl⟩, fun j r' hj => HDJ.out j k _ r' hj hrr (Nat.le_refl _)⟩
          have HG0 := Lib.hid hG0
          clear hcx hx hrr hro hout hG0
          go_wp2
          clear hcx2
          go_loopw [7, 8] (fun v x wr => ∃ (t b' c' : Nat), t ≤ 70 ∧ x = .int .i64 t ∧ v = .slice (some ⟨b', 0, none⟩) (n + t) c' ∧ Hid (Apt B B0 w2.heap.size w rows (some ⟨b, o, none⟩) i ca vg bl wr ∧ Grw B rows bl k g c wr b' (n + t) c') ∧ w2.heap.size ≤ wr.heap.size) (fun _ x _ => 70 - (intOf x).toNat)
          case atStart => exact ⟨0, g, c, by omega, rfl, rfl, ⟨HA.out, HG0.out⟩, zr⟩
          case round =>
            clear HA HG0 zr hb
            obtain ⟨t, b', c', ht, rfl, rfl, HAG, zr⟩ := hrel
            have hcx2 : wr.cell? ⟨b, o + k, none⟩ = some (.slice (some ⟨g, 0, none⟩) n c) := (own_at HAG.out.1.out hlt).trans HCV.out
            by_cases ht70 : t < 70
            · by_cases hroom : n + t + 1 ≤ c'
              · go_wp2_with (first | (go_at_call 34; refine (markN _ k (n + t) _ (by omega) (by omega) (by omega)).mono ?_; rintro e w' ⟨rfl, rfl⟩) | (at_builtin; refine wpList_append_fits _ rfl _ _ 22 rfl B 5 i0 1 Try.underlying22 hi_ hz1 b' (n + t) c' _ rfl (HAG.out.2.1.alloc _) ⟨wr.heap.size, 0, none⟩ 1 1 [B8 (mk8 k (n + t))] rfl rfl (cell_one_new _ _ _) (by simp [Value.oneCell']) hroom ?_; intro w6 hown6 hgrow6))
                obtain ⟨k1, k2⟩ := grw_fits HAG.out.1 HAG.out.2 HD.out HR.out (by omega) (by omega) hown6 hgrow6
                have z6 := hgrow6.size
                rw [World.size_alloc] at z6
                have HAG6 : Hid (Apt B B0 w2.heap.size w rows (some ⟨b, o, none⟩) i ca vg bl w6 ∧ Grw B rows bl k g c w6 b' (n + (t + 1)) c') := ⟨k1, k2⟩
                clear hown6 hgrow6 k1 k2
                go_roundw
                case rel => exact ⟨t + 1, b', c', by omega, by go_num, rfl, HAG6, by omega⟩
                case measure => simp [intOf] <;> omega
              · go_wp2_with (first | (go_at_call 34; refine (markN _ k (n + t) _ (by omega) (by omega) (by omega)).mono ?_; rintro e w' ⟨rfl, rfl⟩) | (at_builtin; refine wpList_append_grows _ rfl _ _ 22 rfl 5 i0 (.int .u8 0) 1 1 Try.underlying22 hi_ hz0 hz1 hz2 rfl (by decide) (some ⟨b', 0, none⟩) (n + t) c' ((marksL k (n + t)).map B8) rfl (fun h => by cases h) (by simp [marksL]) (fun b hb => by cases hb; exact (HAG.out.2.1.alloc _).cells rfl) ⟨wr.heap.size, 0, none⟩ 1 1 [B8 (mk8 k (n + t))] rfl rfl (cell_one_new _ _ _) (by simp [Value.oneCell']) (by omega) (by unfold maxLen; omega) (by omega) ?_; intro v6 w6 hown6 hgrow6))
                obtain ⟨b6, c6, rfl, k1, k2⟩ := grw_grows (cc := c) (g := g) HAG.out.1 (by omega) hown6 hgrow6
                have z6 := hgrow6.size
                rw [World.size_alloc] at z6
                have HAG6 : Hid (Apt B B0 w2.heap.size w rows (some ⟨b, o, none⟩) i ca vg bl w6 ∧ Grw B rows bl k g c w6 b6 (n + (t + 1)) c6) := ⟨k1, k2⟩
                clear hown6 hgrow6 k1 k2
                go_roundw
                case rel => exact ⟨t + 1, b6, c6, by omega, by go_num, rfl, HAG6, by omega⟩
                case measure => simp [intOf] <;> omega
            · obtain rfl : t = 70 := by omega
              clear hcx2
              have hgrn := HAG.out.1.grown
              obtain ⟨a_, c_, hv_, _, _, _⟩ := reads_of_own hgrn
              subst hv_
              have hblm : bl.length ≤ 1048576 := by have := HBL.out; omega
              go_wp2_with (at_builtin; refine wpList_append_own _ rfl _ _ 36 rfl w2.heap.size 22 i1 (.slice none 0 0) 1 24 Try.underlying36 hi1 hy0 hy1 hy2 rfl (by decide) _ _ _ rfl (hgrn.alloc _) ⟨wr.heap.size, 0, none⟩ 1 1 [.slice (some ⟨b', 0, none⟩) (n + 70) c'] rfl rfl (cell_one_new _ _ _) (by simp [Value.oneCell']) (by unfold maxLen; omega) (by omega) (by simp; omega) ?_; intro v6 w6 hown6 hgrow6 _)
              have hpush := HAG.out.1.push (vg' := v6) (r := (g, n, c)) (r' := (b', n + 70, c')) (by rw [HBL.out]; exact HR.out) rfl (by omega) (by rw [HBL.out]; exact HAG.out.2.1) hgrow6 HOB.out (by omega) hown6
              have z6 := hgrow6.size
              rw [World.size_alloc] at z6
              have HP6 := Lib.hid hpush
              have HQ6 : Hid (∀ (j : Nat) (r' : R3), (bl ++ [(b', n + 70, c')])[j]? = some r' → ∀ (j' : Nat) (r : R3), rows[j']? = some r → k + 1 ≤ j' → r'.1 ≠ r.1) := by
                intro j r' hj j' r hr hle
                by_cases hjl : j < bl.length
                · rw [List.getElem?_append_left hjl] at hj
                  exact HDJ.out j j' r r' hj hr (by omega)
                · rw [List.getElem?_append_right (by omega)] at hj
                  have e0 : j - bl.length = 0 := by
                    have := (List.getElem?_eq_some_iff.1 hj).1
                    simp at this
                    omega
                  rw [e0] at hj
                  simp at hj
                  subst hj
                  intro e
                  rcases HAG.out.2.2.1 with ⟨q1, _⟩ | q1
                  · have e : b' = r.1 := e
                    have := HD.out k j' (g, n, c) r HR.out hr (by rw [← e, q1])
                    omega
                  · exact q1 j' r hr e.symm
              have HL6 : Hid ((bl ++ [(b', n + 70, c')]).length = k + 1) := by show _ = _; rw [List.length_append, HBL.out]; rfl
              clear hpush hown6 hgrow6 hgrn
              go_roundw
              case rel => exact ⟨k + 1, bl ++ [(b', n + 70, c')], by omega, by go_num, HL6, HP6, by omega, fun j j' r r' h1 h2 h3 => HQ6.out j r' h1 j' r h2 h3⟩
              case measure => simp [intOf] <;> omega
        · obtain rfl : k = i := by omega
          obtain ⟨w3, rfl⟩ : ∃ w3 : World, w3 = wr := ⟨_, rfl⟩
          have hout := HA.out.out
          have hgrn := HA.out.grown
          obtain ⟨a3, c3, hv3, hr3, _, _⟩ := reads_of_own hgrn
          obtain ⟨a_, c_, hv_, hro, _, _⟩ := reads_of_own hout
          cases hv_
          subst hv3
          have HGR : Hid (Reads w3 a3 k (bl.map rowV)) := by have h := hr3; rw [HBL.out] at h; exact h
          have HOR := Lib.hid hro
          have HBW : Hid (Below B w w3) := HA.out.bel
          clear hout hgrn hr3 hro
          rw [HBL.out]
          go_wp2
          go_loopw [9] (fun x wr => ∃ t : Nat, t ≤ k ∧ x = .int .i64 t ∧ Quiet w3 wr) (fun x _ => k - (intOf x).toNat)
          case atStart => exact ⟨0, Nat.zero_le _, rfl, Quiet.refl _⟩
          case round =>
            obtain ⟨t, ht, rfl, hq⟩ := hrel
            by_cases htk : t < k
            · obtain ⟨b, o, x, rfl, hb, hx, hcx⟩ := (HOR.out.quiet hq).at htk
              obtain ⟨bg, og, y, rfl, hbg, hy, hcy⟩ := (HGR.out.quiet hq).at htk
              obtain ⟨⟨b2, n2, c2⟩, hbb, rfl⟩ : ∃ r, bl[t]? = some r ∧ y = rowV r := by
                rw [List.getElem?_map] at hy
                cases hr : bl[t]? with
                | none => rw [hr] at hy; simp at hy
                | some r => rw [hr] at hy; simp at hy; exact ⟨r, rfl, hy.symm⟩
              obtain ⟨⟨g, n, c⟩, hrr, hn2, hob2⟩ := HA.out.each t _ hbb
              obtain rfl : n2 = n + 70 := hn2
              have hxx : x = rowV (g, n, c) := by
                rw [List.getElem?_map, hrr] at hx
                exact (Option.some.inj hx).symm
              subst hxx
              obtain ⟨hBg, hnb⟩ := HB.out t _ hrr
              simp only at hBg hnb
              have hcx2 : wr.cell? ⟨b, o + t, none⟩ = some (.slice (some ⟨g, 0, none⟩) n c) := hcx
              have hcy2 : wr.cell? ⟨bg, og + t, none⟩ = some (.slice (some ⟨b2, 0, none⟩) (n + 70) c2) := hcy
              have hm1 : ∀ x, x < n + 70 → w3.cell? ⟨b2, x, none⟩ = some (B8 (mk8 t x)) := by
                intro x hx
                obtain ⟨cur, h1, h2, h3⟩ := own_cells hob2
                have h4 := h3 x hx
                rw [List.getElem?_map, marksL_at t _ x hx] at h4
                simp [World.cell?, h1, h4]
              have hm2 : ∀ x, x < n → w3.cell? ⟨g, x, none⟩ = some (B8 (mk8 t x)) := fun x hx => HA.out.mkd.marked hrr hx htk
              have HM := Lib.hid (And.intro hm1 hm2)
              clear hcx hcy hx hy hbb hrr hob2 hm1 hm2
              go_wp2
              have HCX : Hid (wr.cell? ⟨b, o + t, none⟩ = some (.slice (some ⟨g, 0, none⟩) n c) ∧ wr.cell? ⟨bg, og + t, none⟩ = some (.slice (some ⟨b2, 0, none⟩) (n + 70) c2)) := ⟨hcx2, hcy2⟩
              clear hcx2 hcy2
              obtain ⟨wz, rfl⟩ : ∃ wz : World, wz = wr := ⟨_, rfl⟩
              go_loopw [10] (fun x wr2 => ∃ u : Nat, u ≤ n + 70 ∧ x = .int .i64 u ∧ Quiet wz wr2) (fun x _ => n + 70 - (intOf x).toNat)
              case atStart => exact ⟨0, Nat.zero_le _, rfl, Quiet.refl _⟩
              case round =>
                obtain ⟨u, hu, rfl, hq2⟩ := hrel
                have hq3 := hq.trans hq2
                have hce : ∀ p, wr.cell? p = w3.cell? p := by
                  intro p
                  obtain ⟨q, rfl⟩ := hq3
                  rfl
                have hcx2 : wr.cell? ⟨b, o + t, none⟩ = some (.slice (some ⟨g, 0, none⟩) n c) := by
                  obtain ⟨q, rfl⟩ := hq2
                  exact HCX.out.1
                have hcy2 : wr.cell? ⟨bg, og + t, none⟩ = some (.slice (some ⟨b2, 0, none⟩) (n + 70) c2) := by
                  obtain ⟨q, rfl⟩ := hq2
                  exact HCX.out.2
                by_cases hun : u < n + 70
                · have hg1 : wr.cell? ⟨b2, u, none⟩ = some (.int .u8 ((mk8 t u).toNat : Int)) := (hce _).trans (HM.out.1 u hun)
                  have hbf : (((mk8 t u).toNat : Int) != ((mk8 t u).toNat : Int)) = false := by simp
                  by_cases hul : u < n
                  · have hg2 : wr.cell? ⟨g, u, none⟩ = some (.int .u8 ((mk8 t u).toNat : Int)) := (hce _).trans (HM.out.2 u hul)
                    have hi1 : (u : Int) < (n : Int) := by omega
                    have hi2 : (u : Int) < ((n + 70 : Nat) : Int) := by omega
                    clear hce
                    go_wp2
                    go_quiet ((go_at_call 34; exact Calls.quiet_of_same (markC _ t u (by omega) (by omega))))
                    go_wp2
                    go_roundw
                    case rel => exact ⟨u + 1, by omega, by go_num, hq2.drewN _⟩
                    case measure => simp [intOf] <;> omega
                  · have hd1 : decide ((u : Int) < (n : Int)) = false := by simp; omega
                    have hi2 : (u : Int) < ((n + 70 : Nat) : Int) := by omega
                    clear hce
                    go_wp2
                    go_quiet ((go_at_call 34; exact Calls.quiet_of_same (markC _ t u (by omega) (by omega))))
                    go_wp2
                    go_roundw
                    case rel => exact ⟨u + 1, by omega, by go_num, hq2.drewN _⟩
                    case measure => simp [intOf] <;> omega
                · obtain rfl : u = n + 70 := by omega
                  clear hce
                  go_wp2
                  go_roundw
                  case rel => exact ⟨t + 1, by omega, by go_num, hq.trans hq2⟩
                  case measure => simp [intOf] <;> omega
            · obtain rfl : t = k := by omega
              go_wp2
              go_ret
              exact ⟨rfl, HBW.out.trans (hq.below _)⟩
end Go.Proofs.Ytpafdemnnofihaa
