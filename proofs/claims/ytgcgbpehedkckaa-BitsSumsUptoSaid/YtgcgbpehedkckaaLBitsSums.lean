/- BitsSums: the sum of all parts. -/
import Derived.Test.YtgcgbpehedkckaaWorks
import Derived.Test.YtgcgbpehedkckaaOpenr
import Derived.Test.YtgcgbpehedkckaaSpares
import Derived.Test.YtgcgbpehedkckaaCopyr
import Derived.Test.YtgcgbpehedkckaaJoin
import Derived.Test.YtgcgbpehedkckaaSum
import Derived.Test.YtgcgbpehedkckaaMorer
import Derived.BigRegion
namespace Go.Proofs.Ytgcgbpehedkckaa
open Go.RowKit
/-- every place of a list leads to a block of bytes of its own, apart from the list's block -/
def Bys (W : World) (B G n : Nat) (vals : List Value) : Prop :=
  Row W G 22 vals ∧ n ≤ vals.length ∧ vals.length ≤ maxLen ∧ B ≤ G ∧ ∀ i, i < n → ∃ (g m : Nat) (l : List UInt8), vals[i]? = some (.slice (some ⟨g, 0, none⟩) m l.length) ∧ m ≤ l.length ∧ m ≤ 1048576 ∧ l.length ≤ maxLen ∧ B ≤ g ∧ g ≠ G ∧ Row W g 5 (l.map B8)
theorem markI_byte (i : Nat) : Value.int .u8 (markI i) = B8 (UInt8.ofNat (markI i).toNat) := by
  have h : 0 ≤ markI i ∧ markI i < 256 := by unfold markI; omega
  rw [B8, UInt8.toNat_ofNat']
  congr 1
  omega
theorem spare_bytes (l : List UInt8) : ∃ m : List UInt8, spareL l = m.map B8 ∧ m.length = l.length + 80 := by
  refine ⟨l ++ (List.range 80).map fun j => UInt8.ofNat (markI (l.length + j)).toNat, ?_, by simp⟩
  rw [List.map_append, List.map_map, spareL]
  congr 1
  exact List.map_congr_left fun j _ => markI_byte _
theorem SR.bys {W : World} {B G n : Nat} {ll : List (List UInt8)} {vals : List Value} (h : SR W B G n ll vals (n + 3)) (hn : n ≤ 1048576) (hm : ∀ l, l ∈ ll → l.length ≤ 1048576) : Bys W B G n vals := by
  obtain ⟨h1, h2, h3, h4, h5⟩ := h
  refine ⟨h1, by omega, by unfold maxLen; omega, h4, fun i hi => ?_⟩
  have hil : i < ll.length := by omega
  obtain ⟨g, a, b, c, d⟩ := (h5 i (by omega)).1 _ (List.getElem?_eq_getElem hil)
  have hl := hm _ (List.getElem_mem hil)
  obtain ⟨m, e1, e2⟩ := spare_bytes ll[i]
  rw [e1] at d
  exact ⟨g, _, m, by rw [e2]; exact a, by omega, hl, by rw [e2]; unfold maxLen; omega, b, c, d⟩
theorem Bys.keep {C : Nat} {W W' : World} {B G n : Nat} {vals : List Value} (h : Bys W B G n vals) (hb : Below C W W') (hC : W.heap.size ≤ C) : Bys W' B G n vals := by
  obtain ⟨h1, h2, h3, h4, h5⟩ := h
  refine ⟨h1.keep hb (Nat.lt_of_lt_of_le h1.lt hC), h2, h3, h4, fun i hi => ?_⟩
  obtain ⟨g, m, l, a, b, c, d, e, f, r⟩ := h5 i hi
  exact ⟨g, m, l, a, b, c, d, e, f, r.keep hb (Nat.lt_of_lt_of_le r.lt hC)⟩
/-- a byte written over in one of the blocks -/
theorem Bys.write {W : World} {B G n g k : Nat} {vals : List Value} (h : Bys W B G n vals) (hg : g ≠ G) (x : UInt8) : Bys (W.setCell ⟨g, k, none⟩ (B8 x)) B G n vals := by
  obtain ⟨h1, h2, h3, h4, h5⟩ := h
  refine ⟨h1.other hg _, h2, h3, h4, fun i hi => ?_⟩
  obtain ⟨g', m, l, a, b, c, d, e, f, r⟩ := h5 i hi
  by_cases hgg : g = g'
  · subst hgg
    have r' := r.set k (B8 x)
    rw [← List.map_set] at r'
    exact ⟨g, m, l.set k x, by rw [List.length_set]; exact a, by rw [List.length_set]; exact b, c, by rw [List.length_set]; exact d, e, f, r'⟩
  · exact ⟨g', m, l, a, b, c, d, e, f, r.other hgg _⟩
theorem exists_list {n : Nat} {p : Nat → List UInt8 → Prop} (h : ∀ i, i < n → ∃ l, p i l) : ∃ ll : List (List UInt8), ll.length = n ∧ ∀ i l, ll[i]? = some l → p i l := by
  induction n with
  | zero => exact ⟨[], rfl, fun i l h => by cases h⟩
  | succ n ih =>
    obtain ⟨ll, h1, h2⟩ := ih fun i hi => h i (by omega)
    obtain ⟨x, hx⟩ := h n (by omega)
    refine ⟨ll ++ [x], by simp [h1], fun i l hl => ?_⟩
    by_cases hi : i < ll.length
    · rw [List.getElem?_append_left hi] at hl; exact h2 i l hl
    · rw [List.getElem?_append_right (by omega)] at hl
      have hi2 : i - ll.length = 0 := by
        have := (List.getElem?_eq_some_iff.1 hl).1
        simp at this
        omega
      rw [hi2] at hl
      obtain rfl : i = n := by omega
      simp at hl
      subst hl
      exact hx
theorem Bys.reads {W : World} {B G n : Nat} {vals : List Value} (h : Bys W B G n vals) : ∃ ll : List (List UInt8), ReadsRows W (some ⟨G, 0, none⟩) n ll ∧ ∀ l, l ∈ ll → l.length ≤ 1048576 := by
  obtain ⟨h1, h2, h3, h4, h5⟩ := h
  obtain ⟨ll, e1, e2⟩ := exists_list (n := n) (p := fun i l => ∃ v, vals[i]? = some v ∧ SliceOf W v l ∧ l.length ≤ 1048576) (fun i hi => by
    obtain ⟨g, m, l, a, b, c, d, e, f, r⟩ := h5 i hi
    have hr := r.reads 0 m (by rw [List.length_map]; omega)
    rw [List.drop_zero, ← List.map_take] at hr
    have hlen : (l.take m).length = m := by rw [List.length_take]; omega
    exact ⟨l.take m, _, a, ⟨some ⟨g, 0, none⟩, l.length, by rw [hlen], by rw [hlen]; exact hr, by rw [hlen]; exact b, d⟩, by rw [hlen]; exact c⟩)
  have hr := h1.reads 0 n (by omega)
  rw [List.drop_zero] at hr
  refine ⟨ll, ⟨vals.take n, hr, e1, fun i v l k1 k2 => ?_⟩, fun l hl => ?_⟩
  · obtain ⟨v', r1, r2, _⟩ := e2 i l k2
    have hi : i < n := by have := (List.getElem?_eq_some_iff.1 k1).1; rw [List.length_take] at this; omega
    rw [List.getElem?_take, if_pos hi, r1] at k1
    obtain rfl := Option.some.inj k1
    exact r2
  · obtain ⟨i, hi⟩ := List.getElem?_of_mem hl
    obtain ⟨_, _, _, h⟩ := e2 i l hi
    exact h
theorem flat_le {n : Nat} {ll : List (List UInt8)} (hn : ll.length ≤ n) {M : Nat} (h : ∀ l, l ∈ ll → l.length ≤ M) : ll.flatten.length ≤ n * M := by
  induction ll generalizing n with
  | nil => exact Nat.zero_le _
  | cons x r ih =>
    simp only [List.length_cons] at hn
    match n, hn with
    | n + 1, hn =>
      rw [List.flatten_cons, List.length_append, Nat.succ_mul]
      have h1 := h x (by simp)
      have h2 := ih (n := n) (by omega) fun l hl => h l (by simp [hl])
      omega
theorem SR.reads {W : World} {B G n k : Nat} {ll : List (List UInt8)} {vals : List Value} (h : SR W B G n ll vals k) (hk : n ≤ k) (hm : ∀ l, l ∈ ll → l.length ≤ 1048576) : ReadsRows W (some ⟨G, 0, none⟩) n ll := by
  obtain ⟨h1, h2, h3, h4, h5⟩ := h
  have hr := h1.reads 0 n (by omega)
  rw [List.drop_zero] at hr
  refine ⟨vals.take n, hr, h3, fun i v l k1 k2 => ?_⟩
  have hi : i < n := by have := (List.getElem?_eq_some_iff.1 k1).1; rw [List.length_take] at this; omega
  rw [List.getElem?_take, if_pos hi] at k1
  obtain ⟨g, a, b, c, d⟩ := (h5 i (by omega)).1 l k2
  rw [a] at k1
  obtain rfl := Option.some.inj k1
  have hl := hm l (List.mem_of_getElem? k2)
  have hrd := d.reads 0 l.length (by simp [spareL])
  rw [List.drop_zero, spareL, List.take_append_of_le_length (by simp), List.take_of_length_le (by simp)] at hrd
  exact ⟨_, _, rfl, hrd, by omega, by unfold maxLen; omega⟩
theorem byte_val (V : Int) (h0 : 0 ≤ V) (h1 : V < 256) : Value.int .u8 V = B8 (UInt8.ofNat V.toNat) := by
  rw [B8, UInt8.toNat_ofNat']
  congr 1
  omega
theorem same_ne (s : Nat) : ((s : Int) != (s : Int)) = false := by simp
theorem same_eq (s : Nat) : ((s : Int) == (s : Int)) = true := by simp
set_option maxHeartbeats 4000000 in
set_option maxRecDepth 100000 in
theorem bitsSums_walk (w : World) (a : Option Addr) (n ca : Nat) (ll : List (List UInt8)) (ha : ReadsRows w a n ll) (hc : n ≤ ca) (hm : ca ≤ maxLen) (hb : n ≤ 1048576) (hs : ll.flatten.length ≤ 1048576) (x : Int) (hx : (Lit.int .u32 x).wf = true) :
    Calls Try.prog 5 #[.slice a n ca, .int .u32 x] w fun e w' => e = .returned (.bool true) ∧ Below w.heap.size w w' := by
  obtain ⟨hx0, hx1⟩ := wf_u32 hx
  obtain ⟨u, rfl⟩ := Int.eq_ofNat_of_zero_le hx0
  have HU := Lib.hid (show u < 4294967296 by omega)
  have HA := Lib.hid ha
  have HM : Hid (∀ l, l ∈ ll → l.length ≤ 1048576) := fun l hl => Nat.le_trans (len_le_flatten hl) hs
  clear hx hx0 hx1 ha
  go_enter Try.func5, Try.ntmps5
  go_wp2_with fail
  refine (spareRows w a n ca ll HA.out hb (fun l hl => by have := HM.out l hl; omega)).mono ?_
  rintro e w1 ⟨G, vals, rfl, hsr, hb1⟩
  have HS1 := Lib.hid hsr
  have B1 := Lib.hid hb1
  have z1 := hb1.size
  clear hsr hb1
  go_wp2_with fail
  refine (join w1 a n ca ll (HA.out.keep B1.out (Nat.le_refl _)) (by omega) (by omega)).mono ?_
  rintro e w2 ⟨v6, rfl, hown, hb2⟩
  obtain ⟨a6, c6, rfl, hr6, _, _⟩ := reads_of_own hown
  obtain ⟨flat, hflat⟩ : ∃ flat, flat = ll.flatten := ⟨_, rfl⟩
  rw [← hflat] at hr6 hs ⊢
  obtain ⟨m6, hm6⟩ : ∃ m6, m6 = flat.length := ⟨_, rfl⟩
  rw [← hm6] at hr6 hs ⊢
  have HR6 := Lib.hid hr6
  have HF := Lib.hid hflat
  have HM6 := Lib.hid hm6
  have HS2 := Lib.hid (HS1.out.keep hb2 (Nat.le_refl _))
  have B2 := Lib.hid (B1.out.trans (hb2.mono z1))
  have z2 := hb2.size
  clear hown hb2 hr6 hflat hm6 HS1
  go_wp2_with fail
  refine (sumBits w2 (some ⟨G, 0, none⟩) n (n + 3) ll (HS2.out.reads (by omega) HM.out) (by omega) (fun l hl => by have := HM.out l hl; omega)).mono ?_
  rw [← HF.out]
  rintro e w3 ⟨rfl, hq3⟩
  have hb3 := hq3.below w2.heap.size
  have HS3 := Lib.hid (HS2.out.keep hb3 (Nat.le_refl _))
  have HR3 := Lib.hid (HR6.out.keep hb3 (Nat.le_refl _))
  have B3 := Lib.hid (B2.out.trans (hb3.mono (by omega)))
  have z3 := hb3.size
  clear hq3 hb3 HS2 HR6
  go_wp2_with fail
  refine (sumRef w3 a6 m6 c6 flat HR3.out (by omega)).mono ?_
  rintro e w4 ⟨rfl, hq4⟩
  have hb4 := hq4.below w3.heap.size
  have HS4 := Lib.hid (HS3.out.keep hb4 (Nat.le_refl _))
  have HR4 := Lib.hid (HR3.out.keep hb4 (Nat.le_refl _))
  have B4 := Lib.hid (B3.out.trans (hb4.mono (by omega)))
  have z4 := hb4.size
  have hn1 := same_ne (crcMore 0 flat)
  clear hq4 hb4 HS3 HR3
  generalize crcMore 0 flat = s1 at hn1 ⊢
  go_wp2_with fail
  refine (spare w4 a6 m6 c6 flat HR4.out (by omega)).mono ?_
  rintro e w5 ⟨g5, rfl, hg5, hrow5, hb5⟩
  have HS5 := Lib.hid (HS4.out.keep hb5 (Nat.le_refl _))
  have HR5 := Lib.hid (HR4.out.keep hb5 (Nat.le_refl _))
  have B5 := Lib.hid (B4.out.trans (hb5.mono (by omega)))
  have z5 := hb5.size
  have hrd5 : Reads w5 (some ⟨g5, 0, none⟩) m6 (flat.map B8) := by
    have h := hrow5.reads 0 m6 (by rw [spareL, List.length_append, List.length_map, ← HM6.out]; omega)
    rw [List.drop_zero, spareL, List.take_append_of_le_length (by rw [List.length_map, HM6.out]; exact Nat.le_refl _), List.take_of_length_le (by rw [List.length_map, HM6.out]; exact Nat.le_refl _)] at h
    exact h
  have HD5 := Lib.hid hrd5
  clear hrow5 hb5 hrd5 HS4 HR4
  go_wp2_with fail
  refine (moreBits w5 u (some ⟨g5, 0, none⟩) m6 (m6 + 80) flat HD5.out (by omega) HU.out).mono ?_
  rintro e w6 ⟨rfl, hq6⟩
  have hb6 := hq6.below w5.heap.size
  have HS6 := Lib.hid (HS5.out.keep hb6 (Nat.le_refl _))
  have HR6 := Lib.hid (HR5.out.keep hb6 (Nat.le_refl _))
  have B6 := Lib.hid (B5.out.trans (hb6.mono (by omega)))
  have z6 := hb6.size
  clear hq6 hb6 HS5 HR5 HD5
  go_wp2_with fail
  refine (moreRef w6 u a6 m6 c6 flat HR6.out (by omega) HU.out).mono ?_
  rintro e w7 ⟨rfl, hq7⟩
  have hb7 := hq7.below w6.heap.size
  have HS7 := Lib.hid (HS6.out.keep hb7 (Nat.le_refl _))
  have B7 := Lib.hid (B6.out.trans (hb7.mono (by omega)))
  have z7 := hb7.size
  have hn2 := same_ne (crcMore u flat)
  clear hq7 hb7 HS6 HR6
  generalize crcMore u flat = s2 at hn2 ⊢
  go_wp2_with fail
  refine (keptRows w7 w.heap.size G a n ca ll vals HS7.out (HA.out.keep B7.out (Nat.le_refl _)) hb (fun l hl => by have := HM.out l hl; omega)).mono ?_
  rintro e w8 ⟨rfl, hq8⟩
  have hb8 := hq8.below w7.heap.size
  have HY := Lib.hid ((HS7.out.keep hb8 (Nat.le_refl _)).bys hb HM.out)
  have B8' := Lib.hid (B7.out.trans (hb8.mono (by omega)))
  have z8 := hb8.size
  clear hq8 hb8 HS7 hn1 hn2 hs HF HM6
  go_wp2
  go_loopw [7] (fun x wr => ∃ i : Nat, i ≤ n ∧ x = .int .i64 i ∧ Hid (Bys wr w.heap.size G n vals) ∧ Hid (Below w.heap.size w wr) ∧ w.heap.size ≤ wr.heap.size) (fun x _ => n - (intOf x).toNat)
  case atStart => exact ⟨0, Nat.zero_le _, rfl, HY, B8', by omega⟩
  case round =>
    clear HY B8'
    obtain ⟨i, hi, rfl, HY, HB, zr⟩ := hrel
    by_cases hlt : i < n
    · obtain ⟨g, m, l, hv, hml, hmm, _, hgB, hgG, hrow⟩ := HY.out.2.2.2.2 i hlt
      obtain ⟨c, hcl⟩ : ∃ c, c = l.length := ⟨_, rfl⟩
      rw [← hcl] at hv hml
      have HV := Lib.hid hv
      obtain ⟨wq, rfl⟩ : ∃ wq : World, wq = wr := ⟨_, rfl⟩
      clear hrow hv hcl
      go_wp2
      go_loopw [8] (fun x wr => ∃ k : Nat, k ≤ m ∧ x = .int .i64 k ∧ Hid (Bys wr w.heap.size G n vals) ∧ Hid (Below w.heap.size w wr) ∧ w.heap.size ≤ wr.heap.size) (fun x _ => m - (intOf x).toNat)
      case atStart => exact ⟨0, Nat.zero_le _, rfl, HY, HB, zr⟩
      case round =>
        clear HY HB zr
        obtain ⟨k, hk, rfl, HY, HB, zr⟩ := hrel
        have hcx : wr.cell? ⟨G, i, none⟩ = some (.slice (some ⟨g, 0, none⟩) m c) := (HY.out.1.cell i).trans HV.out
        by_cases hkm : k < m
        · obtain ⟨g', m', l', hv', _, _, _, _, _, hrow'⟩ := HY.out.2.2.2.2 i hlt
          rw [HV.out] at hv'
          simp only [Option.some.injEq, Value.slice.injEq, Addr.mk.injEq] at hv'
          obtain ⟨⟨e1, _⟩, _, e3⟩ := hv'
          subst e1
          obtain ⟨y, hy⟩ : ∃ y : UInt8, l'[k]? = some y := ⟨l'[k]'(by omega), List.getElem?_eq_getElem _⟩
          have hcy : wr.cell? ⟨g, k, none⟩ = some (.int .u8 (y.toNat : Nat)) := by
            rw [hrow'.cell, List.getElem?_map, hy]
            rfl
          have hfy : wr.frozen? ⟨g, k, none⟩ = false := hrow'.frozen k
          clear hrow' hy e3
          go_wp2
          go_region
          all_goals go_wp2
          go_roundw
          case rel =>
            refine ⟨k + 1, by omega, by go_num, ?_, (HB.out.setCell hgB _).drew, ?_⟩
            · have h := (HY.out.write (k := k) hgG (UInt8.ofNat ((((y.toNat : Int) + ((i : Int) + (k : Int) + 1)) % 256).toNat)))
              rw [← byte_val _ (by omega) (by omega)] at h
              exact h
            · show w.heap.size ≤ (wr.setCell ⟨g, k, none⟩ _).heap.size
              rw [World.size_setCell]
              exact zr
          case measure => simp [intOf] <;> omega
        · obtain rfl : k = m := by omega
          go_wp2
          go_roundw
          case rel => exact ⟨i + 1, by omega, by go_num, HY, HB, zr⟩
          case measure => simp [intOf] <;> omega
    · obtain rfl : i = n := by omega
      obtain ⟨lf, hrf, hlf⟩ := HY.out.reads
      have HRF := Lib.hid hrf
      have HLF := Lib.hid hlf
      have hfl := flat_le (n := i) (Nat.le_of_eq hrf.len) hlf
      clear hrf hlf
      go_wp2_with fail
      refine (sumBits wr (some ⟨G, 0, none⟩) i (i + 3) lf HRF.out (by omega) (fun l hl => by have := HLF.out l hl; omega)).mono ?_
      rintro e wa ⟨rfl, hqa⟩
      have hba := hqa.below wr.heap.size
      have HRA := Lib.hid (HRF.out.keep hba (Nat.le_refl _))
      have BA := Lib.hid (HB.out.trans (hba.mono (by omega)))
      have za := hba.size
      clear hqa hba
      go_wp2_with fail
      refine (copyRows wa (some ⟨G, 0, none⟩) i (i + 3) lf HRA.out hb (fun l hl => by have := HLF.out l hl; omega)).mono ?_
      rintro e wb ⟨vb, valsb, rfl, hro, hbb⟩
      obtain ⟨ab, cb, rfl, hrb, _, _⟩ := hro.reads
      have hlen := HRF.out.len
      rw [hlen] at hrb ⊢
      have HRB := Lib.hid hrb
      have BB := Lib.hid (BA.out.trans (hbb.mono (by omega)))
      have zb := hbb.size
      clear hro hbb hrb hlen
      go_wp2_with fail
      refine (join wb ab i cb lf HRB.out (by omega) (by omega)).mono ?_
      rintro e wc ⟨vc, rfl, hownc, hbc⟩
      obtain ⟨ac, cc, rfl, hrc, _, _⟩ := reads_of_own hownc
      have HRC := Lib.hid hrc
      have BC := Lib.hid (BB.out.trans (hbc.mono (by omega)))
      have zc := hbc.size
      clear hownc hbc hrc
      obtain ⟨fl, hfle⟩ : ∃ fl, fl = lf.flatten := ⟨_, rfl⟩
      rw [← hfle] at HRC hfl ⊢
      obtain ⟨mf, hmf⟩ : ∃ mf, mf = fl.length := ⟨_, rfl⟩
      rw [← hmf] at HRC hfl ⊢
      clear hfle hmf
      go_wp2_with fail
      refine (sumRef wc ac mf cc fl HRC.out (by omega)).mono ?_
      rintro e wd ⟨rfl, hqd⟩
      have hbd := hqd.below wc.heap.size
      have BD := Lib.hid (BC.out.trans (hbd.mono (by omega)))
      have zd := hbd.size
      have he1 := same_eq (crcMore 0 fl)
      clear hqd hbd
      generalize crcMore 0 fl = s3 at he1 ⊢
      go_wp2_with fail
      refine (worksC wd).mono ?_
      rintro e w9 ⟨rfl, hb9⟩
      have B9 := Lib.hid (BD.out.trans (hb9.mono (by omega)))
      clear hb9
      go_wp2
      go_ret
      exact ⟨rfl, B9⟩
end Go.Proofs.Ytgcgbpehedkckaa
