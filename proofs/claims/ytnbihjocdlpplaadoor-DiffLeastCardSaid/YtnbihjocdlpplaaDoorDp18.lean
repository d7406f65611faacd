/- Texts joined, one behind the other (DLeastR). -/
import Derived.Test.YtnbihjocdlpplaaDoorDp17
/- The table of least numbers, by the reference. -/
namespace Go.Proofs.YtnbihjocdlpplaaDoor
set_option linter.unusedVariables false
set_option linter.unusedSimpArgs false
open Go.RowKit
open Go.Lib
theorem infoInts : (Tryd.prog.info? 78).map (fun i => (i.zero, i.size, i.bytes)) = some (some (.slice none 0 0), 1, 24) := by kernel_rfl
theorem infoInt : (Tryd.prog.info? 3).map (fun i => (i.zero, i.size, i.bytes)) = some (some (.int .i64 0), 1, 8) := by kernel_rfl
theorem made1 (z : Value) (N : Nat) : (madeCells #[z] N).toList = List.replicate N z := made_rep 1 (by decide) z N
theorem makeOnes {T e : TypeId} (w : World) (n : Nat) (hn : n ≤ 512) (z : Value) (bytes : Nat) (hz : z.cells = #[z]) (hby : bytes ≤ 24) (hT : Tryd.prog.underlying T = some (.slice e)) (hinfo : (Tryd.prog.info? e).map (fun i => (i.zero, i.size, i.bytes)) = some (some z, 1, bytes)) :
    ∃ wm, (Instr.makeSlice T (.int .i64 ((n : Int) + 1)) (.int .i64 ((n : Int) + 1))).run Tryd.prog w = .ok (.slice (some ⟨w.heap.size, 0, none⟩) (n + 1) (n + 1)) wm ∧ Row wm w.heap.size e (List.replicate (n + 1) z) ∧ Below w.heap.size w wm := by
  obtain ⟨i0, hi, hz0, hz1, hz2⟩ := info_parts hinfo
  have hr := run_make (P := Tryd.prog) w T e i0 z hT hi hz0 .i64 .i64 ((n : Int) + 1) ((n : Int) + 1) (by omega) (Int.le_refl _) (by
    rw [hz2]
    have h1 : bytes * (n + 1) ≤ 24 * 513 := Nat.mul_le_mul hby (by omega)
    have h2 : ((bytes * (n + 1) : Nat) : Int) ≤ 12312 := by omega
    rw [Int.natCast_mul] at h2
    have h3 : ((n + 1 : Nat) : Int) = (n : Int) + 1 := by omega
    rw [h3] at h2
    omega) (by omega)
  rw [hz1] at hr
  have e1 : ((n : Int) + 1).toNat = n + 1 := by omega
  rw [e1, hz, Nat.mul_one] at hr
  refine ⟨_, hr, ?_, (Below.refl _ w).alloc (Nat.le_refl _) _⟩
  have h1 := heap_alloc_new w (.cells (madeCells #[z] (n + 1)) e)
  unfold Row
  rw [← made1]
  simpa using h1
def IZ (k : Nat) : Value := .int .i64 (k : Int)
/-- the rows from k on are made and filled -/
def TabR (w : World) (gt n m k : Nat) (A B : List (List UInt8)) : Prop := ∃ xs, Row w gt 78 xs ∧ xs.length = n + 1 ∧ (∀ v ∈ xs, v.oneCell' = true) ∧ ∀ i, k ≤ i → i ≤ n → ∃ gi ys, xs[i]? = some (.slice (some ⟨gi, 0, none⟩) (m + 1) (m + 1)) ∧ gt < gi ∧ Row w gi 3 ys ∧ ys.length = m + 1 ∧ ∀ j, j ≤ m → ys[j]? = some (IZ (dist (A.drop i) (B.drop j)))
theorem TabR.lt {w : World} {gt n m k : Nat} {A B : List (List UInt8)} (h : TabR w gt n m k A B) : gt < w.heap.size := by
  obtain ⟨xs, h1, _⟩ := h
  exact h1.lt
theorem TabR.keep {w w' : World} {gt n m k : Nat} {A B : List (List UInt8)} (h : TabR w gt n m k A B) (hb : Below w.heap.size w w') : TabR w' gt n m k A B := by
  obtain ⟨xs, h1, h2, h0, h3⟩ := h
  refine ⟨xs, h1.keep hb h1.lt, h2, h0, fun i hk hi => ?_⟩
  obtain ⟨gi, ys, g1, g2, g3, g4, g5⟩ := h3 i hk hi
  exact ⟨gi, ys, g1, g2, g3.keep hb g3.lt, g4, g5⟩
theorem TabR.at {w : World} {gt n m k : Nat} {A B : List (List UInt8)} (h : TabR w gt n m k A B) {i : Nat} (hk : k ≤ i) (hi : i ≤ n) : ∃ gi ys, w.cell? ⟨gt, i, none⟩ = some (.slice (some ⟨gi, 0, none⟩) (m + 1) (m + 1)) ∧ gt < gi ∧ Row w gi 3 ys ∧ ys.length = m + 1 ∧ ∀ j, j ≤ m → ys[j]? = some (IZ (dist (A.drop i) (B.drop j))) := by
  obtain ⟨xs, h1, h2, h0, h3⟩ := h
  obtain ⟨gi, ys, g1, g2, g3, g4, g5⟩ := h3 i hk hi
  exact ⟨gi, ys, (h1.cell i).trans g1, g2, g3, g4, g5⟩
theorem TabR.cell {w : World} {gt n m k : Nat} {A B : List (List UInt8)} (h : TabR w gt n m k A B) {i : Nat} (hi : i ≤ n) : ∃ v, w.cell? ⟨gt, i, none⟩ = some v ∧ w.frozen? ⟨gt, i, none⟩ = false := by
  obtain ⟨xs, h1, h2, h0, h3⟩ := h
  exact ⟨_, (h1.cell i).trans (List.getElem?_eq_getElem (by omega)), h1.frozen i⟩
/-- the next row is hung in -/
theorem TabR.hang {w w' : World} {gt n m k : Nat} {A B : List (List UInt8)} (h : TabR w gt n m (k + 1) A B) (hb : Below w.heap.size w w') (hk : k ≤ n) {gi : Nat} (hg : w.heap.size ≤ gi) {zs : List Value} (hr : Row w' gi 3 zs) :
    ∃ xs, Row (w'.setCell ⟨gt, k, none⟩ (.slice (some ⟨gi, 0, none⟩) (m + 1) (m + 1))) gt 78 xs ∧ xs.length = n + 1 ∧ (∀ v ∈ xs, v.oneCell' = true) ∧ xs[k]? = some (.slice (some ⟨gi, 0, none⟩) (m + 1) (m + 1)) ∧ Row (w'.setCell ⟨gt, k, none⟩ (.slice (some ⟨gi, 0, none⟩) (m + 1) (m + 1))) gi 3 zs ∧
      ∀ i, k + 1 ≤ i → i ≤ n → ∃ g' ys, xs[i]? = some (.slice (some ⟨g', 0, none⟩) (m + 1) (m + 1)) ∧ gt < g' ∧ g' < w.heap.size ∧ Row (w'.setCell ⟨gt, k, none⟩ (.slice (some ⟨gi, 0, none⟩) (m + 1) (m + 1))) g' 3 ys ∧ ys.length = m + 1 ∧ ∀ j, j ≤ m → ys[j]? = some (IZ (dist (A.drop i) (B.drop j))) := by
  obtain ⟨xs, h1, h2, h0, h3⟩ := h
  have hl := h1.lt
  refine ⟨_, (h1.keep hb h1.lt).set _ _, by rw [List.length_set, h2], fun v hv => (List.mem_or_eq_of_mem_set hv).elim (h0 v) (fun e => by subst e; rfl), List.getElem?_set_self (by omega), hr.other (by show gt ≠ gi; omega) _, fun i hk' hi => ?_⟩
  obtain ⟨g', ys, g1, g2, g3, g4, g5⟩ := h3 i hk' hi
  exact ⟨g', ys, by rw [List.getElem?_set_ne (by omega)]; exact g1, g2, g3.lt, (g3.keep hb g3.lt).other (by show gt ≠ g'; omega) _, g4, g5⟩
set_option maxHeartbeats 4000000 in
set_option maxRecDepth 100000 in
theorem leastR (w : World) (a b : Option Addr) (n m c d : Nat) (A B : List (List UInt8)) (hA : ReadsS w a n A) (hB : ReadsS w b m B) (hn : n ≤ 512) (hm : m ≤ 512) (hnc : n ≤ c) (hmd : m ≤ d) :
    Calls Tryd.prog 45 #[.slice a n c, .slice b m d] w fun e w' => e = .returned (.slice (some ⟨w.heap.size, 0, none⟩) (n + 1) (n + 1)) ∧ TabR w' w.heap.size n m 0 A B ∧ Below w.heap.size w w' := by
  have HA := Lib.hid hA
  have HB := Lib.hid hB
  obtain ⟨wm, hmk, hrow, hbm⟩ := makeOnes w n hn (.slice none 0 0) 24 rfl (by decide) Tryd.underlying75 infoInts
  obtain ⟨g, hg⟩ : ∃ g, g = w.heap.size := ⟨_, rfl⟩
  rw [← hg] at hmk hrow hbm ⊢
  have hbs := hbm.size
  have hgl : g < wm.heap.size := hrow.lt
  have H0 : Hid (TabR wm g n m (n + 1) A B ∧ Below g w wm) := Lib.hid ⟨⟨_, hrow, List.length_replicate, fun v hv => by rw [List.eq_of_mem_replicate hv]; rfl, fun i hk hi => by omega⟩, hbm⟩
  have HG := Lib.hid hg
  clear hbm hrow hA hB hg
  go_enter Tryd.func45, Tryd.ntmps45
  go_wp2
  go_loopw [6] (fun ui wr => ∃ k : Nat, k ≤ n + 1 ∧ ui = .int .i64 ((k : Int) - 1) ∧ Hid (TabR wr g n m k A B ∧ Below g w wr)) (fun ui _ => (RowKit.intOf ui + 1).toNat)
  case atStart => exact ⟨n + 1, Nat.le_refl _, by go_num, H0⟩
  case round =>
    obtain ⟨k, hkn, rfl, HR⟩ := hrel
    by_cases hk0 : k = 0
    · subst hk0
      go_wp2
      go_ret
      exact ⟨rfl, HR.out.1, HR.out.2⟩
    · obtain ⟨i, rfl⟩ : ∃ i, k = i + 1 := ⟨k - 1, by omega⟩
      obtain ⟨wn, hmk2, hrow2, hbn⟩ := makeOnes wr m hm (.int .i64 0) 8 rfl (by decide) Tryd.underlying78 infoInt
      obtain ⟨gi, hgi⟩ : ∃ x, x = wr.heap.size := ⟨_, rfl⟩
      rw [← hgi] at hmk2 hrow2
      obtain ⟨v0, hc0, hf0⟩ := HR.out.1.cell (i := i) (by omega)
      have hgr := HR.out.1.lt
      have e0 : wn.cell? ⟨g, i, none⟩ = some v0 := (hbn.cell (p := ⟨g, i, none⟩) hgr).trans hc0
      have f0 : wn.frozen? ⟨g, i, none⟩ = false := by rw [← hf0]; exact hbn.frozen (p := ⟨g, i, none⟩) hgr
      have HH := Lib.hid (HR.out.1.hang hbn (by omega) (by omega : wr.heap.size ≤ gi) hrow2)
      have HBN := Lib.hid hbn
      have hii : (((i + 1 : Nat) : Int)) - 1 = (i : Int) := by omega
      have hnn : (i : Int) < (n : Int) + 1 := by omega
      have sn : gi + 1 ≤ wn.heap.size := hrow2.lt
      have HGI := Lib.hid hgi
      clear hgi hbn hrow2 hc0 hf0
      rw [hii]
      go_wp2
      obtain ⟨w8, hw8⟩ : ∃ x, x = wn.setCell ⟨g, i, none⟩ (.slice (some ⟨gi, 0, none⟩) (m + 1) (m + 1)) := ⟨_, rfl⟩
      rw [← hw8] at HH ⊢
      obtain ⟨xs, X1, X2, X0, Xk, X4, X5⟩ := HH.out
      have gsz : g < gi := by rw [HGI.out]; exact hgr
      have BG : Below g w w8 := by
        rw [hw8]
        exact (HR.out.2.trans (HBN.out.mono (by omega))).setCell (Nat.le_refl _) _
      have HBG := Lib.hid BG
      have HX5 := Lib.hid X5
      have HX0 := Lib.hid X0
      have s8 : gi + 1 ≤ w8.heap.size := by rw [hw8]; simpa using sn
      have hgis : wr.heap.size = gi := HGI.out.symm
      have H3 : Hid (w8.grownBy w8 (some gi) ∧ ∃ ys, Row w8 gi 3 ys ∧ ys.length = m + 1 ∧ ∀ j', m + 1 ≤ j' → j' ≤ m → ys[j']? = some (IZ (dist (A.drop i) (B.drop j')))) := Lib.hid ⟨grownBy_refl _ _, _, X4, List.length_replicate, fun j' h1 h2 => by omega⟩
      clear hw8 BG X5 X0 X4 HR HBN HH e0 f0 hmk2 sn HGI
      go_loopw [7] (fun ui wx => ∃ e : Nat, e ≤ m + 1 ∧ ui = .int .i64 ((e : Int) - 1) ∧ Hid (w8.grownBy wx (some gi) ∧ ∃ ys, Row wx gi 3 ys ∧ ys.length = m + 1 ∧ ∀ j', e ≤ j' → j' ≤ m → ys[j']? = some (IZ (dist (A.drop i) (B.drop j'))))) (fun ui _ => (RowKit.intOf ui + 1).toNat)
      case atStart => exact ⟨m + 1, Nat.le_refl _, by go_num, H3⟩
      case round =>
        rename_i wr0 _ _ _ _
        obtain ⟨e, hem, rfl, HS⟩ := hrel
        obtain ⟨hgx, ys, RY, yl, hyk⟩ := HS.out
        have RX : Row wr g 78 xs := X1.apart hgx (by omega)
        by_cases he0 : e = 0
        · subst he0
          have HT : Hid (TabR wr g n m i A B ∧ Below g w wr) := by
            refine ⟨⟨xs, RX, X2, HX0.out, fun i' h1 h2 => ?_⟩, HBG.out.trans (below_grownBy hgx (by omega) (by omega))⟩
            by_cases h3 : i' = i
            · subst h3
              exact ⟨gi, ys, Xk, gsz, RY, yl, fun j hj => hyk j (Nat.zero_le _) hj⟩
            · obtain ⟨g', zs, z1, z2, z3, z4, z5, z6⟩ := HX5.out i' (by omega) h2
              exact ⟨g', zs, z1, z2, z4.apart hgx (by omega), z5, z6⟩
          clear hgx RY yl hyk RX HS X1
          go_wp2
          go_roundw
          case rel => exact ⟨i, by omega, rfl, HT⟩
          case measure => simp [RowKit.intOf] <;> omega
        · obtain ⟨f, rfl⟩ : ∃ f, e = f + 1 := ⟨e - 1, by omega⟩
          have hff : (((f + 1 : Nat) : Int)) - 1 = (f : Int) := by omega
          have BWX : Below gi w8 wr := below_grownBy hgx (Nat.le_refl _) (by omega)
          have BG : Below g w wr := HBG.out.trans (BWX.mono (by omega))
          have c0 : wr.cell? ⟨g, i, none⟩ = some (.slice (some ⟨gi, 0, none⟩) (m + 1) (m + 1)) := (RX.cell i).trans Xk
          obtain ⟨v4, e4⟩ : ∃ v4, wr.cell? ⟨gi, f, none⟩ = some v4 := ⟨_, (RY.cell _).trans (List.getElem?_eq_getElem (by omega))⟩
          have f4 : wr.frozen? ⟨gi, f, none⟩ = false := RY.frozen _
          have hfm : (f : Int) < (m : Int) + 1 := by omega
          have hnext : ∀ dn : Nat, dist (A.drop i) (B.drop f) = dn → ∀ W', Below wr.heap.size wr W' → Hid (w8.grownBy (W'.setCell ⟨gi, f, none⟩ (.int .i64 (dn : Int))) (some gi) ∧ ∃ ys, Row (W'.setCell ⟨gi, f, none⟩ (.int .i64 (dn : Int))) gi 3 ys ∧ ys.length = m + 1 ∧ ∀ j', f ≤ j' → j' ≤ m → ys[j']? = some (IZ (dist (A.drop i) (B.drop j')))) := by
            intro dn hdn W' hW
            refine ⟨grownBy_trans hgx (grownBy_trans (grownBy_below hW _) (grownBy_setCell _ _ _ _)), _, (RY.keep hW RY.lt).set _ _, by rw [List.length_set, yl], fun j' h1 h2 => ?_⟩
            by_cases hjf : j' = f
            · subst hjf
              rw [List.getElem?_set_self (by omega), hdn]
              rfl
            · rw [List.getElem?_set_ne (Ne.symm hjf)]
              exact hyk j' (by omega) h2
          have HNX := Lib.hid hnext
          rw [hff]
          by_cases hin : i = n
          · have hD : dist (A.drop i) (B.drop f) = m - f := by
              rw [show A.drop i = [] from List.drop_of_length_le (by rw [HA.out.len]; omega)]
              simp only [dist, List.length_drop, HB.out.len]
            obtain ⟨q, hq⟩ : ∃ q, m - f = q := ⟨_, rfl⟩
            have HN := HNX.out q (by rw [hD, hq])
            have hq2 : (m : Int) - (f : Int) = (q : Int) := by omega
            subst hin
            clear hnext hyk RY RX HS hgx yl HNX X1 HX5 HX0 HBG H0 BG BWX hD hq
            go_wp2
            go_roundw
            case rel => exact ⟨f, by omega, rfl, HN _ ⟨rfl, rfl, rfl, Nat.le_refl _, fun _ _ => rfl⟩⟩
            case measure => simp [RowKit.intOf] <;> omega
          · by_cases hfm2 : f = m
            · have hD : dist (A.drop i) (B.drop f) = n - i := by
                rw [show B.drop f = [] from List.drop_of_length_le (by rw [HB.out.len]; omega), dist_nil, List.length_drop, HA.out.len]
              obtain ⟨q, hq⟩ : ∃ q, n - i = q := ⟨_, rfl⟩
              have HN := HNX.out q (by rw [hD, hq])
              have hq2 : (n : Int) - (i : Int) = (q : Int) := by omega
              have hin2 : (i : Int) ≠ (n : Int) := by omega
              subst hfm2
              clear hnext hyk RY RX HS hgx yl HNX X1 HX5 HX0 HBG H0 BG BWX hD hq
              go_wp2
              go_roundw
              case rel => exact ⟨f, by omega, rfl, HN _ ⟨rfl, rfl, rfl, Nat.le_refl _, fun _ _ => rfl⟩⟩
              case measure => simp [RowKit.intOf] <;> omega
            · obtain ⟨ba, oa, x, rfl, hba, hx, hca⟩ := (HA.out.keep BG (by rw [← HG.out]; exact Nat.le_refl _)).at (k := i) (by omega)
              obtain ⟨bb, ob, y, rfl, hbb, hy, hcb⟩ := (HB.out.keep BG (by rw [← HG.out]; exact Nat.le_refl _)).at (k := f) (by omega)
              have hdx : A.drop i = x :: A.drop (i + 1) := drop_cons hx
              have hdy : B.drop f = y :: B.drop (f + 1) := drop_cons hy
              have hla : (A.drop (i + 1)).length ≤ 512 := by rw [List.length_drop, HA.out.len]; omega
              have hlb : (B.drop (f + 1)).length ≤ 512 := by rw [List.length_drop, HB.out.len]; omega
              obtain ⟨g1, zs, z1, z2, z3, z4, z5, z6⟩ := HX5.out (i + 1) (Nat.le_refl _) (by omega)
              have RZ : Row wr g1 3 zs := z4.apart hgx (by omega)
              have hg1 : g1 < gi := by omega
              obtain ⟨d1, hd1⟩ : ∃ d1, dist (A.drop (i + 1)) (B.drop (f + 1)) = d1 := ⟨_, rfl⟩
              obtain ⟨d2, hd2⟩ : ∃ d2, dist (A.drop (i + 1)) (B.drop f) = d2 := ⟨_, rfl⟩
              obtain ⟨d3, hd3⟩ : ∃ d3, dist (A.drop i) (B.drop (f + 1)) = d3 := ⟨_, rfl⟩
              have b2 : d2 ≤ 1025 := by rw [← hd2]; refine Nat.le_trans (dist_le _ _) ?_; rw [hdy, List.length_cons]; omega
              have b3 : d3 ≤ 1025 := by rw [← hd3]; refine Nat.le_trans (dist_le _ _) ?_; rw [hdx, List.length_cons]; omega
              have k1 := z6 (f + 1) (by omega)
              have k2 := z6 f (by omega)
              have k3 := hyk (f + 1) (Nat.le_refl _) (by omega)
              rw [hd1] at k1
              rw [hd2] at k2
              rw [hd3] at k3
              have c1 : wr.cell? ⟨g, i + 1, none⟩ = some (.slice (some ⟨g1, 0, none⟩) (m + 1) (m + 1)) := (RX.cell _).trans z1
              have e1 : wr.cell? ⟨g1, f + 1, none⟩ = some (.int .i64 (d1 : Int)) := (RZ.cell _).trans k1
              have e2 : wr.cell? ⟨g1, f, none⟩ = some (.int .i64 (d2 : Int)) := (RZ.cell _).trans k2
              have e3 : wr.cell? ⟨gi, f + 1, none⟩ = some (.int .i64 (d3 : Int)) := (RY.cell _).trans k3
              have hin2 : (i : Int) ≠ (n : Int) := by omega
              have hfm3 : (f : Int) ≠ (m : Int) := by omega
              obtain ⟨f1, hf1⟩ : ∃ f1, f + 1 = f1 := ⟨_, rfl⟩
              obtain ⟨i1, hi1⟩ : ∃ i1, i + 1 = i1 := ⟨_, rfl⟩
              have hw1 : IntKind.i64.wrap ((f : Int) + 1) = (f1 : Int) := by rw [show (f : Int) + 1 = (f1 : Int) by omega]; exact IntWalk.i64_in _ (by omega)
              have hw2 : IntKind.i64.wrap ((i : Int) + 1) = (i1 : Int) := by rw [show (i : Int) + 1 = (i1 : Int) by omega]; exact IntWalk.i64_in _ (by omega)
              have hb1 : (f1 : Int) < (m : Int) + 1 := by omega
              have hb2 : (i1 : Int) < (n : Int) + 1 := by omega
              have hne1 : f ≠ f1 := by omega
              rw [hf1] at e1 e3
              rw [hi1] at c1
              by_cases hxy : x = y
              · subst hxy
                have hD : dist (A.drop i) (B.drop f) = d1 := by rw [hdx, hdy, dist, if_pos rfl, hd1]
                have HN := HNX.out d1 hD
                clear hnext hyk RY RX HS hgx yl HNX X1 HX5 HX0 HBG H0 BG BWX hdx hdy hd1 hd2 hd3 k1 k2 k3 hx hy hla hlb hba hbb hD z1 z3 z4 z5 z6 RZ e2 e3 hf1 hi1 hff hii
                go_wp2
                go_quiet (fail)
                go_wp2
                go_region_held3 (fun w' => w'.cell? ⟨g, i, none⟩ = some (.slice (some ⟨gi, 0, none⟩) (m + 1) (m + 1)) ∧ w'.cell? ⟨g, i1, none⟩ = some (.slice (some ⟨g1, 0, none⟩) (m + 1) (m + 1)) ∧ w'.cell? ⟨g1, f1, none⟩ = some (.int .i64 (d1 : Int))) (first | exact ⟨c0, c1, e1⟩ | exact ⟨(World.cell?_setCell_other _ _ _ _ (by intro h; simp only [Addr.mk.injEq] at h; omega)).trans c0, (World.cell?_setCell_other _ _ _ _ (by intro h; simp only [Addr.mk.injEq] at h; omega)).trans c1, (World.cell?_setCell_other _ _ _ _ (by intro h; simp only [Addr.mk.injEq] at h; omega)).trans e1⟩ | go_keep) (fail)
                go_wp2
                go_roundw
                case rel => exact ⟨f, by omega, rfl, HN _ ⟨rfl, rfl, rfl, Nat.le_refl _, fun _ _ => rfl⟩⟩
                case measure => simp [RowKit.intOf] <;> omega
              · have hne : (x == y) = false := by rw [beq_eq_false_iff_ne]; exact hxy
                have hD : dist (A.drop i) (B.drop f) = 1 + min d2 d3 := by rw [hdx, hdy, dist, if_neg hxy, ← hdx, ← hdy, hd2, hd3]
                obtain ⟨dn, hdn⟩ : ∃ dn, 1 + min d2 d3 = dn := ⟨_, rfl⟩
                have hwm : IntKind.i64.wrap (1 + min (d2 : Int) (d3 : Int)) = (dn : Int) := by
                  rw [show 1 + min (d2 : Int) (d3 : Int) = (dn : Int) by omega]
                  exact IntWalk.i64_in _ (by omega)
                have HN := HNX.out dn (by rw [hD, hdn])
                clear hnext hyk RY RX HS hgx yl HNX X1 HX5 HX0 HBG H0 BG BWX hdx hdy hd1 hd2 hd3 k1 k2 k3 hx hy hla hlb hba hbb hD z1 z3 z4 z5 z6 RZ e1 hf1 hi1 hff hii hdn hxy
                go_wp2
                go_quiet (fail)
                go_wp2
                go_region_held3 (fun w' => w'.cell? ⟨g, i, none⟩ = some (.slice (some ⟨gi, 0, none⟩) (m + 1) (m + 1)) ∧ w'.cell? ⟨g, i1, none⟩ = some (.slice (some ⟨g1, 0, none⟩) (m + 1) (m + 1)) ∧ w'.cell? ⟨g1, f, none⟩ = some (.int .i64 (d2 : Int)) ∧ w'.cell? ⟨gi, f1, none⟩ = some (.int .i64 (d3 : Int))) (first | exact ⟨c0, c1, e2, e3⟩ | exact ⟨(World.cell?_setCell_other _ _ _ _ (by intro h; simp only [Addr.mk.injEq] at h; omega)).trans c0, (World.cell?_setCell_other _ _ _ _ (by intro h; simp only [Addr.mk.injEq] at h; omega)).trans c1, (World.cell?_setCell_other _ _ _ _ (by intro h; simp only [Addr.mk.injEq] at h; omega)).trans e2, (World.cell?_setCell_other _ _ _ _ (by intro h; simp only [Addr.mk.injEq] at h; omega)).trans e3⟩ | go_keep) (fail)
                go_wp2
                go_roundw
                case rel => exact ⟨f, by omega, rfl, HN _ ⟨rfl, rfl, rfl, Nat.le_refl _, fun _ _ => rfl⟩⟩
                case measure => simp [RowKit.intOf] <;> omega
end Go.Proofs.YtnbihjocdlpplaaDoor
