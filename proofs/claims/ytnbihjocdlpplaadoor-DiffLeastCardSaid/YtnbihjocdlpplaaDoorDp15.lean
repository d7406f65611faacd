/- Texts joined, one behind the other (DBackR, DCount). -/
import Derived.Test.YtnbihjocdlpplaaDoorDp14
/- The patch the other way, by the reference. -/
namespace Go.Proofs.YtnbihjocdlpplaaDoor
set_option linter.unusedVariables false
set_option linter.unusedSimpArgs false
open Go.RowKit
open Go.Lib
theorem SW.add {B : Nat} {w w' : World} {vo v : Value} {hs : List HCell} {H : List Hk} {L : List (List UInt8)} (h : SW B w vo hs H []) (hb : Below w.heap.size w w') (hB : B ≤ w.heap.size) (hv : StrOwn w.heap.size v L w') : SW B w' vo hs H [(v, L)] := by
  have h' := h.keep hb
  refine ⟨h'.own, h'.len, fun k c x h1 h2 => ?_, fun p hp => ?_, fun i j p q hi hj hij => ?_, h'.dist⟩
  · obtain ⟨e1, e2, e3, e4, e5⟩ := h'.each k c x h1 h2
    refine ⟨e1, e2, e3, e4, fun ad had => ⟨(e5 ad had).1, (e5 ad had).2.1, fun p hp e => ?_⟩⟩
    obtain rfl := List.mem_singleton.1 hp
    have h9 := (hv.lt _ e).1
    obtain ⟨_, ⟨cur, hcur⟩, _⟩ := (h.each k c x h1 h2).2.2.2.2 ad had
    have := (Array.getElem?_eq_some_iff.1 hcur).1
    omega
  · obtain rfl := List.mem_singleton.1 hp
    exact own_mono hv hB
  · have h1 := (List.getElem?_eq_some_iff.1 hi).1
    have h2 := (List.getElem?_eq_some_iff.1 hj).1
    simp at h1 h2
    omega
set_option maxHeartbeats 4000000 in
set_option maxRecDepth 100000 in
theorem copyR (w : World) (a : Option Addr) (n c : Nat) (L : List (List UInt8)) (h : ReadsS w a n L) (hn : n ≤ 1073741824) :
    Calls Tryd.prog 55 #[.slice a n c] w fun e w' => ∃ v, e = .returned v ∧ StrOwn w.heap.size v L w' ∧ Below w.heap.size w w' := by
  have HX := Lib.hid h
  have HN := Lib.hid h.len
  have H0 : Hid (StrOwn w.heap.size (.slice none 0 0) [] w) := Lib.hid (World.ownsRow_nil _ _ _ _)
  clear h
  go_enter Tryd.func55, Tryd.ntmps55
  go_wp2
  go_loopw [3, 4] (fun vv ui wr => ∃ i : Nat, ui = .int .i64 (i : Int) ∧ i ≤ n ∧ Hid (StrOwn w.heap.size vv (L.take i) wr ∧ Below w.heap.size w wr)) (fun _ ui _ => n - (RowKit.intOf ui).toNat)
  case atStart => exact ⟨0, rfl, Nat.zero_le _, Lib.hid ⟨H0.out, Below.refl _ _⟩⟩
  case round =>
    obtain ⟨i, rfl, hi, HR⟩ := hrel
    obtain ⟨vv, rfl⟩ : ∃ v : Value, v = u3 := ⟨_, rfl⟩
    by_cases hlt : i < n
    · obtain ⟨b, off, x, rfl, hb, hx, hc0⟩ := (HX.out.keep HR.out.2 (Nat.le_refl _)).at hlt
      have HF := Lib.hid (take_next hx)
      have hl : (L.take i).length ≤ 1073741824 := by rw [List.length_take]; omega
      have hwb := HR.out.2.size
      have hit : (i : Int) < (n : Int) := by omega
      clear hx
      go_wp2_with (at_builtin; refine appNew rfl _ _ rfl Tryd.underlying29 (.string ByteArray.empty) 1 16 infoStr rfl (by decide) (by decide) w.heap.size w.heap.size w wr vv (L.take i).length ((L.take i).map S1) [S1 x] rfl (by intro u hu; simp only [List.mem_singleton] at hu; subst hu; rfl) rfl HR.out.1 rfl rfl hl HR.out.2 (Nat.le_refl _) hwb ?_; intro v8 w8 hO8 hb8 hs8)
      have HO8 : Hid (StrOwn w.heap.size v8 (L.take (i + 1)) w8 ∧ Below w.heap.size w w8) := Lib.hid ⟨by rw [HF.out]; exact StrOwn.push hO8, hb8⟩
      clear hO8 hb8
      go_roundw
      case rel => exact ⟨i + 1, by go_num, hlt, HO8⟩
      case measure => simp [RowKit.intOf]; omega
    · obtain rfl : i = n := by omega
      have hd : L.take i = L := List.take_of_length_le (by rw [HN.out]; exact Nat.le_refl _)
      have HD := Lib.hid hd
      clear hd
      go_wp2
      go_ret
      have h9 := HR.out.1
      rw [HD.out] at h9
      exact ⟨_, rfl, h9, HR.out.2⟩
theorem len_lines (X : List HkI) (h : ∀ x ∈ X, x.2 ≠ []) : X.length ≤ linesK X := by
  induction X with
  | nil => exact Nat.le_refl _
  | cons x X ih =>
    have h1 := ih (fun y hy => h y (List.mem_cons_of_mem _ hy))
    have h2 : 0 < x.2.length := List.length_pos_iff.2 (h x (by simp))
    unfold linesK at *
    rw [List.map_cons, List.sum_cons, List.length_cons]
    omega
theorem drop_consK {X : List HkI} {i : Nat} {x : HkI} (h : X[i]? = some x) : X.drop i = x :: X.drop (i + 1) := by
  obtain ⟨h1, h2⟩ := List.getElem?_eq_some_iff.1 h
  rw [List.drop_eq_getElem_cons h1, h2]
theorem backGo_same {x : HkI} {r : List HkI} {out : List Hk} (h : x.1 = 1) : backGo (x :: r) out = backGo r (putK 1 x.2 out) := by
  rw [backGo.eq_def]; simp only [h, if_true]
theorem backGo_in {x : HkI} {r : List HkI} {out : List Hk} (h : x.1 = 3) : backGo (x :: r) out = backGo r (putK 2 x.2 out) := by
  rw [backGo.eq_def]; simp [h]
theorem backGo_two {x y : HkI} {r : List HkI} {out : List Hk} (h : x.1 = 2) (hy : y.1 = 3) : backGo (x :: y :: r) out = backGo r (putK 3 x.2 (putK 2 y.2 out)) := by
  rw [backGo.eq_def]; simp [h, hy]
theorem backGo_out {x : HkI} {r : List HkI} {out : List Hk} (h : x.1 = 2) (hy : ∀ y r', r = y :: r' → y.1 ≠ 3) : backGo (x :: r) out = backGo r (putK 3 x.2 out) := by
  rw [backGo.eq_def]
  cases r with
  | nil => simp [h, backGo]
  | cons y r' => simp [h, hy y r' rfl]
/-- what the reference's call answers -/
def BackQ (w : World) (X : List HkI) (e : Ending) (w' : World) : Prop :=
  (checkB X = false ∧ e = .returned (.tuple #[.slice none 0 0, .int .i64 310]) ∧ Below w.heap.size w w') ∨
  (checkB X = true ∧ ∃ a c, e = .returned (.tuple #[.slice a (backI X).length c, .int .i64 0]) ∧ ReadsK w' a (backI X).length ((backI X).map toI) ∧ Below w.heap.size w w')
/-- what the loop carries -/
structure LoopK (B : Nat) (w3 : World) (X : List HkI) (i : Nat) (vo : Value) (hs : List HCell) (H : List Hk) (wr : World) : Prop where
  sw : SW B wr vo hs H []
  size : B ≤ wr.heap.size
  bel : Below B w3 wr
  go : backGo (X.drop i) H = backI X
  len : H.length ≤ i
set_option maxHeartbeats 16000000 in
set_option maxRecDepth 100000 in
theorem backR (w : World) (a : Option Addr) (n c : Nat) (X : List HkI) (hX : ReadsK w a n X) (hF : Fit X) :
    Calls Tryd.prog 25 #[.slice a n c] w (BackQ w X) := by
  have HX := Lib.hid hX
  have HN := Lib.hid hX.len
  have HC := Lib.hid (checkR w a n c X hX hF)
  by_cases hk : checkB X = true
  · have HK : Hid (errP (checkB X) = 0) := Lib.hid (by rw [hk]; rfl)
    rw [HK.out] at HC
    have HCK := Lib.hid hk
    have hok : okB 0 X = true := by
      unfold checkB at hk
      rw [Bool.and_eq_true, Bool.and_eq_true] at hk
      exact hk.1.1
    have hl := check_lines hk
    have hn : n ≤ 1024 := by
      have := len_lines X (fun x hx => (okB_mem X 0 hok x hx).2)
      rw [hX.len] at this
      omega
    have HOK := Lib.hid hok
    have HBR := Lib.hid (back_ref hok)
    have HL := Lib.hid hl
    clear hk hX hF hok hl
    go_enter Tryd.func25, Tryd.ntmps25
    go_wp2_with (go_at_call 20; refine (HC.out).mono ?_; rintro e w3 ⟨rfl, hb3⟩; have HB3 := Lib.hid hb3; clear hb3)
    have HX3 : Hid (ReadsK w3 a n X) := Lib.hid (HX.out.keep HB3.out (Nat.le_refl _))
    go_loopw [4, 5] (fun vo ui wr => ∃ (i : Nat) (hs : List HCell) (H : List Hk), ui = .int .i64 (i : Int) ∧ i ≤ n ∧ Hid (LoopK w3.heap.size w3 X i vo hs H wr)) (fun _ ui _ => n - (RowKit.intOf ui).toNat)
    case atStart => exact ⟨0, [], [], rfl, Nat.zero_le _, Lib.hid ⟨SW.start _ _ _ (fun q hq => by cases hq), Nat.le_refl _, Below.refl _ _, HBR.out, Nat.zero_le _⟩⟩
    case round =>
      obtain ⟨i, hs, H, rfl, hi, HR⟩ := hrel
      obtain ⟨vo, rfl⟩ : ∃ v : Value, v = u4 := ⟨_, rfl⟩
      by_cases hlt : i < n
      · obtain ⟨b, off, x, ad, m, cm, rfl, hb, hx, hc0, hc1, hrs, hmc, hcm, hm⟩ := HX3.out.at hlt
        have hkx : 1 ≤ x.1 ∧ x.1 ≤ 3 := (okB_mem X 0 HOK.out x (List.mem_of_getElem? hx)).1
        have hml : m ≤ 1024 := by
          have h1 := linesK_mem (List.mem_of_getElem? hx)
          have h2 := HL.out
          omega
        have hH := HR.out.len
        have hdk := drop_consK hx
        have hgo := HR.out.go
        rw [hdk] at hgo
        have HGO := Lib.hid hgo
        have HRS := Lib.hid hrs
        have HX0 := Lib.hid hx
        have hd0 : wr.cell? ⟨b, off + i * 2, none⟩ = some (.int .i64 x.1) := (HR.out.bel.cell (p := ⟨b, off + i * 2, none⟩) hb).trans hc0
        have hd1 : wr.cell? ⟨b, off + i * 2 + 1, none⟩ = some (.slice ad m cm) := (HR.out.bel.cell (p := ⟨b, off + i * 2 + 1, none⟩) hb).trans hc1
        have hit : (i : Int) < (n : Int) := by omega
        have hcopy : ∀ W, Below w3.heap.size w3 W → Calls Tryd.prog 55 #[.slice ad m cm] W fun e w' => ∃ v, e = .returned v ∧ StrOwn W.heap.size v x.2 w' ∧ Below W.heap.size W w' := fun W hW => copyR W ad m cm x.2 (HRS.out.keep hW (Nat.le_refl _)) (by omega)
        have HCP := Lib.hid hcopy
        obtain ⟨kd, hkd⟩ : ∃ kd, kd = x.1 := ⟨_, rfl⟩
        rw [← hkd] at hd0
        have HKD := Lib.hid hkd
        clear hdk hgo hrs hcopy hc0 hc1 hmc hm
        have hk3 : kd = 1 ∨ kd = 3 ∨ kd = 2 := by omega
        clear hkd hkx
        rcases hk3 with rfl | rfl | rfl
        · have hg := HGO.out
          rw [backGo_same HKD.out.symm] at hg
          have HG := Lib.hid hg
          clear hg hx
          go_wp2_with (first
            | (go_at_call 55; refine (HCP.out wr HR.out.bel).mono ?_; rintro e w4 ⟨v4, rfl, hO4, hb4⟩; have HS4 := Lib.hid (HR.out.sw.add hb4 HR.out.size hO4); have HB4 := Lib.hid hb4; have hz4 := hb4.size; clear hO4 hb4)
            | (go_at_call 46; refine (hunkR w4 w3.heap.size vo v4 hs H [(v4, x.2)] 0 1 x.2 HS4.out (Nat.le_trans HR.out.size hz4) rfl (by omega)).mono ?_; rintro e w5 ⟨vo5, hs5, rfl, hS5, hB5, hb5⟩; have HS5 := Lib.hid hS5; have HB5 := Lib.hid hB5; have Hb5 := Lib.hid hb5; clear hS5 hB5 hb5))
          have k1 := putK_le 1 x.2 H
          have HNX : Hid (LoopK w3.heap.size w3 X (i + 1) vo5 hs5 (putK 1 x.2 H) w5) := Lib.hid ⟨HS5.out.bare, HB5.out, (HR.out.bel.trans (HB4.out.mono HR.out.size)).trans Hb5.out, HG.out, by omega⟩
          clear k1
          go_roundw
          case rel => exact ⟨i + 1, _, _, by go_num, hlt, HNX⟩
          case measure => simp [RowKit.intOf]; omega
        · have hg := HGO.out
          rw [backGo_in HKD.out.symm] at hg
          have HG := Lib.hid hg
          clear hg hx
          go_wp2_with (first
            | (go_at_call 55; refine (HCP.out wr HR.out.bel).mono ?_; rintro e w4 ⟨v4, rfl, hO4, hb4⟩; have HS4 := Lib.hid (HR.out.sw.add hb4 HR.out.size hO4); have HB4 := Lib.hid hb4; have hz4 := hb4.size; clear hO4 hb4)
            | (go_at_call 46; refine (hunkR w4 w3.heap.size vo v4 hs H [(v4, x.2)] 0 2 x.2 HS4.out (Nat.le_trans HR.out.size hz4) rfl (by omega)).mono ?_; rintro e w5 ⟨vo5, hs5, rfl, hS5, hB5, hb5⟩; have HS5 := Lib.hid hS5; have HB5 := Lib.hid hB5; have Hb5 := Lib.hid hb5; clear hS5 hB5 hb5))
          have k1 := putK_le 2 x.2 H
          have HNX : Hid (LoopK w3.heap.size w3 X (i + 1) vo5 hs5 (putK 2 x.2 H) w5) := Lib.hid ⟨HS5.out.bare, HB5.out, (HR.out.bel.trans (HB4.out.mono HR.out.size)).trans Hb5.out, HG.out, by omega⟩
          clear k1
          go_roundw
          case rel => exact ⟨i + 1, _, _, by go_num, hlt, HNX⟩
          case measure => simp [RowKit.intOf]; omega
        · by_cases h1n : i + 1 < n
          · obtain ⟨b2, off2, y, ad2, m2, cm2, ea2, _, hy, hc20, hc21, hrs2, _, _, hm2⟩ := HX3.out.at h1n
            cases ea2
            obtain ⟨i1, hi1⟩ : ∃ i1, i + 1 = i1 := ⟨_, rfl⟩
            have hdky := drop_consK hy
            have hml2 : m2 ≤ 1024 := by
              have h1 := linesK_mem (List.mem_of_getElem? hy)
              have h2 := HL.out
              omega
            rw [hi1] at hc20 hc21
            have hd20 : wr.cell? ⟨b, off + i1 * 2, none⟩ = some (.int .i64 y.1) := (HR.out.bel.cell (p := ⟨b, off + i1 * 2, none⟩) hb).trans hc20
            have hd21 : wr.cell? ⟨b, off + i1 * 2 + 1, none⟩ = some (.slice ad2 m2 cm2) := (HR.out.bel.cell (p := ⟨b, off + i1 * 2 + 1, none⟩) hb).trans hc21
            have hw : IntKind.i64.wrap ((i : Int) + 1) = (i1 : Int) := by rw [show (i : Int) + 1 = (i1 : Int) by omega]; exact IntWalk.i64_in _ (by omega)
            have hi1n : (i1 : Int) < (n : Int) := by omega
            have HRS2 := Lib.hid hrs2
            have hcopy2 : ∀ W, Below w3.heap.size w3 W → Calls Tryd.prog 55 #[.slice ad2 m2 cm2] W fun e w' => ∃ v, e = .returned v ∧ StrOwn W.heap.size v y.2 w' ∧ Below W.heap.size W w' := fun W hW => copyR W ad2 m2 cm2 y.2 (HRS2.out.keep hW (Nat.le_refl _)) (by omega)
            have HCP2 := Lib.hid hcopy2
            have hkc : ∀ W, Below w3.heap.size w3 W → W.cell? ⟨b, off + i * 2 + 1, none⟩ = some (.slice ad m cm) := fun W hW => (hW.cell (p := ⟨b, off + i * 2 + 1, none⟩) hb).trans ((HR.out.bel.cell (p := ⟨b, off + i * 2 + 1, none⟩) hb).symm.trans hd1)
            have HKC := Lib.hid hkc
            obtain ⟨ky, hky⟩ : ∃ ky, ky = y.1 := ⟨_, rfl⟩
            rw [← hky] at hd20
            rw [hi1] at hdky
            have hgo := HGO.out
            rw [show X.drop (i + 1) = X.drop i1 by rw [hi1], hdky] at hgo
            by_cases h3 : ky = 3
            · have hg := hgo
              rw [backGo_two HKD.out.symm (hky.symm.trans h3)] at hg
              have HG := Lib.hid hg
              subst h3
              have HI1 := Lib.hid hi1
              clear hg hgo hdky hy hx hi1 hky hrs2 hcopy2 hkc hc20 hc21 HGO
              go_wp2_with (first
                | (go_at_call_of 55 (Value.slice ad2 m2 cm2); refine (HCP2.out wr HR.out.bel).mono ?_; rintro e w4 ⟨v4, rfl, hO4, hb4⟩; have HS4 := Lib.hid (HR.out.sw.add hb4 HR.out.size hO4); have HB4 := Lib.hid (HR.out.bel.trans (hb4.mono HR.out.size)); have hz4 := Nat.le_trans HR.out.size hb4.size; have hk4 := HKC.out w4 HB4.out; clear hO4 hb4)
                | (go_at_call_of 46 (Value.int .i64 2); refine (hunkR w4 w3.heap.size vo v4 hs H [(v4, y.2)] 0 2 y.2 HS4.out hz4 rfl (by omega)).mono ?_; rintro e w5 ⟨vo5, hs5, rfl, hS5, hB5, hb5⟩; have HS5 := Lib.hid hS5.bare; have hz5 := hB5; have HB5 := Lib.hid (HB4.out.trans hb5); have hk5 := HKC.out w5 HB5.out; clear hS5 hB5 hb5)
                | (go_at_call_of 55 (Value.slice ad m cm); refine (HCP.out w5 HB5.out).mono ?_; rintro e w6 ⟨v6, rfl, hO6, hb6⟩; have HS6 := Lib.hid (HS5.out.add hb6 hz5 hO6); have HB6 := Lib.hid (HB5.out.trans (hb6.mono hz5)); have hz6 := Nat.le_trans hz5 hb6.size; clear hO6 hb6)
                | (go_at_call_of 46 (Value.int .i64 3); refine (hunkR w6 w3.heap.size vo5 v6 hs5 (putK 2 y.2 H) [(v6, x.2)] 0 3 x.2 HS6.out hz6 rfl (by have := putK_le 2 y.2 H; omega)).mono ?_; rintro e w7 ⟨vo7, hs7, rfl, hS7, hB7, hb7⟩; have HS7 := Lib.hid hS7.bare; have HZ7 := Lib.hid hB7; have HB7 := Lib.hid (HB6.out.trans hb7); clear hS7 hB7 hb7))
              have k1 := putK_le 2 y.2 H
              have k2 := putK_le 3 x.2 (putK 2 y.2 H)
              have hi1' := HI1.out
              have HNX : Hid (LoopK w3.heap.size w3 X (i1 + 1) vo7 hs7 (putK 3 x.2 (putK 2 y.2 H)) w7) := Lib.hid ⟨HS7.out, HZ7.out, HB7.out, HG.out, by omega⟩
              clear k1 k2
              go_roundw
              case rel => exact ⟨i1 + 1, _, _, by go_num, by omega, HNX⟩
              case measure => simp [RowKit.intOf]; omega
            · have hg := hgo
              rw [backGo_out HKD.out.symm (fun y' r' he => by cases he; rw [← hky]; exact h3), ← hdky] at hg
              have HG := Lib.hid hg
              have hb3 : (ky == 3) = false := by rw [beq_eq_false_iff_ne]; exact h3
              have HI1 := Lib.hid hi1
              clear hg hgo hdky hy hx hi1 hky hrs2 hcopy2 hkc hc20 hc21 HGO h3
              go_wp2_with (first
                | (go_at_call 55; refine (HCP.out wr HR.out.bel).mono ?_; rintro e w4 ⟨v4, rfl, hO4, hb4⟩; have HS4 := Lib.hid (HR.out.sw.add hb4 HR.out.size hO4); have HB4 := Lib.hid hb4; have hz4 := hb4.size; clear hO4 hb4)
                | (go_at_call 46; refine (hunkR w4 w3.heap.size vo v4 hs H [(v4, x.2)] 0 3 x.2 HS4.out (Nat.le_trans HR.out.size hz4) rfl (by omega)).mono ?_; rintro e w5 ⟨vo5, hs5, rfl, hS5, hB5, hb5⟩; have HS5 := Lib.hid hS5; have HB5 := Lib.hid hB5; have Hb5 := Lib.hid hb5; clear hS5 hB5 hb5))
              have k1 := putK_le 3 x.2 H
              have hi1' := HI1.out
              have HNX : Hid (LoopK w3.heap.size w3 X i1 vo5 hs5 (putK 3 x.2 H) w5) := Lib.hid ⟨HS5.out.bare, HB5.out, (HR.out.bel.trans (HB4.out.mono HR.out.size)).trans Hb5.out, HG.out, by omega⟩
              clear k1
              go_roundw
              case rel => exact ⟨i1, _, _, by go_num, by omega, HNX⟩
              case measure => simp [RowKit.intOf]; omega
          · have hg := HGO.out
            have hdn : X.drop (i + 1) = [] := List.drop_of_length_le (by rw [HN.out]; omega)
            rw [backGo_out HKD.out.symm (fun y' r' he => by rw [hdn] at he; cases he)] at hg
            have HG := Lib.hid hg
            have h1n' : ¬ (i : Int) + 1 < (n : Int) := by omega
            clear hg hx hdn
            go_wp2_with (first
              | (go_at_call 55; refine (HCP.out wr HR.out.bel).mono ?_; rintro e w4 ⟨v4, rfl, hO4, hb4⟩; have HS4 := Lib.hid (HR.out.sw.add hb4 HR.out.size hO4); have HB4 := Lib.hid hb4; have hz4 := hb4.size; clear hO4 hb4)
              | (go_at_call 46; refine (hunkR w4 w3.heap.size vo v4 hs H [(v4, x.2)] 0 3 x.2 HS4.out (Nat.le_trans HR.out.size hz4) rfl (by omega)).mono ?_; rintro e w5 ⟨vo5, hs5, rfl, hS5, hB5, hb5⟩; have HS5 := Lib.hid hS5; have HB5 := Lib.hid hB5; have Hb5 := Lib.hid hb5; clear hS5 hB5 hb5))
            have k1 := putK_le 3 x.2 H
            have HNX : Hid (LoopK w3.heap.size w3 X (i + 1) vo5 hs5 (putK 3 x.2 H) w5) := Lib.hid ⟨HS5.out.bare, HB5.out, (HR.out.bel.trans (HB4.out.mono HR.out.size)).trans Hb5.out, HG.out, by omega⟩
            clear k1
            go_roundw
            case rel => exact ⟨i + 1, _, _, by go_num, hlt, HNX⟩
            case measure => simp [RowKit.intOf]; omega
      · obtain rfl : i = n := by omega
        have hd : X.drop i = [] := List.drop_of_length_le (by rw [HN.out]; exact Nat.le_refl _)
        have hgo := HR.out.go
        rw [hd] at hgo
        have hgo2 : H = backI X := by rw [← hgo]; simp [backGo]
        subst hgo2
        obtain ⟨a9, c9, rfl⟩ := slice_own HR.out.sw.own
        have HRD := Lib.hid HR.out.sw.reads
        clear hd hgo
        go_wp2
        go_ret2
        refine .inr ⟨HCK.out, a9, c9, ?_, HRD.out.2, HB3.out.trans (HR.out.bel.mono HB3.out.size)⟩
        rw [← HRD.out.1]
        rfl
  · rw [Bool.not_eq_true] at hk
    have HK : Hid (errP (checkB X) = 310) := Lib.hid (by rw [hk]; rfl)
    rw [HK.out] at HC
    have HCK := Lib.hid hk
    clear hk hX hF
    go_enter Tryd.func25, Tryd.ntmps25
    go_wp2_with (go_at_call 20; refine (HC.out).mono ?_; rintro e w3 ⟨rfl, hb3⟩; have HB3 := Lib.hid hb3; clear hb3)
    go_ret2
    exact .inl ⟨HCK.out, rfl, HB3.out⟩
end Go.Proofs.YtnbihjocdlpplaaDoor
/- How many lines a text has, and whether a line has its end: by both. -/
namespace Go.Proofs.YtnbihjocdlpplaaDoor
set_option linter.unusedVariables false
set_option linter.unusedSimpArgs false
open Go.RowKit Go.Shelf
open Go.Lib
attribute [local go_sem] Oper.semAt_some
set_option maxHeartbeats 4000000 in
set_option maxRecDepth 100000 in
theorem countC (w : World) (l : List UInt8) (hl : l.length ≤ 67108864) (hT : Tabs w) :
    Calls Tryd.prog 83 #[.string (bstr l)] w fun e w' => e = .returned (.int .i64 ((linesL l).length : Int)) ∧ Below w.heap.size w w' := by
  have hB7 := hT.size
  have HT := Lib.hid hT
  have hgf := enters_of Tryd.func93 (by kernel_rfl) rfl
  have HE := Lib.hid hgf
  clear hT hgf
  refine (callsIn_wide (n := 20)).1 ?_
  refine callsIn_of_wp_marks Tryd.func83 rfl trivial ?_ rfl
  simp only [Tryd.ntmps83, List.size_toArray, List.length_cons, List.length_nil, Nat.reduceAdd, Nat.reduceSub, Array.replicate_succ, Array.replicate_zero, List.push_toArray, List.append_toArray, List.nil_append, List.cons_append]
  gi_wp2_with (refine ⟨trivial, ?_⟩; gi_at_call 81; refine (callsIn_wide.2 (allC _ _)).mono ?_; rintro e w' ⟨rfl, hw'⟩)
  obtain ⟨s, hs⟩ : ∃ s, s = w.heap.size := ⟨_, rfl⟩
  have x1 : Boxed w' s 3 (.int .i64 0) := by rw [← hw', hs]; exact (Boxed.new w _ _).alloc _
  have x2 : Boxed w' (s + 1) 9 (.string (bstr l)) := by
    rw [← hw', hs]
    have := Boxed.new (w.alloc (.cells #[.int .i64 0] 3)) 9 (.string (bstr l))
    rwa [World.size_alloc] at this
  have zl : w'.heap.size = s + 2 := by rw [← hw', hs]; simp
  have bl : Below w.heap.size w w' := by rw [← hw']; exact ((Below.refl _ w).alloc (Nat.le_refl _) _).alloc (by simp) _
  rw [← hs] at bl hB7 ⊢
  have HTL : Hid (Tabs w') := Lib.hid (HT.out.below (hs ▸ bl) (by omega))
  have HSS := Lib.hid hs
  clear hs hw'
  have hseq := fun m hm => all1 m hm s (s + 1) w' l x2 hl HTL.out hB7 (by omega)
  have HSQ := Lib.hid hseq
  clear hseq
  refine wpIn_rangeFunc_C rfl (by decide) (gf := 93) (lb := #[.pointer (some ⟨s + 1, 0, none⟩)]) rfl trivial HE.out (HSQ.out 19 (by decide)) (fun r hr => ⟨by have hr : r < s ∨ r = s + 1 := hr; omega, rfl⟩) (Nat.le_refl _) (fun _ => rfl)
    (fun hi pre W => Below s w W ∧ Boxed W s 3 (.int .i64 (pre.length : Int)))
    (fun c hi pre W => False) ?hI ?hIx ?h0
    (fun x => { tmps := #[.string (bstr l), undef, .int .i64 0, .pointer (some ⟨s, 0, none⟩), .string (bstr l), .func (.func 93) #[] #[.pointer (some ⟨s + 1, 0, none⟩)], .agg #[.int .i64 (x.1 : Int), .int .i64 (x.2.1 : Int)], .int .i64 (x.2.2 : Int), undef, undef, undef], defers := [] }) ?assign ?body ?done ?stop
  case assign =>
    intro l' x Wx K hK
    obtain ⟨xa, xb, xe⟩ := x
    unfold pieceV
    gi_wp2
    exact hK
  case hI =>
    rintro hi pre A A' row ⟨h2, h3⟩ hg ht
    have ne : ∀ k, k < s + 2 → some k ≠ row := fun k hk e => by have := (ht k e.symm).1; omega
    exact ⟨h2.grown hg (by have := h3.lt; omega) (fun r e => by have := (ht r e).1; omega), h3.kept hg (ne _ (by omega))⟩
  case hIx =>
    rintro c hi pre A A' row h hg ht
    exact h
  case h0 =>
    intro hi hh
    exact ⟨bl, x1⟩
  case done =>
    rintro D hi xs Wx hD hDh rfl ⟨q2, q3⟩ hd
    have c3 := q3.cell
    have hlt := (Array.getElem?_eq_some_iff.1 hd).1
    have HQ2 := Lib.hid q2
    have HQ3 := Lib.hid q3
    clear q2 q3
    gi_wp2
    refine ⟨by simp, .inl ⟨_, _, rfl, run_takeDeferred hd, ?_⟩⟩
    refine ⟨_, results_tmp rfl _ _ _, rfl, ?_⟩
    rw [← HSS.out]
    exact HQ2.out.grown (grownBy_putObj' Wx D _) (by omega) (fun r e => by cases e; omega)
  case stop =>
    rintro D hi c pre Wx hD hDh hpre h hd
    exact h.elim
  case body =>
    rintro l' hi pre x Wx hhi1 hhi2 hpx ⟨q2, q3⟩
    have hpl := hpx.length_le
    have hll := linesL_len l
    rw [List.length_append, List.length_singleton] at hpl
    have c3 := q3.cell
    have f3 := q3.frozen
    have h1 : pre.length ≤ 67108864 := by omega
    have hn : (pre ++ [x]).length = pre.length + 1 := by simp
    have HQ2 := Lib.hid q2
    have HQ3 := Lib.hid q3
    obtain ⟨k, hk⟩ : ∃ k, k = pre.length := ⟨_, rfl⟩
    rw [← hk] at c3 h1 hn HQ3
    have HN := Lib.hid hn
    clear q2 q3 hpx hpl hn hk
    gi_wp2
    have hg : Wx.grownBy (Wx.setCell ⟨s, 0, none⟩ (.int .i64 ((k : Int) + 1))) (some s) := grownBy_setCell' Wx s _
    refine ⟨KeepsC.grown hg (fun r hr => by have hr : r < s ∨ r = s + 1 := hr; omega) (by omega) (fun r e => by cases e; exact ⟨fun h => by have h : s < s ∨ s = s + 1 := h; omega, .inl (by omega)⟩), HQ2.out.setCell (Nat.le_refl _) _, ?_⟩
    rw [HN.out, show ((k + 1 : Nat) : Int) = (k : Int) + 1 by omega]
    exact HQ3.out.set _
def endedL (l : List UInt8) : Bool := decide (1 < (linesL l).length)
theorem endsC (w : World) (l : List UInt8) (hl : l.length ≤ 67108864) (hT : Tabs w) :
    Calls Tryd.prog 61 #[.string (bstr l)] w fun e w' => e = .returned (.bool (endedL l)) ∧ Below w.heap.size w w' := by
  have HC := Lib.hid (countC w l hl hT)
  have hE : (decide ((1 : Int) < ((linesL l).length : Int))) = endedL l := by
    unfold endedL
    rw [decide_eq_decide]
    omega
  have HE := Lib.hid hE
  obtain ⟨n, hn⟩ : ∃ n, n = (linesL l).length := ⟨_, rfl⟩
  rw [← hn] at HC HE
  clear hE hn hT
  go_enter Tryd.func61, Tryd.ntmps61
  go_wp2_with (go_at_call 83; refine (HC.out).mono ?_; rintro e w1 ⟨rfl, hb1⟩; have HB1 := Lib.hid hb1; clear hb1)
  go_ret
  refine ⟨?_, HB1.out⟩
  rw [← HE.out]
  by_cases h : 1 < n
  · rw [decide_eq_true (show (1 : Int) < (n : Int) by omega)]; simp [h]
  · rw [decide_eq_false (show ¬ (1 : Int) < (n : Int) by omega)]; simp [h]
theorem endedR (w : World) (l : List UInt8) (hl : l.length ≤ 67108864) :
    Calls Tryd.prog 69 #[.string (bstr l)] w fun e w' => e = .returned (.bool (endedL l)) ∧ Below w.heap.size w w' := by
  have HC := Lib.hid (allR w l hl)
  have hE : (decide ((1 : Int) < ((linesL l).length : Int))) = endedL l := by
    unfold endedL
    rw [decide_eq_decide]
    omega
  have HE := Lib.hid hE
  clear hE
  go_enter Tryd.func69, Tryd.ntmps69
  go_wp2_with (go_at_call 88; refine (HC.out).mono ?_; rintro e w1 ⟨v1, rfl, hO1, hb1⟩; obtain ⟨a1, c1, rfl⟩ := slice_own hO1; have HB1 := Lib.hid hb1; clear hb1 hO1)
  go_ret
  refine ⟨?_, HB1.out⟩
  rw [← HE.out]
  by_cases h : 1 < (linesL l).length
  · rw [decide_eq_true (show (1 : Int) < ((linesL l).length : Int) by omega)]; simp [h]
  · rw [decide_eq_false (show ¬ (1 : Int) < ((linesL l).length : Int) by omega)]; simp [h]
end Go.Proofs.YtnbihjocdlpplaaDoor
