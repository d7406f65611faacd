/- Texts joined, one behind the other (SRefX, SItmP). -/
import Derived.Test.YtchdeboialbdiaaDoorSqy
import Derived.Test.YtchdeboialbdiaaDoorSk35
/- The reference: All. -/
namespace Go.Proofs.YtchdeboialbdiaaDoor
set_option linter.unusedVariables false
set_option linter.unusedSimpArgs false
open Go.RowKit
open Go.Lib hiding intOf
theorem TxW.low {w w2 W W' : World} {pv tv : List Value} (h : TxW w w2 W pv tv) (hb : Below (w2.heap.size + 1) W W') (hs : w.heap.size ≤ w2.heap.size) : TxW w w2 W' pv tv :=
  ⟨h.pat.keep hb (by omega), h.txt.keep hb (by omega), h.b0.trans (hb.mono (by omega)), h.b2.trans (hb.mono (by omega))⟩
theorem onRun_ge {fo : Bool} {V : List Nat} {it : Itm} {S : Nat → Bool} {i : Nat} (h : ∀ j, S j = true → i ≤ j) : ∀ j, onRun fo V it S j = true → i ≤ j
  | 0, hj => by cases hj
  | j + 1, hj => by
    unfold onRun at hj
    rw [Bool.and_eq_true, Bool.or_eq_true, Bool.and_eq_true] at hj
    rcases hj.1 with h1 | h1
    · have := h j h1; omega
    · have := onRun_ge h j h1.1; omega
theorem led_ge {fo : Bool} {V : List Nat} {it : Itm} {S : Nat → Bool} {i : Nat} (h : ∀ j, S j = true → i ≤ j) (j : Nat) (hj : ledP fo V it S j = true) : i ≤ j := by
  unfold ledP at hj
  split at hj
  · rw [Bool.and_eq_true] at hj; exact h j hj.1
  · rw [Bool.or_eq_true, Bool.and_eq_true] at hj
    rcases hj with h1 | h1
    · exact onRun_ge h j h1
    · exact h j h1.1
theorem reach_ge {fo : Bool} {V : List Nat} {i : Nat} : ∀ (its : List Itm) (S : Nat → Bool), (∀ j, S j = true → i ≤ j) → ∀ j, reachP fo V its S j = true → i ≤ j
  | [], S, h => h
  | it :: r, S, h => reach_ge r _ (fun j => led_ge h j)
theorem longest_ge {fo : Bool} {V : List Nat} {its : List Itm} {i j : Nat} (h : longestP fo V its i = some j) : i ≤ j := by
  have := lastTrue_spec (reachP fo V its fun j => decide (j = i)) V.length
  unfold longestP at h
  rw [h] at this
  exact reach_ge its _ (fun k hk => by have := of_decide_eq_true hk; omega) j this.2.1
set_option maxHeartbeats 4000000 in
set_option maxRecDepth 100000 in
theorem allR6 (w : World) (lp l : List UInt8) (fo : Bool) (its : List Itm) (aI : Option Addr) (mI cI : Nat)  (hr : ItRd w (.slice aI mI cI) its) (hok : ∀ it ∈ its, OkI it) (hm : mI ≤ 1000000) (hlen : l.length ≤ 67108000) :
    Calls Tryd.prog 20 #[.agg #[.string (bstr lp), .bool fo, .slice aI mI cI], .string (bstr l)] w fun e w' => ∃ v, e = .returned v ∧ PcOwn w.heap.size v (atsL l) (allP fo l its) w' ∧ Below w.heap.size w w' := by
  have hb0 : Below w.heap.size w (w.alloc (.cells #[.string (bstr lp), .bool fo, .slice aI mI cI] 31)) := (Below.refl _ w).alloc (Nat.le_refl _) _
  have hrow0 : Row (w.alloc (.cells #[.string (bstr lp), .bool fo, .slice aI mI cI] 31)) w.heap.size 31 [.string (bstr lp), .bool fo, .slice aI mI cI] := row_new w [.string (bstr lp), .bool fo, .slice aI mI cI] _
  obtain ⟨W0, hW0⟩ : ∃ W, W = w.alloc (.cells #[.string (bstr lp), .bool fo, .slice aI mI cI] 31) := ⟨_, rfl⟩
  rw [← hW0] at hb0 hrow0
  have hX := textR6 W0 l (by omega)
  have hal := ats_len l
  have hvl := vals_lenR l
  have hok2 := vals_ok l
  unfold allP
  obtain ⟨V, hV⟩ : ∃ V, valsL l = V := ⟨_, rfl⟩
  obtain ⟨A, hA⟩ : ∃ A, atsL l = A := ⟨_, rfl⟩
  obtain ⟨n, hn⟩ : ∃ n, V.length = n := ⟨_, rfl⟩
  rw [hV] at hX hvl hok2 hal ⊢
  rw [hA] at hX hal ⊢
  rw [hn] at hX hvl hal ⊢
  have HN := Lib.hid hn
  have HAL := Lib.hid hal
  have HOK := Lib.hid hok2
  have HX := Lib.hid hX
  have HW0 := Lib.hid hW0
  have HB0 := Lib.hid hb0
  have HR0 := Lib.hid hrow0
  have HIT := Lib.hid hr
  have HOI := Lib.hid hok
  obtain ⟨T, hT0⟩ : ∃ T, allGo fo V its n (n + 1) 0 = T := ⟨_, rfl⟩
  rw [hT0]
  have HT0 := Lib.hid hT0
  have hnb : n ≤ 67108000 := by omega
  clear hX hal hvl hok hok2 hV hA hn hr hT0 hlen hb0 hrow0 hW0
  go_enter Tryd.func20, Tryd.ntmps20
  go_upto_region 1 with fail
  rw [← HW0.out]
  go_wp2_with (go_at_call 41; refine (HX.out).mono ?_; rintro e w2 ⟨g1, c1, g2, c2, rfl, hi1, hi2, hb2⟩; have HI1 := Lib.hid hi1; have HI2 := Lib.hid hi2; have HB2 := Lib.hid hb2; clear hi1 hi2 hb2)
  have hw3 : ∀ W, W = w2.alloc (.cells #[.slice (some ⟨g1, 0, none⟩) n c1, .slice (some ⟨g2, 0, none⟩) (n + 1) c2] 99) → TxW w w2 W [.string (bstr lp), .bool fo, .slice aI mI cI] [.slice (some ⟨g1, 0, none⟩) n c1, .slice (some ⟨g2, 0, none⟩) (n + 1) c2] := by
    rintro W rfl
    have hs := HB0.out.size
    have h1 := HR0.out.keep HB2.out HR0.out.lt
    exact ⟨h1.alloc _, row_new w2 [.slice (some ⟨g1, 0, none⟩) n c1, .slice (some ⟨g2, 0, none⟩) (n + 1) c2] _, (HB0.out.trans (HB2.out.mono hs)).alloc (Nat.le_trans hs HB2.out.size) _, (Below.refl _ w2).alloc (Nat.le_refl _) _⟩
  have HW3 := Lib.hid hw3
  clear hw3
  have hT5 : T.length ≤ n + 1 := by rw [← HT0.out]; exact allGo_len fo V its n (n + 1) 0
  have hw2s : w.heap.size < w2.heap.size := by
    have h1 := HB2.out.size
    have h2 := HR0.out.lt
    omega
  go_loopw [5, 7] (fun uv uk wr => ∃ (k f : Nat) (acc : List (Nat × Nat)) (av : Option Addr) (mv cv : Nat), uv = .slice av mv cv ∧ uk = .int .i64 (k : Int) ∧ k ≤ n + 1 ∧ n < k + f ∧ mv = acc.length ∧ Hid (TxW w w2 wr [.string (bstr lp), .bool fo, .slice aI mI cI] [.slice (some ⟨g1, 0, none⟩) n c1, .slice (some ⟨g2, 0, none⟩) (n + 1) c2] ∧ PcOwn (w2.heap.size + 1) (.slice av mv cv) A acc wr ∧ acc ++ allGo fo V its n f k = T)) (fun _ uk _ => n + 1 - (RowKit.intOf uk).toNat)
  case atStart => exact ⟨0, n + 1, [], none, 0, 0, rfl, rfl, Nat.zero_le _, by omega, rfl, Lib.hid ⟨HW3.out _ rfl, World.ownsRow_nil _ _ _ _, HT0.out⟩⟩
  case round =>
    obtain ⟨k, f, acc, av, mv, cv, rfl, rfl, hk, hkf, hmv, HR⟩ := hrel
    subst hmv
    have p0 := HR.out.1.pat.cell 0
    have p1 := HR.out.1.pat.cell 1
    have p2 := HR.out.1.pat.cell 2
    have p3 := HR.out.1.pat.lt
    have t0 := HR.out.1.txt.cell 0
    have t1 := HR.out.1.txt.cell 1
    have t2 := HR.out.1.txt.lt
    by_cases hlt : k < n + 1
    · obtain ⟨f, rfl⟩ : ∃ f', f = f' + 1 := ⟨f - 1, by omega⟩
      have hki : (k : Int) < ((n + 1 : Nat) : Int) := by omega
      have hki1 : (k : Int) < (n : Int) + 1 := by omega
      have hM := longestR6 wr lp fo aI mI cI g1 c1 g2 c2 n V its k HN.out (HI1.out.keep HR.out.1.b2 (Nat.le_refl _)) HOK.out (HIT.out.below HR.out.1.b0) HOI.out hm hnb (by omega)
      unfold txV at hM
      have hT1 := HR.out.2.2
      cases hlo : longestP fo V its k with
      | none =>
        rw [hlo] at hM
        rw [allGo_none (by omega) hlo] at hT1
        have HM : Hid (Calls Tryd.prog 42 #[.agg #[.string (bstr lp), .bool fo, .slice aI mI cI], .agg #[.slice (some ⟨g1, 0, none⟩) n c1, .slice (some ⟨g2, 0, none⟩) (n + 1) c2], .int .i64 (k : Int)] wr fun e w' => e = .returned (.int .i64 (-1)) ∧ Below wr.heap.size wr w') := Lib.hid hM
        have HT1 := Lib.hid hT1
        clear hM hT1 hlo
        go_wp2_with (go_at_call 42; refine (HM.out).mono ?_; rintro e w5 ⟨rfl, hb5⟩; have HB5 := Lib.hid hb5; clear hb5)
        go_roundw
        case rel => exact ⟨k + 1, f, acc, av, acc.length, cv, rfl, by go_num, by omega, by omega, rfl, Lib.hid ⟨HR.out.1.next HB5.out, own_below HR.out.2.1 HB5.out, HT1.out⟩⟩
        case measure => simp [RowKit.intOf]; omega
      | some j =>
        rw [hlo] at hM
        rw [allGo_some (by omega) hlo] at hT1
        have hjn : j ≤ n := longest_n HN.out hlo
        have hkj : k ≤ j := longest_ge hlo
        have HM : Hid (Calls Tryd.prog 42 #[.agg #[.string (bstr lp), .bool fo, .slice aI mI cI], .agg #[.slice (some ⟨g1, 0, none⟩) n c1, .slice (some ⟨g2, 0, none⟩) (n + 1) c2], .int .i64 (k : Int)] wr fun e w' => e = .returned (.int .i64 (j : Int)) ∧ Below wr.heap.size wr w') := Lib.hid hM
        have hjl2 : (j : Int) < (n : Int) + 1 := by omega
        have hj0 : ¬ (j : Int) < 0 := by omega
        obtain ⟨x, hx⟩ : ∃ x : Int, ((A.getD k 0 : Nat) : Int) = x := ⟨_, rfl⟩
        obtain ⟨y, hy⟩ : ∃ y : Int, ((A.getD j 0 : Nat) : Int) = y := ⟨_, rfl⟩
        have HPC : Hid (pcCells A (k, j) = [.int .i64 x, .int .i64 y]) := Lib.hid (by unfold pcCells; rw [hx, hy])
        have HXX := Lib.hid (fun W (h : TxW w w2 W [.string (bstr lp), .bool fo, .slice aI mI cI] [.slice (some ⟨g1, 0, none⟩) n c1, .slice (some ⟨g2, 0, none⟩) (n + 1) c2]) => hx ▸ ints_at h HI2.out (k := k) (by rw [HAL.out]; exact hlt))
        have HYY := Lib.hid (fun W (h : TxW w w2 W [.string (bstr lp), .bool fo, .slice aI mI cI] [.slice (some ⟨g1, 0, none⟩) n c1, .slice (some ⟨g2, 0, none⟩) (n + 1) c2]) => hy ▸ ints_at h HI2.out (k := j) (by rw [HAL.out]; omega))
        have HAB : Hid (acc.length ≤ 1073741824) := Lib.hid (by
          have := congrArg List.length hT1
          rw [List.length_append] at this
          omega)
        have HT1 := Lib.hid hT1
        clear hM hT1 hlo hx hy
        go_upto_region 5 with fail
        go_wp2_with (go_at_call 42; refine (HM.out).mono ?_; rintro e w5 ⟨rfl, hb5⟩; have HB5 := Lib.hid hb5; clear hb5)
        have h5 := HR.out.1.next HB5.out
        have HSt : Hid (∀ W, Below (w2.heap.size + 1) w5 W → W.cell? ⟨w2.heap.size, 1, none⟩ = some (.slice (some ⟨g2, 0, none⟩) (n + 1) c2)) := Lib.hid (fun W hb => (h5.low hb (by omega)).txt.cell 1)
        have HSx : Hid (∀ W, Below (w2.heap.size + 1) w5 W → W.cell? ⟨g2, k, none⟩ = some (.int .i64 x)) := Lib.hid (fun W hb => HXX.out W (h5.low hb (by omega)))
        have HSy : Hid (∀ W, Below (w2.heap.size + 1) w5 W → W.cell? ⟨g2, j, none⟩ = some (.int .i64 y)) := Lib.hid (fun W hb => HYY.out W (h5.low hb (by omega)))
        have HS5 : Hid (w2.heap.size + 1 ≤ w5.drew.heap.size) := Lib.hid (by have := h5.txt.lt; exact this)
        have HO5 : Hid (w5.drew.ownsRow (w2.heap.size + 1) 40 2 (.slice av acc.length cv) acc.length (acc.flatMap (pcCells A))) := Lib.hid (own_below (own_below HR.out.2.1 HB5.out) (Below.refl _ _).drew)
        have H5 := Lib.hid h5
        clear h5
        refine wp_region_held_drew (S := (fun W => Below (w2.heap.size + 1) w5 W)) (by kernel_rfl) (Below.refl (w2.heap.size + 1) w5).drew (fun hS0 => ?_)
        refine tC 0 ⟨some 24, .move (.tmp 5), 44, _, #[], none⟩ ?v1 rfl ?y1 hS0 ?r1; (case y1 => rintro w2_ s1; go_simp; try with_reducible rfl)
        refine tC 1 ⟨some 25, .fieldAddr 99 (.tmp 6) 1, 0, _, #[], none⟩ ?v2 rfl ?y2 hS0 ?r2; (case y2 => rintro w2_ s1; go_simp; try with_reducible rfl)
        refine tC 2 ⟨some 26, .load 72 (.tmp 25), 72, _, #[⟨1, .data⟩], none⟩ ?v3 rfl ?y3 hS0 ?r3; (case y3 => rintro w2_ s1; have e0 := HSt.out w2_ s1; go_simp; try with_reducible rfl)
        try simp only [Act.put, pB, pC, pD]
        refine tC 3 ⟨some 27, .move (.tmp 7), 3, _, #[], none⟩ ?v4 rfl ?y4 hS0 ?r4; (case y4 => rintro w2_ s1; go_simp; try with_reducible rfl)
        refine tC 4 ⟨some 28, .indexAddr 72 (.tmp 26) (.tmp 27), 0, _, #[⟨2, .data⟩, ⟨3, .data⟩], none⟩ ?v5 rfl ?y5 hS0 ?r5; (case y5 => rintro w2_ s1; have e0 := hki1; go_simp; try with_reducible rfl)
        refine tC 5 ⟨some 29, .load 3 (.tmp 28), 3, _, #[⟨4, .data⟩], none⟩ ?v6 rfl ?y6 hS0 ?r6; (case y6 => rintro w2_ s1; have e0 := HSx.out w2_ s1; go_simp; try with_reducible rfl)
        try simp only [Act.put, pB, pC, pD]
        refine tC 6 ⟨some 30, .fieldAddr 99 (.tmp 6) 1, 0, _, #[], none⟩ ?v7 rfl ?y7 hS0 ?r7; (case y7 => rintro w2_ s1; go_simp; try with_reducible rfl)
        refine tC 7 ⟨some 31, .load 72 (.tmp 30), 72, _, #[⟨6, .data⟩], none⟩ ?v8 rfl ?y8 hS0 ?r8; (case y8 => rintro w2_ s1; have e0 := HSt.out w2_ s1; go_simp; try with_reducible rfl)
        refine tC 8 ⟨some 32, .move (.tmp 8), 3, _, #[], none⟩ ?v9 rfl ?y9 hS0 ?r9; (case y9 => rintro w2_ s1; go_simp; try with_reducible rfl)
        try simp only [Act.put, pB, pC, pD]
        refine tC 9 ⟨some 33, .indexAddr 72 (.tmp 31) (.tmp 32), 0, _, #[⟨7, .data⟩, ⟨8, .data⟩], none⟩ ?v10 rfl ?y10 hS0 ?r10; (case y10 => rintro w2_ s1; have e0 := hjl2; go_simp; try with_reducible rfl)
        refine tC 10 ⟨some 34, .load 3 (.tmp 33), 3, _, #[⟨9, .data⟩], none⟩ ?v11 rfl ?y11 hS0 ?r11; (case y11 => rintro w2_ s1; have e0 := HSy.out w2_ s1; go_simp; try with_reducible rfl)
        refine tC 11 ⟨some 35, .build 40 #[(0, .tmp 29), (1, .tmp 34)], 40, _, #[⟨5, .data⟩, ⟨10, .data⟩], none⟩ ?v12 rfl ?y12 hS0 ?r12; (case y12 => rintro w2_ s1; go_simp; try with_reducible rfl)
        try simp only [Act.put, pB, pC, pD]
        refine wpAnyH_ready (rs := [12]) (by kernel_rfl) (by simp) (AllReadyH.cons (o := ⟨some 36, .buildSlice 44 1 #[(0, .tmp 35)], 44, "ref.go:406", #[⟨11, .data⟩], none⟩) rfl (fun K' hK => ?_) AllReadyH.nil)
        go_simp
        refine hK.out _ _ (((Below.refl (w2.heap.size + 1) w5).drew).alloc HS5.out _) (fun hSn => ?_)
        try simp only [Act.put, pB, pC, pD]
        clear hK K'
        refine wpAnyH_ready (rs := [13]) (by kernel_rfl) (by simp) (AllReadyH.cons (o := ⟨some 37, .call { callee := Callee.builtin Builtin.append, args := #[.tmp 24, .tmp 36], argTypes := #[44, 44] }, 44, "ref.go:406", #[⟨0, .data⟩, ⟨12, .data⟩], none⟩) rfl (fun K' hK => ?_) AllReadyH.nil)
        refine stepSep (by rfl) _ _ (by rfl) Tryd.underlying44 (.agg #[.int .i64 0, .int .i64 0]) 2 16 infoPc (by rfl) (by decide) (by decide) (w2.heap.size + 1) w5.drew (.slice av acc.length cv) acc.length (acc.flatMap (pcCells A)) [.int .i64 x, .int .i64 y] (by rfl) (by intro u hu; simp only [List.mem_cons, List.not_mem_nil, or_false] at hu; rcases hu with rfl | rfl <;> rfl) (by rfl) HO5.out (by rfl) (by rfl) HAB.out HS5.out ?_
        intro v8 w8 hp8
        obtain ⟨a8, c8, rfl⟩ := own_slice6 hp8.1
        have H8 := Lib.hid (((Below.refl (w2.heap.size + 1) w5).drew).trans (hp8.below HO5.out HS5.out))
        have HP8 := Lib.hid hp8
        clear hp8
        refine hK.out _ _ H8.out (fun hSn => ?_)
        try simp only [Act.put, pB, pC, pD]
        clear hK K'
        refine tC 14 ⟨some 5, .assign (.tmp 37), 44, _, pa [⟨13, .data⟩, ⟨13, .chain⟩] 14, none⟩ ?v13 rfl ?y13 H8.out ?r13; (case y13 => rintro w2_ s1; go_simp; try with_reducible rfl)
        try simp only [Act.put, pB, pC, pD]
        refine wpAnyH_done (by kernel_rfl) ?_ _
        have HOW : Hid (PcOwn (w2.heap.size + 1) (.slice a8 (acc.length + 1) c8) A (acc ++ [(k, j)]) w8) := Lib.hid (by
          have h1 := HP8.out.1
          rw [← HPC.out] at h1
          unfold PcOwn
          rw [List.length_append, List.flatMap_append]
          simpa using h1)
        have HTX : Hid (TxW w w2 w8 [.string (bstr lp), .bool fo, .slice aI mI cI] [.slice (some ⟨g1, 0, none⟩) n c1, .slice (some ⟨g2, 0, none⟩) (n + 1) c2]) := Lib.hid (H5.out.low H8.out (by omega))
        by_cases hjk : j = k
        · have q1 : ((j : Int) == (k : Int)) = true := by rw [beq_iff_eq]; omega
          go_wp2_with fail
          go_roundw
          case rel => exact ⟨k + 1, f, acc ++ [(k, j)], a8, acc.length + 1, c8, rfl, by go_num, by omega, by omega, by rw [List.length_append, List.length_singleton], Lib.hid ⟨HTX.out, HOW.out, by rw [← HT1.out, List.append_assoc, show max (k + 1) j = k + 1 by omega]; rfl⟩⟩
          case measure => simp [RowKit.intOf]; omega
        · have q1 : ((j : Int) == (k : Int)) = false := by rw [beq_eq_false_iff_ne]; omega
          go_wp2_with fail
          go_roundw
          case rel => exact ⟨j, f, acc ++ [(k, j)], a8, acc.length + 1, c8, rfl, by go_num, by omega, by omega, by rw [List.length_append, List.length_singleton], Lib.hid ⟨HTX.out, HOW.out, by rw [← HT1.out, List.append_assoc, show max (k + 1) j = j by omega]; rfl⟩⟩
          case measure => simp [RowKit.intOf]; omega
    · obtain rfl : k = n + 1 := by omega
      have hki : ¬ ((n + 1 : Nat) : Int) < ((n + 1 : Nat) : Int) := by omega
      have hT1 := HR.out.2.2
      rw [allGo_end (by omega), List.append_nil] at hT1
      subst hT1
      go_wp2_with fail
      go_ret
      exact ⟨_, rfl, own_mono (b := w2.heap.size + 1) HR.out.2.1 (by omega), HR.out.1.b0⟩
end Go.Proofs.YtchdeboialbdiaaDoor
/- The items of a pattern are as reading makes them: plain law. -/
namespace Go.Proofs.YtchdeboialbdiaaDoor
set_option linter.unusedVariables false
set_option linter.unusedSimpArgs false
open Go.RowKit
open Go.Lib hiding intOf
theorem okc_small {v : Nat} (h : OkC v) : v < 2000000 := by
  unfold OkC wrongN at h
  omega
theorem hex_kind {V : List Nat} {i k v j : Nat} (h : hexP V i = .inr (k, v, j)) : k = 0 := by
  unfold hexP at h
  split at h
  · cases h
  · split at h
    · cases h
    · simp only [Sum.inr.injEq, Prod.mk.injEq] at h; exact h.1.symm
theorem rune_kind {V : List Nat} {i k v j : Nat} (h : runeP V i = .inr (k, v, j)) : k = 0 := by
  unfold runeP at h
  split at h
  · dsimp only at h
    split at h
    · cases h
    · simp only [Sum.inr.injEq, Prod.mk.injEq] at h; exact h.1.symm
  · cases h
theorem one_kinds {V : List Nat} {i k v j : Nat} (h : oneP V i = .inr (k, v, j)) : k = 0 ∨ k = 119 ∨ k = 87 ∨ k = 115 ∨ k = 83 := by
  unfold oneP at h
  split at h
  · cases h
  · split at h
    · split at h
      · cases h
      · split at h
        · simp only [Sum.inr.injEq, Prod.mk.injEq] at h; exact .inl h.1.symm
        · split at h
          · simp only [Sum.inr.injEq, Prod.mk.injEq] at h; exact .inl h.1.symm
          · split at h
            · simp only [Sum.inr.injEq, Prod.mk.injEq] at h; exact .inl h.1.symm
            · split at h
              · simp only [Sum.inr.injEq, Prod.mk.injEq] at h; exact .inl h.1.symm
              · split at h
                · rename_i hv
                  simp only [Sum.inr.injEq, Prod.mk.injEq] at h
                  omega
                · split at h
                  · exact .inl (hex_kind h)
                  · split at h
                    · exact .inl (rune_kind h)
                    · cases h
    · simp only [Sum.inr.injEq, Prod.mk.injEq] at h; exact .inl h.1.symm
theorem one_el {V : List Nat} (hV : OkV V) {i k v j : Nat} (hi : i ≤ V.length) (h : oneP V i = .inr (k, v, j)) : OkEl (if k = 0 then .rng v v else .kind k) ∧ (k = 0 → OkEl (.rng v v)) ∧ (k ≠ 0 → OkEl (.kind k)) := by
  have hl := oneP_le V hV i hi
  rw [h] at hl
  have h1 : k = 0 → OkEl (.rng v v) := fun hk => ⟨okc_small (hl.2.2 hk), okc_small (hl.2.2 hk)⟩
  have h2 : k ≠ 0 → OkEl (.kind k) := fun hk => (one_kinds h).resolve_left hk
  refine ⟨?_, h1, h2⟩
  by_cases hk : k = 0
  · rw [if_pos hk]; exact h1 hk
  · rw [if_neg hk]; exact h2 hk
theorem els_push {els : List El} {x : El} (h : ∀ y ∈ els, OkEl y) (hx : OkEl x) : ∀ y ∈ els ++ [x], OkEl y := by
  intro y hy
  rcases List.mem_append.1 hy with h1 | h1
  · exact h y h1
  · rw [List.mem_singleton] at h1; rw [h1]; exact hx
theorem set_els {V : List Nat} (hV : OkV V) : ∀ (f i : Nat) (els e : List El) (j : Nat), i ≤ V.length → (∀ x ∈ els, OkEl x) → setGo V f i els = .inr (e, j) → (∀ x ∈ e, OkEl x) ∧ e.length ≤ els.length + f
  | 0, i, els, e, j, hi, ho, h => by rw [setGo] at h; cases h
  | f + 1, i, els, e, j, hi, ho, h => by
    rw [setGo] at h
    split at h
    · cases h
    · split at h
      · split at h
        · cases h
        · simp only [Sum.inr.injEq, Prod.mk.injEq] at h
          obtain ⟨rfl, _⟩ := h
          exact ⟨ho, by omega⟩
      · split at h
        · cases h
        · rename_i k v j1 hone
          have hle := oneP_le V hV i hi
          rw [hone] at hle
          have hel := one_el hV hi hone
          split at h
          · rename_i hk
            split at h
            · rename_i h45
              split at h
              · cases h
              · rename_i hv j2 hhi
                have hlt := highP_le V hV (j1 + 1) v (by have := lt_of_some h45; omega)
                rw [hhi] at hlt
                have := set_els hV f j2 _ e j hlt.2.1 (els_push ho (show OkEl (.rng v hv) from ⟨okc_small (hle.2.2 hk), by have := hlt.2.2.2.1; unfold wrongN at this; omega⟩)) h
                rw [List.length_append, List.length_singleton] at this
                exact ⟨this.1, by omega⟩
            · have := set_els hV f j1 _ e j hle.2.1 (els_push ho (hel.2.1 hk)) h
              rw [List.length_append, List.length_singleton] at this
              exact ⟨this.1, by omega⟩
          · rename_i hk
            have := set_els hV f j1 _ e j hle.2.1 (els_push ho (hel.2.2 hk)) h
            rw [List.length_append, List.length_singleton] at this
            exact ⟨this.1, by omega⟩
theorem count_one (V : List Nat) (i : Nat) : (countP V i).1 ≤ 1 := by
  unfold countP
  split
  · exact Nat.zero_le _
  · split
    · exact Nat.le_refl _
    · split
      · exact Nat.zero_le _
      · exact Nat.le_refl _
theorem setP_els {V : List Nat} (hV : OkV V) {i j : Nat} {neg : Bool} {e : List El} (hi : i ≤ V.length) (h : setP V i = .inr (neg, e, j)) : (∀ x ∈ e, OkEl x) ∧ e.length ≤ V.length := by
  unfold setP at h
  split at h
  · rename_i h94
    split at h
    · cases h
    · rename_i e2 j2 hs
      simp only [Sum.inr.injEq, Prod.mk.injEq] at h
      obtain ⟨_, rfl, _⟩ := h
      have := set_els hV V.length (i + 1) [] _ _ (by have := lt_of_some h94; omega) (by intro x hx; cases hx) hs
      exact ⟨this.1, by have := this.2; rw [List.length_nil] at this; omega⟩
  · split at h
    · cases h
    · rename_i e2 j2 hs
      simp only [Sum.inr.injEq, Prod.mk.injEq] at h
      obtain ⟨_, rfl, _⟩ := h
      have := set_els hV V.length i [] _ _ hi (by intro x hx; cases hx) hs
      exact ⟨this.1, by have := this.2; rw [List.length_nil] at this; omega⟩
theorem withC_ok {V : List Nat} {what : Nat} {neg : Bool} {els : List El} {i : Nat} (hw : what = 46 ∨ what = 91 ∨ (what = 99 ∧ ∃ x, els = [x])) (he : ∀ x ∈ els, OkEl x) (hl : els.length ≤ 1000000) : OkI (withCount V what neg els i).1 :=
  ⟨.inr (.inr ⟨hw, he⟩), count_one V i, hl⟩
theorem item_ok {V : List Nat} (hV : OkV V) (hn : V.length ≤ 1000000) {i j : Nat} {it : Itm} (hi : i ≤ V.length) (h : itemP V i = .inr (it, j)) : OkI it := by
  unfold itemP at h
  split at h
  · cases h
  · rename_i c hc
    split at h
    · cases h
    · split at h
      · rename_i he
        simp only [Sum.inr.injEq, Prod.mk.injEq] at h
        obtain ⟨rfl, _⟩ := h
        refine ⟨?_, Nat.le_refl _, Nat.zero_le _⟩
        rcases he with h1 | h1
        · exact .inl h1
        · exact .inr (.inl h1)
      · split at h
        · simp only [Sum.inr.injEq] at h
          have := withC_ok (V := V) (what := 46) (neg := false) (els := []) (i := i + 1) (.inl rfl) (by intro x hx; cases hx) (Nat.zero_le _)
          rw [h] at this
          exact this
        · split at h
          · split at h
            · cases h
            · rename_i ng e j2 hs
              simp only [Sum.inr.injEq] at h
              have he := setP_els hV (by have := lt_of_some hc; omega) hs
              have := withC_ok (V := V) (what := 91) (neg := ng) (els := e) (i := j2) (.inr (.inl rfl)) he.1 (by have := he.2; omega)
              rw [h] at this
              exact this
          · split at h
            · cases h
            · rename_i k v j2 hs
              simp only [Sum.inr.injEq] at h
              have he := one_el hV hi hs
              have := withC_ok (V := V) (what := 99) (neg := false) (els := [if k = 0 then .rng v v else .kind k]) (i := j2) (.inr (.inr ⟨rfl, _, rfl⟩)) (by intro x hx; rw [List.mem_singleton] at hx; rw [hx]; exact he.1) (by rw [List.length_singleton]; omega)
              rw [h] at this
              exact this
theorem itemsGo_ok {V : List Nat} (hV : OkV V) (hn : V.length ≤ 1000000) : ∀ (f i : Nat) (acc its : List Itm), i ≤ V.length → (∀ it ∈ acc, OkI it) → itemsGo V f i acc = .inr its → ∀ it ∈ its, OkI it
  | 0, i, acc, its, hi, ha, h => by
    rw [itemsGo] at h
    simp only [Sum.inr.injEq] at h
    rw [← h]; exact ha
  | f + 1, i, acc, its, hi, ha, h => by
    rw [itemsGo] at h
    split at h
    · simp only [Sum.inr.injEq] at h
      rw [← h]; exact ha
    · split at h
      · cases h
      · rename_i it j hs
        have hle := itemP_le V hV i hi
        rw [hs] at hle
        refine itemsGo_ok hV hn f j _ its hle.2 (fun x hx => ?_) h
        rcases List.mem_append.1 hx with h1 | h1
        · exact ha x h1
        · rw [List.mem_singleton] at h1; rw [h1]; exact item_ok hV hn hi hs
/-- the items of a pattern are such as the reference's walk asks for -/
theorem items_ok {V : List Nat} (hV : OkV V) (hn : V.length ≤ 1000000) {its : List Itm} (h : itemsP V = .inr its) : ∀ it ∈ its, OkI it := by
  unfold itemsP at h
  refine itemsGo_ok hV hn _ _ [] its ?_ (by intro x hx; cases hx) h
  split
  · rename_i hf
    unfold foldedP at hf
    have := of_decide_eq_true hf
    have := lt_of_some this.2
    omega
  · exact Nat.zero_le _
end Go.Proofs.YtchdeboialbdiaaDoor
