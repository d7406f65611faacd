/- Texts joined, one behind the other (DSep, DChgC, DChgD, DChgR, DChgS, DChgT). -/
import Derived.Test.YtnbihjocdlpplaaGreatDoorKq09
import Derived.ArgAppend
/- Append to one of several rows of one kind: which block the new row lies in. -/
namespace Go.Proofs.YtnbihjocdlpplaaGreatDoor
set_option linter.unusedVariables false
set_option linter.unusedSimpArgs false
open Go.RowKit
open Go.Lib
theorem run_append_sep {P : Program} (w : World) (B : Nat) (t ty e : TypeId) (i : TypeInfo) (z : Value) (size bytes : Nat) (ht : P.underlying t = some (.slice e)) (hi : P.info? e = some i) (hz : i.zero = some z)
    (hsize : i.size = size) (hby : i.bytes = bytes) (hzs : z.cells.size = size) (hsz : 0 < size)
    (v : Value) (n : Nat) (xs : List Value) (hown : w.ownsRow B e size v n xs)
    (a : Addr) (m c : Nat) (news : List Value) (hm : 0 < m) (hl : news.length = m * size) (hnews : ∀ j u, news[j]? = some u → w.cell? (a.add j) = some u) (h1 : ∀ u ∈ news, u.oneCell' = true)
    (h63 : n + m ≤ maxLen) (hbytes : (n + m) * bytes ≤ 140737488355328) (hbase : B ≤ w.heap.size) :
    ∃ v' w', (Builtin.append_ #[t, t] ty #[v, .slice (some a) m c]).run P w = .ok v' w' ∧ w'.ownsRow B e size v' (n + m) (xs ++ news) ∧ w.grownBy w' v.ownBlock ∧ (v'.ownBlock = v.ownBlock ∨ ∀ b, v'.ownBlock = some b → w.heap.size ≤ b) := by
  have hxl := hown.1
  rcases hown.2 with ⟨rfl, rfl⟩ | ⟨g, cap, cur, rfl, _⟩
  · obtain rfl : xs = [] := List.eq_nil_of_length_eq_zero (by simpa using hxl)
    obtain ⟨v', w', hrun, r1, r2, _⟩ := run_append_own (P := P) w w.heap.size t ty e i z size bytes ht hi hz hsize hby hzs hsz (.slice none 0 0) 0 [] (World.ownsRow_nil _ _ _ _) a m c news hl hnews h1 h63 hbytes (Nat.le_refl _)
    exact ⟨v', w', hrun, own_mono_size r1 hbase, r2, .inr fun b hb => (r1.lt b hb).1⟩
  · by_cases hroom : n + m ≤ cap
    · obtain ⟨w', hrun, r1, r2⟩ := run_append_fits (P := P) w B t ty e i size ht hi hsize g n cap xs hown a m c news hl hnews h1 hroom
      exact ⟨_, w', hrun, r1, r2, .inl rfl⟩
    · obtain ⟨v', w', hrun, r1, r2⟩ := run_append_arg_grows (P := P) w t ty e i z size bytes ht hi hz hsize hby hzs hsz ⟨g, 0, none⟩ n cap xs hxl (hown.cells rfl) a m c news hl hnews (by omega) h63 hbytes
      exact ⟨v', w', hrun, own_mono_size r1 hbase, ⟨r2.os, r2.tape, r2.output, r2.size, fun k hk _ => r2.block k hk (by simp)⟩, .inr fun b hb => (r1.lt b hb).1⟩
/-- what a step that appends one element leaves -/
def AppPost (wp : World) (B : Nat) (e : TypeId) (size : Nat) (v : Value) (n : Nat) (xs cs : List Value) (v' : Value) (w' : World) : Prop :=
  w'.ownsRow B e size v' (n + 1) (xs ++ cs) ∧ wp.grownBy w' v.ownBlock ∧ (v'.ownBlock = v.ownBlock ∨ ∀ b, v'.ownBlock = some b → wp.heap.size ≤ b)
theorem run_append_one {P : Program} {T ty e : TypeId} (hT : P.underlying T = some (.slice e)) (z : Value) (size bytes : Nat) (hinfo : (P.info? e).map (fun i => (i.zero, i.size, i.bytes)) = some (some z, size, bytes)) (hz : z.cells.size = size) (hs0 : 0 < size) (hby : bytes ≤ 4096)
    (B : Nat) (wp : World) (v : Value) (n : Nat) (xs cs : List Value) (hcs : cs.length = size) (hone : ∀ u ∈ cs, u.oneCell' = true) (hown : wp.ownsRow B e size v n xs) (hl : n ≤ 1073741824) (hB : B ≤ wp.heap.size) :
    ∃ v' w', (Builtin.append_ #[T, T] ty #[v, .slice (some ⟨wp.heap.size, 0, none⟩) 1 1]).run P (wp.alloc (.cells cs.toArray e)) = .ok v' w' ∧ AppPost wp B e size v n xs cs v' w' := by
  obtain ⟨i0, hi, hz0, hz1, hz2⟩ := info_parts hinfo
  have hsz : (wp.alloc (.cells cs.toArray e)).heap.size = wp.heap.size + 1 := by simp
  have hbt : (n + 1) * bytes ≤ 140737488355328 := by
    calc (n + 1) * bytes ≤ (n + 1) * 4096 := Nat.mul_le_mul (Nat.le_refl _) hby
      _ ≤ 140737488355328 := by omega
  obtain ⟨v', w', hrun, r1, r2, r3⟩ := run_append_sep (P := P) (wp.alloc (.cells cs.toArray e)) B T ty e i0 z size bytes hT hi hz0 hz1 hz2 hz hs0 v n xs (World.ownsRow.alloc hown _) ⟨wp.heap.size, 0, none⟩ 1 1 cs (by decide) (by rw [hcs, Nat.one_mul]) (new_cells _ _ _) hone (by unfold maxLen; omega) hbt (by omega)
  exact ⟨v', w', hrun, r1, grownBy_trans (grownBy_below ((Below.refl _ wp).alloc (Nat.le_refl _) _) _) r2, r3.imp id fun h b hb => by have := h b hb; omega⟩
/-- in a plain region -/
theorem appSep {T e : TypeId} {ops : Array Oper} {rest : List Oper} {o : Oper} {a : Act} {w : World} {Q : Exit → Act → World → Prop} (hgd : o.guard = none) (sl x : Operand) (ho : o.op = .call { callee := .builtin .append, args := #[sl, x], argTypes := #[T, T] })
    (hT : Tryz.prog.underlying T = some (.slice e)) (z : Value) (size bytes : Nat) (hinfo : (Tryz.prog.info? e).map (fun i => (i.zero, i.size, i.bytes)) = some (some z, size, bytes)) (hz : z.cells.size = size) (hs0 : 0 < size) (hby : bytes ≤ 4096)
    (B : Nat) (wp : World) (v : Value) (n : Nat) (xs cs : List Value) (hcs : cs.length = size) (hone : ∀ u ∈ cs, u.oneCell' = true) (hs : a.eval sl = v) (hown : wp.ownsRow B e size v n xs) (hx : a.eval x = .slice (some ⟨wp.heap.size, 0, none⟩) 1 1) (hw : w = wp.alloc (.cells cs.toArray e)) (hl : n ≤ 1073741824) (hB : B ≤ wp.heap.size)
    (h : ∀ v' w', AppPost wp B e size v n xs cs v' w' → wpList Tryz.prog ops Q rest (a.put o.dst v') w') : wpList Tryz.prog ops Q (o :: rest) a w := by
  subst hw
  obtain ⟨v', w', hrun, hp⟩ := run_append_one (ty := o.type) hT z size bytes hinfo hz hs0 hby B wp v n xs cs hcs hone hown hl hB
  refine wpList_plain hgd fun K hK => ?_
  unfold Oper.wp
  simp [execOp, ho, resolve, invoke, builtin, hs, hx, hrun, Result.andThen]
  exact hK _ _ (h v' w' hp)
/-- as one step of a region that draws its order -/
theorem stepSep {T e : TypeId} {w : World} {ops : Array Oper} {o : Oper} {a : Act} {K : Act → World → Prop} {Q : Exit → Act → World → Prop} {E : Prop} (hgd : o.guard = none) (sl x : Operand) (ho : o.op = .call { callee := .builtin .append, args := #[sl, x], argTypes := #[T, T] })
    (hT : Tryz.prog.underlying T = some (.slice e)) (z : Value) (size bytes : Nat) (hinfo : (Tryz.prog.info? e).map (fun i => (i.zero, i.size, i.bytes)) = some (some z, size, bytes)) (hz : z.cells.size = size) (hs0 : 0 < size) (hby : bytes ≤ 4096)
    (B : Nat) (wp : World) (v : Value) (n : Nat) (xs cs : List Value) (hcs : cs.length = size) (hone : ∀ u ∈ cs, u.oneCell' = true) (hs : a.eval sl = v) (hown : wp.ownsRow B e size v n xs) (hx : a.eval x = .slice (some ⟨wp.heap.size, 0, none⟩) 1 1) (hw : w = wp.alloc (.cells cs.toArray e)) (hl : n ≤ 1073741824) (hB : B ≤ wp.heap.size)
    (h : ∀ v' w', AppPost wp B e size v n xs cs v' w' → K (a.put o.dst v') w') : if Region.wanted o (yielded ops a.tmps) = true then Oper.wp Tryz.prog o a w K Q else E := by
  subst hw
  obtain ⟨v', w', hrun, hp⟩ := run_append_one (ty := o.type) hT z size bytes hinfo hz hs0 hby B wp v n xs cs hcs hone hown hl hB
  have hwd : Region.wanted o (yielded ops a.tmps) = true := by simp [Region.wanted, hgd]
  rw [if_pos hwd]
  unfold Oper.wp
  simp [execOp, ho, resolve, invoke, builtin, hs, hx, hrun, Result.andThen]
  exact h v' w' hp
end Go.Proofs.YtnbihjocdlpplaaGreatDoor
/- A patch's changes, by the program. -/
namespace Go.Proofs.YtnbihjocdlpplaaGreatDoor
set_option linter.unusedVariables false
set_option linter.unusedSimpArgs false
open Go.RowKit
open Go.Lib hiding intOf
theorem fold_bound : ∀ (X : List HkI) (st : CSt), (X.foldl stepCh st).pos ≤ st.pos + bytesK X ∧ (X.foldl stepCh st).out.length ≤ st.out.length + X.length
  | [], st => ⟨Nat.le_refl _, Nat.le_refl _⟩
  | x :: r, st => by
    have h1 := fold_bound r (stepCh st x)
    have h2 := step_len st x
    have h3 : bytesK (x :: r) = x.2.flatten.length + bytesK r := by unfold bytesK; rw [List.map_cons, List.sum_cons]
    rw [List.foldl_cons, h3, List.length_cons]
    omega
theorem chSt_bound (X : List HkI) : (chSt X).pos ≤ bytesK X ∧ (chSt X).out.length ≤ X.length := by
  have := fold_bound X ⟨0, 0, []⟩
  unfold chSt
  simp only [List.length_nil, Nat.zero_add] at this
  exact this
theorem bytesK_take (X : List HkI) (i : Nat) : bytesK (X.take i) ≤ bytesK X := by
  have : bytesK X = bytesK (X.take i) + bytesK (X.drop i) := by rw [← bytesK_app, List.take_append_drop]
  omega
/-- what a change's step needs: bounds -/
theorem ch_room {X : List HkI} {i p : Nat} {wv : Int} {out : List Ch} {x : HkI} (hs : chSt (X.take i) = ⟨p, wv, out⟩) (hx : X[i]? = some x) (hF : Fit X) : p + x.2.flatten.length ≤ 67108864 ∧ out.length ≤ i := by
  have h1 := chSt_bound (X.take i)
  rw [hs] at h1
  have h2 := bytesK_take X (i + 1)
  rw [take_next hx, bytesK_app] at h2
  have h3 : bytesK [x] = x.2.flatten.length := by simp [bytesK]
  have h4 := hF.2.2
  have h5 : (X.take i).length ≤ i := by rw [List.length_take]; omega
  have h6 := h1.1
  have h7 := h1.2
  dsimp only at h6 h7
  omega
def ChR (w : World) (X : List HkI) (i p : Nat) (wv : Int) (out : List Ch) (vo : Value) (wr : World) : Prop :=
  chSt (X.take i) = ⟨p, wv, out⟩ ∧ ChOwn w.heap.size vo out wr ∧ Below w.heap.size w wr
set_option maxHeartbeats 8000000 in
set_option maxRecDepth 100000 in
theorem changesC (w : World) (s : List UInt8) (a : Option Addr) (n c : Nat) (X : List HkI) (hX : ReadsK w a n X) (hF : Fit X) (hT : Tabs w) (hfit : fitsB s X = true) :
    Calls Tryz.prog 22 #[.string (bstr s), .slice a n c] w fun e w' => (∃ v, e = .returned (.tuple #[v, .int .i64 0]) ∧ ∃ v0 c0, v = .slice v0 (chSt X).out.length (chSt X).out.length ∧ ChOwn w.heap.size (.slice v0 (chSt X).out.length c0) (chSt X).out w') ∧ Below w.heap.size w w' := by
  have HX := Lib.hid hX
  have HF := Lib.hid hF
  have HN := Lib.hid hX.len
  have hn : n ≤ 16777216 := by rw [← hX.len]; exact hF.1
  have HC := Lib.hid (fitsC w s a n c X hX hF hT)
  rw [hfit] at HC
  clear hX hF hT hfit
  go_enter Tryz.func22, Tryz.ntmps22
  go_wp2_with (go_at_call 48; refine (HC.out).mono ?_; rintro e w1 ⟨rfl, hb1⟩; have HB1 := Lib.hid hb1; clear hb1)
  go_loopw [6, 7, 8, 18] (fun vo va vw ui wr => ∃ (i p : Nat) (wv : Int) (out : List Ch), va = .int .i64 (p : Int) ∧ vw = .int .i64 wv ∧ ui = .int .i64 (i : Int) ∧ i ≤ n ∧ Hid (ChR w X i p wv out vo wr)) (fun _ _ _ ui _ => n - (RowKit.intOf ui).toNat)
  case atStart => exact ⟨0, 0, 0, [], rfl, rfl, rfl, Nat.zero_le _, Lib.hid ⟨rfl, World.ownsRow_nil _ _ _ _, HB1.out⟩⟩
  case round =>
    obtain ⟨i, p, wv, out, rfl, rfl, rfl, hi, HR⟩ := hrel
    obtain ⟨vo, rfl⟩ : ∃ v : Value, v = u6 := ⟨_, rfl⟩
    by_cases hlt : i < n
    · obtain ⟨b, off, x, ad, m, cm, rfl, hb, hx, hc0, hc1, hrs, hmc, hcm, hm⟩ := (HX.out.keep HR.out.2.2 (Nat.le_refl _)).at hlt
      obtain ⟨hroom, hol⟩ := ch_room HR.out.1 hx HF.out
      have hnx := chSt_next hx
      rw [HR.out.1] at hnx
      have hml : m ≤ 16777216 := by
        have h1 := HF.out.2.1
        have h2 := linesK_mem (List.mem_of_getElem? hx)
        omega
      obtain ⟨kd, L⟩ := x
      dsimp only at hc0 hc1 hrs hm hroom hnx
      have hwb := HR.out.2.2.size
      have HBA := Lib.hid (HR.out.2.2.alloc hwb (.cells #[.int .i64 kd, .slice ad m cm] 25))
      have hra : ReadsS (wr.alloc (.cells #[.int .i64 kd, .slice ad m cm] 25)) ad m L := hrs.keep ((Below.refl wr.heap.size wr).alloc (Nat.le_refl _) _) (Nat.le_refl _)
      have HRA := Lib.hid hra
      obtain ⟨F, hFl⟩ : ∃ F, F = L.flatten := ⟨_, rfl⟩
      have HJ := Lib.hid (joinC (wr.alloc (.cells #[.int .i64 kd, .slice ad m cm] 25)) ad m cm L hra hmc (by omega) (by omega))
      unfold stepCh at hnx
      dsimp only at hnx
      rw [← hFl] at HJ hroom hnx
      have hown : ∀ wj, Below (wr.heap.size + 1) (wr.alloc (.cells #[.int .i64 kd, .slice ad m cm] 25)) wj → ChOwn w.heap.size vo out wj ∧ Below w.heap.size w wj ∧ wr.heap.size + 1 ≤ wj.heap.size ∧ wj.cell? ⟨wr.heap.size, 0, none⟩ = some (.int .i64 kd) := fun wj hj => by
        have hsz : (wr.alloc (.cells #[.int .i64 kd, .slice ad m cm] 25)).heap.size = wr.heap.size + 1 := by simp
        refine ⟨own_below (World.ownsRow.alloc HR.out.2.1 _) (by rw [hsz]; exact hj), HBA.out.trans (hj.mono (by omega)), by have := hj.size; omega, ?_⟩
        rw [hj.cell (p := ⟨wr.heap.size, 0, none⟩) (by show wr.heap.size < _; omega), show (.cells #[.int .i64 kd, .slice ad m cm] 25 : Obj) = .cells [.int .i64 kd, .slice ad m cm].toArray 25 from rfl, cell_new]
        rfl
      have HO := Lib.hid hown
      have hit : (i : Int) < (n : Int) := by omega
      have hsz : (wr.alloc (.cells #[.int .i64 kd, .slice ad m cm] 25)).heap.size = wr.heap.size + 1 := by simp
      have HSZ := Lib.hid hsz
      have HVO := Lib.hid (HR.out.2.1.lt)
      clear hx hrs hra hm hmc hcm hFl hown hsz hml
      by_cases k2 : kd = 2
      · rw [if_pos k2] at hnx
        have q2 : (kd == 2) = true := by rw [k2]; rfl
        have q3 : (kd == 3) = false := by rw [k2]; rfl
        have q4 : (kd != 2) = false := by rw [k2]; rfl
        rw [← k2] at hnx
        have HNX := Lib.hid hnx
        clear hnx k2
        go_wp2_with (first
          | (go_at_call 49; refine (HJ.out).mono ?_; rintro e wj ⟨rfl, hbj⟩; obtain ⟨hoj, hbj2, hzj, hcj⟩ := HO.out wj (HSZ.out ▸ hbj); have HOJ := Lib.hid hoj; have HBJ := Lib.hid hbj2; have HZJ := Lib.hid hzj; clear hbj hoj hbj2 hzj)
          | (at_builtin; refine appSep rfl _ _ rfl Tryz.underlying46 (.agg #[.int .i64 0, .string ByteArray.empty, .string ByteArray.empty]) 3 40 infoCh rfl (by decide) (by decide) w.heap.size wj vo out.length (out.flatMap chCells) (chCells (p, F, [])) rfl (chCells_one _) rfl HOJ.out rfl rfl (by omega) HBJ.out.size ?_; intro v8 w8 hP8; have hc8 : w8.cell? ⟨wr.heap.size, 0, none⟩ = some (.int .i64 kd) := hP8.2.1.cell hcj (fun e => by have h1 := (HVO.out _ e.symm).2; exact Nat.lt_irrefl _ h1); have HP8 := Lib.hid hP8; clear hP8))
        go_roundw
        case rel => exact ⟨i + 1, p, kd, out ++ [(p, F, [])], rfl, rfl, by go_num, hlt, Lib.hid ⟨HNX.out, ChOwn.push HP8.out.1, HBJ.out.grown HP8.out.2.1 HBJ.out.size (fun k hk => (World.ownsRow.lt HOJ.out k hk).1)⟩⟩
        case measure => simp [RowKit.intOf]; omega
      · rw [if_neg k2] at hnx
        have q2 : (kd == 2) = false := by rw [beq_eq_false_iff_ne]; exact k2
        have q4 : (kd != 2) = true := by rw [bne_iff_ne]; exact k2
        by_cases k3 : kd = 3
        · rw [if_pos k3] at hnx
          have q3 : (kd == 3) = true := by rw [k3]; rfl
          rw [← k3] at hnx
          by_cases kw : wv = 2
          · rw [if_pos kw] at hnx
            have qw : (wv == 2) = true := by rw [kw]; rfl
            obtain ⟨o, ch, rfl⟩ : ∃ o ch, out = o ++ [ch] := by
              have h9 : ChOk (chSt (X.take i)) := chOk _
              rw [HR.out.1] at h9
              exact h9 kw
            rw [setNew_snoc] at hnx
            have hol2 : o.length + 1 ≤ i := by simpa using hol
            obtain ⟨g, cap, rfl, _⟩ := HR.out.2.1.last F
            have HNX := Lib.hid hnx
            clear hnx k3 kw k2 hol
            go_wp2_with (go_at_call 49; refine (HJ.out).mono ?_; rintro e wj ⟨rfl, hbj⟩; obtain ⟨hoj, hbj2, hzj, hcj⟩ := HO.out wj (HSZ.out ▸ hbj); obtain ⟨g9, cap9, hv9, hg1, hg2, hcl, hfr, hso, hgr⟩ := hoj.last F; cases hv9; have hcj9 := hgr.cell hcj (fun e => by have h1 := (HVO.out _ e.symm).2; exact Nat.lt_irrefl _ h1); have HSO := Lib.hid hso; have HGR := Lib.hid hgr; have HG1 := Lib.hid hg1; have HBJ := Lib.hid hbj2; clear hbj hoj hbj2 hzj hso hgr hg1)
            go_roundw
            case rel => exact ⟨i + 1, p + F.length, kd, o ++ [(ch.1, ch.2.1, F)], rfl, rfl, by go_num, hlt, Lib.hid ⟨HNX.out, HSO.out, HBJ.out.grown HGR.out HBJ.out.size (fun k hk => by cases hk; exact HG1.out)⟩⟩
            case measure => simp [RowKit.intOf]; omega
          · rw [if_neg kw] at hnx
            have qw : (wv == 2) = false := by rw [beq_eq_false_iff_ne]; exact kw
            have HNX := Lib.hid hnx
            clear hnx k3 kw k2
            go_wp2_with (first
              | (go_at_call 49; refine (HJ.out).mono ?_; rintro e wj ⟨rfl, hbj⟩; obtain ⟨hoj, hbj2, hzj, hcj⟩ := HO.out wj (HSZ.out ▸ hbj); have HOJ := Lib.hid hoj; have HBJ := Lib.hid hbj2; have HZJ := Lib.hid hzj; clear hbj hoj hbj2 hzj)
              | (at_builtin; refine appSep rfl _ _ rfl Tryz.underlying46 (.agg #[.int .i64 0, .string ByteArray.empty, .string ByteArray.empty]) 3 40 infoCh rfl (by decide) (by decide) w.heap.size wj vo out.length (out.flatMap chCells) (chCells (p, [], F)) rfl (chCells_one _) rfl HOJ.out rfl rfl (by omega) HBJ.out.size ?_; intro v8 w8 hP8; have hc8 : w8.cell? ⟨wr.heap.size, 0, none⟩ = some (.int .i64 kd) := hP8.2.1.cell hcj (fun e => by have h1 := (HVO.out _ e.symm).2; exact Nat.lt_irrefl _ h1); have HP8 := Lib.hid hP8; clear hP8))
            go_roundw
            case rel => exact ⟨i + 1, p + F.length, kd, out ++ [(p, [], F)], rfl, rfl, by go_num, hlt, Lib.hid ⟨HNX.out, ChOwn.push HP8.out.1, HBJ.out.grown HP8.out.2.1 HBJ.out.size (fun k hk => (World.ownsRow.lt HOJ.out k hk).1)⟩⟩
            case measure => simp [RowKit.intOf]; omega
        · rw [if_neg k3] at hnx
          have q3 : (kd == 3) = false := by rw [beq_eq_false_iff_ne]; exact k3
          have HNX := Lib.hid hnx
          clear hnx k3 k2
          go_wp2_with (go_at_call 49; refine (HJ.out).mono ?_; rintro e wj ⟨rfl, hbj⟩; obtain ⟨hoj, hbj2, hzj, hcj⟩ := HO.out wj (HSZ.out ▸ hbj); have HOJ := Lib.hid hoj; have HBJ := Lib.hid hbj2; have HZJ := Lib.hid hzj; clear hbj hoj hbj2 hzj)
          go_roundw
          case rel => exact ⟨i + 1, p + F.length, kd, out, rfl, rfl, by go_num, hlt, Lib.hid ⟨HNX.out, HOJ.out, HBJ.out⟩⟩
          case measure => simp [RowKit.intOf]; omega
    · obtain rfl : i = n := by omega
      have hd : X.take i = X := List.take_of_length_le (by rw [HN.out]; exact Nat.le_refl _)
      have hst := HR.out.1
      rw [hd] at hst
      obtain ⟨a9, c9, rfl, hr9, hc9, hm9⟩ := HR.out.2.1.reads
      have HST := Lib.hid hst
      clear hd hst hr9
      unfold maxLen at hm9
      go_wp2_with (go_at_call 62; refine (clipCh _ _ _ _ hc9 (by omega)).mono ?_; rintro e w9 ⟨rfl, rfl⟩)
      go_ret2
      exact ⟨⟨.slice a9 out.length out.length, rfl, a9, c9, by rw [HST.out], by rw [HST.out]; exact HR.out.2.1⟩, HR.out.2.2⟩
end Go.Proofs.YtnbihjocdlpplaaGreatDoor
/- A patch's changes, by the program: a patch that does not fit. -/
namespace Go.Proofs.YtnbihjocdlpplaaGreatDoor
set_option linter.unusedVariables false
set_option linter.unusedSimpArgs false
open Go.RowKit
open Go.Lib hiding intOf
set_option maxHeartbeats 8000000 in
set_option maxRecDepth 100000 in
theorem changesC0 (w : World) (s : List UInt8) (a : Option Addr) (n c : Nat) (X : List HkI) (hX : ReadsK w a n X) (hF : Fit X) (hT : Tabs w) (hfit : fitsB s X = false) :
    Calls Tryz.prog 22 #[.string (bstr s), .slice a n c] w fun e w' => e = .returned (.tuple #[.slice none 0 0, .int .i64 310]) ∧ Below w.heap.size w w' := by
  have HC := Lib.hid (fitsC w s a n c X hX hF hT)
  rw [hfit] at HC
  clear hX hF hT hfit
  go_enter Tryz.func22, Tryz.ntmps22
  go_wp2_with (go_at_call 48; refine (HC.out).mono ?_; rintro e w1 ⟨rfl, hb1⟩; have HB1 := Lib.hid hb1; clear hb1)
  go_ret2
  exact ⟨rfl, HB1.out⟩
end Go.Proofs.YtnbihjocdlpplaaGreatDoor
/- A patch's changes, by the reference. -/
namespace Go.Proofs.YtnbihjocdlpplaaGreatDoor
set_option linter.unusedVariables false
set_option linter.unusedSimpArgs false
open Go.RowKit
open Go.Lib hiding intOf
theorem ch_was {X : List HkI} {j p : Nat} {wv : Int} {out : List Ch} {x : HkI} (hs : chSt (X.take (j + 1)) = ⟨p, wv, out⟩) (hx : X[j]? = some x) : x.1 = wv := by
  rw [chSt_next hx] at hs
  have := step_was (chSt (X.take j)) x
  rw [hs] at this
  exact this.symm
set_option maxHeartbeats 8000000 in
set_option maxRecDepth 100000 in
theorem changesR (w : World) (s : List UInt8) (a : Option Addr) (n c : Nat) (X : List HkI) (hX : ReadsK w a n X) (hF : Fit X) (hck : checkB X = true) (hk : ∀ x ∈ X, 1 ≤ x.1 ∧ x.1 ≤ 3) (hse : (sideI 2 X).flatten = s) :
    Calls Tryz.prog 31 #[.string (bstr s), .slice a n c] w fun e w' => (∃ v, e = .returned (.tuple #[v, .int .i64 0]) ∧ ChOwn w.heap.size v (chSt X).out w') ∧ Below w.heap.size w w' := by
  have HX := Lib.hid hX
  have HF := Lib.hid hF
  have HN := Lib.hid hX.len
  have HKD := Lib.hid hk
  have hn : n ≤ 16777216 := by rw [← hX.len]; exact hF.1
  have HC := Lib.hid (checkR w a n c X hX hF)
  have HK : Hid (errP (checkB X) = 0) := Lib.hid (by rw [hck]; rfl)
  rw [HK.out] at HC
  obtain ⟨A, hA⟩ : ∃ A, A = sideI 2 X := ⟨_, rfl⟩
  have lA : A.flatten.length ≤ 67108864 := by rw [hA]; exact Nat.le_trans (sideI_bytes _ _) hF.2.2
  have HEA := Lib.hid hA
  rw [← hA] at hse
  have hbn : (A.flatten != s) = false := by rw [hse]; simp
  have hbe : (A.flatten == s) = true := by rw [beq_iff_eq]; exact hse
  clear hX hF hck hk hA hse
  go_enter Tryz.func31, Tryz.ntmps31
  go_wp2_with (first
    | (go_at_call 26; refine (HC.out).mono ?_; rintro e w1 ⟨rfl, hb1⟩; have HB1 := Lib.hid hb1; clear hb1)
    | (go_at_call_of 64 (Value.int .i64 2); refine (sideR w1 a n c X 2 (HX.out.keep HB1.out (Nat.le_refl _)) (by omega) (by have := HF.out.2.1; omega)).mono ?_; rintro e w2 ⟨v2, rfl, hO2, hb2⟩; rw [← HEA.out] at hO2; obtain ⟨a2, c2, rfl, hr2, hc2, hm2⟩ := readsS_own hO2; have HR2 := Lib.hid hr2; have hlA2 : A.length ≤ 16777216 := by { have h1 := HF.out.2.1; have h2 := sideI_len 2 X; rw [← HEA.out] at h2; omega }; have HB2 := Lib.hid (HB1.out.trans (hb2.mono HB1.out.size)); clear hO2 hb2 hr2 hc2 hm2; obtain ⟨n2, hn2⟩ : ∃ n2, n2 = A.length := ⟨_, rfl⟩; rw [← hn2] at HR2 hlA2 ⊢; clear hn2)
    | (go_at_call 65; refine (joinR w2 a2 n2 c2 A HR2.out (by omega) (by omega)).mono ?_; rintro e w3 ⟨rfl, hb3⟩; have HB3 := Lib.hid (HB2.out.trans (hb3.mono HB2.out.size)); clear hb3))
  go_loopw [6, 7, 8] (fun vo va ui wr => ∃ (i p : Nat) (wv : Int) (out : List Ch), va = .int .i64 (p : Int) ∧ ui = .int .i64 (i : Int) ∧ i ≤ n ∧ Hid (ChR w X i p wv out vo wr)) (fun _ _ ui _ => n - (RowKit.intOf ui).toNat)
  case atStart => exact ⟨0, 0, 0, [], rfl, rfl, Nat.zero_le _, Lib.hid ⟨rfl, World.ownsRow_nil _ _ _ _, HB3.out⟩⟩
  case round =>
    obtain ⟨i, p, wv, out, rfl, rfl, hi, HR⟩ := hrel
    obtain ⟨vo, rfl⟩ : ∃ v : Value, v = u6 := ⟨_, rfl⟩
    by_cases hlt : i < n
    · obtain ⟨b, off, x, ad, m, cm, rfl, hb, hx, hc0, hc1, hrs, hmc, hcm, hm⟩ := (HX.out.keep HR.out.2.2 (Nat.le_refl _)).at hlt
      obtain ⟨hroom, hol⟩ := ch_room HR.out.1 hx HF.out
      have hnx := chSt_next hx
      rw [HR.out.1] at hnx
      have hml : m ≤ 16777216 := by
        have h1 := HF.out.2.1
        have h2 := linesK_mem (List.mem_of_getElem? hx)
        omega
      have hkx := HKD.out x (List.mem_of_getElem? hx)
      have hprev : ∀ j, i = j + 1 → wr.cell? ⟨b, off + j * 2, none⟩ = some (.int .i64 wv) := by
        intro j hj
        obtain ⟨b', off', x', _, _, _, e', _, hx', hc', _⟩ := (HX.out.keep HR.out.2.2 (Nat.le_refl _)).at (show j < n by omega)
        cases e'
        rw [hc', ch_was (hj ▸ HR.out.1) hx']
      have hw0 : i = 0 → wv = 0 := by
        intro h0
        have h9 := HR.out.1
        rw [h0, List.take_zero] at h9
        exact (congrArg CSt.was h9).symm
      obtain ⟨kd, L⟩ := x
      dsimp only at hc0 hc1 hrs hm hroom hnx hkx
      obtain ⟨F, hFl⟩ : ∃ F, F = L.flatten := ⟨_, rfl⟩
      have HJ := Lib.hid (joinR wr ad m cm L hrs (by omega) (by omega))
      unfold stepCh at hnx
      dsimp only at hnx
      rw [← hFl] at HJ hroom hnx
      have hown : ∀ wj, Below wr.heap.size wr wj → ChOwn w.heap.size vo out wj ∧ Below w.heap.size w wj ∧ wj.cell? ⟨b, off + i * 2, none⟩ = some (.int .i64 kd) ∧ (∀ j, i = j + 1 → wj.cell? ⟨b, off + j * 2, none⟩ = some (.int .i64 wv)) := fun wj hj =>
        ⟨own_below HR.out.2.1 hj, HR.out.2.2.trans (hj.mono HR.out.2.2.size), by rw [hj.cell (p := ⟨b, off + i * 2, none⟩) hb]; exact hc0, fun j h => by rw [hj.cell (p := ⟨b, off + j * 2, none⟩) hb]; exact hprev j h⟩
      have HO := Lib.hid hown
      have hit : (i : Int) < (n : Int) := by omega
      clear hx hrs hm hmc hcm hFl hown hml hprev
      by_cases k2 : kd = 2
      · rw [if_pos k2] at hnx
        have q1 : (kd == 1) = false := by rw [k2]; rfl
        have q2 : (kd == 2) = true := by rw [k2]; rfl
        rw [← k2] at hnx
        have HNX := Lib.hid hnx
        clear hnx k2 hkx hw0
        go_wp2_with (first
          | (go_at_call 65; refine (HJ.out).mono ?_; rintro e wj ⟨rfl, hbj⟩; obtain ⟨hoj, hbj2, hcj, hpj⟩ := HO.out wj hbj; have HOJ := Lib.hid hoj; have HBJ := Lib.hid hbj2;  clear hbj hoj hbj2 hpj)
          | (at_builtin; refine appSep rfl _ _ rfl Tryz.underlying46 (.agg #[.int .i64 0, .string ByteArray.empty, .string ByteArray.empty]) 3 40 infoCh rfl (by decide) (by decide) w.heap.size wj vo out.length (out.flatMap chCells) (chCells (p, F, [])) rfl (chCells_one _) rfl HOJ.out rfl rfl (by omega) HBJ.out.size ?_; intro v8 w8 hP8; have HP8 := Lib.hid hP8; clear hP8))
        go_roundw
        case rel => exact ⟨i + 1, p, kd, out ++ [(p, F, [])], rfl, by go_num, hlt, Lib.hid ⟨HNX.out, ChOwn.push HP8.out.1, HBJ.out.grown HP8.out.2.1 HBJ.out.size (fun k hk => (World.ownsRow.lt HOJ.out k hk).1)⟩⟩
        case measure => simp [RowKit.intOf]; omega
      · rw [if_neg k2] at hnx
        have q2 : (kd == 2) = false := by rw [beq_eq_false_iff_ne]; exact k2
        by_cases k3 : kd = 3
        · rw [if_pos k3] at hnx
          have q1 : (kd == 1) = false := by rw [k3]; rfl
          rw [← k3] at hnx
          by_cases kw : wv = 2
          · rw [if_pos kw] at hnx
            have qw : (wv == 2) = true := by rw [kw]; rfl
            have hi0 : i ≠ 0 := fun h => by have := hw0 h; omega
            obtain ⟨j, rfl⟩ : ∃ j, i = j + 1 := ⟨i - 1, by omega⟩
            obtain ⟨o, ch, rfl⟩ : ∃ o ch, out = o ++ [ch] := by
              have h9 : ChOk (chSt (X.take (j + 1))) := chOk _
              rw [HR.out.1] at h9
              exact h9 kw
            rw [setNew_snoc] at hnx
            have hol2 : o.length + 1 ≤ j + 1 := by simpa using hol
            obtain ⟨g, cap, rfl, _⟩ := HR.out.2.1.last F
            have HNX := Lib.hid hnx
            clear hnx k3 kw k2 hol hkx hw0
            go_wp2_with (go_at_call 65; refine (HJ.out).mono ?_; rintro e wj ⟨rfl, hbj⟩; obtain ⟨hoj, hbj2, hcj, hpj⟩ := HO.out wj hbj; have HOJ := Lib.hid hoj; have HBJ := Lib.hid hbj2; have hpj2 := hpj j rfl; obtain ⟨g9, cap9, hv9, hg1, hg2, hcl, hfr, hso, hgr⟩ := hoj.last F; cases hv9; have HSO := Lib.hid hso; have HGR := Lib.hid hgr; have HG1 := Lib.hid hg1; clear hso hgr hg1; clear hbj hoj hbj2 hpj)
            go_roundw
            case rel => exact ⟨j + 1 + 1, p + F.length, kd, o ++ [(ch.1, ch.2.1, F)], rfl, by go_num, hlt, Lib.hid ⟨HNX.out, HSO.out, HBJ.out.grown HGR.out HBJ.out.size (fun k hk => by cases hk; exact HG1.out)⟩⟩
            case measure => simp [RowKit.intOf]; omega
          · rw [if_neg kw] at hnx
            have qw : (wv == 2) = false := by rw [beq_eq_false_iff_ne]; exact kw
            have HNX := Lib.hid hnx
            by_cases h0 : i = 0
            · have hn0 : ¬ 0 < i := by omega
              clear hnx k3 kw k2 hkx hw0 h0
              go_wp2_with (first
                | (go_at_call 65; refine (HJ.out).mono ?_; rintro e wj ⟨rfl, hbj⟩; obtain ⟨hoj, hbj2, hcj, hpj⟩ := HO.out wj hbj; have HOJ := Lib.hid hoj; have HBJ := Lib.hid hbj2;  clear hbj hoj hbj2 hpj)
                | (at_builtin; refine appSep rfl _ _ rfl Tryz.underlying46 (.agg #[.int .i64 0, .string ByteArray.empty, .string ByteArray.empty]) 3 40 infoCh rfl (by decide) (by decide) w.heap.size wj vo out.length (out.flatMap chCells) (chCells (p, [], F)) rfl (chCells_one _) rfl HOJ.out rfl rfl (by omega) HBJ.out.size ?_; intro v8 w8 hP8; have HP8 := Lib.hid hP8; clear hP8))
              go_roundw
              case rel => exact ⟨i + 1, p + F.length, kd, out ++ [(p, [], F)], rfl, by go_num, hlt, Lib.hid ⟨HNX.out, ChOwn.push HP8.out.1, HBJ.out.grown HP8.out.2.1 HBJ.out.size (fun k hk => (World.ownsRow.lt HOJ.out k hk).1)⟩⟩
              case measure => simp [RowKit.intOf]; omega
            · obtain ⟨j, rfl⟩ : ∃ j, i = j + 1 := ⟨i - 1, by omega⟩
              clear hnx k3 kw k2 hkx hw0 h0
              go_wp2_with (first
                | (go_at_call 65; refine (HJ.out).mono ?_; rintro e wj ⟨rfl, hbj⟩; obtain ⟨hoj, hbj2, hcj, hpj⟩ := HO.out wj hbj; have HOJ := Lib.hid hoj; have HBJ := Lib.hid hbj2; have hpj2 := hpj j rfl; clear hbj hoj hbj2 hpj)
                | (at_builtin; refine appSep rfl _ _ rfl Tryz.underlying46 (.agg #[.int .i64 0, .string ByteArray.empty, .string ByteArray.empty]) 3 40 infoCh rfl (by decide) (by decide) w.heap.size wj vo out.length (out.flatMap chCells) (chCells (p, [], F)) rfl (chCells_one _) rfl HOJ.out rfl rfl (by omega) HBJ.out.size ?_; intro v8 w8 hP8; have HP8 := Lib.hid hP8; clear hP8))
              go_roundw
              case rel => exact ⟨j + 1 + 1, p + F.length, kd, out ++ [(p, [], F)], rfl, by go_num, hlt, Lib.hid ⟨HNX.out, ChOwn.push HP8.out.1, HBJ.out.grown HP8.out.2.1 HBJ.out.size (fun k hk => (World.ownsRow.lt HOJ.out k hk).1)⟩⟩
              case measure => simp [RowKit.intOf]; omega
        · rw [if_neg k3] at hnx
          have hkd1 : kd = 1 := by omega
          have q1 : (kd == 1) = true := by rw [hkd1]; rfl
          clear hkd1
          have HNX := Lib.hid hnx
          clear hnx k3 k2 hkx hw0
          go_wp2_with (go_at_call 65; refine (HJ.out).mono ?_; rintro e wj ⟨rfl, hbj⟩; obtain ⟨hoj, hbj2, hcj, hpj⟩ := HO.out wj hbj; have HOJ := Lib.hid hoj; have HBJ := Lib.hid hbj2;  clear hbj hoj hbj2 hpj)
          go_roundw
          case rel => exact ⟨i + 1, p + F.length, kd, out, rfl, by go_num, hlt, Lib.hid ⟨HNX.out, HOJ.out, HBJ.out⟩⟩
          case measure => simp [RowKit.intOf]; omega
    · obtain rfl : i = n := by omega
      have hd : X.take i = X := List.take_of_length_le (by rw [HN.out]; exact Nat.le_refl _)
      have hst := HR.out.1
      rw [hd] at hst
      have HST := Lib.hid hst
      clear hd hst
      go_wp2
      go_ret2
      exact ⟨⟨vo, rfl, by rw [HST.out]; exact HR.out.2.1⟩, HR.out.2.2⟩
end Go.Proofs.YtnbihjocdlpplaaGreatDoor
/- A patch's changes, by the reference: a patch that does not fit. -/
namespace Go.Proofs.YtnbihjocdlpplaaGreatDoor
set_option linter.unusedVariables false
set_option linter.unusedSimpArgs false
open Go.RowKit
open Go.Lib hiding intOf
set_option maxHeartbeats 8000000 in
set_option maxRecDepth 100000 in
theorem changesR0 (w : World) (s : List UInt8) (a : Option Addr) (n c : Nat) (X : List HkI) (hX : ReadsK w a n X) (hF : Fit X) (hfit : fitsB s X = false) :
    Calls Tryz.prog 31 #[.string (bstr s), .slice a n c] w fun e w' => e = .returned (.tuple #[.slice none 0 0, .int .i64 310]) ∧ Below w.heap.size w w' := by
  have HX := Lib.hid hX
  have HF := Lib.hid hF
  have hn : n ≤ 16777216 := by rw [← hX.len]; exact hF.1
  have HC := Lib.hid (checkR w a n c X hX hF)
  obtain ⟨A, hA⟩ : ∃ A, A = sideI 2 X := ⟨_, rfl⟩
  have lA : A.flatten.length ≤ 67108864 := by rw [hA]; exact Nat.le_trans (sideI_bytes _ _) hF.2.2
  have hfb : fitsB s X = (checkB X && (A.flatten == s)) := by rw [hA]; rfl
  rw [hfit] at hfb
  have HEA := Lib.hid hA
  by_cases hk : checkB X = true
  · rw [hk, Bool.true_and] at hfb
    have HK : Hid (errP (checkB X) = 0) := Lib.hid (by rw [hk]; rfl)
    rw [HK.out] at HC
    have hbe : (A.flatten == s) = false := hfb.symm
    have hbn : (A.flatten != s) = true := by rw [bne, hbe]; rfl
    clear hX hF hA hk hfb hfit
    go_enter Tryz.func31, Tryz.ntmps31
    go_wp2_with (first
      | (go_at_call 26; refine (HC.out).mono ?_; rintro e w1 ⟨rfl, hb1⟩; have HB1 := Lib.hid hb1; clear hb1)
      | (go_at_call_of 64 (Value.int .i64 2); refine (sideR w1 a n c X 2 (HX.out.keep HB1.out (Nat.le_refl _)) (by omega) (by have := HF.out.2.1; omega)).mono ?_; rintro e w2 ⟨v2, rfl, hO2, hb2⟩; rw [← HEA.out] at hO2; obtain ⟨a2, c2, rfl, hr2, hc2, hm2⟩ := readsS_own hO2; have HR2 := Lib.hid hr2; have hlA2 : A.length ≤ 16777216 := by { have h1 := HF.out.2.1; have h2 := sideI_len 2 X; rw [← HEA.out] at h2; omega }; have HB2 := Lib.hid (HB1.out.trans (hb2.mono HB1.out.size)); clear hO2 hb2 hr2 hc2 hm2; obtain ⟨n2, hn2⟩ : ∃ n2, n2 = A.length := ⟨_, rfl⟩; rw [← hn2] at HR2 hlA2 ⊢; clear hn2)
      | (go_at_call 65; refine (joinR w2 a2 n2 c2 A HR2.out (by omega) (by omega)).mono ?_; rintro e w3 ⟨rfl, hb3⟩; have HB3 := Lib.hid (HB2.out.trans (hb3.mono HB2.out.size)); clear hb3))
    go_ret2
    exact ⟨rfl, HB3.out⟩
  · have HK : Hid (errP (checkB X) = 310) := Lib.hid (by rw [Bool.not_eq_true] at hk; rw [hk]; rfl)
    rw [HK.out] at HC
    clear hX hF hA hk hfb hfit
    go_enter Tryz.func31, Tryz.ntmps31
    go_wp2_with (go_at_call 26; refine (HC.out).mono ?_; rintro e w1 ⟨rfl, hb1⟩; have HB1 := Lib.hid hb1; clear hb1)
    go_ret2
    exact ⟨rfl, HB1.out⟩
end Go.Proofs.YtnbihjocdlpplaaGreatDoor
/- A patch's changes, by both, whether it fits or not. -/
namespace Go.Proofs.YtnbihjocdlpplaaGreatDoor
set_option linter.unusedVariables false
set_option linter.unusedSimpArgs false
open Go.RowKit
open Go.Lib hiding intOf
def chOut (s : List UInt8) (X : List HkI) : List Ch := if fitsB s X = true then (chSt X).out else []
theorem fits_parts {s : List UInt8} {X : List HkI} (h : fitsB s X = true) : checkB X = true ∧ (∀ x ∈ X, 1 ≤ x.1 ∧ x.1 ≤ 3) ∧ (sideI 2 X).flatten = s := by
  unfold fitsB at h
  rw [Bool.and_eq_true] at h
  refine ⟨h.1, fun x hx => ?_, beq_iff_eq.1 h.2⟩
  have h1 := h.1
  unfold checkB at h1
  rw [Bool.and_eq_true, Bool.and_eq_true] at h1
  exact (okB_mem X 0 h1.1.1 x hx).1
theorem changesP (w : World) (s : List UInt8) (a : Option Addr) (n c : Nat) (X : List HkI) (hX : ReadsK w a n X) (hF : Fit X) (hT : Tabs w) :
    Calls Tryz.prog 22 #[.string (bstr s), .slice a n c] w fun e w' => (∃ v0 c0, e = .returned (.tuple #[.slice v0 (chOut s X).length (chOut s X).length, .int .i64 (errP (fitsB s X))]) ∧ ChOwn w.heap.size (.slice v0 (chOut s X).length c0) (chOut s X) w') ∧ Below w.heap.size w w' := by
  by_cases h : fitsB s X = true
  · refine (changesC w s a n c X hX hF hT h).mono ?_
    rintro e w' ⟨⟨v, rfl, v0, c0, rfl, ho⟩, hb⟩
    unfold chOut
    rw [if_pos h, h]
    exact ⟨⟨v0, c0, rfl, ho⟩, hb⟩
  · rw [Bool.not_eq_true] at h
    refine (changesC0 w s a n c X hX hF hT h).mono ?_
    rintro e w' ⟨rfl, hb⟩
    unfold chOut
    rw [h]
    exact ⟨⟨none, 0, rfl, World.ownsRow_nil _ _ _ _⟩, hb⟩
theorem changesQ (w : World) (s : List UInt8) (a : Option Addr) (n c : Nat) (X : List HkI) (hX : ReadsK w a n X) (hF : Fit X) :
    Calls Tryz.prog 31 #[.string (bstr s), .slice a n c] w fun e w' => (∃ v, e = .returned (.tuple #[v, .int .i64 (errP (fitsB s X))]) ∧ ChOwn w.heap.size v (chOut s X) w') ∧ Below w.heap.size w w' := by
  by_cases h : fitsB s X = true
  · obtain ⟨h1, h2, h3⟩ := fits_parts h
    refine (changesR w s a n c X hX hF h1 h2 h3).mono ?_
    rintro e w' ⟨⟨v, rfl, ho⟩, hb⟩
    unfold chOut
    rw [if_pos h, h]
    exact ⟨⟨v, rfl, ho⟩, hb⟩
  · rw [Bool.not_eq_true] at h
    refine (changesR0 w s a n c X hX hF h).mono ?_
    rintro e w' ⟨rfl, hb⟩
    unfold chOut
    rw [h]
    exact ⟨⟨_, rfl, World.ownsRow_nil _ _ _ _⟩, hb⟩
end Go.Proofs.YtnbihjocdlpplaaGreatDoor
