/- Texts joined, one behind the other (SQuoteR, SCut, LSeekQuotes, Laid31). -/
import Derived.Test.YtchdeboialbdiaaDoorSk22
import Derived.Test.YtchdeboialbdiaaDoorRows
import Derived.Lib.LaidU8
import Derived.LaidSub
/- Quote, the reference's; a text cut. -/
namespace Go.Proofs.YtchdeboialbdiaaDoor
set_option linter.unusedVariables false
set_option linter.unusedSimpArgs false
open Go.RowKit
open Go.Lib hiding intOf
theorem infoB8 : (Tryd.prog.info? 5).map (fun i => (i.zero, i.size, i.bytes)) = some (some (.int .u8 0), 1, 1) := by kernel_rfl
def BOwn (B : Nat) (v : Value) (acc : List UInt8) (w : World) : Prop := w.ownsRow B 5 1 v acc.length (acc.map B8)
theorem BOwn.push {B : Nat} {v : Value} {acc : List UInt8} {x : UInt8} {w : World} (h : w.ownsRow B 5 1 v (acc.length + 1) (acc.map B8 ++ [B8 x])) : BOwn B v (acc ++ [x]) w := by
  unfold BOwn
  rw [List.length_append, List.map_append]
  exact h
theorem BOwn.conv {B : Nat} {v : Value} {acc : List UInt8} {w : World} (h : BOwn B v acc w) : (convert 107 9 v).run Tryd.prog w = .ok (.string (bstr acc)) w := by
  obtain ⟨a, c, rfl⟩ : ∃ a c, v = .slice a acc.length c := by
    rcases h.2 with ⟨rfl, h0⟩ | ⟨g, cap, cur, rfl, _⟩
    · exact ⟨none, 0, by rw [h0]⟩
    · exact ⟨_, _, rfl⟩
  exact run_bytes_str _ _ _ 5 Tryd.underlying107 Tryd.underlying5 Tryd.underlying9 _ _ _ acc (reads_own1 h)
theorem qm_iff (x : UInt8) {z : Int} (hz : ((x.toNat : Nat) : Int) = z) : qm x = (z == 46 || z == 91 || z == 93 || z == 42 || z == 43 || z == 63 || z == 94 || z == 36 || z == 92) := by
  have h : ∀ y : Fin 256, qm (UInt8.ofNat y.val) = (((y.val : Nat) : Int) == 46 || ((y.val : Nat) : Int) == 91 || ((y.val : Nat) : Int) == 93 || ((y.val : Nat) : Int) == 42 || ((y.val : Nat) : Int) == 43 || ((y.val : Nat) : Int) == 63 || ((y.val : Nat) : Int) == 94 || ((y.val : Nat) : Int) == 36 || ((y.val : Nat) : Int) == 92) := by decide +kernel
  have := h ⟨x.toNat, x.toNat_lt⟩
  rw [UInt8.ofNat_toNat] at this
  rw [this]
  subst hz
  rfl
set_option maxHeartbeats 4000000 in
set_option maxRecDepth 100000 in
theorem quoteR6 (w : World) (l : List UInt8) (hm : l.length ≤ 67108864) : Calls Tryd.prog 25 #[.string (bstr l)] w fun e w' => e = .returned (.string (bstr (quoteL l))) ∧ Below w.heap.size w w' := by
  obtain ⟨n, hn⟩ : ∃ n, l.length = n := ⟨_, rfl⟩
  have hsz : (bstr l).size = n := by rw [bstr_size, hn]
  have HN := Lib.hid hn
  rw [hn] at hm
  have hln : (l.length : Int) = (n : Int) := by rw [hn]
  clear hn
  go_enter Tryd.func25, Tryd.ntmps25
  go_wp2_with fail
  go_loopw [3, 4] (fun uv uk wr => ∃ (i : Nat) (acc : List UInt8), uk = .int .i64 (i : Int) ∧ i ≤ n ∧ acc.length ≤ 2 * i ∧ Hid (BOwn w.heap.size uv acc wr ∧ Below w.heap.size w wr ∧ acc ++ quoteL (l.drop i) = quoteL l)) (fun _ uk _ => n - (RowKit.intOf uk).toNat)
  case atStart => exact ⟨0, [], rfl, Nat.zero_le _, Nat.le_refl _, Lib.hid ⟨World.ownsRow_nil _ _ _ _, Below.refl _ w, rfl⟩⟩
  case round =>
    obtain ⟨i, acc, rfl, hi, hacc, HR⟩ := hrel
    obtain ⟨vo, rfl⟩ : ∃ v : Value, v = u3 := ⟨_, rfl⟩
    have hBr := HR.out.2.1.size
    by_cases hlt : i < n
    · obtain ⟨x, hx⟩ := some_at (l := l) (k := i) (by have := HN.out; omega)
      have i1 : i < (bstr l).size := by rw [hsz]; exact hlt
      have hxa : (bstr l)[i]'i1 = x := bstr_at hx _
      have hdrop : l.drop i = x :: l.drop (i + 1) := by
        have h2 := (List.getElem?_eq_some_iff.1 hx).1
        have h3 : l[i] = x := Option.some.inj ((List.getElem?_eq_getElem h2).symm.trans hx)
        rw [List.drop_eq_getElem_cons h2, h3]
      have hq := HR.out.2.2
      rw [hdrop] at hq
      change acc ++ (qOne x ++ quoteL (l.drop (i + 1))) = quoteL l at hq
      rw [← List.append_assoc] at hq
      have HQ := Lib.hid hq
      have hlk : (i : Int) < (n : Int) := by omega
      obtain ⟨z, hz⟩ : ∃ z : Int, ((x.toNat : Nat) : Int) = z := ⟨_, rfl⟩
      have hqm := qm_iff x hz
      have HZ := Lib.hid hz
      have HO := Lib.hid HR.out.1
      clear hx hdrop hq
      by_cases c92 : z = 92
      · subst c92
        have e : qOne x = [92, x] := by unfold qOne; rw [hqm]; rfl
        have HE := Lib.hid e
        clear hqm e
        go_wp2_with (first | (at_builtin; (with_reducible show wpList _ _ _ (Oper.mk (some 26) _ _ _ _ _ :: _) _ _); refine appSep rfl _ _ rfl Tryd.underlying107 (.int .u8 0) 1 1 infoB8 rfl (by decide) (by decide) w.heap.size wr vo acc.length (acc.map B8) [.int .u8 92] rfl (by intro u hu; simp only [List.mem_singleton] at hu; subst hu; rfl) rfl HO.out rfl rfl (by omega) hBr ?_; intro v6 w6 hp6; obtain ⟨ac2, hac2⟩ : ∃ a2 : List UInt8, a2 = acc ++ [92] := ⟨_, rfl⟩; have h6 : BOwn w.heap.size v6 ac2 w6 := (by rw [hac2]; exact BOwn.push hp6.1); have HAC := Lib.hid hac2; clear hac2; have b6 := HR.out.2.1.trans (hp6.below HO.out hBr); have H6 := Lib.hid h6; have B6 := Lib.hid b6; clear hp6 h6 b6) | (at_builtin; (with_reducible show wpList _ _ _ (Oper.mk (some 32) _ _ _ _ _ :: _) _ _); refine appSep rfl _ _ rfl Tryd.underlying107 (.int .u8 0) 1 1 infoB8 rfl (by decide) (by decide) w.heap.size w6 v6 ac2.length (ac2.map B8) [.int .u8 92] rfl (by intro u hu; simp only [List.mem_singleton] at hu; subst hu; rfl) rfl H6.out rfl rfl (by rw [HAC.out, List.length_append, List.length_singleton]; omega) B6.out.size ?_; intro v8 w8 hp8; have hp9 : w8.ownsRow w.heap.size 5 1 v8 (ac2.length + 1) (ac2.map B8 ++ [B8 x]) := (by have := hp8.1; unfold B8; rw [HZ.out]; exact this); have h8 : BOwn w.heap.size v8 (ac2 ++ [x]) w8 := BOwn.push hp9; have b8 := B6.out.trans (hp8.below H6.out B6.out.size); have H8 := Lib.hid h8; have B8' := Lib.hid b8; clear hp8 hp9 h8 b8))
        go_roundw
        case rel => exact ⟨i + 1, acc ++ qOne x, by go_num, by omega, by rw [HE.out, List.length_append]; simp; omega, Lib.hid ⟨by rw [HE.out]; have := H8.out; first | exact this | (rw [HAC.out, List.append_assoc] at this; exact this), B8'.out, HQ.out⟩⟩
        case measure => simp [RowKit.intOf]; omega
      have e92 : (z == 92) = false := by rw [beq_eq_false_iff_ne]; exact c92
      by_cases c91 : z = 91
      · subst c91
        have e : qOne x = [92, x] := by unfold qOne; rw [hqm]; rfl
        have HE := Lib.hid e
        clear hqm e
        go_wp2_with (first | (at_builtin; (with_reducible show wpList _ _ _ (Oper.mk (some 26) _ _ _ _ _ :: _) _ _); refine appSep rfl _ _ rfl Tryd.underlying107 (.int .u8 0) 1 1 infoB8 rfl (by decide) (by decide) w.heap.size wr vo acc.length (acc.map B8) [.int .u8 92] rfl (by intro u hu; simp only [List.mem_singleton] at hu; subst hu; rfl) rfl HO.out rfl rfl (by omega) hBr ?_; intro v6 w6 hp6; obtain ⟨ac2, hac2⟩ : ∃ a2 : List UInt8, a2 = acc ++ [92] := ⟨_, rfl⟩; have h6 : BOwn w.heap.size v6 ac2 w6 := (by rw [hac2]; exact BOwn.push hp6.1); have HAC := Lib.hid hac2; clear hac2; have b6 := HR.out.2.1.trans (hp6.below HO.out hBr); have H6 := Lib.hid h6; have B6 := Lib.hid b6; clear hp6 h6 b6) | (at_builtin; (with_reducible show wpList _ _ _ (Oper.mk (some 32) _ _ _ _ _ :: _) _ _); refine appSep rfl _ _ rfl Tryd.underlying107 (.int .u8 0) 1 1 infoB8 rfl (by decide) (by decide) w.heap.size w6 v6 ac2.length (ac2.map B8) [.int .u8 91] rfl (by intro u hu; simp only [List.mem_singleton] at hu; subst hu; rfl) rfl H6.out rfl rfl (by rw [HAC.out, List.length_append, List.length_singleton]; omega) B6.out.size ?_; intro v8 w8 hp8; have hp9 : w8.ownsRow w.heap.size 5 1 v8 (ac2.length + 1) (ac2.map B8 ++ [B8 x]) := (by have := hp8.1; unfold B8; rw [HZ.out]; exact this); have h8 : BOwn w.heap.size v8 (ac2 ++ [x]) w8 := BOwn.push hp9; have b8 := B6.out.trans (hp8.below H6.out B6.out.size); have H8 := Lib.hid h8; have B8' := Lib.hid b8; clear hp8 hp9 h8 b8))
        go_roundw
        case rel => exact ⟨i + 1, acc ++ qOne x, by go_num, by omega, by rw [HE.out, List.length_append]; simp; omega, Lib.hid ⟨by rw [HE.out]; have := H8.out; first | exact this | (rw [HAC.out, List.append_assoc] at this; exact this), B8'.out, HQ.out⟩⟩
        case measure => simp [RowKit.intOf]; omega
      have e91 : (z == 91) = false := by rw [beq_eq_false_iff_ne]; exact c91
      by_cases c93 : z = 93
      · subst c93
        have e : qOne x = [92, x] := by unfold qOne; rw [hqm]; rfl
        have HE := Lib.hid e
        clear hqm e
        go_wp2_with (first | (at_builtin; (with_reducible show wpList _ _ _ (Oper.mk (some 26) _ _ _ _ _ :: _) _ _); refine appSep rfl _ _ rfl Tryd.underlying107 (.int .u8 0) 1 1 infoB8 rfl (by decide) (by decide) w.heap.size wr vo acc.length (acc.map B8) [.int .u8 92] rfl (by intro u hu; simp only [List.mem_singleton] at hu; subst hu; rfl) rfl HO.out rfl rfl (by omega) hBr ?_; intro v6 w6 hp6; obtain ⟨ac2, hac2⟩ : ∃ a2 : List UInt8, a2 = acc ++ [92] := ⟨_, rfl⟩; have h6 : BOwn w.heap.size v6 ac2 w6 := (by rw [hac2]; exact BOwn.push hp6.1); have HAC := Lib.hid hac2; clear hac2; have b6 := HR.out.2.1.trans (hp6.below HO.out hBr); have H6 := Lib.hid h6; have B6 := Lib.hid b6; clear hp6 h6 b6) | (at_builtin; (with_reducible show wpList _ _ _ (Oper.mk (some 32) _ _ _ _ _ :: _) _ _); refine appSep rfl _ _ rfl Tryd.underlying107 (.int .u8 0) 1 1 infoB8 rfl (by decide) (by decide) w.heap.size w6 v6 ac2.length (ac2.map B8) [.int .u8 93] rfl (by intro u hu; simp only [List.mem_singleton] at hu; subst hu; rfl) rfl H6.out rfl rfl (by rw [HAC.out, List.length_append, List.length_singleton]; omega) B6.out.size ?_; intro v8 w8 hp8; have hp9 : w8.ownsRow w.heap.size 5 1 v8 (ac2.length + 1) (ac2.map B8 ++ [B8 x]) := (by have := hp8.1; unfold B8; rw [HZ.out]; exact this); have h8 : BOwn w.heap.size v8 (ac2 ++ [x]) w8 := BOwn.push hp9; have b8 := B6.out.trans (hp8.below H6.out B6.out.size); have H8 := Lib.hid h8; have B8' := Lib.hid b8; clear hp8 hp9 h8 b8))
        go_roundw
        case rel => exact ⟨i + 1, acc ++ qOne x, by go_num, by omega, by rw [HE.out, List.length_append]; simp; omega, Lib.hid ⟨by rw [HE.out]; have := H8.out; first | exact this | (rw [HAC.out, List.append_assoc] at this; exact this), B8'.out, HQ.out⟩⟩
        case measure => simp [RowKit.intOf]; omega
      have e93 : (z == 93) = false := by rw [beq_eq_false_iff_ne]; exact c93
      by_cases c42 : z = 42
      · subst c42
        have e : qOne x = [92, x] := by unfold qOne; rw [hqm]; rfl
        have HE := Lib.hid e
        clear hqm e
        go_wp2_with (first | (at_builtin; (with_reducible show wpList _ _ _ (Oper.mk (some 26) _ _ _ _ _ :: _) _ _); refine appSep rfl _ _ rfl Tryd.underlying107 (.int .u8 0) 1 1 infoB8 rfl (by decide) (by decide) w.heap.size wr vo acc.length (acc.map B8) [.int .u8 92] rfl (by intro u hu; simp only [List.mem_singleton] at hu; subst hu; rfl) rfl HO.out rfl rfl (by omega) hBr ?_; intro v6 w6 hp6; obtain ⟨ac2, hac2⟩ : ∃ a2 : List UInt8, a2 = acc ++ [92] := ⟨_, rfl⟩; have h6 : BOwn w.heap.size v6 ac2 w6 := (by rw [hac2]; exact BOwn.push hp6.1); have HAC := Lib.hid hac2; clear hac2; have b6 := HR.out.2.1.trans (hp6.below HO.out hBr); have H6 := Lib.hid h6; have B6 := Lib.hid b6; clear hp6 h6 b6) | (at_builtin; (with_reducible show wpList _ _ _ (Oper.mk (some 32) _ _ _ _ _ :: _) _ _); refine appSep rfl _ _ rfl Tryd.underlying107 (.int .u8 0) 1 1 infoB8 rfl (by decide) (by decide) w.heap.size w6 v6 ac2.length (ac2.map B8) [.int .u8 42] rfl (by intro u hu; simp only [List.mem_singleton] at hu; subst hu; rfl) rfl H6.out rfl rfl (by rw [HAC.out, List.length_append, List.length_singleton]; omega) B6.out.size ?_; intro v8 w8 hp8; have hp9 : w8.ownsRow w.heap.size 5 1 v8 (ac2.length + 1) (ac2.map B8 ++ [B8 x]) := (by have := hp8.1; unfold B8; rw [HZ.out]; exact this); have h8 : BOwn w.heap.size v8 (ac2 ++ [x]) w8 := BOwn.push hp9; have b8 := B6.out.trans (hp8.below H6.out B6.out.size); have H8 := Lib.hid h8; have B8' := Lib.hid b8; clear hp8 hp9 h8 b8))
        go_roundw
        case rel => exact ⟨i + 1, acc ++ qOne x, by go_num, by omega, by rw [HE.out, List.length_append]; simp; omega, Lib.hid ⟨by rw [HE.out]; have := H8.out; first | exact this | (rw [HAC.out, List.append_assoc] at this; exact this), B8'.out, HQ.out⟩⟩
        case measure => simp [RowKit.intOf]; omega
      have e42 : (z == 42) = false := by rw [beq_eq_false_iff_ne]; exact c42
      by_cases c43 : z = 43
      · subst c43
        have e : qOne x = [92, x] := by unfold qOne; rw [hqm]; rfl
        have HE := Lib.hid e
        clear hqm e
        go_wp2_with (first | (at_builtin; (with_reducible show wpList _ _ _ (Oper.mk (some 26) _ _ _ _ _ :: _) _ _); refine appSep rfl _ _ rfl Tryd.underlying107 (.int .u8 0) 1 1 infoB8 rfl (by decide) (by decide) w.heap.size wr vo acc.length (acc.map B8) [.int .u8 92] rfl (by intro u hu; simp only [List.mem_singleton] at hu; subst hu; rfl) rfl HO.out rfl rfl (by omega) hBr ?_; intro v6 w6 hp6; obtain ⟨ac2, hac2⟩ : ∃ a2 : List UInt8, a2 = acc ++ [92] := ⟨_, rfl⟩; have h6 : BOwn w.heap.size v6 ac2 w6 := (by rw [hac2]; exact BOwn.push hp6.1); have HAC := Lib.hid hac2; clear hac2; have b6 := HR.out.2.1.trans (hp6.below HO.out hBr); have H6 := Lib.hid h6; have B6 := Lib.hid b6; clear hp6 h6 b6) | (at_builtin; (with_reducible show wpList _ _ _ (Oper.mk (some 32) _ _ _ _ _ :: _) _ _); refine appSep rfl _ _ rfl Tryd.underlying107 (.int .u8 0) 1 1 infoB8 rfl (by decide) (by decide) w.heap.size w6 v6 ac2.length (ac2.map B8) [.int .u8 43] rfl (by intro u hu; simp only [List.mem_singleton] at hu; subst hu; rfl) rfl H6.out rfl rfl (by rw [HAC.out, List.length_append, List.length_singleton]; omega) B6.out.size ?_; intro v8 w8 hp8; have hp9 : w8.ownsRow w.heap.size 5 1 v8 (ac2.length + 1) (ac2.map B8 ++ [B8 x]) := (by have := hp8.1; unfold B8; rw [HZ.out]; exact this); have h8 : BOwn w.heap.size v8 (ac2 ++ [x]) w8 := BOwn.push hp9; have b8 := B6.out.trans (hp8.below H6.out B6.out.size); have H8 := Lib.hid h8; have B8' := Lib.hid b8; clear hp8 hp9 h8 b8))
        go_roundw
        case rel => exact ⟨i + 1, acc ++ qOne x, by go_num, by omega, by rw [HE.out, List.length_append]; simp; omega, Lib.hid ⟨by rw [HE.out]; have := H8.out; first | exact this | (rw [HAC.out, List.append_assoc] at this; exact this), B8'.out, HQ.out⟩⟩
        case measure => simp [RowKit.intOf]; omega
      have e43 : (z == 43) = false := by rw [beq_eq_false_iff_ne]; exact c43
      by_cases c63 : z = 63
      · subst c63
        have e : qOne x = [92, x] := by unfold qOne; rw [hqm]; rfl
        have HE := Lib.hid e
        clear hqm e
        go_wp2_with (first | (at_builtin; (with_reducible show wpList _ _ _ (Oper.mk (some 26) _ _ _ _ _ :: _) _ _); refine appSep rfl _ _ rfl Tryd.underlying107 (.int .u8 0) 1 1 infoB8 rfl (by decide) (by decide) w.heap.size wr vo acc.length (acc.map B8) [.int .u8 92] rfl (by intro u hu; simp only [List.mem_singleton] at hu; subst hu; rfl) rfl HO.out rfl rfl (by omega) hBr ?_; intro v6 w6 hp6; obtain ⟨ac2, hac2⟩ : ∃ a2 : List UInt8, a2 = acc ++ [92] := ⟨_, rfl⟩; have h6 : BOwn w.heap.size v6 ac2 w6 := (by rw [hac2]; exact BOwn.push hp6.1); have HAC := Lib.hid hac2; clear hac2; have b6 := HR.out.2.1.trans (hp6.below HO.out hBr); have H6 := Lib.hid h6; have B6 := Lib.hid b6; clear hp6 h6 b6) | (at_builtin; (with_reducible show wpList _ _ _ (Oper.mk (some 32) _ _ _ _ _ :: _) _ _); refine appSep rfl _ _ rfl Tryd.underlying107 (.int .u8 0) 1 1 infoB8 rfl (by decide) (by decide) w.heap.size w6 v6 ac2.length (ac2.map B8) [.int .u8 63] rfl (by intro u hu; simp only [List.mem_singleton] at hu; subst hu; rfl) rfl H6.out rfl rfl (by rw [HAC.out, List.length_append, List.length_singleton]; omega) B6.out.size ?_; intro v8 w8 hp8; have hp9 : w8.ownsRow w.heap.size 5 1 v8 (ac2.length + 1) (ac2.map B8 ++ [B8 x]) := (by have := hp8.1; unfold B8; rw [HZ.out]; exact this); have h8 : BOwn w.heap.size v8 (ac2 ++ [x]) w8 := BOwn.push hp9; have b8 := B6.out.trans (hp8.below H6.out B6.out.size); have H8 := Lib.hid h8; have B8' := Lib.hid b8; clear hp8 hp9 h8 b8))
        go_roundw
        case rel => exact ⟨i + 1, acc ++ qOne x, by go_num, by omega, by rw [HE.out, List.length_append]; simp; omega, Lib.hid ⟨by rw [HE.out]; have := H8.out; first | exact this | (rw [HAC.out, List.append_assoc] at this; exact this), B8'.out, HQ.out⟩⟩
        case measure => simp [RowKit.intOf]; omega
      have e63 : (z == 63) = false := by rw [beq_eq_false_iff_ne]; exact c63
      by_cases c94 : z = 94
      · subst c94
        have e : qOne x = [92, x] := by unfold qOne; rw [hqm]; rfl
        have HE := Lib.hid e
        clear hqm e
        go_wp2_with (first | (at_builtin; (with_reducible show wpList _ _ _ (Oper.mk (some 26) _ _ _ _ _ :: _) _ _); refine appSep rfl _ _ rfl Tryd.underlying107 (.int .u8 0) 1 1 infoB8 rfl (by decide) (by decide) w.heap.size wr vo acc.length (acc.map B8) [.int .u8 92] rfl (by intro u hu; simp only [List.mem_singleton] at hu; subst hu; rfl) rfl HO.out rfl rfl (by omega) hBr ?_; intro v6 w6 hp6; obtain ⟨ac2, hac2⟩ : ∃ a2 : List UInt8, a2 = acc ++ [92] := ⟨_, rfl⟩; have h6 : BOwn w.heap.size v6 ac2 w6 := (by rw [hac2]; exact BOwn.push hp6.1); have HAC := Lib.hid hac2; clear hac2; have b6 := HR.out.2.1.trans (hp6.below HO.out hBr); have H6 := Lib.hid h6; have B6 := Lib.hid b6; clear hp6 h6 b6) | (at_builtin; (with_reducible show wpList _ _ _ (Oper.mk (some 32) _ _ _ _ _ :: _) _ _); refine appSep rfl _ _ rfl Tryd.underlying107 (.int .u8 0) 1 1 infoB8 rfl (by decide) (by decide) w.heap.size w6 v6 ac2.length (ac2.map B8) [.int .u8 94] rfl (by intro u hu; simp only [List.mem_singleton] at hu; subst hu; rfl) rfl H6.out rfl rfl (by rw [HAC.out, List.length_append, List.length_singleton]; omega) B6.out.size ?_; intro v8 w8 hp8; have hp9 : w8.ownsRow w.heap.size 5 1 v8 (ac2.length + 1) (ac2.map B8 ++ [B8 x]) := (by have := hp8.1; unfold B8; rw [HZ.out]; exact this); have h8 : BOwn w.heap.size v8 (ac2 ++ [x]) w8 := BOwn.push hp9; have b8 := B6.out.trans (hp8.below H6.out B6.out.size); have H8 := Lib.hid h8; have B8' := Lib.hid b8; clear hp8 hp9 h8 b8))
        go_roundw
        case rel => exact ⟨i + 1, acc ++ qOne x, by go_num, by omega, by rw [HE.out, List.length_append]; simp; omega, Lib.hid ⟨by rw [HE.out]; have := H8.out; first | exact this | (rw [HAC.out, List.append_assoc] at this; exact this), B8'.out, HQ.out⟩⟩
        case measure => simp [RowKit.intOf]; omega
      have e94 : (z == 94) = false := by rw [beq_eq_false_iff_ne]; exact c94
      by_cases c36 : z = 36
      · subst c36
        have e : qOne x = [92, x] := by unfold qOne; rw [hqm]; rfl
        have HE := Lib.hid e
        clear hqm e
        go_wp2_with (first | (at_builtin; (with_reducible show wpList _ _ _ (Oper.mk (some 26) _ _ _ _ _ :: _) _ _); refine appSep rfl _ _ rfl Tryd.underlying107 (.int .u8 0) 1 1 infoB8 rfl (by decide) (by decide) w.heap.size wr vo acc.length (acc.map B8) [.int .u8 92] rfl (by intro u hu; simp only [List.mem_singleton] at hu; subst hu; rfl) rfl HO.out rfl rfl (by omega) hBr ?_; intro v6 w6 hp6; obtain ⟨ac2, hac2⟩ : ∃ a2 : List UInt8, a2 = acc ++ [92] := ⟨_, rfl⟩; have h6 : BOwn w.heap.size v6 ac2 w6 := (by rw [hac2]; exact BOwn.push hp6.1); have HAC := Lib.hid hac2; clear hac2; have b6 := HR.out.2.1.trans (hp6.below HO.out hBr); have H6 := Lib.hid h6; have B6 := Lib.hid b6; clear hp6 h6 b6) | (at_builtin; (with_reducible show wpList _ _ _ (Oper.mk (some 32) _ _ _ _ _ :: _) _ _); refine appSep rfl _ _ rfl Tryd.underlying107 (.int .u8 0) 1 1 infoB8 rfl (by decide) (by decide) w.heap.size w6 v6 ac2.length (ac2.map B8) [.int .u8 36] rfl (by intro u hu; simp only [List.mem_singleton] at hu; subst hu; rfl) rfl H6.out rfl rfl (by rw [HAC.out, List.length_append, List.length_singleton]; omega) B6.out.size ?_; intro v8 w8 hp8; have hp9 : w8.ownsRow w.heap.size 5 1 v8 (ac2.length + 1) (ac2.map B8 ++ [B8 x]) := (by have := hp8.1; unfold B8; rw [HZ.out]; exact this); have h8 : BOwn w.heap.size v8 (ac2 ++ [x]) w8 := BOwn.push hp9; have b8 := B6.out.trans (hp8.below H6.out B6.out.size); have H8 := Lib.hid h8; have B8' := Lib.hid b8; clear hp8 hp9 h8 b8))
        go_roundw
        case rel => exact ⟨i + 1, acc ++ qOne x, by go_num, by omega, by rw [HE.out, List.length_append]; simp; omega, Lib.hid ⟨by rw [HE.out]; have := H8.out; first | exact this | (rw [HAC.out, List.append_assoc] at this; exact this), B8'.out, HQ.out⟩⟩
        case measure => simp [RowKit.intOf]; omega
      have e36 : (z == 36) = false := by rw [beq_eq_false_iff_ne]; exact c36
      by_cases c46 : z = 46
      · subst c46
        have e : qOne x = [92, x] := by unfold qOne; rw [hqm]; rfl
        have HE := Lib.hid e
        clear hqm e
        go_wp2_with (first | (at_builtin; (with_reducible show wpList _ _ _ (Oper.mk (some 26) _ _ _ _ _ :: _) _ _); refine appSep rfl _ _ rfl Tryd.underlying107 (.int .u8 0) 1 1 infoB8 rfl (by decide) (by decide) w.heap.size wr vo acc.length (acc.map B8) [.int .u8 92] rfl (by intro u hu; simp only [List.mem_singleton] at hu; subst hu; rfl) rfl HO.out rfl rfl (by omega) hBr ?_; intro v6 w6 hp6; obtain ⟨ac2, hac2⟩ : ∃ a2 : List UInt8, a2 = acc ++ [92] := ⟨_, rfl⟩; have h6 : BOwn w.heap.size v6 ac2 w6 := (by rw [hac2]; exact BOwn.push hp6.1); have HAC := Lib.hid hac2; clear hac2; have b6 := HR.out.2.1.trans (hp6.below HO.out hBr); have H6 := Lib.hid h6; have B6 := Lib.hid b6; clear hp6 h6 b6) | (at_builtin; (with_reducible show wpList _ _ _ (Oper.mk (some 32) _ _ _ _ _ :: _) _ _); refine appSep rfl _ _ rfl Tryd.underlying107 (.int .u8 0) 1 1 infoB8 rfl (by decide) (by decide) w.heap.size w6 v6 ac2.length (ac2.map B8) [.int .u8 46] rfl (by intro u hu; simp only [List.mem_singleton] at hu; subst hu; rfl) rfl H6.out rfl rfl (by rw [HAC.out, List.length_append, List.length_singleton]; omega) B6.out.size ?_; intro v8 w8 hp8; have hp9 : w8.ownsRow w.heap.size 5 1 v8 (ac2.length + 1) (ac2.map B8 ++ [B8 x]) := (by have := hp8.1; unfold B8; rw [HZ.out]; exact this); have h8 : BOwn w.heap.size v8 (ac2 ++ [x]) w8 := BOwn.push hp9; have b8 := B6.out.trans (hp8.below H6.out B6.out.size); have H8 := Lib.hid h8; have B8' := Lib.hid b8; clear hp8 hp9 h8 b8))
        go_roundw
        case rel => exact ⟨i + 1, acc ++ qOne x, by go_num, by omega, by rw [HE.out, List.length_append]; simp; omega, Lib.hid ⟨by rw [HE.out]; have := H8.out; first | exact this | (rw [HAC.out, List.append_assoc] at this; exact this), B8'.out, HQ.out⟩⟩
        case measure => simp [RowKit.intOf]; omega
      have e46 : (z == 46) = false := by rw [beq_eq_false_iff_ne]; exact c46
      have hqf : qm x = false := by rw [hqm, e46, e91, e93, e42, e43, e63, e94, e36, e92]; rfl
      have e : qOne x = [x] := by unfold qOne; rw [hqf]; rfl
      have HE := Lib.hid e
      clear hqm e
      go_wp2_with (at_builtin; (with_reducible show wpList _ _ _ (Oper.mk (some 32) _ _ _ _ _ :: _) _ _); refine appSep rfl _ _ rfl Tryd.underlying107 (.int .u8 0) 1 1 infoB8 rfl (by decide) (by decide) w.heap.size wr vo acc.length (acc.map B8) [.int .u8 z] rfl (by intro u hu; simp only [List.mem_singleton] at hu; subst hu; rfl) rfl HO.out rfl rfl (by omega) hBr ?_; intro v8 w8 hp8; have hp9 : w8.ownsRow w.heap.size 5 1 v8 (acc.length + 1) (acc.map B8 ++ [B8 x]) := (by have := hp8.1; unfold B8; rw [HZ.out]; exact this); have h8 : BOwn w.heap.size v8 (acc ++ [x]) w8 := BOwn.push hp9; have b8 := HR.out.2.1.trans (hp8.below HO.out hBr); have H8 := Lib.hid h8; have B8' := Lib.hid b8; clear hp8 hp9 h8 b8)
      go_roundw
      case rel => exact ⟨i + 1, acc ++ qOne x, by go_num, by omega, by rw [HE.out, List.length_append]; simp; omega, Lib.hid ⟨by rw [HE.out]; have := H8.out; first | exact this | (rw [HAC.out, List.append_assoc] at this; exact this), B8'.out, HQ.out⟩⟩
      case measure => simp [RowKit.intOf]; omega
    · obtain rfl : i = n := by omega
      have hq := HR.out.2.2
      rw [List.drop_of_length_le (by rw [HN.out]; exact Nat.le_refl _)] at hq
      change acc ++ [] = quoteL l at hq
      rw [List.append_nil] at hq
      have HQ := Lib.hid hq
      have hcv := HR.out.1.conv
      have hnl : ¬ (i : Int) < (i : Int) := by omega
      clear hq hlt hi
      go_wp2_with fail
      go_ret
      rw [← HQ.out]
      exact ⟨rfl, HR.out.2.1⟩
end Go.Proofs.YtchdeboialbdiaaDoor
/- A text cut. -/
namespace Go.Proofs.YtchdeboialbdiaaDoor
set_option linter.unusedVariables false
set_option linter.unusedSimpArgs false
open Go.RowKit
open Go.Lib hiding intOf
theorem cutC (w : World) (l : List UInt8) (k : Nat) (hk : k ≤ 1048576) : Calls Tryd.prog 13 #[.string (bstr l), .int .i64 (k : Int)] w fun e w' => e = .returned (.string (bstr (l.take k))) ∧ w' = w := by
  by_cases h : k < l.length
  · have h1 : (k : Int) < (l.length : Int) := by omega
    have h2 : ¬ (l.length : Int) ≤ (k : Int) := by omega
    have h3 : (k : Int) ≤ (l.length : Int) := by omega
    obtain ⟨T, hT⟩ : ∃ T, l.take k = T := ⟨_, rfl⟩
    rw [hT]
    have hT2 : (l.drop 0).take (k - 0) = T := by rw [List.drop_zero, Nat.sub_zero]; exact hT
    go_enter Tryd.func13, Tryd.ntmps13
    go_wp2_with fail
    go_ret
    exact ⟨by first | rfl | (rw [← hT]; rfl), rfl⟩
  · have h1 : ¬ (k : Int) < (l.length : Int) := by omega
    have h2 : (l.length : Int) ≤ (k : Int) := by omega
    rw [List.take_of_length_le (by omega)]
    go_enter Tryd.func13, Tryd.ntmps13
    go_wp2_with fail
    go_ret
    exact ⟨rfl, rfl⟩
end Go.Proofs.YtchdeboialbdiaaDoor
/- SeekQuotes: of every text (its first 4096 bytes) the quoted form is the reference's; answers are new memory. -/
namespace Go.Proofs.YtchdeboialbdiaaDoor
set_option linter.unusedVariables false
set_option linter.unusedSimpArgs false
open Go.RowKit
open Go.Lib hiding intOf
set_option maxHeartbeats 8000000 in
set_option maxRecDepth 100000 in
theorem seekQuotes_walk (w : World) (l : List UInt8) (hm : l.length ≤ 140737488351232) (hT : Tabs w) :
    Calls Tryd.prog 5 #[.string (bstr l)] w fun e w' => e = .returned (.bool true) ∧ Below w.heap.size w w' := by
  have hL : (l.take 4096).length ≤ 67108864 := by rw [List.length_take]; omega
  have hCu : Calls Tryd.prog 13 #[.string (bstr l), .int .i64 4096] w fun e w' => e = .returned (.string (bstr (l.take 4096))) ∧ w' = w := cutC w l 4096 (by decide)
  obtain ⟨L, hLL⟩ : ∃ L, l.take 4096 = L := ⟨_, rfl⟩
  rw [hLL] at hL hCu
  have hQ := fun W => quoteC W L hL
  have hR := fun W => quoteR6 W L hL
  obtain ⟨Q, hQQ⟩ : ∃ Q, quoteL L = Q := ⟨_, rfl⟩
  rw [hQQ] at hQ hR
  have HCU := Lib.hid hCu
  have HQ := Lib.hid hQ
  have HR := Lib.hid hR
  have HT := Lib.hid hT
  have hqq : (Q == Q) = true := by simp
  clear hCu hQ hR hT hLL hQQ
  go_enter Tryd.func5, Tryd.ntmps5
  go_wp2_with (first
    | (go_at_call 13; with_reducible refine (HCU.out).mono ?_; rintro e w1 ⟨rfl, rfl⟩)
    | (go_at_call 24; refine (HQ.out _).mono ?_; rintro e w2 ⟨rfl, hb2⟩; have HB2 := Lib.hid hb2; clear hb2)
    | (go_at_call 25; refine (HR.out _).mono ?_; rintro e w3 ⟨rfl, hb3⟩; have HB3 := Lib.hid (HB2.out.trans (hb3.mono HB2.out.size)); clear hb3)
    | (go_at_call 12; refine (worksC _ (HT.out.next HB3.out)).mono ?_; rintro e w4 ⟨rfl, hb4⟩; have HB4 := Lib.hid (HB3.out.trans (hb4.mono HB3.out.size)); clear hb4))
  go_ret
  exact ⟨rfl, HB4.out⟩
end Go.Proofs.YtchdeboialbdiaaDoor
/- What the row's list gives: the tables in the world. -/
namespace Go.Proofs.YtchdeboialbdiaaDoor
set_option linter.unusedVariables false
set_option linter.unusedSimpArgs false
open Go.Lib Go.RowKit
theorem tab_cells {w : World} {n : String} {k : IntKind} {zs : List Int} {d : DataW Unit} (hd0 : d = tabData k zs) (h : VarReads Tryd.prog w n d) {g : Nat} {t e : TypeId} {m : Nat} (hg : Tryd.prog.globalNamed n = some g) (hty : (Tryd.prog.globals[g]?).map (·.type) = some t)
    (ht : Tryd.prog.underlying t = some (.array m e)) (he : Tryd.prog.underlying e = some (.int k)) (hce : Tryd.prog.cellsOf e = 1) (hct : Tryd.prog.cellsOf t = m) : TabIs Tryd.prog w n k zs := by
  subst hd0
  obtain ⟨g', t', cs, fuel, p, hg', ht', hvar, hd⟩ := h
  obtain rfl := Option.some.inj (hg.symm.trans hg')
  obtain rfl := Option.some.inj (hty.symm.trans ht')
  unfold TabIs
  rw [hvar, ← cells_of_tab ht he hce hct hd]
theorem first_data : Rows.laid_unicode_utf8_first = tabData .u8 firstTab := by kernel_rfl
theorem accept_data : (Rows.laid_unicode_utf8_acceptRanges : DataW Unit) = acceptData := by kernel_rfl
theorem tabs_of {l : List (String × DataW Unit)} {w : World} (h : laidMet Tryd.prog l w) (m1 : ("unicode/utf8.first", Rows.laid_unicode_utf8_first) ∈ l) (m2 : ("unicode/utf8.acceptRanges", Rows.laid_unicode_utf8_acceptRanges) ∈ l) : Tabs w := by
  have t1 : TabIs Tryd.prog w "unicode/utf8.first" .u8 firstTab := tab_cells first_data (laidMet.reads h m1) (g := 2) (t := 189) (e := 5) (by kernel_rfl) (by kernel_rfl) Tryd.underlying189 Tryd.underlying5 (by kernel_rfl) (by kernel_rfl)
  have key : ∀ i, i < 16 → w.cell? ⟨3, 2 * i, none⟩ = some (.int .u8 (accLo i : Int)) ∧ w.cell? ⟨3, 2 * i + 1, none⟩ = some (.int .u8 (accHi i : Int)) := fun i hi => by
    have h4 := laidMet.reads h m2
    rw [accept_data] at h4
    obtain ⟨g, t, cs, fuel, p, hg, hty, hvar, hd⟩ := h4
    obtain rfl := Option.some.inj ((show Tryd.prog.globalNamed "unicode/utf8.acceptRanges" = some 3 by kernel_rfl).symm.trans hg)
    obtain rfl := Option.some.inj ((show (Tryd.prog.globals[3]?).map (·.type) = some 193 by kernel_rfl).symm.trans hty)
    have c138 : Tryd.prog.cellsOf 192 = 2 := by kernel_rfl
    have c5 : Tryd.prog.cellsOf 5 = 1 := by kernel_rfl
    obtain ⟨fuel', d, q, hdi, he⟩ := array_elem Tryd.underlying193 hd i hi
    simp only [List.getElem?_map, List.getElem?_range hi, Option.map_some, Option.some.injEq] at hdi
    subst hdi
    rw [c138] at he
    have hcs := ints_of_struct Tryd.underlying192 (fun j f hj => by
      match j, hj with
      | 0, hj => simp at hj; subst hj; exact ⟨Tryd.underlying5, rfl, c5⟩
      | 1, hj => simp at hj; subst hj; exact ⟨Tryd.underlying5, rfl, c5⟩
      | j + 2, hj => simp at hj) (by rw [c138]; rfl) he
    have e0 := congrArg (·[0]?) hcs
    have e1 := congrArg (·[1]?) hcs
    simp only [List.getElem?_take, List.getElem?_drop] at e0 e1
    constructor
    · rw [World.var?_cell hg hvar (2 * i), ← Array.getElem?_toList]
      simpa [Nat.mul_comm] using e0
    · rw [World.var?_cell hg hvar (2 * i + 1), ← Array.getElem?_toList]
      simpa [Nat.mul_comm] using e1
  refine ⟨⟨fun c hc => ?_, fun i hi => ?_⟩, ?_⟩
  · have := t1.cell (g := 2) (by kernel_rfl) c (by simpa [firstTab] using hc)
    rw [this]
    simp [firstTab, List.getD, hc]
  · exact key i hi
  · have := World.block_lt_of_cell? w _ (key 0 (by decide)).1
    exact this
end Go.Proofs.YtchdeboialbdiaaDoor
