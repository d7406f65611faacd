/- CopyRows. -/
import Derived.Test.YtgcgbpehedkckaaCopyb
import Derived.Test.YtgcgbpehedkckaaRowsown
import Derived.Test.YtgcgbpehedkckaaIter
namespace Go.Proofs.Ytgcgbpehedkckaa
open Go.RowKit
theorem Try.infoSl8r : (Try.prog.info? 22).map (fun i => (i.zero, i.size, i.bytes)) = some (some (.slice none 0 0), 1, 24) := by kernel_rfl
set_option maxHeartbeats 1000000 in
theorem copyRows (w : World) (a : Option Addr) (n ca : Nat) (ll : List (List UInt8)) (ha : ReadsRows w a n ll) (hn : n ≤ 4294967296) (hm : ∀ l, l ∈ ll → l.length ≤ 140737488355328) :
    Calls Try.prog 32 #[.slice a n ca] w fun e w' => ∃ v vals, e = .returned v ∧ RowsOwn w.heap.size w' v vals ll ∧ Below w.heap.size w w' := by
  obtain ⟨i1, hi1, hy0, hy1, hy2⟩ := info_parts Try.infoSl8r
  have HL := Lib.hid ha.len
  have HM := Lib.hid hm
  have HA := Lib.hid ha
  clear hm ha
  go_enter Try.func32, Try.ntmps32
  go_wp2
  go_loopw [3, 4] (fun v x wr => ∃ (k : Nat) (vals : List Value), k ≤ n ∧ x = .int .i64 k ∧ Hid (RowsOwn w.heap.size wr v vals (ll.take k)) ∧ Hid (Below w.heap.size w wr) ∧ w.heap.size ≤ wr.heap.size) (fun _ x _ => n - (intOf x).toNat)
  case atStart => exact ⟨0, [], Nat.zero_le _, rfl, RowsOwn.nil _ _, Below.refl _ _, Nat.le_refl _⟩
  case round =>
    obtain ⟨k, vals, hk, rfl, HI, HB, zr⟩ := hrel
    obtain ⟨vg, rfl⟩ : ∃ vg : Value, vg = u3 := ⟨_, rfl⟩
    by_cases hlt : k < n
    · obtain ⟨b, o, a', l, c', rfl, hb, hx, hcx, hrl, hl1, hl2⟩ := (HA.out.keep HB.out (Nat.le_refl _)).at hlt
      have hll := HM.out l (List.mem_of_getElem? hx)
      have HX := Lib.hid hx
      have HRL := Lib.hid hrl
      have hvl : vals.length = k := by rw [HI.out.len, List.length_take, HL.out]; omega
      obtain ⟨aa, caa, hva, _, _, _⟩ := HI.out.reads
      rw [show (ll.take k).length = k from by rw [List.length_take, HL.out]; omega] at hva
      clear hx hrl
      go_wp2_with fail
      refine (copyBytes wr a' l.length c' l HRL.out (by omega)).mono ?_
      rintro e w2 ⟨v2, rfl, hown2, hb2⟩
      have HR2 := Lib.hid (HI.out.keepNone (grown_below hb2))
      obtain ⟨a4, c4, rfl, _, _, _⟩ := reads_of_own hown2
      have B2 := Lib.hid (HB.out.trans (hb2.mono zr))
      have z2 := hb2.size
      have HO2 := Lib.hid hown2
      subst hva
      have hxo := HR2.out.own
      rw [hvl] at hxo
      have HXO := Lib.hid hxo
      have HVL := Lib.hid hvl
      obtain ⟨m, hm⟩ : ∃ m, m = l.length := ⟨_, rfl⟩
      have HLM := Lib.hid hm
      clear hown2 hb2 hxo hvl hcx
      go_wp2_with (at_builtin; refine wpList_append_sep rfl _ _ 25 rfl w.heap.size 22 i1 (.slice none 0 0) 1 24 Try.underlying25 hi1 hy0 hy1 hy2 rfl (by decide) aa k caa vals rfl (HXO.out.alloc _) ⟨w2.heap.size, 0, none⟩ 1 1 [.slice a4 l.length c4] rfl rfl (cell_one_new _ _ _) (by simp [Value.oneCell']) (by unfold maxLen; omega) (by omega) (by simp; omega) ?_; intro v' w3 hown3 hgrow3 hsep3)
      have hpush := HR2.out.push (vg' := v') (news := [.slice a4 l.length c4]) (cn := [l]) hgrow3 (by rw [HVL.out]; exact hown3) rfl (fun i x l' h1 h2 => by
        match i, h1, h2 with
        | 0, h1, h2 => simp at h1 h2; subst h1; subst h2; exact own_mono_size HO2.out (by omega))
      rw [← take_next HX.out] at hpush
      have HP := Lib.hid hpush
      have B3 := Lib.hid ((B2.out.alloc (by omega) _).grown hgrow3 (by simp; omega) (fun b hb => (HXO.out.lt b hb).1))
      have z3 := hgrow3.size
      rw [World.size_alloc] at z3
      clear hpush hgrow3 hown3 hsep3
      go_roundw
      case rel => exact ⟨k + 1, _, by omega, by go_num, HP, B3, by omega⟩
      case measure => simp [intOf]; omega
    · obtain rfl : k = n := by omega
      have hfin := HI.out
      rw [List.take_of_length_le (by rw [HL.out]; exact Nat.le_refl _)] at hfin
      obtain ⟨aa, caa, rfl, _, _, _⟩ := hfin.reads
      have HF := Lib.hid hfin
      clear hfin
      go_wp2
      go_ret
      exact ⟨_, _, rfl, HF.out, HB.out⟩
end Go.Proofs.Ytgcgbpehedkckaa
