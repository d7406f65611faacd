/- ScanBack: all bytes come back out of their quoted text, which is a token of its own. -/
import Derived.Test.YtmhemahkcbgaoaaDoorWorks7
import Derived.Test.YtmhemahkcbgaoaaDoorUnqD
import Derived.Test.YtmhemahkcbgaoaaDoorScanT
import Derived.Test.YtmhemahkcbgaoaaDoorToks
namespace Go.Proofs.YtmhemahkcbgaoaaDoor
set_option linter.unusedVariables false
set_option linter.unusedSimpArgs false
open Go.RowKit
open Go.Lib hiding intOf
set_option maxHeartbeats 4000000 in
theorem scanBack_walk (w : World) (s : List UInt8) (hm : s.length ≤ 1048576) (hT : Tabs w) :
    Calls Tryd.prog 6 #[.string (bstr s)] w fun e w' => e = .returned (.bool true) ∧ Below w.heap.size w w' := by
  have HQ := Lib.hid (quoteC w s hm hT)
  have HT := Lib.hid hT
  obtain ⟨q, hq⟩ : ∃ q, quoteOf s = q := ⟨_, rfl⟩
  have hends := quote_ends s
  have hsafe := quote_safe s
  have hback := fun h => quote_back (s := s) h
  have hscan := fun h => quote_scan (s := s) h
  have hlen : q.length ≤ 8388620 := by
    rw [← hq]
    have := quo_len s (s.length + 1) 0
    unfold quoteOf
    simp only [List.length_cons, List.length_append, List.length_nil]
    omega
  rw [hq] at HQ hends hsafe hback hscan
  obtain ⟨h2, hx0, hx1⟩ := hends
  obtain ⟨n, hn⟩ : ∃ n, n = q.length := ⟨_, rfl⟩
  have hsz : (bstr q).size = n := by rw [bstr_size, hn]
  rw [← hn] at h2 hx1 hlen
  have i0 : 0 < (bstr q).size := by rw [hsz]; omega
  have i1 : n - 1 < (bstr q).size := by rw [hsz]; omega
  have ha0 : (bstr q)[0]'i0 = 34 := bstr_at hx0 i0
  have ha1 : (bstr q)[n - 1]'i1 = 34 := bstr_at hx1 i1
  have HN := Lib.hid hn
  have HSF := Lib.hid hsafe
  have HBK := Lib.hid hback
  have HSC := Lib.hid hscan
  clear hT hm hq hsafe hback hscan hx0 hx1 hn
  go_enter Tryd.func6, Tryd.ntmps6
  go_wp2_with (go_at_call 11; refine (HQ.out).mono ?_; rintro e w1 ⟨rfl, hb1⟩)
  go_loopw [4] (fun kv wr => ∃ k : Nat, k ≤ n ∧ kv = .int .i64 (k : Int) ∧ wr = w1) (fun kv _ => n - (RowKit.intOf kv).toNat)
  case atStart => exact ⟨0, Nat.zero_le _, rfl, rfl⟩
  case round =>
    obtain ⟨k, hkn, rfl, hww⟩ := hrel
    obtain rfl := hww.symm
    by_cases hlt : k < n
    · obtain ⟨x, hx⟩ := some_at (l := q) (k := k) (by rw [← HN.out]; exact hlt)
      have ik : k < (bstr q).size := by rw [hsz]; exact hlt
      have hxa : (bstr q)[k]'ik = x := bstr_at hx ik
      have hs := HSF.out x (List.mem_of_getElem? hx)
      have h32 : (32 : Int) ≤ (x.toNat : Int) := by have := hs.1; omega
      have h127 : ((x.toNat : Int) == 127) = false := nat_ne (b := 127) hs.2
      clear hx hs
      go_wp2
      go_roundw
      case rel => exact ⟨k + 1, by omega, by go_num, trivial⟩
      case measure => simp [RowKit.intOf]; omega
    · obtain rfl : k = n := by omega
      by_cases hl : 16384 < k
      · have HW := Lib.hid (worksC w1 (HT.out.next hb1))
        go_wp2_with (go_at_call 13; refine (HW.out).mono ?_; rintro e w3 ⟨rfl, hb3⟩)
        go_ret
        exact ⟨rfl, hb1.trans (hb3.mono hb1.size)⟩
      · have hU := unquoteC w1 q (by rw [← HN.out]; omega) (HT.out.next hb1)
        rw [HBK.out (by rw [← HN.out]; omega)] at hU
        have HU := Lib.hid hU
        have hSa := HSC.out (by rw [← HN.out]; omega)
        have HSA := Lib.hid hSa
        clear hU hSa
        go_upto_region 12 with (go_at_call 19; refine (HU.out).mono ?_; rintro e w2 ⟨t2, err2, rfl, hb2, rfl, rfl⟩)
        have hb3 := hb1.trans (hb2.mono hb1.size)
        have hS := scanC w2 q (by rw [← HN.out]; omega) (HT.out.next hb3)
        rw [HSA.out] at hS
        have HS := Lib.hid hS
        clear hS
        go_upto_region 13 with (go_at_call 18; refine (HS.out).mono ?_; rintro e w3 ⟨v, err, rfl, hb4, rfl, hO⟩; obtain ⟨a, c, hv, hR, _, _⟩ := readsT_own hO; change v = .slice a 1 c at hv; change ReadsT w3 a 1 [⟨3, 0, t2, 0⟩] at hR; subst hv)
        have hb5 := hb3.trans (hb4.mono hb3.size)
        obtain ⟨b, off, x0, rfl, hbl, hx0, p0, p1, p2, p3⟩ := hR.at (i := 0) (by decide)
        cases hx0
        simp only [Nat.zero_mul, Nat.add_zero] at p0 p1 p2 p3
        have HW := Lib.hid (worksC w3 (HT.out.next hb5))
        clear hR hO
        go_wp2_with (go_at_call 13; refine (HW.out).mono ?_; rintro e w4 ⟨rfl, hb6⟩)
        go_ret
        exact ⟨rfl, hb5.trans (hb6.mono hb5.size)⟩
end Go.Proofs.YtmhemahkcbgaoaaDoor
