/- The reference's hunk. -/
import Derived.Test.YtnbihjocdlpplaaDoorDHunk
namespace Go.Proofs.YtnbihjocdlpplaaDoor
set_option linter.unusedVariables false
set_option linter.unusedSimpArgs false
open Go.RowKit
open Go.Lib
theorem SW.slice {B : Nat} {w : World} {vo : Value} {hs : List HCell} {H : List Hk} {vals : List Wait} (h : SW B w vo hs H vals) {i : Nat} {v : Value} {L : List (List UInt8)} (hi : vals[i]? = some (v, L)) : ∃ a c, v = .slice a L.length c ∧ ReadsS w a L.length L ∧ L.length ≤ c ∧ c ≤ maxLen := by
  have hv : StrOwn B v L w := h.strs _ (List.mem_of_getElem? hi)
  obtain ⟨a, c, h1, h2, h3, h4⟩ := readsS_own hv
  exact ⟨a, c, h1, h2, h3, h4⟩
theorem AppPost.below {w w' : World} {B : Nat} {e : TypeId} {size n : Nat} {v v' : Value} {xs cs : List Value} (hp : AppPost w B e size v n xs cs v' w') (hown : w.ownsRow B e size v n xs) (hB : B ≤ w.heap.size) : Below B w w' :=
  (Below.refl B w).grown hp.2.1 hB (fun k hk => (hown.lt k hk).1)
set_option maxHeartbeats 4000000 in
theorem hunkR (w : World) (B : Nat) (vo v : Value) (hs : List HCell) (H : List Hk) (vals : List Wait) (i k : Nat) (L : List (List UInt8)) (h : SW B w vo hs H vals) (hB : B ≤ w.heap.size) (hi : vals[i]? = some (v, L)) (hH : H.length ≤ 1048576) :
    Calls Tryd.prog 46 #[vo, .int .i64 (k : Int), v] w fun e w' => ∃ vo' hs', e = .returned vo' ∧ SW B w' vo' hs' (putK k L H) (vals.set i (nilV, [])) ∧ B ≤ w'.heap.size ∧ Below B w w' := by
  obtain ⟨a, c, rfl, hr, hc1, hc2⟩ := h.slice hi
  have HS := Lib.hid h
  obtain ⟨n, hn⟩ : ∃ n, L.length = n := ⟨_, rfl⟩
  rw [hn] at hc1 hi hr ⊢
  have hcm : c ≤ 9223372036854775807 := by unfold maxLen at hc2; omega
  have hhl : hs.length ≤ 1048576 := by rw [h.len]; exact hH
  by_cases h0 : n = 0
  · subst h0
    have hL : L = [] := List.eq_nil_of_length_eq_zero hn
    clear hn h hr hi
    go_enter Tryd.func46, Tryd.ntmps46
    go_wp2
    go_ret
    refine ⟨vo, hs, rfl, ?_, hB, Below.refl _ _⟩
    rw [hL]
    exact HS.out.drop i
  · have hL : L ≠ [] := by rintro rfl; exact h0 hn.symm
    have hpk : putK k L H = H ++ [(k, L)] := by unfold putK; rw [if_neg hL]
    rw [hpk]
    have h0' : (n : Int) ≠ 0 := by omega
    have HI := Lib.hid hi
    have HC := Lib.hid (⟨hc1, hc2⟩ : n ≤ c ∧ c ≤ maxLen)
    clear hpk hL hn h hr hi h0
    go_enter Tryd.func46, Tryd.ntmps46
    go_wp2_with (at_builtin; refine appSep rfl _ _ rfl Tryd.underlying22 (.agg #[.int .i64 0, .slice none 0 0]) 2 32 infoHunk rfl (by decide) (by decide) B w vo hs.length (hs.flatMap hkCells) (hkCells (k, a, n, c)) rfl (hkCells_one _) rfl HS.out.own rfl rfl (by omega) hB ?_; intro v8 w8 hp8; have HP := Lib.hid hp8; clear hp8)
    go_ret
    obtain ⟨r1, r2⟩ := HS.out.hunk hB HI.out HC.out HP.out
    exact ⟨v8, _, rfl, r1, r2, HP.out.below HS.out.own hB⟩
end Go.Proofs.YtnbihjocdlpplaaDoor
